/- Contracts: the arena's Top, place. -/
import Derived.Test.YtdeaficdfooegaaDoorArena
import Derived.Outline
namespace Go.Proofs.YtdeaficdfooegaaDoor
open Go.RowKit
set_option linter.unusedVariables false

theorem topM_eq (c : Cells) (x : Int) : topM c x = match getM c x with | some n => n.1 | none => 24 := rfl

set_option maxRecDepth 100000 in
set_option maxHeartbeats 1000000 in
theorem top_any (x : Int) (w : World) (b : Bk) (c : Cells) (ha : IsArena w b c) (hx : x ≤ 9223372036854775807) :
    Calls Tryd.prog 51 #[.pointer (some ⟨b.p, 0, none⟩), .int .i64 x] w fun e w' => e = .returned (.int .i64 (topM c x)) ∧ Below w.heap.size w w' := by
  have Ha := Lib.hid ha; clear ha
  rw [topM_eq]
  have hg := get_any x w b c Ha.out hx
  cases e1 : getM c x with
  | none =>
    rw [e1] at hg
    have Hg := Lib.hid hg; clear hg
    have E1 := Lib.hid e1; clear e1
    go_enter Tryd.func51, Tryd.ntmps51
    go_wp2_with (go_at_call 54; refine Hg.out.mono ?_; rintro e w' ⟨rfl, rfl⟩; simp only [gotV, encNd, Option.getD_none, Option.isSome_none])
    go_ret
    exact ⟨rfl, ((Below.refl _ _).alloc (Nat.le_refl _) _).alloc (by simp) _⟩
  | some n =>
    obtain ⟨a, l, h⟩ := n
    rw [e1] at hg
    have Hg := Lib.hid hg; clear hg
    have E1 := Lib.hid e1; clear e1
    go_enter Tryd.func51, Tryd.ntmps51
    go_wp2_with (go_at_call 54; refine Hg.out.mono ?_; rintro e w' ⟨rfl, rfl⟩; simp only [gotV, encNd, Option.getD_some, Option.isSome_some])
    go_ret
    exact ⟨rfl, ((Below.refl _ _).alloc (Nat.le_refl _) _).alloc (by simp) _⟩

theorem u64_nonneg (x : Int) : 0 ≤ IntKind.u64.wrap x := by
  simp only [IntKind.wrap, IntKind.signed, IntKind.bits]; simp; omega
theorem start_eq (x : Int) (R : Nat) (hR : R ≤ 4000) : wrap64 ((IntKind.u64.wrap x).tmod (2 * (R : Int) + 1)) = (((IntKind.u64.wrap x).toNat % (2 * R + 1) : Nat) : Int) := by
  have h := u64_nonneg x
  generalize IntKind.u64.wrap x = y at h
  obtain ⟨m, rfl⟩ := Int.eq_ofNat_of_zero_le h
  rw [Int.tmod_eq_emod_of_nonneg (by omega), Int.toNat_natCast]
  rw [show (2 * (R : Int) + 1) = ((2 * R + 1 : Nat) : Int) by omega, ← Int.natCast_emod]
  have := Nat.mod_lt m (show 0 < 2 * R + 1 by omega)
  rw [IntWalk.wrap64_in _ ⟨by omega, by omega⟩]
theorem step_eq (i R : Nat) : ((i : Int) + 1) % (2 * (R : Int) + 1) = (((i + 1) % (2 * R + 1) : Nat) : Int) := by
  rw [Int.natCast_emod]; norm_cast

set_option maxRecDepth 100000 in
set_option maxHeartbeats 2000000 in
theorem place_any (n : Nd) (w : World) (b : Bk) (nodes : Nat → Nd) (used : Nat → Bool) (tab : List Int) (many : Int) (S : Nat → Prop) (hat : ArAt w b.p b.bn b.bu b.bt b.R nodes used tab many)
    (hR : b.R ≤ 4000) (hl : tab.length = 2 * b.R + 1) (ht : TabOK (hsh (2 * b.R + 1)) nodes S tab) (hS : ∀ k, S k → k < b.R) :
    Calls Tryd.prog 136 #[.pointer (some ⟨b.p, 0, none⟩), encNd n] w fun e w' => (∃ i : Nat, e = .returned (.int .i64 i) ∧ Placed (hsh (2 * b.R + 1)) nodes tab n i) ∧ Below w.heap.size w w' := by
  obtain ⟨a, l, h⟩ := n
  have h0 := hat.f0
  have h2 := hat.f2
  rw [hl] at h2
  have lp := hat.lp
  have Hat := Lib.hid hat; clear hat
  have Ht := Lib.hid ht; clear ht
  have Hl := Lib.hid hl; clear hl
  unfold encNd
  go_enter Tryd.func136, Tryd.ntmps136
  go_wp2
  have hpos : hsh (2 * b.R + 1) (a, l, h) < 2 * b.R + 1 := Nat.mod_lt _ (by omega)
  obtain ⟨j0, hj0, hs0⟩ := Ht.out.stop hS (by rw [Hl.out]; omega) (a, l, h) (by rw [Hl.out]; exact hpos)
  rw [Hl.out] at hj0 hs0
  have Hs0 := Lib.hid hs0; clear hs0 hpos
  have HS := Lib.hid hS; clear hS
  go_loopg [6] j0 (fun gk i wr => Below w.heap.size w wr ∧ w.heap.size < wr.heap.size ∧ (wr.cell? ⟨w.heap.size, 0, none⟩ = some (.int .i64 a) ∧ wr.cell? ⟨w.heap.size, 1, none⟩ = some (.int .i64 l) ∧ wr.cell? ⟨w.heap.size, 2, none⟩ = some (.int .i64 h)) ∧
    ∃ j : Nat, j ≤ j0 ∧ gk = j0 - j ∧ i = .int .i64 (((hsh (2 * b.R + 1) (a, l, h) + j) % (2 * b.R + 1) : Nat) : Int) ∧ ∀ j', j' < j → ¬ Stops nodes tab (a, l, h) ((hsh (2 * b.R + 1) (a, l, h) + j') % (2 * b.R + 1)))
  case atStart => exact ⟨(Below.refl _ _).alloc (Nat.le_refl _) _, by simp, by simp [go_sem], 0, Nat.zero_le _, rfl, by rw [start_eq _ _ hR]; unfold hsh; simp, fun j' h => absurd h (Nat.not_lt_zero _)⟩
  case round =>
    obtain ⟨hbw, hsz, ⟨b0, b1, b2⟩, j, hj, rfl, rfl, hno⟩ := hrel
    have Hb := Lib.hid hbw; clear hbw
    have Hno := Lib.hid hno; clear hno
    obtain ⟨i, hi⟩ : ∃ i, i = (hsh (2 * b.R + 1) (a, l, h) + j) % (2 * b.R + 1) := ⟨_, rfl⟩
    have hilt : i < 2 * b.R + 1 := by rw [hi]; exact Nat.mod_lt _ (by omega)
    rw [← hi]
    have Hi := Lib.hid hi; clear hi
    obtain ⟨x, hx⟩ : ∃ x, x = tab.getD i 0 := ⟨_, rfl⟩
    have ht0 := Hat.out.t (i := i) (by rw [Hl.out]; exact hilt)
    rw [← hx] at ht0
    have lbt := Hat.out.lt
    have lbn := Hat.out.ln
    have h0' : wr.cell? ⟨b.p, 0, none⟩ = some (.slice (some ⟨b.bn, 0, none⟩) b.R b.R) := by rw [Hb.out.cell lp]; exact h0
    have h2' : wr.cell? ⟨b.p, 2, none⟩ = some (.slice (some ⟨b.bt, 0, none⟩) (2 * b.R + 1) (2 * b.R + 1)) := by rw [Hb.out.cell lp]; exact h2
    have ht' : wr.cell? ⟨b.bt, i, none⟩ = some (.int .i64 x) := by rw [Hb.out.cell lbt]; exact ht0
    have hi1 : (i : Int) < 2 * (b.R : Int) + 1 := by omega
    clear ht0
    have Hx := Lib.hid hx; clear hx
    by_cases x0 : x = 0
    · have e0 : (x != 0) = false := by simp [x0]
      have X0 := Lib.hid x0; clear x0
      go_wp2
      go_quiet (fail)
      go_wp2
      go_ret
      refine ⟨⟨i, rfl, by rw [Hl.out]; exact hilt, .inl (Hx.out.symm.trans X0.out), j, by rw [Hl.out]; omega, by rw [Hl.out]; exact Hi.out, fun j' hj' => by rw [Hl.out]; exact Hno.out j' hj'⟩, below_drewN Hb.out _⟩
    · have e0 : (x != 0) = true := by simpa using x0
      obtain ⟨k, hSk, hxk⟩ := Ht.out.ent i (by rw [Hl.out]; exact hilt) (by rw [← Hx.out]; exact x0)
      rw [← Hx.out] at hxk
      have hk := HS.out k hSk
      have ek : x - 2 = (k : Int) := by omega
      have n0 := Hat.out.n0 hk
      have n1 := Hat.out.n1 hk
      have n2 := Hat.out.n2 hk
      obtain ⟨⟨a', l', h'⟩, hnd⟩ : ∃ n', n' = nodes k := ⟨_, rfl⟩
      rw [← hnd] at n0 n1 n2
      have n0' : wr.cell? ⟨b.bn, k * 3, none⟩ = some (.int .i64 a') := by rw [Hb.out.cell lbn]; exact n0
      have n1' : wr.cell? ⟨b.bn, k * 3 + 1, none⟩ = some (.int .i64 l') := by rw [Hb.out.cell lbn]; exact n1
      have n2' : wr.cell? ⟨b.bn, k * 3 + 2, none⟩ = some (.int .i64 h') := by rw [Hb.out.cell lbn]; exact n2
      have hk1 : (k : Int) < (b.R : Int) := by omega
      have HSk := Lib.hid hSk; have Hxk := Lib.hid hxk; have Hek := Lib.hid ek; have Hnd := Lib.hid hnd
      clear hSk hxk ek hnd n0 n1 n2 x0
      cases hq : sameNd (a', l', h') (a, l, h)
      · have hneq : ¬ Stops nodes tab (a, l, h) i := by
          rintro (h1 | ⟨k2, h1, h2⟩)
          · have := Hx.out; have := Hxk.out; omega
          · have h3 := Hx.out; have h4 := Hxk.out
            obtain rfl : k2 = k := by omega
            rw [← Hnd.out] at h2
            rw [h2] at hq
            simp [sameNd] at hq
        have Hneq := Lib.hid hneq; clear hneq
        have hjl : j < j0 := by
          rcases Nat.lt_or_ge j j0 with h1 | h1
          · exact h1
          · obtain rfl : j = j0 := by omega
            have := Hs0.out
            rw [← Hi.out] at this
            exact absurd this Hneq.out
        have hw : IntKind.i64.wrap (x - 2) = (k : Int) := by rw [Hek.out]; exact IntWalk.i64_in _ (by omega)
        have hg1 := guardNode
        have hg2 := fun w => equalNode a' l' h' a l h w
        go_wp2
        go_quiet (fail)
        clear hw hg1 hg2
        go_wp2
        go_roundg (j0 - (j + 1))
        case measure => omega
        case rel =>
          refine ⟨below_drewN Hb.out _, hsz, ⟨b0, b1, b2⟩, j + 1, by omega, rfl, ?_, fun j' hj' => ?_⟩
          · rw [step_eq, Hi.out, Nat.mod_add_mod, Nat.add_assoc]
          · rcases Nat.lt_or_ge j' j with h1 | h1
            · exact Hno.out j' h1
            · obtain rfl : j' = j := by omega
              rw [← Hi.out]; exact Hneq.out
      · have hst : Stops nodes tab (a, l, h) i := .inr ⟨k, by rw [← Hx.out]; exact Hxk.out, by rw [← Hnd.out]; simpa [sameNd] using hq⟩
        have Hst := Lib.hid hst; clear hst
        have hw : IntKind.i64.wrap (x - 2) = (k : Int) := by rw [Hek.out]; exact IntWalk.i64_in _ (by omega)
        have hg1 := guardNode
        have hg2 := fun w => equalNode a' l' h' a l h w
        go_wp2
        go_quiet (fail)
        clear hw hg1 hg2
        go_wp2
        go_ret
        exact ⟨⟨i, rfl, by rw [Hl.out]; exact hilt, Hst.out, j, by rw [Hl.out]; omega, by rw [Hl.out]; exact Hi.out, fun j' hj' => by rw [Hl.out]; exact Hno.out j' hj'⟩, below_drewN Hb.out _⟩
end Go.Proofs.YtdeaficdfooegaaDoor
