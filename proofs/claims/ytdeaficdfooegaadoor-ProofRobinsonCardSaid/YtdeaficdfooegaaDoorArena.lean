/- Contracts: the arena's Has, Get, Top, Len, place. -/
import Derived.Test.YtdeaficdfooegaaDoorAMem
import Derived.Test.YtdeaficdfooegaaDoorKeys
import Derived.Deep.Matrix
import Derived.Deep.QuietTactic
import Derived.BigQuiet
import Derived.BigRegion
import Derived.IntWalk
import Derived.Outline
namespace Go.Proofs.YtdeaficdfooegaaDoor
open Go.RowKit
set_option linter.unusedVariables false

theorem hasM_at {c : Cells} {R : Nat} (hl : c.length = R) {x : Int} (h0 : (x == 0) = false) (h1 : (x == 1) = false) : hasM c x = (decide (2 ≤ x) && decide (x - 2 < (R : Int)) && (c.at (x - 2).toNat).isSome) := by
  unfold hasM getM
  rw [h0, h1]
  by_cases x2 : 2 ≤ x
  · rw [if_neg (by omega)]
    by_cases x3 : x - 2 < (R : Int)
    · simp [x2, x3]
    · rw [at_ge (by omega)]; simp [x3]
  · rw [if_pos (by omega)]; simp [x2]

set_option maxHeartbeats 1000000 in
theorem has_any (x : Int) (w : World) (b : Bk) (c : Cells) (ha : IsArena w b c) (hx : x ≤ 9223372036854775807) :
    Calls Tryd.prog 49 #[.pointer (some ⟨b.p, 0, none⟩), .int .i64 x] w fun e w' => e = .returned (.bool (hasM c x)) ∧ w = w' := by
  obtain ⟨hlen, hroom, hap, nodes, tab, hat, -⟩ := ha
  have h0 := hat.f0
  have h1 := hat.f1
  have hR := hroom.2
  by_cases x0 : x = 0
  · subst x0
    have Ha := Lib.hid hat; clear hat
    have Hl := Lib.hid hlen; clear hlen
    go_enter Tryd.func49, Tryd.ntmps49
    go_wp2_with fail
    go_ret
    exact ⟨by rw [hasM_zero]; rfl, rfl⟩
  · have e0 : (x == 0) = false := by simpa using x0
    by_cases x1 : x = 1
    · subst x1
      have Ha := Lib.hid hat; clear hat
      have Hl := Lib.hid hlen; clear hlen
      go_enter Tryd.func49, Tryd.ntmps49
      go_wp2_with fail
      go_ret
      exact ⟨by rw [hasM_one]; rfl, rfl⟩
    · have e1 : (x == 1) = false := by simpa using x1
      rw [hasM_at hlen e0 e1]
      clear x0 x1
      by_cases x2 : 2 ≤ x
      · by_cases x3 : x - 2 < (b.R : Int)
        · have hu := hat.u (k := (x - 2).toNat) (by omega)
          have x5 : 0 ≤ x - 2 := by omega
          have Ha := Lib.hid hat; clear hat
          have Hl := Lib.hid hlen; clear hlen
          go_enter Tryd.func49, Tryd.ntmps49
          go_wp2_with fail
          go_ret
          exact ⟨by simp [x2, x3], rfl⟩
        · have Ha := Lib.hid hat; clear hat
          have Hl := Lib.hid hlen; clear hlen
          have x5 : 0 ≤ x - 2 := by omega
          have x6 : x - 2 ≤ 9223372036854775807 := by omega
          have x7 : (decide (x - 2 < (b.R : Int))) = false := decide_eq_false x3
          go_enter Tryd.func49, Tryd.ntmps49
          go_wp2_with fail
          go_ret
          exact ⟨by simp, rfl⟩
      · have Ha := Lib.hid hat; clear hat
        have Hl := Lib.hid hlen; clear hlen
        go_enter Tryd.func49, Tryd.ntmps49
        go_wp2_with fail
        go_ret
        exact ⟨by simp; omega, rfl⟩


/-- What Get tells. -/
def gotV (o : Option Nd) : Value := .tuple #[encNd (o.getD (0, 0, 0)), .bool o.isSome]

set_option maxRecDepth 100000 in
set_option maxHeartbeats 1000000 in
theorem get_any (x : Int) (w : World) (b : Bk) (c : Cells) (ha : IsArena w b c) (hx : x ≤ 9223372036854775807) :
    Calls Tryd.prog 54 #[.pointer (some ⟨b.p, 0, none⟩), .int .i64 x] w fun e w' => e = .returned (gotV (getM c x)) ∧ w' = w.alloc (.cells #[.int .i64 ((getM c x).getD (0, 0, 0)).1, .int .i64 ((getM c x).getD (0, 0, 0)).2.1, .int .i64 ((getM c x).getD (0, 0, 0)).2.2] 106) := by
  have Ha := Lib.hid ha; clear ha
  by_cases x2 : x < 2
  · have e1 : getM c x = none := by unfold getM; rw [if_pos x2]
    rw [e1]
    clear e1
    go_enter Tryd.func54, Tryd.ntmps54
    go_wp2_with fail
    exact bodyPost_ret (v := gotV none) (by simp [results, Tryd.results54, go_sem, gotV, encNd]) rfl ⟨rfl, rfl⟩
  · cases e1 : getM c x with
    | none =>
      have e2 : hasM c x = false := by
        cases h : hasM c x
        · rfl
        · have := getM_none_of_has h e1; omega
      have E1 := Lib.hid e1; clear e1
      have hh := has_any x
      have Hh := Lib.hid hh; clear hh
      have E2 := Lib.hid e2; clear e2
      go_enter Tryd.func54, Tryd.ntmps54
      go_wp2_with (go_at_call 49; refine (Hh.out _ b c (Ha.out.below ((Below.refl _ _).alloc (Nat.le_refl _) _)) hx).mono ?_; rw [E2.out]; rintro e w' ⟨rfl, rfl⟩)
      exact bodyPost_ret (v := gotV none) (by simp [results, Tryd.results54, go_sem, gotV, encNd]) rfl ⟨rfl, rfl⟩
    | some n =>
      have e2 : hasM c x = true := by unfold hasM; rw [e1]; simp
      have e3 : c.at (x - 2).toNat = some n := by unfold getM at e1; rw [if_neg x2] at e1; exact e1
      have hk := at_lt e3
      obtain ⟨a, l, h⟩ := n
      have E1 := Lib.hid e1; clear e1
      have E2 := Lib.hid e2; clear e2
      obtain ⟨hlen, hroom, hap, nodes, tab, hat, h4, h5, h6⟩ := Ha.out
      have h7 := h6 _ _ e3
      have hal : Below w.heap.size w (w.alloc (.cells #[.int .i64 0, .int .i64 0, .int .i64 0] 106)) := (Below.refl _ _).alloc (Nat.le_refl _) _
      have h0 := hat.f0
      have n0 := hat.n0 (k := (x - 2).toNat) (by omega)
      have n1 := hat.n1 (k := (x - 2).toNat) (by omega)
      have n2 := hat.n2 (k := (x - 2).toNat) (by omega)
      rw [h7] at n0 n1 n2
      have lp := Ha.out.lt (.inl rfl : b.mem b.p)
      have ln := Ha.out.lt (.inr (.inl rfl) : b.mem b.bn)
      have hR := hroom.2
      have hk' : x - 2 < (b.R : Int) := by omega
      have x5 : 0 ≤ x - 2 := by omega
      clear hat h4 h5 h6 h7 e3 hlen hk
      have Hal := Lib.hid hal; clear hal
      have hh := has_any x
      have Hh := Lib.hid hh; clear hh
      go_enter Tryd.func54, Tryd.ntmps54
      go_wp2_with fail
      refine (Hh.out _ b c (Ha.out.below Hal.out) hx).mono ?_; rw [E2.out]; rintro e w' ⟨rfl, rfl⟩
      go_wp2_with fail
      exact bodyPost_ret (v := gotV (some (a, l, h))) (by simp [results, Tryd.results54, go_sem, gotV, encNd]) rfl ⟨rfl, rfl⟩
end Go.Proofs.YtdeaficdfooegaaDoor
