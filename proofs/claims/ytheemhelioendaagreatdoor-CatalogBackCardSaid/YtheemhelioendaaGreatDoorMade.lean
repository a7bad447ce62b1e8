/- Contract: semver.made. -/
import Derived.Test.YtheemhelioendaaGreatDoorSpanO
namespace Go.Proofs.YtheemhelioendaaGreatDoor
open Go.RowKit
set_option linter.unusedVariables false

/-- Spans in memory, to be read. -/
def IsSp (w : World) (v : Value) (l : List Spn) : Prop :=
  (v = .slice none 0 0 ∧ l = []) ∨ ∃ g cap f, v = .slice (some ⟨g, 0, none⟩) l.length cap ∧ cap ≤ maxLen ∧ SRow w g cap l.length f ∧ spL l.length f = l
theorem IsSp.below {w w' : World} {v : Value} {l : List Spn} (h : IsSp w v l) (hb : Below w.heap.size w w') : IsSp w' v l := by
  rcases h with h | ⟨g, cap, f, e, h1, h2, h3⟩
  · exact .inl h
  · exact .inr ⟨g, cap, f, e, h1, h2.keep (hb.block g h2.lt), h3⟩
theorem IsSp.of_out {w : World} {base : Nat} {v : Value} {n : Nat} {f : Nat → Spn} (h : OutR w base v n f) : IsSp w v (spL n f) := by
  rcases h with ⟨h, rfl⟩ | ⟨g, cap, e, h1, h2, h3⟩
  · exact .inl ⟨h, rfl⟩
  · exact .inr ⟨g, cap, f, by rw [spL_len]; exact e, h2, by rw [spL_len]; exact h3, by rw [spL_len]⟩

theorem spL_upd (n : Nat) (f : Nat → Spn) (s : Spn) : spL (n + 1) (fun k => if k = n then s else f k) = spL n f ++ [s] := by
  rw [spL_succ]
  have e : spL n (fun k => if k = n then s else f k) = spL n f := spL_congr (fun k hk => by
    show (if k = n then s else f k) = f k
    rw [if_neg (by omega)])
  rw [e]
  show _ ++ [if n = n then s else f n] = _
  rw [if_pos rfl]
theorem OutR.shape {w : World} {base : Nat} {v : Value} {n : Nat} {f : Nat → Spn} (h : OutR w base v n f) : ∃ a c, v = .slice a n c := by
  rcases h with ⟨rfl, rfl⟩ | ⟨g, c, rfl, _⟩
  · exact ⟨_, _, rfl⟩
  · exact ⟨_, _, rfl⟩
theorem OutR.set_other {w : World} {base b : Nat} {v : Value} {n : Nat} {f : Nat → Spn} (h : OutR w base v n f) (hb : b < base) (u : Value) : OutR (w.setCell ⟨b, 0, none⟩ u) base v n f := by
  rcases h with h | ⟨g, cap, e, h1, h2, h3⟩
  · exact .inl h
  · exact .inr ⟨g, cap, e, h1, h2, h3.keep (Below.heap_setCell _ _ _ _ (by show g ≠ b; omega))⟩
theorem OutR.fresh {w : World} {base : Nat} {v : Value} {n : Nat} {f : Nat → Spn} (h : OutR w base v n f) : ∀ b, v.ownBlock = some b → base ≤ b := by
  intro b hb
  rcases h with ⟨rfl, _⟩ | ⟨g, cap, rfl, h1, _⟩
  · cases hb
  · cases hb; exact h1
def MadeP (l : List Spn) (B : Nat) (w : World) (e : Ending) (w' : World) : Prop :=
  ∃ v r, e = .returned (.agg #[v]) ∧ IsSp w' v r ∧ MadeR l r ∧ r.length ≤ l.length ∧ (∀ b, v.ownBlock = some b → w.heap.size ≤ b) ∧ Below B w w'

set_option maxRecDepth 100000 in
set_option maxHeartbeats 16000000 in
theorem made_any (g cap n B : Nat) (f : Nat → Spn) (w : World) (h : SRow w g cap n f) (hfit : ∀ s ∈ spL n f, Fits s) (hn : n ≤ 100000) (hcap : cap ≤ maxLen) (hB : B ≤ g) (hB2 : B ≤ w.heap.size) :
    Calls Tryz.prog 143 #[.slice (some ⟨g, 0, none⟩) n cap] w (MadeP (spL n f) B w) := by
  have hal : Below w.heap.size w (w.alloc (.cells #[.slice none 0 0] 49)) := (Below.refl _ _).alloc (Nat.le_refl _) _
  have hblk : (w.alloc (.cells #[.slice none 0 0] 49)).heap[w.heap.size]? = some (.cells #[.slice none 0 0] 49 (0, 0)) := heap_at rfl
  have hglt := h.lt
  have hdel := deleteS_any g cap n f _ (h.keep (hal.block g h.lt)) (by omega) (by unfold maxLen at hcap; omega)
  have Hdel := Lib.hid hdel; have Hfit := Lib.hid hfit; have Hal := Lib.hid hal; have Hblk := Lib.hid hblk
  clear hdel h hfit hal hblk
  go_enter Tryz.func143, Tryz.ntmps143
  go_wp2_with fail
  refine Hdel.out.mono ?_
  rintro e w1 ⟨m, f1, rfl, hmn, hrow1, hfil, ho1⟩
  have hblk1 := (ho1.block _ (by simp) (by omega)).trans Hblk.out
  have hw1 := (Only1.of_below (g := g) Hal.out).trans ho1
  have Hfil := Lib.hid hfil; have Hrow1 := Lib.hid hrow1; have Hw1 := Lib.hid hw1; have Hblk1 := Lib.hid hblk1
  clear hfil hrow1 hw1 hblk1 ho1 Hdel Hal Hblk
  have Hsort := Lib.hid (sortS_any g cap m f1 w1 Hrow1.out (by omega))
  go_wp2_with fail
  refine Hsort.out.mono ?_
  rintro e w2 ⟨f2, rfl, hr2, hmem, hord, ho2⟩
  have hblk2 := (ho2.block _ (lt_of_block Hblk1.out) (by omega)).trans Hblk1.out
  have hw2 := Hw1.out.trans ho2
  have hwide : ∀ k, k < m → Wide (f2 k) := fun k hk => by
    have h1 := (hmem (f2 k)).1 (mem_spL.2 ⟨k, hk, rfl⟩)
    rw [Hfil.out, List.mem_filter] at h1
    have h2 : ¬ (f2 k).2 ≤ (f2 k).1 := by simpa [pS] using h1.2
    have h3 := Hfit.out _ h1.1 (by omega)
    exact ⟨h3.1, by omega, h3.2⟩
  have hsame : ∀ x, inL (spL m f2) x ↔ inL (spL n f) x := fun x => by
    rw [inL_perm hmem x, Hfil.out]
    constructor
    · rintro ⟨s, hs, hx⟩; exact ⟨s, (List.mem_filter.1 hs).1, hx⟩
    · rintro ⟨s, hs, hx⟩
      refine ⟨s, List.mem_filter.2 ⟨hs, ?_⟩, hx⟩
      have := hx.1; have := hx.2
      simp [pS]; omega
  have Hr2 := Lib.hid hr2; have Hord := Lib.hid hord; have Hw2 := Lib.hid hw2; have Hblk2 := Lib.hid hblk2; have Hwide := Lib.hid hwide; have Hsame := Lib.hid hsame
  clear hr2 hord hw2 hblk2 hwide hsame hmem ho2 Hfil Hrow1 Hw1 Hblk1 Hsort Hfit
  go_wp2_with fail
  go_loopg [3, 13] m (fun gk vo i wr => ∃ (k j : Nat) (fo : Nat → Spn), k ≤ m ∧ gk = m - k ∧ i = .int .i64 k ∧ OutR wr w2.heap.size vo j fo ∧ Join (spL k f2) (spL j fo) ∧ j ≤ k ∧ Below w2.heap.size w2 wr)
  case atStart => exact ⟨0, 0, f2, Nat.zero_le _, rfl, rfl, OutR.nil _ _ _, Join.nil, Nat.le_refl _, Below.refl _ _⟩
  case round =>
    obtain ⟨k, j, fo, hk, rfl, rfl, hout, hjoin, hjk, hbw⟩ := hrel
    obtain ⟨wo, rfl⟩ : ∃ y, y = wr := ⟨_, rfl⟩
    have sbw := hbw.size
    by_cases hlt : k < m
    · have hr := Hr2.out.keep (hbw.block g Hr2.out.lt)
      have c1 := hr.c1 k hlt; have c2 := hr.c2 k hlt
      have hwk := Hwide.out k hlt
      have hsn : spL (k + 1) f2 = spL k f2 ++ [f2 k] := spL_succ k f2
      have hle : ∀ u ∈ spL k f2, u.1 ≤ (f2 k).1 := fun u hu => by
        obtain ⟨x, hx, rfl⟩ := mem_spL.1 hu
        exact Hord.out x k hx hlt
      generalize f2 k = s at c1 c2 hwk hsn hle
      have Hsn := Lib.hid hsn; have Hle := Lib.hid hle; have Hwk := Lib.hid hwk; have Hjoin := Lib.hid hjoin; have Hbw := Lib.hid hbw
      clear hsn hle hwk hjoin hbw hr
      have hal : Below wo.heap.size wo (wo.alloc (.cells #[.int .i64 s.1, .int .i64 s.2] 115)) := (Below.refl _ _).alloc (Nat.le_refl _) _
      have hblk : (wo.alloc (.cells #[.int .i64 s.1, .int .i64 s.2] 115)).heap[wo.heap.size]? = some (.cells #[.int .i64 s.1, .int .i64 s.2] 115 (0, 0)) := heap_at rfl
      obtain ⟨ao, co, rfl⟩ := hout.shape
      have d1 : (wo.alloc (.cells #[.int .i64 s.1, .int .i64 s.2] 115)).cell? ⟨wo.heap.size, 0, none⟩ = some (.int .i64 s.1) := by rw [cell_of_row _ _ _ _ _ _ hblk]; rfl
      have d2 : (wo.alloc (.cells #[.int .i64 s.1, .int .i64 s.2] 115)).cell? ⟨wo.heap.size, 1, none⟩ = some (.int .i64 s.2) := by rw [cell_of_row _ _ _ _ _ _ hblk]; rfl
      have d3 := lt_of_block hblk
      rcases Nat.eq_zero_or_pos j with rfl | hj0
      · have hx : decide ((0 : Int) < ((0 : Nat) : Int)) = false := by decide
        have Hout := Lib.hid hout; have Hal := Lib.hid hal
        clear hout hal hblk
        have Hjn := Lib.hid (Hjoin.out.push (s := s) Hwk.out (fun t ht => by cases ht))
        have Ho1 := Lib.hid (fun W (hW : Below wo.heap.size wo W) => Hout.out.below hW)
        go_upto_region 8 with fail
        go_quiet (fail)
        go_wp2_with (at_builtin; refine wpList_append_span rfl (.tmp 46) (.tmp 48) rfl w2.heap.size _ 0 fo rfl (Ho1.out _ (below_drewN Hal.out _)) s.1 s.2 (wo.heap.size + 1) (alloc_size wo _).symm rfl (by omega) (Nat.le_trans sbw (below_drewN Hal.out _).size) ?_; intro v9 w9 ho9 hb9 _; have Ho9 := Lib.hid ho9; have Hb9 := Lib.hid hb9; clear ho9 hb9)
        go_roundg (m - (k + 1))
        case measure => omega
        case rel => exact ⟨k + 1, 1, _, by omega, rfl, by go_num, Ho9.out, by rw [Hsn.out]; exact Hjn.out, by omega, (Hbw.out.trans ((below_drewN Hal.out _).mono sbw)).trans Hb9.out⟩
      · have hx : decide ((0 : Int) < (j : Int)) = true := by simp; omega
        obtain ⟨q, rfl⟩ : ∃ q, j = q + 1 := ⟨j - 1, by omega⟩
        obtain ⟨g', c', e, h1, h2, h3⟩ : ∃ g' cap', Value.slice ao (q + 1) co = .slice (some ⟨g', 0, none⟩) (q + 1) cap' ∧ w2.heap.size ≤ g' ∧ cap' ≤ maxLen ∧ SRow wo g' cap' (q + 1) fo := by
          rcases hout with ⟨_, h⟩ | h
          · omega
          · exact h
        cases e
        have h4 := h3.keep (hal.block g' h3.lt)
        have e1 := h4.cell2 (Nat.lt_succ_self q); have e2 := h4.free (q * 2 + 1)
        have hglt' := h4.lt
        have Hout := Lib.hid hout; have Hal := Lib.hid hal; have Hrow := Lib.hid h4
        clear hout hal hblk h3 h4
        have hlen := spL_succ q fo
        have Ho1 := Lib.hid (fun W (hW : Below wo.heap.size wo W) => Hout.out.below hW)
        by_cases ht : s.1 ≤ (fo q).2
        · have ht2 : decide (s.1 ≤ (fo q).2) = true := by simpa using ht
          have hjn := Hjoin.out
          rw [hlen] at hjn
          have hgr := hjn.grow Hwk.out (hjn.ahead Hle.out) ht
          have hset := Hrow.out.set2 q (max (fo q).2 s.2)
          have heq := (spL_upd q fo ((fo q).1, max (fo q).2 s.2)).symm
          rw [heq] at hgr
          generalize fo q = t at e1 ht2 hgr hset
          have Hgr := Lib.hid hgr; have Hset := Lib.hid hset
          clear hjn hgr hset heq hlen ht Hjoin Hout
          go_upto_region 8 with fail
          go_quiet (fail)
          go_wp2_with fail
          go_region
          go_wp2_with fail
          go_roundg (m - (k + 1))
          case measure => omega
          case rel => exact ⟨k + 1, q + 1, _, by omega, rfl, by go_num, .inr ⟨g', co, rfl, h1, h2, Hset.out⟩, by rw [Hsn.out]; exact Hgr.out, by omega, (Hbw.out.trans ((below_drewN Hal.out _).mono sbw)).setCell h1 _⟩
        · have ht2 : decide (s.1 ≤ (fo q).2) = false := by simpa using ht
          have hjn := Hjoin.out
          have hpu := hjn.push (s := s) Hwk.out (fun t ht' => by
            have h1 := hjn.can
            rw [hlen] at ht' h1
            rcases List.mem_append.1 ht' with h2 | h2
            · have := canon_le h1 t h2
              have := (h1.ok (fo q) (by simp)).2.1
              omega
            · rw [List.mem_singleton.1 h2]; omega)
          have heq := (spL_upd (q + 1) fo s).symm
          rw [heq] at hpu
          have Hpu := Lib.hid hpu
          generalize (fo q).2 = t at e1 ht2
          clear hjn hpu heq hlen ht Hjoin Hout
          go_upto_region 8 with fail
          go_quiet (fail)
          go_wp2_with (at_builtin; refine wpList_append_span rfl (.tmp 46) (.tmp 48) rfl w2.heap.size _ (q + 1) fo rfl (Ho1.out _ (below_drewN Hal.out _)) s.1 s.2 (wo.heap.size + 1) (alloc_size wo _).symm rfl (by omega) (Nat.le_trans sbw (below_drewN Hal.out _).size) ?_; intro v9 w9 ho9 hb9 _; have Ho9 := Lib.hid ho9; have Hb9 := Lib.hid hb9; clear ho9 hb9)
          go_roundg (m - (k + 1))
          case measure => omega
          case rel => exact ⟨k + 1, q + 1 + 1, _, by omega, rfl, by go_num, Ho9.out, by rw [Hsn.out]; exact Hpu.out, by omega, (Hbw.out.trans ((below_drewN Hal.out _).mono sbw)).trans Hb9.out⟩
    · obtain rfl : k = m := by omega
      have hsp := IsSp.of_out hout
      have hblk3 := (hbw.block _ (lt_of_block Hblk2.out)).trans Hblk2.out
      have d1 := cell_of_one hblk3; have d2 := free_of_one hblk3; have d3 := lt_of_block hblk3
      obtain ⟨ao, co, rfl⟩ := hout.shape
      have Hout := Lib.hid hout; have Hjoin := Lib.hid hjoin; have Hbw := Lib.hid hbw; have Hsp := Lib.hid hsp; have Hblk3 := Lib.hid hblk3
      clear hout hjoin hbw hsp hblk3
      have k4 := cell_of_one (one_setCell (u := .slice ao j co) Hblk3.out)
      have s2 := Hw2.out.size; have s3 := lt_of_block Hblk2.out
      go_wp2_with fail
      refine bodyPost_ret (v := .agg #[.slice ao j co]) (by simp [results, Tryz.results143, go_sem, k4]) rfl ⟨_, spL j fo, rfl, IsSp.of_out (Hout.out.set_other (by omega) _), ⟨Hjoin.out.can, fun x => by rw [Hjoin.out.same, Hsame.out]⟩, by rw [spL_len, spL_len]; omega, fun b hb => ?_, ((Hw2.out.below hB hB2).trans (Hbw.out.mono (by omega))).setCell hB2 _⟩
      have := Hout.out.fresh b hb
      omega
end Go.Proofs.YtheemhelioendaaGreatDoor
