/- Contract: the fact 'ruled'. -/
import Derived.Test.YtheemhelioendaaGreatDoorListM
import Derived.Test.YtheemhelioendaaGreatDoorPkO
import Derived.Test.YtheemhelioendaaGreatDoorPkL
namespace Go.Proofs.YtheemhelioendaaGreatDoor
open Go.RowKit
set_option linter.unusedVariables false

theorem OutI.ints {w : World} {base : Nat} {v : Value} {xs : List Int} (h : OutI w base v xs) (hn : xs.length ≤ 100000) : IsInts w v xs := by
  have hc := fun (g n c : Nat) (e : v = .slice (some ⟨g, 0, none⟩) n c) => (show OutI w base (.slice (some ⟨g, 0, none⟩) n c) xs from e ▸ h)
  obtain ⟨h0, ⟨h1, h2⟩ | ⟨g, cap, cur, e, h1, h2, h3, h4, h5, h6⟩⟩ := h
  · have e : xs = [] := List.eq_nil_of_length_eq_zero h2
    subst e
    exact ⟨none, 0, 0, 0, h1, fun q => absurd rfl q, Nat.le_refl _, Nat.zero_le _, fun i hi => (by simp at hi), fun q => absurd rfl q, Nat.zero_le _⟩
  · refine ⟨_, g, 0, cap, e, fun _ => rfl, h3, h4, fun i hi => ?_, fun _ => (Array.getElem?_eq_some_iff.1 h2).1, by omega⟩
    have := RowG.cell (enc := encInt) (z := 1) (fun _ => rfl) (hc _ _ _ e) hi (j := 0) (by decide) rfl
    rw [Nat.mul_one, Nat.add_zero] at this
    rw [Nat.zero_add, this]
    simp [hi]
theorem rulesA0 : rulesC lsA [(aT, 2, 0, 0), (aT, 1, 0, 0)] = [(-1, [-1, -2]), (2, [1, 2])] := by kernel_rfl
theorem rulesA {ls : List LineM} {items : List ItemM} (h : LinesR textA ls) (hc : CatOk ls items) : items.length = 2 ∧ rulesC ls items = [(-1, [-1, -2]), (2, [1, 2])] := by
  obtain ⟨_, hit⟩ := catA h hc
  rw [same_rules (LinesR.one h linesA) items, hit]
  exact ⟨rfl, rulesA0⟩
set_option maxRecDepth 100000 in
set_option maxHeartbeats 8000000 in
theorem ruled_any (w : World) (hL : LaidR w) (hT : TypeLaid w) : Calls Tryz.prog 10 #[] w fun e w' => e = .returned (.bool true) ∧ Below w.heap.size w w' := by
  have HP := Lib.hid (read_any textA 5 w (by decide) (by decide) hL hT)
  clear hL hT
  unfold textA at HP
  go_enter Tryz.func10, Tryz.ntmps10
  go_wp2_with fail
  refine HP.out.mono ?_
  rintro e w1 ⟨⟨p, ls, items, a1, c1, a2, c2, rfl, hcat, hls, _, hlen, hmo, hin⟩ | ⟨rfl, hno⟩, hb1⟩
  · obtain ⟨hn, hr⟩ := rulesA hls hcat.1
    rw [hr] at hin
    have hr2 : (rulesC ls items).length = 2 := by rw [hr]; rfl
    obtain ⟨us, hu, hcl, _⟩ := hin
    have hul := hcl.len
    obtain ⟨u0, u1, rfl⟩ : ∃ x y, us = [x, y] := by
      match us, hul with
      | [x, y], _ => exact ⟨x, y, rfl⟩
    obtain ⟨g, hg, hgl, _⟩ := hu.at (by simp)
    subst hg
    have h0 := RowG.cell encV_len hu (k := 0) (by simp) (j := 0) (by decide) rfl
    have h1 := RowG.cell encV_len hu (k := 1) (by simp) (j := 0) (by decide) rfl
    have hu0 : OutI w1 0 u0 [-1, -2] := hcl.1
    have hu1 : OutI w1 0 u1 [1, 2] := hcl.2.1
    obtain ⟨x0, y0, rfl, _, _⟩ := RowG.shape hu0
    obtain ⟨x1, y1, rfl, _, _⟩ := RowG.shape hu1
    rw [hn, hr2]
    obtain ⟨w2, hw2⟩ : ∃ w2, w2 = w1.alloc (.cells #[.int .i64 2, .slice (some ⟨g, 0, none⟩) 2 c1, .slice a2 2 c2] 28) := ⟨_, rfl⟩
    have hb2 : Below w1.heap.size w1 w2 := by rw [hw2]; exact (Below.refl _ _).alloc (Nat.le_refl _) _
    have hk2 : w2.heap[w1.heap.size]? = some (.cells #[.int .i64 2, .slice (some ⟨g, 0, none⟩) 2 c1, .slice a2 2 c2] 28 (0, 0)) := by rw [hw2]; exact heap_at rfl
    have HX := Lib.hid (show ∀ w', Below w2.heap.size w2 w' → (w'.cell? ⟨w1.heap.size, 1, none⟩ = some (.slice (some ⟨g, 0, none⟩) 2 c1) ∧ w'.cell? ⟨g, 0, none⟩ = some (.slice x0 2 y0) ∧ w'.cell? ⟨g, 1, none⟩ = some (.slice x1 2 y1)) ∧ IsInts w' (.slice x0 2 y0) [-1, -2] ∧ IsInts w' (.slice x1 2 y1) [1, 2] from fun w' hw => by
      have hbb : Below w1.heap.size w1 w' := hb2.trans (hw.mono hb2.size)
      exact ⟨⟨(cellsR ((hw.block _ (lt_of_block hk2)).trans hk2)).2.1, (hbb.cell (p := ⟨g, 0, none⟩) hgl).trans h0, (hbb.cell (p := ⟨g, 1, none⟩) hgl).trans h1⟩, (OutI.below hu0 hbb).ints (by decide), (OutI.below hu1 hbb).ints (by decide)⟩)
    have HB2 := Lib.hid (hb1.trans (hb2.mono hb1.size))
    obtain ⟨q0, q1, q2⟩ := cellsR hk2
    have hS2 := (HX.out w2 (Below.refl _ _)).1
    obtain ⟨s1, s2, s3⟩ := hS2
    clear hr hr2 hn hls hcat hcl hu hul hu0 hu1 h0 h1 hb1 hb2 hk2 HP
    go_upto_region 2 with fail
    rw [← hw2]
    clear hw2
    go_wp2_with fail
    have hb3 : Below w2.heap.size w2 (w2.alloc (.cells #[.int .i64 (-1), .int .i64 (-2)] 3)) := (Below.refl _ _).alloc (Nat.le_refl _) _
    have hl3 := (outI_lit (xs := [-1, -2]) rfl (show (w2.alloc (.cells #[.int .i64 (-1), .int .i64 (-2)] 3)).heap[w2.heap.size]? = some (.cells #[.int .i64 (-1), .int .i64 (-2)] 3 (0, 0)) from heap_at rfl) (by decide) 0 (Nat.zero_le _)).ints (by decide)
    refine (sameInts_any _ _ _ _ _ (HX.out _ hb3).2.1 hl3).mono ?_
    rintro e w4 ⟨rfl, hb4⟩
    have hb4' := hb3.trans (hb4.mono hb3.size)
    clear hb3 hl3 hb4 q0 q1 q2 s1 s2 s3
    obtain ⟨s1, s2, s3⟩ := (HX.out w4 hb4').1
    have Hb4 := Lib.hid hb4'
    clear hb4'
    have ht : (([-1, -2] : List Int) == [-1, -2]) = true := by decide
    rw [ht]
    go_wp2_with fail
    have hb5 : Below w4.heap.size w4 (w4.alloc (.cells #[.int .i64 1, .int .i64 2] 3)) := (Below.refl _ _).alloc (Nat.le_refl _) _
    have hl5 := (outI_lit (xs := [1, 2]) rfl (show (w4.alloc (.cells #[.int .i64 1, .int .i64 2] 3)).heap[w4.heap.size]? = some (.cells #[.int .i64 1, .int .i64 2] 3 (0, 0)) from heap_at rfl) (by decide) 0 (Nat.zero_le _)).ints (by decide)
    have hb5' := Hb4.out.trans (hb5.mono Hb4.out.size)
    refine (sameInts_any _ _ _ _ _ (HX.out _ hb5').2.2 hl5).mono ?_
    rintro e w6 ⟨rfl, hb6⟩
    have hb6' := hb5'.trans (hb6.mono hb5'.size)
    have Hb6 := Lib.hid hb6'
    clear hb5 hb5' hl5 hb6 hb6' s1 s2 s3
    have ht2 : (([1, 2] : List Int) == [1, 2]) = true := by decide
    rw [ht2]
    go_wp2_with fail
    go_ret
    exact ⟨rfl, HB2.out.trans (Hb6.out.mono HB2.out.size)⟩
  · refine absurd hno ?_
    rintro (h | h | ⟨ls, items, h1, h2, h3⟩)
    · revert h; decide
    · exact h lsA linesA newA
    · obtain ⟨e1, e2⟩ := rulesA h1 h2
      rw [e1, e2] at h3
      revert h3
      decide
end Go.Proofs.YtheemhelioendaaGreatDoor
