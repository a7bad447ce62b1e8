/- The walk of the law RangeBack. -/
import Derived.Test.YtpnchjbdjcihfaaGreatDoorRanged
import Derived.Test.YtpnchjbdjcihfaaGreatDoorRTextW
namespace Go.Proofs.YtpnchjbdjcihfaaGreatDoor
open Go.RowKit
set_option linter.unusedVariables false

theorem sameT3 (va vb : Value) (xs ys : List Spn) (w : World) (ha : IsSp w va xs) (hb : IsSp w vb ys) (E : Bool) (h : decide (xs = ys) = E) :
    Calls Tryz.prog 10 #[.agg #[va], .agg #[vb]] w fun e w' => e = .returned (.bool E) ∧ Below w.heap.size w w' := by
  have := same_any va vb xs ys w ha hb
  rwa [h] at this
/-- Two boxes. -/
structure Bx2 (p1 p2 : Nat) (v1 v2 : Value) (w : World) : Prop where
  b1 : w.heap[p1]? = some (.cells #[v1] 24 (0, 0))
  b2 : w.heap[p2]? = some (.cells #[v2] 24 (0, 0))
theorem Bx2.below {p1 p2 : Nat} {v1 v2 : Value} {w w' : World} (h : Bx2 p1 p2 v1 v2 w) (hb : Below w.heap.size w w') : Bx2 p1 p2 v1 v2 w' :=
  ⟨(hb.block _ (lt_of_block h.b1)).trans h.b1, (hb.block _ (lt_of_block h.b2)).trans h.b2⟩
theorem Bx2.S {p1 p2 : Nat} {v1 v2 : Value} {w : World} (h : Bx2 p1 p2 v1 v2 w) : w.cell? ⟨p1, 0, none⟩ = some v1 ∧ w.cell? ⟨p2, 0, none⟩ = some v2 := ⟨cell_of_one h.b1, cell_of_one h.b2⟩
theorem wordB_eq {l m : List UInt8} : wordB l = wordB m ↔ l = m := ⟨fun h => by have := congrArg (fun s : ByteArray => s.data.toList) h; simpa [wordB_data] using this, fun h => by rw [h]⟩
/-- What the last statement asks: its answer is true. -/
def BackP (w : World) (e : Ending) (w' : World) : Prop := e = .returned (.bool true) ∧ Below w.heap.size w w'

set_option maxRecDepth 100000 in
set_option maxHeartbeats 16000000 in
theorem rangeBack_walk (a b : ByteArray) (w : World) (ha : a.size ≤ 9223372036854775807) (hb : b.size ≤ 9223372036854775807) (hL : LaidR w) (hT : TypeLaid w) :
    Calls Tryz.prog 5 #[.string a, .string b] w fun e w' => e = .returned (.bool true) ∧ Below w.heap.size w w' := by
  by_cases h1 : a.size ≤ 300 ∧ b.size ≤ 300
  · obtain ⟨h1, h2⟩ := h1
    have d1 : decide (300 < (a.size : Int)) = false := by simp; omega
    have d2 : decide (300 < (b.size : Int)) = false := by simp; omega
    have HLT := Lib.hid (show ∀ w', Below w.heap.size w w' → LaidR w' ∧ TypeLaid w' from fun w' hw => ⟨hL.below hw, hT.below hw⟩)
    have HP1 := Lib.hid (range_any a w ha hL hT)
    clear hL hT
    go_enter Tryz.func5, Tryz.ntmps5
    go_wp2_with fail
    refine HP1.out.mono ?_
    rintro e w1 ⟨vR, lR, e1, rfl, hsR, hfR, hlR, hb1, hc1⟩
    obtain ⟨aR, cR, rfl, _⟩ := hsR.shape
    obtain ⟨W1, hW1⟩ : ∃ W1, W1 = w1.alloc (.cells #[.slice aR lR.length cR] 24) := ⟨_, rfl⟩
    have hb1' : Below w1.heap.size w1 W1 := by rw [hW1]; exact (Below.refl _ _).alloc (Nat.le_refl _) _
    have hk1 : W1.heap[w1.heap.size]? = some (.cells #[.slice aR lR.length cR] 24 (0, 0)) := by rw [hW1]; exact heap_at rfl
    have hB1 := hb1.trans (hb1'.mono hb1.size)
    have HP2 := Lib.hid (range_any b W1 hb (HLT.out _ hB1).1 (HLT.out _ hB1).2)
    have HsR := Lib.hid (hsR.below hb1'); have HB1 := Lib.hid hB1; have Hk1 := Lib.hid hk1; have Hc1 := Lib.hid hc1
    clear hsR hb1 hb1' hk1 hB1 hc1 hfR HP1
    go_upto_region 4 with fail
    rw [← hW1]
    clear hW1
    go_wp2_with fail
    refine HP2.out.mono ?_
    rintro e w2 ⟨vS, lS, e2, rfl, hsS, hfS, hlS, hb2, hc2⟩
    obtain ⟨aS, cS, rfl, _⟩ := hsS.shape
    obtain ⟨W2, hW2⟩ : ∃ W2, W2 = w2.alloc (.cells #[.slice aS lS.length cS] 24) := ⟨_, rfl⟩
    have hb2' : Below w2.heap.size w2 W2 := by rw [hW2]; exact (Below.refl _ _).alloc (Nat.le_refl _) _
    have hk2 : W2.heap[w2.heap.size]? = some (.cells #[.slice aS lS.length cS] 24 (0, 0)) := by rw [hW2]; exact heap_at rfl
    have hb22 := hb2.trans (hb2'.mono hb2.size)
    have hB2 := HB1.out.trans (hb22.mono HB1.out.size)
    have HR1 := Lib.hid (ranged_any W2 (HLT.out _ hB2).1 (HLT.out _ hB2).2)
    have Hbx := Lib.hid (Bx2.mk ((hb22.block _ (lt_of_block Hk1.out)).trans Hk1.out) hk2)
    have HsR := Lib.hid (HsR.out.below hb22); have HsS := Lib.hid (hsS.below hb2'); have HB2 := Lib.hid hB2; have Hc2 := Lib.hid hc2
    clear hsS hb2 hb2' hk2 hB2 hc2 hfS HP2 hb22 Hk1
    go_upto_region 5 with fail
    rw [← hW2]
    clear hW2
    have err : ∀ (w' : World) (er : Value), IsErr w' er → ∃ t x, er = .iface t x := fun w' er h => by
      rcases h with ⟨k, rfl⟩ | ⟨p, k, pl, rfl, _⟩
      · exact ⟨_, _, rfl⟩
      · exact ⟨_, _, rfl⟩
    have Herr := Lib.hid err
    clear err
    rcases Hc1.out with ⟨rfl, _, hr1⟩ | ⟨he1, _, _⟩
    · rcases Hc2.out with ⟨rfl, _, hr2⟩ | ⟨he2, _, _⟩
      · have HcR := Lib.hid hr1.can; have HcS := Lib.hid hr2.can
        clear hr1 hr2 Hc1 Hc2
        obtain ⟨E, hE⟩ : ∃ E, decide (lR = lS) = E := ⟨_, rfl⟩
        have hT12 : ((wordB (rangeT lR)).toList == (wordB (rangeT lS)).toList) = E := by
          rw [← hE, Bool.eq_iff_iff, beq_iff_eq, decide_eq_true_iff]
          exact ⟨fun h => rangeT_inj HcR.out HcS.out (wordB_eq.1 (toList_inj' h)), fun h => by rw [h]⟩
        have htr := textR_range HcR.out
        have HtT := Lib.hid (show ∀ w', Below w.heap.size w w' → IsSp w' (.slice aR lR.length cR) lR → Calls Tryz.prog 18 #[.agg #[.slice aR lR.length cR]] w' fun e w'' => e = .returned (.string (wordB (rangeT lR))) ∧ Below w'.heap.size w' w'' from fun w' hw hs => rtext_any _ lR w' hs HcR.out (by omega) (HLT.out w' hw).1)
        have HtS := Lib.hid (show ∀ w', Below w.heap.size w w' → IsSp w' (.slice aS lS.length cS) lS → Calls Tryz.prog 18 #[.agg #[.slice aS lS.length cS]] w' fun e w'' => e = .returned (.string (wordB (rangeT lS))) ∧ Below w'.heap.size w' w'' from fun w' hw hs => rtext_any _ lS w' hs HcS.out (by omega) (HLT.out w' hw).1)
        have HtX := Lib.hid (show ∀ w' v, Below w.heap.size w w' → IsSp w' v lR → Calls Tryz.prog 18 #[.agg #[v]] w' fun e w'' => e = .returned (.string (wordB (rangeT lR))) ∧ Below w'.heap.size w' w'' from fun w' v hw hs => rtext_any v lR w' hs HcR.out (by omega) (HLT.out w' hw).1)
        have HHE := Lib.hid hE; have Htr := Lib.hid htr; have HT12 := Lib.hid hT12
        clear hE htr hT12
        generalize wordB (rangeT lR) = T1 at HtT HtX Htr HT12
        generalize wordB (rangeT lS) = T2 at HtS HT12
        -- the last statement, wherever it stands
        by_cases hq : T1.size ≤ 1000
        · have d3 : decide ((T1.size : Int) ≤ 1000) = true := by simp; omega
          have Hq := Lib.hid hq; clear hq
          go_wp2_with fail
          refine HR1.out.mono ?_
          rintro e w3 ⟨rfl, hb3⟩
          have HsR := Lib.hid (HsR.out.below hb3); have HsS := Lib.hid (HsS.out.below hb3); have HB3 := Lib.hid (HB2.out.trans (hb3.mono HB2.out.size)); have Hbx := Lib.hid (Hbx.out.below hb3)
          have KS := Hbx.out.S
          clear hb3 HR1
          go_wp2_with fail
          refine (HtT.out _ HB3.out HsR.out).mono ?_
          rintro e w4 ⟨rfl, hb4⟩
          have HsR := Lib.hid (HsR.out.below hb4); have HsS := Lib.hid (HsS.out.below hb4); have HB4 := Lib.hid (HB3.out.trans (hb4.mono HB3.out.size)); have Hbx := Lib.hid (Hbx.out.below hb4)
          have KS := Hbx.out.S
          have HX := Lib.hid (range_any T1 w4 (by have := Hq.out; omega) (HLT.out _ HB4.out).1 (HLT.out _ HB4.out).2)
          clear hb4
          go_wp2_with fail
          refine HX.out.mono ?_
          intro e w5 hp5
          obtain ⟨vX, rfl, hsX, _, hb5⟩ := okRange hp5 Hq.out Htr.out
          obtain ⟨aX, cX, rfl, _⟩ := hsX.shape
          obtain ⟨W5, hW5⟩ : ∃ W5, W5 = w5.alloc (.cells #[.slice aX lR.length cX] 24) := ⟨_, rfl⟩
          have hb5' : Below w5.heap.size w5 W5 := by rw [hW5]; exact (Below.refl _ _).alloc (Nat.le_refl _) _
          have hk5 : W5.heap[w5.heap.size]? = some (.cells #[.slice aX lR.length cX] 24 (0, 0)) := by rw [hW5]; exact heap_at rfl
          have hb55 := hb5.trans (hb5'.mono hb5.size)
          have HsX := Lib.hid (hsX.below hb5'); have HsR := Lib.hid (HsR.out.below hb55); have HsS := Lib.hid (HsS.out.below hb55); have HB5 := Lib.hid (HB4.out.trans (hb55.mono HB4.out.size)); have Hbx := Lib.hid (Hbx.out.below hb55); have Hk5 := Lib.hid hk5
          have KS := Hbx.out.S
          have k5 := cell_of_one hk5
          have HN0 := Lib.hid (sameT3 _ _ lR lR W5 HsX.out HsR.out true (by simp))
          clear hp5 hsX hb5 hb5' hk5 hb55 HX
          go_upto_region 10 with fail
          rw [← hW5]
          clear hW5
          go_wp2_with fail
          refine HN0.out.mono ?_
          rintro e w6 ⟨rfl, hb6⟩
          have HsX := Lib.hid (HsX.out.below hb6); have HsR := Lib.hid (HsR.out.below hb6); have HsS := Lib.hid (HsS.out.below hb6); have HB6 := Lib.hid (HB5.out.trans (hb6.mono HB5.out.size)); have Hbx := Lib.hid (Hbx.out.below hb6); have hk6 := (hb6.block _ (lt_of_block Hk5.out)).trans Hk5.out
          have KS := Hbx.out.S
          have k6 := cell_of_one hk6
          clear hb6 hk6 HN0
          go_wp2_with fail
          refine (HtX.out _ _ HB6.out HsX.out).mono ?_
          rintro e w7 ⟨rfl, hb7⟩
          have HsR := Lib.hid (HsR.out.below hb7); have HsS := Lib.hid (HsS.out.below hb7); have HB7 := Lib.hid (HB6.out.trans (hb7.mono HB6.out.size)); have Hbx := Lib.hid (Hbx.out.below hb7)
          clear hb7 HsX k5 k6 Hk5
          go_wp2_with fail
          have hdr : Below w7.heap.size w7 w7.drew := (Below.refl _ _).drew
          have HsR := Lib.hid (HsR.out.below hdr); have HsS := Lib.hid (HsS.out.below hdr); have HB := Lib.hid (HB7.out.trans (hdr.mono HB7.out.size)); have Hbx := Lib.hid (Hbx.out.below hdr)
          have KS := Hbx.out.S
          clear hdr
          have HN0 := Lib.hid (sameT3 _ _ lR lS w7.drew HsR.out HsS.out E HHE.out)
          have tE := HT12.out
          go_region_held3 (fun w' => w'.cell? ⟨w1.heap.size, 0, none⟩ = some (.slice aR lR.length cR) ∧ w'.cell? ⟨w2.heap.size, 0, none⟩ = some (.slice aS lS.length cS))
            (exact KS)
            (first
              | (go_at_call 10; (with_reducible refine (HN0.out).mono ?_); rintro e wc0 ⟨rfl, hb⟩; have HsR := Lib.hid (HsR.out.below hb); have HsS := Lib.hid (HsS.out.below hb); have Hbx := Lib.hid (Hbx.out.below hb); have HB := Lib.hid (HB.out.trans (hb.mono HB.out.size)); have KS := Hbx.out.S; have HN1 := Lib.hid (HtT.out _ HB.out HsR.out); clear hb HN0)
              | (go_at_call 18; (with_reducible refine (HN1.out).mono ?_); rintro e wc1 ⟨rfl, hb⟩; have HsR := Lib.hid (HsR.out.below hb); have HsS := Lib.hid (HsS.out.below hb); have Hbx := Lib.hid (Hbx.out.below hb); have HB := Lib.hid (HB.out.trans (hb.mono HB.out.size)); have KS := Hbx.out.S; have HN2 := Lib.hid (HtS.out _ HB.out HsS.out); clear hb HN1)
              | (go_at_call 18; (with_reducible refine (HN2.out).mono ?_); rintro e wc2 ⟨rfl, hb⟩; have HsR := Lib.hid (HsR.out.below hb); have HsS := Lib.hid (HsS.out.below hb); have Hbx := Lib.hid (Hbx.out.below hb); have HB := Lib.hid (HB.out.trans (hb.mono HB.out.size)); have KS := Hbx.out.S; clear hb HN2))
          go_wp2_with fail
          go_ret
          exact ⟨rfl, HB.out⟩
        · have d3 : decide ((T1.size : Int) ≤ 1000) = false := by simp; omega
          have Hq := Lib.hid hq; clear hq
          go_wp2_with fail
          refine HR1.out.mono ?_
          rintro e w3 ⟨rfl, hb3⟩
          have HsR := Lib.hid (HsR.out.below hb3); have HsS := Lib.hid (HsS.out.below hb3); have HB3 := Lib.hid (HB2.out.trans (hb3.mono HB2.out.size)); have Hbx := Lib.hid (Hbx.out.below hb3)
          have KS := Hbx.out.S
          clear hb3 HR1
          go_wp2_with fail
          refine (HtT.out _ HB3.out HsR.out).mono ?_
          rintro e w4 ⟨rfl, hb4⟩
          have HsR := Lib.hid (HsR.out.below hb4); have HsS := Lib.hid (HsS.out.below hb4); have HB4 := Lib.hid (HB3.out.trans (hb4.mono HB3.out.size)); have Hbx := Lib.hid (Hbx.out.below hb4)
          have KS := Hbx.out.S
          clear hb4
          go_wp2_with fail
          have hdr : Below w4.heap.size w4 w4.drew := (Below.refl _ _).drew
          have HsR := Lib.hid (HsR.out.below hdr); have HsS := Lib.hid (HsS.out.below hdr); have HB := Lib.hid (HB4.out.trans (hdr.mono HB4.out.size)); have Hbx := Lib.hid (Hbx.out.below hdr)
          have KS := Hbx.out.S
          clear hdr
          have HN0 := Lib.hid (sameT3 _ _ lR lS w4.drew HsR.out HsS.out E HHE.out)
          have tE := HT12.out
          go_region_held3 (fun w' => w'.cell? ⟨w1.heap.size, 0, none⟩ = some (.slice aR lR.length cR) ∧ w'.cell? ⟨w2.heap.size, 0, none⟩ = some (.slice aS lS.length cS))
            (exact KS)
            (first
              | (go_at_call 10; (with_reducible refine (HN0.out).mono ?_); rintro e wc0 ⟨rfl, hb⟩; have HsR := Lib.hid (HsR.out.below hb); have HsS := Lib.hid (HsS.out.below hb); have Hbx := Lib.hid (Hbx.out.below hb); have HB := Lib.hid (HB.out.trans (hb.mono HB.out.size)); have KS := Hbx.out.S; have HN1 := Lib.hid (HtT.out _ HB.out HsR.out); clear hb HN0)
              | (go_at_call 18; (with_reducible refine (HN1.out).mono ?_); rintro e wc1 ⟨rfl, hb⟩; have HsR := Lib.hid (HsR.out.below hb); have HsS := Lib.hid (HsS.out.below hb); have Hbx := Lib.hid (Hbx.out.below hb); have HB := Lib.hid (HB.out.trans (hb.mono HB.out.size)); have KS := Hbx.out.S; have HN2 := Lib.hid (HtS.out _ HB.out HsS.out); clear hb HN1)
              | (go_at_call 18; (with_reducible refine (HN2.out).mono ?_); rintro e wc2 ⟨rfl, hb⟩; have HsR := Lib.hid (HsR.out.below hb); have HsS := Lib.hid (HsS.out.below hb); have Hbx := Lib.hid (Hbx.out.below hb); have HB := Lib.hid (HB.out.trans (hb.mono HB.out.size)); have KS := Hbx.out.S; clear hb HN2))
          go_wp2_with fail
          go_ret
          exact ⟨rfl, HB.out⟩
      · obtain ⟨t2, x2, rfl⟩ := Herr.out _ _ he2
        clear he2 Hc1 Hc2 hr1
        go_wp2_with fail
        refine HR1.out.mono ?_
        rintro e w4 ⟨rfl, hb4⟩
        have HB4 := Lib.hid (HB2.out.trans (hb4.mono HB2.out.size))
        have HR2 := Lib.hid (ranged_any w4 (HLT.out _ HB4.out).1 (HLT.out _ HB4.out).2)
        clear hb4 HR1
        go_wp2_with fail
        refine HR2.out.mono ?_
        rintro e w5 ⟨rfl, hb5⟩
        have HB5 := Lib.hid (HB4.out.trans (hb5.mono HB4.out.size))
        clear hb5 HR2
        go_wp2_with fail
        go_ret
        exact ⟨rfl, HB5.out⟩
    · obtain ⟨t1, x1, rfl⟩ := Herr.out _ _ he1
      clear he1 Hc1 Hc2
      go_wp2_with fail
      refine HR1.out.mono ?_
      rintro e w4 ⟨rfl, hb4⟩
      have HB4 := Lib.hid (HB2.out.trans (hb4.mono HB2.out.size))
      have HR2 := Lib.hid (ranged_any w4 (HLT.out _ HB4.out).1 (HLT.out _ HB4.out).2)
      clear hb4 HR1
      go_wp2_with fail
      refine HR2.out.mono ?_
      rintro e w5 ⟨rfl, hb5⟩
      have HB5 := Lib.hid (HB4.out.trans (hb5.mono HB4.out.size))
      clear hb5 HR2
      go_wp2_with fail
      go_ret
      exact ⟨rfl, HB5.out⟩
  · have h2 : 300 < a.size ∨ a.size ≤ 300 ∧ 300 < b.size := by omega
    clear h1 hL hT
    rcases h2 with h | ⟨h, h'⟩
    · have d1 : decide (300 < (a.size : Int)) = true := by simp; omega
      go_enter Tryz.func5, Tryz.ntmps5
      go_wp2_with fail
      go_ret
      exact ⟨rfl, Below.refl _ _⟩
    · have d1 : decide (300 < (a.size : Int)) = false := by simp; omega
      have d2 : decide (300 < (b.size : Int)) = true := by simp; omega
      go_enter Tryz.func5, Tryz.ntmps5
      go_wp2_with fail
      go_ret
      exact ⟨rfl, Below.refl _ _⟩
end Go.Proofs.YtpnchjbdjcihfaaGreatDoor
