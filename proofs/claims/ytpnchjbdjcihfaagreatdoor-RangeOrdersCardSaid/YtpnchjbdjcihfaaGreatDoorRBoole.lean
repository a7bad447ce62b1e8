/- The walk of the law RangeBoole. (Printed by gen_rboole.py.) -/
import Derived.Test.YtpnchjbdjcihfaaGreatDoorRanged
import Derived.Test.YtpnchjbdjcihfaaGreatDoorRngL
namespace Go.Proofs.YtpnchjbdjcihfaaGreatDoor
open Go.RowKit
set_option linter.unusedVariables false

theorem sameT (va vb : Value) (xs ys : List Spn) (w : World) (ha : IsSp w va xs) (hb : IsSp w vb ys) (h : xs = ys) :
    Calls Tryz.prog 10 #[.agg #[va], .agg #[vb]] w fun e w' => e = .returned (.bool true) ∧ Below w.heap.size w w' := by
  have := same_any va vb xs ys w ha hb
  rwa [decide_eq_true h] at this
theorem emptyT (v : Value) (l : List Spn) (w : World) (h : IsSp w v l) (e : l = []) : Calls Tryz.prog 13 #[.agg #[v]] w fun e w' => e = .returned (.bool true) ∧ Below w.heap.size w w' := by
  have := empty_any v l w h
  rwa [decide_eq_true e] at this
/-- Three boxes. -/
structure Bx3 (p1 p2 p3 : Nat) (v1 v2 v3 : Value) (w : World) : Prop where
  b1 : w.heap[p1]? = some (.cells #[v1] 24 (0, 0))
  b2 : w.heap[p2]? = some (.cells #[v2] 24 (0, 0))
  b3 : w.heap[p3]? = some (.cells #[v3] 24 (0, 0))
theorem Bx3.below {p1 p2 p3 : Nat} {v1 v2 v3 : Value} {w w' : World} (h : Bx3 p1 p2 p3 v1 v2 v3 w) (hb : Below w.heap.size w w') : Bx3 p1 p2 p3 v1 v2 v3 w' :=
  ⟨(hb.block _ (lt_of_block h.b1)).trans h.b1, (hb.block _ (lt_of_block h.b2)).trans h.b2, (hb.block _ (lt_of_block h.b3)).trans h.b3⟩
theorem Bx3.S {p1 p2 p3 : Nat} {v1 v2 v3 : Value} {w : World} (h : Bx3 p1 p2 p3 v1 v2 v3 w) : w.cell? ⟨p1, 0, none⟩ = some v1 ∧ w.cell? ⟨p2, 0, none⟩ = some v2 ∧ w.cell? ⟨p3, 0, none⟩ = some v3 := ⟨cell_of_one h.b1, cell_of_one h.b2, cell_of_one h.b3⟩

set_option maxRecDepth 100000 in
set_option maxHeartbeats 64000000 in
theorem rangeBoole_walk (a b c : ByteArray) (w : World) (ha : a.size ≤ 9223372036854775807) (hb : b.size ≤ 9223372036854775807) (hc : c.size ≤ 9223372036854775807) (hL : LaidR w) (hT : TypeLaid w) :
    Calls Tryz.prog 3 #[.string a, .string b, .string c] w fun e w' => e = .returned (.bool true) ∧ Below w.heap.size w w' := by
  by_cases h1 : a.size ≤ 200 ∧ b.size ≤ 200 ∧ c.size ≤ 200
  · obtain ⟨h1, h2, h3⟩ := h1
    have d1 : decide (200 < (a.size : Int)) = false := by simp; omega
    have d2 : decide (200 < (b.size : Int)) = false := by simp; omega
    have d3 : decide (200 < (c.size : Int)) = false := by simp; omega
    have HLT := Lib.hid (show ∀ w', Below w.heap.size w w' → LaidR w' ∧ TypeLaid w' from fun w' hw => ⟨hL.below hw, hT.below hw⟩)
    have HP1 := Lib.hid (range_any a w ha hL hT)
    clear hL hT
    go_enter Tryz.func3, Tryz.ntmps3
    go_wp2_with fail
    refine HP1.out.mono ?_
    rintro e w1 ⟨vR, lR, e1, rfl, hsR, hfR, hlR, hb1, hc1⟩
    obtain ⟨aR, cR, rfl, _⟩ := hsR.shape
    obtain ⟨W1, hW1⟩ : ∃ W1, W1 = w1.alloc (.cells #[.slice aR lR.length cR] 24) := ⟨_, rfl⟩
    have hb1' : Below w1.heap.size w1 W1 := by rw [hW1]; exact (Below.refl _ _).alloc (Nat.le_refl _) _
    have hk1 : W1.heap[w1.heap.size]? = some (.cells #[.slice aR lR.length cR] 24 (0, 0)) := by rw [hW1]; exact heap_at rfl
    have hB1 := hb1.trans (hb1'.mono hb1.size)
    have HP2 := Lib.hid (range_any b W1 hb (HLT.out _ hB1).1 (HLT.out _ hB1).2)
    have HsR := Lib.hid (hsR.below hb1'); have HB1 := Lib.hid hB1; have Hk1 := Lib.hid hk1; have Hc1 := Lib.hid hc1
    clear hsR hb1 hb1' hk1 hB1 hc1 hfR HP1
    go_upto_region 4 with fail
    rw [← hW1]
    clear hW1
    go_wp2_with fail
    refine HP2.out.mono ?_
    rintro e w2 ⟨vS, lS, e2, rfl, hsS, hfS, hlS, hb2, hc2⟩
    obtain ⟨aS, cS, rfl, _⟩ := hsS.shape
    obtain ⟨W2, hW2⟩ : ∃ W2, W2 = w2.alloc (.cells #[.slice aS lS.length cS] 24) := ⟨_, rfl⟩
    have hb2' : Below w2.heap.size w2 W2 := by rw [hW2]; exact (Below.refl _ _).alloc (Nat.le_refl _) _
    have hk2 : W2.heap[w2.heap.size]? = some (.cells #[.slice aS lS.length cS] 24 (0, 0)) := by rw [hW2]; exact heap_at rfl
    have hb22 := hb2.trans (hb2'.mono hb2.size)
    have hB2 := HB1.out.trans (hb22.mono HB1.out.size)
    have HP3 := Lib.hid (range_any c W2 hc (HLT.out _ hB2).1 (HLT.out _ hB2).2)
    have hk12 := (hb22.block _ (lt_of_block Hk1.out)).trans Hk1.out
    have HsR := Lib.hid (HsR.out.below hb22); have HsS := Lib.hid (hsS.below hb2'); have HB2 := Lib.hid hB2; have Hk1 := Lib.hid hk12; have Hk2 := Lib.hid hk2; have Hc2 := Lib.hid hc2
    clear hsS hb2 hb2' hk2 hB2 hc2 hfS HP2 hb22 hk12
    go_upto_region 5 with fail
    rw [← hW2]
    clear hW2
    go_wp2_with fail
    refine HP3.out.mono ?_
    rintro e w3 ⟨vT, lT, e3, rfl, hsT, hfT, hlT, hb3, hc3⟩
    obtain ⟨aT, cT, rfl, _⟩ := hsT.shape
    obtain ⟨W3, hW3⟩ : ∃ W3, W3 = w3.alloc (.cells #[.slice aT lT.length cT] 24) := ⟨_, rfl⟩
    have hb3' : Below w3.heap.size w3 W3 := by rw [hW3]; exact (Below.refl _ _).alloc (Nat.le_refl _) _
    have hk3 : W3.heap[w3.heap.size]? = some (.cells #[.slice aT lT.length cT] 24 (0, 0)) := by rw [hW3]; exact heap_at rfl
    have hb33 := hb3.trans (hb3'.mono hb3.size)
    have hB3 := HB2.out.trans (hb33.mono HB2.out.size)
    have hk13 := (hb33.block _ (lt_of_block Hk1.out)).trans Hk1.out
    have hk23 := (hb33.block _ (lt_of_block Hk2.out)).trans Hk2.out
    have HR1 := Lib.hid (ranged_any W3 (HLT.out _ hB3).1 (HLT.out _ hB3).2)
    have HsR := Lib.hid (HsR.out.below hb33); have HsS := Lib.hid (HsS.out.below hb33); have HsT := Lib.hid (hsT.below hb3'); have HB3 := Lib.hid hB3; have Hk1 := Lib.hid hk13; have Hk2 := Lib.hid hk23; have Hk3 := Lib.hid hk3; have Hc3 := Lib.hid hc3
    clear hsT hb3 hb3' hk3 hB3 hc3 hfT HP3 hb33 hk13 hk23
    go_upto_region 6 with fail
    rw [← hW3]
    clear hW3
    have err : ∀ (w' : World) (er : Value), IsErr w' er → ∃ t x, er = .iface t x := fun w' er h => by
      rcases h with ⟨k, rfl⟩ | ⟨p, k, pl, rfl, _⟩
      · exact ⟨_, _, rfl⟩
      · exact ⟨_, _, rfl⟩
    have Herr := Lib.hid err
    clear err
    rcases Hc1.out with ⟨rfl, _, hr1⟩ | ⟨he1, _, _⟩
    · rcases Hc2.out with ⟨rfl, _, hr2⟩ | ⟨he2, _, _⟩
      · rcases Hc3.out with ⟨rfl, _, hr3⟩ | ⟨he3, _, _⟩
        · have HcR := Lib.hid hr1.can; have HcS := Lib.hid hr2.can; have HcT := Lib.hid hr3.can
          clear hr1 hr2 hr3 Hc1 Hc2 Hc3
          go_wp2_with fail
          refine HR1.out.mono ?_
          rintro e w4 ⟨rfl, hb4⟩
          have HsR := Lib.hid (HsR.out.below hb4); have HsS := Lib.hid (HsS.out.below hb4); have HsT := Lib.hid (HsT.out.below hb4); have HB4 := Lib.hid (HB3.out.trans (hb4.mono HB3.out.size))
          have Hbx := Lib.hid (Bx3.mk ((hb4.block _ (lt_of_block Hk1.out)).trans Hk1.out) ((hb4.block _ (lt_of_block Hk2.out)).trans Hk2.out) ((hb4.block _ (lt_of_block Hk3.out)).trans Hk3.out))
          clear hb4 HR1
          go_upto_region 8 with fail
          have hdr : Below w4.heap.size w4 w4.drew := (Below.refl _ _).drew
          have HsR := Lib.hid (HsR.out.below hdr); have HsS := Lib.hid (HsS.out.below hdr); have HsT := Lib.hid (HsT.out.below hdr); have HB := Lib.hid (HB4.out.trans (hdr.mono HB4.out.size)); have Hbx := Lib.hid (Hbx.out.below hdr)
          have KS := Hbx.out.S
          clear hdr
          have HN0 := Lib.hid (and_any _ _ lR lS w4.drew HsR.out HsS.out HcR.out HcS.out (by omega) (by omega) (by omega))
          go_region_held3 (fun w' => w'.cell? ⟨w1.heap.size, 0, none⟩ = some (.slice aR lR.length cR) ∧ w'.cell? ⟨w2.heap.size, 0, none⟩ = some (.slice aS lS.length cS) ∧ w'.cell? ⟨w3.heap.size, 0, none⟩ = some (.slice aT lT.length cT))
            (exact KS)
            (first
              | (go_at_call 8; (with_reducible refine (HN0.out).mono ?_); rintro e wc0 ⟨vx1, lx1, rfl, hs, hr, hl, _, hb⟩; obtain ⟨ax1, cx1, rfl, _⟩ := hs.shape; have HsR := Lib.hid (HsR.out.below hb); have HsS := Lib.hid (HsS.out.below hb); have HsT := Lib.hid (HsT.out.below hb); have Hbx := Lib.hid (Hbx.out.below hb); have HB := Lib.hid (HB.out.trans (hb.mono HB.out.size)); have KS := Hbx.out.S; have Hsx1 := Lib.hid hs; have Hrx1 := Lib.hid hr; have HN1 := Lib.hid (not_any _ lx1 wc0 Hsx1.out Hrx1.out.1 (by omega)); clear hs hr hb HN0)
              | (go_at_call 9; (with_reducible refine (HN1.out).mono ?_); rintro e wc1 ⟨vx2, lx2, rfl, hs, hr, hl, _, hb⟩; obtain ⟨ax2, cx2, rfl, _⟩ := hs.shape; have HsR := Lib.hid (HsR.out.below hb); have HsS := Lib.hid (HsS.out.below hb); have HsT := Lib.hid (HsT.out.below hb); have Hbx := Lib.hid (Hbx.out.below hb); have HB := Lib.hid (HB.out.trans (hb.mono HB.out.size)); have KS := Hbx.out.S; have Hsx2 := Lib.hid hs; have Hrx2 := Lib.hid hr; have HN2 := Lib.hid (not_any _ lR wc1 HsR.out HcR.out (by omega)); clear hs hr hb HN1)
              | (go_at_call 9; (with_reducible refine (HN2.out).mono ?_); rintro e wc2 ⟨vx3, lx3, rfl, hs, hr, hl, _, hb⟩; obtain ⟨ax3, cx3, rfl, _⟩ := hs.shape; have HsR := Lib.hid (HsR.out.below hb); have HsS := Lib.hid (HsS.out.below hb); have HsT := Lib.hid (HsT.out.below hb); have Hsx2 := Lib.hid (Hsx2.out.below hb); have Hbx := Lib.hid (Hbx.out.below hb); have HB := Lib.hid (HB.out.trans (hb.mono HB.out.size)); have KS := Hbx.out.S; have Hsx3 := Lib.hid hs; have Hrx3 := Lib.hid hr; have HN3 := Lib.hid (not_any _ lS wc2 HsS.out HcS.out (by omega)); clear hs hr hb HN2)
              | (go_at_call 9; (with_reducible refine (HN3.out).mono ?_); rintro e wc3 ⟨vx4, lx4, rfl, hs, hr, hl, _, hb⟩; obtain ⟨ax4, cx4, rfl, _⟩ := hs.shape; have HsR := Lib.hid (HsR.out.below hb); have HsS := Lib.hid (HsS.out.below hb); have HsT := Lib.hid (HsT.out.below hb); have Hsx2 := Lib.hid (Hsx2.out.below hb); have Hsx3 := Lib.hid (Hsx3.out.below hb); have Hbx := Lib.hid (Hbx.out.below hb); have HB := Lib.hid (HB.out.trans (hb.mono HB.out.size)); have KS := Hbx.out.S; have Hsx4 := Lib.hid hs; have Hrx4 := Lib.hid hr; have HN4 := Lib.hid (or_any _ _ lx3 lx4 wc3 Hsx3.out Hsx4.out Hrx3.out.1 Hrx4.out.1 (by omega)); clear hs hr hb HN3)
              | (go_at_call 11; (with_reducible refine (HN4.out).mono ?_); rintro e wc4 ⟨vx5, lx5, rfl, hs, hr, hl, _, hb⟩; obtain ⟨ax5, cx5, rfl, _⟩ := hs.shape; have HsR := Lib.hid (HsR.out.below hb); have HsS := Lib.hid (HsS.out.below hb); have HsT := Lib.hid (HsT.out.below hb); have Hsx2 := Lib.hid (Hsx2.out.below hb); have Hbx := Lib.hid (Hbx.out.below hb); have HB := Lib.hid (HB.out.trans (hb.mono HB.out.size)); have KS := Hbx.out.S; have Hsx5 := Lib.hid hs; have Hrx5 := Lib.hid hr; have HN5 := Lib.hid (sameT _ _ lx2 lx5 wc4 Hsx2.out Hsx5.out (boole_morgan HcR.out HcS.out Hrx1.out Hrx2.out Hrx3.out Hrx4.out Hrx5.out)); clear hs hr hb HN4)
              | (go_at_call 10; (with_reducible refine (HN5.out).mono ?_); rintro e wc5 ⟨rfl, hb⟩; have HsR := Lib.hid (HsR.out.below hb); have HsS := Lib.hid (HsS.out.below hb); have HsT := Lib.hid (HsT.out.below hb); have Hbx := Lib.hid (Hbx.out.below hb); have HB := Lib.hid (HB.out.trans (hb.mono HB.out.size)); have KS := Hbx.out.S; have HN6 := Lib.hid (not_any _ lR wc5 HsR.out HcR.out (by omega)); clear hb HN5)
              | (go_at_call 9; (with_reducible refine (HN6.out).mono ?_); rintro e wc6 ⟨vy1, ly1, rfl, hs, hr, hl, _, hb⟩; obtain ⟨ay1, cy1, rfl, _⟩ := hs.shape; have HsR := Lib.hid (HsR.out.below hb); have HsS := Lib.hid (HsS.out.below hb); have HsT := Lib.hid (HsT.out.below hb); have Hbx := Lib.hid (Hbx.out.below hb); have HB := Lib.hid (HB.out.trans (hb.mono HB.out.size)); have KS := Hbx.out.S; have Hsy1 := Lib.hid hs; have Hry1 := Lib.hid hr; have HN7 := Lib.hid (not_any _ ly1 wc6 Hsy1.out Hry1.out.1 (by omega)); clear hs hr hb HN6)
              | (go_at_call 9; (with_reducible refine (HN7.out).mono ?_); rintro e wc7 ⟨vy2, ly2, rfl, hs, hr, hl, _, hb⟩; obtain ⟨ay2, cy2, rfl, _⟩ := hs.shape; have HsR := Lib.hid (HsR.out.below hb); have HsS := Lib.hid (HsS.out.below hb); have HsT := Lib.hid (HsT.out.below hb); have Hbx := Lib.hid (Hbx.out.below hb); have HB := Lib.hid (HB.out.trans (hb.mono HB.out.size)); have KS := Hbx.out.S; have Hsy2 := Lib.hid hs; have Hry2 := Lib.hid hr; have HN8 := Lib.hid (sameT _ _ ly2 lR wc7 Hsy2.out HsR.out (boole_twice HcR.out Hry1.out Hry2.out)); clear hs hr hb HN7)
              | (go_at_call 10; (with_reducible refine (HN8.out).mono ?_); rintro e wc8 ⟨rfl, hb⟩; have HsR := Lib.hid (HsR.out.below hb); have HsS := Lib.hid (HsS.out.below hb); have HsT := Lib.hid (HsT.out.below hb); have Hbx := Lib.hid (Hbx.out.below hb); have HB := Lib.hid (HB.out.trans (hb.mono HB.out.size)); have KS := Hbx.out.S; have HN9 := Lib.hid (or_any _ _ lS lT wc8 HsS.out HsT.out HcS.out HcT.out (by omega)); clear hb HN8)
              | (go_at_call 11; (with_reducible refine (HN9.out).mono ?_); rintro e wc9 ⟨vz1, lz1, rfl, hs, hr, hl, _, hb⟩; obtain ⟨az1, cz1, rfl, _⟩ := hs.shape; have HsR := Lib.hid (HsR.out.below hb); have HsS := Lib.hid (HsS.out.below hb); have HsT := Lib.hid (HsT.out.below hb); have Hbx := Lib.hid (Hbx.out.below hb); have HB := Lib.hid (HB.out.trans (hb.mono HB.out.size)); have KS := Hbx.out.S; have Hsz1 := Lib.hid hs; have Hrz1 := Lib.hid hr; have HN10 := Lib.hid (and_any _ _ lR lz1 wc9 HsR.out Hsz1.out HcR.out Hrz1.out.1 (by omega) (by omega) (by omega)); clear hs hr hb HN9)
              | (go_at_call 8; (with_reducible refine (HN10.out).mono ?_); rintro e wc10 ⟨vz2, lz2, rfl, hs, hr, hl, _, hb⟩; obtain ⟨az2, cz2, rfl, _⟩ := hs.shape; have HsR := Lib.hid (HsR.out.below hb); have HsS := Lib.hid (HsS.out.below hb); have HsT := Lib.hid (HsT.out.below hb); have Hbx := Lib.hid (Hbx.out.below hb); have HB := Lib.hid (HB.out.trans (hb.mono HB.out.size)); have KS := Hbx.out.S; have Hsz2 := Lib.hid hs; have Hrz2 := Lib.hid hr; have HN11 := Lib.hid (and_any _ _ lR lS wc10 HsR.out HsS.out HcR.out HcS.out (by omega) (by omega) (by omega)); clear hs hr hb HN10)
              | (go_at_call 8; (with_reducible refine (HN11.out).mono ?_); rintro e wc11 ⟨vz3, lz3, rfl, hs, hr, hl, _, hb⟩; obtain ⟨az3, cz3, rfl, _⟩ := hs.shape; have HsR := Lib.hid (HsR.out.below hb); have HsS := Lib.hid (HsS.out.below hb); have HsT := Lib.hid (HsT.out.below hb); have Hsz2 := Lib.hid (Hsz2.out.below hb); have Hbx := Lib.hid (Hbx.out.below hb); have HB := Lib.hid (HB.out.trans (hb.mono HB.out.size)); have KS := Hbx.out.S; have Hsz3 := Lib.hid hs; have Hrz3 := Lib.hid hr; have HN12 := Lib.hid (and_any _ _ lR lT wc11 HsR.out HsT.out HcR.out HcT.out (by omega) (by omega) (by omega)); clear hs hr hb HN11)
              | (go_at_call 8; (with_reducible refine (HN12.out).mono ?_); rintro e wc12 ⟨vz4, lz4, rfl, hs, hr, hl, _, hb⟩; obtain ⟨az4, cz4, rfl, _⟩ := hs.shape; have HsR := Lib.hid (HsR.out.below hb); have HsS := Lib.hid (HsS.out.below hb); have HsT := Lib.hid (HsT.out.below hb); have Hsz2 := Lib.hid (Hsz2.out.below hb); have Hsz3 := Lib.hid (Hsz3.out.below hb); have Hbx := Lib.hid (Hbx.out.below hb); have HB := Lib.hid (HB.out.trans (hb.mono HB.out.size)); have KS := Hbx.out.S; have Hsz4 := Lib.hid hs; have Hrz4 := Lib.hid hr; have HN13 := Lib.hid (or_any _ _ lz3 lz4 wc12 Hsz3.out Hsz4.out Hrz3.out.1 Hrz4.out.1 (by omega)); clear hs hr hb HN12)
              | (go_at_call 11; (with_reducible refine (HN13.out).mono ?_); rintro e wc13 ⟨vz5, lz5, rfl, hs, hr, hl, _, hb⟩; obtain ⟨az5, cz5, rfl, _⟩ := hs.shape; have HsR := Lib.hid (HsR.out.below hb); have HsS := Lib.hid (HsS.out.below hb); have HsT := Lib.hid (HsT.out.below hb); have Hsz2 := Lib.hid (Hsz2.out.below hb); have Hbx := Lib.hid (Hbx.out.below hb); have HB := Lib.hid (HB.out.trans (hb.mono HB.out.size)); have KS := Hbx.out.S; have Hsz5 := Lib.hid hs; have Hrz5 := Lib.hid hr; have HN14 := Lib.hid (sameT _ _ lz2 lz5 wc13 Hsz2.out Hsz5.out (boole_dist Hrz1.out Hrz2.out Hrz3.out Hrz4.out Hrz5.out)); clear hs hr hb HN13)
              | (go_at_call 10; (with_reducible refine (HN14.out).mono ?_); rintro e wc14 ⟨rfl, hb⟩; have HsR := Lib.hid (HsR.out.below hb); have HsS := Lib.hid (HsS.out.below hb); have HsT := Lib.hid (HsT.out.below hb); have Hbx := Lib.hid (Hbx.out.below hb); have HB := Lib.hid (HB.out.trans (hb.mono HB.out.size)); have KS := Hbx.out.S; have HN15 := Lib.hid (not_any _ lR wc14 HsR.out HcR.out (by omega)); clear hb HN14)
              | (go_at_call 9; (with_reducible refine (HN15.out).mono ?_); rintro e wc15 ⟨vu1, lu1, rfl, hs, hr, hl, _, hb⟩; obtain ⟨au1, cu1, rfl, _⟩ := hs.shape; have HsR := Lib.hid (HsR.out.below hb); have HsS := Lib.hid (HsS.out.below hb); have HsT := Lib.hid (HsT.out.below hb); have Hbx := Lib.hid (Hbx.out.below hb); have HB := Lib.hid (HB.out.trans (hb.mono HB.out.size)); have KS := Hbx.out.S; have Hsu1 := Lib.hid hs; have Hru1 := Lib.hid hr; have HN16 := Lib.hid (or_any _ _ lR lu1 wc15 HsR.out Hsu1.out HcR.out Hru1.out.1 (by omega)); clear hs hr hb HN15)
              | (go_at_call 11; (with_reducible refine (HN16.out).mono ?_); rintro e wc16 ⟨vu2, lu2, rfl, hs, hr, hl, _, hb⟩; obtain ⟨au2, cu2, rfl, _⟩ := hs.shape; have HsR := Lib.hid (HsR.out.below hb); have HsS := Lib.hid (HsS.out.below hb); have HsT := Lib.hid (HsT.out.below hb); have Hbx := Lib.hid (Hbx.out.below hb); have HB := Lib.hid (HB.out.trans (hb.mono HB.out.size)); have KS := Hbx.out.S; have Hsu2 := Lib.hid hs; have Hru2 := Lib.hid hr; have HN17 := Lib.hid (any_any wc16); clear hs hr hb HN16)
              | (go_at_call 12; (with_reducible refine (HN17.out).mono ?_); rintro e wc17 ⟨vu3, rfl, hs, _, hb⟩; obtain ⟨lu3, hlu3⟩ : ∃ l, l = [((0 : Int), pastV)] := ⟨_, rfl⟩; rw [← hlu3] at hs; have Heu3 := Lib.hid hlu3; clear hlu3; obtain ⟨au3, cu3, rfl, _⟩ := hs.shape; have HsR := Lib.hid (HsR.out.below hb); have HsS := Lib.hid (HsS.out.below hb); have HsT := Lib.hid (HsT.out.below hb); have Hsu2 := Lib.hid (Hsu2.out.below hb); have Hbx := Lib.hid (Hbx.out.below hb); have HB := Lib.hid (HB.out.trans (hb.mono HB.out.size)); have KS := Hbx.out.S; have Hsu3 := Lib.hid hs; have HN18 := Lib.hid (sameT _ _ lu2 lu3 wc17 Hsu2.out Hsu3.out ((boole_all HcR.out Hru1.out Hru2.out).trans Heu3.out.symm)); clear hs hb HN17)
              | (go_at_call 10; (with_reducible refine (HN18.out).mono ?_); rintro e wc18 ⟨rfl, hb⟩; have HsR := Lib.hid (HsR.out.below hb); have HsS := Lib.hid (HsS.out.below hb); have HsT := Lib.hid (HsT.out.below hb); have Hbx := Lib.hid (Hbx.out.below hb); have HB := Lib.hid (HB.out.trans (hb.mono HB.out.size)); have KS := Hbx.out.S; have HN19 := Lib.hid (not_any _ lR wc18 HsR.out HcR.out (by omega)); clear hb HN18)
              | (go_at_call 9; (with_reducible refine (HN19.out).mono ?_); rintro e wc19 ⟨vk1, lk1, rfl, hs, hr, hl, _, hb⟩; obtain ⟨ak1, ck1, rfl, _⟩ := hs.shape; have HsR := Lib.hid (HsR.out.below hb); have HsS := Lib.hid (HsS.out.below hb); have HsT := Lib.hid (HsT.out.below hb); have Hbx := Lib.hid (Hbx.out.below hb); have HB := Lib.hid (HB.out.trans (hb.mono HB.out.size)); have KS := Hbx.out.S; have Hsk1 := Lib.hid hs; have Hrk1 := Lib.hid hr; have HN20 := Lib.hid (and_any _ _ lR lk1 wc19 HsR.out Hsk1.out HcR.out Hrk1.out.1 (by omega) (by omega) (by omega)); clear hs hr hb HN19)
              | (go_at_call 8; (with_reducible refine (HN20.out).mono ?_); rintro e wc20 ⟨vk2, lk2, rfl, hs, hr, hl, _, hb⟩; obtain ⟨ak2, ck2, rfl, _⟩ := hs.shape; have HsR := Lib.hid (HsR.out.below hb); have HsS := Lib.hid (HsS.out.below hb); have HsT := Lib.hid (HsT.out.below hb); have Hbx := Lib.hid (Hbx.out.below hb); have HB := Lib.hid (HB.out.trans (hb.mono HB.out.size)); have KS := Hbx.out.S; have Hsk2 := Lib.hid hs; have Hrk2 := Lib.hid hr; have HN21 := Lib.hid (emptyT _ lk2 wc20 Hsk2.out (boole_none Hrk1.out Hrk2.out)); clear hs hr hb HN20)
              | (go_at_call 13; (with_reducible refine (HN21.out).mono ?_); rintro e wc21 ⟨rfl, hb⟩; have HsR := Lib.hid (HsR.out.below hb); have HsS := Lib.hid (HsS.out.below hb); have HsT := Lib.hid (HsT.out.below hb); have Hbx := Lib.hid (Hbx.out.below hb); have HB := Lib.hid (HB.out.trans (hb.mono HB.out.size)); have KS := Hbx.out.S; have HN22 := Lib.hid (or_any _ _ lR lS wc21 HsR.out HsS.out HcR.out HcS.out (by omega)); clear hb HN21)
              | (go_at_call 11; (with_reducible refine (HN22.out).mono ?_); rintro e wc22 ⟨vp1, lp1, rfl, hs, hr, hl, _, hb⟩; obtain ⟨ap1, cp1, rfl, _⟩ := hs.shape; have HsR := Lib.hid (HsR.out.below hb); have HsS := Lib.hid (HsS.out.below hb); have HsT := Lib.hid (HsT.out.below hb); have Hbx := Lib.hid (Hbx.out.below hb); have HB := Lib.hid (HB.out.trans (hb.mono HB.out.size)); have KS := Hbx.out.S; have Hsp1 := Lib.hid hs; have Hrp1 := Lib.hid hr; have HN23 := Lib.hid (or_any _ _ lS lR wc22 HsS.out HsR.out HcS.out HcR.out (by omega)); clear hs hr hb HN22)
              | (go_at_call 11; (with_reducible refine (HN23.out).mono ?_); rintro e wc23 ⟨vp2, lp2, rfl, hs, hr, hl, _, hb⟩; obtain ⟨ap2, cp2, rfl, _⟩ := hs.shape; have HsR := Lib.hid (HsR.out.below hb); have HsS := Lib.hid (HsS.out.below hb); have HsT := Lib.hid (HsT.out.below hb); have Hsp1 := Lib.hid (Hsp1.out.below hb); have Hbx := Lib.hid (Hbx.out.below hb); have HB := Lib.hid (HB.out.trans (hb.mono HB.out.size)); have KS := Hbx.out.S; have Hsp2 := Lib.hid hs; have Hrp2 := Lib.hid hr; have HN24 := Lib.hid (sameT _ _ lp1 lp2 wc23 Hsp1.out Hsp2.out (boole_comm Hrp1.out Hrp2.out)); clear hs hr hb HN23)
              | (go_at_call 10; (with_reducible refine (HN24.out).mono ?_); rintro e wc24 ⟨rfl, hb⟩; have HsR := Lib.hid (HsR.out.below hb); have HsS := Lib.hid (HsS.out.below hb); have HsT := Lib.hid (HsT.out.below hb); have Hbx := Lib.hid (Hbx.out.below hb); have HB := Lib.hid (HB.out.trans (hb.mono HB.out.size)); have KS := Hbx.out.S; clear hb HN24))
          go_wp2_with fail
          go_ret
          exact ⟨rfl, HB.out⟩
        · obtain ⟨t3, x3, rfl⟩ := Herr.out _ _ he3
          clear he3 hr1 hr2 Hc1 Hc2 Hc3
          go_wp2_with fail
          refine HR1.out.mono ?_
          rintro e w4 ⟨rfl, hb4⟩
          have HB4 := Lib.hid (HB3.out.trans (hb4.mono HB3.out.size))
          have HR2 := Lib.hid (ranged_any w4 (HLT.out _ HB4.out).1 (HLT.out _ HB4.out).2)
          clear hb4 HR1
          go_wp2_with fail
          refine HR2.out.mono ?_
          rintro e w5 ⟨rfl, hb5⟩
          have HB5 := Lib.hid (HB4.out.trans (hb5.mono HB4.out.size))
          clear hb5 HR2
          go_wp2_with fail
          go_ret
          exact ⟨rfl, HB5.out⟩
      · obtain ⟨t2, x2, rfl⟩ := Herr.out _ _ he2
        clear he2 hr1 Hc1 Hc2 Hc3
        go_wp2_with fail
        refine HR1.out.mono ?_
        rintro e w4 ⟨rfl, hb4⟩
        have HB4 := Lib.hid (HB3.out.trans (hb4.mono HB3.out.size))
        have HR2 := Lib.hid (ranged_any w4 (HLT.out _ HB4.out).1 (HLT.out _ HB4.out).2)
        clear hb4 HR1
        go_wp2_with fail
        refine HR2.out.mono ?_
        rintro e w5 ⟨rfl, hb5⟩
        have HB5 := Lib.hid (HB4.out.trans (hb5.mono HB4.out.size))
        clear hb5 HR2
        go_wp2_with fail
        go_ret
        exact ⟨rfl, HB5.out⟩
    · obtain ⟨t1, x1, rfl⟩ := Herr.out _ _ he1
      clear he1 Hc1 Hc2 Hc3
      go_wp2_with fail
      refine HR1.out.mono ?_
      rintro e w4 ⟨rfl, hb4⟩
      have HB4 := Lib.hid (HB3.out.trans (hb4.mono HB3.out.size))
      have HR2 := Lib.hid (ranged_any w4 (HLT.out _ HB4.out).1 (HLT.out _ HB4.out).2)
      clear hb4 HR1
      go_wp2_with fail
      refine HR2.out.mono ?_
      rintro e w5 ⟨rfl, hb5⟩
      have HB5 := Lib.hid (HB4.out.trans (hb5.mono HB4.out.size))
      clear hb5 HR2
      go_wp2_with fail
      go_ret
      exact ⟨rfl, HB5.out⟩
  · have h2 : 200 < a.size ∨ a.size ≤ 200 ∧ 200 < b.size ∨ a.size ≤ 200 ∧ b.size ≤ 200 ∧ 200 < c.size := by omega
    clear h1 hL hT
    rcases h2 with h | ⟨h, h'⟩ | ⟨h, h', h''⟩
    · have d1 : decide (200 < (a.size : Int)) = true := by simp; omega
      go_enter Tryz.func3, Tryz.ntmps3
      go_wp2_with fail
      go_ret
      exact ⟨rfl, Below.refl _ _⟩
    · have d1 : decide (200 < (a.size : Int)) = false := by simp; omega
      have d2 : decide (200 < (b.size : Int)) = true := by simp; omega
      go_enter Tryz.func3, Tryz.ntmps3
      go_wp2_with fail
      go_ret
      exact ⟨rfl, Below.refl _ _⟩
    · have d1 : decide (200 < (a.size : Int)) = false := by simp; omega
      have d2 : decide (200 < (b.size : Int)) = false := by simp; omega
      have d3 : decide (200 < (c.size : Int)) = true := by simp; omega
      go_enter Tryz.func3, Tryz.ntmps3
      go_wp2_with fail
      go_ret
      exact ⟨rfl, Below.refl _ _⟩
end Go.Proofs.YtpnchjbdjcihfaaGreatDoor
