import Derived.Test.YtmlfelbkgoplhaaGreatDoorZlPkX
set_option linter.unusedVariables false
set_option linter.unusedSimpArgs false
namespace Go.Proofs.YtmlfelbkgoplhaaGreatDoor
open Go.RowKit
set_option maxRecDepth 100000 in
set_option maxHeartbeats 32000000 in
theorem zdD (s0 : ByteArray) (n x : Nat) (v : Value) (cs : List Int) (w : World) (hm : s0.size ≤ 9223372036854775807) (hn : n < 18446744073709551616) (hx : x < 18446744073709551616) (hv : zD w v cs) (hL : xD w) (hT : zO w) : Calls Tryz.prog 3 #[.string s0, .int .u64 n, .int .u64 x, v] w fun e w' => e = .returned (.bool true) ∧ Below w.heap.size w w' := by
 obtain ⟨wb, hwb⟩ : ∃ wb, wb = w.alloc (.cells #[v] 23) := ⟨_, rfl⟩
 have hbb : Below w.heap.size w wb := by rw [hwb]; exact zba
 have hkb : wb.heap[w.heap.size]? = some (.cells #[v] 23 (0, 0)) := by rw [hwb]; exact za rfl
 have HP := hid (zlQ s0 10 wb hm (by decide) (hL.below hbb) (hT.below hbb))
 have HR := hid (show ∀ w', Below wb.heap.size wb w' → Calls Tryz.prog 10 #[] w' fun e w'' => e = .returned (.bool true) ∧ Below w'.heap.size w' w'' from fun w' hw => zlM w' ((hL.below hbb).below hw) ((hT.below hbb).below hw))
 have HT := hid (show ∀ W, Below wb.heap.size wb W → zO W ∧ Below w.heap.size w W from fun W hW => ⟨(hT.below hbb).below hW, hbb.trans (hW.mono hbb.size)⟩)
 have HV := hid (show ∀ W, Below wb.heap.size wb W → W.cell? ⟨w.heap.size, 0, none⟩ = some v ∧ zD W v cs from fun W hW => ⟨zco ((hW.block _ (zlb hkb)).trans hkb), (hv.below hbb).below hW⟩)
 have hsh : ∃ a Lc c, Lc = cs.length ∧ Lc ≤ 17592186044416 ∧ v = .slice a Lc c := by
  obtain ⟨a, b, o, c, h1, _, _, _, _, _, h7⟩ := hv
  exact ⟨a, _, c, rfl, h7, h1⟩
 obtain ⟨av, Lc, cv, hLc, hLm, rfl⟩ := hsh
 have HLc := hid hLc; have Hn := hid hn; have Hx := hid hx
 clear hL hT hm hn hx hv hbb hkb hLc
 go_enter Tryz.func3, Tryz.ntmps3
 go_upto_region 1 with fail
 rw [← hwb]
 clear hwb
 go_wp2_with fail
 refine HP.out.mono ?_
 rintro e w1 ⟨⟨p, ls, items, a1, c1, a2, c2, rfl, hcat, hls, _, hlen, hmo, hin⟩ | ⟨rfl, hno⟩, hb1⟩
 ·
  obtain ⟨hok, vl, vi, hat⟩ := hcat
  have hn10 : items.length ≤ 10 := by omega
  have hz := zoO hok
  have hrm := zkS hok hn10
  have hOf := fun (W : World) (hW : Below w1.heap.size w1 W) => zgd p vl vi ls items 4000 W (hat.below hW) hok hn10 hlen (by decide) hrm
  obtain ⟨rc, hrc⟩ : ∃ rc, rc = zJ ls items := ⟨_, rfl⟩
  rw [← hrc] at hin hlen hz hOf ⊢
  obtain ⟨V, hV⟩ : ∃ V, V = items.length := ⟨_, rfl⟩
  rw [← hV] at hz hOf hn10 ⊢
  obtain ⟨L, hL⟩ : ∃ L, L = rc.length := ⟨_, rfl⟩
  rw [← hL] at hin hlen ⊢
  obtain ⟨w2, hw2⟩ : ∃ w2, w2 = w1.alloc (.cells #[.int .i64 V, .slice a1 L c1, .slice a2 L c2] 27) := ⟨_, rfl⟩
  have hb2 : Below w1.heap.size w1 w2 := by rw [hw2]; exact zba
  have hk2 : w2.heap[w1.heap.size]? = some (.cells #[.int .i64 V, .slice a1 L c1, .slice a2 L c2] 27 (0, 0)) := by rw [hw2]; exact za rfl
  have HOf := hid (fun (W : World) (hW : Below w2.heap.size w2 W) => hOf W (hb2.trans (hW.mono hb2.size)))
  have HB2 := hid (hb1.trans (hb2.mono hb1.size)); have Hk2 := hid hk2
  have Hz := hid hz; have H10 := hid hn10
  clear hok hat hls hb1 hb2 hk2 hin HP hrc hL hlen hz hrm hOf hn10 hmo hV
  go_upto_region 2 with fail
  rw [← hw2]
  clear hw2
  go_wp2_with fail
  refine (HR.out _ HB2.out).mono ?_
  rintro e w3 ⟨rfl, hb3⟩
  have hB3 := HB2.out.trans (hb3.mono HB2.out.size)
  have v0 := (HV.out _ hB3).1
  have HB3 := hid hB3
  by_cases h30 : 30 < (Lc : Int)
  ·
   clear hb3 hB3 HOf
   go_wp2_with fail
   refine (HR.out _ HB3.out).mono ?_
   rintro e w4 ⟨rfl, hb4⟩
   have HB4 := hid (HB3.out.trans (hb4.mono HB3.out.size))
   clear hb4
   go_wp2_with fail
   go_ret
   exact ⟨rfl, (HT.out _ HB4.out).2⟩
  ·
   have HO3 := hid (HOf.out w3 hb3)
   have Hb3 := hid hb3
   clear hb3 HOf hB3
   go_wp2_with fail
   refine HO3.out.mono ?_
   rintro e w4 ⟨⟨q, s, st, all, rfl, hq, hsp, hi, _, _, _⟩, hb4⟩
   have lq := zlb hq
   have HW := hid (show ∀ W, Below w4.heap.size w4 W → (W.cell? ⟨q, 0, none⟩ = some (.pointer (some ⟨s.ps, 0, none⟩)) ∧ W.cell? ⟨q, 1, none⟩ = some (.int .i64 all)) ∧ (W.cell? ⟨w1.heap.size, 0, none⟩ = some (.int .i64 V) ∧ W.cell? ⟨w.heap.size, 0, none⟩ = some (.slice av Lc cv)) ∧ zD W (.slice av Lc cv) cs ∧ zO W ∧ Below w.heap.size w W from fun W hW => by
    have hbb : Below w2.heap.size w2 W := (Hb3.out.trans (hb4.mono Hb3.out.size)).trans (hW.mono (Hb3.out.trans (hb4.mono Hb3.out.size)).size)
    have hbw := HB2.out.trans (hbb.mono HB2.out.size)
    obtain ⟨g2, _, _⟩ := zL ((hbb.block _ (zlb Hk2.out)).trans Hk2.out)
    exact ⟨zcY ((hW.block _ (zlb hq)).trans hq), ⟨g2, (HV.out _ hbw).1⟩, (HV.out _ hbw).2, HT.out _ hbw⟩)
   have hV24 : V ≤ 24 := by have := H10.out; omega
   obtain ⟨hmk, hnv⟩ := zm5 n V Hn.out hV24
   obtain ⟨n1, hn1⟩ : ∃ n1, n1 = n &&& (2 ^ V - 1) := ⟨_, rfl⟩
   rw [← hn1] at hmk hnv
   have hn64 : n1 < 18446744073709551616 := by have := Nat.pow_le_pow_right (n := 2) (j := 24) (by decide) hV24; omega
   have HK := hid (leaOk hV24 hi.sok hi.has x hnv)
   have HKc := hid (fun (hf : Fair (yj cs)) (h : den st.c all (zU n1) = true) => zmF hV24 hi.sok hi.has hf h)
   have hdb := zos hi hV24 Hz.out hn64
   have HH := hid (show ∀ W, Below w4.heap.size w4 W → Calls Tryz.prog 12 #[.pointer (some ⟨s.ps, 0, none⟩), .int .i64 all, .int .u64 n1] W fun e w' => e = .returned (.tuple #[.bool (den st.c all (zU n1)), .nilIface]) ∧ Below W.heap.size W w' from fun W hW => by
    have h := zlu (V : Int) all n1 W s st (hsp.below hW) hi.sok hi.has
    rw [hdb] at h
    exact h)
   have HL := hid (fun (W : World) (hW : Below w4.heap.size w4 W) => zlm q s V st all W hV24 (hsp.below hW) ((hW.block _ lq).trans hq) hi.sok hi.has)
   have HN := hid (fun (y : Nat) (hy : y < 18446744073709551616) (W : World) (hW : Below w4.heap.size w4 W) => zmr q s V st all W hV24 (hsp.below hW) ((hW.block _ lq).trans hq) hi.sok hi.has y hy)
   have HNx := hid (fun (W : World) (hW : Below w4.heap.size w4 W) => HN.out x Hx.out W hW)
   have HNn := hid (fun (W : World) (hW : Below w4.heap.size w4 W) => HN.out n1 hn64 W hW)
   clear HN
   have HC := hid (fun (W : World) (hW : Below w4.heap.size w4 W) => zkU q s V st all W hV24 (hsp.below hW) ((hW.block _ lq).trans hq) hi.sok hi.has (.slice av Lc cv) cs (HW.out W hW).2.2.1 (by have := HLc.out; omega))
   obtain ⟨B, hB⟩ : ∃ B, B = den st.c all (zU n1) := ⟨_, rfl⟩
   rw [← hB] at HK HKc HH
   generalize zC V st.c zF V all = mL at HK HL
   generalize zC V st.c (qb x) V all = mN at HK HNx
   generalize zC V st.c (qb n1) V all = mB at HK HNn
   generalize zC V st.c (yj cs) V all = mC at HKc HC
   have HB4 := hid hb4
   have HB := hid ((Below.refl w4.heap.size w4).drew)
   have HN1 := hid hn1; have Hn64 := hid hn64
   obtain ⟨k0, k1⟩ := (HW.out _ (Below.refl _ _)).2.1
   have KS := (HW.out _ HB.out).1
   have hsz : (V : Int) < 64 := by omega
   clear hq hsp hi hb4 HO3 hdb hB hn1 hn64 hnv
   go_upto_region 8 with fail
   go_region_held3 (fun w' => w'.cell? ⟨q, 0, none⟩ = some (.pointer (some ⟨s.ps, 0, none⟩)) ∧ w'.cell? ⟨q, 1, none⟩ = some (.int .i64 all)) (first | (with_reducible exact KS) | go_keep)
    (first | (go_at_call 12; (refine (HH.out _ (by first | (with_reducible exact HB.out))).mono ?_); rintro e w7 ⟨rfl, hb7⟩; have hB7 := HB.out.trans (hb7.mono HB.out.size); clear hb7 KS HB; have HB := hid hB7; clear hB7; have KS := (HW.out _ HB.out).1))
   clear KS k0 k1 hmk HH
   obtain ⟨lc, lv, lo⟩ := mL
   obtain ⟨nc, nv, no⟩ := mN
   have hno := HK.out.eq
   dsimp only at hno
   obtain rfl := hno
   cases B with
   | false =>
    cases lo with
    | true =>
     have HL2 := hid (show ∀ W, Below w4.heap.size w4 W → Calls Tryz.prog 13 #[.pointer (some ⟨q, 0, none⟩)] W fun e w' => e = (.returned (.tuple #[.int .u64 lv, .nilIface])) ∧ Below W.heap.size W w' from fun W hW => HL.out W hW)
     have HN2 := hid (show ∀ W, Below w4.heap.size w4 W → Calls Tryz.prog 14 #[.pointer (some ⟨q, 0, none⟩), .int .u64 x] W fun e w' => e = (.returned (.tuple #[.int .u64 nv, .nilIface])) ∧ Below W.heap.size W w' from fun W hW => HNx.out W hW)
     clear HL HNx HNn HKc HK
     go_wp2_with fail
     refine (HL2.out _ HB.out).mono ?_
     rintro e w21 ⟨rfl, hb21⟩
     have hB9 := HB.out.trans (hb21.mono HB.out.size)
     clear hb21 HB
     have HB := hid hB9
     clear hB9
     go_wp2_with fail
     refine (HN2.out _ HB.out).mono ?_
     rintro e w22 ⟨rfl, hb22⟩
     have hB9 := HB.out.trans (hb22.mono HB.out.size)
     clear hb22 HB
     have HB := hid hB9
     clear hB9
     obtain ⟨cc, cv2, co⟩ := mC
     have k1 := (HW.out _ HB.out).2.1.2
     go_wp2_with fail
     clear k1
     refine (HC.out _ HB.out).mono ?_
     rintro e w10 hc10
     have hc11 : ∃ y er, e = .returned (.tuple #[.int .u64 y, er]) ∧ Below w22.heap.size w22 w10 := by
      rcases hc10 with ⟨⟨rfl, hb10⟩, _⟩ | ⟨rfl, hb10⟩
      ·
       cases co
       · exact ⟨_, _, rfl, hb10⟩
       · exact ⟨_, _, rfl, hb10⟩
      · exact ⟨_, _, rfl, hb10⟩
     obtain ⟨cy, cer, rfl, hb10⟩ := hc11
     clear hc10 HC
     have hB9 := HB.out.trans (hb10.mono HB.out.size)
     clear hb10 HB
     have HB := hid hB9
     clear hB9
     go_wp2_with fail
     refine (zhv _).mono ?_
     rintro e w23 ⟨rfl, rfl⟩
     go_wp2_with fail
     refine (zhv _).mono ?_
     rintro e w24 ⟨rfl, rfl⟩
     go_wp2_with fail
     go_ret
     exact ⟨rfl, (HW.out _ HB.out).2.2.2.2⟩
    | false =>
     have HL2 := hid (show ∀ W, Below w4.heap.size w4 W → Calls Tryz.prog 13 #[.pointer (some ⟨q, 0, none⟩)] W fun e w' => e = (.returned (.tuple #[.int .u64 0, .iface 45 (.int .i64 8)])) ∧ Below W.heap.size W w' from fun W hW => HL.out W hW)
     have HN2 := hid (show ∀ W, Below w4.heap.size w4 W → Calls Tryz.prog 14 #[.pointer (some ⟨q, 0, none⟩), .int .u64 x] W fun e w' => e = (.returned (.tuple #[.int .u64 0, .iface 45 (.int .i64 8)])) ∧ Below W.heap.size W w' from fun W hW => HNx.out W hW)
     clear HL HNx HNn HKc HK
     go_wp2_with fail
     refine (HL2.out _ HB.out).mono ?_
     rintro e w25 ⟨rfl, hb25⟩
     have hB9 := HB.out.trans (hb25.mono HB.out.size)
     clear hb25 HB
     have HB := hid hB9
     clear hB9
     go_wp2_with fail
     refine (HN2.out _ HB.out).mono ?_
     rintro e w26 ⟨rfl, hb26⟩
     have hB9 := HB.out.trans (hb26.mono HB.out.size)
     clear hb26 HB
     have HB := hid hB9
     clear hB9
     obtain ⟨cc, cv2, co⟩ := mC
     have k1 := (HW.out _ HB.out).2.1.2
     go_wp2_with fail
     clear k1
     refine (HC.out _ HB.out).mono ?_
     rintro e w10 hc10
     have hc11 : ∃ y er, e = .returned (.tuple #[.int .u64 y, er]) ∧ Below w26.heap.size w26 w10 := by
      rcases hc10 with ⟨⟨rfl, hb10⟩, _⟩ | ⟨rfl, hb10⟩
      ·
       cases co
       · exact ⟨_, _, rfl, hb10⟩
       · exact ⟨_, _, rfl, hb10⟩
      · exact ⟨_, _, rfl, hb10⟩
     obtain ⟨cy, cer, rfl, hb10⟩ := hc11
     clear hc10 HC
     have hB9 := HB.out.trans (hb10.mono HB.out.size)
     clear hb10 HB
     have HB := hid hB9
     clear hB9
     go_wp2_with fail
     refine (kF 8 _ (HW.out _ HB.out).2.2.2.1).mono ?_
     rintro e w27 ⟨rfl, hb27⟩
     have hB9 := HB.out.trans (hb27.mono HB.out.size)
     clear hb27 HB
     have HB := hid hB9
     clear hB9
     go_wp2_with fail
     refine (kF 8 _ (HW.out _ HB.out).2.2.2.1).mono ?_
     rintro e w28 ⟨rfl, hb28⟩
     have hB9 := HB.out.trans (hb28.mono HB.out.size)
     clear hb28 HB
     have HB := hid hB9
     clear hB9
     go_wp2_with fail
     go_ret
     exact ⟨rfl, (HW.out _ HB.out).2.2.2.2⟩
   | true =>
    have e1 := HK.out.okL rfl
    obtain ⟨e3, e4⟩ := HK.out.okB rfl
    have le1 := HK.out.le1 rfl
    have le2 := HK.out.le2 rfl
    have bL := HK.out.bL
    have bN := HK.out.bN
    obtain ⟨bc, bv, bo⟩ := mB
    dsimp only at e1 e3 e4 le1 le2 bL bN
    subst e1 e3 e4
    have HL2 := hid (show ∀ W, Below w4.heap.size w4 W → Calls Tryz.prog 13 #[.pointer (some ⟨q, 0, none⟩)] W fun e w' => e = (.returned (.tuple #[.int .u64 lv, .nilIface])) ∧ Below W.heap.size W w' from fun W hW => HL.out W hW)
    have HN2 := hid (show ∀ W, Below w4.heap.size w4 W → Calls Tryz.prog 14 #[.pointer (some ⟨q, 0, none⟩), .int .u64 x] W fun e w' => e = (.returned (.tuple #[.int .u64 nv, .nilIface])) ∧ Below W.heap.size W w' from fun W hW => HNx.out W hW)
    have HB2n := hid (show ∀ W, Below w4.heap.size w4 W → Calls Tryz.prog 14 #[.pointer (some ⟨q, 0, none⟩), .int .u64 bv] W fun e w' => e = (.returned (.tuple #[.int .u64 bv, .nilIface])) ∧ Below W.heap.size W w' from fun W hW => HNn.out W hW)
    have bx1 : nv ^^^ x < 18446744073709551616 := Nat.xor_lt_two_pow (n := 64) (by omega) Hx.out
    have bx2 : bv ^^^ x < 18446744073709551616 := Nat.xor_lt_two_pow (n := 64) Hn64.out Hx.out
    have hx1 := bits_xor_u64_nat nv x (by omega) Hx.out
    have hx2 := bits_xor_u64_nat bv x Hn64.out Hx.out
    have HO := hid (fun (y : Nat) (hy : y < 18446744073709551616) (W : World) (hW : Below w4.heap.size w4 W) => zlX y V w1.heap.size hy hV24 W (HW.out W hW).2.1.1)
    have BL := hid (show lv < 18446744073709551616 by omega); have BX1 := hid bx1; have BX2 := hid bx2; have LE1 := hid le1; have LE2 := hid le2; have X1 := hid hx1; have X2 := hid hx2
    clear HL HNx HNn HK bL bN bx1 bx2 hx1 hx2 le1 le2
    go_wp2_with fail
    refine (HL2.out _ HB.out).mono ?_
    rintro e w29 ⟨rfl, hb29⟩
    have hB9 := HB.out.trans (hb29.mono HB.out.size)
    clear hb29 HB
    have HB := hid hB9
    clear hB9
    go_wp2_with fail
    refine (HN2.out _ HB.out).mono ?_
    rintro e w30 ⟨rfl, hb30⟩
    have hB9 := HB.out.trans (hb30.mono HB.out.size)
    clear hb30 HB
    have HB := hid hB9
    clear hB9
    have k1 := (HW.out _ HB.out).2.1.2
    go_wp2_with fail
    clear k1
    refine (HC.out _ HB.out).mono ?_
    rintro e w10 (⟨⟨rfl, hb10⟩, hr⟩ | ⟨rfl, hb10⟩)
    ·
     clear HC
     have hB9 := HB.out.trans (hb10.mono HB.out.size)
     clear hb10 HB
     have HB := hid hB9
     clear hB9
     have hf := zfy hr
     obtain ⟨e5, le3, bC⟩ := HKc.out hf (by first | trivial | rfl)
     obtain ⟨cc, cv2, co⟩ := mC
     dsimp only at e5 le3 bC
     subst e5
     clear HKc
     simp only [if_true]
     have HPr := hid (fun (y : Nat) (hy : y < 18446744073709551616) (W : World) (hW : Below w4.heap.size w4 W) => zkx y V w1.heap.size w.heap.size cs (.slice av Lc cv) hy hV24 (by have := HLc.out; omega) hf W (fun W' hW' => (fun h => ⟨h.2.1.1, h.2.1.2, h.2.2.1⟩) (HW.out W' (hW.trans (hW'.mono hW.size)))))
     have LE3 := hid le3; have BC := hid (show cv2 < 18446744073709551616 by omega)
     clear hr hf le3 bC
     go_wp2_with fail
     refine (HB2n.out _ HB.out).mono ?_
     rintro e w31 ⟨rfl, hb31⟩
     have hB9 := HB.out.trans (hb31.mono HB.out.size)
     clear hb31 HB
     have HB := hid hB9
     clear hB9
     clear HL2 HN2 HB2n
     have hx1 := X1.out; have hx2 := X2.out; have le1 := LE1.out; have le2 := LE2.out
     have hn1i : ((bv : Int) == (bv : Int)) = true := by simp
     go_wp2_with fail
     refine (HO.out lv BL.out _ HB.out).mono ?_
     rintro e w32 ⟨rfl, rfl⟩
     go_wp2_with fail
     refine (HO.out bv Hn64.out _ HB.out).mono ?_
     rintro e w33 ⟨rfl, rfl⟩
     go_wp2_with fail
     refine (HO.out (nv ^^^ x) BX1.out _ HB.out).mono ?_
     rintro e w34 ⟨rfl, rfl⟩
     go_wp2_with fail
     refine (HO.out (bv ^^^ x) BX2.out _ HB.out).mono ?_
     rintro e w35 ⟨rfl, rfl⟩
     have le3 := LE3.out
     go_wp2_with fail
     refine (HPr.out cv2 BC.out _ HB.out).mono ?_
     rintro e w36 ⟨rfl, hb36⟩
     have hB9 := HB.out.trans (hb36.mono HB.out.size)
     clear hb36 HB
     have HB := hid hB9
     clear hB9
     go_wp2_with fail
     refine (HPr.out bv Hn64.out _ HB.out).mono ?_
     rintro e w37 ⟨rfl, hb37⟩
     have hB9 := HB.out.trans (hb37.mono HB.out.size)
     clear hb37 HB
     have HB := hid hB9
     clear hB9
     go_wp2_with fail
     go_ret
     exact ⟨rfl, (HW.out _ HB.out).2.2.2.2⟩
    ·
     clear HC
     have hB9 := HB.out.trans (hb10.mono HB.out.size)
     clear hb10 HB
     have HB := hid hB9
     clear hB9
     clear HKc
     go_wp2_with fail
     refine (HB2n.out _ HB.out).mono ?_
     rintro e w38 ⟨rfl, hb38⟩
     have hB9 := HB.out.trans (hb38.mono HB.out.size)
     clear hb38 HB
     have HB := hid hB9
     clear hB9
     clear HL2 HN2 HB2n
     have hx1 := X1.out; have hx2 := X2.out; have le1 := LE1.out; have le2 := LE2.out
     have hn1i : ((bv : Int) == (bv : Int)) = true := by simp
     go_wp2_with fail
     refine (HO.out lv BL.out _ HB.out).mono ?_
     rintro e w39 ⟨rfl, rfl⟩
     go_wp2_with fail
     refine (HO.out bv Hn64.out _ HB.out).mono ?_
     rintro e w40 ⟨rfl, rfl⟩
     go_wp2_with fail
     refine (HO.out (nv ^^^ x) BX1.out _ HB.out).mono ?_
     rintro e w41 ⟨rfl, rfl⟩
     go_wp2_with fail
     refine (HO.out (bv ^^^ x) BX2.out _ HB.out).mono ?_
     rintro e w42 ⟨rfl, rfl⟩
     go_wp2_with fail
     go_ret
     exact ⟨rfl, (HW.out _ HB.out).2.2.2.2⟩
 ·
  have HB1 := hid (hb1.alloc hb1.size (.cells #[.int .i64 0, .slice none 0 0, .slice none 0 0] 27))
  clear hno hb1 HP
  obtain ⟨w2, hw2⟩ : ∃ w2, w2 = w1.alloc (.cells #[.int .i64 0, .slice none 0 0, .slice none 0 0] 27) := ⟨_, rfl⟩
  rw [← hw2] at HB1
  go_upto_region 2 with fail
  rw [← hw2]
  clear hw2
  go_wp2_with fail
  refine (HR.out _ HB1.out).mono ?_
  rintro e w3 ⟨rfl, hb3⟩
  have HB3 := hid (HB1.out.trans (hb3.mono HB1.out.size))
  clear hb3
  go_wp2_with fail
  refine (HR.out _ HB3.out).mono ?_
  rintro e w4 ⟨rfl, hb4⟩
  have HB4 := hid (HB3.out.trans (hb4.mono HB3.out.size))
  clear hb4
  go_wp2_with fail
  go_ret
  exact ⟨rfl, (HT.out _ HB4.out).2⟩
