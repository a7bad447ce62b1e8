/- The walk of SpaceHolds. (Printed by gen_sph.py.) -/
import Derived.Test.YtmlfelbkgoplhaaGreatDoorZhSpcM
import Derived.Test.YtmlfelbkgoplhaaGreatDoorZhPkL
namespace Go.Proofs.YtmlfelbkgoplhaaGreatDoor
open Go.RowKit
set_option linter.unusedVariables false
set_option maxRecDepth 100000 in
set_option maxHeartbeats 32000000 in
theorem spaceHolds_walk (s0 : ByteArray) (n : Nat) (w : World) (hm : s0.size ≤ 9223372036854775807) (hn : n < 18446744073709551616) (hL : LaidR w) (hT : TypeLaid w) : Calls Tryz.prog 4 #[.string s0, .int .u64 n] w fun e w' => e = .returned (.bool true) ∧ Below w.heap.size w w' := by
 have HP := Lib.hid (read_any s0 10 w hm (by decide) hL hT)
 have HR := Lib.hid (show ∀ w', Below w.heap.size w w' → Calls Tryz.prog 10 #[] w' fun e w'' => e = .returned (.bool true) ∧ Below w'.heap.size w' w'' from fun w' hw => laid_any w' (hL.below hw) (hT.below hw))
 have Hn := Lib.hid hn
 clear hL hT hm hn
 go_enter Tryz.func4, Tryz.ntmps4
 go_wp2_with fail
 refine HP.out.mono ?_
 rintro e w1 ⟨⟨p, ls, items, a1, c1, a2, c2, rfl, hcat, hls, _, hlen, hmo, hin⟩ | ⟨rfl, hno⟩, hb1⟩
 ·
  obtain ⟨hok, vl, vi, hat⟩ := hcat
  have hn10 : items.length ≤ 10 := by omega
  have hgf := rules_all hok.few (rules_solv hok hlen (by omega))
  have hwi := rulesWithin hok
  have hz := rulesZ hok
  have hrm := rulesRoom hok hn10
  have hOf := fun (W : World) (hW : Below w1.heap.size w1 W) => solOf_any p vl vi ls items 4000 W (hat.below hW) hok hn10 hlen (by decide) hrm
  obtain ⟨rc, hrc⟩ : ∃ rc, rc = rulesC ls items := ⟨_, rfl⟩
  rw [← hrc] at hin hlen hgf hwi hz hOf ⊢
  obtain ⟨V, hV⟩ : ∃ V, V = items.length := ⟨_, rfl⟩
  rw [← hV] at hgf hz hOf hn10 ⊢
  obtain ⟨L, hL⟩ : ∃ L, L = rc.length := ⟨_, rfl⟩
  rw [← hL] at hin hlen ⊢
  obtain ⟨w2, hw2⟩ : ∃ w2, w2 = w1.alloc (.cells #[.int .i64 V, .slice a1 L c1, .slice a2 L c2] 27) := ⟨_, rfl⟩
  have hb2 : Below w1.heap.size w1 w2 := by rw [hw2]; exact (Below.refl _ _).alloc (Nat.le_refl _) _
  have hk2 : w2.heap[w1.heap.size]? = some (.cells #[.int .i64 V, .slice a1 L c1, .slice a2 L c2] 27 (0, 0)) := by rw [hw2]; exact heap_at rfl
  have HOf := Lib.hid (fun (W : World) (hW : Below w2.heap.size w2 W) => hOf W (hb2.trans (hW.mono hb2.size)))
  have HB2 := Lib.hid (hb1.trans (hb2.mono hb1.size)); have Hk2 := Lib.hid hk2
  have Hcl := Lib.hid (rulesIn_cls (hin.below hb2)); have Hgf := Lib.hid hgf; have Hwi := Lib.hid hwi; have Hz := Lib.hid hz; have H10 := Lib.hid hn10; have HL := Lib.hid hL
  have hlL : (clsOf rc).length = L := by rw [clsOf, List.length_map, hL]
  have HlL := Lib.hid hlL; have Hlen := Lib.hid hlen
  clear hok hat hls hb1 hb2 hk2 hin HP hrc hL hlen hwi hz hgf hrm hOf hn10 hmo hV hlL
  go_upto_region 2 with fail
  rw [← hw2]
  clear hw2
  go_wp2_with fail
  refine (HR.out _ HB2.out).mono ?_
  rintro e w3 ⟨rfl, hb3⟩
  have HO3 := Lib.hid (HOf.out w3 hb3)
  have Hb3 := Lib.hid hb3
  clear hb3 HOf
  go_wp2_with fail
  refine HO3.out.mono ?_
  rintro e w4 ⟨⟨q, s, st, all, rfl, hq, hsp, hi, _, _, _⟩, hb4⟩
  have lq := lt_of_block hq
  have HW := Lib.hid (show ∀ W, Below w4.heap.size w4 W → (W.cell? ⟨q, 0, none⟩ = some (.pointer (some ⟨s.ps, 0, none⟩)) ∧ W.cell? ⟨q, 1, none⟩ = some (.int .i64 all) ∧ W.cell? ⟨w1.heap.size, 0, none⟩ = some (.int .i64 V) ∧ W.cell? ⟨w1.heap.size, 1, none⟩ = some (.slice a1 L c1)) ∧ ClsIn W w.heap.size (.slice a1 L c1) (clsOf rc) ∧ IsSpace W s V st ∧ Below w.heap.size w W from fun W hW => by
   obtain ⟨g0, g1⟩ := cells2q ((hW.block _ (lt_of_block hq)).trans hq)
   have hbb : Below w2.heap.size w2 W := (Hb3.out.trans (hb4.mono Hb3.out.size)).trans (hW.mono (Hb3.out.trans (hb4.mono Hb3.out.size)).size)
   obtain ⟨g2, g3, _⟩ := cellsR ((hbb.block _ (lt_of_block Hk2.out)).trans Hk2.out)
   exact ⟨⟨g0, g1, g2, g3⟩, Hcl.out.below hbb, hsp.below hW, HB2.out.trans (hbb.mono HB2.out.size)⟩)
  have Hi := Lib.hid hi
  have HV1 := Lib.hid (fun (W : World) (hW : Below w4.heap.size w4 W) => Vars_any (V : Int) W s st (HW.out W hW).2.2.1)
  have HH := Lib.hid (show ∀ W, Below w4.heap.size w4 W → Calls Tryz.prog 12 #[.pointer (some ⟨s.ps, 0, none⟩), .int .i64 all, .int .u64 n] W fun e w' => e = .returned (.tuple #[.bool (allB n (clsOf rc)), .nilIface]) ∧ Below W.heap.size W w' from fun W hW => by
   have h := Holds_any (V : Int) all n W s st (HW.out W hW).2.2.1 Hi.out.sok Hi.out.has
   rw [Hi.out.den, holdsB (by have := H10.out; omega) Hz.out Hn.out] at h
   exact h)
  have HC := Lib.hid (show ∀ W, Below w4.heap.size w4 W → Calls Tryz.prog 20 #[.pointer (some ⟨s.ps, 0, none⟩), .int .i64 all] W fun e w' => ∃ v, e = .returned (.tuple #[v, .nilIface]) ∧ IsNat w' v (sumS V V (allV (clsOf rc)) (fun _ => false)) ∧ Below W.heap.size W w' from fun W hW => by
   have h := Count_any V (by have := H10.out; omega) all W s st (HW.out W hW).2.2.1 Hi.out.sok.cells Hi.out.has
   rw [show den st.c all = allV (clsOf rc) from funext Hi.out.den] at h
   exact h)
  have hzr := count_none (V := V) (l := clsOf rc) Hz.out
  obtain ⟨N, hN⟩ : ∃ N, N = sumS V V (allV (clsOf rc)) (fun _ => false) := ⟨_, rfl⟩
  rw [← hN] at HC hzr
  have Hzr := Lib.hid hzr
  have HSo := Lib.hid (fun (W : World) (hW : Below w4.heap.size w4 W) => solveB_any (V : Nat) (.slice a1 L c1) (clsOf rc) W ((HW.out W hW).2.1.rows (by rw [HlL.out]; have := Hlen.out; omega) Hwi.out.1) Hgf.out.1 Hgf.out.2)
  have HA := Lib.hid (fun (W : World) (hW : Below w4.heap.size w4 W) => allHold_any (.slice a1 L c1) (clsOf rc) n W ((HW.out W hW).2.1.rows (by rw [HlL.out]; have := Hlen.out; omega) Hwi.out.1) Hwi.out.2 Hn.out)
  obtain ⟨B, hB⟩ : ∃ B, B = allB n (clsOf rc) := ⟨_, rfl⟩
  rw [← hB] at HH HA
  have HB4 := Lib.hid hb4
  have HB := Lib.hid ((Below.refl w4.heap.size w4).drew)
  have KS := (HW.out _ HB.out).1
  clear hq hsp hi hb4 HO3 hzr hN hB
  go_upto_region 5 with fail
  go_region_held3 (fun w' => w'.cell? ⟨q, 0, none⟩ = some (.pointer (some ⟨s.ps, 0, none⟩)) ∧ w'.cell? ⟨q, 1, none⟩ = some (.int .i64 all) ∧ w'.cell? ⟨w1.heap.size, 0, none⟩ = some (.int .i64 V) ∧ w'.cell? ⟨w1.heap.size, 1, none⟩ = some (.slice a1 L c1)) (first | (with_reducible exact KS) | go_keep)
   (first
    | (go_at_call 19; (refine (HV1.out _ (by first | (with_reducible exact HB.out))).mono ?_); rintro e w7 ⟨rfl, rfl⟩))
  go_wp2_with fail
  generalize w4.drew = w5 at HB KS ⊢
  have HB5 := HB
  clear HB KS
  have HB := Lib.hid (HB5.out.drew)
  have KS := (HW.out _ HB.out).1
  go_region_held3 (fun w' => w'.cell? ⟨q, 0, none⟩ = some (.pointer (some ⟨s.ps, 0, none⟩)) ∧ w'.cell? ⟨q, 1, none⟩ = some (.int .i64 all) ∧ w'.cell? ⟨w1.heap.size, 0, none⟩ = some (.int .i64 V) ∧ w'.cell? ⟨w1.heap.size, 1, none⟩ = some (.slice a1 L c1)) (first | (with_reducible exact KS) | go_keep)
   (first
    | (go_at_call 12; (refine (HH.out _ (by first | (with_reducible exact HB.out))).mono ?_); rintro e w7 ⟨rfl, hb7⟩; have hB7 := HB.out.trans (hb7.mono HB.out.size); clear hb7 KS HB; have HB := Lib.hid hB7; clear hB7; have KS := (HW.out _ HB.out).1))
  go_wp2_with fail
  clear KS
  have HBx := Lib.hid (HB.out.drew)
  have HBd := Lib.hid (fun o => (HB.out.alloc HB.out.size o).drew)
  have KS := (HW.out _ HBx.out).1
  have HB7 := HB
  clear HB
  have HB := HBx
  go_region_held3 (fun w' => w'.cell? ⟨q, 0, none⟩ = some (.pointer (some ⟨s.ps, 0, none⟩)) ∧ w'.cell? ⟨q, 1, none⟩ = some (.int .i64 all) ∧ w'.cell? ⟨w1.heap.size, 0, none⟩ = some (.int .i64 V) ∧ w'.cell? ⟨w1.heap.size, 1, none⟩ = some (.slice a1 L c1)) (first | (with_reducible exact KS) | (with_reducible exact (HW.out _ (HBd.out _)).1) | (with_reducible exact (HW.out _ (HB.out.setCell (p := ⟨w7.heap.size, 0, none⟩) HB7.out.size _)).1) | (with_reducible exact (HW.out _ (HB.out.alloc HB.out.size _)).1) | go_keep)
   (first
    | (go_at_call 20; (refine (HC.out _ (by first | (with_reducible exact HB.out) | (with_reducible exact HBd.out _))).mono ?_); rintro e w8 ⟨v8, rfl, h8, hb8⟩; obtain ⟨x8, y8, rfl⟩ := h8.shape; have H8 := Lib.hid h8; (try (have hx8 : w8.heap[w7.heap.size]? = some (.cells #[.slice none 0 0] 52 (0, 0)) := (hb8.block _ (by simp)).trans (heap_at (by simp)); have g8 := free_of_one hx8; have z8 := cell_of_one hx8; have l8 := lt_of_block hx8; have HX8 := Lib.hid hx8; clear hx8)); have hB8 : Below w4.heap.size w4 w8 := (by first | (with_reducible exact HB.out.trans (hb8.mono HB.out.size)) | (with_reducible exact (HBd.out _).trans (hb8.mono (HBd.out _).size))); clear hb8 KS HB; have HB := Lib.hid hB8; clear hB8; have KS := (HW.out _ HB.out).1))
  ·
   have hnb := NBox.mk' H8.out
   have hbz := HB.out.alloc HB.out.size (.cells #[.slice x8 (limbsOf N).length y8] 52)
   generalize w8.alloc (.cells #[.slice x8 (limbsOf N).length y8] 52) = wz at hnb hbz ⊢
   generalize w8.heap.size = bx at hnb ⊢
   obtain ⟨k0, k1, k2, k3⟩ := (HW.out _ hbz).1
   have HS9 := Lib.hid (HSo.out wz hbz)
   have Hnb := Lib.hid hnb; have Hbz := Lib.hid hbz
   clear KS hnb hbz k0 k1
   go_wp2_with fail
   refine HS9.out.mono ?_
   rintro e w9 ⟨⟨holds, vals, a9, n9, c9, rfl, hiff⟩, hb9⟩
   have hZ : (N == 0) = !holds := by
    have h1 := Hzr.out
    cases holds with
    | true => rw [Bool.not_true, beq_eq_false_iff_ne]; exact fun e => h1.1 e (hiff.1 rfl)
    | false => rw [Bool.not_false, beq_iff_eq]; exact h1.2 (fun q => by have := hiff.2 q; cases this)
   obtain ⟨wA, hwA⟩ : ∃ wA, wA = w9.alloc (.cells #[.bool holds, .int .u64 vals, .slice a9 n9 c9] 56) := ⟨_, rfl⟩
   have hbA : Below wz.heap.size wz wA := by rw [hwA]; exact hb9.alloc hb9.size _
   have hkA : wA.heap[w9.heap.size]? = some (.cells #[.bool holds, .int .u64 vals, .slice a9 n9 c9] 56 (0, 0)) := by rw [hwA]; exact heap_at rfl
   have HK := Lib.hid (show ∀ W, Below wA.heap.size wA W → (W.cell? ⟨w1.heap.size, 1, none⟩ = some (.slice a1 L c1) ∧ W.cell? ⟨bx, 0, none⟩ = some (.slice x8 (limbsOf N).length y8) ∧ W.cell? ⟨w9.heap.size, 0, none⟩ = some (.bool holds)) ∧ NBox W bx x8 y8 N ∧ Below w4.heap.size w4 W ∧ Below w.heap.size w W from fun W hW => by
    have h1 : Below wz.heap.size wz W := hbA.trans (hW.mono hbA.size)
    have h2 := Hbz.out.trans (h1.mono Hbz.out.size)
    have h3 := Hnb.out.below h1
    have h4 := HW.out W h2
    exact ⟨⟨h4.1.2.2.2, cell_of_one h3.blk, (cellsR ((hW.block _ (lt_of_block hkA)).trans hkA)).1⟩, h3, h2, h4.2.2.2⟩)
   have HZ := Lib.hid hZ
   clear hb9 hiff hbA hkA hZ HS9 k2 k3
   go_upto_region 10 with fail
   rw [← hwA]
   clear hwA
   have HB' := Lib.hid ((Below.refl wA.heap.size wA).drew)
   clear HB
   have HB := HB'
   have KS := (HK.out _ HB.out).1
   go_region_held3 (fun w' => w'.cell? ⟨w1.heap.size, 1, none⟩ = some (.slice a1 L c1) ∧ w'.cell? ⟨bx, 0, none⟩ = some (.slice x8 (limbsOf N).length y8) ∧ w'.cell? ⟨w9.heap.size, 0, none⟩ = some (.bool holds)) (first | (with_reducible exact KS) | go_keep)
    (first
     | (go_at_call 22; (refine (HA.out _ (by first | (with_reducible exact (HK.out _ HB.out).2.2.1))).mono ?_); rintro e w10 ⟨rfl, hb10⟩; have hB10 := HB.out.trans (hb10.mono HB.out.size); clear hb10 KS HB; have HB := Lib.hid hB10; clear hB10; have KS := (HK.out _ HB.out).1)
     | (go_at_call 23; (refine (Zero_any N _ _ (HK.out _ HB.out).2.1.nat).mono ?_); rintro e w11 ⟨rfl, hb11⟩; rw [HZ.out]; have hB11 := HB.out.trans (hb11.mono HB.out.size); clear hb11 KS HB; have HB := Lib.hid hB11; clear hB11; have KS := (HK.out _ HB.out).1))
   all_goals go_wp2_with fail
   all_goals go_ret
   all_goals exact ⟨rfl, (HK.out _ HB.out).2.2.2⟩
  ·
   have hnb : NBox (w8.setCell ⟨w7.heap.size, 0, none⟩ (.slice x8 (limbsOf N).length y8)) w7.heap.size x8 y8 N := ⟨one_setCell HX8.out, H8.out.setRes HX8.out _⟩
   have hbz := HB.out.setCell (p := ⟨w7.heap.size, 0, none⟩) HB7.out.size (.slice x8 (limbsOf N).length y8)
   clear g8 z8 l8
   generalize w8.setCell ⟨w7.heap.size, 0, none⟩ (.slice x8 (limbsOf N).length y8) = wz at hnb hbz ⊢
   generalize w7.heap.size = bx at hnb ⊢
   obtain ⟨k0, k1, k2, k3⟩ := (HW.out _ hbz).1
   have HS9 := Lib.hid (HSo.out wz hbz)
   have Hnb := Lib.hid hnb; have Hbz := Lib.hid hbz
   clear KS hnb hbz k0 k1
   go_wp2_with fail
   refine HS9.out.mono ?_
   rintro e w9 ⟨⟨holds, vals, a9, n9, c9, rfl, hiff⟩, hb9⟩
   have hZ : (N == 0) = !holds := by
    have h1 := Hzr.out
    cases holds with
    | true => rw [Bool.not_true, beq_eq_false_iff_ne]; exact fun e => h1.1 e (hiff.1 rfl)
    | false => rw [Bool.not_false, beq_iff_eq]; exact h1.2 (fun q => by have := hiff.2 q; cases this)
   obtain ⟨wA, hwA⟩ : ∃ wA, wA = w9.alloc (.cells #[.bool holds, .int .u64 vals, .slice a9 n9 c9] 56) := ⟨_, rfl⟩
   have hbA : Below wz.heap.size wz wA := by rw [hwA]; exact hb9.alloc hb9.size _
   have hkA : wA.heap[w9.heap.size]? = some (.cells #[.bool holds, .int .u64 vals, .slice a9 n9 c9] 56 (0, 0)) := by rw [hwA]; exact heap_at rfl
   have HK := Lib.hid (show ∀ W, Below wA.heap.size wA W → (W.cell? ⟨w1.heap.size, 1, none⟩ = some (.slice a1 L c1) ∧ W.cell? ⟨bx, 0, none⟩ = some (.slice x8 (limbsOf N).length y8) ∧ W.cell? ⟨w9.heap.size, 0, none⟩ = some (.bool holds)) ∧ NBox W bx x8 y8 N ∧ Below w4.heap.size w4 W ∧ Below w.heap.size w W from fun W hW => by
    have h1 : Below wz.heap.size wz W := hbA.trans (hW.mono hbA.size)
    have h2 := Hbz.out.trans (h1.mono Hbz.out.size)
    have h3 := Hnb.out.below h1
    have h4 := HW.out W h2
    exact ⟨⟨h4.1.2.2.2, cell_of_one h3.blk, (cellsR ((hW.block _ (lt_of_block hkA)).trans hkA)).1⟩, h3, h2, h4.2.2.2⟩)
   have HZ := Lib.hid hZ
   clear hb9 hiff hbA hkA hZ HS9 k2 k3
   go_upto_region 10 with fail
   rw [← hwA]
   clear hwA
   have HB' := Lib.hid ((Below.refl wA.heap.size wA).drew)
   clear HB
   have HB := HB'
   have KS := (HK.out _ HB.out).1
   go_region_held3 (fun w' => w'.cell? ⟨w1.heap.size, 1, none⟩ = some (.slice a1 L c1) ∧ w'.cell? ⟨bx, 0, none⟩ = some (.slice x8 (limbsOf N).length y8) ∧ w'.cell? ⟨w9.heap.size, 0, none⟩ = some (.bool holds)) (first | (with_reducible exact KS) | go_keep)
    (first
     | (go_at_call 22; (refine (HA.out _ (by first | (with_reducible exact (HK.out _ HB.out).2.2.1))).mono ?_); rintro e w10 ⟨rfl, hb10⟩; have hB10 := HB.out.trans (hb10.mono HB.out.size); clear hb10 KS HB; have HB := Lib.hid hB10; clear hB10; have KS := (HK.out _ HB.out).1)
     | (go_at_call 23; (refine (Zero_any N _ _ (HK.out _ HB.out).2.1.nat).mono ?_); rintro e w11 ⟨rfl, hb11⟩; rw [HZ.out]; have hB11 := HB.out.trans (hb11.mono HB.out.size); clear hb11 KS HB; have HB := Lib.hid hB11; clear hB11; have KS := (HK.out _ HB.out).1))
   all_goals go_wp2_with fail
   all_goals go_ret
   all_goals exact ⟨rfl, (HK.out _ HB.out).2.2.2⟩
 ·
  have HB1 := Lib.hid (hb1.alloc hb1.size (.cells #[.int .i64 0, .slice none 0 0, .slice none 0 0] 27))
  clear hno hb1 HP
  obtain ⟨w2, hw2⟩ : ∃ w2, w2 = w1.alloc (.cells #[.int .i64 0, .slice none 0 0, .slice none 0 0] 27) := ⟨_, rfl⟩
  rw [← hw2] at HB1
  go_upto_region 2 with fail
  rw [← hw2]
  clear hw2
  go_wp2_with fail
  refine (HR.out _ HB1.out).mono ?_
  rintro e w3 ⟨rfl, hb3⟩
  have HB3 := Lib.hid (HB1.out.trans (hb3.mono HB1.out.size))
  clear hb3
  go_wp2_with fail
  refine (HR.out _ HB3.out).mono ?_
  rintro e w4 ⟨rfl, hb4⟩
  have HB4 := Lib.hid (HB3.out.trans (hb4.mono HB3.out.size))
  clear hb4
  go_wp2_with fail
  go_ret
  exact ⟨rfl, HB4.out⟩
end Go.Proofs.YtmlfelbkgoplhaaGreatDoor
