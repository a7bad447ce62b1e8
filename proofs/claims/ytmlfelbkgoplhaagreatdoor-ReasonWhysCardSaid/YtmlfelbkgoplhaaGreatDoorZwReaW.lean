import Derived.Test.YtmlfelbkgoplhaaGreatDoorZwWhyW
import Derived.Test.YtmlfelbkgoplhaaGreatDoorZwSpcM
import Derived.Test.YtmlfelbkgoplhaaGreatDoorZwFixW
import Derived.Test.YtmlfelbkgoplhaaGreatDoorZwCored
set_option linter.unusedVariables false
set_option linter.unusedSimpArgs false
namespace Go.Proofs.YtmlfelbkgoplhaaGreatDoor
open Go.RowKit
set_option maxRecDepth 100000 in
set_option maxHeartbeats 32000000 in
theorem zez (s0 : ByteArray) (z : Int) (w : World) (hm : s0.size ≤ 9223372036854775807) (hL : yT w) (hT : zM w) : Calls Tryz.prog 7 #[.string s0, .int .i64 z] w fun e w' => e = .returned (.bool true) ∧ Below w.heap.size w w' := by
 have HP := hid (zml s0 10 w hm (by decide) hL hT)
 have HLT := hid (show ∀ w', Below w.heap.size w w' → yT w' ∧ zM w' from fun w' hw => ⟨hL.below hw, hT.below hw⟩)
 have HR := hid (show ∀ w', Below w.heap.size w w' → Calls Tryz.prog 38 #[] w' fun e w'' => e = .returned (.bool true) ∧ Below w'.heap.size w' w'' from fun w' hw => zl1 w' (hL.below hw) (hT.below hw))
 clear hL hT hm
 go_enter Tryz.func7, Tryz.ntmps7
 go_wp2_with fail
 refine HP.out.mono ?_
 rintro e w1 ⟨⟨p, ls, items, a1, c1, a2, c2, rfl, hcat, hls, _, hlen, hmo, hin⟩ | ⟨rfl, hno⟩, hb1⟩
 ·
  obtain ⟨hok, vl, vi, hat⟩ := hcat
  have hn10 : items.length ≤ 10 := by omega
  have hz := zpn hok
  have hrm := zlR hok hn10
  have hOf := fun (W : World) (hW : Below w1.heap.size w1 W) => zll p vl vi ls items 4000 W (hat.below hW) hok hn10 hlen (by decide) hrm
  obtain ⟨rc, hrc⟩ : ∃ rc, rc = zx ls items := ⟨_, rfl⟩
  have Hrc := hid hrc
  rw [← hrc] at hin hlen hz hOf ⊢
  obtain ⟨V, hV⟩ : ∃ V, V = items.length := ⟨_, rfl⟩
  have HVe := hid hV
  rw [← hV] at hz hOf hn10 ⊢
  obtain ⟨L, hL⟩ : ∃ L, L = rc.length := ⟨_, rfl⟩
  rw [← hL] at hin hlen ⊢
  obtain ⟨w2, hw2⟩ : ∃ w2, w2 = w1.alloc (.cells #[.int .i64 V, .slice a1 L c1, .slice a2 L c2] 27) := ⟨_, rfl⟩
  have hb2 : Below w1.heap.size w1 w2 := by rw [hw2]; exact zba
  have hk2 : w2.heap[w1.heap.size]? = some (.cells #[.int .i64 V, .slice a1 L c1, .slice a2 L c2] 27 (0, 0)) := by rw [hw2]; exact za rfl
  have HOf := hid (fun (W : World) (hW : Below w2.heap.size w2 W) => hOf W (hb2.trans (hW.mono hb2.size)))
  have hB2 := hb1.trans (hb2.mono hb1.size)
  have HW := hid (show ∀ W, Below w2.heap.size w2 W → W.cell? ⟨w1.heap.size, 0, none⟩ = some (.int .i64 V) ∧ W.cell? ⟨w1.heap.size, 1, none⟩ = some (.slice a1 L c1) ∧ zal W p vl vi ls items ∧ Below w.heap.size w W ∧ yT W ∧ zM W from fun W hW => by
   have h1 := hB2.trans (hW.mono hB2.size)
   obtain ⟨g0, g1, _⟩ := yA ((hW.block _ (zlb hk2)).trans hk2)
   exact ⟨g0, g1, hat.below (hb2.trans (hW.mono hb2.size)), h1, HLT.out W h1⟩)
  have HB2 := hid hB2
  have Hok := hid hok; have Hz := hid hz; have H10 := hid hn10; have HL := hid hL; have Hlen := hid hlen
  have HLi := hid (fun (W : World) (hW : Below w2.heap.size w2 W) => zcq p vl vi ls items W (HW.out W hW).2.2.1 (by have := Hok.out.few; omega))
  have HIt := hid (fun (W : World) (hW : Below w2.heap.size w2 W) => zd0 p vl vi ls items W (HW.out W hW).2.2.1 (by have := H10.out; have := HVe.out; omega))
  clear hok hat hls hb1 hb2 hk2 hin HP hrc hL hlen hz hrm hOf hn10 hmo hV hB2
  go_upto_region 2 with fail
  rw [← hw2]
  clear hw2
  go_wp2_with fail
  refine (HR.out _ HB2.out).mono ?_
  rintro e w3 ⟨rfl, hb3⟩
  obtain ⟨k0, k1, _⟩ := HW.out w3 hb3
  have Hb3 := hid hb3
  clear hb3
  by_cases hV0 : V = 0
  ·
   have t0 : ((V : Int) == 0) = true := by rw [hV0]; rfl
   clear hV0
   go_wp2_with fail
   clear k0 k1
   refine (HR.out _ (HW.out _ Hb3.out).2.2.2.1).mono ?_
   rintro e w4 ⟨rfl, hb4⟩
   have HE := hid ((HW.out _ Hb3.out).2.2.2.1.trans (hb4.mono (HW.out _ Hb3.out).2.2.2.1.size))
   clear hb4
   go_wp2_with fail
   go_ret
   exact ⟨rfl, HE.out⟩
  ·
   have t0 : ((V : Int) == 0) = false := by rw [beq_eq_false_iff_ne]; omega
   have hV1 : 0 < V := by omega
   clear hV0
   go_wp2_with fail
   refine (HLi.out w3 Hb3.out).mono ?_
   rintro e w4 ⟨⟨v4, rfl, hl4⟩, hb4⟩
   obtain ⟨al, cl, rfl, _, _⟩ := hl4.row.shape
   have hb24 := Hb3.out.trans (hb4.mono Hb3.out.size)
   clear k0 k1
   obtain ⟨k0, k1, _⟩ := HW.out w4 hb24
   have Hb4 := hid hb24
   clear hb4 hb24 hl4
   by_cases hl100 : 100 ≤ ls.length
   ·
    have t1 : decide ((100 : Int) ≤ (ls.length : Int)) = true := decide_eq_true (by omega)
    go_wp2_with fail
    clear k0 k1 t0 t1
    refine (HR.out _ (HW.out _ Hb4.out).2.2.2.1).mono ?_
    rintro e w5 ⟨rfl, hb5⟩
    have HE := hid ((HW.out _ Hb4.out).2.2.2.1.trans (hb5.mono (HW.out _ Hb4.out).2.2.2.1.size))
    clear hb5
    go_wp2_with fail
    go_ret
    exact ⟨rfl, HE.out⟩
   ·
    have t1 : decide ((100 : Int) ≤ (ls.length : Int)) = false := decide_eq_false (by omega)
    have Hl100 := hid hl100
    by_cases hL200 : 200 ≤ L
    ·
     have t2 : decide ((200 : Int) ≤ (L : Int)) = true := decide_eq_true (by omega)
     go_wp2_with fail
     clear k0 k1 t0 t1 t2
     refine (HR.out _ (HW.out _ Hb4.out).2.2.2.1).mono ?_
     rintro e w5 ⟨rfl, hb5⟩
     have HE := hid ((HW.out _ Hb4.out).2.2.2.1.trans (hb5.mono (HW.out _ Hb4.out).2.2.2.1.size))
     clear hb5
     go_wp2_with fail
     go_ret
     exact ⟨rfl, HE.out⟩
    ·
     have t2 : decide ((200 : Int) ≤ (L : Int)) = false := decide_eq_false (by omega)
     have HL200 := hid hL200
     clear hL200 hl100
     have HPk := hid (znu z V w4 hV1 (by have := H10.out; omega))
     have hkv := znn z hV1
     obtain ⟨kv, ekv⟩ : ∃ kv, kv = zhX z V := ⟨_, rfl⟩
     rw [← ekv] at HPk hkv
     clear ekv
     go_wp2_with fail
     refine HPk.out.mono ?_
     rintro e w' ⟨rfl, rfl⟩
     clear t0 t1 t2 k0 k1
     go_wp2_with fail
     refine (HIt.out w4 Hb4.out).mono ?_
     rintro e w5 ⟨⟨v5, rfl, hit5⟩, hb5⟩
     have hb25 := Hb4.out.trans (hb5.mono Hb4.out.size)
     obtain ⟨ai, ci, rfl, _, _⟩ := zk.shape hit5
     have hkl : kv < items.length := by rw [← HVe.out]; exact hkv
     obtain ⟨g, rfl, hg, _⟩ := zk.at hit5 (by omega)
     obtain ⟨d0, d1, d2, d3⟩ := zV.cells hit5 hkl
     have hik : items[kv]? = some items[kv] := List.getElem?_eq_getElem hkl
     obtain ⟨it, hite⟩ : ∃ it, it = items[kv] := ⟨_, rfl⟩
     rw [← hite] at d0 d1 d2 d3 hik
     obtain ⟨nm, a, b, c⟩ := it
     simp only at d0 d1 d2 d3
     have hnm : nm.size ≤ 9223372036854775807 := by
      have hmem : (nm, a, b, c) ∈ zC ls := by rw [hite]; exact Hok.out.perm.mem_iff.1 (List.getElem_mem hkl)
      have h := (zeJ Hok.out.toNewOk hmem).1
      unfold yj at h
      simp only [Bool.and_eq_true, decide_eq_true_eq] at h
      omega
     have HWhy := hid (fun (W : World) (hW : Below w2.heap.size w2 W) => zjr p vl vi ls items kv nm a b c W (HW.out W hW).2.2.1 Hok.out hik (by have := Hl100.out; omega) (by rw [← Hrc.out, ← HL.out]; have := HL200.out; omega) (by have := H10.out; have := HVe.out; omega) hnm (HW.out W hW).2.2.2.2.1 (HW.out W hW).2.2.2.2.2)
     have hkI : (kv : Int) < (items.length : Int) := by omega
     have HB := hid (hb25.drew)
     have Hb5 := hid hb25
     have HS := hid (show ∀ W, Below w5.heap.size w5 W → W.cell? ⟨g, kv * 4, none⟩ = some (.string nm) ∧ W.cell? ⟨g, kv * 4 + 1, none⟩ = some (.int .i64 a) ∧ W.cell? ⟨g, kv * 4 + 2, none⟩ = some (.int .i64 b) ∧ W.cell? ⟨g, kv * 4 + 3, none⟩ = some (.int .i64 c) from fun W hW => ⟨(hW.cell hg).trans d0, (hW.cell hg).trans d1, (hW.cell hg).trans d2, (hW.cell hg).trans d3⟩)
     have KS := HS.out w5.drew ((Below.refl _ _).drew)
     clear d0 d1 d2 d3 hit5 hb5 hb25 hik hite hnm
     go_upto_region 6 with fail
     go_region_held3 (fun w' => w'.cell? ⟨g, kv * 4, none⟩ = some (.string nm) ∧ w'.cell? ⟨g, kv * 4 + 1, none⟩ = some (.int .i64 a) ∧ w'.cell? ⟨g, kv * 4 + 2, none⟩ = some (.int .i64 b) ∧ w'.cell? ⟨g, kv * 4 + 3, none⟩ = some (.int .i64 c)) (first | (with_reducible exact KS) | go_keep)
      (first
       | (go_at_call 40; (refine (HWhy.out _ HB.out).mono ?_); rintro e w6 hwhy; obtain ⟨v9, e9, rfl, hwr, hb6⟩ := hwhy.open; have HWr := hid hwr; have hB6 := HB.out.trans (hb6.mono HB.out.size); have hs6 : Below w5.heap.size w5 w6 := ((Below.refl w5.heap.size w5).drew).trans (hb6.mono (znr _)); clear hwhy hwr hb6 KS HB; have HB := hid hB6; clear hB6; have KS := HS.out _ hs6))
     clear KS
     rcases HWr.out with ⟨a9, c9, outl, rfl, rfl, hout, hcore⟩ | ⟨rfl, rfl, hsat⟩
     ·
      skip
      have HO6 := hid (HOf.out w6 HB.out)
      have hunsat : ¬ zfB (zR rc ++ [[(kv : Int) + 1]]) := fun q => hcore.no (by
       obtain ⟨v, hv⟩ := q
       refine ⟨v, zlu ?_⟩
       rw [← Hrc.out, zd4]
       exact hv)
      have hlast := fun hs => zk2 (ls := ls) (items := items) Hok.out (k := kv) (by have := Hl100.out; omega) hcore hs
      rw [← Hrc.out] at hlast
      have hrow9 := hout
      have HB6 := hid hunsat; have Hlast := hid hlast; have Hout := hid hout; have Hcore := hid hcore
      clear hunsat hlast hout hcore hrow9
      go_wp2_with fail
      refine HO6.out.mono ?_
      rintro e w7 ⟨⟨q, s, st, all, rfl, hq, hsp, hi, _, _, _⟩, hb7⟩
      have hb27 := HB.out.trans (hb7.mono HB.out.size)
      have lq := zlb hq
      have HQ := hid (show ∀ W, Below w7.heap.size w7 W → IsSpace W s V st ∧ (W.cell? ⟨q, 0, none⟩ = some (.pointer (some ⟨s.ps, 0, none⟩)) ∧ W.cell? ⟨q, 1, none⟩ = some (.int .i64 all)) ∧ Below w2.heap.size w2 W from fun W hW => ⟨hsp.below hW, zkD ((hW.block _ (zlb hq)).trans hq), hb27.trans (hW.mono hb27.size)⟩)
      have HNe := hid (zgz q s V st all w7 (by have := H10.out; omega) hsp hq hi.sok.ok hi.has)
      have hnv := zhJ hi Hz.out (v := kv) hkv true
      simp only [if_true] at hnv
      have HC := hid (show ∀ W, Below w7.heap.size w7 W → Calls Tryz.prog 20 #[.pointer (some ⟨s.ps, 0, none⟩), .int .i64 all] W fun e w' => ∃ v, e = .returned (.tuple #[v, .nilIface]) ∧ zW w' v (qZ V V (zbk (zR rc)) (fun _ => false)) ∧ Below W.heap.size W w' from fun W hW => by
       have h := zgr V (by have := H10.out; omega) all W s st (HQ.out W hW).1 hi.sok.cells hi.has
       rw [show den st.c all = zbk (zR rc) from funext hi.den] at h
       exact h)
      have hzr := zfl (V := V) (l := zR rc) Hz.out
      obtain ⟨N, hN⟩ : ∃ N, N = qZ V V (zbk (zR rc)) (fun _ => false) := ⟨_, rfl⟩
      rw [← hN] at HC hzr
      have Hzr := hid hzr; have Hnv := hid hnv; have Hb7 := hid hb7
      clear hb7 hb27 hq hsp hi hzr hN hnv HO6
      go_wp2_with fail
      refine HNe.out.mono ?_
      rintro e w8 ⟨⟨a8, c8, rfl, hfx⟩, hb8⟩
      have hmF : kv ∈ zbB st.c true all V ↔ qW st.c kv true all = false := by
       rw [ziQ]
       exact ⟨fun h => h.2, fun h => ⟨hkv, h⟩⟩
      have hlF := zfH st.c true all V
      obtain ⟨Fx, hFx⟩ : ∃ F, F = zbB st.c true all V := ⟨_, rfl⟩
      rw [← hFx] at hfx hmF hlF ⊢
      have hBv : decide (kv ∈ Fx) = true := by
       rw [decide_eq_true_iff, hmF, ← Bool.not_eq_true, Hnv.out]; exact HB6.out
      obtain ⟨NL, hNL⟩ : ∃ NL, NL = Fx.length := ⟨_, rfl⟩
      rw [← hNL] at hfx hlF ⊢
      have hNL24 : NL ≤ 24 := by have := H10.out; omega
      have HFo := hid hfx; have HBv := hid hBv; have HNL := hid hNL; have Hb8 := hid hb8
      have KS0 := (HQ.out w8 hb8).2.1
      have HB8 := hid (show Below w8.heap.size w8 w8.drew from (Below.refl _ _).drew)
      clear hfx hmF hlF hFx hBv hNL hb8 HNe KS0
      clear HB
      have HB := HB8
      have HBd := hid (fun o => Below.alD (w := w8) o)
      have HQ8 := hid (show ∀ W, Below w8.heap.size w8 W → (W.cell? ⟨q, 0, none⟩ = some (.pointer (some ⟨s.ps, 0, none⟩)) ∧ W.cell? ⟨q, 1, none⟩ = some (.int .i64 all)) from fun W hW => (HQ.out W (Hb8.out.trans (hW.mono Hb8.out.size))).2.1)
      have HC8 := hid (fun (W : World) (hW : Below w8.heap.size w8 W) => HC.out W (Hb8.out.trans (hW.mono Hb8.out.size)))
      have KS := HQ8.out _ HB.out
      have lq8 : q < w8.heap.size := by have := Hb8.out.size; omega
      go_upto_region 11 with fail
      go_region_held3 (fun w' => w'.cell? ⟨q, 0, none⟩ = some (.pointer (some ⟨s.ps, 0, none⟩)) ∧ w'.cell? ⟨q, 1, none⟩ = some (.int .i64 all)) (first | (with_reducible exact KS) | (with_reducible exact HQ8.out _ (HBd.out _)) | (with_reducible exact HQ8.out _ (HB.out.setCell (p := ⟨w8.heap.size, 0, none⟩) (znr _) _)) | (with_reducible exact HQ8.out _ (HB.out.alloc HB.out.size _)) | go_keep)
       (first
        | (go_at_call 20; (refine (HC8.out _ (by first | (with_reducible exact HB.out) | (with_reducible exact HBd.out _))).mono ?_); rintro e w9 ⟨vn, rfl, hn9, hb9⟩; obtain ⟨xn, yn, rfl⟩ := hn9.shape; have HN9 := hid hn9; (try (have hx9 : w9.heap[w8.heap.size]? = some (.cells #[.slice none 0 0] 52 (0, 0)) := (hb9.block _ (by simp)).trans (za (by simp)); have g9 := zfo hx9; have z9 := zco hx9; have l9 := zlb hx9; have HX9 := hid hx9; clear hx9)); have hB9 : Below w8.heap.size w8 w9 := (by first | (with_reducible exact HB.out.trans (hb9.mono HB.out.size)) | (with_reducible exact (HBd.out _).trans (hb9.mono (HBd.out _).size))); clear hn9 hb9 KS HB; have HB := hid hB9; clear hB9; have KS := HQ8.out _ HB.out))
      ·
       have hnb := je.mk' HN9.out
       have hbz := HB.out.alloc HB.out.size (.cells #[.slice xn (zf N).length yn] 52)
       generalize w9.alloc (.cells #[.slice xn (zf N).length yn] 52) = wz at hnb hbz ⊢
       generalize w9.heap.size = bx at hnb ⊢
       have Hnb := hid hnb; have Hbz := hid hbz
       clear KS hnb hbz
       go_wp2_with fail
       go_loopg [17, 18] NL (fun gk inb i wr => ∃ j : Nat, j ≤ NL ∧ gk = NL - j ∧ i = .int .i64 j ∧ inb = .bool (decide (kv ∈ Fx.take j)) ∧ Below wz.heap.size wz wr)
       case atStart => exact ⟨0, znz _, rfl, rfl, by simp, Below.refl _ _⟩
       case round =>
        obtain ⟨j, hj, rfl, rfl, rfl, hbw⟩ := hrel
        obtain ⟨wo, rfl⟩ : ∃ y, y = wr := ⟨_, rfl⟩
        have hbo := Hbz.out.trans (hbw.mono Hbz.out.size)
        by_cases hlt : j < NL
        ·
         have hrow := zk.below HFo.out hbo
         have hjF : j < Fx.length := by rw [← HNL.out]; exact hlt
         obtain ⟨gf, rfl, _, _⟩ := zk.at hrow (by rw [List.length_map]; omega)
         have hcf := zk.cell (enc := zT) (z := 1) (fun _ => rfl) hrow (k := j) (by rw [List.length_map]; exact hjF) (j := 0) (by decide) rfl
         rw [Nat.mul_one, Nat.add_zero, List.getElem_map] at hcf
         have htk : Fx.take (j + 1) = Fx.take j ++ [Fx[j]] := List.take_succ_eq_append_getElem hjF
         have hi : (j : Int) < (NL : Int) := by omega
         obtain ⟨x, hx⟩ : ∃ x, x = Fx[j] := ⟨_, rfl⟩
         rw [← hx] at hcf htk
         obtain ⟨b, hb⟩ : ∃ b, b = decide (kv ∈ Fx.take j) := ⟨_, rfl⟩
         have hnx : decide (kv ∈ Fx.take (j + 1)) = (b || decide (x = kv)) := by
          rw [htk, hb, Bool.eq_iff_iff, decide_eq_true_iff, List.mem_append, List.mem_singleton, Bool.or_eq_true, decide_eq_true_iff, decide_eq_true_iff]
          exact ⟨fun q => q.imp id Eq.symm, fun q => q.imp id Eq.symm⟩
         rw [← hb]
         have Hnx := hid hnx; have Hbw := hid hbw
         clear hnx htk hb hrow hbw hbo hx
         cases b with
         | true =>
          go_wp2_with fail
          go_roundg (NL - (j + 1))
          case measure => omega
          case rel => exact ⟨j + 1, by omega, rfl, by go_num, by rw [Hnx.out]; simp, Hbw.out⟩
         | false =>
          by_cases hxk : x = kv
          ·
           have t9 : ((x : Int) == (kv : Int)) = true := by rw [beq_iff_eq]; omega
           have Hxk := hid hxk; clear hxk
           go_wp2_with fail
           go_roundg (NL - (j + 1))
           case measure => omega
           case rel => exact ⟨j + 1, by omega, rfl, by go_num, by rw [Hnx.out, decide_eq_true Hxk.out]; rfl, Hbw.out⟩
          ·
           have t9 : ((x : Int) == (kv : Int)) = false := by rw [beq_eq_false_iff_ne]; omega
           have Hxk := hid hxk; clear hxk
           go_wp2_with fail
           go_roundg (NL - (j + 1))
           case measure => omega
           case rel => exact ⟨j + 1, by omega, rfl, by go_num, by rw [Hnx.out, decide_eq_false Hxk.out]; rfl, Hbw.out⟩
        ·
         obtain rfl : j = NL := by omega
         have htk : Fx.take j = Fx := by rw [HNL.out]; exact List.take_length
         rw [htk, HBv.out]
         have Hbw := hid hbw; have Hbo := hid hbo
         clear hbw hbo htk hlt
         go_upto_region 19 with fail
         have hmx : Tryz.prog.follows .mixedOrders = true := by kernel_rfl
         have HDw := hid (show ∀ W, Below wo.heap.size wo W → Below w2.heap.size w2 W from fun W hW => (HQ.out _ (Hb8.out.trans ((Hbo.out.trans (hW.mono Hbo.out.size)).mono Hb8.out.size))).2.2)
         have HDe := hid (show ∀ W, Below wo.heap.size wo W → Below w.heap.size w W from fun W hW => (HW.out W (HDw.out W hW)).2.2.2.1)
         have HZe := hid (show ∀ W, Below wo.heap.size wo W → Calls Tryz.prog 23 #[.agg #[.slice xn (zf N).length yn]] W fun e w' => e = .returned (.bool (N == 0)) ∧ Below W.heap.size W w' from fun W hW => zhK N _ W (Hnb.out.below (Hbw.out.trans (hW.mono Hbw.out.size))).nat)
         have HD := hid ((Below.refl wo.heap.size wo).drew)
         by_cases hN0 : N = 0
         ·
          have hz0 : (N == 0) = true := by rw [beq_iff_eq]; exact hN0
          rw [hz0] at HZe
          clear hz0 hN0
          have HSB := hid (show ∀ W, Below wo.heap.size wo W → W.cell? ⟨bx, 0, none⟩ = some (.slice xn (zf N).length yn) from fun W hW => zco ((Hnb.out.below (Hbw.out.trans (hW.mono Hbw.out.size))).blk))
          refine wp_region_noPanic ?_
          refine kg (fun w' => w'.cell? ⟨bx, 0, none⟩ = some (.slice xn (zf N).length yn)) (fun _ => false) hmx (HSB.out _ HD.out) (fun hS => ?_)
          refine zTk 0 (.nilIface) rfl (by kernel_rfl) (fun _ _ _ h => h) (Or.inl ⟨by rfl, fun w99 hS9 => by (have x1 := hS9; go_simp)⟩) hS ?_
          try simp only [Act.put, List.getElem_toArray, List.getElem_cons_zero, List.setIfInBounds_toArray, List.set_cons_zero, List.set_cons_succ]
          refine zTk 1 (.bool false) rfl (by kernel_rfl) (fun _ _ _ h => h) (Or.inl ⟨by rfl, fun w99 hS9 => by (have x1 := hS9; go_simp)⟩) hS ?_
          try simp only [Act.put, zs1, zs2, zs3, zs4, zs5, zs6]
          refine zTk 2 (.bool false) rfl (by kernel_rfl) (fun _ _ _ h => h) (Or.inl ⟨by rfl, fun w99 hS9 => by (have x1 := hS9; go_simp)⟩) hS ?_
          try simp only [Act.put, zs1, zs2, zs3, zs4, zs5, zs6]
          refine zTk 3 (.agg #[.slice xn (zf N).length yn]) rfl (by kernel_rfl) (fun _ _ _ h => h) (Or.inl ⟨by rfl, fun w99 hS9 => by (have x1 := hS9; go_simp)⟩) hS ?_
          try simp only [Act.put, zs1, zs2, zs3, zs4, zs5, zs6]
          refine zl (rs := [4]) (by kernel_rfl) (by simp) ?_
          refine ze.cons rfl (fun K hK => ?_) ze.nil
          go_simp
          refine (HZe.out _ HD.out).mono ?_
          rintro e w20 ⟨rfl, hb20⟩
          have HDn := hid (HD.out.trans (hb20.mono HD.out.size))
          refine hK.out _ _ (.inr (HSB.out _ HDn.out)) ?_
          clear hS HD
          have HD := HDn
          clear HDn
          have hS := HSB.out _ HD.out
          clear hK K hb20
          try simp only [Act.put, zs1, zs2, zs3, zs4, zs5, zs6]
          refine zTk 5 (.bool true) rfl (by kernel_rfl) (fun _ _ _ h => h) (Or.inl ⟨by rfl, fun w99 hS9 => by (have x1 := hS9; go_simp)⟩) hS ?_
          try simp only [Act.put, zs1, zs2, zs3, zs4, zs5, zs6]
          refine zTk 6 (.bool true) rfl (by kernel_rfl) (fun _ _ _ h => h) (Or.inl ⟨by rfl, fun w99 hS9 => by (have x1 := hS9; go_simp)⟩) hS ?_
          try simp only [Act.put, zs1, zs2, zs3, zs4, zs5, zs6]
          refine zTk 7 (undef) rfl (by kernel_rfl) (fun _ _ _ h => h) (Or.inr ⟨rfl, rfl⟩) hS ?_
          try simp only [Act.put, zs1, zs2, zs3, zs4, zs5, zs6]
          refine zTk 8 (undef) rfl (by kernel_rfl) (fun _ _ _ h => h) (Or.inr ⟨rfl, rfl⟩) hS ?_
          try simp only [Act.put, zs1, zs2, zs3, zs4, zs5, zs6]
          refine zTk 9 (undef) rfl (by kernel_rfl) (fun _ _ _ h => h) (Or.inr ⟨rfl, rfl⟩) hS ?_
          try simp only [Act.put, zs1, zs2, zs3, zs4, zs5, zs6]
          refine zTk 10 (undef) rfl (by kernel_rfl) (fun _ _ _ h => h) (Or.inr ⟨rfl, rfl⟩) hS ?_
          try simp only [Act.put, zs1, zs2, zs3, zs4, zs5, zs6]
          refine zTk 11 (undef) rfl (by kernel_rfl) (fun _ _ _ h => h) (Or.inr ⟨rfl, rfl⟩) hS ?_
          try simp only [Act.put, zs1, zs2, zs3, zs4, zs5, zs6]
          refine zTk 12 (undef) rfl (by kernel_rfl) (fun _ _ _ h => h) (Or.inr ⟨rfl, rfl⟩) hS ?_
          try simp only [Act.put, zs1, zs2, zs3, zs4, zs5, zs6]
          refine zTk 13 (undef) rfl (by kernel_rfl) (fun _ _ _ h => h) (Or.inr ⟨rfl, rfl⟩) hS ?_
          try simp only [Act.put, zs1, zs2, zs3, zs4, zs5, zs6]
          refine zTk 14 (undef) rfl (by kernel_rfl) (fun _ _ _ h => h) (Or.inr ⟨rfl, rfl⟩) hS ?_
          try simp only [Act.put, zs1, zs2, zs3, zs4, zs5, zs6]
          refine zTk 15 (undef) rfl (by kernel_rfl) (fun _ _ _ h => h) (Or.inr ⟨rfl, rfl⟩) hS ?_
          try simp only [Act.put, zs1, zs2, zs3, zs4, zs5, zs6]
          refine zTk 16 (undef) rfl (by kernel_rfl) (fun _ _ _ h => h) (Or.inr ⟨rfl, rfl⟩) hS ?_
          try simp only [Act.put, zs1, zs2, zs3, zs4, zs5, zs6]
          refine zTk 17 (undef) rfl (by kernel_rfl) (fun _ _ _ h => h) (Or.inr ⟨rfl, rfl⟩) hS ?_
          try simp only [Act.put, zs1, zs2, zs3, zs4, zs5, zs6]
          refine zTk 18 (undef) rfl (by kernel_rfl) (fun _ _ _ h => h) (Or.inr ⟨rfl, rfl⟩) hS ?_
          try simp only [Act.put, zs1, zs2, zs3, zs4, zs5, zs6]
          refine zTk 19 (undef) rfl (by kernel_rfl) (fun _ _ _ h => h) (Or.inr ⟨rfl, rfl⟩) hS ?_
          try simp only [Act.put, zs1, zs2, zs3, zs4, zs5, zs6]
          refine zTk 20 (undef) rfl (by kernel_rfl) (fun _ _ _ h => h) (Or.inr ⟨rfl, rfl⟩) hS ?_
          try simp only [Act.put, zs1, zs2, zs3, zs4, zs5, zs6]
          refine zTk 21 (undef) rfl (by kernel_rfl) (fun _ _ _ h => h) (Or.inr ⟨rfl, rfl⟩) hS ?_
          try simp only [Act.put, zs1, zs2, zs3, zs4, zs5, zs6]
          refine zTk 22 (.bool true) rfl (by kernel_rfl) (fun _ _ _ h => h) (Or.inl ⟨by rfl, fun w99 hS9 => by (have x1 := hS9; go_simp)⟩) hS ?_
          try simp only [Act.put, zs1, zs2, zs3, zs4, zs5, zs6]
          refine zTk 23 (.bool true) rfl (by kernel_rfl) (fun _ _ _ h => h) (Or.inl ⟨by rfl, fun w99 hS9 => by (have x1 := hS9; go_simp)⟩) hS ?_
          try simp only [Act.put, zs1, zs2, zs3, zs4, zs5, zs6]
          refine yH (by kernel_rfl) (NoPanic.normal ?_) _
          go_wp2_with fail
          go_ret
          exact ⟨rfl, HDe.out _ HD.out⟩
         ·
          have hz0 : (N == 0) = false := by rw [beq_eq_false_iff_ne]; exact hN0
          rw [hz0] at HZe
          clear hz0
          obtain ⟨pre, hpre⟩ := Hlast.out (Classical.byContradiction fun q => hN0 (Hzr.out.2 q))
          have hol : outl.length = pre.length + 1 := by rw [hpre]; simp
          have hmx100 : outl.length ≤ 100 := by
           have h := jg (Hcore.out.inc.imp (fun h => Nat.ne_of_lt h)) (m := List.range 100) (fun i hi => List.mem_range.2 (Hcore.out.lt i hi))
           simpa using h
          obtain ⟨go, hgoe, hgl, _⟩ := zk.at Hout.out (by rw [List.length_map]; omega)
          obtain ⟨mo, hmo⟩ : ∃ mo, mo = pre.length := ⟨_, rfl⟩
          have hcg : w6.cell? ⟨go, mo, none⟩ = some (.int .i64 ls.length) := by
           have h9 := Hout.out
           rw [hgoe] at h9
           have h := zk.cell (enc := zT) (z := 1) (fun _ => rfl) h9 (k := mo) (by rw [List.length_map]; omega) (j := 0) (by decide) rfl
           rw [Nat.mul_one, Nat.add_zero] at h
           rw [h]
           simp only [List.getElem_map, hpre, hmo]
           simp
          rw [← hmo] at hol
          rw [hgoe, hol]
          have hm100 : mo ≤ 100 := by omega
          have Hwr9 := hid (show IntKind.i64.wrap (((mo + 1 : Nat) : Int) - 1) = (mo : Int) from (IntWalk.i64_in _ (by omega)).trans (by omega))
          have Hwr8 := hid (show IntKind.i64.wrap (mo : Int) = (mo : Int) from IntWalk.i64_in _ (by omega))
          have HSB := hid (show ∀ W, Below wo.heap.size wo W → W.cell? ⟨bx, 0, none⟩ = some (.slice xn (zf N).length yn) ∧ W.cell? ⟨go, mo, none⟩ = some (.int .i64 ls.length) from fun W hW => ⟨zco ((Hnb.out.below (Hbw.out.trans (hW.mono Hbw.out.size))).blk), by
           have h1 := Hb7.out.trans (Hb8.out.mono Hb7.out.size)
           have h2 := h1.trans ((Hbo.out.trans (hW.mono Hbo.out.size)).mono h1.size)
           exact (h2.cell hgl).trans hcg⟩)
          clear hpre hol hmx100 hgoe hgl hcg hmo hN0
          refine wp_region_noPanic ?_
          refine kg (fun w' => w'.cell? ⟨bx, 0, none⟩ = some (.slice xn (zf N).length yn) ∧ w'.cell? ⟨go, mo, none⟩ = some (.int .i64 ls.length)) (fun _ => false) hmx (HSB.out _ HD.out) (fun hS => ?_)
          refine zTk 0 (.nilIface) rfl (by kernel_rfl) (fun _ _ _ h => h) (Or.inl ⟨by rfl, fun w99 hS9 => by (obtain ⟨x1, x2⟩ := hS9; have hw9 := Hwr9.out; have hw8 := Hwr8.out; have hw7 : ¬ ((mo : Int) + 1 ≤ (mo : Int)) := (by omega); go_simp)⟩) hS ?_
          try simp only [Act.put, List.getElem_toArray, List.getElem_cons_zero, List.setIfInBounds_toArray, List.set_cons_zero, List.set_cons_succ]
          refine zTk 1 (.bool false) rfl (by kernel_rfl) (fun _ _ _ h => h) (Or.inl ⟨by rfl, fun w99 hS9 => by (obtain ⟨x1, x2⟩ := hS9; have hw9 := Hwr9.out; have hw8 := Hwr8.out; have hw7 : ¬ ((mo : Int) + 1 ≤ (mo : Int)) := (by omega); go_simp)⟩) hS ?_
          try simp only [Act.put, zs1, zs2, zs3, zs4, zs5, zs6]
          refine zTk 2 (.bool false) rfl (by kernel_rfl) (fun _ _ _ h => h) (Or.inl ⟨by rfl, fun w99 hS9 => by (obtain ⟨x1, x2⟩ := hS9; have hw9 := Hwr9.out; have hw8 := Hwr8.out; have hw7 : ¬ ((mo : Int) + 1 ≤ (mo : Int)) := (by omega); go_simp)⟩) hS ?_
          try simp only [Act.put, zs1, zs2, zs3, zs4, zs5, zs6]
          refine zTk 3 (.agg #[.slice xn (zf N).length yn]) rfl (by kernel_rfl) (fun _ _ _ h => h) (Or.inl ⟨by rfl, fun w99 hS9 => by (obtain ⟨x1, x2⟩ := hS9; have hw9 := Hwr9.out; have hw8 := Hwr8.out; have hw7 : ¬ ((mo : Int) + 1 ≤ (mo : Int)) := (by omega); go_simp)⟩) hS ?_
          try simp only [Act.put, zs1, zs2, zs3, zs4, zs5, zs6]
          refine zl (rs := [4]) (by kernel_rfl) (by simp) ?_
          refine ze.cons rfl (fun K hK => ?_) ze.nil
          go_simp
          refine (HZe.out _ HD.out).mono ?_
          rintro e w20 ⟨rfl, hb20⟩
          have HDn := hid (HD.out.trans (hb20.mono HD.out.size))
          refine hK.out _ _ (.inr (HSB.out _ HDn.out)) ?_
          clear hS HD
          have HD := HDn
          clear HDn
          have hS := HSB.out _ HD.out
          clear hK K hb20
          try simp only [Act.put, zs1, zs2, zs3, zs4, zs5, zs6]
          refine zTk 5 (.bool false) rfl (by kernel_rfl) (fun _ _ _ h => h) (Or.inl ⟨by rfl, fun w99 hS9 => by (obtain ⟨x1, x2⟩ := hS9; have hw9 := Hwr9.out; have hw8 := Hwr8.out; have hw7 : ¬ ((mo : Int) + 1 ≤ (mo : Int)) := (by omega); go_simp)⟩) hS ?_
          try simp only [Act.put, zs1, zs2, zs3, zs4, zs5, zs6]
          refine zTk 6 (.bool false) rfl (by kernel_rfl) (fun _ _ _ h => h) (Or.inl ⟨by rfl, fun w99 hS9 => by (obtain ⟨x1, x2⟩ := hS9; have hw9 := Hwr9.out; have hw8 := Hwr8.out; have hw7 : ¬ ((mo : Int) + 1 ≤ (mo : Int)) := (by omega); go_simp)⟩) hS ?_
          try simp only [Act.put, zs1, zs2, zs3, zs4, zs5, zs6]
          refine zTk 7 (.slice (some ⟨go, 0, none⟩) (mo + 1) c9) rfl (by kernel_rfl) (fun _ _ _ h => h) (Or.inl ⟨by rfl, fun w99 hS9 => by (obtain ⟨x1, x2⟩ := hS9; have hw9 := Hwr9.out; have hw8 := Hwr8.out; have hw7 : ¬ ((mo : Int) + 1 ≤ (mo : Int)) := (by omega); go_simp)⟩) hS ?_
          try simp only [Act.put, zs1, zs2, zs3, zs4, zs5, zs6]
          refine zTk 8 (.int .i64 (mo + 1 : Nat)) rfl (by kernel_rfl) (fun _ _ _ h => h) (Or.inl ⟨by rfl, fun w99 hS9 => by (obtain ⟨x1, x2⟩ := hS9; have hw9 := Hwr9.out; have hw8 := Hwr8.out; have hw7 : ¬ ((mo : Int) + 1 ≤ (mo : Int)) := (by omega); go_simp)⟩) hS ?_
          try simp only [Act.put, zs1, zs2, zs3, zs4, zs5, zs6]
          refine zTk 9 (.bool true) rfl (by kernel_rfl) (fun _ _ _ h => h) (Or.inl ⟨by rfl, fun w99 hS9 => by (obtain ⟨x1, x2⟩ := hS9; have hw9 := Hwr9.out; have hw8 := Hwr8.out; have hw7 : ¬ ((mo : Int) + 1 ≤ (mo : Int)) := (by omega); go_simp)⟩) hS ?_
          try simp only [Act.put, zs1, zs2, zs3, zs4, zs5, zs6]
          refine zTk 10 (.bool true) rfl (by kernel_rfl) (fun _ _ _ h => h) (Or.inl ⟨by rfl, fun w99 hS9 => by (obtain ⟨x1, x2⟩ := hS9; have hw9 := Hwr9.out; have hw8 := Hwr8.out; have hw7 : ¬ ((mo : Int) + 1 ≤ (mo : Int)) := (by omega); go_simp)⟩) hS ?_
          try simp only [Act.put, zs1, zs2, zs3, zs4, zs5, zs6]
          refine zTk 11 (.slice (some ⟨go, 0, none⟩) (mo + 1) c9) rfl (by kernel_rfl) (fun _ _ _ h => h) (Or.inl ⟨by rfl, fun w99 hS9 => by (obtain ⟨x1, x2⟩ := hS9; have hw9 := Hwr9.out; have hw8 := Hwr8.out; have hw7 : ¬ ((mo : Int) + 1 ≤ (mo : Int)) := (by omega); go_simp)⟩) hS ?_
          try simp only [Act.put, zs1, zs2, zs3, zs4, zs5, zs6]
          refine zTk 12 (.slice (some ⟨go, 0, none⟩) (mo + 1) c9) rfl (by kernel_rfl) (fun _ _ _ h => h) (Or.inl ⟨by rfl, fun w99 hS9 => by (obtain ⟨x1, x2⟩ := hS9; have hw9 := Hwr9.out; have hw8 := Hwr8.out; have hw7 : ¬ ((mo : Int) + 1 ≤ (mo : Int)) := (by omega); go_simp)⟩) hS ?_
          try simp only [Act.put, zs1, zs2, zs3, zs4, zs5, zs6]
          refine zTk 13 (.int .i64 (mo + 1 : Nat)) rfl (by kernel_rfl) (fun _ _ _ h => h) (Or.inl ⟨by rfl, fun w99 hS9 => by (obtain ⟨x1, x2⟩ := hS9; have hw9 := Hwr9.out; have hw8 := Hwr8.out; have hw7 : ¬ ((mo : Int) + 1 ≤ (mo : Int)) := (by omega); go_simp)⟩) hS ?_
          try simp only [Act.put, zs1, zs2, zs3, zs4, zs5, zs6]
          refine zTk 14 (.int .i64 mo) rfl (by kernel_rfl) (fun _ _ _ h => h) (Or.inl ⟨by rfl, fun w99 hS9 => by (obtain ⟨x1, x2⟩ := hS9; have hw9 := Hwr9.out; have hw8 := Hwr8.out; have hw7 : ¬ ((mo : Int) + 1 ≤ (mo : Int)) := (by omega); go_simp)⟩) hS ?_
          try simp only [Act.put, zs1, zs2, zs3, zs4, zs5, zs6]
          refine zTk 15 (.pointer (some ⟨go, mo, none⟩)) rfl (by kernel_rfl) (fun _ _ _ h => h) (Or.inl ⟨by rfl, fun w99 hS9 => by (obtain ⟨x1, x2⟩ := hS9; have hw9 := Hwr9.out; have hw8 := Hwr8.out; have hw7 : ¬ ((mo : Int) + 1 ≤ (mo : Int)) := (by omega); go_simp)⟩) hS ?_
          try simp only [Act.put, zs1, zs2, zs3, zs4, zs5, zs6]
          refine zTk 16 (.int .i64 ls.length) rfl (by kernel_rfl) (fun _ _ _ h => h) (Or.inl ⟨by rfl, fun w99 hS9 => by (obtain ⟨x1, x2⟩ := hS9; have hw9 := Hwr9.out; have hw8 := Hwr8.out; have hw7 : ¬ ((mo : Int) + 1 ≤ (mo : Int)) := (by omega); go_simp)⟩) hS ?_
          try simp only [Act.put, zs1, zs2, zs3, zs4, zs5, zs6]
          refine zTk 17 (.pointer (some ⟨p, 0, none⟩)) rfl (by kernel_rfl) (fun _ _ _ h => h) (Or.inl ⟨by rfl, fun w99 hS9 => by (obtain ⟨x1, x2⟩ := hS9; have hw9 := Hwr9.out; have hw8 := Hwr8.out; have hw7 : ¬ ((mo : Int) + 1 ≤ (mo : Int)) := (by omega); go_simp)⟩) hS ?_
          try simp only [Act.put, zs1, zs2, zs3, zs4, zs5, zs6]
          refine zl (rs := [18]) (by kernel_rfl) (by simp) ?_
          refine ze.cons rfl (fun K hK => ?_) ze.nil
          go_simp
          refine (HLi.out _ (HDw.out _ HD.out)).mono ?_
          rintro e w21 ⟨⟨v21, rfl, hl21⟩, hb21⟩
          obtain ⟨al2, cl2, rfl, _, _⟩ := hl21.row.shape
          clear hl21
          have HDn := hid (HD.out.trans (hb21.mono HD.out.size))
          refine hK.out _ _ (.inr (HSB.out _ HDn.out)) ?_
          clear hS HD
          have HD := HDn
          clear HDn
          have hS := HSB.out _ HD.out
          clear hK K hb21
          try simp only [Act.put, zs1, zs2, zs3, zs4, zs5, zs6]
          refine zTk 19 (.int .i64 ls.length) rfl (by kernel_rfl) (fun _ _ _ h => h) (Or.inl ⟨by rfl, fun w99 hS9 => by (obtain ⟨x1, x2⟩ := hS9; have hw9 := Hwr9.out; have hw8 := Hwr8.out; have hw7 : ¬ ((mo : Int) + 1 ≤ (mo : Int)) := (by omega); go_simp)⟩) hS ?_
          try simp only [Act.put, zs1, zs2, zs3, zs4, zs5, zs6]
          refine zTk 20 (.bool true) rfl (by kernel_rfl) (fun _ _ _ h => h) (Or.inl ⟨by rfl, fun w99 hS9 => by (obtain ⟨x1, x2⟩ := hS9; have hw9 := Hwr9.out; have hw8 := Hwr8.out; have hw7 : ¬ ((mo : Int) + 1 ≤ (mo : Int)) := (by omega); go_simp)⟩) hS ?_
          try simp only [Act.put, zs1, zs2, zs3, zs4, zs5, zs6]
          refine zTk 21 (.bool true) rfl (by kernel_rfl) (fun _ _ _ h => h) (Or.inl ⟨by rfl, fun w99 hS9 => by (obtain ⟨x1, x2⟩ := hS9; have hw9 := Hwr9.out; have hw8 := Hwr8.out; have hw7 : ¬ ((mo : Int) + 1 ≤ (mo : Int)) := (by omega); go_simp)⟩) hS ?_
          try simp only [Act.put, zs1, zs2, zs3, zs4, zs5, zs6]
          refine zTk 22 (.bool true) rfl (by kernel_rfl) (fun _ _ _ h => h) (Or.inl ⟨by rfl, fun w99 hS9 => by (obtain ⟨x1, x2⟩ := hS9; have hw9 := Hwr9.out; have hw8 := Hwr8.out; have hw7 : ¬ ((mo : Int) + 1 ≤ (mo : Int)) := (by omega); go_simp)⟩) hS ?_
          try simp only [Act.put, zs1, zs2, zs3, zs4, zs5, zs6]
          refine zTk 23 (.bool true) rfl (by kernel_rfl) (fun _ _ _ h => h) (Or.inl ⟨by rfl, fun w99 hS9 => by (obtain ⟨x1, x2⟩ := hS9; have hw9 := Hwr9.out; have hw8 := Hwr8.out; have hw7 : ¬ ((mo : Int) + 1 ≤ (mo : Int)) := (by omega); go_simp)⟩) hS ?_
          try simp only [Act.put, zs1, zs2, zs3, zs4, zs5, zs6]
          refine yH (by kernel_rfl) (NoPanic.normal ?_) _
          go_wp2_with fail
          go_ret
          exact ⟨rfl, HDe.out _ HD.out⟩
      ·
       have hnb : je (w9.setCell ⟨w8.heap.size, 0, none⟩ (.slice xn (zf N).length yn)) w8.heap.size xn yn N := ⟨one_setCell HX9.out, HN9.out.xW HX9.out _⟩
       have hbz := HB.out.setCell (p := ⟨w8.heap.size, 0, none⟩) (znr _) (.slice xn (zf N).length yn)
       clear g9 z9 l9
       have hbx : ∃ bx, bx = w8.heap.size := ⟨_, rfl⟩
       generalize w9.setCell ⟨w8.heap.size, 0, none⟩ (.slice xn (zf N).length yn) = wz at hnb hbz ⊢
       generalize w8.heap.size = bx at hnb ⊢
       have Hnb := hid hnb; have Hbz := hid hbz
       clear KS hnb hbz
       go_wp2_with fail
       go_loopg [17, 18] NL (fun gk inb i wr => ∃ j : Nat, j ≤ NL ∧ gk = NL - j ∧ i = .int .i64 j ∧ inb = .bool (decide (kv ∈ Fx.take j)) ∧ Below wz.heap.size wz wr)
       case atStart => exact ⟨0, znz _, rfl, rfl, by simp, Below.refl _ _⟩
       case round =>
        obtain ⟨j, hj, rfl, rfl, rfl, hbw⟩ := hrel
        obtain ⟨wo, rfl⟩ : ∃ y, y = wr := ⟨_, rfl⟩
        have hbo := Hbz.out.trans (hbw.mono Hbz.out.size)
        by_cases hlt : j < NL
        ·
         have hrow := zk.below HFo.out hbo
         have hjF : j < Fx.length := by rw [← HNL.out]; exact hlt
         obtain ⟨gf, rfl, _, _⟩ := zk.at hrow (by rw [List.length_map]; omega)
         have hcf := zk.cell (enc := zT) (z := 1) (fun _ => rfl) hrow (k := j) (by rw [List.length_map]; exact hjF) (j := 0) (by decide) rfl
         rw [Nat.mul_one, Nat.add_zero, List.getElem_map] at hcf
         have htk : Fx.take (j + 1) = Fx.take j ++ [Fx[j]] := List.take_succ_eq_append_getElem hjF
         have hi : (j : Int) < (NL : Int) := by omega
         obtain ⟨x, hx⟩ : ∃ x, x = Fx[j] := ⟨_, rfl⟩
         rw [← hx] at hcf htk
         obtain ⟨b, hb⟩ : ∃ b, b = decide (kv ∈ Fx.take j) := ⟨_, rfl⟩
         have hnx : decide (kv ∈ Fx.take (j + 1)) = (b || decide (x = kv)) := by
          rw [htk, hb, Bool.eq_iff_iff, decide_eq_true_iff, List.mem_append, List.mem_singleton, Bool.or_eq_true, decide_eq_true_iff, decide_eq_true_iff]
          exact ⟨fun q => q.imp id Eq.symm, fun q => q.imp id Eq.symm⟩
         rw [← hb]
         have Hnx := hid hnx; have Hbw := hid hbw
         clear hnx htk hb hrow hbw hbo hx
         cases b with
         | true =>
          go_wp2_with fail
          go_roundg (NL - (j + 1))
          case measure => omega
          case rel => exact ⟨j + 1, by omega, rfl, by go_num, by rw [Hnx.out]; simp, Hbw.out⟩
         | false =>
          by_cases hxk : x = kv
          ·
           have t9 : ((x : Int) == (kv : Int)) = true := by rw [beq_iff_eq]; omega
           have Hxk := hid hxk; clear hxk
           go_wp2_with fail
           go_roundg (NL - (j + 1))
           case measure => omega
           case rel => exact ⟨j + 1, by omega, rfl, by go_num, by rw [Hnx.out, decide_eq_true Hxk.out]; rfl, Hbw.out⟩
          ·
           have t9 : ((x : Int) == (kv : Int)) = false := by rw [beq_eq_false_iff_ne]; omega
           have Hxk := hid hxk; clear hxk
           go_wp2_with fail
           go_roundg (NL - (j + 1))
           case measure => omega
           case rel => exact ⟨j + 1, by omega, rfl, by go_num, by rw [Hnx.out, decide_eq_false Hxk.out]; rfl, Hbw.out⟩
        ·
         obtain rfl : j = NL := by omega
         have htk : Fx.take j = Fx := by rw [HNL.out]; exact List.take_length
         rw [htk, HBv.out]
         have Hbw := hid hbw; have Hbo := hid hbo
         clear hbw hbo htk hlt
         go_upto_region 19 with fail
         have hmx : Tryz.prog.follows .mixedOrders = true := by kernel_rfl
         have HDw := hid (show ∀ W, Below wo.heap.size wo W → Below w2.heap.size w2 W from fun W hW => (HQ.out _ (Hb8.out.trans ((Hbo.out.trans (hW.mono Hbo.out.size)).mono Hb8.out.size))).2.2)
         have HDe := hid (show ∀ W, Below wo.heap.size wo W → Below w.heap.size w W from fun W hW => (HW.out W (HDw.out W hW)).2.2.2.1)
         have HZe := hid (show ∀ W, Below wo.heap.size wo W → Calls Tryz.prog 23 #[.agg #[.slice xn (zf N).length yn]] W fun e w' => e = .returned (.bool (N == 0)) ∧ Below W.heap.size W w' from fun W hW => zhK N _ W (Hnb.out.below (Hbw.out.trans (hW.mono Hbw.out.size))).nat)
         have HD := hid ((Below.refl wo.heap.size wo).drew)
         by_cases hN0 : N = 0
         ·
          have hz0 : (N == 0) = true := by rw [beq_iff_eq]; exact hN0
          rw [hz0] at HZe
          clear hz0 hN0
          have HSB := hid (show ∀ W, Below wo.heap.size wo W → W.cell? ⟨bx, 0, none⟩ = some (.slice xn (zf N).length yn) from fun W hW => zco ((Hnb.out.below (Hbw.out.trans (hW.mono Hbw.out.size))).blk))
          refine wp_region_noPanic ?_
          refine kg (fun w' => w'.cell? ⟨bx, 0, none⟩ = some (.slice xn (zf N).length yn)) (fun _ => false) hmx (HSB.out _ HD.out) (fun hS => ?_)
          refine zTk 0 (.nilIface) rfl (by kernel_rfl) (fun _ _ _ h => h) (Or.inl ⟨by rfl, fun w99 hS9 => by (have x1 := hS9; go_simp)⟩) hS ?_
          try simp only [Act.put, List.getElem_toArray, List.getElem_cons_zero, List.setIfInBounds_toArray, List.set_cons_zero, List.set_cons_succ]
          refine zTk 1 (.bool false) rfl (by kernel_rfl) (fun _ _ _ h => h) (Or.inl ⟨by rfl, fun w99 hS9 => by (have x1 := hS9; go_simp)⟩) hS ?_
          try simp only [Act.put, zs1, zs2, zs3, zs4, zs5, zs6]
          refine zTk 2 (.bool false) rfl (by kernel_rfl) (fun _ _ _ h => h) (Or.inl ⟨by rfl, fun w99 hS9 => by (have x1 := hS9; go_simp)⟩) hS ?_
          try simp only [Act.put, zs1, zs2, zs3, zs4, zs5, zs6]
          refine zTk 3 (.agg #[.slice xn (zf N).length yn]) rfl (by kernel_rfl) (fun _ _ _ h => h) (Or.inl ⟨by rfl, fun w99 hS9 => by (have x1 := hS9; go_simp)⟩) hS ?_
          try simp only [Act.put, zs1, zs2, zs3, zs4, zs5, zs6]
          refine zl (rs := [4]) (by kernel_rfl) (by simp) ?_
          refine ze.cons rfl (fun K hK => ?_) ze.nil
          go_simp
          refine (HZe.out _ HD.out).mono ?_
          rintro e w20 ⟨rfl, hb20⟩
          have HDn := hid (HD.out.trans (hb20.mono HD.out.size))
          refine hK.out _ _ (.inr (HSB.out _ HDn.out)) ?_
          clear hS HD
          have HD := HDn
          clear HDn
          have hS := HSB.out _ HD.out
          clear hK K hb20
          try simp only [Act.put, zs1, zs2, zs3, zs4, zs5, zs6]
          refine zTk 5 (.bool true) rfl (by kernel_rfl) (fun _ _ _ h => h) (Or.inl ⟨by rfl, fun w99 hS9 => by (have x1 := hS9; go_simp)⟩) hS ?_
          try simp only [Act.put, zs1, zs2, zs3, zs4, zs5, zs6]
          refine zTk 6 (.bool true) rfl (by kernel_rfl) (fun _ _ _ h => h) (Or.inl ⟨by rfl, fun w99 hS9 => by (have x1 := hS9; go_simp)⟩) hS ?_
          try simp only [Act.put, zs1, zs2, zs3, zs4, zs5, zs6]
          refine zTk 7 (undef) rfl (by kernel_rfl) (fun _ _ _ h => h) (Or.inr ⟨rfl, rfl⟩) hS ?_
          try simp only [Act.put, zs1, zs2, zs3, zs4, zs5, zs6]
          refine zTk 8 (undef) rfl (by kernel_rfl) (fun _ _ _ h => h) (Or.inr ⟨rfl, rfl⟩) hS ?_
          try simp only [Act.put, zs1, zs2, zs3, zs4, zs5, zs6]
          refine zTk 9 (undef) rfl (by kernel_rfl) (fun _ _ _ h => h) (Or.inr ⟨rfl, rfl⟩) hS ?_
          try simp only [Act.put, zs1, zs2, zs3, zs4, zs5, zs6]
          refine zTk 10 (undef) rfl (by kernel_rfl) (fun _ _ _ h => h) (Or.inr ⟨rfl, rfl⟩) hS ?_
          try simp only [Act.put, zs1, zs2, zs3, zs4, zs5, zs6]
          refine zTk 11 (undef) rfl (by kernel_rfl) (fun _ _ _ h => h) (Or.inr ⟨rfl, rfl⟩) hS ?_
          try simp only [Act.put, zs1, zs2, zs3, zs4, zs5, zs6]
          refine zTk 12 (undef) rfl (by kernel_rfl) (fun _ _ _ h => h) (Or.inr ⟨rfl, rfl⟩) hS ?_
          try simp only [Act.put, zs1, zs2, zs3, zs4, zs5, zs6]
          refine zTk 13 (undef) rfl (by kernel_rfl) (fun _ _ _ h => h) (Or.inr ⟨rfl, rfl⟩) hS ?_
          try simp only [Act.put, zs1, zs2, zs3, zs4, zs5, zs6]
          refine zTk 14 (undef) rfl (by kernel_rfl) (fun _ _ _ h => h) (Or.inr ⟨rfl, rfl⟩) hS ?_
          try simp only [Act.put, zs1, zs2, zs3, zs4, zs5, zs6]
          refine zTk 15 (undef) rfl (by kernel_rfl) (fun _ _ _ h => h) (Or.inr ⟨rfl, rfl⟩) hS ?_
          try simp only [Act.put, zs1, zs2, zs3, zs4, zs5, zs6]
          refine zTk 16 (undef) rfl (by kernel_rfl) (fun _ _ _ h => h) (Or.inr ⟨rfl, rfl⟩) hS ?_
          try simp only [Act.put, zs1, zs2, zs3, zs4, zs5, zs6]
          refine zTk 17 (undef) rfl (by kernel_rfl) (fun _ _ _ h => h) (Or.inr ⟨rfl, rfl⟩) hS ?_
          try simp only [Act.put, zs1, zs2, zs3, zs4, zs5, zs6]
          refine zTk 18 (undef) rfl (by kernel_rfl) (fun _ _ _ h => h) (Or.inr ⟨rfl, rfl⟩) hS ?_
          try simp only [Act.put, zs1, zs2, zs3, zs4, zs5, zs6]
          refine zTk 19 (undef) rfl (by kernel_rfl) (fun _ _ _ h => h) (Or.inr ⟨rfl, rfl⟩) hS ?_
          try simp only [Act.put, zs1, zs2, zs3, zs4, zs5, zs6]
          refine zTk 20 (undef) rfl (by kernel_rfl) (fun _ _ _ h => h) (Or.inr ⟨rfl, rfl⟩) hS ?_
          try simp only [Act.put, zs1, zs2, zs3, zs4, zs5, zs6]
          refine zTk 21 (undef) rfl (by kernel_rfl) (fun _ _ _ h => h) (Or.inr ⟨rfl, rfl⟩) hS ?_
          try simp only [Act.put, zs1, zs2, zs3, zs4, zs5, zs6]
          refine zTk 22 (.bool true) rfl (by kernel_rfl) (fun _ _ _ h => h) (Or.inl ⟨by rfl, fun w99 hS9 => by (have x1 := hS9; go_simp)⟩) hS ?_
          try simp only [Act.put, zs1, zs2, zs3, zs4, zs5, zs6]
          refine zTk 23 (.bool true) rfl (by kernel_rfl) (fun _ _ _ h => h) (Or.inl ⟨by rfl, fun w99 hS9 => by (have x1 := hS9; go_simp)⟩) hS ?_
          try simp only [Act.put, zs1, zs2, zs3, zs4, zs5, zs6]
          refine yH (by kernel_rfl) (NoPanic.normal ?_) _
          go_wp2_with fail
          go_ret
          exact ⟨rfl, HDe.out _ HD.out⟩
         ·
          have hz0 : (N == 0) = false := by rw [beq_eq_false_iff_ne]; exact hN0
          rw [hz0] at HZe
          clear hz0
          obtain ⟨pre, hpre⟩ := Hlast.out (Classical.byContradiction fun q => hN0 (Hzr.out.2 q))
          have hol : outl.length = pre.length + 1 := by rw [hpre]; simp
          have hmx100 : outl.length ≤ 100 := by
           have h := jg (Hcore.out.inc.imp (fun h => Nat.ne_of_lt h)) (m := List.range 100) (fun i hi => List.mem_range.2 (Hcore.out.lt i hi))
           simpa using h
          obtain ⟨go, hgoe, hgl, _⟩ := zk.at Hout.out (by rw [List.length_map]; omega)
          obtain ⟨mo, hmo⟩ : ∃ mo, mo = pre.length := ⟨_, rfl⟩
          have hcg : w6.cell? ⟨go, mo, none⟩ = some (.int .i64 ls.length) := by
           have h9 := Hout.out
           rw [hgoe] at h9
           have h := zk.cell (enc := zT) (z := 1) (fun _ => rfl) h9 (k := mo) (by rw [List.length_map]; omega) (j := 0) (by decide) rfl
           rw [Nat.mul_one, Nat.add_zero] at h
           rw [h]
           simp only [List.getElem_map, hpre, hmo]
           simp
          rw [← hmo] at hol
          rw [hgoe, hol]
          have hm100 : mo ≤ 100 := by omega
          have Hwr9 := hid (show IntKind.i64.wrap (((mo + 1 : Nat) : Int) - 1) = (mo : Int) from (IntWalk.i64_in _ (by omega)).trans (by omega))
          have Hwr8 := hid (show IntKind.i64.wrap (mo : Int) = (mo : Int) from IntWalk.i64_in _ (by omega))
          have HSB := hid (show ∀ W, Below wo.heap.size wo W → W.cell? ⟨bx, 0, none⟩ = some (.slice xn (zf N).length yn) ∧ W.cell? ⟨go, mo, none⟩ = some (.int .i64 ls.length) from fun W hW => ⟨zco ((Hnb.out.below (Hbw.out.trans (hW.mono Hbw.out.size))).blk), by
           have h1 := Hb7.out.trans (Hb8.out.mono Hb7.out.size)
           have h2 := h1.trans ((Hbo.out.trans (hW.mono Hbo.out.size)).mono h1.size)
           exact (h2.cell hgl).trans hcg⟩)
          clear hpre hol hmx100 hgoe hgl hcg hmo hN0
          refine wp_region_noPanic ?_
          refine kg (fun w' => w'.cell? ⟨bx, 0, none⟩ = some (.slice xn (zf N).length yn) ∧ w'.cell? ⟨go, mo, none⟩ = some (.int .i64 ls.length)) (fun _ => false) hmx (HSB.out _ HD.out) (fun hS => ?_)
          refine zTk 0 (.nilIface) rfl (by kernel_rfl) (fun _ _ _ h => h) (Or.inl ⟨by rfl, fun w99 hS9 => by (obtain ⟨x1, x2⟩ := hS9; have hw9 := Hwr9.out; have hw8 := Hwr8.out; have hw7 : ¬ ((mo : Int) + 1 ≤ (mo : Int)) := (by omega); go_simp)⟩) hS ?_
          try simp only [Act.put, List.getElem_toArray, List.getElem_cons_zero, List.setIfInBounds_toArray, List.set_cons_zero, List.set_cons_succ]
          refine zTk 1 (.bool false) rfl (by kernel_rfl) (fun _ _ _ h => h) (Or.inl ⟨by rfl, fun w99 hS9 => by (obtain ⟨x1, x2⟩ := hS9; have hw9 := Hwr9.out; have hw8 := Hwr8.out; have hw7 : ¬ ((mo : Int) + 1 ≤ (mo : Int)) := (by omega); go_simp)⟩) hS ?_
          try simp only [Act.put, zs1, zs2, zs3, zs4, zs5, zs6]
          refine zTk 2 (.bool false) rfl (by kernel_rfl) (fun _ _ _ h => h) (Or.inl ⟨by rfl, fun w99 hS9 => by (obtain ⟨x1, x2⟩ := hS9; have hw9 := Hwr9.out; have hw8 := Hwr8.out; have hw7 : ¬ ((mo : Int) + 1 ≤ (mo : Int)) := (by omega); go_simp)⟩) hS ?_
          try simp only [Act.put, zs1, zs2, zs3, zs4, zs5, zs6]
          refine zTk 3 (.agg #[.slice xn (zf N).length yn]) rfl (by kernel_rfl) (fun _ _ _ h => h) (Or.inl ⟨by rfl, fun w99 hS9 => by (obtain ⟨x1, x2⟩ := hS9; have hw9 := Hwr9.out; have hw8 := Hwr8.out; have hw7 : ¬ ((mo : Int) + 1 ≤ (mo : Int)) := (by omega); go_simp)⟩) hS ?_
          try simp only [Act.put, zs1, zs2, zs3, zs4, zs5, zs6]
          refine zl (rs := [4]) (by kernel_rfl) (by simp) ?_
          refine ze.cons rfl (fun K hK => ?_) ze.nil
          go_simp
          refine (HZe.out _ HD.out).mono ?_
          rintro e w20 ⟨rfl, hb20⟩
          have HDn := hid (HD.out.trans (hb20.mono HD.out.size))
          refine hK.out _ _ (.inr (HSB.out _ HDn.out)) ?_
          clear hS HD
          have HD := HDn
          clear HDn
          have hS := HSB.out _ HD.out
          clear hK K hb20
          try simp only [Act.put, zs1, zs2, zs3, zs4, zs5, zs6]
          refine zTk 5 (.bool false) rfl (by kernel_rfl) (fun _ _ _ h => h) (Or.inl ⟨by rfl, fun w99 hS9 => by (obtain ⟨x1, x2⟩ := hS9; have hw9 := Hwr9.out; have hw8 := Hwr8.out; have hw7 : ¬ ((mo : Int) + 1 ≤ (mo : Int)) := (by omega); go_simp)⟩) hS ?_
          try simp only [Act.put, zs1, zs2, zs3, zs4, zs5, zs6]
          refine zTk 6 (.bool false) rfl (by kernel_rfl) (fun _ _ _ h => h) (Or.inl ⟨by rfl, fun w99 hS9 => by (obtain ⟨x1, x2⟩ := hS9; have hw9 := Hwr9.out; have hw8 := Hwr8.out; have hw7 : ¬ ((mo : Int) + 1 ≤ (mo : Int)) := (by omega); go_simp)⟩) hS ?_
          try simp only [Act.put, zs1, zs2, zs3, zs4, zs5, zs6]
          refine zTk 7 (.slice (some ⟨go, 0, none⟩) (mo + 1) c9) rfl (by kernel_rfl) (fun _ _ _ h => h) (Or.inl ⟨by rfl, fun w99 hS9 => by (obtain ⟨x1, x2⟩ := hS9; have hw9 := Hwr9.out; have hw8 := Hwr8.out; have hw7 : ¬ ((mo : Int) + 1 ≤ (mo : Int)) := (by omega); go_simp)⟩) hS ?_
          try simp only [Act.put, zs1, zs2, zs3, zs4, zs5, zs6]
          refine zTk 8 (.int .i64 (mo + 1 : Nat)) rfl (by kernel_rfl) (fun _ _ _ h => h) (Or.inl ⟨by rfl, fun w99 hS9 => by (obtain ⟨x1, x2⟩ := hS9; have hw9 := Hwr9.out; have hw8 := Hwr8.out; have hw7 : ¬ ((mo : Int) + 1 ≤ (mo : Int)) := (by omega); go_simp)⟩) hS ?_
          try simp only [Act.put, zs1, zs2, zs3, zs4, zs5, zs6]
          refine zTk 9 (.bool true) rfl (by kernel_rfl) (fun _ _ _ h => h) (Or.inl ⟨by rfl, fun w99 hS9 => by (obtain ⟨x1, x2⟩ := hS9; have hw9 := Hwr9.out; have hw8 := Hwr8.out; have hw7 : ¬ ((mo : Int) + 1 ≤ (mo : Int)) := (by omega); go_simp)⟩) hS ?_
          try simp only [Act.put, zs1, zs2, zs3, zs4, zs5, zs6]
          refine zTk 10 (.bool true) rfl (by kernel_rfl) (fun _ _ _ h => h) (Or.inl ⟨by rfl, fun w99 hS9 => by (obtain ⟨x1, x2⟩ := hS9; have hw9 := Hwr9.out; have hw8 := Hwr8.out; have hw7 : ¬ ((mo : Int) + 1 ≤ (mo : Int)) := (by omega); go_simp)⟩) hS ?_
          try simp only [Act.put, zs1, zs2, zs3, zs4, zs5, zs6]
          refine zTk 11 (.slice (some ⟨go, 0, none⟩) (mo + 1) c9) rfl (by kernel_rfl) (fun _ _ _ h => h) (Or.inl ⟨by rfl, fun w99 hS9 => by (obtain ⟨x1, x2⟩ := hS9; have hw9 := Hwr9.out; have hw8 := Hwr8.out; have hw7 : ¬ ((mo : Int) + 1 ≤ (mo : Int)) := (by omega); go_simp)⟩) hS ?_
          try simp only [Act.put, zs1, zs2, zs3, zs4, zs5, zs6]
          refine zTk 12 (.slice (some ⟨go, 0, none⟩) (mo + 1) c9) rfl (by kernel_rfl) (fun _ _ _ h => h) (Or.inl ⟨by rfl, fun w99 hS9 => by (obtain ⟨x1, x2⟩ := hS9; have hw9 := Hwr9.out; have hw8 := Hwr8.out; have hw7 : ¬ ((mo : Int) + 1 ≤ (mo : Int)) := (by omega); go_simp)⟩) hS ?_
          try simp only [Act.put, zs1, zs2, zs3, zs4, zs5, zs6]
          refine zTk 13 (.int .i64 (mo + 1 : Nat)) rfl (by kernel_rfl) (fun _ _ _ h => h) (Or.inl ⟨by rfl, fun w99 hS9 => by (obtain ⟨x1, x2⟩ := hS9; have hw9 := Hwr9.out; have hw8 := Hwr8.out; have hw7 : ¬ ((mo : Int) + 1 ≤ (mo : Int)) := (by omega); go_simp)⟩) hS ?_
          try simp only [Act.put, zs1, zs2, zs3, zs4, zs5, zs6]
          refine zTk 14 (.int .i64 mo) rfl (by kernel_rfl) (fun _ _ _ h => h) (Or.inl ⟨by rfl, fun w99 hS9 => by (obtain ⟨x1, x2⟩ := hS9; have hw9 := Hwr9.out; have hw8 := Hwr8.out; have hw7 : ¬ ((mo : Int) + 1 ≤ (mo : Int)) := (by omega); go_simp)⟩) hS ?_
          try simp only [Act.put, zs1, zs2, zs3, zs4, zs5, zs6]
          refine zTk 15 (.pointer (some ⟨go, mo, none⟩)) rfl (by kernel_rfl) (fun _ _ _ h => h) (Or.inl ⟨by rfl, fun w99 hS9 => by (obtain ⟨x1, x2⟩ := hS9; have hw9 := Hwr9.out; have hw8 := Hwr8.out; have hw7 : ¬ ((mo : Int) + 1 ≤ (mo : Int)) := (by omega); go_simp)⟩) hS ?_
          try simp only [Act.put, zs1, zs2, zs3, zs4, zs5, zs6]
          refine zTk 16 (.int .i64 ls.length) rfl (by kernel_rfl) (fun _ _ _ h => h) (Or.inl ⟨by rfl, fun w99 hS9 => by (obtain ⟨x1, x2⟩ := hS9; have hw9 := Hwr9.out; have hw8 := Hwr8.out; have hw7 : ¬ ((mo : Int) + 1 ≤ (mo : Int)) := (by omega); go_simp)⟩) hS ?_
          try simp only [Act.put, zs1, zs2, zs3, zs4, zs5, zs6]
          refine zTk 17 (.pointer (some ⟨p, 0, none⟩)) rfl (by kernel_rfl) (fun _ _ _ h => h) (Or.inl ⟨by rfl, fun w99 hS9 => by (obtain ⟨x1, x2⟩ := hS9; have hw9 := Hwr9.out; have hw8 := Hwr8.out; have hw7 : ¬ ((mo : Int) + 1 ≤ (mo : Int)) := (by omega); go_simp)⟩) hS ?_
          try simp only [Act.put, zs1, zs2, zs3, zs4, zs5, zs6]
          refine zl (rs := [18]) (by kernel_rfl) (by simp) ?_
          refine ze.cons rfl (fun K hK => ?_) ze.nil
          go_simp
          refine (HLi.out _ (HDw.out _ HD.out)).mono ?_
          rintro e w21 ⟨⟨v21, rfl, hl21⟩, hb21⟩
          obtain ⟨al2, cl2, rfl, _, _⟩ := hl21.row.shape
          clear hl21
          have HDn := hid (HD.out.trans (hb21.mono HD.out.size))
          refine hK.out _ _ (.inr (HSB.out _ HDn.out)) ?_
          clear hS HD
          have HD := HDn
          clear HDn
          have hS := HSB.out _ HD.out
          clear hK K hb21
          try simp only [Act.put, zs1, zs2, zs3, zs4, zs5, zs6]
          refine zTk 19 (.int .i64 ls.length) rfl (by kernel_rfl) (fun _ _ _ h => h) (Or.inl ⟨by rfl, fun w99 hS9 => by (obtain ⟨x1, x2⟩ := hS9; have hw9 := Hwr9.out; have hw8 := Hwr8.out; have hw7 : ¬ ((mo : Int) + 1 ≤ (mo : Int)) := (by omega); go_simp)⟩) hS ?_
          try simp only [Act.put, zs1, zs2, zs3, zs4, zs5, zs6]
          refine zTk 20 (.bool true) rfl (by kernel_rfl) (fun _ _ _ h => h) (Or.inl ⟨by rfl, fun w99 hS9 => by (obtain ⟨x1, x2⟩ := hS9; have hw9 := Hwr9.out; have hw8 := Hwr8.out; have hw7 : ¬ ((mo : Int) + 1 ≤ (mo : Int)) := (by omega); go_simp)⟩) hS ?_
          try simp only [Act.put, zs1, zs2, zs3, zs4, zs5, zs6]
          refine zTk 21 (.bool true) rfl (by kernel_rfl) (fun _ _ _ h => h) (Or.inl ⟨by rfl, fun w99 hS9 => by (obtain ⟨x1, x2⟩ := hS9; have hw9 := Hwr9.out; have hw8 := Hwr8.out; have hw7 : ¬ ((mo : Int) + 1 ≤ (mo : Int)) := (by omega); go_simp)⟩) hS ?_
          try simp only [Act.put, zs1, zs2, zs3, zs4, zs5, zs6]
          refine zTk 22 (.bool true) rfl (by kernel_rfl) (fun _ _ _ h => h) (Or.inl ⟨by rfl, fun w99 hS9 => by (obtain ⟨x1, x2⟩ := hS9; have hw9 := Hwr9.out; have hw8 := Hwr8.out; have hw7 : ¬ ((mo : Int) + 1 ≤ (mo : Int)) := (by omega); go_simp)⟩) hS ?_
          try simp only [Act.put, zs1, zs2, zs3, zs4, zs5, zs6]
          refine zTk 23 (.bool true) rfl (by kernel_rfl) (fun _ _ _ h => h) (Or.inl ⟨by rfl, fun w99 hS9 => by (obtain ⟨x1, x2⟩ := hS9; have hw9 := Hwr9.out; have hw8 := Hwr8.out; have hw7 : ¬ ((mo : Int) + 1 ≤ (mo : Int)) := (by omega); go_simp)⟩) hS ?_
          try simp only [Act.put, zs1, zs2, zs3, zs4, zs5, zs6]
          refine yH (by kernel_rfl) (NoPanic.normal ?_) _
          go_wp2_with fail
          go_ret
          exact ⟨rfl, HDe.out _ HD.out⟩
     ·
      skip
      have HO6 := hid (HOf.out w6 HB.out)
      have HB6 := hid (show zfB (zR rc ++ [[(kv : Int) + 1]]) from by rw [← Hrc.out, zd4] at hsat; exact hsat)
      clear hsat
      go_wp2_with fail
      refine HO6.out.mono ?_
      rintro e w7 ⟨⟨q, s, st, all, rfl, hq, hsp, hi, _, _, _⟩, hb7⟩
      have hb27 := HB.out.trans (hb7.mono HB.out.size)
      have lq := zlb hq
      have HQ := hid (show ∀ W, Below w7.heap.size w7 W → IsSpace W s V st ∧ (W.cell? ⟨q, 0, none⟩ = some (.pointer (some ⟨s.ps, 0, none⟩)) ∧ W.cell? ⟨q, 1, none⟩ = some (.int .i64 all)) ∧ Below w2.heap.size w2 W from fun W hW => ⟨hsp.below hW, zkD ((hW.block _ (zlb hq)).trans hq), hb27.trans (hW.mono hb27.size)⟩)
      have HNe := hid (zgz q s V st all w7 (by have := H10.out; omega) hsp hq hi.sok.ok hi.has)
      have hnv := zhJ hi Hz.out (v := kv) hkv true
      simp only [if_true] at hnv
      have HC := hid (show ∀ W, Below w7.heap.size w7 W → Calls Tryz.prog 20 #[.pointer (some ⟨s.ps, 0, none⟩), .int .i64 all] W fun e w' => ∃ v, e = .returned (.tuple #[v, .nilIface]) ∧ zW w' v (qZ V V (zbk (zR rc)) (fun _ => false)) ∧ Below W.heap.size W w' from fun W hW => by
       have h := zgr V (by have := H10.out; omega) all W s st (HQ.out W hW).1 hi.sok.cells hi.has
       rw [show den st.c all = zbk (zR rc) from funext hi.den] at h
       exact h)
      have hzr := zfl (V := V) (l := zR rc) Hz.out
      obtain ⟨N, hN⟩ : ∃ N, N = qZ V V (zbk (zR rc)) (fun _ => false) := ⟨_, rfl⟩
      rw [← hN] at HC hzr
      have Hzr := hid hzr; have Hnv := hid hnv; have Hb7 := hid hb7
      clear hb7 hb27 hq hsp hi hzr hN hnv HO6
      go_wp2_with fail
      refine HNe.out.mono ?_
      rintro e w8 ⟨⟨a8, c8, rfl, hfx⟩, hb8⟩
      have hmF : kv ∈ zbB st.c true all V ↔ qW st.c kv true all = false := by
       rw [ziQ]
       exact ⟨fun h => h.2, fun h => ⟨hkv, h⟩⟩
      have hlF := zfH st.c true all V
      obtain ⟨Fx, hFx⟩ : ∃ F, F = zbB st.c true all V := ⟨_, rfl⟩
      rw [← hFx] at hfx hmF hlF ⊢
      have hBv : decide (kv ∈ Fx) = false := by
       rw [decide_eq_false_iff_not, hmF, Hnv.out.2 HB6.out]; simp
      obtain ⟨NL, hNL⟩ : ∃ NL, NL = Fx.length := ⟨_, rfl⟩
      rw [← hNL] at hfx hlF ⊢
      have hNL24 : NL ≤ 24 := by have := H10.out; omega
      have HFo := hid hfx; have HBv := hid hBv; have HNL := hid hNL; have Hb8 := hid hb8
      have KS0 := (HQ.out w8 hb8).2.1
      have HB8 := hid (show Below w8.heap.size w8 w8.drew from (Below.refl _ _).drew)
      clear hfx hmF hlF hFx hBv hNL hb8 HNe KS0
      clear HB
      have HB := HB8
      have HBd := hid (fun o => Below.alD (w := w8) o)
      have HQ8 := hid (show ∀ W, Below w8.heap.size w8 W → (W.cell? ⟨q, 0, none⟩ = some (.pointer (some ⟨s.ps, 0, none⟩)) ∧ W.cell? ⟨q, 1, none⟩ = some (.int .i64 all)) from fun W hW => (HQ.out W (Hb8.out.trans (hW.mono Hb8.out.size))).2.1)
      have HC8 := hid (fun (W : World) (hW : Below w8.heap.size w8 W) => HC.out W (Hb8.out.trans (hW.mono Hb8.out.size)))
      have KS := HQ8.out _ HB.out
      have lq8 : q < w8.heap.size := by have := Hb8.out.size; omega
      go_upto_region 11 with fail
      go_region_held3 (fun w' => w'.cell? ⟨q, 0, none⟩ = some (.pointer (some ⟨s.ps, 0, none⟩)) ∧ w'.cell? ⟨q, 1, none⟩ = some (.int .i64 all)) (first | (with_reducible exact KS) | (with_reducible exact HQ8.out _ (HBd.out _)) | (with_reducible exact HQ8.out _ (HB.out.setCell (p := ⟨w8.heap.size, 0, none⟩) (znr _) _)) | (with_reducible exact HQ8.out _ (HB.out.alloc HB.out.size _)) | go_keep)
       (first
        | (go_at_call 20; (refine (HC8.out _ (by first | (with_reducible exact HB.out) | (with_reducible exact HBd.out _))).mono ?_); rintro e w9 ⟨vn, rfl, hn9, hb9⟩; obtain ⟨xn, yn, rfl⟩ := hn9.shape; have HN9 := hid hn9; (try (have hx9 : w9.heap[w8.heap.size]? = some (.cells #[.slice none 0 0] 52 (0, 0)) := (hb9.block _ (by simp)).trans (za (by simp)); have g9 := zfo hx9; have z9 := zco hx9; have l9 := zlb hx9; have HX9 := hid hx9; clear hx9)); have hB9 : Below w8.heap.size w8 w9 := (by first | (with_reducible exact HB.out.trans (hb9.mono HB.out.size)) | (with_reducible exact (HBd.out _).trans (hb9.mono (HBd.out _).size))); clear hn9 hb9 KS HB; have HB := hid hB9; clear hB9; have KS := HQ8.out _ HB.out))
      ·
       have hnb := je.mk' HN9.out
       have hbz := HB.out.alloc HB.out.size (.cells #[.slice xn (zf N).length yn] 52)
       generalize w9.alloc (.cells #[.slice xn (zf N).length yn] 52) = wz at hnb hbz ⊢
       generalize w9.heap.size = bx at hnb ⊢
       have Hnb := hid hnb; have Hbz := hid hbz
       clear KS hnb hbz
       go_wp2_with fail
       go_loopg [17, 18] NL (fun gk inb i wr => ∃ j : Nat, j ≤ NL ∧ gk = NL - j ∧ i = .int .i64 j ∧ inb = .bool (decide (kv ∈ Fx.take j)) ∧ Below wz.heap.size wz wr)
       case atStart => exact ⟨0, znz _, rfl, rfl, by simp, Below.refl _ _⟩
       case round =>
        obtain ⟨j, hj, rfl, rfl, rfl, hbw⟩ := hrel
        obtain ⟨wo, rfl⟩ : ∃ y, y = wr := ⟨_, rfl⟩
        have hbo := Hbz.out.trans (hbw.mono Hbz.out.size)
        by_cases hlt : j < NL
        ·
         have hrow := zk.below HFo.out hbo
         have hjF : j < Fx.length := by rw [← HNL.out]; exact hlt
         obtain ⟨gf, rfl, _, _⟩ := zk.at hrow (by rw [List.length_map]; omega)
         have hcf := zk.cell (enc := zT) (z := 1) (fun _ => rfl) hrow (k := j) (by rw [List.length_map]; exact hjF) (j := 0) (by decide) rfl
         rw [Nat.mul_one, Nat.add_zero, List.getElem_map] at hcf
         have htk : Fx.take (j + 1) = Fx.take j ++ [Fx[j]] := List.take_succ_eq_append_getElem hjF
         have hi : (j : Int) < (NL : Int) := by omega
         obtain ⟨x, hx⟩ : ∃ x, x = Fx[j] := ⟨_, rfl⟩
         rw [← hx] at hcf htk
         obtain ⟨b, hb⟩ : ∃ b, b = decide (kv ∈ Fx.take j) := ⟨_, rfl⟩
         have hnx : decide (kv ∈ Fx.take (j + 1)) = (b || decide (x = kv)) := by
          rw [htk, hb, Bool.eq_iff_iff, decide_eq_true_iff, List.mem_append, List.mem_singleton, Bool.or_eq_true, decide_eq_true_iff, decide_eq_true_iff]
          exact ⟨fun q => q.imp id Eq.symm, fun q => q.imp id Eq.symm⟩
         rw [← hb]
         have Hnx := hid hnx; have Hbw := hid hbw
         clear hnx htk hb hrow hbw hbo hx
         cases b with
         | true =>
          go_wp2_with fail
          go_roundg (NL - (j + 1))
          case measure => omega
          case rel => exact ⟨j + 1, by omega, rfl, by go_num, by rw [Hnx.out]; simp, Hbw.out⟩
         | false =>
          by_cases hxk : x = kv
          ·
           have t9 : ((x : Int) == (kv : Int)) = true := by rw [beq_iff_eq]; omega
           have Hxk := hid hxk; clear hxk
           go_wp2_with fail
           go_roundg (NL - (j + 1))
           case measure => omega
           case rel => exact ⟨j + 1, by omega, rfl, by go_num, by rw [Hnx.out, decide_eq_true Hxk.out]; rfl, Hbw.out⟩
          ·
           have t9 : ((x : Int) == (kv : Int)) = false := by rw [beq_eq_false_iff_ne]; omega
           have Hxk := hid hxk; clear hxk
           go_wp2_with fail
           go_roundg (NL - (j + 1))
           case measure => omega
           case rel => exact ⟨j + 1, by omega, rfl, by go_num, by rw [Hnx.out, decide_eq_false Hxk.out]; rfl, Hbw.out⟩
        ·
         obtain rfl : j = NL := by omega
         have htk : Fx.take j = Fx := by rw [HNL.out]; exact List.take_length
         rw [htk, HBv.out]
         have Hbw := hid hbw; have Hbo := hid hbo
         clear hbw hbo htk hlt
         have hbe := (HW.out _ (HQ.out _ (Hb8.out.trans (Hbo.out.mono Hb8.out.size))).2.2)
         have HTl := hid (kX 8 wo hbe.2.2.2.2.2)
         have HBe := hid hbe.2.2.2.1
         clear hbe
         go_wp2_with fail
         refine HTl.out.mono ?_
         rintro e w20 ⟨rfl, hb20⟩
         have HBo := hid (HBe.out.trans (hb20.mono HBe.out.size))
         clear hb20
         go_upto_region 19 with fail
         go_quiet (fail)
         go_wp2_with fail
         go_ret
         exact ⟨rfl, below_drewN (HBo.out) _⟩
      ·
       have hnb : je (w9.setCell ⟨w8.heap.size, 0, none⟩ (.slice xn (zf N).length yn)) w8.heap.size xn yn N := ⟨one_setCell HX9.out, HN9.out.xW HX9.out _⟩
       have hbz := HB.out.setCell (p := ⟨w8.heap.size, 0, none⟩) (znr _) (.slice xn (zf N).length yn)
       clear g9 z9 l9
       have hbx : ∃ bx, bx = w8.heap.size := ⟨_, rfl⟩
       generalize w9.setCell ⟨w8.heap.size, 0, none⟩ (.slice xn (zf N).length yn) = wz at hnb hbz ⊢
       generalize w8.heap.size = bx at hnb ⊢
       have Hnb := hid hnb; have Hbz := hid hbz
       clear KS hnb hbz
       go_wp2_with fail
       go_loopg [17, 18] NL (fun gk inb i wr => ∃ j : Nat, j ≤ NL ∧ gk = NL - j ∧ i = .int .i64 j ∧ inb = .bool (decide (kv ∈ Fx.take j)) ∧ Below wz.heap.size wz wr)
       case atStart => exact ⟨0, znz _, rfl, rfl, by simp, Below.refl _ _⟩
       case round =>
        obtain ⟨j, hj, rfl, rfl, rfl, hbw⟩ := hrel
        obtain ⟨wo, rfl⟩ : ∃ y, y = wr := ⟨_, rfl⟩
        have hbo := Hbz.out.trans (hbw.mono Hbz.out.size)
        by_cases hlt : j < NL
        ·
         have hrow := zk.below HFo.out hbo
         have hjF : j < Fx.length := by rw [← HNL.out]; exact hlt
         obtain ⟨gf, rfl, _, _⟩ := zk.at hrow (by rw [List.length_map]; omega)
         have hcf := zk.cell (enc := zT) (z := 1) (fun _ => rfl) hrow (k := j) (by rw [List.length_map]; exact hjF) (j := 0) (by decide) rfl
         rw [Nat.mul_one, Nat.add_zero, List.getElem_map] at hcf
         have htk : Fx.take (j + 1) = Fx.take j ++ [Fx[j]] := List.take_succ_eq_append_getElem hjF
         have hi : (j : Int) < (NL : Int) := by omega
         obtain ⟨x, hx⟩ : ∃ x, x = Fx[j] := ⟨_, rfl⟩
         rw [← hx] at hcf htk
         obtain ⟨b, hb⟩ : ∃ b, b = decide (kv ∈ Fx.take j) := ⟨_, rfl⟩
         have hnx : decide (kv ∈ Fx.take (j + 1)) = (b || decide (x = kv)) := by
          rw [htk, hb, Bool.eq_iff_iff, decide_eq_true_iff, List.mem_append, List.mem_singleton, Bool.or_eq_true, decide_eq_true_iff, decide_eq_true_iff]
          exact ⟨fun q => q.imp id Eq.symm, fun q => q.imp id Eq.symm⟩
         rw [← hb]
         have Hnx := hid hnx; have Hbw := hid hbw
         clear hnx htk hb hrow hbw hbo hx
         cases b with
         | true =>
          go_wp2_with fail
          go_roundg (NL - (j + 1))
          case measure => omega
          case rel => exact ⟨j + 1, by omega, rfl, by go_num, by rw [Hnx.out]; simp, Hbw.out⟩
         | false =>
          by_cases hxk : x = kv
          ·
           have t9 : ((x : Int) == (kv : Int)) = true := by rw [beq_iff_eq]; omega
           have Hxk := hid hxk; clear hxk
           go_wp2_with fail
           go_roundg (NL - (j + 1))
           case measure => omega
           case rel => exact ⟨j + 1, by omega, rfl, by go_num, by rw [Hnx.out, decide_eq_true Hxk.out]; rfl, Hbw.out⟩
          ·
           have t9 : ((x : Int) == (kv : Int)) = false := by rw [beq_eq_false_iff_ne]; omega
           have Hxk := hid hxk; clear hxk
           go_wp2_with fail
           go_roundg (NL - (j + 1))
           case measure => omega
           case rel => exact ⟨j + 1, by omega, rfl, by go_num, by rw [Hnx.out, decide_eq_false Hxk.out]; rfl, Hbw.out⟩
        ·
         obtain rfl : j = NL := by omega
         have htk : Fx.take j = Fx := by rw [HNL.out]; exact List.take_length
         rw [htk, HBv.out]
         have Hbw := hid hbw; have Hbo := hid hbo
         clear hbw hbo htk hlt
         have hbe := (HW.out _ (HQ.out _ (Hb8.out.trans (Hbo.out.mono Hb8.out.size))).2.2)
         have HTl := hid (kX 8 wo hbe.2.2.2.2.2)
         have HBe := hid hbe.2.2.2.1
         clear hbe
         go_wp2_with fail
         refine HTl.out.mono ?_
         rintro e w20 ⟨rfl, hb20⟩
         have HBo := hid (HBe.out.trans (hb20.mono HBe.out.size))
         clear hb20
         go_upto_region 19 with fail
         go_quiet (fail)
         go_wp2_with fail
         go_ret
         exact ⟨rfl, below_drewN (HBo.out) _⟩
 ·
  have HB1 := hid (hb1.alloc hb1.size (.cells #[.int .i64 0, .slice none 0 0, .slice none 0 0] 27))
  clear hno hb1 HP
  obtain ⟨w2, hw2⟩ : ∃ w2, w2 = w1.alloc (.cells #[.int .i64 0, .slice none 0 0, .slice none 0 0] 27) := ⟨_, rfl⟩
  rw [← hw2] at HB1
  go_upto_region 2 with fail
  rw [← hw2]
  clear hw2
  go_wp2_with fail
  refine (HR.out _ HB1.out).mono ?_
  rintro e w3 ⟨rfl, hb3⟩
  have HB3 := hid (HB1.out.trans (hb3.mono HB1.out.size))
  clear hb3
  go_wp2_with fail
  refine (HR.out _ HB3.out).mono ?_
  rintro e w4 ⟨rfl, hb4⟩
  have HB4 := hid (HB3.out.trans (hb4.mono HB3.out.size))
  clear hb4
  go_wp2_with fail
  go_ret
  exact ⟨rfl, HB4.out⟩
