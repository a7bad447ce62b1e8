/- The walk of the law RangeOrders. (Printed by gen_rorders.py.) -/
import Derived.Test.YtpnchjbdjcihfaaGreatDoorROLast
namespace Go.Proofs.YtpnchjbdjcihfaaGreatDoor
open Go.RowKit
set_option linter.unusedVariables false

set_option maxRecDepth 100000 in
set_option maxHeartbeats 64000000 in
theorem rangeOrders_walk (a b c x y z : Int) (w : World) (hL : LaidR w) (hT : TypeLaid w) :
    Calls Tryz.prog 4 #[.agg #[.int .i64 a, .int .i64 b, .int .i64 c], .agg #[.int .i64 x, .int .i64 y, .int .i64 z]] w fun e w' => e = .returned (.bool true) ∧ Below w.heap.size w w' := by
  obtain ⟨n, hn⟩ : ∃ n, n = w.heap.size := ⟨_, rfl⟩
  obtain ⟨W, hW⟩ : ∃ W, W = ((w.alloc (.cells #[.int .i64 a, .int .i64 b, .int .i64 c] 35)).alloc (.cells #[.int .i64 x, .int .i64 y, .int .i64 z] 35)) := ⟨_, rfl⟩
  have hb : Below n w W := by rw [hW, hn]; exact ((Below.refl _ _).alloc (Nat.le_refl _) _).alloc (by simp) _
  have hvb : VB n a b c x y z W := by rw [hW, hn]; exact ⟨heap_up (heap_at rfl), heap_at (by simp)⟩
  have HLT := Lib.hid (show ∀ w', Below n w w' → LaidR w' ∧ TypeLaid w' from fun w' hw => ⟨hL.below (by rw [← hn]; exact hw), hT.below (by rw [← hn]; exact hw)⟩)
  have hdr : Below W.heap.size W W.drew := (Below.refl _ _).drew
  have hnW : n ≤ W.heap.size := by rw [hW, hn]; simp; omega
  have hbd := hb.trans (hdr.mono hnW)
  have HN0 := Lib.hid (ranged_any W.drew (HLT.out _ hbd).1 (HLT.out _ hbd).2)
  have Hbx := Lib.hid (hvb.below hdr); have HB := Lib.hid hbd; have HnW := Lib.hid hnW
  have KS := (hvb.below hdr).S
  have Hn := Lib.hid hn
  have hnle : n ≤ w.heap.size := by omega
  clear hb hvb hL hT hdr hbd hnW
  go_enter Tryz.func4, Tryz.ntmps4
  go_upto_region 1 with fail
  rw [← hW, ← hn]
  clear hW hn
  by_cases hv : VerOk a b c
  · have e1 := any_ver hv
    by_cases hw : VerOk x y z
    · have e2 := any_ver hw
      have Hv := Lib.hid hv; have Hw := Lib.hid hw; have E1 := Lib.hid e1; have E2 := Lib.hid e2
      clear hv hw e1 e2
      go_region_held3 (fun w' => w'.cell? ⟨n, 0, none⟩ = some (.int .i64 a) ∧ w'.cell? ⟨n, 1, none⟩ = some (.int .i64 b) ∧ w'.cell? ⟨n, 2, none⟩ = some (.int .i64 c) ∧ w'.cell? ⟨n + 1, 0, none⟩ = some (.int .i64 x) ∧ w'.cell? ⟨n + 1, 1, none⟩ = some (.int .i64 y) ∧ w'.cell? ⟨n + 1, 2, none⟩ = some (.int .i64 z)) (exact KS)
        (first
          | (go_at_call 7; (with_reducible refine (HN0.out).mono ?_); rintro e wr0 ⟨rfl, hb⟩; have Hbx := Lib.hid (Hbx.out.below hb); have HB := Lib.hid (HB.out.trans (hb.mono (Nat.le_trans hnle HB.out.size))); have KS := Hbx.out.S; have HN1 := Lib.hid (any_any wr0); clear hb HN0)
          | (go_at_call 12; (with_reducible refine (HN1.out).mono ?_); rintro e wr1 ⟨vA, rfl, hs, _, hb⟩; obtain ⟨lA, hlA⟩ : ∃ l, l = [((0 : Int), pastV)] := ⟨_, rfl⟩; rw [← hlA] at hs; have HlA := Lib.hid hlA; clear hlA; obtain ⟨aA, cA, rfl, _⟩ := hs.shape; have Hbx := Lib.hid (Hbx.out.below hb); have HB := Lib.hid (HB.out.trans (hb.mono (Nat.le_trans hnle HB.out.size))); have KS := Hbx.out.S; have HN2 := Lib.hid (anyHas _ lA a b c wr1 true HlA.out hs E1.out); clear hs hb HN1)
          | (go_at_call 14; (with_reducible refine (HN2.out).mono ?_); rintro e wr2 ⟨rfl, hb⟩; have Hbx := Lib.hid (Hbx.out.below hb); have HB := Lib.hid (HB.out.trans (hb.mono (Nat.le_trans hnle HB.out.size))); have KS := Hbx.out.S; have HN3 := Lib.hid (any_any wr2); clear hb HN2)
          | (go_at_call 12; (with_reducible refine (HN3.out).mono ?_); rintro e wr3 ⟨vA2, rfl, hs, _, hb⟩; obtain ⟨lA2, hlA2⟩ : ∃ l, l = [((0 : Int), pastV)] := ⟨_, rfl⟩; rw [← hlA2] at hs; have HlA2 := Lib.hid hlA2; clear hlA2; obtain ⟨aA2, cA2, rfl, _⟩ := hs.shape; have Hbx := Lib.hid (Hbx.out.below hb); have HB := Lib.hid (HB.out.trans (hb.mono (Nat.le_trans hnle HB.out.size))); have KS := Hbx.out.S; have HN4 := Lib.hid (anyHas _ lA2 x y z wr3 true HlA2.out hs E2.out); clear hs hb HN3)
          | (go_at_call 14; (with_reducible refine (HN4.out).mono ?_); rintro e wr4 ⟨rfl, hb⟩; have Hbx := Lib.hid (Hbx.out.below hb); have HB := Lib.hid (HB.out.trans (hb.mono (Nat.le_trans hnle HB.out.size))); have KS := Hbx.out.S; have HTx := Lib.hid (text_any a b c wr4 Hv.out (HLT.out _ HB.out).1); clear hb HN4))
      go_wp2_with fail
      refine HTx.out.mono ?_
      rintro e w5 ⟨rfl, hb5⟩
      obtain ⟨W5, hW5⟩ : ∃ W5, W5 = w5.alloc (.cells #[.string (wordB (verL a b c))] 9) := ⟨_, rfl⟩
      have hb5' : Below w5.heap.size w5 W5 := by rw [hW5]; exact (Below.refl _ _).alloc (Nat.le_refl _) _
      have ht5 : W5.heap[w5.heap.size]? = some (.cells #[.string (wordB (verL a b c))] 9 (0, 0)) := by rw [hW5]; exact heap_at rfl
      have hb55 := hb5.trans (hb5'.mono hb5.size)
      have HB := Lib.hid (HB.out.trans (hb55.mono (Nat.le_trans hnle HB.out.size)))
      have Hvb := Lib.hid (Hbx.out.below hb55)
      have Ht := Lib.hid ht5
      have HGet := Lib.hid (show ∀ (o : List UInt8) (k : Nat) (w' : World), (o, k) ∈ opsT → Below n w w' → w'.cell? ⟨w5.heap.size, 0, none⟩ = some (.string (wordB (verL a b c))) → Calls Tryz.prog 16 #[.string (wordB o), .pointer (some ⟨w5.heap.size, 0, none⟩)] w' (GetP k a b c w') from
        fun o k w' hm hw hc => get_any o k a b c _ w' hm Hv.out hc (HLT.out _ hw).1 (HLT.out _ hw).2)
      generalize hq5 : w5.heap.size = q5 at *
      generalize hsv : wordB (verL a b c) = sv at *
      have HG0 := HGet.out [60] 2 W5 (by decide) HB.out (cell_of_one Ht.out)
      unfold wordB at HG0
      have HG0 := Lib.hid HG0
      clear hb5 hb5' ht5 hb55 HTx KS hsv
      go_upto_region 4 with fail
      rw [hq5] at *
      rw [← hW5]
      clear hW5 hq5
      go_wp2_with fail
      refine HG0.out.mono ?_
      rintro e wg0 ⟨vL, lL, rfl, hs, hr, hlL, _, hb⟩
      obtain ⟨aL, cL, rfl, _⟩ := hs.shape
      have HsL := Lib.hid hs; have HrL := Lib.hid hr; have HB := Lib.hid (HB.out.trans (hb.mono (Nat.le_trans hnle HB.out.size))); have Hvb := Lib.hid (Hvb.out.below hb); have Ht := Lib.hid ((hb.block _ (lt_of_block Ht.out)).trans Ht.out)
      have hg := HGet.out [62, 61] 5 wg0 (by decide) HB.out (cell_of_one Ht.out)
      unfold wordB at hg
      have HG1 := Lib.hid hg
      clear hg hs hr hb HG0
      go_wp2_with fail
      refine HG1.out.mono ?_
      rintro e wg1 ⟨vF, lF, rfl, hs, hr, hlF, _, hb⟩
      obtain ⟨aF, cF, rfl, _⟩ := hs.shape
      have HsL := Lib.hid (HsL.out.below hb)
      have HsF := Lib.hid hs; have HrF := Lib.hid hr; have HB := Lib.hid (HB.out.trans (hb.mono (Nat.le_trans hnle HB.out.size))); have Hvb := Lib.hid (Hvb.out.below hb); have Ht := Lib.hid ((hb.block _ (lt_of_block Ht.out)).trans Ht.out)
      have hg := HGet.out [94] 6 wg1 (by decide) HB.out (cell_of_one Ht.out)
      unfold wordB at hg
      have HG2 := Lib.hid hg
      clear hg hs hr hb HG1
      go_wp2_with fail
      refine HG2.out.mono ?_
      rintro e wg2 ⟨vC, lC, rfl, hs, hr, hlC, _, hb⟩
      obtain ⟨aC, cC, rfl, _⟩ := hs.shape
      have HsL := Lib.hid (HsL.out.below hb)
      have HsF := Lib.hid (HsF.out.below hb)
      have HsC := Lib.hid hs; have HrC := Lib.hid hr; have HB := Lib.hid (HB.out.trans (hb.mono (Nat.le_trans hnle HB.out.size))); have Hvb := Lib.hid (Hvb.out.below hb); have Ht := Lib.hid ((hb.block _ (lt_of_block Ht.out)).trans Ht.out)
      have hg := HGet.out [126] 7 wg2 (by decide) HB.out (cell_of_one Ht.out)
      unfold wordB at hg
      have HG3 := Lib.hid hg
      clear hg hs hr hb HG2
      go_wp2_with fail
      refine HG3.out.mono ?_
      rintro e wg3 ⟨vT, lT, rfl, hs, hr, hlT, _, hb⟩
      obtain ⟨aT, cT, rfl, _⟩ := hs.shape
      have HsL := Lib.hid (HsL.out.below hb)
      have HsF := Lib.hid (HsF.out.below hb)
      have HsC := Lib.hid (HsC.out.below hb)
      have HsT := Lib.hid hs; have HrT := Lib.hid hr; have HB := Lib.hid (HB.out.trans (hb.mono (Nat.le_trans hnle HB.out.size))); have Hvb := Lib.hid (Hvb.out.below hb); have Ht := Lib.hid ((hb.block _ (lt_of_block Ht.out)).trans Ht.out)
      clear hs hr hb HG3
      obtain ⟨W6, hW6⟩ : ∃ W6, W6 = ((((wg3.alloc (.cells #[.slice aL lL.length cL] 24)).alloc (.cells #[.slice aF lF.length cF] 24)).alloc (.cells #[.slice aC lC.length cC] 24)).alloc (.cells #[.slice aT lT.length cT] 24)) := ⟨_, rfl⟩
      have hb6 : Below wg3.heap.size wg3 W6 := by rw [hW6]; exact ((((Below.refl _ _).alloc (Nat.le_refl _) _).alloc (by simp) _).alloc (by simp; omega) _).alloc (by simp; omega) _
      have k1 : W6.heap[wg3.heap.size]? = some (.cells #[.slice aL lL.length cL] 24 (0, 0)) := by rw [hW6]; exact heap_up (heap_up (heap_up (heap_at rfl)))
      have k2 : W6.heap[wg3.heap.size + 1]? = some (.cells #[.slice aF lF.length cF] 24 (0, 0)) := by rw [hW6]; exact heap_up (heap_up (heap_at (by simp)))
      have k3 : W6.heap[wg3.heap.size + 1 + 1]? = some (.cells #[.slice aC lC.length cC] 24 (0, 0)) := by rw [hW6]; exact heap_up (heap_at (by simp))
      have k4 : W6.heap[wg3.heap.size + 1 + 1 + 1]? = some (.cells #[.slice aT lT.length cT] 24 (0, 0)) := by rw [hW6]; exact heap_at (by simp)
      have hdr : Below W6.heap.size W6 W6.drew := (Below.refl _ _).drew
      have h66 := hb6.trans (hdr.mono hb6.size)
      have HB := Lib.hid (HB.out.trans (h66.mono (Nat.le_trans hnle HB.out.size)))
      have Hbx := Lib.hid ((OB.mk (Hvb.out.below hb6) ((hb6.block _ (lt_of_block Ht.out)).trans Ht.out) k1 k2 k3 k4).below hdr)
      have HsL := Lib.hid (HsL.out.below h66); have HsF := Lib.hid (HsF.out.below h66); have HsC := Lib.hid (HsC.out.below h66); have HsT := Lib.hid (HsT.out.below h66)
      have KS := Hbx.out.S
      clear hb6 k1 k2 k3 k4 hdr h66
      obtain ⟨C, hC⟩ : ∃ C, C = cmp3 x y z a b c := ⟨_, rfl⟩
      have HCmp := Lib.hid (show ∀ w' : World, Calls Tryz.prog 17 #[.agg #[.int .i64 x, .int .i64 y, .int .i64 z], .agg #[.int .i64 a, .int .i64 b, .int .i64 c]] w' fun e w'' => e = .returned (.int .i64 C) ∧ Below w'.heap.size w' w'' from fun w' => by rw [hC]; exact cmp_any x y z a b c w')
      have HC := Lib.hid hC
      clear hC
      go_upto_region 6 with fail
      rw [← hW6]
      clear hW6
      have HSO := Lib.hid (SO.mk Hbx.out HsL.out HsF.out HsC.out HsT.out hnle HB.out)
      have HRO := Lib.hid (RO.mk Hv.out Hw.out HC.out HrL.out HrF.out HrC.out HrT.out hlL hlF hlC hlT HGet.out)
      clear HCmp HC HrL HrF HrC HrT HGet
      refine Code.wp_mono (Q := fun e a' w' => e = .normal ∧ a'.tmps[4]? = some (.bool true) ∧ a'.defers = [] ∧ Below n w w') ?_ (wp_region_txt (ops := roOps) roL (by kernel_rfl) roL_ok (fun _ _ _ _ _ h => absurd h.1 (by simp)) HSO.out.S (ro_last HRO.out HSO.out ⟨rfl, rfl, rfl, rfl, rfl, rfl, rfl, rfl, rfl⟩ (fun a' w' h4 hd hb => ⟨rfl, h4, hd, hb⟩)))
      rintro e a' w' ⟨rfl, h4, hd, hb⟩
      go_wp2_with fail
      exact bodyPost_ret (v := .bool true) (by simp [results, Tryz.results4, go_sem, h4]) hd ⟨rfl, by rw [← Hn.out]; exact hb⟩
    · have e2 := any_not hw
      have Hv := Lib.hid hv; have E1 := Lib.hid e1; have E2 := Lib.hid e2
      clear hv hw e1 e2
      go_region_held3 (fun w' => w'.cell? ⟨n, 0, none⟩ = some (.int .i64 a) ∧ w'.cell? ⟨n, 1, none⟩ = some (.int .i64 b) ∧ w'.cell? ⟨n, 2, none⟩ = some (.int .i64 c) ∧ w'.cell? ⟨n + 1, 0, none⟩ = some (.int .i64 x) ∧ w'.cell? ⟨n + 1, 1, none⟩ = some (.int .i64 y) ∧ w'.cell? ⟨n + 1, 2, none⟩ = some (.int .i64 z)) (exact KS)
        (first
          | (go_at_call 7; (with_reducible refine (HN0.out).mono ?_); rintro e wr0 ⟨rfl, hb⟩; have Hbx := Lib.hid (Hbx.out.below hb); have HB := Lib.hid (HB.out.trans (hb.mono (Nat.le_trans hnle HB.out.size))); have KS := Hbx.out.S; have HN1 := Lib.hid (any_any wr0); clear hb HN0)
          | (go_at_call 12; (with_reducible refine (HN1.out).mono ?_); rintro e wr1 ⟨vA, rfl, hs, _, hb⟩; obtain ⟨lA, hlA⟩ : ∃ l, l = [((0 : Int), pastV)] := ⟨_, rfl⟩; rw [← hlA] at hs; have HlA := Lib.hid hlA; clear hlA; obtain ⟨aA, cA, rfl, _⟩ := hs.shape; have Hbx := Lib.hid (Hbx.out.below hb); have HB := Lib.hid (HB.out.trans (hb.mono (Nat.le_trans hnle HB.out.size))); have KS := Hbx.out.S; have HN2 := Lib.hid (anyHas _ lA a b c wr1 true HlA.out hs E1.out); clear hs hb HN1)
          | (go_at_call 14; (with_reducible refine (HN2.out).mono ?_); rintro e wr2 ⟨rfl, hb⟩; have Hbx := Lib.hid (Hbx.out.below hb); have HB := Lib.hid (HB.out.trans (hb.mono (Nat.le_trans hnle HB.out.size))); have KS := Hbx.out.S; have HN3 := Lib.hid (any_any wr2); clear hb HN2)
          | (go_at_call 12; (with_reducible refine (HN3.out).mono ?_); rintro e wr3 ⟨vA2, rfl, hs, _, hb⟩; obtain ⟨lA2, hlA2⟩ : ∃ l, l = [((0 : Int), pastV)] := ⟨_, rfl⟩; rw [← hlA2] at hs; have HlA2 := Lib.hid hlA2; clear hlA2; obtain ⟨aA2, cA2, rfl, _⟩ := hs.shape; have Hbx := Lib.hid (Hbx.out.below hb); have HB := Lib.hid (HB.out.trans (hb.mono (Nat.le_trans hnle HB.out.size))); have KS := Hbx.out.S; have HN4 := Lib.hid (anyHas _ lA2 x y z wr3 false HlA2.out hs E2.out); clear hs hb HN3)
          | (go_at_call 14; (with_reducible refine (HN4.out).mono ?_); rintro e wr4 ⟨rfl, hb⟩; have Hbx := Lib.hid (Hbx.out.below hb); have HB := Lib.hid (HB.out.trans (hb.mono (Nat.le_trans hnle HB.out.size))); have KS := Hbx.out.S; have HR9 := Lib.hid (ranged_any wr4 (HLT.out _ HB.out).1 (HLT.out _ HB.out).2); clear hb HN4))
      go_wp2_with fail
      refine HR9.out.mono ?_
      rintro e w9 ⟨rfl, hb9⟩
      have HB9 := Lib.hid (HB.out.trans (hb9.mono (Nat.le_trans hnle HB.out.size)))
      clear hb9 HR9
      go_wp2_with fail
      go_ret
      rw [← Hn.out]
      exact ⟨rfl, HB9.out⟩
  · have e1 := any_not hv
    have E1 := Lib.hid e1
    clear hv e1
    refine wp_region_held_drew (S := fun w' => w'.cell? ⟨n, 0, none⟩ = some (.int .i64 a) ∧ w'.cell? ⟨n, 1, none⟩ = some (.int .i64 b) ∧ w'.cell? ⟨n, 2, none⟩ = some (.int .i64 c) ∧ w'.cell? ⟨n + 1, 0, none⟩ = some (.int .i64 x) ∧ w'.cell? ⟨n + 1, 1, none⟩ = some (.int .i64 y) ∧ w'.cell? ⟨n + 1, 2, none⟩ = some (.int .i64 z)) (by kernel_rfl) KS (fun KS => ?_)
    refine wpAnyH_ready (rs := [0]) (by kernel_rfl) (by simp) ?_
    refine AllReadyH.cons rfl (fun K hK => ?_) AllReadyH.nil
    go_simp
    refine HN0.out.mono ?_
    rintro e wr0 ⟨rfl, hb⟩
    have Hbx := Lib.hid (Hbx.out.below hb); have HB := Lib.hid (HB.out.trans (hb.mono (Nat.le_trans hnle HB.out.size)))
    have HN1 := Lib.hid (any_any wr0)
    clear hb HN0
    refine hK.out _ _ Hbx.out.S (fun KS => ?_)
    clear hK K
    try simp only [Act.put, List.getElem_toArray, List.getElem_cons_zero, List.getElem_cons_succ, List.setIfInBounds_toArray, List.set_cons_zero, List.set_cons_succ]
    refine wpAnyH_take (i := 1) (v := .bool false) rfl (by kernel_rfl) (by kernel_rfl) (by kernel_rfl) (fun _ _ _ h => h) (Or.inl ⟨by rfl, fun w9 KS => by go_simp⟩) KS ?_
    try simp only [Act.put, List.getElem_toArray, List.getElem_cons_zero, List.getElem_cons_succ, List.setIfInBounds_toArray, List.set_cons_zero, List.set_cons_succ]
    refine wpAnyH_take (i := 2) (v := .bool false) rfl (by kernel_rfl) (by kernel_rfl) (by kernel_rfl) (fun _ _ _ h => h) (Or.inl ⟨by rfl, fun w9 KS => by go_simp⟩) KS ?_
    try simp only [Act.put, List.getElem_toArray, List.getElem_cons_zero, List.getElem_cons_succ, List.setIfInBounds_toArray, List.set_cons_zero, List.set_cons_succ]
    refine wpAnyH_take (i := 4) (v := .agg #[.int .i64 a, .int .i64 b, .int .i64 c]) rfl (by kernel_rfl) (by kernel_rfl) (by kernel_rfl) (fun _ _ _ h => h) (Or.inl ⟨by rfl, fun w9 KS => by go_simp⟩) KS ?_
    try simp only [Act.put, List.getElem_toArray, List.getElem_cons_zero, List.getElem_cons_succ, List.setIfInBounds_toArray, List.set_cons_zero, List.set_cons_succ]
    refine wpAnyH_ready (rs := [3]) (by kernel_rfl) (by simp) ?_
    refine AllReadyH.cons rfl (fun K hK => ?_) AllReadyH.nil
    go_simp
    refine HN1.out.mono ?_
    rintro e wr3 ⟨vA, rfl, hs, _, hb⟩
    have Hbx := Lib.hid (Hbx.out.below hb); have HB := Lib.hid (HB.out.trans (hb.mono (Nat.le_trans hnle HB.out.size)))
    have HN2 := Lib.hid (anyHas _ _ a b c wr3 false rfl hs E1.out)
    clear hs hb HN1
    refine hK.out _ _ Hbx.out.S (fun KS => ?_)
    clear hK K
    try simp only [Act.put, List.getElem_toArray, List.getElem_cons_zero, List.getElem_cons_succ, List.setIfInBounds_toArray, List.set_cons_zero, List.set_cons_succ]
    refine wpAnyH_ready (rs := [5]) (by kernel_rfl) (by simp) ?_
    refine AllReadyH.cons rfl (fun K hK => ?_) AllReadyH.nil
    go_simp
    refine HN2.out.mono ?_
    rintro e wr5 ⟨rfl, hb⟩
    have Hbx := Lib.hid (Hbx.out.below hb); have HB := Lib.hid (HB.out.trans (hb.mono (Nat.le_trans hnle HB.out.size)))
    have HR9 := Lib.hid (ranged_any wr5 (HLT.out _ HB.out).1 (HLT.out _ HB.out).2)
    clear hb HN2
    refine hK.out _ _ Hbx.out.S (fun KS => ?_)
    clear hK K
    try simp only [Act.put, List.getElem_toArray, List.getElem_cons_zero, List.getElem_cons_succ, List.setIfInBounds_toArray, List.set_cons_zero, List.set_cons_succ]
    refine wpAnyH_take (i := 6) (v := .bool true) rfl (by kernel_rfl) (by kernel_rfl) (by kernel_rfl) (fun _ _ _ h => h) (Or.inl ⟨by rfl, fun w9 KS => by go_simp⟩) KS ?_
    try simp only [Act.put, List.getElem_toArray, List.getElem_cons_zero, List.getElem_cons_succ, List.setIfInBounds_toArray, List.set_cons_zero, List.set_cons_succ]
    refine wpAnyH_take (i := 7) (v := .bool true) rfl (by kernel_rfl) (by kernel_rfl) (by kernel_rfl) (fun _ _ _ h => h) (Or.inl ⟨by rfl, fun w9 KS => by go_simp⟩) KS ?_
    try simp only [Act.put, List.getElem_toArray, List.getElem_cons_zero, List.getElem_cons_succ, List.setIfInBounds_toArray, List.set_cons_zero, List.set_cons_succ]
    refine wpAnyH_take (i := 8) (v := .bool true) rfl (by kernel_rfl) (by kernel_rfl) (by kernel_rfl) (fun _ _ _ h => h) (Or.inl ⟨by rfl, fun w9 KS => by go_simp⟩) KS ?_
    try simp only [Act.put, List.getElem_toArray, List.getElem_cons_zero, List.getElem_cons_succ, List.setIfInBounds_toArray, List.set_cons_zero, List.set_cons_succ]
    refine wpAnyH_take (i := 9) (v := undef) rfl (by kernel_rfl) (by kernel_rfl) (by kernel_rfl) (fun _ _ _ h => h) (Or.inr ⟨by rfl, rfl⟩) KS ?_
    try simp only [Act.put, List.getElem_toArray, List.getElem_cons_zero, List.getElem_cons_succ, List.setIfInBounds_toArray, List.set_cons_zero, List.set_cons_succ]
    refine wpAnyH_take (i := 10) (v := undef) rfl (by kernel_rfl) (by kernel_rfl) (by kernel_rfl) (fun _ _ _ h => h) (Or.inr ⟨by rfl, rfl⟩) KS ?_
    try simp only [Act.put, List.getElem_toArray, List.getElem_cons_zero, List.getElem_cons_succ, List.setIfInBounds_toArray, List.set_cons_zero, List.set_cons_succ]
    refine wpAnyH_take (i := 11) (v := undef) rfl (by kernel_rfl) (by kernel_rfl) (by kernel_rfl) (fun _ _ _ h => h) (Or.inr ⟨by rfl, rfl⟩) KS ?_
    try simp only [Act.put, List.getElem_toArray, List.getElem_cons_zero, List.getElem_cons_succ, List.setIfInBounds_toArray, List.set_cons_zero, List.set_cons_succ]
    refine wpAnyH_take (i := 12) (v := undef) rfl (by kernel_rfl) (by kernel_rfl) (by kernel_rfl) (fun _ _ _ h => h) (Or.inr ⟨by rfl, rfl⟩) KS ?_
    try simp only [Act.put, List.getElem_toArray, List.getElem_cons_zero, List.getElem_cons_succ, List.setIfInBounds_toArray, List.set_cons_zero, List.set_cons_succ]
    refine wpAnyH_take (i := 13) (v := .bool true) rfl (by kernel_rfl) (by kernel_rfl) (by kernel_rfl) (fun _ _ _ h => h) (Or.inl ⟨by rfl, fun w9 KS => by go_simp⟩) KS ?_
    try simp only [Act.put, List.getElem_toArray, List.getElem_cons_zero, List.getElem_cons_succ, List.setIfInBounds_toArray, List.set_cons_zero, List.set_cons_succ]
    refine wpAnyH_done (by kernel_rfl) ?_ _
    go_wp2_with fail
    refine HR9.out.mono ?_
    rintro e w9 ⟨rfl, hb9⟩
    have HB9 := Lib.hid (HB.out.trans (hb9.mono (Nat.le_trans hnle HB.out.size)))
    clear hb9 HR9
    go_wp2_with fail
    go_ret
    rw [← Hn.out]
    exact ⟨rfl, HB9.out⟩
end Go.Proofs.YtpnchjbdjcihfaaGreatDoor
