/- Contract: reason.Core. (Printed by gen_core.py.) -/
import Derived.Test.YtheemhelioendaaGreatDoorCoreB
import Derived.Deep.CutRange
namespace Go.Proofs.YtheemhelioendaaGreatDoor
open Go.RowKit
set_option linter.unusedVariables false

/-- What Core says. -/
def CoreP (ls : List LineM) (items : List ItemM) (w : World) (e : Ending) (w' : World) : Prop :=
  ((∃ a c out, e = .returned (.tuple #[.slice a out.length c, .nilIface]) ∧ OutI w' w.heap.size (.slice a out.length c) (out.map fun k : Nat => (k : Int)) ∧ CoreOk (rulesC ls items) out) ∨
   (e = .returned (.tuple #[.slice none 0 0, .iface 43 (.int .i64 8)]) ∧ SatL (clsOf (rulesC ls items))) ∨
   (e = .returned (.tuple #[.slice none 0 0, .iface 43 (.int .i64 4)]) ∧ 200 < (rulesC ls items).length)) ∧ Below w.heap.size w w'
theorem rules_solv {ls : List LineM} {items : List ItemM} (ho : CatOk ls items) (hr : (rulesC ls items).length ≤ 200) (h12 : items.length ≤ 12) : Solv items.length (rulesC ls items) :=
  ⟨fun S => good_rules ho hr _, fun S => fewC_rules ho h12 _, fun p hp => by have := rulesC_from hp; have := ho.few; omega, hr⟩
theorem filter_takeS {S : Nat → Bool} (l : List Nat) {j : Nat} (h : j < l.length) : (l.take (j + 1)).filter S = (l.take j).filter S ++ if S l[j] = true then [l[j]] else [] := by
  rw [List.take_succ_eq_append_getElem h, List.filter_append]
  congr 1
  by_cases e : S l[j] = true <;> simp [e]
set_option maxRecDepth 100000 in
set_option maxHeartbeats 64000000 in
theorem core_any (p : Nat) (vl vi : Value) (ls : List LineM) (items : List ItemM) (w : World) (h : CatAt w p vl vi ls items) (ho : CatOk ls items) (h12 : items.length ≤ 12) : Calls Tryz.prog 28 #[.pointer (some ⟨p, 0, none⟩)] w (CoreP ls items w) := by
  have hl100 := ho.few
  have HO1 := Lib.hid (of_any p vl vi ls items w h ho)
  have HSv := Lib.hid (fun hr => rules_solv ho hr h12)
  have Hat := Lib.hid h
  have Hfr := Lib.hid (show ∀ p ∈ rulesC ls items, -1 ≤ p.1 ∧ p.1 < 100 from fun p hp => by have := rulesC_from hp; omega)
  have Hall := Lib.hid (says_all (items := items) hl100)
  clear h ho h12
  go_enter Tryz.func28, Tryz.ntmps28
  go_wp2_with fail
  refine HO1.out.mono ?_
  rintro e w1 ⟨⟨a1, c1, a2, c2, rfl, hr, hin⟩ | ⟨rfl, hr⟩, hb1⟩
  · obtain ⟨rc, hrc⟩ : ∃ rc, rc = rulesC ls items := ⟨_, rfl⟩
    have Hs := Lib.hid (HSv.out hr)
    rw [← hrc] at hin hr Hs Hfr Hall ⊢
    obtain ⟨L, hL⟩ : ∃ L, L = rc.length := ⟨_, rfl⟩
    rw [← hL] at hin ⊢
    obtain ⟨m, hm⟩ : ∃ m, m = items.length := ⟨_, rfl⟩
    rw [← hm] at Hs ⊢
    have Hrc := Lib.hid hrc
    obtain ⟨w2, hw2⟩ : ∃ w2, w2 = w1.alloc (.cells #[.int .i64 m, .slice a1 L c1, .slice a2 L c2] 28) := ⟨_, rfl⟩
    have hb2 : Below w1.heap.size w1 w2 := by rw [hw2]; exact (Below.refl _ _).alloc (Nat.le_refl _) _
    have hk2 : w2.heap[w1.heap.size]? = some (.cells #[.int .i64 m, .slice a1 L c1, .slice a2 L c2] 28 (0, 0)) := by rw [hw2]; exact heap_at rfl
    have HL2 := Lib.hid (says_any p vl vi ls items w2 (Hat.out.below (hb1.trans (hb2.mono hb1.size))) hl100)
    have HB2 := Lib.hid (hb1.trans (hb2.mono hb1.size)); have Hk2 := Lib.hid hk2; have Hin2 := Lib.hid (hin.below hb2)
    clear hrc hL hm hb1 hb2 hk2 hin HO1 HSv hr Hat
    go_upto_region 2 with fail
    rw [← hw2]
    clear hw2
    go_wp2_with fail
    refine HL2.out.mono ?_
    rintro e w3 ⟨⟨v3, rfl, hs3⟩, hb3⟩
    obtain ⟨az, cs, rfl, hsl1, hsl2⟩ := RowG.shape hs3
    rw [List.length_map] at hs3 hsl1 ⊢
    obtain ⟨says, hsays⟩ : ∃ says, says = saysN ls ls.length := ⟨_, rfl⟩
    have hsn : says.length ≤ 100 := by rw [hsays]; have := says_len ls ls.length; omega
    have hslt : ∀ i ∈ says, i < 100 := fun i hi => by rw [hsays] at hi; have := says_lt hi; omega
    rw [← hsays] at hs3 hsl1 Hall ⊢
    obtain ⟨NL, hNL⟩ : ∃ NL, NL = says.length := ⟨_, rfl⟩
    rw [← hNL] at hs3 hsl1 hsn ⊢
    have HNL := Lib.hid hNL; have Hsays := Lib.hid hsays; have Hslt := Lib.hid hslt
    obtain ⟨w4, hw4⟩ : ∃ w4, w4 = w3.alloc (.cells (madeCells #[.bool false] 100) 4) := ⟨_, rfl⟩
    have hb4 : Below w3.heap.size w3 w4 := by rw [hw4]; exact (Below.refl _ _).alloc (Nat.le_refl _) _
    have hr4 : BoolRow w4 w3.heap.size 100 (fun _ => false) := .made (by rw [hw4]; exact heap_at rfl)
    have HX := Lib.hid (show ∀ w', Below w3.heap.size w3 w' → w'.heap[w1.heap.size]? = some (.cells #[.int .i64 m, .slice a1 L c1, .slice a2 L c2] 28 (0, 0)) ∧ RulesIn w' w.heap.size (.slice a1 L c1) (.slice a2 L c2) rc ∧ OutI w' w2.heap.size (.slice az NL cs) (says.map fun k : Nat => (k : Int)) ∧ Below w.heap.size w w' from fun w' hw => by
      have hb := hb3.trans (hw.mono hb3.size)
      exact ⟨(hb.block _ (lt_of_block Hk2.out)).trans Hk2.out, Hin2.out.below hb, RowG.below hs3 hw, HB2.out.trans (hb.mono HB2.out.size)⟩)
    have Hb4 := Lib.hid hb4; have Hr4 := Lib.hid hr4
    have Hl13 := Lib.hid (Nat.lt_of_lt_of_le (lt_of_block Hk2.out) hb3.size)
    have Hws := Lib.hid (HX.out w3 (Below.refl _ _)).2.2.2.size
    have hm2 := make100
    clear hs3 hb3 hNL hsays hslt hb4 hr4 HL2 Hk2 Hin2
    go_upto_region 6 with fail
    rw [← hw4]
    clear hw4 hm2
    go_wp2_with fail
    go_loopg [30] NL (fun gk i wr => ∃ k : Nat, k ≤ NL ∧ gk = NL - k ∧ i = .int .i64 k ∧ BoolRow wr w3.heap.size 100 (fun j => decide (j ∈ says.take k)) ∧ Below w3.heap.size w3 wr)
    case atStart => exact ⟨0, Nat.zero_le _, rfl, rfl, Hr4.out.congr (fun i _ => by simp), Hb4.out⟩
    case round =>
      obtain ⟨k, hk, rfl, rfl, hr, hbw⟩ := hrel
      obtain ⟨wo, rfl⟩ : ∃ y, y = wr := ⟨_, rfl⟩
      obtain ⟨hbx, hrul, hrow, hbe⟩ := HX.out wo hbw
      by_cases hlt : k < NL
      · have hi : (k : Int) < (NL : Int) := by omega
        have hks : k < says.length := by rw [← HNL.out]; exact hlt
        obtain ⟨g, rfl, hg, _⟩ := RowG.at hrow (by rw [List.length_map]; omega)
        have hc := RowG.cell (enc := encInt) (z := 1) (fun _ => rfl) hrow (k := k) (by rw [List.length_map]; exact hks) (j := 0) (by decide) rfl
        rw [Nat.mul_one, Nat.add_zero, List.getElem_map] at hc
        have hq := Hslt.out says[k] (List.getElem_mem hks)
        have hts : says.take (k + 1) = says.take k ++ [says[k]] := List.take_succ_eq_append_getElem hks
        obtain ⟨q, hqe⟩ : ∃ q, q = says[k] := ⟨_, rfl⟩
        rw [← hqe] at hc hq hts
        obtain ⟨d1, d2, d3⟩ := hr.cell hq
        have hqi : (q : Int) < 100 := by omega
        have Hr := Lib.hid hr; have Hts := Lib.hid hts; have Hbw := Lib.hid hbw
        clear hr hts hbw hbx hrul hrow hbe hqe
        go_wp2_with fail
        go_roundg (NL - (k + 1))
        case measure => omega
        case rel => exact ⟨k + 1, by omega, rfl, by go_num, (Hr.out.set hq true).congr (fun i _ => by rw [Hts.out]; by_cases e : i = q <;> simp [e]), Hbw.out.setCell (p := ⟨w3.heap.size, q, none⟩) (Nat.le_refl _) _⟩
      · obtain rfl : NL = k := by omega
        rw [HNL.out, List.take_length] at hr
        have Hr := Lib.hid hr; have Hbw := Lib.hid hbw
        clear hr hbw hbx hrul hrow hbe hlt
        go_upto_region 11 with fail
        go_cut [5, 10] from 38 to 46 (fun ev pv wz => ∃ (blk : Nat) (holds : Bool) (vals : Nat) (a8 : Option Addr) (n8 c8 : Nat), ev = .nilIface ∧ pv = .pointer (some ⟨blk, 0, none⟩) ∧ wz.heap[blk]? = some (.cells #[.bool holds, .int .u64 vals, .slice a8 n8 c8] 72 (0, 0)) ∧ Below wo.heap.size wo wz ∧ (holds = true ↔ SatS rc (fun j => decide (j ∈ says))))
        case first =>
          obtain ⟨hbx, hrul, _, _⟩ := HX.out wo Hbw.out
          have HO := Lib.hid (show ∀ w', Below wo.heap.size wo w' → Calls Tryz.prog 12 #[.agg #[.int .i64 m, .slice a1 L c1, .slice a2 L c2], .slice (some ⟨w3.heap.size, 0, none⟩) 100 100] w' fun e w'' => (∃ vo, e = .returned vo ∧ ClsIn w'' w'.heap.size vo (onlyC rc (boolsL 100 (fun j => decide (j ∈ says))))) ∧ Below w'.heap.size w' w'' from fun w' hw => only_any w.heap.size (m : Nat) _ _ _ rc _ w' (hrul.below hw) ((Hr.out.below hw).bools (by omega)) (by have := Hs.out.len; omega) Hs.out.frm)
          have HK := Lib.hid (show ∀ w', Below wo.heap.size wo w' → w'.cell? ⟨w1.heap.size, 0, none⟩ = some (.int .i64 m) ∧ w'.cell? ⟨w1.heap.size, 1, none⟩ = some (.slice a1 L c1) ∧ w'.cell? ⟨w1.heap.size, 2, none⟩ = some (.slice a2 L c2) from fun w' hw => cellsR ((hw.block _ (lt_of_block hbx)).trans hbx))
          have HB := Lib.hid ((Below.refl wo.heap.size wo).drew)
          have HBd := Lib.hid (fun o => ((Below.refl wo.heap.size wo).alloc (Nat.le_refl _) o).drew)
          have KS := HK.out _ HB.out
          have hlx := lt_of_block hbx
          clear hbx hrul
          go_region_held3 (fun w' => w'.cell? ⟨w1.heap.size, 0, none⟩ = some (.int .i64 m) ∧ w'.cell? ⟨w1.heap.size, 1, none⟩ = some (.slice a1 L c1) ∧ w'.cell? ⟨w1.heap.size, 2, none⟩ = some (.slice a2 L c2)) (first | (with_reducible exact KS) | (with_reducible refine kS3 ?_ KS; omega) | (with_reducible refine kS3 ?_ KS; have := HB.out.size; omega) | (with_reducible refine kSAd ?_ KS; omega) | (with_reducible refine kSA ?_ KS; have := HB.out.size; omega) | go_keep)
            (first
              | (go_at_call 12; (refine (HO.out _ (by first | (with_reducible exact HB.out) | (with_reducible exact HBd.out _))).mono ?_); rintro e w7 ⟨⟨v7, rfl, h7⟩, hb7⟩; obtain ⟨x7, y7, rfl, _, _⟩ := h7.shape; have HSo := Lib.hid (show ∀ w', Below w7.heap.size w7 w' → _ from fun w' hw => solveS_any Hs.out (h7.below hw)); have hB7 : Below wo.heap.size wo w7 := (by first | (with_reducible exact HB.out.trans (hb7.mono HB.out.size)) | (with_reducible exact (HBd.out _).trans (hb7.mono (HBd.out _).size))); have hs7 := hB7.size; (try (have hx7 : w7.heap[wo.heap.size]? = some (.cells #[.bool false, .int .u64 0, .slice none 0 0] 72 (0, 0)) := (hb7.block _ (by simp)).trans (heap_at (by simp)); have HX7 := Lib.hid hx7; clear hx7)); clear h7 hb7 KS HB; have HB := Lib.hid hB7; clear hB7; have KS := HK.out _ HB.out)
              | (go_at_call 29; (refine (HSo.out _ (by first | (with_reducible exact Below.refl _ _) | (with_reducible exact (Below.refl _ _).alloc (Nat.le_refl _) _))).mono ?_); rintro e w8 ⟨⟨holds, vals, a8, n8, c8, rfl, h8⟩, hb8⟩; have H8 := Lib.hid h8; have hB8 : Below wo.heap.size wo w8 := (by first | (with_reducible exact HB.out.trans (hb8.mono HB.out.size)) | (with_reducible exact (HB.out.alloc HB.out.size _).trans (hb8.mono (HB.out.alloc HB.out.size _).size))); (first | (have hx8 := (hb8.block _ (lt_of_block HX7.out)).trans HX7.out) | (have hx8 : w8.heap[w7.heap.size]? = some (.cells #[.bool false, .int .u64 0, .slice none 0 0] 72 (0, 0)) := (hb8.block _ (by simp)).trans (heap_at rfl)) | skip); (try (obtain ⟨g0, g1, g2⟩ := freeR hx8; obtain ⟨z0, z1, z2⟩ := cellsR hx8; have l8 := lt_of_block hx8; have HX8 := Lib.hid hx8; clear hx8)); clear h8 hb8 KS HB; have HB := Lib.hid hB8; clear hB8; have KS := HK.out _ HB.out))
          · go_wp2_with fail; go_meet
            case rel => exact ⟨w8.heap.size, holds, vals, a8, n8, c8, rfl, rfl, heap_at rfl, HB.out.alloc HB.out.size _, H8.out⟩
          · go_wp2_with fail; go_meet
            case rel => exact ⟨w7.heap.size, holds, vals, a8, n8, c8, rfl, rfl, setR3 HX8.out _ _ _, HB.out.trans (setR3_below (w := w8) (show wo.heap.size ≤ w7.heap.size by omega) _ _ _), H8.out⟩
          · go_wp2_with fail; go_meet
            case rel => exact ⟨wo.heap.size, holds, vals, a8, n8, c8, rfl, rfl, setR3 HX8.out _ _ _, HB.out.trans (setR3_below (w := w8) (Nat.le_refl wo.heap.size) _ _ _), H8.out⟩
        case rest =>
          obtain ⟨blk, holds, vals, a8, n8, c8, rfl, rfl, hkz, hbz, hsat⟩ := hcut
          obtain ⟨wz, rfl⟩ : ∃ y, y = wc := ⟨_, rfl⟩
          obtain ⟨q0, _, _⟩ := cellsR hkz
          have Hbz := Lib.hid (Hbw.out.trans (hbz.mono Hbw.out.size)); have Hrz := Lib.hid (Hr.out.below hbz); have Hsat := Lib.hid hsat
          clear hkz hbz hsat Hr Hbw
          cases holds with
          | true =>
            have h9 := Hsat.out.1 rfl
            have H9 := Lib.hid h9; clear h9
            go_wp2_with fail
            go_ret2
            refine ⟨.inr (.inl ⟨rfl, ?_⟩), (HX.out _ Hbz.out).2.2.2⟩
            have h9 := H9.out
            unfold SatS at h9
            rw [Hsays.out] at h9
            rw [Hsays.out] at Hall
            rw [Hall.out] at h9
            rw [← Hrc.out]
            exact h9
          | false =>
            have hI0 : CoreI rc says (fun j => decide (j ∈ says)) NL := ⟨fun i hi => by simpa using hi, fun q => (Bool.false_ne_true (Hsat.out.2 q)), fun t ht _ => by simp, fun t ht h => by have := HNL.out; omega⟩
            have HI0 := Lib.hid hI0; clear hI0
            go_wp2_with fail
            go_loopg [11] NL (fun gk i wr => ∃ (j : Nat) (S : Nat → Bool), j ≤ NL ∧ gk = j ∧ i = .int .i64 ((j : Int) - 1) ∧ BoolRow wr w3.heap.size 100 S ∧ CoreI rc says S j ∧ Below w3.heap.size w3 wr)
            case atStart => exact ⟨NL, _, Nat.le_refl _, rfl, by go_num, Hrz.out, HI0.out, Hbz.out⟩
            case round =>
              obtain ⟨j, S, hj, hgk, rfl, hr, hI, hbw⟩ := hrel
              obtain rfl := hgk.symm
              obtain ⟨wo, rfl⟩ : ∃ y, y = wr := ⟨_, rfl⟩
              cases j with
              | zero =>
                rw [show (((0 : Nat) : Int) - 1) = -1 from rfl]
                have Hr := Lib.hid hr; have HI := Lib.hid hI; have Hbw := Lib.hid hbw
                clear hr hI hbw
                go_wp2_with fail
                go_loopg [14, 88] NL (fun gk vo i wr => ∃ k : Nat, k ≤ NL ∧ gk = NL - k ∧ i = .int .i64 k ∧ OutI wr wo.heap.size vo (((says.take k).filter S).map fun k : Nat => (k : Int)) ∧ Below wo.heap.size wo wr)
                case atStart => exact ⟨0, Nat.zero_le _, rfl, rfl, RowG.nil _ _ _ _ _, Below.refl _ _⟩
                case round =>
                  obtain ⟨k, hk, rfl, rfl, hout, hbi⟩ := hrel
                  obtain ⟨wi, rfl⟩ : ∃ y, y = wr := ⟨_, rfl⟩
                  obtain ⟨ss, hss⟩ : ∃ ss, ss = ((says.take k).filter S).map (fun k : Nat => (k : Int)) := ⟨_, rfl⟩
                  rw [← hss] at hout
                  have hsl : ss.length ≤ 100 := by
                    rw [hss, List.length_map]
                    have h1 := List.length_filter_le S (says.take k)
                    rw [List.length_take] at h1
                    omega
                  obtain ⟨ao, co, rfl, _, _⟩ := RowG.shape hout
                  have hbw3 := Hbw.out.trans (hbi.mono Hbw.out.size)
                  obtain ⟨_, _, hrow, hbe⟩ := HX.out wi hbw3
                  by_cases hlt : k < NL
                  · have hi : (k : Int) < (NL : Int) := by omega
                    have hks : k < says.length := by rw [← HNL.out]; exact hlt
                    obtain ⟨g, rfl, hg, _⟩ := RowG.at hrow (by rw [List.length_map]; omega)
                    have hc := RowG.cell (enc := encInt) (z := 1) (fun _ => rfl) hrow (k := k) (by rw [List.length_map]; exact hks) (j := 0) (by decide) rfl
                    rw [Nat.mul_one, Nat.add_zero, List.getElem_map] at hc
                    have hq := Hslt.out says[k] (List.getElem_mem hks)
                    have hsu := filter_takeS (S := S) says hks
                    obtain ⟨q, hqe⟩ : ∃ q, q = says[k] := ⟨_, rfl⟩
                    rw [← hqe] at hc hq hsu
                    obtain ⟨d1, _, _⟩ := (Hr.out.below hbi).cell hq
                    have hqi : (q : Int) < 100 := by omega
                    obtain ⟨B, hB⟩ : ∃ B, B = S q := ⟨_, rfl⟩
                    rw [← hB] at d1 hsu
                    have Hout := Lib.hid hout; have Hbi := Lib.hid hbi; have Hsu := Lib.hid hsu; have Hss := Lib.hid hss
                    clear hout hbi hsu hss hrow hbe hqe hB hbw3
                    cases B with
                    | true =>
                      go_wp2_with (at_builtin; refine wpList_append_L rfl (.tmp 96) (.tmp 98) rfl wo.heap.size (.slice ao ss.length co) ss rfl Hout.out q _ rfl rfl (by omega) Hbi.out.size ?_; intro g9 c9 w9 ho9 hb9 hk9 hg9; have Ho9 := Lib.hid ho9; have Hb9 := Lib.hid hb9; clear ho9 hb9 hk9 hg9)
                      go_roundg (NL - (k + 1))
                      case measure => omega
                      case rel => exact ⟨k + 1, by omega, rfl, by go_num, by rw [Hsu.out, if_pos trivial, List.map_append, ← Hss.out]; exact Ho9.out, Hbi.out.trans Hb9.out⟩
                    | false =>
                      go_wp2_with fail
                      go_roundg (NL - (k + 1))
                      case measure => omega
                      case rel => exact ⟨k + 1, by omega, rfl, by go_num, by rw [Hsu.out, if_neg (by decide), List.append_nil, ← Hss.out]; exact Hout.out, Hbi.out⟩
                  · obtain rfl : NL = k := by omega
                    have hfin : ((says.take NL).filter S) = says.filter S := by rw [HNL.out, List.take_length]
                    rw [hfin] at hss
                    obtain ⟨out, hout2⟩ : ∃ out, out = says.filter S := ⟨_, rfl⟩
                    rw [← hout2] at hss
                    have hol : ss.length = out.length := by rw [hss, List.length_map]
                    have hcore : CoreOk rc out := by rw [hout2, Hsays.out]; exact CoreI.done (by omega) Hfr.out (by rw [← Hsays.out]; exact HI.out)
                    have Hcore := Lib.hid hcore; have Hout := Lib.hid hout; have Hbe := Lib.hid hbe; have Hss := Lib.hid hss; have Hol := Lib.hid hol
                    clear hcore hout hbe hss hbi hbw3 hrow hfin hol hout2 hlt
                    have hwo : w.heap.size ≤ wo.heap.size := Nat.le_trans Hws.out Hbw.out.size
                    go_wp2_with fail
                    go_ret2
                    refine ⟨.inl ⟨ao, co, out, by rw [← Hol.out]; rfl, ?_, by rw [← Hrc.out]; exact Hcore.out⟩, Hbe.out⟩
                    rw [← Hol.out, ← Hss.out]
                    exact RowG.less Hout.out hwo
              | succ q =>
                rw [show (((q + 1 : Nat) : Int) - 1) = (q : Int) by omega]
                have hqn : (q : Int) < (NL : Int) := by omega
                have hqs : q < says.length := by rw [← HNL.out]; omega
                obtain ⟨_, _, hrow, _⟩ := HX.out wo hbw
                obtain ⟨g, rfl, hg, _⟩ := RowG.at hrow (by rw [List.length_map]; omega)
                have hc := RowG.cell (enc := encInt) (z := 1) (fun _ => rfl) hrow (k := q) (by rw [List.length_map]; exact hqs) (j := 0) (by decide) rfl
                rw [Nat.mul_one, Nat.add_zero, List.getElem_map] at hc
                have hx := Hslt.out says[q] (List.getElem_mem hqs)
                have hkeep := fun hs => CoreI.keep hI hqs hs
                have hdrop := fun hs => CoreI.drop Hfr.out (by rw [Hsays.out]; exact says_inc ls _) hI hqs hs
                have hSx := hI.all q hqs (by omega)
                obtain ⟨x, hxe⟩ : ∃ x, x = says[q] := ⟨_, rfl⟩
                rw [← hxe] at hc hx hkeep hdrop hSx
                have HSx := Lib.hid hSx
                obtain ⟨d1, d2, d3⟩ := hr.cell hx
                have hxi : (x : Int) < 100 := by omega
                obtain ⟨wd, hwd⟩ : ∃ wd, wd = wo.setCell ⟨w3.heap.size, x, none⟩ (.bool false) := ⟨_, rfl⟩
                have hrd : BoolRow wd w3.heap.size 100 (fun i => S i && decide (i ≠ x)) := by rw [hwd]; exact (hr.set hx false).congr (fun i _ => by by_cases e : i = x <;> simp [e])
                obtain ⟨T, hT⟩ : ∃ T : Nat → Bool, T = fun i => S i && decide (i ≠ x) := ⟨_, rfl⟩
                rw [← hT] at hrd hkeep hdrop
                have HT := Lib.hid hT; clear hT
                have hbd : Below w3.heap.size w3 wd := by rw [hwd]; exact hbw.setCell (p := ⟨w3.heap.size, x, none⟩) (Nat.le_refl _) _
                have hbox : wd.heap[w1.heap.size]? = some (.cells #[.int .i64 m, .slice a1 L c1, .slice a2 L c2] 28 (0, 0)) := (HX.out wd hbd).1
                have Hr := Lib.hid hrd; have Hbw := Lib.hid hbd; have Hrow := Lib.hid hrow; have Hkeep := Lib.hid hkeep; have Hdrop := Lib.hid hdrop; have Hxs := Lib.hid (show ∀ w', Below w3.heap.size w3 w' → w'.cell? ⟨g, q, none⟩ = some (.int .i64 (x : Nat)) from fun w' hw => by
                  have hrow' := (HX.out w' hw).2.2.1
                  have hc' := RowG.cell (enc := encInt) (z := 1) (fun _ => rfl) hrow' (k := q) (by rw [List.length_map]; exact hqs) (j := 0) (by decide) rfl
                  rw [Nat.mul_one, Nat.add_zero, List.getElem_map, ← hxe] at hc'
                  exact hc')
                clear hr hI hbw hrow hrd hbd hbox hkeep hdrop hxe hqs hSx
                go_upto_region 20 with fail
                rw [← hwd]
                clear hwd hc d1 d2 d3
                have HQ := Lib.hid (And.intro hqn (And.intro hxi (And.intro hx hj)))
                clear hqn hxi hx hj hg hsl1 hsl2
                go_cut [13, 12] from 66 to 74 (fun ev pv wz => ∃ (blk : Nat) (holds : Bool) (vals : Nat) (a8 : Option Addr) (n8 c8 : Nat), ev = .nilIface ∧ pv = .pointer (some ⟨blk, 0, none⟩) ∧ wz.heap[blk]? = some (.cells #[.bool holds, .int .u64 vals, .slice a8 n8 c8] 72 (0, 0)) ∧ Below wd.heap.size wd wz ∧ (holds = true ↔ SatS rc T))
                case first =>
                  obtain ⟨hbx, hrul, _, _⟩ := HX.out wd Hbw.out
                  have HO := Lib.hid (show ∀ w', Below wd.heap.size wd w' → Calls Tryz.prog 12 #[.agg #[.int .i64 m, .slice a1 L c1, .slice a2 L c2], .slice (some ⟨w3.heap.size, 0, none⟩) 100 100] w' fun e w'' => (∃ vo, e = .returned vo ∧ ClsIn w'' w'.heap.size vo (onlyC rc (boolsL 100 T))) ∧ Below w'.heap.size w' w'' from fun w' hw => only_any w.heap.size (m : Nat) _ _ _ rc _ w' (hrul.below hw) ((Hr.out.below hw).bools (by omega)) (by have := Hs.out.len; omega) Hs.out.frm)
                  have HK := Lib.hid (show ∀ w', Below wd.heap.size wd w' → w'.cell? ⟨w1.heap.size, 0, none⟩ = some (.int .i64 m) ∧ w'.cell? ⟨w1.heap.size, 1, none⟩ = some (.slice a1 L c1) ∧ w'.cell? ⟨w1.heap.size, 2, none⟩ = some (.slice a2 L c2) from fun w' hw => cellsR ((hw.block _ (lt_of_block hbx)).trans hbx))
                  have HB := Lib.hid ((Below.refl wd.heap.size wd).drew)
                  have HBd := Lib.hid (fun o => ((Below.refl wd.heap.size wd).alloc (Nat.le_refl _) o).drew)
                  have KS := HK.out _ HB.out
                  have hlx := lt_of_block hbx
                  clear hbx hrul
                  go_region_held3 (fun w' => w'.cell? ⟨w1.heap.size, 0, none⟩ = some (.int .i64 m) ∧ w'.cell? ⟨w1.heap.size, 1, none⟩ = some (.slice a1 L c1) ∧ w'.cell? ⟨w1.heap.size, 2, none⟩ = some (.slice a2 L c2)) (first | (with_reducible exact KS) | (with_reducible refine kS3 ?_ KS; omega) | (with_reducible refine kS3 ?_ KS; have := HB.out.size; omega) | (with_reducible refine kSAd ?_ KS; omega) | (with_reducible refine kSA ?_ KS; have := HB.out.size; omega) | go_keep)
                    (first
                      | (go_at_call 12; (refine (HO.out _ (by first | (with_reducible exact HB.out) | (with_reducible exact HBd.out _))).mono ?_); rintro e w7 ⟨⟨v7, rfl, h7⟩, hb7⟩; obtain ⟨x7, y7, rfl, _, _⟩ := h7.shape; have HSo := Lib.hid (show ∀ w', Below w7.heap.size w7 w' → _ from fun w' hw => solveS_any Hs.out (h7.below hw)); have hB7 : Below wd.heap.size wd w7 := (by first | (with_reducible exact HB.out.trans (hb7.mono HB.out.size)) | (with_reducible exact (HBd.out _).trans (hb7.mono (HBd.out _).size))); have hs7 := hB7.size; (try (have hx7 : w7.heap[wd.heap.size]? = some (.cells #[.bool false, .int .u64 0, .slice none 0 0] 72 (0, 0)) := (hb7.block _ (by simp)).trans (heap_at (by simp)); have HX7 := Lib.hid hx7; clear hx7)); clear h7 hb7 KS HB; have HB := Lib.hid hB7; clear hB7; have KS := HK.out _ HB.out)
                      | (go_at_call 29; (refine (HSo.out _ (by first | (with_reducible exact Below.refl _ _) | (with_reducible exact (Below.refl _ _).alloc (Nat.le_refl _) _))).mono ?_); rintro e w8 ⟨⟨holds, vals, a8, n8, c8, rfl, h8⟩, hb8⟩; have H8 := Lib.hid h8; have hB8 : Below wd.heap.size wd w8 := (by first | (with_reducible exact HB.out.trans (hb8.mono HB.out.size)) | (with_reducible exact (HB.out.alloc HB.out.size _).trans (hb8.mono (HB.out.alloc HB.out.size _).size))); (first | (have hx8 := (hb8.block _ (lt_of_block HX7.out)).trans HX7.out) | (have hx8 : w8.heap[w7.heap.size]? = some (.cells #[.bool false, .int .u64 0, .slice none 0 0] 72 (0, 0)) := (hb8.block _ (by simp)).trans (heap_at rfl)) | skip); (try (obtain ⟨g0, g1, g2⟩ := freeR hx8; obtain ⟨z0, z1, z2⟩ := cellsR hx8; have l8 := lt_of_block hx8; have HX8 := Lib.hid hx8; clear hx8)); clear h8 hb8 KS HB; have HB := Lib.hid hB8; clear hB8; have KS := HK.out _ HB.out))
                  · go_wp2_with fail; go_meet
                    case rel => exact ⟨w8.heap.size, holds, vals, a8, n8, c8, rfl, rfl, heap_at rfl, HB.out.alloc HB.out.size _, H8.out⟩
                  · go_wp2_with fail; go_meet
                    case rel => exact ⟨w7.heap.size, holds, vals, a8, n8, c8, rfl, rfl, setR3 HX8.out _ _ _, HB.out.trans (setR3_below (w := w8) (show wd.heap.size ≤ w7.heap.size by omega) _ _ _), H8.out⟩
                  · go_wp2_with fail; go_meet
                    case rel => exact ⟨wd.heap.size, holds, vals, a8, n8, c8, rfl, rfl, setR3 HX8.out _ _ _, HB.out.trans (setR3_below (w := w8) (Nat.le_refl wd.heap.size) _ _ _), H8.out⟩
                case rest =>
                  obtain ⟨blk, holds, vals, a8, n8, c8, rfl, rfl, hkz, hbz, hsat⟩ := hcut
                  obtain ⟨wz, rfl⟩ : ∃ y, y = wc := ⟨_, rfl⟩
                  obtain ⟨q0, _, _⟩ := cellsR hkz
                  obtain ⟨hqn, hxi, hx, hj⟩ := HQ.out
                  have hbw3 := Hbw.out.trans (hbz.mono Hbw.out.size)
                  have hc := Hxs.out wz hbw3
                  obtain ⟨d1, d2, d3⟩ := (Hr.out.below hbz).cell hx
                  have Hbz := Lib.hid hbw3; have Hrz := Lib.hid (Hr.out.below hbz); have Hsat := Lib.hid hsat
                  clear hkz hbz hsat hbw3
                  cases holds with
                  | true =>
                    have hI9 := Hkeep.out (Hsat.out.1 rfl)
                    have HI9 := Lib.hid hI9; clear hI9
                    go_wp2_with fail
                    go_roundg q
                    case measure => omega
                    case rel => exact ⟨q, S, by omega, rfl, by go_num, (Hrz.out.set hx true).congr (fun i _ => by rw [HT.out]; by_cases e : i = x <;> simp [e, HSx.out]), HI9.out, Hbz.out.setCell (p := ⟨w3.heap.size, x, none⟩) (Nat.le_refl _) _⟩
                  | false =>
                    have hI9 := Hdrop.out (fun q => (Bool.false_ne_true (Hsat.out.2 q)))
                    have HI9 := Lib.hid hI9; clear hI9
                    go_wp2_with fail
                    go_roundg q
                    case measure => omega
                    case rel => exact ⟨q, _, by omega, rfl, by go_num, Hrz.out, HI9.out, Hbz.out⟩
  · obtain ⟨w2, hw2⟩ : ∃ w2, w2 = w1.alloc (.cells #[.int .i64 0, .slice none 0 0, .slice none 0 0] 28) := ⟨_, rfl⟩
    have HB2 := Lib.hid (show Below w.heap.size w w2 by rw [hw2]; exact hb1.alloc hb1.size _)
    have Hr := Lib.hid hr
    clear hb1 hr HO1 HSv
    go_upto_region 2 with fail
    rw [← hw2]
    clear hw2
    go_wp2_with fail
    go_ret2
    exact ⟨.inr (.inr ⟨rfl, Hr.out⟩), HB2.out⟩
end Go.Proofs.YtheemhelioendaaGreatDoor
