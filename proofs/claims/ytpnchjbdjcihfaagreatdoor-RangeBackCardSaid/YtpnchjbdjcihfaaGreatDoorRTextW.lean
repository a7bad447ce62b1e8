/- Contract: Range.Text. -/
import Derived.Test.YtpnchjbdjcihfaaGreatDoorSRow
import Derived.Test.YtpnchjbdjcihfaaGreatDoorVerN
import Derived.Test.YtpnchjbdjcihfaaGreatDoorSame
namespace Go.Proofs.YtpnchjbdjcihfaaGreatDoor
open Go.RowKit
set_option linter.unusedVariables false

theorem vtext_any (n : Int) (w : World) (h : 0 ≤ n ∧ n < pastV) (hL : LaidR w) : Calls Tryz.prog 15 #[.agg #[.int .i64 (n / 1000 / 1000), .int .i64 (n / 1000 % 1000), .int .i64 (n % 1000)]] w fun e w' => e = .returned (.string (wordB (vT n))) ∧ Below w.heap.size w w' :=
  text_any _ _ _ w (vT_ok h).1 hL
theorem spanT_a {s : Spn} (h : s.2 = s.1 + 1) : spanT s = vT s.1 := by unfold spanT spanW; rw [if_pos h, Lib.join_one]
theorem spanT_b {s : Spn} (h : ¬ s.2 = s.1 + 1) (h1 : 0 < s.1) (h2 : s.2 < pastV) : spanT s = [62, 61] ++ vT s.1 ++ [32, 60] ++ vT s.2 := by
  unfold spanT spanW; rw [if_neg h, if_pos ⟨h1, h2⟩]
  simp [Lib.join, List.intercalate, List.intersperse]
theorem spanT_c {s : Spn} (h : ¬ s.2 = s.1 + 1) (h1 : 0 < s.1) (h2 : ¬ s.2 < pastV) : spanT s = [62, 61] ++ vT s.1 := by
  unfold spanT spanW; rw [if_neg h, if_neg (fun q => h2 q.2), if_pos h1, Lib.join_one]
theorem spanT_d {s : Spn} (h : ¬ s.2 = s.1 + 1) (h1 : ¬ 0 < s.1) (h2 : s.2 < pastV) : spanT s = [60] ++ vT s.2 := by
  unfold spanT spanW; rw [if_neg h, if_neg (fun q => h1 q.1), if_neg h1, if_pos h2, Lib.join_one]
theorem spanT_e {s : Spn} (h : ¬ s.2 = s.1 + 1) (h1 : ¬ 0 < s.1) (h2 : ¬ s.2 < pastV) : spanT s = [97, 110, 121] := by
  unfold spanT spanW; rw [if_neg h, if_neg (fun q => h1 q.1), if_neg h1, if_neg h2, Lib.join_one]
theorem cat_wordB (o l : List UInt8) : wordB o ++ wordB l = wordB (o ++ l) := by
  apply ByteArray.ext
  apply Array.toList_inj.1
  unfold wordB
  simp
theorem lens_le {B : Nat} : ∀ {xs : List (List UInt8)}, (∀ x ∈ xs, x.length ≤ B) → Lib.lens xs ≤ xs.length * B
  | [], _ => by simp [Lib.lens]
  | x :: xs, h => by
    have h1 := h x (List.mem_cons_self ..)
    have h2 := lens_le (xs := xs) (fun y hy => h y (List.mem_cons_of_mem _ hy))
    simp only [Lib.lens, List.map_cons, List.sum_cons, List.length_cons, Nat.succ_mul] at h2 ⊢
    omega
theorem join_le {B : Nat} {xs : List (List UInt8)} {sep : List UInt8} (h : ∀ x ∈ xs, x.length ≤ B) : (Lib.join xs sep).length ≤ xs.length * (B + sep.length) := by
  cases xs with
  | nil => simp [Lib.join_nil]
  | cons x r =>
    have h1 := lens_le h
    rw [Lib.join_cons, List.length_append, Lib.joinTail_length]
    simp only [Lib.lens, List.map_cons, List.sum_cons, List.length_cons, Nat.succ_mul] at h1 ⊢
    rw [Nat.mul_add, Nat.mul_comm r.length sep.length]
    omega
set_option maxRecDepth 100000 in
set_option maxHeartbeats 8000000 in
theorem rtext_any (vs : Value) (l : List Spn) (w : World) (h : IsSp w vs l) (hc : Canon l) (hl : l.length ≤ 50000) (hL : LaidR w) : Calls Tryz.prog 18 #[.agg #[vs]] w fun e w' => e = .returned (.string (wordB (rangeT l))) ∧ Below w.heap.size w w' := by
  obtain ⟨a, c, rfl, hlc, hcm⟩ := h.shape
  have hal : Below w.heap.size w (w.alloc (.cells #[.slice a l.length c] 24)) := (Below.refl _ _).alloc (Nat.le_refl _) _
  have hblk : (w.alloc (.cells #[.slice a l.length c] 24)).heap[w.heap.size]? = some (.cells #[.slice a l.length c] 24 (0, 0)) := heap_at rfl
  have he := empty_any _ l (w.alloc (.cells #[.slice a l.length c] 24)) (h.below hal)
  have HL := Lib.hid (show ∀ w', Below w.heap.size w w' → LaidR w' from fun w' hw => hL.below hw)
  by_cases hne : l = []
  · subst hne
    rw [decide_eq_true rfl] at he
    have He := Lib.hid he; have Hal := Lib.hid hal
    clear he h hal hL hblk hc
    go_enter Tryz.func18, Tryz.ntmps18
    go_wp2_with fail
    refine He.out.mono ?_
    rintro e w1 ⟨rfl, hb1⟩
    have Hb1 := Lib.hid hb1; clear hb1
    go_wp2_with fail
    go_ret
    exact ⟨rfl, Hal.out.trans (Hb1.out.mono Hal.out.size)⟩
  · rw [decide_eq_false hne] at he
    have He := Lib.hid he; have Hal := Lib.hid hal; have H := Lib.hid h; have Hblk := Lib.hid hblk; have Hc := Lib.hid hc; have Hne := Lib.hid hne
    clear he h hal hL hblk hc hne
    go_enter Tryz.func18, Tryz.ntmps18
    go_wp2_with fail
    refine He.out.mono ?_
    rintro e w1 ⟨rfl, hb1⟩
    have hblk1 := (hb1.block _ (lt_of_block Hblk.out)).trans Hblk.out
    have d1 := cell_of_one hblk1
    have hB1 := Hal.out.trans (hb1.mono Hal.out.size)
    have hs1 := hb1.size
    rw [alloc_size] at hs1
    have HB1 := Lib.hid hB1; have Hs1 := Lib.hid hs1
    clear hb1 hblk1 hB1 hs1 He
    go_wp2_with fail
    go_loopg [3, 13] l.length (fun gk vo i wr => ∃ (k : Nat), k ≤ l.length ∧ gk = l.length - k ∧ i = .int .i64 k ∧ OutS wr (w.heap.size + 1) vo ((l.take k).map spanT) ∧ Below (w.heap.size + 1) w1 wr)
    case atStart => exact ⟨0, Nat.zero_le _, rfl, rfl, OutS.nil _ _, Below.refl _ _⟩
    case round =>
      obtain ⟨k, hk, rfl, rfl, hout, hbw⟩ := hrel
      obtain ⟨wo, rfl⟩ : ∃ y, y = wr := ⟨_, rfl⟩
      obtain ⟨ss, hss⟩ : ∃ ss, ss = (l.take k).map spanT := ⟨_, rfl⟩
      rw [← hss] at hout
      obtain ⟨ao, co, rfl⟩ := hout.shape
      have sbw := hbw.size
      have hsA := Hs1.out
      by_cases hlt : k < l.length
      ·
        -- ROUND
        have hbel := HB1.out.trans (hbw.mono (by omega))
        obtain ⟨g, rfl, hgl, c1, c2⟩ := (H.out.below hbel).get hlt
        have hW := Hc.out.ok l[k] (List.getElem_mem hlt)
        have htk : (l.take (k + 1)).map spanT = ss ++ [spanT l[k]] := by rw [hss, List.take_succ_eq_append_getElem hlt, List.map_append]; rfl
        generalize l[k] = s at c1 c2 hW htk
        have hlen : ss.length = k := by rw [hss, List.length_map, List.length_take]; omega
        have Htk := Lib.hid htk; have Hss := Lib.hid hss; clear htk hss
        obtain ⟨s1, s2⟩ := s
        obtain ⟨h1, h2, h3⟩ := hW
        unfold pastV at h3
        simp only at h1 h2 h3 c1 c2
        rw [hlen] at hout ⊢
        obtain ⟨wB, hwB⟩ : ∃ x, x = wo.alloc (.cells #[.int .i64 s1, .int .i64 s2] 51) := ⟨_, rfl⟩
        have hbB : Below wo.heap.size wo wB := by rw [hwB]; exact (Below.refl _ _).alloc (Nat.le_refl _) _
        have hkB : wB.heap[wo.heap.size]? = some (.cells #[.int .i64 s1, .int .i64 s2] 51 (0, 0)) := by rw [hwB]; exact heap_at rfl
        have hszB : wB.heap.size = wo.heap.size + 1 := by rw [hwB, alloc_size]
        have HL2 := Lib.hid (show ∀ w', Below wo.heap.size wo w' → LaidR w' from fun w' hw => HL.out _ (hbel.trans (hw.mono hbel.size)))
        have HBB := Lib.hid hbB; have HkB := Lib.hid hkB; have HszB := Lib.hid hszB; have Hbw := Lib.hid hbw; have Hout := Lib.hid hout; have Hlen := Lib.hid hlen
        clear hbB hkB hszB hbw hout hlen hbel
        have z1 := cell_of_row wB wo.heap.size 0 _ _ _ HkB.out
        have z2 := cell_of_row wB wo.heap.size 1 _ _ _ HkB.out
        simp only [List.getElem?_toArray, List.getElem?_cons_zero, List.getElem?_cons_succ] at z1 z2
        have b1 : 0 ≤ s1 ∧ s1 < pastV := ⟨h1, by unfold pastV; omega⟩
        have HV1 := Lib.hid (show ∀ w', Below wo.heap.size wo w' → Calls Tryz.prog 30 #[.int .i64 s1] w' fun e w'' => e = .returned (.agg #[.int .i64 (s1 / 1000 / 1000), .int .i64 (s1 / 1000 % 1000), .int .i64 (s1 % 1000)]) ∧ Below wo.heap.size wo w'' from fun w' hw => (version_any s1 w' ⟨b1.1, Int.le_of_lt b1.2⟩).mono fun e w'' q => ⟨q.1, hw.trans (q.2.mono hw.size)⟩)
        have HT1 := Lib.hid (show ∀ w', Below wo.heap.size wo w' → Calls Tryz.prog 15 #[.agg #[.int .i64 (s1 / 1000 / 1000), .int .i64 (s1 / 1000 % 1000), .int .i64 (s1 % 1000)]] w' fun e w'' => e = .returned (.string (wordB (vT s1))) ∧ Below wo.heap.size wo w'' from fun w' hw => (vtext_any s1 w' b1 (HL2.out w' hw)).mono fun e w'' q => ⟨q.1, hw.trans (q.2.mono hw.size)⟩)
        have l1 : (wordB (vT s1)).size ≤ 11 := verL_len (vT_ok b1).1
        clear b1
        by_cases hA : s2 = s1 + 1
        · have tA : (s2 == s1 + 1) = true := by rw [beq_iff_eq]; exact hA
          have HA := Lib.hid hA; clear hA
          go_upto_region 7 with fail
          rw [← hwB]
          clear hwB
          go_quiet (fail)
          go_wp2_with fail
          refine (HV1.out _ (below_drewN HBB.out nq)).mono ?_
          rintro e w2 ⟨rfl, hb2⟩
          have Hb2 := Lib.hid hb2; clear hb2
          go_wp2_with fail
          refine (HT1.out _ Hb2.out).mono ?_
          rintro e w3 ⟨rfl, hb3⟩
          have sz3 := hb3.size
          have HBo := Lib.hid hb3; clear hb3
          go_wp2_with (at_builtin; refine wpList_append_str rfl (.tmp 33) (.tmp 38) rfl (w.heap.size + 1) _ ss rfl (Hout.out.below HBo.out) (vT s1) _ (rfl) _ rfl rfl (by rw [Hlen.out]; omega) (by omega) ?_; intro v9 w9 ho9 hb9 _; have Ho9 := Lib.hid ho9; have Hb9 := Lib.hid hb9; clear ho9 hb9)
          go_roundg (l.length - (k + 1))
          case measure => omega
          case rel => exact ⟨k + 1, by omega, rfl, by go_num, by rw [Htk.out, spanT_a HA.out]; exact Ho9.out, (Hbw.out.trans (HBo.out.mono (by omega))).trans Hb9.out⟩
        · have tA : (s2 == s1 + 1) = false := by rw [beq_eq_false_iff_ne]; exact hA
          have HA := Lib.hid hA; clear hA
          by_cases hF : 0 < s1
          · by_cases hG : s2 < 1000000000
            · have b2 : 0 ≤ s2 ∧ s2 < pastV := ⟨by omega, by unfold pastV; exact hG⟩
              have b1 : 0 ≤ s1 ∧ s1 < pastV := ⟨by omega, by unfold pastV; omega⟩
              have HL3 := Lib.hid (show ∀ w', Below wB.heap.size wB w' → LaidR w' from fun w' hw => HL2.out w' (HBB.out.trans (hw.mono HBB.out.size)))
              have HX1 := Lib.hid (show ∀ w', Below wB.heap.size wB w' → Calls Tryz.prog 30 #[.int .i64 s1] w' fun e w'' => e = .returned (.agg #[.int .i64 (s1 / 1000 / 1000), .int .i64 (s1 / 1000 % 1000), .int .i64 (s1 % 1000)]) ∧ Below wB.heap.size wB w'' from fun w' hw => (version_any s1 w' ⟨b1.1, Int.le_of_lt b1.2⟩).mono fun e w'' q => ⟨q.1, hw.trans (q.2.mono hw.size)⟩)
              have HY1 := Lib.hid (show ∀ w', Below wB.heap.size wB w' → Calls Tryz.prog 15 #[.agg #[.int .i64 (s1 / 1000 / 1000), .int .i64 (s1 / 1000 % 1000), .int .i64 (s1 % 1000)]] w' fun e w'' => e = .returned (.string (wordB (vT s1))) ∧ Below wB.heap.size wB w'' from fun w' hw => (vtext_any s1 w' b1 (HL3.out w' hw)).mono fun e w'' q => ⟨q.1, hw.trans (q.2.mono hw.size)⟩)
              have HX2 := Lib.hid (show ∀ w', Below wB.heap.size wB w' → Calls Tryz.prog 30 #[.int .i64 s2] w' fun e w'' => e = .returned (.agg #[.int .i64 (s2 / 1000 / 1000), .int .i64 (s2 / 1000 % 1000), .int .i64 (s2 % 1000)]) ∧ Below wB.heap.size wB w'' from fun w' hw => (version_any s2 w' ⟨b2.1, Int.le_of_lt b2.2⟩).mono fun e w'' q => ⟨q.1, hw.trans (q.2.mono hw.size)⟩)
              have HY2 := Lib.hid (show ∀ w', Below wB.heap.size wB w' → Calls Tryz.prog 15 #[.agg #[.int .i64 (s2 / 1000 / 1000), .int .i64 (s2 / 1000 % 1000), .int .i64 (s2 % 1000)]] w' fun e w'' => e = .returned (.string (wordB (vT s2))) ∧ Below wB.heap.size wB w'' from fun w' hw => (vtext_any s2 w' b2 (HL3.out w' hw)).mono fun e w'' q => ⟨q.1, hw.trans (q.2.mono hw.size)⟩)
              have l2 : (wordB (vT s2)).size ≤ 11 := verL_len (vT_ok b2).1
              have ec : wordB [62, 61] ++ wordB (vT s1) ++ wordB [32, 60] ++ wordB (vT s2) = wordB ([62, 61] ++ vT s1 ++ [32, 60] ++ vT s2) := by rw [cat_wordB, cat_wordB, cat_wordB]
              have Ec := Lib.hid ec; clear ec b1 b2 HV1 HT1
              generalize wordB (vT s1) = S at l1 Ec HY1 ⊢
              generalize wordB (vT s2) = S' at l2 Ec HY2 ⊢
              have q1 : ¬ 9223372036854775807 < 2 + S.size := by omega
              have q2 : ¬ 9223372036854775807 < 2 + S.size + 2 := by omega
              have q3 : ¬ 9223372036854775807 < 2 + S.size + 2 + S'.size := by omega
              have Z := And.intro z1 z2
              have HZ := Lib.hid (show ∀ w', Below wB.heap.size wB w' → w'.cell? ⟨wo.heap.size, 0, none⟩ = some (.int .i64 s1) ∧ w'.cell? ⟨wo.heap.size, 1, none⟩ = some (.int .i64 s2) from fun w' hw => ⟨(hw.cell (p := ⟨wo.heap.size, 0, none⟩) (by show wo.heap.size < _; rw [HszB.out]; omega)).trans z1, (hw.cell (p := ⟨wo.heap.size, 1, none⟩) (by show wo.heap.size < _; rw [HszB.out]; omega)).trans z2⟩)
              have HOut := Lib.hid (show ∀ w', Below wB.heap.size wB w' → OutS w' (w.heap.size + 1) (.slice ao k co) ss from fun w' hw => Hout.out.below (HBB.out.trans (hw.mono HBB.out.size)))
              have hbo : ∀ b, (Value.slice ao k co).ownBlock = some b → b < wo.heap.size := fun b hb => (World.ownsRow.lt Hout.out b hb).2
              have Hbo := Lib.hid hbo; clear hbo
              go_upto_region 7 with fail
              rw [← hwB]
              clear hwB
              go_quiet (fail)
              have HB := Lib.hid (below_drewN (Below.refl wB.heap.size wB) (nq + 1))
              go_wp2_with fail
              go_region_held3 (fun w' => w'.cell? ⟨wo.heap.size, 0, none⟩ = some (.int .i64 s1) ∧ w'.cell? ⟨wo.heap.size, 1, none⟩ = some (.int .i64 s2)) (first | exact ⟨Z.1, Z.2⟩ | exact ⟨(HZA.out _).1, (HZA.out _).2⟩)
                (first
                  | (go_at_call 30; (with_reducible refine (HX1.out _ HB.out).mono ?_); rintro e w5 ⟨rfl, hb⟩; have HB := Lib.hid hb; have Z := HZ.out _ hb; clear hb HX1)
                  | (go_at_call 15; (with_reducible refine (HY1.out _ HB.out).mono ?_); rintro e w6 ⟨rfl, hb⟩; have HB := Lib.hid hb; have Z := HZ.out _ hb; clear hb HY1)
                  | (go_at_call 30; (with_reducible refine (HX2.out _ HB.out).mono ?_); rintro e w7 ⟨rfl, hb⟩; have HB := Lib.hid hb; have Z := HZ.out _ hb; clear hb HX2)
                  | (go_at_call 15; (with_reducible refine (HY2.out _ HB.out).mono ?_); rintro e w8 ⟨rfl, hb⟩; have HB := Lib.hid hb; have Z := HZ.out _ hb; have sz8 := hb.size; have HZA := Lib.hid (show ∀ o, (w8.alloc o).cell? ⟨wo.heap.size, 0, none⟩ = some (.int .i64 s1) ∧ (w8.alloc o).cell? ⟨wo.heap.size, 1, none⟩ = some (.int .i64 s2) from fun o => HZ.out _ (hb.trans (((Below.refl _ _).alloc (Nat.le_refl _) o).mono hb.size))); clear hb HY2)
                  | (refine step_append_str (by rfl) _ _ (by rfl) (w.heap.size + 1) _ ss (by rfl) (HOut.out _ HB.out) ([62, 61] ++ vT s1 ++ [32, 60] ++ vT s2) _ Ec.out _ rfl (by rfl) (by rw [Hlen.out]; omega) (by rw [HszB.out] at sz8; omega) ?_; intro g9 c9 w9 ho9 hb9 hk9; rw [Hlen.out] at ho9 ⊢; rw [HszB.out] at sz8; have Z := And.intro ((World.cell?_of_block (w := w8) (a := ⟨wo.heap.size, 0, none⟩) (hk9 wo.heap.size (by omega) (fun e => by have := Hbo.out _ e; omega))).trans Z.1) ((World.cell?_of_block (w := w8) (a := ⟨wo.heap.size, 1, none⟩) (hk9 wo.heap.size (by omega) (fun e => by have := Hbo.out _ e; omega))).trans Z.2); clear hk9; have Ho9 := Lib.hid ho9; have Hb9 := Lib.hid hb9; clear ho9 hb9))
              go_wp2_with fail
              go_roundg (l.length - (k + 1))
              case measure => omega
              case rel => exact ⟨k + 1, by omega, rfl, by go_num, by rw [Htk.out, spanT_b HA.out (by show 0 < s1; omega) (by show s2 < pastV; unfold pastV; omega)]; exact Ho9.out, (Hbw.out.trans ((HBB.out.trans (HB.out.mono HBB.out.size)).mono (by omega))).trans Hb9.out⟩
            ·
              go_upto_region 7 with fail
              rw [← hwB]
              clear hwB
              go_quiet (fail)
              go_wp2_with fail
              refine (HV1.out _ (below_drewN HBB.out nq)).mono ?_
              rintro e w2 ⟨rfl, hb2⟩
              have Hb2 := Lib.hid hb2; clear hb2
              go_wp2_with fail
              refine (HT1.out _ Hb2.out).mono ?_
              rintro e w3 ⟨rfl, hb3⟩
              have sz3 := hb3.size
              have HBo := Lib.hid hb3; clear hb3
              have ec := cat_wordB [62, 61] (vT s1)
              have Ec := Lib.hid ec; clear ec
              generalize wordB (vT s1) = S at l1 Ec ⊢
              have z3 : ¬ 9223372036854775807 < 2 + S.size := by omega
              go_wp2_with (at_builtin; refine wpList_append_str rfl (.tmp 61) (.tmp 67) rfl (w.heap.size + 1) _ ss rfl (Hout.out.below HBo.out) ([62, 61] ++ vT s1) _ (Ec.out) _ rfl rfl (by rw [Hlen.out]; omega) (by omega) ?_; intro v9 w9 ho9 hb9 _; have Ho9 := Lib.hid ho9; have Hb9 := Lib.hid hb9; clear ho9 hb9)
              go_roundg (l.length - (k + 1))
              case measure => omega
              case rel => exact ⟨k + 1, by omega, rfl, by go_num, by rw [Htk.out, spanT_c HA.out (by show 0 < s1; omega) (by show ¬ s2 < pastV; unfold pastV; omega)]; exact Ho9.out, (Hbw.out.trans (HBo.out.mono (by omega))).trans Hb9.out⟩
          · by_cases hG : s2 < 1000000000
            · have b2 : 0 ≤ s2 ∧ s2 < pastV := ⟨by omega, by unfold pastV; exact hG⟩
              have HV2 := Lib.hid (show ∀ w', Below wo.heap.size wo w' → Calls Tryz.prog 30 #[.int .i64 s2] w' fun e w'' => e = .returned (.agg #[.int .i64 (s2 / 1000 / 1000), .int .i64 (s2 / 1000 % 1000), .int .i64 (s2 % 1000)]) ∧ Below wo.heap.size wo w'' from fun w' hw => (version_any s2 w' ⟨b2.1, Int.le_of_lt b2.2⟩).mono fun e w'' q => ⟨q.1, hw.trans (q.2.mono hw.size)⟩)
              have HT2 := Lib.hid (show ∀ w', Below wo.heap.size wo w' → Calls Tryz.prog 15 #[.agg #[.int .i64 (s2 / 1000 / 1000), .int .i64 (s2 / 1000 % 1000), .int .i64 (s2 % 1000)]] w' fun e w'' => e = .returned (.string (wordB (vT s2))) ∧ Below wo.heap.size wo w'' from fun w' hw => (vtext_any s2 w' b2 (HL2.out w' hw)).mono fun e w'' q => ⟨q.1, hw.trans (q.2.mono hw.size)⟩)
              have l2 : (wordB (vT s2)).size ≤ 11 := verL_len (vT_ok b2).1
              clear b2
              go_upto_region 7 with fail
              rw [← hwB]
              clear hwB
              go_quiet (fail)
              go_wp2_with fail
              refine (HV2.out _ (below_drewN HBB.out nq)).mono ?_
              rintro e w2 ⟨rfl, hb2⟩
              have Hb2 := Lib.hid hb2; clear hb2
              go_wp2_with fail
              refine (HT2.out _ Hb2.out).mono ?_
              rintro e w3 ⟨rfl, hb3⟩
              have sz3 := hb3.size
              have HBo := Lib.hid hb3; clear hb3
              have ec := cat_wordB [60] (vT s2)
              have Ec := Lib.hid ec; clear ec
              generalize wordB (vT s2) = S at l2 Ec ⊢
              have z3 : ¬ 9223372036854775807 < 1 + S.size := by omega
              go_wp2_with (at_builtin; refine wpList_append_str rfl (.tmp 71) (.tmp 77) rfl (w.heap.size + 1) _ ss rfl (Hout.out.below HBo.out) ([60] ++ vT s2) _ (Ec.out) _ rfl rfl (by rw [Hlen.out]; omega) (by omega) ?_; intro v9 w9 ho9 hb9 _; have Ho9 := Lib.hid ho9; have Hb9 := Lib.hid hb9; clear ho9 hb9)
              go_roundg (l.length - (k + 1))
              case measure => omega
              case rel => exact ⟨k + 1, by omega, rfl, by go_num, by rw [Htk.out, spanT_d HA.out (by show ¬ 0 < s1; omega) (by show s2 < pastV; unfold pastV; omega)]; exact Ho9.out, (Hbw.out.trans (HBo.out.mono (by omega))).trans Hb9.out⟩
            ·
              go_upto_region 7 with fail
              rw [← hwB]
              clear hwB
              go_quiet (fail)
              have sz3 := (below_drewN HBB.out nq).size
              go_wp2_with (at_builtin; refine wpList_append_str rfl (.tmp 23) (.tmp 24) rfl (w.heap.size + 1) _ ss rfl (Hout.out.below (below_drewN HBB.out nq)) [97, 110, 121] _ rfl _ rfl rfl (by rw [Hlen.out]; omega) (by omega) ?_; intro v9 w9 ho9 hb9 _; have Ho9 := Lib.hid ho9; have Hb9 := Lib.hid hb9; clear ho9 hb9)
              go_roundg (l.length - (k + 1))
              case measure => omega
              case rel => exact ⟨k + 1, by omega, rfl, by go_num, by rw [Htk.out, spanT_e HA.out (by show ¬ 0 < s1; omega) (by show ¬ s2 < pastV; unfold pastV; omega)]; exact Ho9.out, (Hbw.out.trans ((below_drewN HBB.out nq).mono (by omega))).trans Hb9.out⟩
        -- END ROUND
      · obtain rfl : k = l.length := by omega
        rw [List.take_length] at hss
        have hlen : ss.length = l.length := by rw [hss, List.length_map]
        have hne2 : 0 < l.length := List.length_pos_iff.2 Hne.out
        have hml : ∀ x ∈ ss, x.length ≤ 26 := fun x hx => by
          rw [hss] at hx
          obtain ⟨s, hs, rfl⟩ := List.mem_map.1 hx
          exact spanT_len (Hc.out.ok s hs)
        have hj := join_any _ _ ss orS _ hout (by omega) (by omega) (by
          have := join_le (sep := orS) hml
          have h4 : orS.length = 4 := rfl
          rw [h4] at this
          omega)
        have er : Lib.join ss orS = rangeT l := by unfold rangeT; rw [if_neg Hne.out, hss]
        rw [hlen, er] at hj
        have Hj := Lib.hid hj; have Hbw := Lib.hid hbw; have Hlen := Lib.hid hlen
        rw [hlen]
        unfold orS wordB at Hj
        clear hj hbw hlen er hml hss hout
        go_wp2_with fail
        refine Hj.out.mono ?_
        rintro e w3 ⟨rfl, hb3⟩
        have Hb3 := Lib.hid hb3; clear hb3
        go_wp2_with fail
        go_ret
        exact ⟨rfl, (HB1.out.trans (Hbw.out.mono (by omega))).trans (Hb3.out.mono (by omega))⟩
end Go.Proofs.YtpnchjbdjcihfaaGreatDoor
