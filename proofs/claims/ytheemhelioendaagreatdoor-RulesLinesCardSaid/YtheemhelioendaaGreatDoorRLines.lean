/- The walk of RulesLines. -/
import Derived.Test.YtheemhelioendaaGreatDoorRuled
import Derived.Test.YtheemhelioendaaGreatDoorPkL
import Derived.Deep.RegionHeld3
import Derived.Deep.OwnRows
namespace Go.Proofs.YtheemhelioendaaGreatDoor
open Go.RowKit
set_option linter.unusedVariables false

theorem infoBool : (Tryz.prog.info? 4).map (fun i => (i.zero, i.size, i.bytes)) = some (some (.bool false), 1, 1) := by kernel_rfl
/-- A row of bools under way: the first k are true. -/
def TrueRow (w : World) (p n k : Nat) : Prop := ∃ cur : Array Value, w.heap[p]? = some (.cells cur 4 (0, 0)) ∧ cur.size = n ∧ (∀ j, j < k → cur[j]? = some (.bool true)) ∧ ∀ j, j < n → ∃ b, cur[j]? = some (.bool b)
theorem TrueRow.made {w : World} {p n : Nat} (h : w.heap[p]? = some (.cells (madeCells #[.bool false] n) 4 (0, 0))) : TrueRow w p n 0 :=
  ⟨_, h, by rw [size_madeCells], fun j hj => absurd hj (Nat.not_lt_zero _), fun j hj => ⟨false, by rw [← Array.getElem?_toList, toList_madeCells_one]; simp [hj]⟩⟩
theorem TrueRow.set {w : World} {p n k : Nat} (h : TrueRow w p n k) (hk : k < n) : TrueRow (w.setCell ⟨p, k, none⟩ (.bool true)) p n (k + 1) := by
  obtain ⟨cur, h1, h2, h3, h4⟩ := h
  refine ⟨_, heap_set h1 k _, by simp [h2], fun j hj => ?_, fun j hj => ?_⟩
  · rw [Array.getElem?_setIfInBounds]
    split
    · rw [if_pos (by omega)]
    · exact h3 j (by omega)
  · rw [Array.getElem?_setIfInBounds]
    split
    · rw [if_pos (by omega)]; exact ⟨_, rfl⟩
    · exact h4 j hj
theorem TrueRow.cell {w : World} {p n k : Nat} (h : TrueRow w p n k) {j : Nat} (hj : j < n) : (∃ b, w.cell? ⟨p, j, none⟩ = some (.bool b)) ∧ w.frozen? ⟨p, j, none⟩ = false ∧ p < w.heap.size := by
  obtain ⟨cur, h1, h2, h3, h4⟩ := h
  obtain ⟨b, hb⟩ := h4 j hj
  exact ⟨⟨b, by rw [cell_of_row _ _ _ _ _ _ h1]; exact hb⟩, by simp [World.frozen?, h1], lt_of_block h1⟩
theorem TrueRow.bools {w : World} {p n : Nat} (h : TrueRow w p n n) (hn : n ≤ 1000) : IsBools w (.slice (some ⟨p, 0, none⟩) n n) (List.replicate n true) := by
  obtain ⟨cur, h1, h2, h3, h4⟩ := h
  refine ⟨_, p, 0, n, by rw [List.length_replicate], fun _ => rfl, by rw [List.length_replicate]; exact Nat.le_refl _, by unfold maxLen; omega, fun i hi => ?_, fun _ => lt_of_block h1⟩
  rw [List.length_replicate] at hi
  rw [Nat.zero_add, cell_of_row _ _ _ _ _ _ h1, h3 i hi]
  simp [List.getD_eq_getElem?_getD, hi]
theorem TrueRow.block {w w' : World} {p n k : Nat} (h : TrueRow w p n k) (hb : w'.heap[p]? = w.heap[p]?) : TrueRow w' p n k := by
  obtain ⟨cur, h1, h2⟩ := h
  exact ⟨cur, hb.trans h1, h2⟩
theorem ClsIn.rows {w : World} {base : Nat} {v : Value} {ls : List (List Int)} (h : ClsIn w base v ls) (hl : ls.length ≤ 100000) (hc : ∀ c ∈ ls, c.length ≤ 100000) : IsRows w v ls := by
  obtain ⟨us, h1, h2⟩ := h
  have hlen := h2.len
  have hat := fun (g n c : Nat) (e : v = .slice (some ⟨g, 0, none⟩) n c) => (show RowG w base 80 1 encV (.slice (some ⟨g, 0, none⟩) n c) us from e ▸ h1)
  obtain ⟨a, c, e, q1, q2⟩ := h1.shape
  refine ⟨a, ?_⟩
  cases hu : us with
  | nil =>
    have e0 : ls = [] := List.eq_nil_of_length_eq_zero (by rw [← hlen, hu]; rfl)
    subst e0
    rw [hu] at e q1
    exact ⟨0, 0, c, e, fun q => absurd rfl q, q1, by unfold maxLen; omega, fun q => absurd rfl q, Nat.zero_le _, fun i hi => (by simp at hi)⟩
  | cons u0 ur =>
    have hne : 0 < us.length := by rw [hu]; simp
    obtain ⟨g, rfl, hg, _⟩ := RowG.at (e ▸ h1) hne
    refine ⟨g, 0, c, by rw [← hlen]; exact e, fun _ => rfl, by rw [← hlen]; exact q1, by unfold maxLen; omega, fun _ => hg, by omega, fun i hi => ?_⟩
    have hi2 : i < us.length := by rw [hlen]; exact hi
    have hcell := RowG.cell encV_len (hat _ _ _ e) hi2 (j := 0) (by decide) rfl
    rw [Nat.mul_one, Nat.add_zero] at hcell
    refine ⟨us[i], by rw [Nat.zero_add]; exact hcell, ?_⟩
    have := h2.get i hi2 hi
    have hd : ls.getD i [] = ls[i] := by simp [hi]
    rw [hd]
    exact OutI.ints this (hc _ (List.getElem_mem hi))
theorem only_mem {rc : List (Int × List Int)} {some : List Bool} {c : List Int} (h : c ∈ onlyC rc some) : c ∈ clsOf rc := by
  unfold onlyC at h
  obtain ⟨p, hp, rfl⟩ := List.mem_map.1 h
  exact List.mem_map.2 ⟨p, (List.mem_filter.1 hp).1, rfl⟩
theorem rules_within {ls : List LineM} {items : List ItemM} (ho : CatOk ls items) : (∀ c ∈ clsOf (rulesC ls items), c.length ≤ 100000) ∧ Within 1000 (clsOf (rulesC ls items)) := by
  have hn : items.length ≤ 24 := by rw [ho.perm.length_eq]; exact ho.most
  refine ⟨fun c hc => ?_, fun c hc x hx => ?_⟩
  · obtain ⟨p, hp, rfl⟩ := List.mem_map.1 hc
    have := (rules_bound ho p hp).1
    omega
  · obtain ⟨p, hp, rfl⟩ := List.mem_map.1 hc
    have := (rules_bound ho p hp).2 x hx
    omega
set_option maxRecDepth 100000 in
set_option maxHeartbeats 16000000 in
theorem rulesLines_walk (s : ByteArray) (vb : Value) (l : List Bool) (n : Nat) (w : World) (hm : s.size ≤ 9223372036854775807) (hb : IsBools w vb l) (hn : n < 18446744073709551616) (hL : LaidR w) (hT : TypeLaid w) : Calls Tryz.prog 3 #[.string s, vb, .int .u64 n] w fun e w' => e = .returned (.bool true) ∧ Below w.heap.size w w' := by
  have HP := Lib.hid (read_any s 24 w hm (by decide) hL hT)
  have HR := Lib.hid (show ∀ w', Below w.heap.size w w' → Calls Tryz.prog 10 #[] w' fun e w'' => e = .returned (.bool true) ∧ Below w'.heap.size w' w'' from fun w' hw => ruled_any w' (hL.below hw) (hT.below hw))
  obtain ⟨ab, cb, rfl, hlb, hmb⟩ := hb.shape
  have Hb := Lib.hid hb; have Hn := Lib.hid hn
  clear hL hT hm hb hn
  go_enter Tryz.func3, Tryz.ntmps3
  go_wp2_with fail
  refine HP.out.mono ?_
  rintro e w1 ⟨⟨p, ls, items, a1, c1, a2, c2, rfl, hcat, hls, _, hlen, hmo, hin⟩ | ⟨rfl, hno⟩, hb1⟩
  · obtain ⟨hok, vl, vi, hat⟩ := hcat
    obtain ⟨rc, hrc⟩ : ∃ rc, rc = rulesC ls items := ⟨_, rfl⟩
    rw [← hrc] at hin hlen ⊢
    obtain ⟨L, hL⟩ : ∃ L, L = rc.length := ⟨_, rfl⟩
    rw [← hL] at hin hlen ⊢
    obtain ⟨w2, hw2⟩ : ∃ w2, w2 = w1.alloc (.cells #[.int .i64 (items.length : Nat), .slice a1 L c1, .slice a2 L c2] 28) := ⟨_, rfl⟩
    have hb2 : Below w1.heap.size w1 w2 := by rw [hw2]; exact (Below.refl _ _).alloc (Nat.le_refl _) _
    have hk2 : w2.heap[w1.heap.size]? = some (.cells #[.int .i64 (items.length : Nat), .slice a1 L c1, .slice a2 L c2] 28 (0, 0)) := by rw [hw2]; exact heap_at rfl
    have HB2 := Lib.hid (hb1.trans (hb2.mono hb1.size)); have Hk2 := Lib.hid hk2; have HAt := Lib.hid (hat.below hb2); have Hin := Lib.hid (hin.below hb2); have Hok := Lib.hid hok; have Hrc := Lib.hid hrc; have HL := Lib.hid hL; have Hlen := Lib.hid hlen
    clear hok hat hls hb1 hb2 hk2 hin HP hrc hL hlen
    by_cases h120 : 120 < l.length
    · have t1 : decide (120 < (l.length : Int)) = true := by simp; omega
      clear h120
      go_upto_region 2 with fail
      rw [← hw2]
      clear hw2
      go_wp2_with fail
      refine (HR.out _ HB2.out).mono ?_
      rintro e w3 ⟨rfl, hb3⟩
      have HB3 := Lib.hid (HB2.out.trans (hb3.mono HB2.out.size))
      clear hb3
      go_wp2_with fail
      refine (HR.out _ HB3.out).mono ?_
      rintro e w4 ⟨rfl, hb4⟩
      have HB4 := Lib.hid (HB3.out.trans (hb4.mono HB3.out.size))
      clear hb4
      go_wp2_with fail
      go_ret
      exact ⟨rfl, HB4.out⟩
    · have t1 : decide (120 < (l.length : Int)) = false := by simp; omega
      clear h120
      have hls100 := Hok.out.few
      go_upto_region 2 with fail
      rw [← hw2]
      clear hw2
      go_wp2_with fail
      refine (HR.out _ HB2.out).mono ?_
      rintro e w3 ⟨rfl, hb3⟩
      have HB3 := Lib.hid (HB2.out.trans (hb3.mono HB2.out.size))
      have HLi := Lib.hid (lines_any p vl vi ls items w3 (HAt.out.below hb3) (by omega))
      have Hin3 := Lib.hid (Hin.out.below hb3); have Hk3 := Lib.hid ((hb3.block _ (lt_of_block Hk2.out)).trans Hk2.out)
      clear hb3 Hk2 HAt Hin
      go_wp2_with fail
      refine HLi.out.mono ?_
      rintro e w5 ⟨⟨v5, rfl, hl5⟩, hb5⟩
      obtain ⟨al, cl, rfl, hll, hlm⟩ := hl5.row.shape
      have HB5 := Lib.hid (HB3.out.trans (hb5.mono HB3.out.size)); have Hin5 := Lib.hid (Hin3.out.below hb5); have Hk5 := Lib.hid ((hb5.block _ (lt_of_block Hk3.out)).trans Hk3.out)
      clear hl5 hb5 HLi Hk3 Hin3
      have hm2 := run_make_row' (P := Tryz.prog) 22 4 (.bool false) 1 Tryz.underlying22 infoBool rfl .i64 .i64 ls.length (by omega) (by omega)
      obtain ⟨w6, hw6⟩ : ∃ w6, w6 = w5.alloc (.cells (madeCells #[.bool false] ls.length) 4) := ⟨_, rfl⟩
      have hb6 : Below w5.heap.size w5 w6 := by rw [hw6]; exact (Below.refl _ _).alloc (Nat.le_refl _) _
      have hr6 : TrueRow w6 w5.heap.size ls.length 0 := .made (by rw [hw6]; exact heap_at rfl)
      have Hb6 := Lib.hid hb6; have Hr6 := Lib.hid hr6
      clear hb6 hr6
      go_upto_region 5 with fail
      rw [← hw6]
      clear hw6 hm2
      go_wp2_with fail
      go_loopg [11] ls.length (fun gk i wr => ∃ k : Nat, k ≤ ls.length ∧ gk = ls.length - k ∧ i = .int .i64 k ∧ TrueRow wr w5.heap.size ls.length k ∧ Below w5.heap.size w5 wr)
      case atStart => exact ⟨0, Nat.zero_le _, rfl, rfl, Hr6.out, Hb6.out⟩
      case round =>
        obtain ⟨k, hk, rfl, rfl, hr, hbw⟩ := hrel
        obtain ⟨wo, rfl⟩ : ∃ y, y = wr := ⟨_, rfl⟩
        by_cases hlt : k < ls.length
        · have hi : (k : Int) < (ls.length : Int) := by omega
          obtain ⟨⟨b0, hc⟩, hf, hp⟩ := hr.cell hlt
          have Hr := Lib.hid hr; have Hbw := Lib.hid hbw
          clear hr hbw
          go_wp2_with fail
          go_roundg (ls.length - (k + 1))
          case measure => omega
          case rel => exact ⟨k + 1, by omega, rfl, by go_num, Hr.out.set hlt, Hbw.out.setCell (p := ⟨w5.heap.size, k, none⟩) (Nat.le_refl _) _⟩
        · obtain rfl : k = ls.length := by omega
          have hno' : onlyC rc (List.replicate ls.length true) = clsOf rc := by
            rw [Hrc.out]
            exact only_all (by simp) (fun b hb => List.eq_of_mem_replicate hb)
          have hbo := (HB5.out.trans (hbw.mono HB5.out.size))
          have hf : ∀ p ∈ rc, -1 ≤ p.1 ∧ p.1 ≤ 1000 := fun q hq => by
            rw [Hrc.out] at hq
            have := rulesC_from hq
            omega
          have hrl : rc.length ≤ 100000 := by have := Hlen.out; have := HL.out; omega
          have hin7 := Hin5.out.below hbw
          have hk7 := (hbw.block _ (lt_of_block Hk5.out)).trans Hk5.out
          have HO1 := Lib.hid (show ∀ w', Below wo.heap.size wo w' → Calls Tryz.prog 12 #[.agg #[.int .i64 (items.length : Nat), .slice a1 L c1, .slice a2 L c2], .slice (some ⟨w5.heap.size, 0, none⟩) ls.length ls.length] w' fun e w'' => (∃ vo, e = .returned vo ∧ ClsIn w'' w'.heap.size vo (clsOf rc)) ∧ Below w'.heap.size w' w'' from fun w' hw => by
            have := only_any w.heap.size (items.length : Nat) _ _ _ rc _ w' (hin7.below hw) ((hr.bools (by omega)).below hw) hrl hf
            rw [hno'] at this
            exact this)
          have HO2 := Lib.hid (show ∀ w', Below wo.heap.size wo w' → Calls Tryz.prog 12 #[.agg #[.int .i64 (items.length : Nat), .slice a1 L c1, .slice a2 L c2], .slice ab l.length cb] w' fun e w'' => (∃ vo, e = .returned vo ∧ ClsIn w'' w'.heap.size vo (onlyC rc l)) ∧ Below w'.heap.size w' w'' from fun w' hw => only_any w.heap.size (items.length : Nat) _ _ _ rc _ w' (hin7.below hw) (Hb.out.below (hbo.trans (hw.mono hbo.size))) hrl hf)
          have HK := Lib.hid (show ∀ w', Below wo.heap.size wo w' → w'.cell? ⟨w1.heap.size, 0, none⟩ = some (.int .i64 (items.length : Nat)) ∧ w'.cell? ⟨w1.heap.size, 1, none⟩ = some (.slice a1 L c1) ∧ w'.cell? ⟨w1.heap.size, 2, none⟩ = some (.slice a2 L c2) from fun w' hw => cellsR ((hw.block _ (lt_of_block hk7)).trans hk7))
          have Hbo := Lib.hid hbo
          have HB := Lib.hid ((Below.refl wo.heap.size wo).drew)
          have KS := HK.out _ HB.out
          have Hf := Lib.hid hf
          clear hr hbw hno' hbo hf hrl hin7 hk7 hlt
          go_wp2_with fail
          go_region_held3 (fun w' => w'.cell? ⟨w1.heap.size, 0, none⟩ = some (.int .i64 (items.length : Nat)) ∧ w'.cell? ⟨w1.heap.size, 1, none⟩ = some (.slice a1 L c1) ∧ w'.cell? ⟨w1.heap.size, 2, none⟩ = some (.slice a2 L c2)) (exact KS)
            (first
              | (go_at_call 12; (with_reducible refine (HO1.out _ HB.out).mono ?_); rintro e w7 ⟨⟨v7, rfl, h7⟩, hb7⟩; obtain ⟨x7, y7, rfl, _, _⟩ := h7.shape; have hB7 := HB.out.trans (hb7.mono HB.out.size); (try (have h8' := H8.out.below hb7; clear H8; have H8 := Lib.hid h8'; clear h8')); have H7 := Lib.hid (h7.less (Nat.zero_le _)); clear h7 hb7 KS HB; have HB := Lib.hid hB7; clear hB7; have KS := HK.out _ HB.out)
              | (go_at_call 12; (with_reducible refine (HO2.out _ HB.out).mono ?_); rintro e w8 ⟨⟨v8, rfl, h8⟩, hb8⟩; obtain ⟨x8, y8, rfl, _, _⟩ := h8.shape; have hB8 := HB.out.trans (hb8.mono HB.out.size); (try (have h7' := H7.out.below hb8; clear H7; have H7 := Lib.hid h7'; clear h7')); have H8 := Lib.hid (h8.less (Nat.zero_le _)); clear h8 hb8 KS HB; have HB := Lib.hid hB8; clear hB8; have KS := HK.out _ HB.out))
          have hcl : (clsOf rc).length = L := by rw [clsOf, List.length_map, HL.out]
          have hle : (onlyC rc l).length ≤ L := by rw [← hcl]; exact only_len
          have hwi := rules_within Hok.out
          rw [← Hrc.out] at hwi
          have hr7 := H7.out.rows (by rw [hcl]; have := Hlen.out; omega) hwi.1
          have hr8 := H8.out.rows (by have := Hlen.out; omega) (fun c hc => hwi.1 c (only_mem hc))
          have HA7 := Lib.hid (allHold_any _ (clsOf rc) n _ hr7 hwi.2 Hn.out)
          have HA8 := Lib.hid (show ∀ w', Below _ _ w' → Calls Tryz.prog 13 #[.slice x8 (onlyC rc l).length y8, .int .u64 n] w' fun e w'' => e = .returned (.bool (allB n (onlyC rc l))) ∧ Below w'.heap.size w' w'' from fun w' hw => allHold_any _ (onlyC rc l) n w' (hr8.below hw) (fun c hc => hwi.2 c (only_mem hc)) Hn.out)
          obtain ⟨q0, q1, q2⟩ := KS
          obtain ⟨K, hK⟩ : ∃ K, K = (onlyC rc l).length := ⟨_, rfl⟩
          rw [hcl] at HA7 ⊢
          rw [← hK] at HA8 hle ⊢
          have Hless := Lib.hid (show allB n (clsOf rc) = true → allB n (onlyC rc l) = true from fun h => only_less h)
          obtain ⟨T1, hT1⟩ : ∃ T1, T1 = allB n (clsOf rc) := ⟨_, rfl⟩
          obtain ⟨T2, hT2⟩ : ∃ T2, T2 = allB n (onlyC rc l) := ⟨_, rfl⟩
          rw [← hT1] at HA7 Hless
          rw [← hT2] at HA8 Hless
          have e1 : ((L : Int) != (L : Int)) = false := by simp
          have e2 : decide ((L : Int) < (K : Int)) = false := by simp; omega
          have e2n : decide (L < K) = false := by simp; omega
          have e2p : ¬ L < K := by omega
          clear hcl hwi hr7 hr8 hK hT1 hT2 hle
          cases T1 with
          | false =>
            go_wp2_with fail
            refine HA7.out.mono ?_
            rintro e w9 ⟨rfl, hb9⟩
            have HB9 := Lib.hid (HB.out.trans (hb9.mono HB.out.size))
            clear hb9
            go_wp2_with fail
            go_ret
            exact ⟨rfl, Hbo.out.trans (HB9.out.mono Hbo.out.size)⟩
          | true =>
            have ht := Hless.out rfl
            subst ht
            go_wp2_with fail
            refine HA7.out.mono ?_
            rintro e w9 ⟨rfl, hb9⟩
            have HB9 := Lib.hid (HB.out.trans (hb9.mono HB.out.size)); have Hb9 := Lib.hid hb9
            clear hb9
            go_wp2_with fail
            refine (HA8.out _ Hb9.out).mono ?_
            rintro e w10 ⟨rfl, hb10⟩
            have HB10 := Lib.hid (HB9.out.trans (hb10.mono HB9.out.size))
            clear hb10
            go_wp2_with fail
            go_ret
            exact ⟨rfl, Hbo.out.trans (HB10.out.mono Hbo.out.size)⟩
  · have HB1 := Lib.hid (hb1.alloc hb1.size (.cells #[.int .i64 0, .slice none 0 0, .slice none 0 0] 28))
    clear hno hb1 HP
    obtain ⟨w2, hw2⟩ : ∃ w2, w2 = w1.alloc (.cells #[.int .i64 0, .slice none 0 0, .slice none 0 0] 28) := ⟨_, rfl⟩
    rw [← hw2] at HB1
    go_upto_region 2 with fail
    rw [← hw2]
    clear hw2
    go_wp2_with fail
    refine (HR.out _ HB1.out).mono ?_
    rintro e w3 ⟨rfl, hb3⟩
    have HB3 := Lib.hid (HB1.out.trans (hb3.mono HB1.out.size))
    clear hb3
    go_wp2_with fail
    refine (HR.out _ HB3.out).mono ?_
    rintro e w4 ⟨rfl, hb4⟩
    have HB4 := Lib.hid (HB3.out.trans (hb4.mono HB3.out.size))
    clear hb4
    go_wp2_with fail
    go_ret
    exact ⟨rfl, HB4.out⟩
end Go.Proofs.YtheemhelioendaaGreatDoor
