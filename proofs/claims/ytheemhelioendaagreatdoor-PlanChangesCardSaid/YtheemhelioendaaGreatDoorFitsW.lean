/- Contract: plan.Fits. (Printed by gen_fits.py.) -/
import Derived.Test.YtheemhelioendaaGreatDoorPlanH
import Derived.Test.YtheemhelioendaaGreatDoorFitM
import Derived.Deep.QuietTactic
import Derived.BigQuiet
namespace Go.Proofs.YtheemhelioendaaGreatDoor
open Go.RowKit
set_option linter.unusedVariables false

/-- What Fits says of a set of items. -/
def FitsP (ls : List LineM) (items : List ItemM) (set : Nat) (w : World) (e : Ending) (w' : World) : Prop :=
  (∃ n : Int, e = .returned (.tuple #[.bool (fitsB ls items set), .int .i64 n]) ∧ (n = -1 ↔ fitsB ls items set = true)) ∧ Below w.heap.size w w'
theorem pairsN_succ (items : List ItemM) (set n : Nat) : pairsN items set (n + 1) = (pairsN items set n && (List.range n).all fun k => pairB items set n k) := by
  unfold pairsN; rw [List.range_succ, List.all_append]; simp
theorem pairs_no {items : List ItemM} {set i k : Nat} (hk : k < i) (hi : i < items.length) (h : pairB items set i k = false) : pairsN items set items.length = false := by
  unfold pairsN
  rw [← Bool.not_eq_true, List.all_eq_true]
  intro q
  have h1 := q i (List.mem_range.2 hi)
  rw [List.all_eq_true] at h1
  have h2 := h1 k (List.mem_range.2 hk)
  rw [h] at h2; cases h2
theorem line_no {ls : List LineM} {items : List ItemM} {set : Nat} {x : LineM} (hx : x ∈ ls) (h : lineOk items set x = false) : fitsB ls items set = false := by
  unfold fitsB
  have : ls.all (lineOk items set) = false := by
    rw [← Bool.not_eq_true, List.all_eq_true]
    intro q
    rw [q x hx] at h; cases h
  rw [this, Bool.and_false]
theorem lineOk4 {items : List ItemM} {set : Nat} {x : LineM} (h : x.kind = 4) : lineOk items set x = someI set (amongM items x.name x.range) := by unfold lineOk; rw [if_pos h]
theorem lineOk2 {items : List ItemM} {set : Nat} {x : LineM} (h : x.kind = 2) : lineOk items set x = (!set.testBit (numM items x.item).toNat || someI set (amongM items x.other x.range)) := by unfold lineOk; rw [if_neg (by omega), if_pos h]
theorem lineOk3 {items : List ItemM} {set : Nat} {x : LineM} (h : x.kind = 3) : lineOk items set x = (!set.testBit (numM items x.item).toNat || !someI set (amongM items x.other x.range)) := by unfold lineOk; rw [if_neg (by omega), if_neg (by omega), if_pos h]
theorem lineOk0 {items : List ItemM} {set : Nat} {x : LineM} (h4 : x.kind ≠ 4) (h2 : x.kind ≠ 2) (h3 : x.kind ≠ 3) : lineOk items set x = true := by unfold lineOk; rw [if_neg h4, if_neg h2, if_neg h3]
theorem set_high {set n : Nat} (h : set < 2 ^ n) : (set : Int) / 2 ^ n = 0 := by
  have : (set : Int) / 2 ^ n = ((set / 2 ^ n : Nat) : Int) := by simp
  rw [this, Nat.div_eq_of_lt h]; rfl
set_option maxRecDepth 100000 in
set_option maxHeartbeats 32000000 in
theorem fits_any (p : Nat) (vl vi : Value) (ls : List LineM) (items : List ItemM) (set : Nat) (w : World) (h : CatAt w p vl vi ls items) (ho : CatOk ls items) (hs : set < 2 ^ items.length) : Calls Tryz.prog 16 #[.pointer (some ⟨p, 0, none⟩), .int .u64 set] w (FitsP ls items set w) := by
  have hn24 : items.length ≤ 24 := by rw [ho.perm.length_eq]; exact ho.most
  have hl100 := ho.few
  have hs64 : set < 18446744073709551616 := Nat.lt_of_lt_of_le hs (Nat.le_trans (Nat.pow_le_pow_right (by decide) hn24) (by decide))
  have hsh := set_high hs
  obtain ⟨wA, hwA⟩ : ∃ wA, wA = w.alloc (.cells #[.int .u64 set] 23) := ⟨_, rfl⟩
  have hbA : Below w.heap.size w wA := by rw [hwA]; exact (Below.refl _ _).alloc (Nat.le_refl _) _
  have hkA : wA.heap[w.heap.size]? = some (.cells #[.int .u64 set] 23 (0, 0)) := by rw [hwA]; exact heap_at rfl
  have HIt := Lib.hid (items_any p vl vi ls items wA (h.below hbA) (by omega))
  have HA := Lib.hid (h.below hbA); have HbA := Lib.hid hbA; have HkA := Lib.hid hkA; have Hok := Lib.hid ho; have Hs64 := Lib.hid hs64
  clear h hbA hkA ho hs hs64
  go_enter Tryz.func16, Tryz.ntmps16
  go_upto_region 1 with fail
  rw [← hwA]
  clear hwA
  go_wp2_with fail
  refine HIt.out.mono ?_
  rintro e w1 ⟨⟨v1, rfl, hit⟩, hb1⟩
  obtain ⟨ai, ci, rfl, hl1, hm1⟩ := RowG.shape hit
  have HX := Lib.hid (show ∀ w', Below w1.heap.size w1 w' → w'.cell? ⟨w.heap.size, 0, none⟩ = some (.int .u64 set) ∧ CatAt w' p vl vi ls items ∧ IsItems w' wA.heap.size (.slice ai items.length ci) items ∧ Below w.heap.size w w' from fun w' hw => by
    have hb := hb1.trans (hw.mono hb1.size)
    exact ⟨cell_of_one ((hb.block _ (lt_of_block HkA.out)).trans HkA.out), HA.out.below hb, IsItems.below hit hw, HbA.out.trans (hb.mono HbA.out.size)⟩)
  have hc1 := (HX.out w1 (Below.refl _ _)).1
  have HsA := Lib.hid (Nat.lt_of_lt_of_le (lt_of_block HkA.out) hb1.size)
  clear hit hb1 HIt HA HbA HkA
  go_wp2_with fail
  clear hc1
  go_loopg [23] items.length (fun gk i wr => ∃ k : Nat, k ≤ items.length ∧ gk = items.length - k ∧ i = .int .i64 k ∧ pairsN items set k = true ∧ Below w1.heap.size w1 wr)
  case atStart => exact ⟨0, Nat.zero_le _, rfl, rfl, rfl, Below.refl _ _⟩
  case round =>
    obtain ⟨k, hk, rfl, rfl, hpr, hbw⟩ := hrel
    obtain ⟨wo, rfl⟩ : ∃ y, y = wr := ⟨_, rfl⟩
    by_cases hlt : k < items.length
    · have hi : (k : Int) < (items.length : Int) := by omega
      obtain ⟨_, _, hito, _⟩ := HX.out wo hbw
      obtain ⟨g, rfl, hg, _⟩ := RowG.at hito (by omega)
      obtain ⟨c1, c2, c3, c4⟩ := hito.cells hlt
      obtain ⟨it, hite⟩ : ∃ it, it = itemAt items k := ⟨_, rfl⟩
      rw [← itemAt_get hlt, ← hite] at c1 c2 c3 c4
      obtain ⟨m, x, y, z⟩ := it
      simp only at c1 c2 c3 c4
      obtain ⟨wB, hwB⟩ : ∃ q, q = wo.alloc (.cells #[.string m, .int .i64 x, .int .i64 y, .int .i64 z] 61) := ⟨_, rfl⟩
      have hbB : Below wo.heap.size wo wB := by rw [hwB]; exact (Below.refl _ _).alloc (Nat.le_refl _) _
      have hkB : wB.heap[wo.heap.size]? = some (.cells #[.string m, .int .i64 x, .int .i64 y, .int .i64 z] 61 (0, 0)) := by rw [hwB]; exact heap_at rfl
      have Hite := Lib.hid hite; have HbB := Lib.hid (hbw.trans (hbB.mono hbw.size)); have HkB := Lib.hid hkB; have Hpr := Lib.hid hpr
      clear hbB hkB hito hite hbw hpr
      go_upto_region 7 with fail
      rw [← hwB]
      clear hwB c1 c2 c3 c4
      go_wp2_with fail
      go_loopg [29] k (fun gk i wr => ∃ j : Nat, j ≤ k ∧ gk = k - j ∧ i = .int .i64 j ∧ ((List.range j).all fun q => pairB items set k q) = true ∧ Below wB.heap.size wB wr)
      case atStart => exact ⟨0, Nat.zero_le _, rfl, rfl, rfl, Below.refl _ _⟩
      case round =>
        obtain ⟨j, hj, rfl, rfl, hal, hbi⟩ := hrel
        obtain ⟨wi, rfl⟩ : ∃ y, y = wr := ⟨_, rfl⟩
        by_cases hjl : j < k
        · have hji : (j : Int) < (k : Int) := by omega
          have hjn : (j : Int) < (items.length : Int) := by omega
          have hbx := HbB.out.trans (hbi.mono HbB.out.size)
          obtain ⟨hcs, _, hitj, _⟩ := HX.out wi hbx
          obtain ⟨c1, c2, c3, c4⟩ := hitj.cells (show j < items.length by omega)
          obtain ⟨b1, b2, b3, b4⟩ := cells4 ((hbi.block _ (lt_of_block HkB.out)).trans HkB.out)
          have hsu : ((List.range (j + 1)).all fun q => pairB items set k q) = (((List.range j).all fun q => pairB items set k q) && pairB items set k j) := by rw [List.range_succ, List.all_append]; simp
          have hpb : pairB items set k j = !(set.testBit k && set.testBit j && decide ((itemAt items j).1 = (itemAt items k).1)) := rfl
          rw [← Hite.out] at hpb
          obtain ⟨it2, hite2⟩ : ∃ it, it = itemAt items j := ⟨_, rfl⟩
          rw [← itemAt_get (show j < items.length by omega), ← hite2] at c1 c2 c3 c4
          rw [← hite2] at hpb
          obtain ⟨m2, x2, y2, z2⟩ := it2
          simp only at c1 c2 c3 c4 hpb
          have Hk := Lib.hid (fun w => (bitHas_any set k w Hs64.out).mono (fun e w' (h : e = .returned (.bool (set.testBit k)) ∧ w = w') => (⟨h.1, h.2.symm⟩ : e = .returned (.bool (set.testBit k)) ∧ w' = w)))
          have Hj := Lib.hid (fun w => (bitHas_any set j w Hs64.out).mono (fun e w' (h : e = .returned (.bool (set.testBit j)) ∧ w = w') => (⟨h.1, h.2.symm⟩ : e = .returned (.bool (set.testBit j)) ∧ w' = w)))
          obtain ⟨B1, hB1⟩ : ∃ B, B = set.testBit k := ⟨_, rfl⟩
          obtain ⟨B2, hB2⟩ : ∃ B, B = set.testBit j := ⟨_, rfl⟩
          rw [← hB1] at Hk hpb
          rw [← hB2] at Hj hpb
          obtain ⟨E, hE⟩ : ∃ E, E = decide (m2 = m) := ⟨_, rfl⟩
          rw [← hE] at hpb
          have tN : (m2.toList == m.toList) = E := by
            rw [hE]
            by_cases q : m2 = m
            · rw [decide_eq_true q, q]; simp
            · rw [decide_eq_false q, beq_eq_false_iff_ne]; exact fun e => q (toList_inj' e)
          have Hal := Lib.hid hal; have Hsu := Lib.hid hsu; have Hpb := Lib.hid hpb; have Hbi := Lib.hid hbi; have Hbx := Lib.hid hbx
          clear hal hsu hpb hbi hbx hitj hite2 hB1 hB2 hE
          go_upto_region 10 with fail
          cases B1 with
          | false =>
            go_quiet (first
              | (go_at_call 38; exact Calls.quiet_of_same (Hk.out _))
              | (go_at_call 38; exact Calls.quiet_of_same (Hj.out _)))
            go_wp2_with fail
            go_roundg (k - (j + 1))
            case measure => omega
            case rel => exact ⟨j + 1, by omega, rfl, by go_num, by rw [Hsu.out, Hal.out, Hpb.out]; rfl, below_drewN Hbi.out _⟩
          | true =>
            cases B2 with
            | false =>
              go_quiet (first
                | (go_at_call 38; exact Calls.quiet_of_same (Hk.out _))
                | (go_at_call 38; exact Calls.quiet_of_same (Hj.out _)))
              go_wp2_with fail
              go_roundg (k - (j + 1))
              case measure => omega
              case rel => exact ⟨j + 1, by omega, rfl, by go_num, by rw [Hsu.out, Hal.out, Hpb.out]; rfl, below_drewN Hbi.out _⟩
            | true =>
              cases E with
              | false =>
                go_quiet (first
                  | (go_at_call 38; exact Calls.quiet_of_same (Hk.out _))
                  | (go_at_call 38; exact Calls.quiet_of_same (Hj.out _)))
                go_wp2_with fail
                go_roundg (k - (j + 1))
                case measure => omega
                case rel => exact ⟨j + 1, by omega, rfl, by go_num, by rw [Hsu.out, Hal.out, Hpb.out]; rfl, below_drewN Hbi.out _⟩
              | true =>
                go_quiet (first
                  | (go_at_call 38; exact Calls.quiet_of_same (Hk.out _))
                  | (go_at_call 38; exact Calls.quiet_of_same (Hj.out _)))
                go_wp2_with fail
                go_ret2
                have hno : fitsB ls items set = false := by unfold fitsB; rw [pairs_no hjl hlt Hpb.out]; rfl
                refine ⟨⟨-2, by rw [hno]; rfl, ?_⟩, (HX.out _ (below_drewN Hbx.out _)).2.2.2⟩
                rw [hno]; decide
        · obtain rfl : j = k := by omega
          have Hal := Lib.hid hal; have Hbx := Lib.hid (HbB.out.trans (hbi.mono HbB.out.size))
          clear hal hbi
          go_wp2_with fail
          go_roundg (items.length - (j + 1))
          case measure => omega
          case rel => exact ⟨j + 1, by omega, rfl, by go_num, by rw [pairsN_succ, Hpr.out, Hal.out]; rfl, Hbx.out⟩
    · obtain rfl : k = items.length := by omega
      have HLi := Lib.hid (lines_any p vl vi ls items wo (HX.out _ hbw).2.1 (by omega))
      have Hpr := Lib.hid hpr; have Hbo := Lib.hid hbw
      clear hpr hbw hlt
      go_wp2_with fail
      refine HLi.out.mono ?_
      rintro e w4 ⟨⟨v4, rfl, hl4⟩, hb4⟩
      obtain ⟨al, cl, rfl, hll, hlm⟩ := hl4.row.shape
      have Hl4 := Lib.hid hl4; have HB4 := Lib.hid (Hbo.out.trans (hb4.mono Hbo.out.size))
      clear hl4 hb4 HLi
      go_wp2_with fail
      go_loopg [55] ls.length (fun gk i wr => ∃ k : Nat, k ≤ ls.length ∧ gk = ls.length - k ∧ i = .int .i64 k ∧ ((ls.take k).all (lineOk items set)) = true ∧ Below w4.heap.size w4 wr)
      case atStart => exact ⟨0, Nat.zero_le _, rfl, rfl, rfl, Below.refl _ _⟩
      case round =>
        obtain ⟨k, hk, rfl, rfl, hal, hbw⟩ := hrel
        obtain ⟨wo, rfl⟩ : ∃ y, y = wr := ⟨_, rfl⟩
        by_cases hlt : k < ls.length
        · have hi : (k : Int) < (ls.length : Int) := by omega
          have hlw := Hl4.out.below hbw
          obtain ⟨g, rfl, hg, _⟩ := hlw.row.at (by omega)
          obtain ⟨c0, c1, c2, c3, c4, c5, c6⟩ := hlw.cells hlt
          have hin := hlw.ins _ (List.getElem_mem hlt)
          have hsu : (ls.take (k + 1)).all (lineOk items set) = ((ls.take k).all (lineOk items set) && lineOk items set ls[k]) := by rw [List.take_succ_eq_append_getElem hlt, List.all_append]; simp
          obtain ⟨lx, hlx⟩ : ∃ lx, lx = ls[k] := ⟨_, rfl⟩
          have hmem : lx ∈ ls := by rw [hlx]; exact List.getElem_mem hlt
          rw [← hlx] at c0 c1 c2 c3 c4 c5 c6 hin hsu
          have hthere := Hok.out.there lx hmem
          obtain ⟨kd, nm, a, b, c, ot, rg, rv⟩ := lx
          have hrg := hin.rng
          simp only at c0 c1 c2 c3 c4 c5 c6 hrg hthere
          obtain ⟨ar, cr, rfl, _, _⟩ := hrg.shape
          obtain ⟨wB, hwB⟩ : ∃ q, q = wo.alloc (.cells #[.int .i64 kd, .string nm, .int .i64 a, .int .i64 b, .int .i64 c, .string ot, .slice ar rg.length cr] 51) := ⟨_, rfl⟩
          have hbB : Below wo.heap.size wo wB := by rw [hwB]; exact (Below.refl _ _).alloc (Nat.le_refl _) _
          have hkB : wB.heap[wo.heap.size]? = some (.cells #[.int .i64 kd, .string nm, .int .i64 a, .int .i64 b, .int .i64 c, .string ot, .slice ar rg.length cr] 51 (0, 0)) := by rw [hwB]; exact heap_at rfl
          have hbwB := hbw.trans (hbB.mono hbw.size)
          have hb1B := HB4.out.trans (hbwB.mono HB4.out.size)
          have HY := Lib.hid (show ∀ w', Below wB.heap.size wB w' → (w'.heap[wo.heap.size]? = some (.cells #[.int .i64 kd, .string nm, .int .i64 a, .int .i64 b, .int .i64 c, .string ot, .slice ar rg.length cr] 51 (0, 0))) ∧ IsSp w' (.slice ar rg.length cr) rg ∧ w'.cell? ⟨w.heap.size, 0, none⟩ = some (.int .u64 set) ∧ CatAt w' p vl vi ls items ∧ Below w4.heap.size w4 w' ∧ Below w.heap.size w w' from fun w' hw => by
            obtain ⟨q1, q2, q3, q4⟩ := HX.out w' (hb1B.trans (hw.mono hb1B.size))
            exact ⟨(hw.block _ (lt_of_block hkB)).trans hkB, (hrg.below hbB).below hw, q1, q2, hbwB.trans (hw.mono hbwB.size), q4⟩)
          have Hal := Lib.hid hal; have Hsu := Lib.hid hsu; have Hmem := Lib.hid hmem; have Hthere := Lib.hid hthere
          have hy := HY.out wB (Below.refl _ _)
          obtain ⟨k0, k1, k2, k3, k4, k5, k6⟩ := cells7 hy.1
          have hcs := hy.2.2.1
          have HAm := Lib.hid (among_any p vl vi (.slice ar rg.length cr) ls items ot rg wB hy.2.2.2.1 hy.2.1 (by omega))
          obtain ⟨am, ham⟩ : ∃ am, am = amongM items ot rg := ⟨_, rfl⟩
          have haml : am.length ≤ 24 := by rw [ham]; exact Nat.le_trans (amongN_len _ _ _ _) hn24
          rw [← ham] at HAm
          have Ham := Lib.hid ham
          clear hbB hkB hbwB hb1B hal hsu hmem hlw hin hrg hlx hbw hy ham hthere
          go_upto_region 17 with fail
          rw [← hwB]
          clear hwB c0 c1 c2 c3 c4 c5 c6
          go_wp2_with fail
          refine HAm.out.mono ?_
          rintro e w6 ⟨⟨v6, rfl, hz6⟩, hb6⟩
          obtain ⟨az6, cz6, rfl, hzl, hzm⟩ := RowG.shape hz6
          rw [List.length_map] at hz6
          have Hb6 := Lib.hid hb6
          have hy := HY.out w6 hb6
          have hcs6 := hy.2.2.1
          have HC := Lib.hid (some_any 41 _ am set w.heap.size wB.heap.size w6 hz6 (by omega) (by intro a w; go_simp) (fun x => fits1_any x set w.heap.size w6 Hs64.out hcs6))
          obtain ⟨S1, hS1⟩ : ∃ S1, S1 = someI set am := ⟨_, rfl⟩
          rw [← hS1] at HC
          have HS1 := Lib.hid hS1
          clear hz6 hb6 HAm k0 k1 k2 k3 k4 k5 k6 hcs hS1
          obtain ⟨k0, k1, k2, k3, k4, k5, k6⟩ := cells7 hy.1
          have HN := Lib.hid (number_at p 0 vl vi items nm a b c w6 hy.2.2.2.1.box hy.2.2.2.1.its)
          clear hy
          obtain ⟨NU, hNU⟩ : ∃ NU, NU = numM items (nm, a, b, c) := ⟨_, rfl⟩
          rw [← hNU] at HN
          have HNU := Lib.hid hNU; clear hNU
          go_wp2_with fail
          refine HC.out.mono ?_
          rintro e w7 ⟨rfl, rfl⟩
          go_wp2_with fail
          refine HN.out.mono ?_
          rintro e w8 ⟨rfl, hb8⟩
          have Hb8 := Lib.hid (Hb6.out.trans (hb8.mono Hb6.out.size))
          clear hb8 hcs6 HC HN k0 k1 k2 k3 k4 k5 k6 haml
          have hy := HY.out w8 Hb8.out
          have hcs := hy.2.2.1
          obtain ⟨k0, k1, k2, k3, k4, k5, k6⟩ := cells7 hy.1
          have Hy := Lib.hid hy
          clear hy
          by_cases hk2 : kd = 2
          · subst hk2
            obtain ⟨n0, hn0, hne, hn9⟩ := numM_in (Hok.out.perm.mem_iff.2 (Hthere.out (.inl rfl)))
            have hnn : NU = (n0 : Int) := HNU.out.trans hne
            subst hnn
            have HH := Lib.hid (bitHas_any set n0 w8 Hs64.out)
            have hlk : lineOk items set ⟨2, nm, a, b, c, ot, rg, .slice ar rg.length cr⟩ = (!set.testBit n0 || S1) := by rw [lineOk2 rfl, HS1.out, Ham.out]; show (!set.testBit (numM items (nm, a, b, c)).toNat || _) = _; rw [← HNU.out]; rfl
            obtain ⟨B, hB⟩ : ∃ B, B = set.testBit n0 := ⟨_, rfl⟩
            rw [← hB] at HH hlk
            have Hlk := Lib.hid hlk
            clear hlk hB hne hn9 hn0
            cases B with
            | false =>
              go_wp2_with fail
              refine HH.out.mono ?_
              rintro e w9 ⟨rfl, rfl⟩
              go_wp2_with fail
              go_roundg (ls.length - (k + 1))
              case measure => omega
              case rel => exact ⟨k + 1, by omega, rfl, by go_num, by rw [Hsu.out, Hal.out]; exact Hlk.out, (HY.out _ Hb8.out).2.2.2.2.1⟩
            | true =>
              cases S1 with
              | false =>
                go_wp2_with fail
                refine HH.out.mono ?_
                rintro e w9 ⟨rfl, rfl⟩
                go_wp2_with fail
                go_ret2
                have hno : fitsB ls items set = false := line_no Hmem.out (Hlk.out)
                refine ⟨⟨k, by rw [hno]; rfl, ?_⟩, (HY.out _ Hb8.out).2.2.2.2.2⟩
                rw [hno]
                constructor
                · intro q; omega
                · intro q; cases q
              | true =>
                go_wp2_with fail
                refine HH.out.mono ?_
                rintro e w9 ⟨rfl, rfl⟩
                go_wp2_with fail
                go_roundg (ls.length - (k + 1))
                case measure => omega
                case rel => exact ⟨k + 1, by omega, rfl, by go_num, by rw [Hsu.out, Hal.out]; exact Hlk.out, (HY.out _ Hb8.out).2.2.2.2.1⟩
          · have t2 : (kd == 2) = false := by rw [beq_eq_false_iff_ne]; exact hk2
            have Hk2 := Lib.hid hk2; clear hk2
            by_cases hk3 : kd = 3
            · subst hk3
              obtain ⟨n0, hn0, hne, hn9⟩ := numM_in (Hok.out.perm.mem_iff.2 (Hthere.out (.inr rfl)))
              have hnn : NU = (n0 : Int) := HNU.out.trans hne
              subst hnn
              have HH := Lib.hid (bitHas_any set n0 w8 Hs64.out)
              have hlk : lineOk items set ⟨3, nm, a, b, c, ot, rg, .slice ar rg.length cr⟩ = (!set.testBit n0 || !S1) := by rw [lineOk3 rfl, HS1.out, Ham.out]; show (!set.testBit (numM items (nm, a, b, c)).toNat || _) = _; rw [← HNU.out]; rfl
              obtain ⟨B, hB⟩ : ∃ B, B = set.testBit n0 := ⟨_, rfl⟩
              rw [← hB] at HH hlk
              have Hlk := Lib.hid hlk
              clear hlk hB hne hn9 hn0
              cases B with
              | false =>
                go_wp2_with fail
                refine HH.out.mono ?_
                rintro e w9 ⟨rfl, rfl⟩
                go_wp2_with fail
                go_roundg (ls.length - (k + 1))
                case measure => omega
                case rel => exact ⟨k + 1, by omega, rfl, by go_num, by rw [Hsu.out, Hal.out]; exact Hlk.out, (HY.out _ Hb8.out).2.2.2.2.1⟩
              | true =>
                cases S1 with
                | false =>
                  go_wp2_with fail
                  refine HH.out.mono ?_
                  rintro e w9 ⟨rfl, rfl⟩
                  go_wp2_with fail
                  go_roundg (ls.length - (k + 1))
                  case measure => omega
                  case rel => exact ⟨k + 1, by omega, rfl, by go_num, by rw [Hsu.out, Hal.out]; exact Hlk.out, (HY.out _ Hb8.out).2.2.2.2.1⟩
                | true =>
                  go_wp2_with fail
                  refine HH.out.mono ?_
                  rintro e w9 ⟨rfl, rfl⟩
                  go_wp2_with fail
                  go_ret2
                  have hno : fitsB ls items set = false := line_no Hmem.out (Hlk.out)
                  refine ⟨⟨k, by rw [hno]; rfl, ?_⟩, (HY.out _ Hb8.out).2.2.2.2.2⟩
                  rw [hno]
                  constructor
                  · intro q; omega
                  · intro q; cases q
            · have t3 : (kd == 3) = false := by rw [beq_eq_false_iff_ne]; exact hk3
              have Hk3 := Lib.hid hk3; clear hk3
              by_cases hk4 : kd = 4
              · subst hk4
                have HAm := Lib.hid (among_any p vl vi (.slice ar rg.length cr) ls items nm rg w8 Hy.out.2.2.2.1 Hy.out.2.1 (by omega))
                obtain ⟨an, han⟩ : ∃ an, an = amongM items nm rg := ⟨_, rfl⟩
                have hanl : an.length ≤ 24 := by rw [han]; exact Nat.le_trans (amongN_len _ _ _ _) hn24
                rw [← han] at HAm
                have Han := Lib.hid han; clear han
                go_wp2_with fail
                refine HAm.out.mono ?_
                rintro e w9 ⟨⟨v9, rfl, hz9⟩, hb9⟩
                obtain ⟨az9, cz9, rfl, _, _⟩ := RowG.shape hz9
                rw [List.length_map] at hz9
                have Hb9 := Lib.hid (Hb8.out.trans (hb9.mono Hb8.out.size))
                have hcs9 := (HY.out w9 Hb9.out).2.2.1
                have HC := Lib.hid (some_any 42 _ an set w.heap.size w8.heap.size w9 hz9 (by omega) (by intro a w; go_simp) (fun x => fits2_any x set w.heap.size w9 Hs64.out hcs9))
                have hlk : lineOk items set ⟨4, nm, a, b, c, ot, rg, .slice ar rg.length cr⟩ = someI set an := by rw [lineOk4 rfl, Han.out]
                obtain ⟨S4, hS4⟩ : ∃ S4, S4 = someI set an := ⟨_, rfl⟩
                rw [← hS4] at HC hlk
                have Hlk := Lib.hid hlk
                clear hz9 hb9 hS4 hlk hanl HAm
                cases S4 with
                | false =>
                  go_wp2_with fail
                  refine HC.out.mono ?_
                  rintro e wz ⟨rfl, rfl⟩
                  go_wp2_with fail
                  go_ret2
                  have hno : fitsB ls items set = false := line_no Hmem.out (Hlk.out)
                  refine ⟨⟨k, by rw [hno]; rfl, ?_⟩, (HY.out _ Hb9.out).2.2.2.2.2⟩
                  rw [hno]
                  constructor
                  · intro q; omega
                  · intro q; cases q
                | true =>
                  go_wp2_with fail
                  refine HC.out.mono ?_
                  rintro e wz ⟨rfl, rfl⟩
                  go_wp2_with fail
                  go_roundg (ls.length - (k + 1))
                  case measure => omega
                  case rel => exact ⟨k + 1, by omega, rfl, by go_num, by rw [Hsu.out, Hal.out]; exact Hlk.out, (HY.out _ Hb9.out).2.2.2.2.1⟩
              · have t4 : (kd == 4) = false := by rw [beq_eq_false_iff_ne]; exact hk4
                have Hk4 := Lib.hid hk4; clear hk4
                go_wp2_with fail
                go_roundg (ls.length - (k + 1))
                case measure => omega
                case rel => exact ⟨k + 1, by omega, rfl, by go_num, by rw [Hsu.out, Hal.out]; exact lineOk0 Hk4.out Hk2.out Hk3.out, (HY.out _ Hb8.out).2.2.2.2.1⟩
        · obtain rfl : k = ls.length := by omega
          rw [List.take_length] at hal
          have hyes : fitsB ls items set = true := by unfold fitsB; rw [Hpr.out, hal]; rfl
          have Hyes := Lib.hid hyes; have Hbw := Lib.hid (HX.out _ (HB4.out.trans (hbw.mono HB4.out.size))).2.2.2
          clear hal hyes hbw hlt
          go_wp2_with fail
          go_ret2
          refine ⟨⟨-1, by rw [Hyes.out]; rfl, ?_⟩, Hbw.out⟩
          rw [Hyes.out]; simp
end Go.Proofs.YtheemhelioendaaGreatDoor
