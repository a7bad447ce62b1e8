/- Contract: plan.leads. (Printed by gen_lead.py.) -/
import Derived.Test.YtheemhelioendaaGreatDoorPlanH
import Derived.Test.YtheemhelioendaaGreatDoorPlanM
import Derived.Deep.OwnRows
namespace Go.Proofs.YtheemhelioendaaGreatDoor
open Go.RowKit
set_option linter.unusedVariables false

theorem infoInts : (Tryz.prog.info? 26).map (fun i => (i.zero, i.size, i.bytes)) = some (some (.slice none 0 0), 1, 24) := by kernel_rfl
/-- Rows of ints in a row, each in a block of its own. -/
structure LeadI (base g n : Nat) (F : Nat → List Nat) (vs : List Value) (W : World) : Prop where
  box : W.heap[g]? = some (.cells vs.toArray 26 (0, 0))
  len : vs.length = n
  rows : ∀ i (h : i < vs.length), OutI W base vs[i] ((F i).map (fun k : Nat => (k : Int)))
  apart : ∀ i j (hi : i < vs.length) (hj : j < vs.length), i ≠ j → ∀ b, vs[i].ownBlock = some b → vs[j].ownBlock ≠ some b
theorem LeadI.below {base g n : Nat} {F : Nat → List Nat} {vs : List Value} {W W' : World} (h : LeadI base g n F vs W) (hb : Below W.heap.size W W') : LeadI base g n F vs W' :=
  ⟨(hb.block _ (lt_of_block h.box)).trans h.box, h.len, fun i hi => RowG.below (h.rows i hi) hb, h.apart⟩
theorem LeadI.congr {base g n : Nat} {F F' : Nat → List Nat} {vs : List Value} {W : World} (h : LeadI base g n F vs W) (e : ∀ i, i < n → F i = F' i) : LeadI base g n F' vs W :=
  ⟨h.box, h.len, fun i hi => by rw [← e i (by rw [← h.len]; exact hi)]; exact h.rows i hi, h.apart⟩
theorem LeadI.made {base n : Nat} {W : World} {g : Nat} (hb : W.heap[g]? = some (.cells (madeCells #[.slice none 0 0] n) 26 (0, 0))) : LeadI base g n (fun _ => []) (List.replicate n (.slice none 0 0)) W := by
  refine ⟨?_, List.length_replicate, fun i hi => ?_, fun i j hi hj _ b e => ?_⟩
  · rw [hb]
    congr 2
    apply Array.toList_inj.1
    rw [toList_madeCells_one]
  · rw [List.getElem_replicate]; exact RowG.nil _ _ _ _ _
  · rw [List.getElem_replicate] at e; cases e
theorem LeadI.cell {base g n : Nat} {F : Nat → List Nat} {vs : List Value} {W : World} (h : LeadI base g n F vs W) {i : Nat} (hi : i < vs.length) : W.cell? ⟨g, i, none⟩ = some vs[i] ∧ W.frozen? ⟨g, i, none⟩ = false ∧ g < W.heap.size := by
  refine ⟨?_, by simp [World.frozen?, h.box], lt_of_block h.box⟩
  rw [cell_of_row _ _ _ _ _ _ h.box]; simp [hi]
theorem LeadI.ne {base g n : Nat} {F : Nat → List Nat} {vs : List Value} {W : World} (h : LeadI base g n F vs W) {i : Nat} (hi : i < vs.length) : vs[i].ownBlock ≠ some g := fun e => by
  obtain ⟨cur, e2⟩ := RowG.ty (h.rows i hi) _ e
  rw [h.box] at e2; simp at e2
theorem LeadI.step {base g n : Nat} {F : Nat → List Nat} {vs : List Value} {W w9 : World} (h : LeadI base g n F vs W) {own : Nat} (ho : own < vs.length) {g9 l9 c9 : Nat} {q : Nat}
    (hr : OutI w9 base (.slice (some ⟨g9, 0, none⟩) l9 c9) ((F own).map (fun k : Nat => (k : Int)) ++ [(q : Int)])) (hk : ∀ j, j < W.heap.size → vs[own].ownBlock ≠ some j → w9.heap[j]? = W.heap[j]?) (hg : vs[own].ownBlock = some g9 ∨ W.heap.size ≤ g9) :
    LeadI base g n (fun i => if i = own then F own ++ [q] else F i) (vs.set own (.slice (some ⟨g9, 0, none⟩) l9 c9)) (w9.setCell ⟨g, own, none⟩ (.slice (some ⟨g9, 0, none⟩) l9 c9)) := by
  have hbx := (hk g (lt_of_block h.box) (h.ne ho)).trans h.box
  have hkT : KeepT 3 w9 (w9.setCell ⟨g, own, none⟩ (.slice (some ⟨g9, 0, none⟩) l9 c9)) := .set hbx (by decide) _ _
  refine ⟨?_, by rw [List.length_set]; exact h.len, fun i hi => ?_, fun i j hi hj hne b e e2 => ?_⟩
  · rw [heap_set hbx own _]; simp
  · rw [List.length_set] at hi
    rw [List.getElem_set]
    by_cases e : own = i
    · subst e
      rw [if_pos rfl, if_pos rfl, List.map_append]
      exact RowG.keepT hr hkT
    · rw [if_neg e, if_neg (fun q => e q.symm)]
      exact RowG.keepT (RowG.keep (h.rows i hi) (fun b hb => hk b (RowG.lt (h.rows i hi) hb).2 (h.apart i own hi ho (fun q => e q.symm) b hb))) hkT
  · rw [List.length_set] at hi hj
    rw [List.getElem_set] at e e2
    by_cases e3 : own = i
    · rw [if_pos e3] at e
      rw [if_neg (fun q => hne (e3.symm.trans q))] at e2
      have e4 : g9 = b := by simpa [Value.ownBlock] using e
      rcases hg with q | q
      · exact h.apart own j ho hj (fun q => hne (e3.symm.trans q)) b (by rw [q, e4]) e2
      · have := (RowG.lt (h.rows j hj) e2).2; omega
    · rw [if_neg e3] at e
      by_cases e5 : own = j
      · rw [if_pos e5] at e2
        have e4 : g9 = b := by simpa [Value.ownBlock] using e2
        rcases hg with q | q
        · exact h.apart i own hi ho (fun q => e3 q.symm) b e (by rw [q, e4])
        · have := (RowG.lt (h.rows i hi) e).2; omega
      · rw [if_neg e5] at e2
        exact h.apart i j hi hj hne b e e2
/-- What is of another type stays. -/
theorem LeadI.keepT {T : TypeId} {base g n : Nat} {F : Nat → List Nat} {vs : List Value} {W w9 : World} (h : LeadI base g n F vs W) {own : Nat} (ho : own < vs.length) (v9 : Value) (hT1 : T ≠ 3) (hT2 : T ≠ 26)
    (hk : ∀ j, j < W.heap.size → vs[own].ownBlock ≠ some j → w9.heap[j]? = W.heap[j]?) : KeepT T W (w9.setCell ⟨g, own, none⟩ v9) :=
  (KeepT.grow hk (RowG.ty (h.rows own ho)) hT1).trans (KeepT.set ((hk g (lt_of_block h.box) (h.ne ho)).trans h.box) hT2 _ _)
theorem leadN_skip {items : List ItemM} {set i : Nat} {x : LineM} (h : x.kind ≠ 2 ∨ ∀ n : Nat, numM items x.item = n → set.testBit n = false) : leadN items set i x = [] := by
  unfold leadN
  rw [if_neg]
  rintro ⟨h1, h2, h3⟩
  rcases h with h | h
  · exact h h1
  · rw [h i h2] at h3; cases h3
theorem leadN_own {items : List ItemM} {set i n0 : Nat} {x : LineM} (h1 : x.kind = 2) (h2 : numM items x.item = n0) (h3 : set.testBit n0 = true) : leadN items set i x = if i = n0 then (amongM items x.other x.range).filter (fun k => set.testBit k && decide (k ≠ n0)) else [] := by
  unfold leadN
  by_cases e : i = n0
  · subst e; rw [if_pos ⟨h1, h2, h3⟩, if_pos rfl]
  · rw [if_neg e, if_neg]
    rintro ⟨_, h, _⟩
    rw [h2] at h
    exact e (by omega)
theorem filter_take_succ {α : Type} (p : α → Bool) (l : List α) {j : Nat} (h : j < l.length) : (l.take (j + 1)).filter p = (l.take j).filter p ++ if p l[j] = true then [l[j]] else [] := by
  rw [List.take_succ_eq_append_getElem h, List.filter_append]
  congr 1
  by_cases e : p l[j] = true <;> simp [e]
set_option maxRecDepth 100000 in
set_option maxHeartbeats 32000000 in
theorem leads_any (p : Nat) (vl vi : Value) (ls : List LineM) (items : List ItemM) (set : Nat) (w : World) (h : CatAt w p vl vi ls items) (ho : CatOk ls items) (hs64 : set < 18446744073709551616) :
    Calls Tryz.prog 37 #[.pointer (some ⟨p, 0, none⟩), .int .u64 set] w fun e w' => (∃ g vs, e = .returned (.slice (some ⟨g, 0, none⟩) items.length items.length) ∧ LeadI w.heap.size g items.length (leadsM items set ls) vs w' ∧ w.heap.size ≤ g) ∧ Below w.heap.size w w' := by
  have hn24 : items.length ≤ 24 := by rw [ho.perm.length_eq]; exact ho.most
  have hl100 := ho.few
  have HIt := Lib.hid (items_any p vl vi ls items w h (by omega))
  have HA := Lib.hid h; have Hok := Lib.hid ho; have Hs64 := Lib.hid hs64
  clear h ho hs64
  go_enter Tryz.func37, Tryz.ntmps37
  go_wp2_with fail
  refine HIt.out.mono ?_
  rintro e w1 ⟨⟨v1, rfl, hit⟩, hb1⟩
  obtain ⟨ai, ci, rfl, hl1, hm1⟩ := RowG.shape hit
  have hm2 := run_make_row' (P := Tryz.prog) 87 26 (.slice none 0 0) 24 Tryz.underlying87 infoInts rfl .i64 .i64 items.length (by omega) (by omega)
  obtain ⟨w2, hw2⟩ : ∃ w2, w2 = w1.alloc (.cells (madeCells #[.slice none 0 0] items.length) 26) := ⟨_, rfl⟩
  have hb2 : Below w1.heap.size w1 w2 := by rw [hw2]; exact (Below.refl _ _).alloc (Nat.le_refl _) _
  have hI2 : LeadI w.heap.size w1.heap.size items.length (fun _ => []) (List.replicate items.length (.slice none 0 0)) w2 := .made (by rw [hw2]; exact heap_at rfl)
  have HI2 := Lib.hid hI2; have HB2 := Lib.hid (hb1.trans (hb2.mono hb1.size)); have Hw1 := Lib.hid hb1.size
  have HLi := Lib.hid (lines_any p vl vi ls items w2 (HA.out.below (hb1.trans (hb2.mono hb1.size))) (by omega))
  clear hit hb1 hb2 hI2 HIt
  obtain ⟨g, hg⟩ : ∃ g, g = w1.heap.size := ⟨_, rfl⟩
  rw [← hg] at HI2
  have Hg := Lib.hid hg
  go_upto_region 2 with fail
  rw [← hw2, ← hg]
  clear hw2 hm2 hg
  go_wp2_with fail
  refine HLi.out.mono ?_
  rintro e w4 ⟨⟨v4, rfl, hl4⟩, hb4⟩
  obtain ⟨al, cl, rfl, hll, hlm⟩ := hl4.row.shape
  have Hl4 := Lib.hid hl4; have HI4 := Lib.hid (HI2.out.below hb4); have HB4 := Lib.hid (HB2.out.trans (hb4.mono HB2.out.size))
  clear hl4 hb4 HLi HI2
  go_wp2_with fail
  go_loopg [18] ls.length (fun gk i wr => ∃ (k : Nat) (vs : List Value), k ≤ ls.length ∧ gk = ls.length - k ∧ i = .int .i64 k ∧ LeadI w.heap.size g items.length (leadsM items set (ls.take k)) vs wr ∧ KeepT 51 w4 wr ∧ KeepT 115 w4 wr ∧ Below w.heap.size w wr)
  case atStart => exact ⟨0, _, Nat.zero_le _, rfl, rfl, HI4.out, KeepT.refl _ _, KeepT.refl _ _, HB4.out⟩
  case round =>
    obtain ⟨k, vs, hk, rfl, rfl, hJ, hT1, hT2, hbw⟩ := hrel
    obtain ⟨wo, rfl⟩ : ∃ y, y = wr := ⟨_, rfl⟩
    by_cases hlt : k < ls.length
    · have hi : (k : Int) < (ls.length : Int) := by omega
      have hlw := Hl4.out.keepT hT2 hT1
      obtain ⟨gl, rfl, hgl, _⟩ := hlw.row.at (by omega)
      obtain ⟨c0, c1, c2, c3, c4, c5, c6⟩ := hlw.cells hlt
      have hin := hlw.ins _ (List.getElem_mem hlt)
      have hsu := fun i => leadsM_take items set ls i k hlt
      obtain ⟨lx, hlx⟩ : ∃ lx, lx = ls[k] := ⟨_, rfl⟩
      have hmem : lx ∈ ls := by rw [hlx]; exact List.getElem_mem hlt
      rw [← hlx] at c0 c1 c2 c3 c4 c5 c6 hin hsu
      have hthere := Hok.out.there lx hmem
      obtain ⟨kd, nm, a, b, c, ot, rg, rv⟩ := lx
      have hrg := hin.rng
      simp only at c0 c1 c2 c3 c4 c5 c6 hrg hthere
      obtain ⟨ar, cr, rfl, _, _⟩ := hrg.shape
      obtain ⟨wB, hwB⟩ : ∃ q, q = wo.alloc (.cells #[.int .i64 kd, .string nm, .int .i64 a, .int .i64 b, .int .i64 c, .string ot, .slice ar rg.length cr] 51) := ⟨_, rfl⟩
      have hbB : Below wo.heap.size wo wB := by rw [hwB]; exact (Below.refl _ _).alloc (Nat.le_refl _) _
      have hkB : wB.heap[wo.heap.size]? = some (.cells #[.int .i64 kd, .string nm, .int .i64 a, .int .i64 b, .int .i64 c, .string ot, .slice ar rg.length cr] 51 (0, 0)) := by rw [hwB]; exact heap_at rfl
      obtain ⟨k0, k1, k2, k3, k4, k5, k6⟩ := cells7 hkB
      have hcB := HA.out.below (hbw.trans (hbB.mono hbw.size))
      have HN := Lib.hid (number_at p 0 vl vi items nm a b c wB hcB.box hcB.its)
      obtain ⟨NU, hNU⟩ : ∃ NU, NU = numM items (nm, a, b, c) := ⟨_, rfl⟩
      rw [← hNU] at HN
      have HNU := Lib.hid hNU; clear hNU
      have HJ := Lib.hid (hJ.below hbB); have HkB := Lib.hid hkB; have HrB := Lib.hid (hrg.below hbB); have HT1 := Lib.hid (hT1.trans (.below hbB)); have HT2 := Lib.hid (hT2.trans (.below hbB)); have Hbw := Lib.hid (hbw.trans (hbB.mono hbw.size)); have Hsu := Lib.hid hsu; have Hthere := Lib.hid hthere
      clear hJ hbB hkB hrg hT1 hT2 hbw hsu hthere hlw hin hlx hmem hcB
      go_upto_region 5 with fail
      rw [← hwB]
      clear hwB c0 c1 c2 c3 c4 c5 c6
      go_wp2_with fail
      refine HN.out.mono ?_
      rintro e w5 ⟨rfl, hb5⟩
      have hk5 := (hb5.block _ (lt_of_block HkB.out)).trans HkB.out
      have HJ5 := Lib.hid (HJ.out.below hb5); have Hr5 := Lib.hid (HrB.out.below hb5); have HT15 := Lib.hid (HT1.out.trans (.below hb5)); have HT25 := Lib.hid (HT2.out.trans (.below hb5)); have Hb5 := Lib.hid (Hbw.out.trans (hb5.mono Hbw.out.size))
      clear k0 k1 k2 k3 k4 k5 k6 HJ HrB HT1 HT2 Hbw HN HkB hb5
      obtain ⟨k0, k1, k2, k3, k4, k5, k6⟩ := cells7 hk5
      clear hk5
      by_cases hk2 : kd = 2
      · subst hk2
        obtain ⟨n0, hn0, hne, hn9⟩ := numM_in (Hok.out.perm.mem_iff.2 (Hthere.out (.inl rfl)))
        have hnn : NU = (n0 : Int) := HNU.out.trans hne
        subst hnn
        have HH := Lib.hid (bitHas_any set n0 w5 Hs64.out)
        obtain ⟨B, hB⟩ : ∃ B, B = set.testBit n0 := ⟨_, rfl⟩
        rw [← hB] at HH
        have HBt := Lib.hid hB; have Hn0 := Lib.hid hn0
        clear hB hne hn9 hn0
        cases B with
        | false =>
          go_wp2_with fail
          refine HH.out.mono ?_
          rintro e w6 ⟨rfl, rfl⟩
          go_wp2_with fail
          go_roundg (ls.length - (k + 1))
          case measure => omega
          case rel => exact ⟨k + 1, vs, by omega, rfl, by go_num, HJ5.out.congr (fun i _ => by rw [Hsu.out, leadN_skip (.inr (fun n hn => by have e : n0 = n := (by have h1 := HNU.out; have h2 : ((n0 : Nat) : Int) = (n : Nat) := h1.trans hn; omega); rw [← e]; exact HBt.out.symm)), List.append_nil]), HT15.out, HT25.out, Hb5.out⟩
        | true =>
          have hlo : ∀ i, leadsM items set (ls.take (k + 1)) i = leadsM items set (ls.take k) i ++ if i = n0 then (amongM items ot rg).filter (fun q => set.testBit q && decide (q ≠ n0)) else [] := fun i => by rw [Hsu.out i, leadN_own rfl HNU.out.symm HBt.out.symm]
          have HAm := Lib.hid (among_any p vl vi (.slice ar rg.length cr) ls items ot rg w5 (HA.out.below Hb5.out) Hr5.out (by omega))
          obtain ⟨am, ham⟩ : ∃ am, am = amongM items ot rg := ⟨_, rfl⟩
          have haml : am.length ≤ 24 := by rw [ham]; exact Nat.le_trans (amongN_len _ _ _ _) hn24
          have hamlt : ∀ q ∈ am, q < 24 := fun q hq => by rw [ham] at hq; have := amongM_lt hq; omega
          rw [← ham] at HAm hlo
          have Hlo := Lib.hid hlo; have Hamlt := Lib.hid hamlt
          clear ham hlo hamlt
          have hlead : ∀ i, (leadsM items set (ls.take k) i).length ≤ 2400 := fun i => by
            have h1 := leadsM_len items set i (ls.take k)
            have h2 : (ls.take k).length * items.length ≤ 100 * 24 := Nat.mul_le_mul (by rw [List.length_take]; omega) hn24
            omega
          have Hlead := Lib.hid hlead; clear hlead
          go_wp2_with fail
          refine HH.out.mono ?_
          rintro e w6 ⟨rfl, rfl⟩
          go_wp2_with fail
          refine HAm.out.mono ?_
          rintro e w6 ⟨⟨v6, rfl, hz6⟩, hb6⟩
          obtain ⟨az6, cz6, rfl, hzl, hzm⟩ := RowG.shape hz6
          have HJ6 := Lib.hid (HJ5.out.below hb6); have HT16 := Lib.hid (HT15.out.trans (.below hb6)); have HT26 := Lib.hid (HT25.out.trans (.below hb6)); have Hb6 := Lib.hid (Hb5.out.trans (hb6.mono Hb5.out.size)); have Hz6 := Lib.hid hz6
          have Hap6 := Lib.hid (show ∀ b, (Value.slice az6 (am.map (fun k : Nat => (k : Int))).length cz6).ownBlock = some b → ∀ i (h : i < vs.length), vs[i].ownBlock ≠ some b from fun b e i h e2 => by
            have h1 := (RowG.lt (HJ5.out.rows i h) e2).2
            have h2 := (RowG.lt hz6 e).1
            omega)
          clear hz6 hb6 HAm k0 k1 k2 k3 k4 k5 k6 HH
          obtain ⟨L, hL⟩ : ∃ L, L = (am.map (fun k : Nat => (k : Int))).length := ⟨_, rfl⟩
          rw [← hL] at Hz6 Hap6 ⊢
          have hLa : L = am.length := by rw [hL, List.length_map]
          have HLa := Lib.hid hLa; clear hL
          go_wp2_with fail
          go_loopg [44] L (fun gk i wr => ∃ (j : Nat) (vs' : List Value), j ≤ L ∧ gk = L - j ∧ i = .int .i64 j ∧ LeadI w.heap.size g items.length (fun i => leadsM items set (ls.take k) i ++ if i = n0 then (am.take j).filter (fun q => set.testBit q && decide (q ≠ n0)) else []) vs' wr ∧ KeepT 51 w4 wr ∧ KeepT 115 w4 wr ∧ Below w.heap.size w wr ∧ OutI wr w5.heap.size (.slice az6 L cz6) (am.map (fun k : Nat => (k : Int))) ∧ ∀ b, (Value.slice az6 L cz6).ownBlock = some b → ∀ i (h : i < vs'.length), vs'[i].ownBlock ≠ some b)
          case atStart => exact ⟨0, vs, Nat.zero_le _, rfl, rfl, HJ6.out.congr (fun i _ => by simp), HT16.out, HT26.out, Hb6.out, Hz6.out, Hap6.out⟩
          case round =>
            obtain ⟨j, vs2, hj, rfl, rfl, hK, hU1, hU2, hbi, hz, hap⟩ := hrel
            obtain ⟨wi, rfl⟩ : ∃ y, y = wr := ⟨_, rfl⟩
            by_cases hjl : j < L
            · have hji : (j : Int) < (L : Int) := by omega
              have hjm : j < am.length := by omega
              obtain ⟨gz, rfl, hgz, _⟩ := RowG.at hz (by rw [List.length_map]; omega)
              have hc := RowG.cell (enc := encInt) (z := 1) (fun _ => rfl) hz (k := j) (by rw [List.length_map]; exact hjm) (j := 0) (by decide) rfl
              rw [Nat.mul_one, Nat.add_zero, List.getElem_map] at hc
              have hfs := filter_take_succ (fun q => set.testBit q && decide (q ≠ n0)) am hjm
              have hq := Hamlt.out am[j] (List.getElem_mem hjm)
              obtain ⟨q, hqe⟩ : ∃ q, q = am[j] := ⟨_, rfl⟩
              rw [← hqe] at hc hfs hq
              have HH2 := Lib.hid (bitHas_any set q wi Hs64.out)
              obtain ⟨B2, hB2⟩ : ∃ B, B = set.testBit q := ⟨_, rfl⟩
              rw [← hB2] at HH2 hfs
              obtain ⟨E, hE⟩ : ∃ E, E = decide (q ≠ n0) := ⟨_, rfl⟩
              rw [← hE] at hfs
              have tE : ((q : Int) != (n0 : Int)) = E := by
                rw [hE]
                by_cases e : q = n0
                · subst e; simp
                · have e2 : ¬ (q : Int) = (n0 : Int) := by omega
                  rw [decide_eq_true e, bne_iff_ne]; exact e2
              have hvl : n0 < vs2.length := by rw [hK.len]; exact Hn0.out
              obtain ⟨cl0, cl1, cl2⟩ := hK.cell hvl
              obtain ⟨v0, hv0⟩ : ∃ v0, v0 = vs2[n0] := ⟨_, rfl⟩
              have hrow := hK.rows n0 hvl
              rw [if_pos rfl, ← hv0] at hrow
              obtain ⟨row, hrw⟩ : ∃ row, row = (leadsM items set (ls.take k) n0 ++ (am.take j).filter (fun q => set.testBit q && decide (q ≠ n0))).map (fun k : Nat => (k : Int)) := ⟨_, rfl⟩
              rw [← hrw] at hrow
              obtain ⟨ao, co, rfl, hro1, hro2⟩ := RowG.shape hrow
              rw [← hv0] at cl0
              have hrl : row.length ≤ 10000 := by
                rw [hrw, List.length_map, List.length_append]
                have h1 := Hlead.out n0
                have h2 := List.length_filter_le (fun q => set.testBit q && decide (q ≠ n0)) (am.take j)
                rw [List.length_take] at h2
                omega
              have hn0i : (n0 : Int) < (items.length : Int) := by have := Hn0.out; omega
              have HK := Lib.hid hK; have HU1 := Lib.hid hU1; have HU2 := Lib.hid hU2; have Hbi := Lib.hid hbi; have Hz := Lib.hid hz; have Hap := Lib.hid hap; have Hfs := Lib.hid hfs; have Hrow := Lib.hid hrow; have Hrw := Lib.hid hrw; have Hv0 := Lib.hid hv0; have Hvl := Lib.hid hvl
              clear hK hU1 hU2 hbi hz hap hfs hrow hrw hv0 hqe hB2 hE hjm HJ6 HT16 HT26 Hb6 Hz6 Hap6
              cases B2 with
              | false =>
                go_wp2_with fail
                refine HH2.out.mono ?_
                rintro e w7 ⟨rfl, rfl⟩
                go_wp2_with fail
                go_roundg (L - (j + 1))
                case measure => omega
                case rel => exact ⟨j + 1, vs2, by omega, rfl, by go_num, HK.out.congr (fun i _ => by rw [Hfs.out]; simp), HU1.out, HU2.out, Hbi.out, Hz.out, Hap.out⟩
              | true =>
                cases E with
                | false =>
                  go_wp2_with fail
                  refine HH2.out.mono ?_
                  rintro e w7 ⟨rfl, rfl⟩
                  go_wp2_with fail
                  go_roundg (L - (j + 1))
                  case measure => omega
                  case rel => exact ⟨j + 1, vs2, by omega, rfl, by go_num, HK.out.congr (fun i _ => by rw [Hfs.out]; simp), HU1.out, HU2.out, Hbi.out, Hz.out, Hap.out⟩
                | true =>
                  go_wp2_with fail
                  refine HH2.out.mono ?_
                  rintro e w7 ⟨rfl, rfl⟩
                  go_wp2_with (at_builtin; refine wpList_append_L rfl (.tmp 61) (.tmp 63) rfl w.heap.size (.slice ao row.length co) row rfl Hrow.out q _ rfl rfl (by omega) Hbi.out.size ?_; intro g9 c9 w9 ho9 hb9 hk9 hg9; have hk9' : ∀ j, j < wi.heap.size → (vs2[n0]'Hvl.out).ownBlock ≠ some j → w9.heap[j]? = wi.heap[j]? := (by rw [← Hv0.out]; exact hk9); have hx9 := (hk9' g (lt_of_block HK.out.box) (HK.out.ne Hvl.out)).trans HK.out.box; have cl3 : w9.cell? ⟨g, n0, none⟩ = some (.slice ao row.length co) := (by rw [cell_of_row _ _ _ _ _ _ hx9, List.getElem?_toArray, List.getElem?_eq_getElem Hvl.out, ← Hv0.out]); have cl4 : w9.frozen? ⟨g, n0, none⟩ = false := (by simp [World.frozen?, hx9]); have cl5 := lt_of_block hx9; have Ho9 := Lib.hid ho9; have Hb9 := Lib.hid hb9; have Hk9 := Lib.hid hk9'; have Hg9 := Lib.hid hg9; have Hx9 := Lib.hid hx9; clear ho9 hb9 hk9 hk9' hg9 hx9)
                  have hg9 := Hg9.out
                  rw [Hv0.out] at hg9
                  have hst := HK.out.step Hvl.out (q := q) (g9 := g9) (l9 := row.length + 1) (c9 := c9) (by simp only [if_true]; rw [← Hrw.out]; exact Ho9.out) Hk9.out hg9
                  have hst2 := hst.congr (F' := fun i => leadsM items set (ls.take k) i ++ if i = n0 then (am.take (j + 1)).filter (fun q => set.testBit q && decide (q ≠ n0)) else []) (fun i _ => by rw [Hfs.out]; by_cases e : i = n0 <;> simp [e])
                  have hz9 : OutI w9 w5.heap.size _ _ := RowG.keep Hz.out (fun b e => Hk9.out b (RowG.lt Hz.out e).2 (Hap.out b e n0 Hvl.out))
                  have hz10 := RowG.keepT hz9 (KeepT.set (T := 3) Hx9.out (by decide) n0 (.slice (some ⟨g9, 0, none⟩) (row.length + 1) c9))
                  have hu1 := HU1.out.trans (HK.out.keepT Hvl.out (.slice (some ⟨g9, 0, none⟩) (row.length + 1) c9) (by decide) (by decide) Hk9.out)
                  have hu2 := HU2.out.trans (HK.out.keepT Hvl.out (.slice (some ⟨g9, 0, none⟩) (row.length + 1) c9) (by decide) (by decide) Hk9.out)
                  go_roundg (L - (j + 1))
                  case measure => omega
                  case rel => exact ⟨j + 1, vs2.set n0 (.slice (some ⟨g9, 0, none⟩) (row.length + 1) c9), by omega, rfl, by go_num, hst2, hu1, hu2, (Hbi.out.trans Hb9.out).setCell (p := ⟨g, n0, none⟩) (by have h1 := Hw1.out; have h2 := Hg.out; show w.heap.size ≤ g; omega) _, hz10, fun b e i hi e2 => by
                    rw [List.length_set] at hi
                    rw [List.getElem_set] at e2
                    by_cases e3 : n0 = i
                    · rw [if_pos e3] at e2
                      have e4 : g9 = b := by simpa [Value.ownBlock] using e2
                      rcases hg9 with q | q
                      · exact Hap.out b e n0 Hvl.out (by rw [q, e4])
                      · have := (RowG.lt Hz.out e).2; omega
                    · rw [if_neg e3] at e2; exact Hap.out b e i hi e2⟩
            · obtain rfl : j = L := by omega
              have HK := Lib.hid hK; have HU1 := Lib.hid hU1; have HU2 := Lib.hid hU2; have Hbi := Lib.hid hbi
              clear hK hU1 hU2 hbi hz hap HJ6 HT16 HT26 Hb6 Hz6 Hap6
              go_wp2_with fail
              go_roundg (ls.length - (k + 1))
              case measure => omega
              case rel => exact ⟨k + 1, vs2, by omega, rfl, by go_num, HK.out.congr (fun i _ => by rw [Hlo.out, show am.take j = am by rw [HLa.out]; exact List.take_length]), HU1.out, HU2.out, Hbi.out⟩
      · have t2 : (kd != 2) = true := by rw [bne_iff_ne]; exact hk2
        have Hk2 := Lib.hid hk2; clear hk2
        go_wp2_with fail
        go_roundg (ls.length - (k + 1))
        case measure => omega
        case rel => exact ⟨k + 1, vs, by omega, rfl, by go_num, HJ5.out.congr (fun i _ => by rw [Hsu.out, leadN_skip (.inl Hk2.out), List.append_nil]), HT15.out, HT25.out, Hb5.out⟩
    · obtain rfl : k = ls.length := by omega
      rw [List.take_length] at hJ
      have HJ := Lib.hid hJ; have Hbw := Lib.hid hbw
      clear hJ hT1 hT2 hbw hlt
      go_wp2_with fail
      go_ret
      exact ⟨⟨g, vs, rfl, HJ.out, by have h1 := Hw1.out; have h2 := Hg.out; omega⟩, Hbw.out⟩
end Go.Proofs.YtheemhelioendaaGreatDoor
