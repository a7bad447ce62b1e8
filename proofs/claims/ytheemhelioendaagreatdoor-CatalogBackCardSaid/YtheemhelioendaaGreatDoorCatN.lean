/- Contracts: slices.Index of items; Catalog.Number, Among. -/
import Derived.Test.YtheemhelioendaaGreatDoorCatE
import Derived.Test.YtheemhelioendaaGreatDoorHas
import Derived.Test.YtheemhelioendaaGreatDoorWord
namespace Go.Proofs.YtheemhelioendaaGreatDoor
open Go.RowKit
set_option linter.unusedVariables false

theorem cells4 {w : World} {p : Nat} {a b c d : Value} {T : TypeId} (h : w.heap[p]? = some (.cells #[a, b, c, d] T (0, 0))) : w.cell? ⟨p, 0, none⟩ = some a ∧ w.cell? ⟨p, 1, none⟩ = some b ∧ w.cell? ⟨p, 2, none⟩ = some c ∧ w.cell? ⟨p, 3, none⟩ = some d := by
  refine ⟨?_, ?_, ?_, ?_⟩
  all_goals (rw [cell_of_row w p _ _ _ _ h]; rfl)
set_option maxRecDepth 100000 in
set_option maxHeartbeats 4000000 in
theorem indexI_any (base : Nat) (v : Value) (items : List ItemM) (n : ByteArray) (a b c : Int) (w : World) (h : IsItems w base v items) :
    Calls Tryz.prog 44 #[v, .agg #[.string n, .int .i64 a, .int .i64 b, .int .i64 c]] w fun e w' => e = .returned (.int .i64 (numM items (n, a, b, c))) ∧ Below w.heap.size w w' := by
  obtain ⟨ad, cp, rfl, hl, hm⟩ := RowG.shape h
  have hlen : items.length ≤ 9223372036854775807 := Nat.le_trans hl hm
  have hal : Below w.heap.size w (w.alloc (.cells #[.string n, .int .i64 a, .int .i64 b, .int .i64 c] 61)) := (Below.refl _ _).alloc (Nat.le_refl _) _
  have hbx : (w.alloc (.cells #[.string n, .int .i64 a, .int .i64 b, .int .i64 c] 61)).heap[w.heap.size]? = some (.cells #[.string n, .int .i64 a, .int .i64 b, .int .i64 c] 61 (0, 0)) := heap_at rfl
  obtain ⟨R, hR⟩ : ∃ R, R = numM items (n, a, b, c) := ⟨_, rfl⟩
  rw [← hR]
  have H := Lib.hid h; have Hal := Lib.hid hal; have Hbx := Lib.hid hbx; have HR := Lib.hid hR
  clear h hal hbx hR
  go_enter Tryz.func44, Tryz.ntmps44
  go_wp2_with fail
  generalize w.alloc (.cells #[.string n, .int .i64 a, .int .i64 b, .int .i64 c] 61) = wA at Hal Hbx ⊢
  go_loopg [8] items.length (fun gk i wr => ∃ k : Nat, k ≤ items.length ∧ gk = items.length - k ∧ i = .int .i64 k ∧ Below w.heap.size w wr ∧ wr.heap[w.heap.size]? = some (.cells #[.string n, .int .i64 a, .int .i64 b, .int .i64 c] 61 (0, 0)) ∧ ∀ j, (hj : j < items.length) → j < k → items[j] ≠ (n, a, b, c))
  case atStart => exact ⟨0, Nat.zero_le _, rfl, rfl, Hal.out, Hbx.out, fun j _ hj => by omega⟩
  case round =>
    obtain ⟨k, hk, rfl, rfl, hbw, hbx, hno⟩ := hrel
    by_cases hlt : k < items.length
    · have hi : (k : Int) < (items.length : Int) := by omega
      obtain ⟨g, rfl, hg, _⟩ := RowG.at (H.out.below hbw) (by omega)
      obtain ⟨c1, c2, c3, c4⟩ := (H.out.below hbw).cells hlt
      obtain ⟨b1, b2, b3, b4⟩ := cells4 hbx
      obtain ⟨it, hit⟩ : ∃ it, it = items[k] := ⟨_, rfl⟩
      rw [← hit] at c1 c2 c3 c4
      obtain ⟨m, x, y, z⟩ := it
      simp only at c1 c2 c3 c4
      have Hno := Lib.hid hno; have Hbw := Lib.hid hbw; have Hbx2 := Lib.hid hbx; have Hit := Lib.hid hit
      clear hno hbw hbx hit
      by_cases he : (n, a, b, c) = (m, x, y, z)
      · have ht : sameIt (n, a, b, c) (m, x, y, z) = true := decide_eq_true he
        have hE := fun w => equalItem n m a b c x y z w
        rw [ht] at hE
        have hr := numM_hit hlt (Hit.out.symm.trans he.symm) (fun j hj => Hno.out j (by omega) hj)
        rw [← HR.out] at hr
        subst hr
        clear he
        go_wp2_with fail
        go_region
        go_wp2_with fail
        go_ret
        exact ⟨rfl, Hbw.out.drew⟩
      · have ht : sameIt (n, a, b, c) (m, x, y, z) = false := decide_eq_false he
        have hE := fun w => equalItem n m a b c x y z w
        rw [ht] at hE
        have He := Lib.hid he
        clear he
        go_wp2_with fail
        go_region
        go_wp2_with fail
        go_roundg (items.length - (k + 1))
        case measure => omega
        case rel => exact ⟨k + 1, by omega, rfl, by go_num, Hbw.out.drew, Hbx2.out, fun j hj1 hj2 => by
          by_cases e : j = k
          · subst e; rw [← Hit.out]; exact fun q => He.out q.symm
          · exact Hno.out j hj1 (by omega)⟩
    · obtain rfl : k = items.length := by omega
      have hr : numM items (n, a, b, c) = -1 := numM_out (fun hm => by
        obtain ⟨j, hj, e⟩ := List.getElem_of_mem hm
        exact hno j hj hj e)
      rw [← HR.out] at hr
      subst hr
      have Hbw := Lib.hid hbw
      clear hno hbw hbx
      go_wp2_with fail
      go_ret
      exact ⟨rfl, Hbw.out⟩
set_option maxRecDepth 100000 in
set_option maxHeartbeats 4000000 in
/-- Number, also while the catalog is in the making. -/
theorem number_at (p base : Nat) (vl vi : Value) (items : List ItemM) (n : ByteArray) (a b c : Int) (w : World) (hb : w.heap[p]? = some (.cells #[vl, vi] 83 (0, 0))) (h : IsItems w base vi items) :
    Calls Tryz.prog 18 #[.pointer (some ⟨p, 0, none⟩), .string n, .agg #[.int .i64 a, .int .i64 b, .int .i64 c]] w fun e w' => e = .returned (.int .i64 (numM items (n, a, b, c))) ∧ Below w.heap.size w w' := by
  obtain ⟨W, hW⟩ : ∃ W, W = w.alloc (.cells #[.int .i64 a, .int .i64 b, .int .i64 c] 46) := ⟨_, rfl⟩
  have hal : Below w.heap.size w W := by rw [hW]; exact (Below.refl _ _).alloc (Nat.le_refl _) _
  have hbx : W.heap[w.heap.size]? = some (.cells #[.int .i64 a, .int .i64 b, .int .i64 c] 46 (0, 0)) := by rw [hW]; exact heap_at rfl
  have hb2 := (hal.block _ (lt_of_block hb)).trans hb
  obtain ⟨d1, d2, _, _⟩ := cellsC hb2
  obtain ⟨e1, e2, e3, _⟩ := cells3 hbx
  have HI := Lib.hid (fun W' (hw : Below w.heap.size w W') => (indexI_any base vi items n a b c W' (h.below hw)))
  obtain ⟨ad, cp, rfl, _⟩ := RowG.shape h
  have Hal := Lib.hid hal.drew
  have KS : W.drew.cell? ⟨p, 1, none⟩ = some (.slice ad items.length cp) ∧ W.drew.cell? ⟨w.heap.size, 0, none⟩ = some (.int .i64 a) ∧ W.drew.cell? ⟨w.heap.size, 1, none⟩ = some (.int .i64 b) ∧ W.drew.cell? ⟨w.heap.size, 2, none⟩ = some (.int .i64 c) := ⟨d2, e1, e2, e3⟩
  have HK := Lib.hid (show ∀ w', Below W.drew.heap.size W.drew w' → w'.cell? ⟨p, 1, none⟩ = some (.slice ad items.length cp) ∧ w'.cell? ⟨w.heap.size, 0, none⟩ = some (.int .i64 a) ∧ w'.cell? ⟨w.heap.size, 1, none⟩ = some (.int .i64 b) ∧ w'.cell? ⟨w.heap.size, 2, none⟩ = some (.int .i64 c) from fun w' hw => ⟨(hw.cell (p := ⟨p, 1, none⟩) (lt_of_block hb2)).trans KS.1, (hw.cell (p := ⟨w.heap.size, 0, none⟩) (lt_of_block hbx)).trans KS.2.1, (hw.cell (p := ⟨w.heap.size, 1, none⟩) (lt_of_block hbx)).trans KS.2.2.1, (hw.cell (p := ⟨w.heap.size, 2, none⟩) (lt_of_block hbx)).trans KS.2.2.2⟩)
  clear h hb hb2 hbx hal d1 d2 e1 e2 e3
  generalize numM items (n, a, b, c) = R at HI ⊢
  go_enter Tryz.func18, Tryz.ntmps18
  go_upto_region 3 with fail
  rw [← hW]
  clear hW
  go_region_held3 (fun w' => w'.cell? ⟨p, 1, none⟩ = some (.slice ad items.length cp) ∧ w'.cell? ⟨w.heap.size, 0, none⟩ = some (.int .i64 a) ∧ w'.cell? ⟨w.heap.size, 1, none⟩ = some (.int .i64 b) ∧ w'.cell? ⟨w.heap.size, 2, none⟩ = some (.int .i64 c)) (exact KS)
    ((go_at_call 44; (with_reducible refine (HI.out _ Hal.out).mono ?_); rintro e w5 ⟨rfl, hb5⟩; have KS := HK.out _ hb5; have Hb5 := Lib.hid hb5; clear hb5))
  go_wp2_with fail
  go_ret
  exact ⟨rfl, Hal.out.trans (Hb5.out.mono Hal.out.size)⟩

theorem infoIntG : (Tryz.prog.info? 3).map (fun i => (i.zero, i.size, i.bytes)) = some (some (.int .i64 0), 1, 8) := by kernel_rfl
theorem under_ints : Tryz.prog.underlying 26 = some (.slice 3) := by kernel_rfl
def encInt (x : Int) : List Value := [.int .i64 x]
/-- A row of ints of the call's own. -/
def OutI (w : World) (base : Nat) (v : Value) (xs : List Int) : Prop := RowG w base 3 1 encInt v xs
theorem OutI.below {w w' : World} {base : Nat} {v : Value} {xs : List Int} (h : OutI w base v xs) (hb : Below w.heap.size w w') : OutI w' base v xs := RowG.below h hb
theorem wpList_append_intG {W : World} {ops : Array Oper} {rest : List Oper} {o : Oper} {a : Act} {Q : Exit → Act → World → Prop} (hgd : o.guard = none) (s x : Operand)
    (ho : o.op = .call { callee := .builtin .append, args := #[s, x], argTypes := #[26, 26] })
    (base : Nat) (v : Value) (xs : List Int) (hs : a.eval s = v) (hr : OutI W base v xs) (y : Int)
    (q : Nat) (hq : q = W.heap.size) (hx : a.eval x = .slice (some ⟨q, 0, none⟩) 1 1) (hn : xs.length + 1 ≤ 1000000) (hbase : base ≤ W.heap.size)
    (h : ∀ v' w', OutI w' base v' (xs ++ [y]) → Below base W w' → (∀ k, k < W.heap.size → v.ownBlock ≠ some k → w'.heap[k]? = W.heap[k]?) → wpList Tryz.prog ops Q rest (a.put o.dst v') w') : wpList Tryz.prog ops Q (o :: rest) a (W.alloc (.cells #[.int .i64 y] 3)) := by
  obtain ⟨i0, hi0, hz0, hz1, hz2⟩ := info_parts infoIntG
  exact wpList_append_g hgd s x 3 26 1 8 encInt (fun _ => rfl) (fun x u hu => by
    simp only [encInt, List.mem_singleton] at hu; subst hu; rfl) ho i0 _ under_ints hi0 hz0 hz1 hz2 rfl (by decide) (by decide) base v xs hs hr y _ rfl q hq hx hn hbase h
theorem has_bool (v : Value) (l : List Spn) (a b c : Int) (w : World) (h : IsSp w v l) (r : Bool) (e : hasV l a b c = r) : Calls Tryz.prog 45 #[.agg #[v], .agg #[.int .i64 a, .int .i64 b, .int .i64 c]] w fun e w' => e = .returned (.bool r) ∧ Below w.heap.size w w' := by
  subst e; exact has_any v l a b c w h
set_option maxRecDepth 100000 in
set_option maxHeartbeats 8000000 in
/-- The numbers of a package's versions in a range. -/
theorem among_any (p : Nat) (vl vi vr : Value) (ls : List LineM) (items : List ItemM) (nm : ByteArray) (r : List Spn) (w : World) (h : CatAt w p vl vi ls items) (hr : IsSp w vr r) (hn : items.length ≤ 1000) :
    Calls Tryz.prog 19 #[.pointer (some ⟨p, 0, none⟩), .string nm, .agg #[vr]] w fun e w' => (∃ v', e = .returned v' ∧ OutI w' w.heap.size v' ((amongM items nm r).map fun k : Nat => (k : Int))) ∧ Below w.heap.size w w' := by
  obtain ⟨ar, cr, rfl, _⟩ := hr.shape
  obtain ⟨W, hW⟩ : ∃ W, W = w.alloc (.cells #[.slice ar r.length cr] 49) := ⟨_, rfl⟩
  have hal : Below w.heap.size w W := by rw [hW]; exact (Below.refl _ _).alloc (Nat.le_refl _) _
  have hbx : W.heap[w.heap.size]? = some (.cells #[.slice ar r.length cr] 49 (0, 0)) := by rw [hW]; exact heap_at rfl
  have hsW : W.heap.size = w.heap.size + 1 := by rw [hW, alloc_size]
  have HI := Lib.hid (items_any p vl vi ls items W (h.below hal) (by omega))
  have Hal := Lib.hid hal; have Hbx := Lib.hid hbx; have Hr := Lib.hid (hr.below hal); have HsW := Lib.hid hsW
  clear h hal hbx hr hsW
  go_enter Tryz.func19, Tryz.ntmps19
  go_upto_region 2 with fail
  rw [← hW]
  clear hW
  go_wp2_with fail
  refine HI.out.mono ?_
  rintro e w1 ⟨⟨v1, rfl, hit⟩, hb1⟩
  obtain ⟨ai, ci, rfl, hl1, hm1⟩ := RowG.shape hit
  have hlen : items.length ≤ 9223372036854775807 := Nat.le_trans hl1 hm1
  have Hit := Lib.hid hit; have Hb1 := Lib.hid hb1; have Hs1 := Lib.hid hb1.size
  have Hbx1 := Lib.hid ((hb1.block _ (lt_of_block Hbx.out)).trans Hbx.out); have Hr1 := Lib.hid (Hr.out.below hb1)
  clear hit hb1 HI Hbx Hr
  go_wp2_with fail
  go_loopg [7, 13] items.length (fun gk vo i wr => ∃ k : Nat, k ≤ items.length ∧ gk = items.length - k ∧ i = .int .i64 k ∧ OutI wr w1.heap.size vo ((amongN k items nm r).map fun k : Nat => (k : Int)) ∧ Below w.heap.size w wr ∧ Below w1.heap.size w1 wr)
  case atStart => exact ⟨0, Nat.zero_le _, rfl, rfl, RowG.nil _ _ _ _ _, Hal.out.trans (Hb1.out.mono Hal.out.size), Below.refl _ _⟩
  case round =>
    obtain ⟨k, hk, rfl, rfl, hout, hbw, hbw1⟩ := hrel
    obtain ⟨wo, rfl⟩ : ∃ y, y = wr := ⟨_, rfl⟩
    obtain ⟨ss, hss⟩ : ∃ ss, ss = (amongN k items nm r).map (fun k : Nat => (k : Int)) := ⟨_, rfl⟩
    rw [← hss] at hout
    have hlen2 : ss.length ≤ k := by rw [hss, List.length_map]; exact amongN_len _ _ _ _
    obtain ⟨ao, co, rfl, _, _⟩ := RowG.shape hout
    have so := hbw1.size
    have s1 := Hs1.out
    rw [HsW.out] at s1
    by_cases hlt : k < items.length
    · have hi : (k : Int) < (items.length : Int) := by omega
      obtain ⟨g, rfl, hg, _⟩ := RowG.at (IsItems.below Hit.out hbw1) (by omega)
      obtain ⟨c1, c2, c3, c4⟩ := (IsItems.below Hit.out hbw1).cells hlt
      obtain ⟨it, hit⟩ : ∃ it, it = itemAt items k := ⟨_, rfl⟩
      rw [← itemAt_get hlt, ← hit] at c1 c2 c3 c4
      have hsu := amongN_succ k items nm r
      rw [← hit] at hsu
      obtain ⟨m, x, y, z⟩ := it
      simp only at c1 c2 c3 c4
      obtain ⟨wB, hwB⟩ : ∃ q, q = wo.alloc (.cells #[.string m, .int .i64 x, .int .i64 y, .int .i64 z] 61) := ⟨_, rfl⟩
      have hbB : Below wo.heap.size wo wB := by rw [hwB]; exact (Below.refl _ _).alloc (Nat.le_refl _) _
      have hkB : wB.heap[wo.heap.size]? = some (.cells #[.string m, .int .i64 x, .int .i64 y, .int .i64 z] 61 (0, 0)) := by rw [hwB]; exact heap_at rfl
      have hszB : wB.heap.size = wo.heap.size + 1 := by rw [hwB, alloc_size]
      obtain ⟨b1, b2, b3, b4⟩ := cells4 hkB
      have hbxB := (hbB.block _ (by omega)).trans ((hbw1.block _ (lt_of_block Hbx1.out)).trans Hbx1.out)
      have b5 := cell_of_one hbxB
      have hrB := (Hr1.out.below hbw1).below hbB
      have Hout := Lib.hid (show ∀ w', Below wo.heap.size wo w' → OutI w' w1.heap.size (.slice ao ss.length co) ss from fun w' hw => hout.below hw)
      have Hsu := Lib.hid hsu; have Hss := Lib.hid hss; have Hbw := Lib.hid hbw; have Hbw1 := Lib.hid hbw1; have HbB := Lib.hid hbB; have HszB := Lib.hid hszB
      by_cases hnm : m = nm
      · have tN : (m.toList == nm.toList) = true := by rw [hnm]; simp
        have hf : fitI nm r (m, x, y, z) = hasV r x y z := by unfold fitI; simp only; rw [decide_eq_true hnm, Bool.true_and]
        have Hf := Lib.hid hf
        have HH := Lib.hid (fun q (e : hasV r x y z = q) => has_bool _ r x y z wB hrB q e)
        clear hnm hf hsu hss hbw hbw1 hbB hszB hkB hbxB hrB hout
        by_cases hv : hasV r x y z = true
        · have HV := Lib.hid (HH.out _ hv); have Hv := Lib.hid hv
          clear hv HH
          go_upto_region 5 with fail
          rw [← hwB]
          clear hwB
          go_wp2_with fail
          refine HV.out.mono ?_
          rintro e w5 ⟨rfl, hb5⟩
          have hb55 := HbB.out.trans (hb5.mono HbB.out.size)
          have s5 := hb55.size
          have HB5 := Lib.hid hb55
          clear hb5 hb55
          go_wp2_with (at_builtin; refine wpList_append_intG rfl (.tmp 28) (.tmp 30) rfl w1.heap.size _ ss rfl (Hout.out _ HB5.out) k _ rfl rfl (by omega) (by omega) ?_; intro v9 w9 ho9 hb9 _; have Ho9 := Lib.hid ho9; have Hb9 := Lib.hid hb9; clear ho9 hb9)
          go_roundg (items.length - (k + 1))
          case measure => omega
          case rel => exact ⟨k + 1, by omega, rfl, by go_num, by rw [Hsu.out, Hf.out, if_pos Hv.out, List.map_append, ← Hss.out]; exact Ho9.out, (Hbw.out.trans (HB5.out.mono (by omega))).trans (Hb9.out.mono (by omega)), (Hbw1.out.trans (HB5.out.mono (by omega))).trans Hb9.out⟩
        · have HV := Lib.hid (HH.out false (by simpa using hv)); have Hv := Lib.hid hv
          clear hv HH
          go_upto_region 5 with fail
          rw [← hwB]
          clear hwB
          go_wp2_with fail
          refine HV.out.mono ?_
          rintro e w5 ⟨rfl, hb5⟩
          have HB5 := Lib.hid (HbB.out.trans (hb5.mono HbB.out.size))
          clear hb5
          go_wp2_with fail
          go_roundg (items.length - (k + 1))
          case measure => omega
          case rel => exact ⟨k + 1, by omega, rfl, by go_num, by rw [Hsu.out, Hf.out, if_neg Hv.out, List.append_nil, ← Hss.out]; exact Hout.out _ HB5.out, Hbw.out.trans (HB5.out.mono (by omega)), Hbw1.out.trans (HB5.out.mono (by omega))⟩
      · have tN : (m.toList == nm.toList) = false := by rw [beq_eq_false_iff_ne]; exact fun q => hnm (toList_inj' q)
        have hf : fitI nm r (m, x, y, z) = false := by unfold fitI; simp only; rw [decide_eq_false hnm, Bool.false_and]
        have Hf := Lib.hid hf
        clear hnm hf hsu hss hbw hbw1 hbB hszB hkB hbxB hrB hout
        go_upto_region 5 with fail
        rw [← hwB]
        clear hwB
        go_wp2_with fail
        go_roundg (items.length - (k + 1))
        case measure => omega
        case rel => exact ⟨k + 1, by omega, rfl, by go_num, by rw [Hsu.out, Hf.out, if_neg (by decide), List.append_nil, ← Hss.out]; exact Hout.out _ HbB.out, Hbw.out.trans (HbB.out.mono (by omega)), Hbw1.out.trans (HbB.out.mono (by omega))⟩
    · obtain rfl : k = items.length := by omega
      have Hout := Lib.hid (RowG.less hout (show w.heap.size ≤ w1.heap.size by omega)); have Hbw := Lib.hid hbw; have Hss := Lib.hid hss
      clear hout hbw hbw1 hss
      go_wp2_with fail
      go_ret
      exact ⟨⟨_, rfl, by unfold amongM; rw [← Hss.out]; exact Hout.out⟩, Hbw.out⟩
end Go.Proofs.YtheemhelioendaaGreatDoor
