/- Contract: plan.Change. -/
import Derived.Test.YtheemhelioendaaGreatDoorPlanned
import Derived.Test.YtheemhelioendaaGreatDoorChgM
import Derived.Test.YtheemhelioendaaGreatDoorBackW
import Derived.IntWalk
namespace Go.Proofs.YtheemhelioendaaGreatDoor
open Go.RowKit
set_option linter.unusedVariables false
attribute [local go_sem] Oper.semAt_some

def encT (s : Nat × Bool) : List Value := [.int .i64 s.1, .bool s.2]
theorem encT_len (s : Nat × Bool) : (encT s).length = 2 := rfl
theorem encT_one (s : Nat × Bool) : ∀ u ∈ encT s, u.oneCell' = true := by
  intro u hu
  simp only [encT, List.mem_cons, List.not_mem_nil, or_false] at hu
  rcases hu with rfl | rfl <;> rfl
theorem infoStep : (Tryz.prog.info? 68).map (fun i => (i.zero, i.size, i.bytes)) = some (some (.agg #[.int .i64 0, .bool false]), 2, 16) := by kernel_rfl
theorem under_steps : Tryz.prog.underlying 64 = some (.slice 68) := by kernel_rfl
/-- What Change says. -/
def ChangeP (ls : List LineM) (items : List ItemM) (fr tz : Nat) (w : World) (e : Ending) (w' : World) : Prop :=
  ((∃ a c la lb, e = .returned (.tuple #[.slice a (stepsM la lb fr tz).length c, .nilIface]) ∧ RowG w' w.heap.size 68 2 encT (.slice a (stepsM la lb fr tz).length c) (stepsM la lb fr tz) ∧ Ordered items fr ls la ∧ Ordered items tz ls lb ∧ fitsB ls items fr = true ∧ fitsB ls items tz = true) ∨
   (∃ k : Int, e = .returned (.tuple #[.slice none 0 0, .iface 43 (.int .i64 k)]) ∧ (¬ GoodSet items fr ls ∨ ¬ GoodSet items tz ls))) ∧ Below w.heap.size w w'
theorem order_bad {ls : List LineM} {items : List ItemM} {set : Nat} {e : Ending} {w w' : World} (h : OrderP ls items set w e w') : (∃ a c l, e = .returned (.tuple #[.slice a l.length c, .nilIface]) ∧ OutI w' w.heap.size (.slice a l.length c) (l.map (fun k : Nat => (k : Int))) ∧ Ordered items set ls l ∧ fitsB ls items set = true ∧ Below w.heap.size w w') ∨
    (∃ k : Int, e = .returned (.tuple #[.slice none 0 0, .iface 43 (.int .i64 k)]) ∧ ¬ GoodSet items set ls ∧ Below w.heap.size w w') := by
  obtain ⟨⟨a, c, l, h1, h2, h3, h4⟩ | ⟨h1, h2⟩ | ⟨h1, h2, h3⟩, hb⟩ := h
  · exact .inl ⟨a, c, l, h1, h2, h3, h4, hb⟩
  · exact .inr ⟨_, h1, fun g => (by have g1 := g.1; rw [h2] at g1; cases g1), hb⟩
  · exact .inr ⟨_, h1, fun g => g.2 h3, hb⟩
/-- Between two steps: the row of steps lies in its box; all else is as it was. -/
structure ChI (b : Nat) (st : List (Nat × Bool)) (w4 : World) (W : World) : Prop where
  kept : Kept (fun j => j = b) w4 W
  row : ∃ v, W.heap[b]? = some (.cells #[v] 64 (0, 0)) ∧ RowG W w4.heap.size 68 2 encT v st
theorem ChI.stay {b : Nat} {st : List (Nat × Bool)} {w4 A B : World} (hb : b < w4.heap.size) {p : Nat → Prop} (h : ChI b st w4 A) (hp : ∀ j, p j → w4.heap.size ≤ j ∧ ∃ r, A.heap[j]? = some (.loop r)) (hK : Kept p A B) : ChI b st w4 B := by
  obtain ⟨hk, v, h1, h2⟩ := h
  refine ⟨⟨hK.os.trans hk.os, hK.tape.trans hk.tape, hK.output.trans hk.output, Nat.le_trans hk.size hK.size, fun j hj hne => (hK.block j (Nat.lt_of_lt_of_le hj hk.size) (fun q => by have := (hp j q).1; omega)).trans (hk.block j hj hne)⟩, v, ?_, ?_⟩
  · exact (hK.block b (lt_of_block h1) (fun q => by have := (hp b q).1; omega)).trans h1
  · refine h2.keep (fun q e => hK.block q (h2.lt e).2 (fun hq => ?_))
    obtain ⟨_, r, hr⟩ := hp q hq
    obtain ⟨cur, e2⟩ := h2.ty _ e
    rw [hr] at e2; cases e2
set_option maxHeartbeats 1000000 in
/-- An append of one element that lies in the newest block, inside a fence. -/
theorem wpListIn_append_g {α : Type} {F : Fence} {n : Nat} {W : World} {ops : Array Oper} {rest : List Oper} {o : Oper} {a : Act} {Q : Exit → Act → World → Prop} (hgd : o.guard = none) (s x : Operand) (T S : TypeId) (z bytes : Nat) (enc : α → List Value) (hz : ∀ x, (enc x).length = z) (y : α) (h1 : ∀ u ∈ enc y, u.oneCell' = true)
    (ho : o.op = .call { callee := .builtin .append, args := #[s, x], argTypes := #[S, S] })
    (i : TypeInfo) (zv : Value) (hu : Tryz.prog.underlying S = some (.slice T)) (hi : Tryz.prog.info? T = some i) (hzero : i.zero = some zv) (hsize : i.size = z) (hby : i.bytes = bytes) (hzs : zv.cells.size = z) (hzp : 0 < z) (hbb : bytes ≤ 1000)
    (base : Nat) (v : Value) (xs : List α) (hs : a.eval s = v) (hr : RowG W base T z enc v xs) (cs : Array Value) (hcs : cs.toList = enc y)
    (q : Nat) (hq : q = W.heap.size) (hx : a.eval x = .slice (some ⟨q, 0, none⟩) 1 1) (hn : xs.length + 1 ≤ 1000000) (hbase : base ≤ W.heap.size)
    (h : ∀ a' c' w', RowG w' base T z enc (.slice a' (xs.length + 1) c') (xs ++ [y]) → Below base W w' → (∀ k, k < W.heap.size → v.ownBlock ≠ some k → w'.heap[k]? = W.heap[k]?) → wpListIn F n Tryz.prog ops Q rest (a.put o.dst (.slice a' (xs.length + 1) c')) w') : wpListIn F n Tryz.prog ops Q (o :: rest) a (W.alloc (.cells cs T)) := by
  subst hq
  have hal : Below W.heap.size W (W.alloc (.cells cs T)) := (Below.refl _ _).alloc (Nat.le_refl _) _
  have hb : (W.alloc (.cells cs T)).heap[W.heap.size]? = some (.cells cs T (0, 0)) := heap_at rfl
  have hcell : ∀ (j : Nat) (u' : Value), (enc y)[j]? = some u' → (W.alloc (.cells cs T)).cell? ((⟨W.heap.size, 0, none⟩ : Addr).add j) = some u' := by
    intro j u' hu
    rw [show (⟨W.heap.size, 0, none⟩ : Addr).add j = ⟨W.heap.size, j, none⟩ from by simp [Addr.add]; exact fun h => h.symm, cell_of_row _ _ _ _ _ _ hb, ← hu, ← hcs]
    simp
  have hr' := hr.below hal
  have hb2 : (xs.length + 1) * bytes ≤ 140737488355328 := by
    have : (xs.length + 1) * bytes ≤ 1000000 * 1000 := Nat.mul_le_mul hn hbb
    omega
  refine wpListIn_append_own _ hgd s x S ho base T i zv z bytes hu hi hzero hsize hby hzs hzp v xs.length _ hs hr' ⟨W.heap.size, 0, none⟩ 1 1 (enc y) hx (by rw [hz]; omega) hcell h1 (by simp only [maxLen]; omega) hb2 (by simp; omega) (fun v' w' h2 h3 _ => ?_)
  have hrow : RowG w' base T z enc v' (xs ++ [y]) := by
    unfold RowG
    rw [flatG_snoc, List.length_append]
    exact h2
  obtain ⟨a', c', rfl, _, _⟩ := hrow.shape
  rw [List.length_append] at hrow ⊢
  exact h a' c' w' hrow ((hal.mono hbase).grown h3 (by simp; omega) (fun j hj => (hr'.lt hj).1)) (fun k hk hne => (h3.block k (by simp; omega) (fun e => hne e.symm)).trans (hal.block k hk))
/-- A step more. -/
theorem ChI.snoc {b : Nat} {st : List (Nat × Bool)} {w4 W w9 : World} (hb : b < w4.heap.size) (h : Kept (fun j => j = b) w4 W) {v v9 u : Value} {s : Nat × Bool} (hx : W.heap[b]? = some (.cells #[u] 64 (0, 0))) (hr : RowG W w4.heap.size 68 2 encT v st) (hr9 : RowG w9 w4.heap.size 68 2 encT v9 (st ++ [s])) (hb9 : Below w4.heap.size W w9) : ChI b (st ++ [s]) w4 (w9.setCell ⟨b, 0, none⟩ v9) := by
  have hx9 := (hb9.block b hb).trans hx
  refine ⟨⟨?_, ?_, ?_, ?_, fun j hj hne => ?_⟩, v9, one_setCell hx9, hr9.keepT (KeepT.set hx9 (by decide) 0 v9)⟩
  · exact hb9.os.trans h.os
  · exact hb9.tape.trans h.tape
  · exact hb9.output.trans h.output
  · have := hb9.size; have := h.size; simp; omega
  · exact (Below.heap_setCell _ _ _ _ (by show j ≠ b; exact hne)).trans ((hb9.block j hj).trans (h.block j hj hne))
def remL (la : List Nat) (tz k : Nat) : List (Nat × Bool) := ((la.reverse.take k).filter fun i => !tz.testBit i).map (fun i => (i, false))
theorem remL_succ (la : List Nat) (tz : Nat) {k : Nat} (h : k < la.reverse.length) : remL la tz (k + 1) = remL la tz k ++ if tz.testBit la.reverse[k] = true then [] else [(la.reverse[k], false)] := by
  unfold remL
  rw [List.take_succ_eq_append_getElem h, List.filter_append, List.map_append]
  congr 1
  generalize la.reverse[k] = x
  by_cases e : tz.testBit x = true <;> simp [e]
def addL (lb : List Nat) (fr k : Nat) : List (Nat × Bool) := ((lb.take k).filter fun i => !fr.testBit i).map (fun i => (i, true))
theorem addL_succ (lb : List Nat) (fr : Nat) {k : Nat} (h : k < lb.length) : addL lb fr (k + 1) = addL lb fr k ++ if fr.testBit lb[k] = true then [] else [(lb[k], true)] := by
  unfold addL
  rw [List.take_succ_eq_append_getElem h, List.filter_append, List.map_append]
  congr 1
  generalize lb[k] = x
  by_cases e : fr.testBit x = true <;> simp [e]
theorem addL_len (lb : List Nat) (fr k : Nat) : (addL lb fr k).length ≤ lb.length := by
  unfold addL
  rw [List.length_map]
  refine Nat.le_trans (List.length_filter_le _ _) ?_
  rw [List.length_take]
  omega
theorem steps_all (la lb : List Nat) (fr tz : Nat) : remL la tz la.length ++ addL lb fr lb.length = stepsM la lb fr tz := by
  unfold remL addL stepsM
  rw [show la.length = la.reverse.length by simp, List.take_length, List.take_length]
/-- All that the loop needs stays. -/
theorem step_same {b l D : Nat} {w4 W2 w9 : World} {keep : Nat → Prop} {v v9 : Value} {st : List (Nat × Bool)} {rl : _} (hb : b < w4.heap.size) (hk : ∀ j, keep j → j < w4.heap.size ∧ j ≠ b) (hl : w4.heap.size ≤ l) (hD : w4.heap.size ≤ D) (hrl : W2.heap[l]? = some (.loop rl)) (hd : W2.heap[D]? = some (.deferred (some [])))
    (hr : RowG W2 w4.heap.size 68 2 encT v st) (hb9 : Below w4.heap.size W2 w9) (hk9 : ∀ k, k < W2.heap.size → v.ownBlock ≠ some k → w9.heap[k]? = W2.heap[k]?) : SameOn (fun j => keep j ∨ j = l ∨ j = D) W2 (w9.setCell ⟨b, 0, none⟩ v9) := by
  refine ⟨by have := hb9.size; simpa using this, fun j hj => ?_⟩
  have hjb : j ≠ b := by rcases hj with q | q | q; exact (hk j q).2; all_goals omega
  refine (Below.heap_setCell _ _ _ _ (by show j ≠ b; exact hjb)).trans ?_
  rcases hj with q | rfl | rfl
  · exact hb9.block j (hk j q).1
  · exact hk9 j (lt_of_block hrl) (fun e => by obtain ⟨cur, e2⟩ := hr.ty _ e; rw [hrl] at e2; cases e2)
  · exact hk9 j (lt_of_block hd) (fun e => by obtain ⟨cur, e2⟩ := hr.ty _ e; rw [hd] at e2; cases e2)
theorem remL_len (la : List Nat) (tz k : Nat) : (remL la tz k).length ≤ la.length := by
  unfold remL
  rw [List.length_map]
  refine Nat.le_trans (List.length_filter_le _ _) ?_
  rw [List.length_take, List.length_reverse]
  omega
set_option maxRecDepth 100000 in
set_option maxHeartbeats 32000000 in
theorem change_any (p : Nat) (vl vi : Value) (ls : List LineM) (items : List ItemM) (fr tz : Nat) (w : World) (h : CatAt w p vl vi ls items) (ho : CatOk ls items) (hf : fr < 2 ^ items.length) (ht : tz < 2 ^ items.length) : Calls Tryz.prog 26 #[.pointer (some ⟨p, 0, none⟩), .int .u64 fr, .int .u64 tz] w (ChangeP ls items fr tz w) := by
  have hn24 : items.length ≤ 24 := by rw [ho.perm.length_eq]; exact ho.most
  have p24 : 2 ^ items.length ≤ 16777216 := Nat.le_trans (Nat.pow_le_pow_right (by decide) hn24) (by decide)
  have Hf64 := Lib.hid (show fr < 18446744073709551616 by omega); have Ht64 := Lib.hid (show tz < 18446744073709551616 by omega)
  obtain ⟨wA, hwA⟩ : ∃ wA, wA = w.alloc (.cells #[.int .u64 tz] 23) := ⟨_, rfl⟩
  have hbA : Below w.heap.size w wA := by rw [hwA]; exact (Below.refl _ _).alloc (Nat.le_refl _) _
  have hkA : wA.heap[w.heap.size]? = some (.cells #[.int .u64 tz] 23 (0, 0)) := by rw [hwA]; exact heap_at rfl
  have HO := Lib.hid (show ∀ w', Below wA.heap.size wA w' → (Calls Tryz.prog 15 #[.pointer (some ⟨p, 0, none⟩), .int .u64 fr] w' (OrderP ls items fr w')) ∧ (Calls Tryz.prog 15 #[.pointer (some ⟨p, 0, none⟩), .int .u64 tz] w' (OrderP ls items tz w')) ∧ w'.heap[w.heap.size]? = some (.cells #[.int .u64 tz] 23 (0, 0)) ∧ Below w.heap.size w w' from fun w' hw => by
    have hb := hbA.trans (hw.mono hbA.size)
    exact ⟨order_any p vl vi ls items fr w' (h.below hb) ho hf, order_any p vl vi ls items tz w' (h.below hb) ho ht, (hw.block _ (lt_of_block hkA)).trans hkA, hb⟩)
  have HO1 := Lib.hid (HO.out wA (Below.refl _ _)).1
  have Hn24 := Lib.hid hn24
  clear h ho hf ht hbA hkA p24 hn24
  refine (callsIn_wide (n := 3)).1 ?_
  refine callsIn_of_wp_marks Tryz.func26 rfl trivial ?_ rfl
  simp only [Tryz.ntmps26, List.size_toArray, List.length_cons, List.length_nil, Nat.reduceAdd, Nat.reduceSub, Array.replicate_succ, Array.replicate_zero, List.push_toArray, List.append_toArray, List.nil_append, List.cons_append]
  gi_upto_region 1 with fail
  rw [← hwA]
  clear hwA
  gi_wp2_with fail
  refine ⟨trivial, ?_⟩
  refine (callsIn_wide.2 HO1.out).mono ?_
  intro e w1 hP1
  rcases order_bad hP1 with ⟨a1, c1, la, rfl, hla, hola, hfa, hb1⟩ | ⟨k, rfl, hbad, hb1⟩
  · obtain ⟨_, hO2, hk1, hbw1⟩ := HO.out w1 hb1
    have HO2 := Lib.hid hO2; have Hb1 := Lib.hid hb1; have Hla := Lib.hid hla; have Hola := Lib.hid hola; have Hfa := Lib.hid hfa
    have hc1 := cell_of_one hk1
    obtain ⟨NA, hNA⟩ : ∃ NA, NA = la.length := ⟨_, rfl⟩
    rw [← hNA] at Hla ⊢
    have HNA := Lib.hid hNA
    clear hP1 hO2 hk1 hbw1 hb1 hla hola hfa HO1 hNA
    gi_wp2_with fail
    refine ⟨trivial, ?_⟩
    refine (callsIn_wide.2 HO2.out).mono ?_
    intro e w2 hP2
    clear hc1
    rcases order_bad hP2 with ⟨a2, c2, lb, rfl, hlb, holb, hfb, hb2⟩ | ⟨k, rfl, hbad, hb2⟩
    · have hb12 := Hb1.out.trans (hb2.mono Hb1.out.size)
      obtain ⟨_, _, hk2, hbw2⟩ := HO.out w2 hb12
      obtain ⟨NB, hNB⟩ : ∃ NB, NB = lb.length := ⟨_, rfl⟩
      rw [← hNB] at hlb ⊢
      have HNB := Lib.hid hNB
      have HLA := Lib.hid (RowG.below Hla.out hb2); have HLB := Lib.hid hlb; have Holb := Lib.hid holb; have Hfb := Lib.hid hfb; have Hk2 := Lib.hid hk2; have Hbw2 := Lib.hid hbw2
      clear hP2 hlb holb hfb hb2 hb12 hk2 hbw2 HO2 Hla hNB
      obtain ⟨w3, hw3⟩ : ∃ w3, w3 = w2.alloc (.cells #[.slice none 0 0] 64) := ⟨_, rfl⟩
      have hb3 : Below w2.heap.size w2 w3 := by rw [hw3]; exact (Below.refl _ _).alloc (Nat.le_refl _) _
      have hk3 : w3.heap[w2.heap.size]? = some (.cells #[.slice none 0 0] 64 (0, 0)) := by rw [hw3]; exact heap_at rfl
      have hs3 : w3.heap.size = w2.heap.size + 1 := by rw [hw3, alloc_size]
      gi_upto_region 8 with fail
      rw [← hw3]
      clear hw3
      gi_wp2_with fail
      refine ⟨trivial, ?_⟩
      refine (callsIn_wide.2 (back_any a1 NA c1 w3)).mono ?_
      rintro e w4 ⟨rfl, hw4⟩
      have hb4 : Below w3.heap.size w3 w4 := by rw [hw4]; exact (Below.refl _ _).alloc (Nat.le_refl _) _
      have hk4 : w4.heap[w3.heap.size]? = some (.cells #[.slice a1 NA c1] 26 (0, 0)) := by rw [hw4]; exact heap_at rfl
      rw [hs3] at hk4
      have hs4 : w4.heap.size = w3.heap.size + 1 := by rw [hw4, alloc_size]
      have hb24 : Below w2.heap.size w2 w4 := hb3.trans (hb4.mono hb3.size)
      have hlaw := RowG.below HLA.out hb24
      have hlbw := RowG.below HLB.out hb24
      have hlal : (la.map (fun k : Nat => (k : Int))).length = NA := by rw [List.length_map, HNA.out]
      have hbk : BackW (w2.heap.size + 1) a1 c1 (la.map (fun k : Nat => (k : Int))) w4 := ⟨by rw [hlal]; exact hk4, by rw [hlal]; exact RowG.less hlaw (Nat.zero_le _)⟩
      have hla24 : la.length ≤ 24 := Nat.le_trans Hola.out.1.len Hn24.out
      have hit := back_iter (w2.heap.size + 1) a1 c1 (la.map (fun k : Nat => (k : Int))) w4 hbk (by rw [List.length_map]; omega)
      have hkt : w4.heap[w.heap.size]? = some (.cells #[.int .u64 tz] 23 (0, 0)) := (hb24.block _ (lt_of_block Hk2.out)).trans Hk2.out
      have hk34 : w4.heap[w2.heap.size]? = some (.cells #[.slice none 0 0] 64 (0, 0)) := (hb4.block _ (by omega)).trans hk3
      have hbw4 : Below w.heap.size w w4 := Hbw2.out.trans (hb24.mono Hbw2.out.size)
      gi_wp2_with fail
      rw [← hw4]
      have h00 : ChI w2.heap.size (remL la tz 0) w4 w4 := ⟨Kept.refl _ _, _, hk34, by simp only [remL, List.take_zero, List.filter_nil, List.map_nil]; exact RowG.nil _ _ _ _ _⟩
      have hb24l : w2.heap.size < w4.heap.size := by omega
      have hnet : w.heap.size ≠ w2.heap.size := Nat.ne_of_lt (lt_of_block Hk2.out)
      have hown : ∀ j, backKeep (w2.heap.size + 1) a1 j → j < w4.heap.size ∧ j ≠ w2.heap.size := by
        rintro j (rfl | e)
        · omega
        · have h1 : (Value.slice a1 NA c1).ownBlock = some j := by cases a1 with | none => cases e | some ad => exact e
          have h2 := (RowG.lt HLA.out h1).2
          omega
      have Hkt := Lib.hid hkt; have Hs4 := Lib.hid hs4; have Hs3 := Lib.hid hs3; have Hbw4 := Lib.hid hbw4; have Hlbw := Lib.hid hlbw; have Hown := Lib.hid hown; have Hb24l := Lib.hid hb24l; have Hnet := Lib.hid hnet; have H24 := Lib.hid hla24
      obtain ⟨iS, hiS, hzS0, hzS1, hzS2⟩ := info_parts infoStep
      have HiS := Lib.hid hiS; have HzS0 := Lib.hid hzS0; have HzS1 := Lib.hid hzS1; have HzS2 := Lib.hid hzS2
      clear hk4 hlaw hlbw hbk hkt hk34 hbw4 hb24 hb4 hb3 hk3 hw4 hnet hown hs4 hs3 hla24 hiS hzS0 hzS1 hzS2
      refine wpIn_iterN (gf := 89) (lb := #[.pointer (some ⟨w2.heap.size + 1, 0, none⟩)]) rfl (enters_of Tryz.func89 (by kernel_rfl) rfl) hit (fun _ => rfl) ?keep ?q (fun k W => ChI w2.heap.size (remL la tz k) w4 W) (fun _ => False) ?hI ?hIx h00 ?round ?done ?stop
      case keep => exact fun j hj => (Hown.out j hj).1
      case q => exact fun j hj => hj.elim
      case hI => exact fun k A B q h hp hK => h.stay Hb24l.out (fun j hj => (hp j hj).resolve_left id) hK
      case hIx => exact fun A B q h _ _ => h
      case stop => exact fun D W _ h _ => h.elim
      case round =>
        intro l D kx hk W hl hD hi hlo hdf
        have hkl : kx < la.reverse.length := by rw [backL_len, List.length_map] at hk; rw [List.length_reverse]; exact hk
        have hget := backL_get (la.map (fun k : Nat => (k : Int))) hk
        obtain ⟨pr, hpr⟩ : ∃ pr, pr = (backL (la.map (fun k : Nat => (k : Int))))[kx] := ⟨_, rfl⟩
        rw [← hpr] at hget ⊢
        obtain ⟨pi, pv⟩ := pr
        have hpv : pv = (la.reverse[kx] : Nat) := by
          simp only at hget
          rw [hget]
          simp only [← List.map_reverse, List.getElem_map]
        subst hpv
        obtain ⟨q, hq⟩ : ∃ q, q = la.reverse[kx] := ⟨_, rfl⟩
        have hrs := remL_succ la tz hkl
        rw [← hq] at hrs ⊢
        have Hrs := Lib.hid hrs
        clear hget hpr hrs hq
        simp only [encB]
        gi_wp2_with fail
        refine ⟨trivial, fun W2 hI2 hl2 hd2 => ?_⟩
        obtain ⟨hkp, v, hbx, hrow⟩ := hI2
        obtain ⟨st, hst⟩ : ∃ st, st = remL la tz kx := ⟨_, rfl⟩
        rw [← hst] at hrow
        have hstl : st.length ≤ 1000 := by rw [hst]; have := remL_len la tz kx; have := H24.out; omega
        obtain ⟨ao, co, rfl, _, _⟩ := hrow.shape
        have hkt2 := (hkp.block _ (by have := lt_of_block Hkt.out; exact this) Hnet.out).trans Hkt.out
        have kc := cell_of_one hkt2
        have k1 := cell_of_one hbx; have k2 := free_of_one hbx; have k3 := lt_of_block hbx
        have HH := Lib.hid (bitHas_any tz q W2 Ht64.out)
        obtain ⟨B, hB⟩ : ∃ B, B = tz.testBit q := ⟨_, rfl⟩
        rw [← hB] at HH
        have HB := Lib.hid hB
        obtain ⟨rl, hrl⟩ := hl2
        have Hkp := Lib.hid hkp; have Hbx := Lib.hid hbx; have Hrow := Lib.hid hrow; have Hst := Lib.hid hst; have Hrl := Lib.hid hrl; have Hd2 := Lib.hid hd2; have Hk3 := Lib.hid k3
        have Hl := Lib.hid hl; have HD := Lib.hid hD
        clear hkp hbx hrow hst hkt2 hB hrl hd2 hit h00 hi hlo hdf hl hD
        cases B with
        | true =>
          gi_wp2_with fail
          refine ⟨trivial, ?_⟩
          refine (CallsIn.inRound l (callsIn_wide.2 HH.out)).mono ?_
          rintro e w7 ⟨rfl, rfl⟩
          gi_wp2_with fail
          refine ⟨SameOn.refl _ _, Hkp.out, _, Hbx.out, ?_⟩
          rw [Hrs.out, ← HB.out, if_pos rfl, List.append_nil, ← Hst.out]
          exact Hrow.out
        | false =>
          gi_wp2_with fail
          refine ⟨trivial, ?_⟩
          refine (CallsIn.inRound l (callsIn_wide.2 HH.out)).mono ?_
          rintro e w7 ⟨rfl, rfl⟩
          gi_wp2_with (gi_at_builtin; refine wpListIn_append_g rfl (.tmp 42) (.tmp 45) 68 64 2 16 encT encT_len (q, false) (encT_one _) rfl iS _ under_steps HiS.out HzS0.out HzS1.out HzS2.out rfl (by decide) (by decide) w4.heap.size (.slice ao st.length co) st rfl Hrow.out _ rfl _ rfl rfl (by omega) Hkp.out.size ?_; intro a9 c9 w9 hr9 hb9 hk9; have q0 := (hb9.block _ (show w2.heap.size < w4.heap.size from Hb24l.out)).trans Hbx.out; have q1 := cell_of_one q0; have q2 := free_of_one q0; have q3 := lt_of_block q0; have Hr9 := Lib.hid hr9; have Hb9 := Lib.hid hb9; have Hk9 := Lib.hid hk9; clear hr9 hb9 hk9 q0)
          refine ⟨step_same Hb24l.out Hown.out Hl.out HD.out Hrl.out Hd2.out Hrow.out Hb9.out Hk9.out, ?_⟩
          show ChI w2.heap.size (remL la tz (kx + 1)) w4 _
          rw [Hrs.out, ← HB.out, if_neg (by decide), ← Hst.out]
          exact ChI.snoc Hb24l.out Hkp.out Hbx.out Hrow.out Hr9.out Hb9.out
      case done =>
        intro D W hD hi hdf
        rw [backL_len, List.length_map] at hi
        have HI := Lib.hid hi; have HDf := Lib.hid hdf; have HD := Lib.hid hD
        clear hit h00 hi hdf hD
        gi_wp2_with fail
        gi_loopw [49] (fun s49 wr => ∃ m : Nat, m ≤ NB ∧ s49 = .int .i64 m ∧ ChI w2.heap.size (remL la tz la.length ++ addL lb fr m) w4 wr ∧ wr.heap[D]? = some (.deferred (some []))) (fun s49 _ => NB + 1 - backM s49)
        case atStart => exact ⟨0, Nat.zero_le _, rfl, by simp only [addL, List.take_zero, List.filter_nil, List.map_nil, List.append_nil]; exact HI.out, HDf.out⟩
        case round =>
          obtain ⟨m, hm, rfl, hI, hd⟩ := hrel
          obtain ⟨wo, rfl⟩ : ∃ y, y = wr := ⟨_, rfl⟩
          obtain ⟨hkp, v, hbx, hrow⟩ := hI
          obtain ⟨st, hst⟩ : ∃ st, st = remL la tz la.length ++ addL lb fr m := ⟨_, rfl⟩
          rw [← hst] at hrow
          have hlb24 : lb.length ≤ 24 := Nat.le_trans Holb.out.1.len Hn24.out
          have hstl : st.length ≤ 1000 := by rw [hst, List.length_append]; have := remL_len la tz la.length; have := addL_len lb fr m; have := H24.out; omega
          obtain ⟨ao, co, rfl, _, _⟩ := hrow.shape
          have k1 := cell_of_one hbx; have k2 := free_of_one hbx; have k3 := lt_of_block hbx
          have hbackm : backM (.int .i64 (m : Int)) = m + 1 := by unfold backM; simp
          have Hbackm := Lib.hid hbackm; clear hbackm
          by_cases hlt : m < NB
          · have hmi : (m : Int) < (NB : Int) := by omega
            have hm24 : m < 24 := by have := HNB.out; omega
            have hml : m < lb.length := by rw [← HNB.out]; exact hlt
            have hlo : OutI wo w1.heap.size (.slice a2 NB c2) (lb.map (fun k : Nat => (k : Int))) := RowG.keep Hlbw.out (fun b e => hkp.block b (RowG.lt Hlbw.out e).2 (fun q => by have := (RowG.lt HLB.out e).2; omega))
            obtain ⟨g, rfl, hg, _⟩ := RowG.at hlo (by rw [List.length_map]; exact Nat.lt_of_le_of_lt (Nat.zero_le _) hml)
            have hc := RowG.cell (enc := encInt) (z := 1) (fun _ => rfl) hlo (k := m) (by rw [List.length_map]; exact hml) (j := 0) (by decide) rfl
            rw [Nat.mul_one, Nat.add_zero, List.getElem_map] at hc
            have hsu := addL_succ lb fr hml
            obtain ⟨q, hq⟩ : ∃ q, q = lb[m] := ⟨_, rfl⟩
            rw [← hq] at hc hsu
            have HH := Lib.hid (bitHas_any fr q wo Hf64.out)
            obtain ⟨B, hB⟩ : ∃ B, B = fr.testBit q := ⟨_, rfl⟩
            rw [← hB] at HH hsu
            have Hsu := Lib.hid hsu; have Hkp := Lib.hid hkp; have Hbx := Lib.hid hbx; have Hrow := Lib.hid hrow; have Hst := Lib.hid hst; have Hd := Lib.hid hd
            clear hsu hkp hbx hrow hst hlo hq hB hd hlb24
            have hbackm1 : backM (.int .i64 ((m : Int) + 1)) = m + 2 := by unfold backM; simp; omega
            have Hbackm1 := Lib.hid hbackm1; clear hbackm1
            cases B with
            | true =>
              gi_wp2_with fail
              refine ⟨trivial, ?_⟩
              refine (callsIn_wide.2 HH.out).mono ?_
              rintro e w7 ⟨rfl, rfl⟩
              gi_wp2_with fail
              refine ⟨⟨m + 1, by omega, by go_num, ⟨Hkp.out, _, Hbx.out, ?_⟩, Hd.out⟩, ?_⟩
              · have e9 := Hsu.out; simp only [ite_true, List.append_nil] at e9; rw [e9, ← Hst.out]; exact Hrow.out
              · rw [Hbackm.out, Hbackm1.out]; omega
            | false =>
              gi_wp2_with fail
              refine ⟨trivial, ?_⟩
              refine (callsIn_wide.2 HH.out).mono ?_
              rintro e w7 ⟨rfl, rfl⟩
              gi_wp2_with (gi_at_builtin; refine wpListIn_append_g rfl (.tmp 57) (.tmp 60) 68 64 2 16 encT encT_len (q, true) (encT_one _) rfl iS _ under_steps HiS.out HzS0.out HzS1.out HzS2.out rfl (by decide) (by decide) w4.heap.size (.slice ao st.length co) st rfl Hrow.out _ rfl _ rfl rfl (by omega) Hkp.out.size ?_; intro a9 c9 w9 hr9 hb9 hk9; have q0 := (hb9.block _ (show w2.heap.size < w4.heap.size from Hb24l.out)).trans Hbx.out; have q1 := cell_of_one q0; have q2 := free_of_one q0; have q3 := lt_of_block q0; have Hr9 := Lib.hid hr9; have Hb9 := Lib.hid hb9; have Hk9 := Lib.hid hk9; clear hr9 hb9 hk9 q0)
              have hci := ChI.snoc Hb24l.out Hkp.out Hbx.out Hrow.out Hr9.out Hb9.out
              refine ⟨⟨m + 1, by omega, by go_num, ?_, ?_⟩, ?_⟩
              · have e9 := Hsu.out; simp only [Bool.false_eq_true, ite_false] at e9; rw [e9, ← List.append_assoc, ← Hst.out]; exact hci
              · exact (Below.heap_setCell _ _ _ _ (by have := HD.out; have := Hb24l.out; show D ≠ w2.heap.size; omega)).trans ((Hk9.out D (lt_of_block Hd.out) (fun e => by obtain ⟨cur, e2⟩ := Hrow.out.ty _ e; rw [Hd.out] at e2; cases e2)).trans Hd.out)
              · rw [Hbackm.out, Hbackm1.out]; omega
          · obtain rfl : m = NB := by omega
            have hall : st = stepsM la lb fr tz := by rw [hst, HNB.out]; exact steps_all la lb fr tz
            subst hall
            have hend : RowG (wo.putObj D (.deferred none)) w4.heap.size 68 2 encT (.slice ao (stepsM la lb fr tz).length co) (stepsM la lb fr tz) := hrow.keep (fun b e => World.putObj_heap_other (fun q => by
              obtain ⟨cur, e2⟩ := hrow.ty _ e
              rw [q, hd] at e2; cases e2))
            have hbe : Below w.heap.size w (wo.putObj D (.deferred none)) := (Hbw4.out.trans (hkp.below (fun j hj => by have := Hbw2.out.size; omega) Hbw4.out.size)).trans (belowK_b (w := w) (Nat.le_refl _) _ D _ _ (by have := HD.out; have := Hbw4.out.size; omega) hd rfl rfl)
            have Hend := Lib.hid hend; have Hbe := Lib.hid hbe; have Hd := Lib.hid hd
            clear hkp hrow hbx hst hend hbe hd hlt k2 k3
            gi_wp2_with fail
            refine ⟨by simp, .inl ⟨_, _, rfl, run_takeDeferred Hd.out, ?_⟩⟩
            refine ⟨.tuple #[.slice ao (stepsM la lb fr tz).length co, .nilIface], ?_, .inl ⟨ao, co, la, lb, rfl, Hend.out.less Hbw4.out.size, Hola.out, Holb.out, Hfa.out, Hfb.out⟩, Hbe.out⟩
            simp [results, Tryz.f26, go_sem]
    · have Hbw := Lib.hid (HO.out w2 (Hb1.out.trans (hb2.mono Hb1.out.size))).2.2.2; have Hbad := Lib.hid hbad
      clear hP2 hb2 hbad HO2
      gi_wp2_with fail
      refine ⟨.tuple #[.slice none 0 0, .iface 43 (.int .i64 k)], ?_, .inr ⟨k, rfl, .inr Hbad.out⟩, Hbw.out⟩
      simp [results, Tryz.f26, go_sem]
  · clear hP1 HO1
    have Hbw := Lib.hid (HO.out w1 hb1).2.2.2; have Hbad := Lib.hid hbad
    clear hb1 hbad
    gi_wp2_with fail
    refine ⟨.tuple #[.slice none 0 0, .iface 43 (.int .i64 k)], ?_, .inr ⟨k, rfl, .inl Hbad.out⟩, Hbw.out⟩
    simp [results, Tryz.f26, go_sem]
end Go.Proofs.YtheemhelioendaaGreatDoor
