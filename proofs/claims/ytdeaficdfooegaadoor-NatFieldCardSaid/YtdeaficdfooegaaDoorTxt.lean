/- A region that draws its order, walked in one order of one's own choice with the frame a letter: what lies in a slot is told by facts. For regions with many operations. -/
import Derived.Deep.RegionHeld3
import Derived.WalkKit
import Derived.Test.YtdeaficdfooegaaDoorProg
namespace Go.Proofs.YtdeaficdfooegaaDoor
open Go.RowKit

section
variable {P : Program} {ops : Array Oper} {Q : Exit → Act → World → Prop} {S : World → Prop} {a : Act} {w : World} {o : Oper} {i d : Nat} {r : List (Nat × Bool)} {v : Value}

/-- The walk in the order told: (i, true): number i is taken first; (i, false): number i alone may come up. -/
def wpTxt (P : Program) (ops : Array Oper) (Q : Exit → Act → World → Prop) (S : World → Prop) : List (Nat × Bool) → Act → World → Prop
  | [], a, w => Q .normal a w
  | (i, true) :: r, a, w => ∃ o v, ops[i]? = some o ∧ YieldsIf P ops S o v a ∧ wpTxt P ops Q S r (a.put o.dst v) w
  | (i, false) :: r, a, w => wpOp P ops Q i (fun a' w' => S w' ∧ wpTxt P ops Q S r a' w') a w
/-- May the operations come up so? -/
def txtOk (md : Region.Mode) (ops : Array Oper) : List (Nat × Bool) → Array Bool → Bool
  | [], l => Region.ready md ops l == []
  | (i, true) :: r, l => Region.free md ops l i && (Region.ready md ops l).contains i && txtOk md ops r (l.setIfInBounds i true)
  | (i, false) :: r, l => Region.ready md ops l == [i] && txtOk md ops r (l.setIfInBounds i true)
theorem txt_any (hs : Region.noSelect ops = true) (hQ : ∀ c a d v w, Q (.panic c) (a.put d v) w → Q (.panic c) a w) : ∀ (L : List (Nat × Bool)) (l : Array Bool) (a : Act) (w : World),
    txtOk .any ops L l = true → S w → wpTxt P ops Q S L a w → wpAnyH P .any ops Q S L.length l a w
  | [], l, a, w, hk, _, h => by
    simp only [txtOk, beq_iff_eq] at hk
    exact wpAnyH_done hk h 0
  | (i, true) :: r, l, a, w, hk, hS, h => by
    simp only [txtOk, Bool.and_eq_true] at hk
    obtain ⟨o, v, ho, hy, h⟩ := h
    exact wpAnyH_take ho hs hk.1.1 hk.1.2 (fun c a w => hQ c a _ _ w) hy hS (txt_any hs hQ r _ _ _ hk.2 hS h)
  | (i, false) :: r, l, a, w, hk, hS, h => by
    simp only [txtOk, Bool.and_eq_true, beq_iff_eq] at hk
    refine wpAnyH_all hk.1 (by simp) (fun j hj => ?_)
    rw [List.mem_singleton.1 hj]
    exact wpOp_mono (fun a' w' ⟨h1, h2⟩ => ⟨h1, txt_any hs hQ r _ _ _ hk.2 h1 h2⟩) h
/-- The beginning. -/
theorem wp_region_txt (L : List (Nat × Bool)) {id : Nat} (hm : P.follows .mixedOrders = true) (hs : (Region.noSelect ops && txtOk .any ops L (Array.replicate ops.size false) && L.length == ops.size) = true)
    (hQ : ∀ c a d v w, Q (.panic c) (a.put d v) w → Q (.panic c) a w) (hS : S w.drew) (h : wpTxt P ops Q S L a w.drew) : (Code.region id ops true).wp P Q a w := by
  simp only [Bool.and_eq_true, beq_iff_eq] at hs
  refine wp_region_held_drew hm hS (fun _ => ?_)
  rw [← hs.2]
  rw [← hs.2] at hs
  exact txt_any hs.1.1 hQ L _ _ _ (by rw [hs.2]; rw [hs.2] at hs; exact hs.1.2) hS h

/-- A frame of which one slot was written. -/
structure Upd (a a' : Act) (d : Nat) (v : Value) : Prop where
  ne : ∀ j, j ≠ d → a'.tmps[j]? = a.tmps[j]?
  eq : d < a.tmps.size → a'.tmps[d]? = some v
  size : a'.tmps.size = a.tmps.size
  df : a'.defers = a.defers
theorem upd_put (a : Act) (d : Nat) (v : Value) : Upd a (a.put (some d) v) d v :=
  ⟨fun j hj => by simp only [Act.put]; exact Array.getElem?_setIfInBounds_ne (Ne.symm hj), fun h => by simp only [Act.put]; simp [h], by simp [Act.put], by simp [Act.put]⟩
theorem Upd.keep {a' : Act} {u x : Value} {j : Nat} (h : Upd a a' d u) (hne : j ≠ d) (hx : a.tmps[j]? = some x) : a'.tmps[j]? = some x := (h.ne j hne).trans hx
theorem eval_of {j : Nat} {x : Value} (h : a.tmps[j]? = some x) : a.eval (.tmp j) = x := by
  simp [Act.eval, Array.getD_eq_getD_getElem?, h]

theorem want_none (hg : o.guard = none) : Region.wanted o (yielded ops a.tmps) = true := by unfold Region.wanted; rw [hg]
theorem want_some {og : Oper} {g dg : Nat} {b : Bool} (hg : o.guard = some (g, b)) (ho : ops[g]? = some og) (hd : og.dst = some dg) (ht : a.tmps[dg]? = some (.bool b)) : Region.wanted o (yielded ops a.tmps) = true := by
  unfold Region.wanted; rw [hg]; simp [yielded, ho, hd, ht]

theorem txt_take (ho : ops[i]? = some o) (hd : o.dst = some d) (hw : Region.wanted o (yielded ops a.tmps) = true) (hy : ∀ w, S w → (execOp a.eval o).run P w = .ok (.value v) w) (h : ∀ a', Upd a a' d v → wpTxt P ops Q S r a' w) : wpTxt P ops Q S ((i, true) :: r) a w :=
  ⟨o, v, ho, Or.inl ⟨hw, hy⟩, by rw [hd]; exact h _ (upd_put _ _ _)⟩
theorem txt_move {s : Nat} (ho : ops[i]? = some o) (hop : o.op = .move (.tmp s)) (hd : o.dst = some d) (hw : Region.wanted o (yielded ops a.tmps) = true) (hs : a.tmps[s]? = some v) (h : ∀ a', Upd a a' d v → wpTxt P ops Q S r a' w) : wpTxt P ops Q S ((i, true) :: r) a w :=
  txt_take ho hd hw (fun w _ => by simp [go_sem, execOp, hop, hs]) h
theorem txt_assign {s : Nat} (ho : ops[i]? = some o) (hop : o.op = .assign (.tmp s)) (hd : o.dst = some d) (hw : Region.wanted o (yielded ops a.tmps) = true) (hs : a.tmps[s]? = some v) (h : ∀ a', Upd a a' d v → wpTxt P ops Q S r a' w) : wpTxt P ops Q S ((i, true) :: r) a w :=
  txt_take ho hd hw (fun w _ => by simp [go_sem, execOp, hop, hs]) h
theorem txt_pick {g s : Nat} {c : Operand} (ho : ops[i]? = some o) (hop : o.op = .pick (.tmp g) (.tmp s) c) (hd : o.dst = some d) (hw : Region.wanted o (yielded ops a.tmps) = true) (hg : a.tmps[g]? = some (.bool true)) (hs : a.tmps[s]? = some v) (h : ∀ a', Upd a a' d v → wpTxt P ops Q S r a' w) : wpTxt P ops Q S ((i, true) :: r) a w :=
  txt_take ho hd hw (fun w _ => by simp [go_sem, execOp, hop, hs, hg]) h
theorem txt_call {f : FuncId} {args : Array Value} (ho : ops[i]? = some o) (hd : o.dst = some d) (hw : Region.wanted o (yielded ops a.tmps) = true) (hr : ∀ w, (execOp a.eval o).run P w = .ok (.enter f args) w)
    (hc : Calls P f args w fun e w' => ∃ v, e = .returned v ∧ S w' ∧ ∀ a', Upd a a' d v → wpTxt P ops Q S r a' w') : wpTxt P ops Q S ((i, false) :: r) a w := by
  unfold wpTxt wpOp
  simp only [ho, hw, if_true]
  left
  unfold Oper.wp
  rw [hr w, Oper.upon_enter]
  refine hc.mono ?_
  rintro e w' ⟨v, rfl, h1, h2⟩
  exact ⟨h1, by rw [hd]; exact h2 _ (upd_put _ _ _)⟩
end

section
variable {a : Act} {o : Oper}
theorem run_load24 {s b n c : Nat} {x : Option Addr} {w : World} (hop : o.op = .load 24 (.tmp s)) (hs : a.tmps[s]? = some (.pointer (some ⟨b, 0, none⟩))) (hc : w.cell? ⟨b, 0, none⟩ = some (.slice x n c)) :
    (execOp a.eval o).run Tryd.prog w = .ok (.value (.agg #[.slice x n c])) w := by
  obtain ⟨d, op, t, p, af, g⟩ := o
  subst hop
  simp [go_sem, hs, hc]
theorem run_call2 {f s1 s2 : Nat} {ts : Array TypeId} {v1 v2 : Value} {ca : Call} (hop : o.op = .call ca) (hca : ca = { callee := .value (.func f), args := #[.tmp s1, .tmp s2], argTypes := ts }) (h1 : a.tmps[s1]? = some v1) (h2 : a.tmps[s2]? = some v2) (hf : ∀ w, Sem.run Tryd.prog (callFunc f #[v1, v2]) w = .ok (.enter f #[v1, v2]) w) :
    ∀ w, (execOp a.eval o).run Tryd.prog w = .ok (.enter f #[v1, v2]) w := by
  intro w
  obtain ⟨d, op, t, p, af, g⟩ := o
  subst hca
  subst hop
  simp [go_sem, h1, h2, hf]
theorem run_clo2 {f s0 s1 s2 : Nat} {ts : Array TypeId} {v1 v2 : Value} {ca : Call} (hop : o.op = .call ca) (hca : ca = { callee := .value (.tmp s0), args := #[.tmp s1, .tmp s2], argTypes := ts }) (h0 : a.tmps[s0]? = some (.func (.func f) #[] #[])) (h1 : a.tmps[s1]? = some v1) (h2 : a.tmps[s2]? = some v2) (hf : ∀ w, Sem.run Tryd.prog (callFunc f #[v1, v2]) w = .ok (.enter f #[v1, v2]) w) :
    ∀ w, (execOp a.eval o).run Tryd.prog w = .ok (.enter f #[v1, v2]) w := by
  intro w
  obtain ⟨d, op, t, p, af, g⟩ := o
  subst hca
  subst hop
  simp [go_sem, h0, h1, h2, hf]
theorem run_call1c {f : Nat} {ts : Array TypeId} {v1 : Value} {ca : Call} (hop : o.op = .call ca) (hca : ca = { callee := .value (.func f), args := #[.const v1], argTypes := ts }) (hf : ∀ w, Sem.run Tryd.prog (callFunc f #[v1]) w = .ok (.enter f #[v1]) w) :
    ∀ w, (execOp a.eval o).run Tryd.prog w = .ok (.enter f #[v1]) w := by
  intro w
  obtain ⟨d, op, t, p, af, g⟩ := o
  subst hca
  subst hop
  simp [go_sem, hf]
theorem run_eqnil {s : Nat} {t1 t2 : TypeId} {w : World} (hop : o.op = .binOp .eql t1 (.tmp s) (.const .nilIface) t2) (hs : a.tmps[s]? = some .nilIface) (hb : ∀ w, Sem.run Tryd.prog (binOp .eql t1 .nilIface .nilIface) w = .ok (.bool true) w) :
    (execOp a.eval o).run Tryd.prog w = .ok (.value (.bool true)) w := by
  obtain ⟨d, op, t, p, af, g⟩ := o
  subst hop
  simp [go_sem, hs, hb]
end
end Go.Proofs.YtdeaficdfooegaaDoor
