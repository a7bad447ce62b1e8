/- (Its general part.) A region that draws its order, walked in one order of one's own choice with the frame a letter: what lies in a slot is told by facts. For regions with many operations. -/
import Derived.Deep.RegionHeld3
import Derived.WalkKit
import Derived.Test.YtpnchjbdjcihfaaGreatDoorProg
namespace Go.Proofs.YtpnchjbdjcihfaaGreatDoor
open Go.RowKit

section
variable {P : Program} {ops : Array Oper} {Q : Exit → Act → World → Prop} {S : World → Prop} {a : Act} {w : World} {o : Oper} {i d : Nat} {r : List (Nat × Bool)} {v : Value}

/-- The walk in the order told: (i, true): number i is taken first; (i, false): number i alone may come up. -/
def wpTxt (P : Program) (ops : Array Oper) (Q : Exit → Act → World → Prop) (S : World → Prop) : List (Nat × Bool) → Act → World → Prop
  | [], a, w => Q .normal a w
  | (i, true) :: r, a, w => ∃ o v, ops[i]? = some o ∧ YieldsIf P ops S o v a ∧ wpTxt P ops Q S r (a.put o.dst v) w
  | (i, false) :: r, a, w => wpOp P ops Q i (fun a' w' => S w' ∧ wpTxt P ops Q S r a' w') a w
/-- May the operations come up so? -/
def txtOk (md : Region.Mode) (ops : Array Oper) : List (Nat × Bool) → Array Bool → Bool
  | [], l => Region.ready md ops l == []
  | (i, true) :: r, l => Region.free md ops l i && (Region.ready md ops l).contains i && txtOk md ops r (l.setIfInBounds i true)
  | (i, false) :: r, l => Region.ready md ops l == [i] && txtOk md ops r (l.setIfInBounds i true)
theorem txt_any (hs : Region.noSelect ops = true) (hQ : ∀ c a d v w, Q (.panic c) (a.put d v) w → Q (.panic c) a w) : ∀ (L : List (Nat × Bool)) (l : Array Bool) (a : Act) (w : World),
    txtOk .any ops L l = true → S w → wpTxt P ops Q S L a w → wpAnyH P .any ops Q S L.length l a w
  | [], l, a, w, hk, _, h => by
    simp only [txtOk, beq_iff_eq] at hk
    exact wpAnyH_done hk h 0
  | (i, true) :: r, l, a, w, hk, hS, h => by
    simp only [txtOk, Bool.and_eq_true] at hk
    obtain ⟨o, v, ho, hy, h⟩ := h
    exact wpAnyH_take ho hs hk.1.1 hk.1.2 (fun c a w => hQ c a _ _ w) hy hS (txt_any hs hQ r _ _ _ hk.2 hS h)
  | (i, false) :: r, l, a, w, hk, hS, h => by
    simp only [txtOk, Bool.and_eq_true, beq_iff_eq] at hk
    refine wpAnyH_all hk.1 (by simp) (fun j hj => ?_)
    rw [List.mem_singleton.1 hj]
    exact wpOp_mono (fun a' w' ⟨h1, h2⟩ => ⟨h1, txt_any hs hQ r _ _ _ hk.2 h1 h2⟩) h
/-- The beginning. -/
theorem wp_region_txt (L : List (Nat × Bool)) {id : Nat} (hm : P.follows .mixedOrders = true) (hs : (Region.noSelect ops && txtOk .any ops L (Array.replicate ops.size false) && L.length == ops.size) = true)
    (hQ : ∀ c a d v w, Q (.panic c) (a.put d v) w → Q (.panic c) a w) (hS : S w.drew) (h : wpTxt P ops Q S L a w.drew) : (Code.region id ops true).wp P Q a w := by
  simp only [Bool.and_eq_true, beq_iff_eq] at hs
  refine wp_region_held_drew hm hS (fun _ => ?_)
  rw [← hs.2]
  rw [← hs.2] at hs
  exact txt_any hs.1.1 hQ L _ _ _ (by rw [hs.2]; rw [hs.2] at hs; exact hs.1.2) hS h

/-- A frame of which one slot was written. -/
structure Upd (a a' : Act) (d : Nat) (v : Value) : Prop where
  ne : ∀ j, j ≠ d → a'.tmps[j]? = a.tmps[j]?
  eq : d < a.tmps.size → a'.tmps[d]? = some v
  size : a'.tmps.size = a.tmps.size
  df : a'.defers = a.defers
theorem upd_put (a : Act) (d : Nat) (v : Value) : Upd a (a.put (some d) v) d v :=
  ⟨fun j hj => by simp only [Act.put]; exact Array.getElem?_setIfInBounds_ne (Ne.symm hj), fun h => by simp only [Act.put]; simp [h], by simp [Act.put], by simp [Act.put]⟩
theorem Upd.keep {a' : Act} {u x : Value} {j : Nat} (h : Upd a a' d u) (hne : j ≠ d) (hx : a.tmps[j]? = some x) : a'.tmps[j]? = some x := (h.ne j hne).trans hx
theorem eval_of {j : Nat} {x : Value} (h : a.tmps[j]? = some x) : a.eval (.tmp j) = x := by
  simp [Act.eval, Array.getD_eq_getD_getElem?, h]

theorem want_none (hg : o.guard = none) : Region.wanted o (yielded ops a.tmps) = true := by unfold Region.wanted; rw [hg]
theorem want_some {og : Oper} {g dg : Nat} {b : Bool} (hg : o.guard = some (g, b)) (ho : ops[g]? = some og) (hd : og.dst = some dg) (ht : a.tmps[dg]? = some (.bool b)) : Region.wanted o (yielded ops a.tmps) = true := by
  unfold Region.wanted; rw [hg]; simp [yielded, ho, hd, ht]

theorem txt_take (ho : ops[i]? = some o) (hd : o.dst = some d) (hw : Region.wanted o (yielded ops a.tmps) = true) (hy : ∀ w, S w → (execOp a.eval o).run P w = .ok (.value v) w) (h : ∀ a', Upd a a' d v → wpTxt P ops Q S r a' w) : wpTxt P ops Q S ((i, true) :: r) a w :=
  ⟨o, v, ho, Or.inl ⟨hw, hy⟩, by rw [hd]; exact h _ (upd_put _ _ _)⟩
theorem txt_move {s : Nat} (ho : ops[i]? = some o) (hop : o.op = .move (.tmp s)) (hd : o.dst = some d) (hw : Region.wanted o (yielded ops a.tmps) = true) (hs : a.tmps[s]? = some v) (h : ∀ a', Upd a a' d v → wpTxt P ops Q S r a' w) : wpTxt P ops Q S ((i, true) :: r) a w :=
  txt_take ho hd hw (fun w _ => by simp [go_sem, execOp, hop, hs]) h
theorem txt_assign {s : Nat} (ho : ops[i]? = some o) (hop : o.op = .assign (.tmp s)) (hd : o.dst = some d) (hw : Region.wanted o (yielded ops a.tmps) = true) (hs : a.tmps[s]? = some v) (h : ∀ a', Upd a a' d v → wpTxt P ops Q S r a' w) : wpTxt P ops Q S ((i, true) :: r) a w :=
  txt_take ho hd hw (fun w _ => by simp [go_sem, execOp, hop, hs]) h
theorem txt_pick {g s : Nat} {c : Operand} (ho : ops[i]? = some o) (hop : o.op = .pick (.tmp g) (.tmp s) c) (hd : o.dst = some d) (hw : Region.wanted o (yielded ops a.tmps) = true) (hg : a.tmps[g]? = some (.bool true)) (hs : a.tmps[s]? = some v) (h : ∀ a', Upd a a' d v → wpTxt P ops Q S r a' w) : wpTxt P ops Q S ((i, true) :: r) a w :=
  txt_take ho hd hw (fun w _ => by simp [go_sem, execOp, hop, hs, hg]) h
theorem txt_call {f : FuncId} {args : Array Value} (ho : ops[i]? = some o) (hd : o.dst = some d) (hw : Region.wanted o (yielded ops a.tmps) = true) (hr : ∀ w, (execOp a.eval o).run P w = .ok (.enter f args) w)
    (hc : Calls P f args w fun e w' => ∃ v, e = .returned v ∧ S w' ∧ ∀ a', Upd a a' d v → wpTxt P ops Q S r a' w') : wpTxt P ops Q S ((i, false) :: r) a w := by
  unfold wpTxt wpOp
  simp only [ho, hw, if_true]
  left
  unfold Oper.wp
  rw [hr w, Oper.upon_enter]
  refine hc.mono ?_
  rintro e w' ⟨v, rfl, h1, h2⟩
  exact ⟨h1, by rw [hd]; exact h2 _ (upd_put _ _ _)⟩
end

section
variable {P : Program} {ops : Array Oper} {Q : Exit → Act → World → Prop} {S : World → Prop} {a : Act} {w : World} {o : Oper} {i d : Nat} {r : List (Nat × Bool)} {v : Value}
theorem want_no {og : Oper} {g dg : Nat} {b : Bool} (hg : o.guard = some (g, b)) (ho : ops[g]? = some og) (hd : og.dst = some dg) (ht : a.tmps[dg]? = some (.bool (!b))) : Region.wanted o (yielded ops a.tmps) = false := by
  unfold Region.wanted; rw [hg]; cases b <;> simp [yielded, ho, hd, ht]
theorem want_undef {og : Oper} {g dg : Nat} {b : Bool} (hg : o.guard = some (g, b)) (ho : ops[g]? = some og) (hd : og.dst = some dg) (ht : a.tmps[dg]? = some undef) : Region.wanted o (yielded ops a.tmps) = false := by
  unfold Region.wanted; rw [hg]; cases b <;> simp [yielded, ho, hd, ht, undef]
theorem txt_skip (ho : ops[i]? = some o) (hd : o.dst = some d) (hw : Region.wanted o (yielded ops a.tmps) = false) (h : ∀ a', Upd a a' d undef → wpTxt P ops Q S r a' w) : wpTxt P ops Q S ((i, true) :: r) a w :=
  ⟨o, undef, ho, Or.inr ⟨hw, rfl⟩, by rw [hd]; exact h _ (upd_put _ _ _)⟩
theorem txt_pickv {g : Nat} {x y : Operand} {bb : Bool} (ho : ops[i]? = some o) (hop : o.op = .pick (.tmp g) x y) (hd : o.dst = some d) (hw : Region.wanted o (yielded ops a.tmps) = true) (hg : a.tmps[g]? = some (.bool bb)) (hv : (if bb then a.eval x else a.eval y) = v) (h : ∀ a', Upd a a' d v → wpTxt P ops Q S r a' w) : wpTxt P ops Q S ((i, true) :: r) a w :=
  txt_take ho hd hw (fun w _ => by
    subst hv
    cases bb <;> simp [go_sem, execOp, hop, hg]) h
end
/-- The operations of a region. -/
def findR (n : Nat) : Code → Option (Array Oper)
  | .region k ops _ => if k = n then some ops else none
  | .seq a b => match findR n a with
    | some c => some c
    | none => findR n b
  | .block _ c => findR n c
  | .scope c => findR n c
  | .cond _ a b => match findR n a with
    | some c => some c
    | none => findR n b
  | .loop c => findR n c
  | _ => none
theorem op_fact {ops : Array Oper} {i : Nat} {x : Op × Option Nat × Option (Nat × Bool)} (h : (ops[i]?).map (fun o => (o.op, o.dst, o.guard)) = some x) : ∃ o, ops[i]? = some o ∧ o.op = x.1 ∧ o.dst = x.2.1 ∧ o.guard = x.2.2 := by
  cases e : ops[i]? with
  | none => rw [e] at h; cases h
  | some o => rw [e] at h; simp only [Option.map_some, Option.some.injEq] at h; subst h; exact ⟨o, rfl, rfl, rfl, rfl⟩
end Go.Proofs.YtpnchjbdjcihfaaGreatDoor
