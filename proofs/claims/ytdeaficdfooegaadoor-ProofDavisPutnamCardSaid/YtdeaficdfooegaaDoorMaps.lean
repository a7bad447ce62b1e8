/- Maps that the call itself makes, as lists of pairs; look-ups and stores as laws at the operation. -/
import Derived.Test.YtdeaficdfooegaaDoorHeap
import Derived.Maps.OwnOps
import Derived.MapKept
namespace Go.Proofs.YtdeaficdfooegaaDoor
open Go.RowKit

section
variable {α : Type}
section
variable [DecidableEq α]
/-- Where a key stands first, and what stands there. -/
def assocIdx (x : α) : List (α × Value) → Option (Nat × Value)
  | [] => none
  | p :: l => if p.1 = x then some (0, p.2) else (assocIdx x l).map fun q => (q.1 + 1, q.2)
def assoc (m : List (α × Value)) (x : α) : Option Value := (assocIdx x m).map (·.2)
def putAssoc (m : List (α × Value)) (x : α) (v : Value) : List (α × Value) :=
  match assocIdx x m with
  | some (i, _) => m.set i (x, v)
  | none => m ++ [(x, v)]

theorem assocIdx_some {x : α} {i : Nat} {v : Value} : ∀ {m : List (α × Value)}, assocIdx x m = some (i, v) → m[i]? = some (x, v)
  | [], h => by cases h
  | p :: l, h => by
    unfold assocIdx at h
    split at h
    · rename_i e
      simp only [Option.some.injEq, Prod.mk.injEq] at h
      obtain ⟨rfl, rfl⟩ := h
      subst e; rfl
    · obtain ⟨⟨j, u⟩, h1, h2⟩ := Option.map_eq_some_iff.1 h
      simp only [Prod.mk.injEq] at h2
      obtain ⟨rfl, rfl⟩ := h2
      simpa using assocIdx_some h1
theorem assocIdx_none {x : α} : ∀ {m : List (α × Value)}, assocIdx x m = none → ∀ p ∈ m, p.1 ≠ x
  | [], _, p, hp => by cases hp
  | q :: l, h, p, hp => by
    unfold assocIdx at h
    split at h
    · cases h
    · rename_i e
      rcases List.mem_cons.1 hp with rfl | hp
      · exact e
      · exact assocIdx_none (by simpa using h) p hp

theorem assocIdx_append {x y : α} {v : Value} : ∀ (m : List (α × Value)), assocIdx y (m ++ [(x, v)]) = match assocIdx y m with | some r => some r | none => if x = y then some (m.length, v) else none
  | [] => by simp [assocIdx]
  | p :: l => by
    simp only [List.cons_append, assocIdx]
    split
    · rfl
    · rw [assocIdx_append l]
      cases assocIdx y l with
      | some r => rfl
      | none => simp only [Option.map_none]; split <;> simp
theorem assoc_set {x y : α} {u v : Value} : ∀ {m : List (α × Value)} {i : Nat}, assocIdx x m = some (i, u) → assoc (m.set i (x, v)) y = if x = y then some v else assoc m y
  | [], _, h => by cases h
  | p :: l, i, h => by
    unfold assocIdx at h
    split at h
    · rename_i e
      simp only [Option.some.injEq, Prod.mk.injEq] at h
      obtain ⟨rfl, rfl⟩ := h
      subst e
      simp only [List.set_cons_zero, assoc, assocIdx]
      split <;> simp
    · rename_i e
      obtain ⟨⟨j, u'⟩, h1, h2⟩ := Option.map_eq_some_iff.1 h
      simp only [Prod.mk.injEq] at h2
      obtain ⟨rfl, rfl⟩ := h2
      have ih := assoc_set (y := y) (v := v) h1
      simp only [List.set_cons_succ, assoc, assocIdx]
      simp only [assoc] at ih
      by_cases e2 : p.1 = y
      · rw [if_pos e2, if_pos e2, if_neg (fun e3 => e (by rw [e2, e3]))]
      · rw [if_neg e2, if_neg e2]
        simp only [Option.map_map]
        rw [show ((fun q : Nat × Value => q.2) ∘ fun q : Nat × Value => (q.1 + 1, q.2)) = fun q => q.2 from rfl]
        exact ih
theorem assoc_put (m : List (α × Value)) (x y : α) (v : Value) : assoc (putAssoc m x v) y = if x = y then some v else assoc m y := by
  unfold putAssoc
  cases h : assocIdx x m with
  | some r => obtain ⟨i, u⟩ := r; exact assoc_set h
  | none =>
    simp only [assoc, assocIdx_append]
    by_cases e : x = y
    · subst e; simp [h]
    · simp only [if_neg e]
      cases assocIdx y m <;> rfl
theorem assoc_nil (x : α) : assoc ([] : List (α × Value)) x = none := rfl

theorem put_keys {m : List (α × Value)} {x : α} {v : Value} {i : Nat} {u : Value} (h : assocIdx x m = some (i, u)) : (m.set i (x, v)).map (·.1) = m.map (·.1) := by
  have h1 := assocIdx_some h
  apply List.ext_getElem?
  intro j
  simp only [List.getElem?_map, List.getElem?_set]
  split
  · rename_i e
    subst e
    obtain ⟨hi, h2⟩ := List.getElem?_eq_some_iff.1 h1
    simp [hi, h2]
  · rfl

theorem run_getObjM {P : Program} {w : World} {r : Nat} {es : Array MapEntry} {clock : Nat} (hb : w.heap[r]? = some (.map es clock)) : (getObj r).run P w = .ok (.map es clock) w := by simp [getObj, Sem.run, hb]
theorem run_setObjM {P : Program} {w : World} {r : Nat} {es : Array MapEntry} {clock : Nat} (o : Obj) (hb : w.heap[r]? = some (.map es clock)) : (setObj r o).run P w = .ok () { w with heap := w.heap.setIfInBounds r o } := by simp [setObj, Sem.run, hb]

/-- What the walk asks of a type of keys. -/
structure KeyTy (P : Program) (kt : TypeId) (enc : α → Value) : Prop where
  check : ∀ (b : Bool) (x : α) (w : World), (Instr.checkKey b 10000 kt (enc x)).run P w = .ok () w
  find : ∀ (x : α) (ms : List (α × Value)) (es : List MapEntry), es.map (fun e => (e.key, e.val)) = ms.map (fun p => (enc p.1, p.2)) → ∀ w, (Instr.findKey kt (enc x) es).run P w = .ok (assocIdx x ms) w
  bits : ∀ x : α, Instr.sameBits 10000 (enc x) (enc x) = true

end
/-- Block b is a map that holds the pairs m, in the order in which the keys came. -/
def MapOf (w : World) (b : Nat) (enc : α → Value) (m : List (α × Value)) : Prop :=
  ∃ es clock, w.heap[b]? = some (.map es clock) ∧ es.toList.map (fun e => (e.key, e.val)) = m.map (fun p => (enc p.1, p.2)) ∧ (m.map (·.1)).Nodup ∧
    (es.toList.map (·.born)).Pairwise (· < ·) ∧ ∀ e ∈ es.toList, e.born < clock

theorem MapOf.lt {w : World} {b : Nat} {enc : α → Value} {m : List (α × Value)} (h : MapOf w b enc m) : b < w.heap.size := by
  obtain ⟨es, clock, hb, _⟩ := h
  exact (Array.getElem?_eq_some_iff.1 hb).1
theorem MapOf.below {w w' : World} {b : Nat} {enc : α → Value} {m : List (α × Value)} (h : MapOf w b enc m) (hb : Below (b + 1) w w') : MapOf w' b enc m := by
  obtain ⟨es, clock, h1, h2⟩ := h
  exact ⟨es, clock, by rw [hb.block b (by omega)]; exact h1, h2⟩
theorem mapOf_new (w : World) (enc : α → Value) : MapOf (w.alloc (.map #[] 0)) w.heap.size enc [] :=
  ⟨#[], 0, heap_alloc_new w _, rfl, List.nodup_nil, List.Pairwise.nil, fun e he => by cases he⟩
theorem MapOf.block_eq {w w' : World} {b : Nat} {enc : α → Value} {m : List (α × Value)} (h : MapOf w b enc m) (hb : w'.heap[b]? = w.heap[b]?) : MapOf w' b enc m := by
  obtain ⟨es, clock, h1, h2⟩ := h
  exact ⟨es, clock, by rw [hb]; exact h1, h2⟩

section
variable [DecidableEq α]
theorem MapOf.lookup {P : Program} {w : World} {b : Nat} {kt et t : TypeId} {enc : α → Value} {m : List (α × Value)} (h : MapOf w b enc m) (K : KeyTy P kt enc) (ht : P.underlying t = some (.map kt et))
    {z : Value} (hz : (zeroValue et).run P w = .ok z w) (x : α) (ok : Bool) :
    (Instr.lookup t (.map (some b)) (enc x) ok).run P w = .ok (if ok then .tuple #[(assoc m x).getD z, .bool (assoc m x).isSome] else (assoc m x).getD z) w := by
  obtain ⟨es, clock, h1, h2, _⟩ := h
  simp only [Instr.lookup, Sem.run_bind, run_underlying ht, Result.andThen_ok, run_getObjM h1, Sem.run_pure, K.check, K.find x m es.toList h2]
  unfold assoc
  cases assocIdx x m with
  | none => simp only [Sem.run_bind, hz, Result.andThen_ok, Sem.run_pure]; rfl
  | some r => obtain ⟨i, v⟩ := r; simp only [Sem.run_bind, Result.andThen_ok, Sem.run_pure]; rfl

end
/-- A block takes another object. -/
def setObjW (w : World) (b : Nat) (o : Obj) : World := { w with heap := w.heap.setIfInBounds b o }

theorem setObjW_same {w : World} {b : Nat} (o : Obj) (h : b < w.heap.size) : (setObjW w b o).heap[b]? = some o := by simp [setObjW, h]
theorem setObjW_other {w : World} {b k : Nat} (o : Obj) (h : k ≠ b) : (setObjW w b o).heap[k]? = w.heap[k]? := by
  simp only [setObjW, Array.getElem?_setIfInBounds]; rw [if_neg (fun e => h e.symm)]
theorem setObjW_below {w : World} {B b : Nat} (o : Obj) (h : B ≤ b) : Below B w (setObjW w b o) :=
  ⟨rfl, rfl, rfl, by simp [setObjW], fun k hk => setObjW_other o (by omega)⟩

section
variable [DecidableEq α]
theorem MapOf.update {P : Program} {w : World} {b : Nat} {kt et t : TypeId} {enc : α → Value} {m : List (α × Value)} (h : MapOf w b enc m) (K : KeyTy P kt enc) (ht : P.underlying t = some (.map kt et))
    (x : α) (v : Value) : ∃ o, (Instr.mapUpdate t (.map (some b)) (enc x) v).run P w = .ok () (setObjW w b o) ∧ MapOf (setObjW w b o) b enc (putAssoc m x v) := by
  have hlt := h.lt
  obtain ⟨es, clock, h1, h2, h3, h4, h5⟩ := h
  have hrun : (Instr.mapUpdate t (.map (some b)) (enc x) v).run P w = (match assocIdx x m with
      | some (i, _) => (setObj b (.map (es.modify i fun e => { e with key := enc x, val := v }) clock)).run P w
      | none => (setObj b (.map (es.push { key := enc x, val := v, born := clock }) (clock + 1))).run P w) := by
    simp only [Instr.mapUpdate, Sem.run_bind, run_underlying ht, Result.andThen_ok, run_getObjM h1, K.check, K.find x m es.toList h2]
    cases hx : assocIdx x m with
    | none => rfl
    | some r =>
      obtain ⟨i, u⟩ := r
      have hi : es[i]?.map (fun e => (e.key, e.val)) = some (enc x, u) := by
        have h6 := assocIdx_some hx
        have h7 := congrArg (·[i]?) h2
        simp only [List.getElem?_map, h6, Option.map_some, Array.getElem?_toList] at h7
        exact h7
      obtain ⟨e, he, hek⟩ := Option.map_eq_some_iff.1 hi
      simp only [Prod.mk.injEq] at hek
      simp only [he, Option.map_some, Option.getD_some, hek.1, Instr.keyThatStays, K.bits, if_true, Sem.run_bind, Sem.run_pure, Result.andThen_ok]
  rw [hrun]
  cases hx : assocIdx x m with
  | none =>
    refine ⟨_, run_setObjM _ h1, _, _, setObjW_same _ hlt, ?_, ?_, ?_, ?_⟩
    · simp only [putAssoc, hx]; simp [h2]
    · simp only [putAssoc, hx, List.map_append, List.map_cons, List.map_nil]
      rw [List.nodup_append]
      refine ⟨h3, by simp, fun a ha c hc => ?_⟩
      simp only [List.mem_singleton] at hc
      subst hc
      obtain ⟨p, hp, rfl⟩ := List.mem_map.1 ha
      exact assocIdx_none hx p hp
    · simp only [Array.toList_push, List.map_append, List.map_cons, List.map_nil]
      rw [List.pairwise_append]
      refine ⟨h4, List.pairwise_singleton _ _, fun a ha c hc => ?_⟩
      simp only [List.mem_singleton] at hc
      subst hc
      obtain ⟨e, he, rfl⟩ := List.mem_map.1 ha
      exact h5 e he
    · intro e he
      simp only [Array.toList_push, List.mem_append, List.mem_singleton] at he
      rcases he with he | rfl
      · exact Nat.lt_succ_of_lt (h5 e he)
      · exact Nat.lt_succ_self _
  | some r =>
    obtain ⟨i, u⟩ := r
    have hkeys := put_keys (v := v) hx
    have hmod : ∀ j, (es.modify i fun e => { e with key := enc x, val := v })[j]? = (es[j]?).map fun e => if i = j then { e with key := enc x, val := v } else e := by
      intro j
      rw [Array.getElem?_modify]
      split
      · rfl
      · cases es[j]? <;> rfl
    have hborn : (es.modify i fun e => { e with key := enc x, val := v }).toList.map (·.born) = es.toList.map (·.born) := by
      apply List.ext_getElem?
      intro j
      simp only [List.getElem?_map, Array.getElem?_toList, hmod, Option.map_map]
      cases es[j]? with
      | none => rfl
      | some e => simp only [Option.map_some, Function.comp]; split <;> rfl
    refine ⟨_, run_setObjM _ h1, _, _, setObjW_same _ hlt, ?_, ?_, ?_, ?_⟩
    · simp only [putAssoc, hx]
      apply List.ext_getElem?
      intro j
      have h7 := congrArg (·[j]?) h2
      simp only [List.getElem?_map, Array.getElem?_toList] at h7
      simp only [List.getElem?_map, Array.getElem?_toList, hmod, List.getElem?_set, Option.map_map]
      by_cases e : i = j
      · subst e
        rw [assocIdx_some hx] at h7
        obtain ⟨e', he', _⟩ := Option.map_eq_some_iff.1 h7
        have hlen := (List.getElem?_eq_some_iff.1 (assocIdx_some hx)).1
        simp [he', hlen]
      · simp only [if_neg e]
        rw [← h7]
        cases es[j]? <;> rfl
    · simp only [putAssoc, hx, hkeys]; exact h3
    · rw [hborn]; exact h4
    · intro e he
      have : e.born ∈ es.toList.map (·.born) := by rw [← hborn]; exact List.mem_map.2 ⟨e, he, rfl⟩
      obtain ⟨e', he', h8⟩ := List.mem_map.1 this
      rw [← h8]; exact h5 e' he'

/-- A look-up at the operation. -/
theorem wpList_lookup_of {P : Program} {w : World} {ops : Array Oper} {rest : List Oper} {o : Oper} {a : Act} {Q : Exit → Act → World → Prop}
    (hg : o.guard = none) (m x : Operand) (t : TypeId) (ok : Bool) (hop : o.op = Op.lookup t m x ok) {kt et : TypeId} {enc : α → Value} (K : KeyTy P kt enc) (ht : P.underlying t = some (.map kt et))
    {z : Value} (hz : (zeroValue et).run P w = .ok z w) {b : Nat} (hm : a.eval m = .map (some b)) {l : List (α × Value)} (h : MapOf w b enc l) {k : α} (hx : a.eval x = enc k)
    (hK : wpList P ops Q rest (a.put o.dst (if ok then .tuple #[(assoc l k).getD z, .bool (assoc l k).isSome] else (assoc l k).getD z)) w) :
    wpList P ops Q (o :: rest) a w := by
  refine wpList_plain hg fun K' hK' => ?_
  have hrun := h.lookup K ht hz k ok
  unfold Oper.wp
  simp only [execOp, hop, hm, hx, hrun, Sem.run_bind, Result.andThen_ok, Sem.run_pure]
  exact hK' _ _ hK

/-- A store at the operation. -/
theorem wpList_mapUpdate_of {P : Program} {w : World} {ops : Array Oper} {rest : List Oper} {o : Oper} {a : Act} {Q : Exit → Act → World → Prop}
    (hg : o.guard = none) (m x v : Operand) (t : TypeId) (hop : o.op = Op.mapUpdate t m x v) {kt et : TypeId} {enc : α → Value} (K : KeyTy P kt enc) (ht : P.underlying t = some (.map kt et))
    {b : Nat} (hm : a.eval m = .map (some b)) {l : List (α × Value)} (h : MapOf w b enc l) {k : α} (hx : a.eval x = enc k) (u : Value) (hv : a.eval v = u)
    (hK : ∀ ob, MapOf (setObjW w b ob) b enc (putAssoc l k u) → wpList P ops Q rest (a.put o.dst undef) (setObjW w b ob)) :
    wpList P ops Q (o :: rest) a w := by
  refine wpList_plain hg fun K' hK' => ?_
  obtain ⟨ob, hrun, h2⟩ := h.update K ht k u
  unfold Oper.wp
  simp only [execOp, hop, hm, hx, hv, hrun, Sem.run_bind, Result.andThen_ok, Sem.run_pure]
  exact hK' _ _ (hK ob h2)
end
end

theorem sameBits_int (n : Nat) (q : IntKind) (x : Int) : Instr.sameBits n (.int q x) (.int q x) = true := by cases n <;> simp [Instr.sameBits]

theorem checkKey_int {P : Program} {kt : TypeId} {q : IntKind} (hk : P.underlying kt = some (.int q)) (n : Nat) (b : Bool) (x : Int) (w : World) : (Instr.checkKey b (n + 1) kt (.int q x)).run P w = .ok () w := by
  simp [Instr.checkKey, run_underlying hk]

/-- Integers as keys. -/
theorem intKey {P : Program} {kt : TypeId} {q : IntKind} (hk : P.underlying kt = some (.int q)) : KeyTy P kt (Value.int q) where
  check := fun b x w => checkKey_int hk 9999 b x w
  bits := fun x => sameBits_int _ q x
  find := by
    intro x ms es h w
    have key : ∀ (es : List MapEntry) (ms : List (Int × Value)) (i : Nat), es.map (fun e => (e.key, e.val)) = ms.map (fun p => (Value.int q p.1, p.2)) →
        Instr.findNow (.int q) (.int q x) es i = some ((assocIdx x ms).map fun r => (r.1 + i, r.2)) := by
      intro es
      induction es with
      | nil => intro ms i h; cases ms with
        | nil => rfl
        | cons p l => cases h
      | cons e es ih =>
        intro ms i h
        cases ms with
        | nil => cases h
        | cons p l =>
          simp only [List.map_cons, List.cons.injEq, Prod.mk.injEq] at h
          obtain ⟨⟨h1, h2⟩, h3⟩ := h
          simp only [Instr.findNow, h1, Instr.sameNow, if_true, assocIdx]
          by_cases e2 : p.1 = x
          · simp [e2, h2]
          · have e3 : (x == p.1) = false := by simp; exact fun h => e2 h.symm
            simp only [e3, if_neg e2, ih l (i + 1) h3, Option.map_map]
            congr 2
            funext r
            simp [Function.comp]; omega
    have h1 := key es ms 0 h
    simp only [Instr.findKey, Sem.run_bind, run_underlying hk, Result.andThen_ok, h1]
    simp
end Go.Proofs.YtdeaficdfooegaaDoor
