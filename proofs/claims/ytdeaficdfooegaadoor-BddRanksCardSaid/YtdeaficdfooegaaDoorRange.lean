/- Ranging over a map that the call has made: laws at the operation. -/
import Derived.Test.YtdeaficdfooegaaDoorMaps
import Derived.Test.YtdeaficdfooegaaDoorAMem
import Derived.Maps.RangeWalk
import Derived.Maps.OwnSet
namespace Go.Proofs.YtdeaficdfooegaaDoor
open Go.RowKit
open Go.ChangeMaps (setBlock)
set_option linter.unusedVariables false

theorem erase_map {α β : Type} (f : α → β) : ∀ (l : List α) (i : Nat), (l.eraseIdx i).map f = (l.map f).eraseIdx i
  | [], _ => rfl
  | x :: l, 0 => rfl
  | x :: l, i + 1 => by simp [erase_map f l i]
theorem filter_erase : ∀ (l : List MapEntry) (i : Nat) (e : MapEntry), l[i]? = some e → (l.map (·.born)).Nodup → l.filter (fun x => x.born != e.born) = l.eraseIdx i
  | [], _, _, h, _ => by simp at h
  | x :: l, 0, e, h, hn => by
    have e1 : x = e := by simpa using h
    subst e1
    simp only [List.map_cons, List.nodup_cons] at hn
    rw [List.filter_cons_of_neg (by simp), List.eraseIdx_cons_zero, List.filter_eq_self]
    intro y hy
    simp only [bne_iff_ne, ne_eq]
    intro e2
    exact hn.1 (List.mem_map.2 ⟨y, hy, e2⟩)
  | x :: l, i + 1, e, h, hn => by
    simp only [List.map_cons, List.nodup_cons] at hn
    have h' : l[i]? = some e := by simpa using h
    have hm : e ∈ l := List.mem_of_getElem? h'
    rw [List.filter_cons_of_pos (by
      simp only [bne_iff_ne, ne_eq]
      intro e2
      exact hn.1 (List.mem_map.2 ⟨e, hm, e2.symm⟩)), List.eraseIdx_cons_succ, filter_erase l i e h' hn.2]

section
variable {α : Type} {P : Program}
/-- Block r goes over the map in block b; left is still to come. -/
def IterOf (w : World) (r b : Nat) (enc : α → Value) (m left : List (α × Value)) : Prop :=
  ∃ es clock since seen c0, w.heap[b]? = some (.map es clock) ∧ es.toList.map (fun e => (e.key, e.val)) = m.map (fun p => (enc p.1, p.2)) ∧ (m.map (·.1)).Nodup ∧ (es.toList.map (·.born)).Pairwise (· < ·) ∧ (∀ e ∈ es.toList, e.born < clock) ∧
    w.heap[r]? = some (.mapIter (some b) since seen c0) ∧ (∀ x ∈ es.toList, x.born < since) ∧ since ≤ c0 ∧ since ≤ clock ∧ (∀ p ∈ left, p ∈ m) ∧ (leftOf es seen).toList.map (fun e => (e.key, e.val)) = left.map (fun p => (enc p.1, p.2))

theorem IterOf.map {w : World} {r b : Nat} {enc : α → Value} {m left : List (α × Value)} (h : IterOf w r b enc m left) : MapOf w b enc m := by
  obtain ⟨es, clock, since, seen, c0, h1, h2, h3, h4, h5, _⟩ := h
  exact ⟨es, clock, h1, h2, h3, h4, h5⟩
theorem IterOf.keep {w w' : World} {r b : Nat} {enc : α → Value} {m left : List (α × Value)} (h : IterOf w r b enc m left) (h1 : w'.heap[b]? = w.heap[b]?) (h2 : w'.heap[r]? = w.heap[r]?) : IterOf w' r b enc m left := by
  obtain ⟨es, clock, since, seen, c0, g1, g2, g3, g4, g5, g6, g7⟩ := h
  exact ⟨es, clock, since, seen, c0, by rw [h1]; exact g1, g2, g3, g4, g5, by rw [h2]; exact g6, g7⟩
theorem IterOf.lt {w : World} {r b : Nat} {enc : α → Value} {m left : List (α × Value)} (h : IterOf w r b enc m left) : b < w.heap.size ∧ r < w.heap.size ∧ b ≠ r := by
  obtain ⟨es, clock, since, seen, c0, g1, g2, g3, g4, g5, g6, g7⟩ := h
  exact ⟨(Array.getElem?_eq_some_iff.1 g1).1, (Array.getElem?_eq_some_iff.1 g6).1, fun e => by subst e; rw [g1] at g6; cases g6⟩
theorem IterOf.below {w w' : World} {r b : Nat} {enc : α → Value} {m left : List (α × Value)} (h : IterOf w r b enc m left) (hb : Below w.heap.size w w') : IterOf w' r b enc m left :=
  h.keep (hb.block _ h.lt.1) (hb.block _ h.lt.2.1)

theorem MapOf.range {w : World} {b : Nat} {kt et t : TypeId} {enc : α → Value} {m : List (α × Value)} (h : MapOf w b enc m) (ht : P.underlying t = some (.map kt et)) :
    ∃ w', (Instr.range t (.map (some b))).run P w = .ok (.pointer (some ⟨w.heap.size, 0, none⟩)) w' ∧ IterOf w' w.heap.size b enc m m ∧ Below w.heap.size w w' ∧ w'.heap.size = w.heap.size + 1 := by
  have hlt := h.lt
  obtain ⟨es, clock, h1, h2, h3, h4, h5⟩ := h
  refine ⟨w.alloc (.mapIter (some b) clock #[] clock), ?_, ⟨es, clock, clock, #[], clock, heap_up h1, h2, h3, h4, h5, heap_at rfl, h5, Nat.le_refl _, Nat.le_refl _, fun _ h => h, ?_⟩, (Below.refl _ _).alloc (Nat.le_refl _) _, by simp⟩
  · simp only [Instr.range, Sem.run_bind, run_underlying ht, Result.andThen_ok, run_getObjM h1, Sem.run_pure]
    rfl
  · have : leftOf es #[] = es := by simp [leftOf]
    rw [this]; exact h2

theorem setBlock_get {w : World} {r k : Nat} {o : Obj} (hr : r < w.heap.size) : (setBlock w r o).heap[k]? = if k = r then some o else w.heap[k]? := by
  simp only [setBlock, Array.getElem?_setIfInBounds]
  by_cases e : r = k
  · subst e; simp [hr]
  · rw [if_neg e, if_neg (fun e2 => e e2.symm)]

theorem IterOf.next {w : World} {r b : Nat} {enc : α → Value} {m left : List (α × Value)} (h : IterOf w r b enc m left) (ty : TypeId) :
    (left = [] ∧ (Instr.next (.pointer (some ⟨r, 0, none⟩)) false ty).run P w = .ok (.tuple #[.bool false]) w) ∨
    ∃ i p w', left[i]? = some p ∧ p ∈ m ∧ (Instr.next (.pointer (some ⟨r, 0, none⟩)) false ty).run P w = .ok (.tuple #[.bool true, enc p.1, p.2]) w' ∧ IterOf w' r b enc m (left.eraseIdx i) ∧ Only (· = r) w w' ∧ w'.heap.size = w.heap.size ∧
      (Instr.entry (.pointer (some ⟨r, 0, none⟩))).run P w' = .ok (.tuple #[enc p.1, p.2]) w' := by
  obtain ⟨hlb, hlr, hbr⟩ := h.lt
  obtain ⟨es, clock, since, seen, c0, g1, g2, g3, g4, g5, g6, g7, g8, g10, g11, g9⟩ := h
  have hnd : (es.toList.map (·.born)).Nodup := List.Pairwise.imp (fun h => Nat.ne_of_lt h) g4
  rcases run_next_at (P := P) w ty r b since c0 seen es clock g6 g1 g7 g8 with ⟨h0, hrun⟩ | ⟨e, he, w1, hw1, hrun⟩
  · left
    have : (leftOf es seen).toList = [] := List.eq_nil_of_length_eq_zero (by simpa using h0)
    rw [this] at g9
    exact ⟨List.map_eq_nil_iff.1 g9.symm, hrun⟩
  · right
    obtain ⟨i, hi⟩ := List.getElem?_of_mem he
    have hl : (left.map fun p => (enc p.1, p.2))[i]? = some (e.key, e.val) := by rw [← g9, List.getElem?_map, hi]; rfl
    rw [List.getElem?_map] at hl
    obtain ⟨p, hp, hpe⟩ := Option.map_eq_some_iff.1 hl
    simp only [Prod.mk.injEq] at hpe
    have hem : e ∈ es.toList := (mem_left he).1
    have hs1 : w1.heap = w.heap := by rcases hw1 with rfl | rfl <;> rfl
    have hlr1 : r < w1.heap.size := by rw [hs1]; exact hlr
    have hI : ∀ k, (setBlock w1 r (.mapIter (some b) since (seen.push e.born) clock)).heap[k]? = if k = r then some (.mapIter (some b) since (seen.push e.born) clock) else w.heap[k]? := fun k => by rw [setBlock_get hlr1, hs1]
    have hb2 : (setBlock w1 r (.mapIter (some b) since (seen.push e.born) clock)).heap[b]? = some (.map es clock) := by rw [hI, if_neg hbr]; exact g1
    have hr2 : (setBlock w1 r (.mapIter (some b) since (seen.push e.born) clock)).heap[r]? = some (.mapIter (some b) since (seen.push e.born) clock) := by rw [hI, if_pos rfl]
    have hsz : (setBlock w1 r (.mapIter (some b) since (seen.push e.born) clock)).heap.size = w.heap.size := by simp [setBlock, hs1]
    have hen := run_entry_at (P := P) _ r b since seen es clock e hr2 hb2 hem hnd
    have hleft : (leftOf es (seen.push e.born)).toList = (leftOf es seen).toList.eraseIdx i := by
      rw [← filter_erase _ i e hi]
      · unfold leftOf
        rw [Array.toList_filter, Array.toList_filter, List.filter_filter]
        apply List.filter_congr
        intro x _
        simp only [Array.contains_push, Bool.not_or, bne]
        cases x.born == e.born <;> cases seen.contains x.born <;> rfl
      · unfold leftOf
        rw [Array.toList_filter]
        exact List.Nodup.sublist (List.Sublist.map _ List.filter_sublist) hnd
    refine ⟨i, p, _, hp, g11 p (List.mem_of_getElem? hp), by rw [hpe.1, hpe.2]; exact hrun, ⟨es, clock, since, seen.push e.born, clock, hb2, g2, g3, g4, g5, hr2, g7, g10, g10, fun q hq => g11 q (List.mem_of_mem_eraseIdx hq), ?_⟩, ?_, hsz, by rw [hpe.1, hpe.2]; exact hen⟩
    · rw [hleft, erase_map, erase_map, g9]
    · refine ⟨?_, ?_, ?_, by rw [hsz]; exact Nat.le_refl _, fun k _ hk => by rw [hI, if_neg hk]⟩ <;> rcases hw1 with rfl | rfl <;> rfl
end

section
variable {α : Type} {P : Program} {w : World} {ops : Array Oper} {rest : List Oper} {o : Oper} {a : Act} {Q : Exit → Act → World → Prop}
theorem wpList_range_of (hg : o.guard = none) (m : Operand) (t : TypeId) (hop : o.op = Op.range t m) {kt et : TypeId} (ht : P.underlying t = some (.map kt et)) {b : Nat} {enc : α → Value} {l : List (α × Value)} (hm : a.eval m = .map (some b)) (h : MapOf w b enc l)
    (hK : ∀ w', IterOf w' w.heap.size b enc l l → Below w.heap.size w w' → w'.heap.size = w.heap.size + 1 → wpList P ops Q rest (a.put o.dst (.pointer (some ⟨w.heap.size, 0, none⟩))) w') : wpList P ops Q (o :: rest) a w := by
  refine wpList_plain hg fun K' hK' => ?_
  obtain ⟨w', hrun, r1, r2, r3⟩ := h.range ht
  unfold Oper.wp
  simp [execOp, hop, hm, hrun, Result.andThen]
  exact hK' _ _ (hK w' r1 r2 r3)
theorem wpList_len_of (hg : o.guard = none) (x : Operand) (t : TypeId) (hop : o.op = Op.call { callee := Callee.builtin Builtin.len, args := #[x], argTypes := #[t] }) {kt et : TypeId} (ht : P.underlying t = some (.map kt et)) {b : Nat} {enc : α → Value} {l : List (α × Value)} (hm : a.eval x = .map (some b)) (h : MapOf w b enc l)
    (hK : wpList P ops Q rest (a.put o.dst (.int .i64 l.length)) w) : wpList P ops Q (o :: rest) a w := by
  obtain ⟨es, clock, h1, h2, _⟩ := h
  have hsz : es.size = l.length := by simpa using congrArg List.length h2
  have hr : (Builtin.len_ #[t] o.type #[.map (some b)]).run P w = .ok (.int .i64 l.length) w := by
    simp [Builtin.len_, Sem.run_bind, run_underlying ht, run_getObjM h1, goInt, hsz]
  refine wpList_plain hg fun K' hK' => ?_
  unfold Oper.wp
  simp [execOp, hop, resolve, invoke, builtin, hm, hr, Result.andThen]
  exact hK' _ _ hK
theorem wpList_next_of (hg : o.guard = none) (it : Operand) (hop : o.op = Op.next it false) {r b : Nat} {enc : α → Value} {m left : List (α × Value)} (hit : a.eval it = .pointer (some ⟨r, 0, none⟩)) (h : IterOf w r b enc m left)
    (hDone : left = [] → wpList P ops Q rest (a.put o.dst (.tuple #[.bool false])) w)
    (hMore : ∀ i p w', left[i]? = some p → p ∈ m → IterOf w' r b enc m (left.eraseIdx i) → Only (· = r) w w' → w'.heap.size = w.heap.size → (Instr.entry (.pointer (some ⟨r, 0, none⟩))).run P w' = .ok (.tuple #[enc p.1, p.2]) w' →
      wpList P ops Q rest (a.put o.dst (.tuple #[.bool true, enc p.1, p.2])) w') : wpList P ops Q (o :: rest) a w := by
  refine wpList_plain hg fun K' hK' => ?_
  unfold Oper.wp
  rcases h.next (P := P) o.type with ⟨h0, hrun⟩ | ⟨i, p, w', hp, hm, hrun, hi, ho, hsz, hen⟩
  · simp [execOp, hop, hit, hrun, Result.andThen]
    exact hK' _ _ (hDone h0)
  · simp [execOp, hop, hit, hrun, Result.andThen]
    exact hK' _ _ (hMore i p w' hp hm hi ho hsz hen)
end
end Go.Proofs.YtdeaficdfooegaaDoor
