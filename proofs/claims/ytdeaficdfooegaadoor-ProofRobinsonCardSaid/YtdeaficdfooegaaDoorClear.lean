/- clear, of a row and of a map: laws at the operation. -/
import Derived.Test.YtdeaficdfooegaaDoorMaps
import Derived.Laws.Tables
namespace Go.Proofs.YtdeaficdfooegaaDoor
open Go.RowKit
set_option linter.unusedVariables false

section
variable {P : Program}
theorem run_clear_row {w : World} {t e ty : TypeId} {z : Value} {g n c : Nat} {cur : Array Value} (ht : P.underlying t = some (.slice e)) (hz : ∀ w, (zeroValue e).run P w = .ok z w) (hz1 : z.cells = #[z]) (ho : z.oneCell' = true) (hg : w.heap[g]? = some (.cells cur e (0, 0)))
    (hn : cur.size = n) (h0 : 0 < n) : (Builtin.clear_ #[t] ty #[.slice (some ⟨g, 0, none⟩) n c]).run P w = .ok (.tuple #[]) (w.setRow g (List.replicate n z).toArray) := by
  obtain ⟨m, rfl⟩ : ∃ m, n = m + 1 := ⟨n - 1, by omega⟩
  have h1 : (Builtin.zeroCells #[z] (m + 1)).toList = List.replicate (m + 1) z := by
    unfold Builtin.zeroCells
    apply List.ext_getElem
    · simp
    · intro i h1 h2; simp [Nat.mod_one]
  have h2 := run_storeCells_from (P := P) g e (List.replicate (m + 1) z) 0 cur w hg (by simp [hn]) (fun v hv => by rw [List.eq_of_mem_replicate hv]; exact ho)
  simp [Builtin.clear_, Sem.run_bind, run_underlying ht, hz, hz1, h1, h2]
theorem wpList_clear_row {w : World} {ops : Array Oper} {rest : List Oper} {o : Oper} {a : Act} {Q : Exit → Act → World → Prop} (hgd : o.guard = none) (x : Operand) (t : TypeId)
    (ho : o.op = .call { callee := .builtin .clear, args := #[x], argTypes := #[t] }) {e : TypeId} {z : Value} {g n c : Nat} {cur : Array Value} (hx : a.eval x = .slice (some ⟨g, 0, none⟩) n c) (ht : P.underlying t = some (.slice e)) (hz : ∀ w, (zeroValue e).run P w = .ok z w)
    (hz1 : z.cells = #[z]) (h1 : z.oneCell' = true) (hg : w.heap[g]? = some (.cells cur e (0, 0))) (hn : cur.size = n) (h0 : 0 < n) (hK : ∀ w2, w2 = w.setRow g (List.replicate n z).toArray → wpList P ops Q rest (a.put o.dst (.tuple #[])) w2) : wpList P ops Q (o :: rest) a w := by
  refine wpList_plain hgd fun K hK' => ?_
  have hr := run_clear_row (P := P) (ty := o.type) (c := c) ht hz hz1 h1 hg hn h0
  unfold Oper.wp execOp
  simp only [ho, resolve, invoke, builtin, Sem.run_bind, Sem.run_pure, Result.andThen_ok, List.map_toArray, List.map_cons, List.map_nil, hx, hr]
  exact hK' _ _ (hK _ rfl)

theorem run_clear_map {w : World} {t kt et ty : TypeId} {b : Nat} {es : Array MapEntry} {clock : Nat} (ht : P.underlying t = some (.map kt et)) (hb : w.heap[b]? = some (.map es clock)) :
    (Builtin.clear_ #[t] ty #[.map (some b)]).run P w = .ok (.tuple #[]) (setObjW w b (.map #[] clock)) := by
  simp [Builtin.clear_, Sem.run_bind, run_underlying ht, run_getObjM hb, run_setObjM _ hb, setObjW]
theorem wpList_clear_map {α : Type} {w : World} {ops : Array Oper} {rest : List Oper} {o : Oper} {a : Act} {Q : Exit → Act → World → Prop} (hgd : o.guard = none) (x : Operand) (t : TypeId)
    (ho : o.op = .call { callee := .builtin .clear, args := #[x], argTypes := #[t] }) {kt et : TypeId} {b : Nat} {enc : α → Value} {m : List (α × Value)} (hx : a.eval x = .map (some b)) (ht : P.underlying t = some (.map kt et)) (h : MapOf w b enc m)
    (hK : ∀ ob, MapOf (setObjW w b ob) b enc ([] : List (α × Value)) → wpList P ops Q rest (a.put o.dst (.tuple #[])) (setObjW w b ob)) : wpList P ops Q (o :: rest) a w := by
  have hlt := h.lt
  obtain ⟨es, clock, h1, _⟩ := h
  refine wpList_plain hgd fun K hK' => ?_
  have hr := run_clear_map (P := P) (ty := o.type) ht h1
  unfold Oper.wp execOp
  simp only [ho, resolve, invoke, builtin, Sem.run_bind, Sem.run_pure, Result.andThen_ok, List.map_toArray, List.map_cons, List.map_nil, hx, hr]
  exact hK' _ _ (hK _ ⟨#[], clock, setObjW_same _ hlt, rfl, List.nodup_nil, List.Pairwise.nil, fun e he => by cases he⟩)
end
end Go.Proofs.YtdeaficdfooegaaDoor
