/- A map from integers to integers, as a function (0 where there is nothing). -/
import Derived.Test.YtdeaficdfooegaaDoorMaps
import Derived.Test.YtdeaficdfooegaaDoorRup
namespace Go.Proofs.YtdeaficdfooegaaDoor
open Go.RowKit

def OfMap (w : World) (b : Nat) (f : Int → Int) : Prop := ∃ m, MapOf w b (Value.int .i64) m ∧ ∀ x, (assoc m x).getD (.int .i64 0) = .int .i64 (f x)

theorem ofMap_new (w : World) : OfMap (w.alloc (.map #[] 0)) w.heap.size (fun _ => 0) := ⟨[], mapOf_new w _, fun _ => rfl⟩
theorem OfMap.lt {w : World} {b : Nat} {f : Int → Int} (h : OfMap w b f) : b < w.heap.size := by obtain ⟨m, h1, _⟩ := h; exact h1.lt
theorem OfMap.below {w w' : World} {b : Nat} {f : Int → Int} (h : OfMap w b f) (hb : Below (b + 1) w w') : OfMap w' b f := by
  obtain ⟨m, h1, h2⟩ := h
  exact ⟨m, h1.below hb, h2⟩

theorem wpList_look {P : Program} {w : World} {ops : Array Oper} {rest : List Oper} {o : Oper} {a : Act} {Q : Exit → Act → World → Prop}
    (hg : o.guard = none) (m x : Operand) (t : TypeId) (hop : o.op = Op.lookup t m x false) (kt et : TypeId) (hk : P.underlying kt = some (.int .i64)) (ht : P.underlying t = some (.map kt et))
    (hz : (zeroValue et).run P w = .ok (.int .i64 0) w) (b : Nat) (hm : a.eval m = .map (some b)) (f : Int → Int) (h : OfMap w b f) (k : Int) (hx : a.eval x = .int .i64 k)
    (hK : ∀ n, n = f k → wpList P ops Q rest (a.put o.dst (.int .i64 n)) w) :
    wpList P ops Q (o :: rest) a w := by
  obtain ⟨l, h1, h2⟩ := h
  refine wpList_lookup_of hg m x t false hop (intKey hk) ht hz hm h1 hx ?_
  rw [if_neg (by decide), h2 k]
  exact hK _ rfl

theorem wpList_upd {P : Program} {w : World} {ops : Array Oper} {rest : List Oper} {o : Oper} {a : Act} {Q : Exit → Act → World → Prop}
    (hg : o.guard = none) (m x v : Operand) (t : TypeId) (hop : o.op = Op.mapUpdate t m x v) (kt et : TypeId) (hk : P.underlying kt = some (.int .i64)) (ht : P.underlying t = some (.map kt et))
    (b : Nat) (hm : a.eval m = .map (some b)) (f : Int → Int) (h : OfMap w b f) (k n : Int) (hx : a.eval x = .int .i64 k) (hv : a.eval v = .int .i64 n)
    (hK : ∀ w', OfMap w' b (upd f k n) → Below b w w' → w'.heap.size = w.heap.size → wpList P ops Q rest (a.put o.dst undef) w') :
    wpList P ops Q (o :: rest) a w := by
  obtain ⟨l, h1, h2⟩ := h
  refine wpList_mapUpdate_of hg m x v t hop (intKey hk) ht hm h1 hx _ hv (fun ob h3 => hK _ ⟨_, h3, fun y => ?_⟩ (setObjW_below ob (Nat.le_refl _)) (by simp [setObjW]))
  rw [assoc_put]
  unfold upd
  split
  · rfl
  · exact h2 y
end Go.Proofs.YtdeaficdfooegaaDoor
