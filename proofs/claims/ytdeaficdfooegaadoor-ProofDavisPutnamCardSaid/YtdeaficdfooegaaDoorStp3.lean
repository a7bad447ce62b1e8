/- Steps of three numbers in memory. -/
import Derived.Test.YtdeaficdfooegaaDoorHeap
import Derived.Test.YtdeaficdfooegaaDoorRow
import Derived.Deep.Slices
import Derived.Lib.SmallJoins
import Derived.Deep.Strs
namespace Go.Proofs.YtdeaficdfooegaaDoor
open Go.RowKit Go.ChangeShapes Go.WideShapes
set_option linter.unusedVariables false

/-- A, B, Var. -/
abbrev Stp3 := Int × Int × Int
def IsSteps3 (w : World) (v : Value) (l : List Stp3) : Prop :=
  ∃ a b o c, v = .slice a l.length c ∧ (l ≠ [] → a = some ⟨b, o, none⟩) ∧ l.length ≤ c ∧ c ≤ maxLen ∧ (l ≠ [] → b < w.heap.size) ∧
    ∀ i (h : i < l.length), w.cell? ⟨b, o + i * 3, none⟩ = some (.int .i64 l[i].1) ∧ w.cell? ⟨b, o + i * 3 + 1, none⟩ = some (.int .i64 l[i].2.1) ∧ w.cell? ⟨b, o + i * 3 + 2, none⟩ = some (.int .i64 l[i].2.2)
theorem IsSteps3.below {w w' : World} {v : Value} {l : List Stp3} (h : IsSteps3 w v l) (hb : Below w.heap.size w w') : IsSteps3 w' v l := by
  obtain ⟨a, b, o, c, h1, h2, h3, h4, h5, h6⟩ := h
  refine ⟨a, b, o, c, h1, h2, h3, h4, fun e => Nat.lt_of_lt_of_le (h5 e) hb.size, fun i hi => ?_⟩
  have hlt : b < w.heap.size := h5 (by intro e; subst e; simp at hi)
  obtain ⟨g0, g1, g2⟩ := h6 i hi
  exact ⟨(hb.cell hlt).trans g0, (hb.cell hlt).trans g1, (hb.cell hlt).trans g2⟩

section
variable {H : Type} {enc : TypeId × Value → H} {P : Program}
set_option maxHeartbeats 1000000 in
/-- An argument that is a slice of steps. -/
theorem isSteps3_trod {t e : TypeId} {f0 f1 f2 : Field} {W : World} {base : Nat} {v : Value} {d : DataW H} {p : List MemPlace} (ht : P.underlying t = some (.slice e)) (he : P.underlying e = some (.struct #[f0, f1, f2])) (ce : P.cellsOf e = 3)
    (o : f0.offset = 0 ∧ f1.offset = 1 ∧ f2.offset = 2) (i0 : P.underlying f0.type = some (.int .i64) ∧ P.cellsOf f0.type = 1) (i1 : P.underlying f1.type = some (.int .i64) ∧ P.cellsOf f1.type = 1) (i2 : P.underlying f2.type = some (.int .i64) ∧ P.cellsOf f2.type = 1)
    (hok : Value.okWide P W .any base t v) (h : DataW.Trod enc P W 0 (fun _ => true) true t v d p) : ∃ l, IsSteps3 W v l := by
  obtain ⟨a0, len, cap, rfl⟩ := okWide_slice ht hok
  obtain ⟨fuel, hf⟩ := h
  rcases Go.Deep.open_slice ht hf with ⟨hcs, hx⟩ | ⟨a, len', cap', m, n, D, Pl, hcs, _, hl, hm, hmm, hx, hel⟩
  · simp [Value.cells] at hcs
    obtain ⟨rfl, rfl, rfl⟩ := hcs
    exact ⟨[], none, 0, 0, 0, rfl, fun h => absurd rfl h, Nat.le_refl _, Nat.zero_le _, fun h => absurd rfl h, fun i hi => absurd hi (by simp)⟩
  · simp [Value.cells] at hcs
    obtain ⟨rfl, rfl, rfl⟩ := hcs
    have each : ∀ i, i < len → ∃ x : Stp3, W.cell? (a.add (i * 3)) = some (.int .i64 x.1) ∧ W.cell? (a.add (i * 3 + 1)) = some (.int .i64 x.2.1) ∧ W.cell? (a.add (i * 3 + 2)) = some (.int .i64 x.2.2) := by
      intro i hi
      obtain ⟨cs', h1, h2⟩ := hel i (by rw [hmm]; simp; omega)
      rw [ce] at h1
      obtain ⟨_, hlen, hcell⟩ := World.cells?_some h1
      obtain ⟨y0, y1, y2, k, _, _, t0, t1, t2⟩ := Go.Deep.trod_struct3 he h2
      match cs', hlen with
      | [v0, v1, v2], _ =>
        simp [o.1, o.2.1, o.2.2, i0.2, i1.2, i2.2] at t0 t1 t2
        obtain ⟨x0, q0, _, _⟩ := DataW.trod_int i0.1 t0
        obtain ⟨x1, q1, _, _⟩ := DataW.trod_int i1.1 t1
        obtain ⟨x2, q2, _, _⟩ := DataW.trod_int i2.1 t2
        have e0 := hcell 0 (by omega)
        have e1 := hcell 1 (by omega)
        have e2 := hcell 2 (by omega)
        rw [Go.Deep.add_add] at e0 e1 e2
        cases q0; cases q1; cases q2
        exact ⟨(x0, x1, x2), by simpa using e0, by simpa using e1, by simpa using e2⟩
    obtain ⟨q, hq⟩ := Go.Deep.choose_lt each
    refine ⟨(List.range len).map q, some a, a.block, a.off, cap, by simp, fun hne => ?_, by simpa using hl, hm, fun hne => ?_, fun i hi => ?_⟩
    · have h0 : 0 < len := by
        rcases Nat.eq_zero_or_pos len with h | h
        · subst h; exact absurd rfl hne
        · exact h
      have := (hq 0 h0).1
      rw [Nat.zero_mul] at this
      rw [← (addr_of_cell this).1]
    · have h0 : 0 < len := by
        rcases Nat.eq_zero_or_pos len with h | h
        · subst h; exact absurd rfl hne
        · exact h
      have := (hq 0 h0).1
      rw [Nat.zero_mul] at this
      exact (addr_of_cell this).2
    · have hi2 : i < len := by simpa using hi
      have h0 := (hq 0 (by omega)).1
      rw [Nat.zero_mul] at h0
      have ha := (addr_of_cell h0).1
      obtain ⟨g0, g1, g2⟩ := hq i hi2
      rw [addr_add ha] at g0 g1 g2
      have e : ((List.range len).map q)[i] = q i := by simp
      rw [e]
      exact ⟨g0, by rw [← g1]; rfl, by rw [← g2]; rfl⟩
end

theorem IsSteps3.shape {w : World} {v : Value} {xs : List Stp3} (h : IsSteps3 w v xs) : ∃ a c, v = .slice a xs.length c ∧ xs.length ≤ c ∧ c ≤ 9223372036854775807 := by
  obtain ⟨a, b, o, c, rfl, _, h3, h4, _⟩ := h
  exact ⟨a, c, rfl, h3, by unfold maxLen at h4; omega⟩
theorem IsSteps3.addr {w : World} {a : Option Addr} {n c : Nat} {xs : List Stp3} (h : IsSteps3 w (.slice a n c) xs) {k : Nat} (hk : k < xs.length) : ∃ b o, a = some ⟨b, o, none⟩ ∧ b < w.heap.size := by
  obtain ⟨_, b, o, _, hh, h2, _, _, h6, _⟩ := h
  cases hh
  exact ⟨b, o, h2 (by intro e; subst e; simp at hk), h6 (by intro e; subst e; simp at hk)⟩
theorem IsSteps3.get {w : World} {b o n c : Nat} {xs : List Stp3} (h : IsSteps3 w (.slice (some ⟨b, o, none⟩) n c) xs) {k : Nat} (hk : k < xs.length) {x : Stp3} (hx : x = xs[k]) :
    w.cell? ⟨b, o + k * 3, none⟩ = some (.int .i64 x.1) ∧ w.cell? ⟨b, o + k * 3 + 1, none⟩ = some (.int .i64 x.2.1) ∧ w.cell? ⟨b, o + k * 3 + 2, none⟩ = some (.int .i64 x.2.2) := by
  obtain ⟨_, b', o', _, hh, h2, _, _, _, h6⟩ := h
  cases hh
  cases h2 (by intro e; subst e; simp at hk)
  subst hx
  exact h6 k hk

end Go.Proofs.YtdeaficdfooegaaDoor
