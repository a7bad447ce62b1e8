/- Steps in memory; plain.At; Size; the functional model of plain.Functions. -/
import Derived.Test.YtmlnfbageoabnaaHolds
import Derived.Test.YtmlnfbageoabnaaPick
import Derived.Test.YtmlnfbageoabnaaRow
import Derived.Deep.Slices
import Derived.Lib.SmallJoins
namespace Go.Proofs.Ytmlnfbageoabnaa
open Go.RowKit Go.ChangeShapes Go.WideShapes
set_option linter.unusedVariables false

/-- What, A, B, C. -/
abbrev Stp := Int × Int × Int × Int
def IsSteps (w : World) (v : Value) (l : List Stp) : Prop :=
  ∃ a b o c, v = .slice a l.length c ∧ (l ≠ [] → a = some ⟨b, o, none⟩) ∧ l.length ≤ c ∧ c ≤ maxLen ∧ (l ≠ [] → b < w.heap.size) ∧
    ∀ i (h : i < l.length), w.cell? ⟨b, o + i * 4, none⟩ = some (.int .i64 l[i].1) ∧ w.cell? ⟨b, o + i * 4 + 1, none⟩ = some (.int .i64 l[i].2.1) ∧ w.cell? ⟨b, o + i * 4 + 2, none⟩ = some (.int .i64 l[i].2.2.1) ∧ w.cell? ⟨b, o + i * 4 + 3, none⟩ = some (.int .i64 l[i].2.2.2)
theorem IsSteps.below {w w' : World} {v : Value} {l : List Stp} (h : IsSteps w v l) (hb : Below w.heap.size w w') : IsSteps w' v l := by
  obtain ⟨a, b, o, c, h1, h2, h3, h4, h5, h6⟩ := h
  refine ⟨a, b, o, c, h1, h2, h3, h4, fun e => Nat.lt_of_lt_of_le (h5 e) hb.size, fun i hi => ?_⟩
  have hlt : b < w.heap.size := h5 (by intro e; subst e; simp at hi)
  obtain ⟨g0, g1, g2, g3⟩ := h6 i hi
  exact ⟨(hb.cell hlt).trans g0, (hb.cell hlt).trans g1, (hb.cell hlt).trans g2, (hb.cell hlt).trans g3⟩

section
variable {H : Type} {enc : TypeId × Value → H} {P : Program}
set_option maxHeartbeats 1000000 in
/-- An argument that is a slice of steps. -/
theorem isSteps_trod {t e : TypeId} {f0 f1 f2 f3 : Field} {W : World} {base : Nat} {v : Value} {d : DataW H} {p : List MemPlace} (ht : P.underlying t = some (.slice e)) (he : P.underlying e = some (.struct #[f0, f1, f2, f3])) (ce : P.cellsOf e = 4)
    (o : f0.offset = 0 ∧ f1.offset = 1 ∧ f2.offset = 2 ∧ f3.offset = 3) (i0 : P.underlying f0.type = some (.int .i64) ∧ P.cellsOf f0.type = 1) (i1 : P.underlying f1.type = some (.int .i64) ∧ P.cellsOf f1.type = 1) (i2 : P.underlying f2.type = some (.int .i64) ∧ P.cellsOf f2.type = 1) (i3 : P.underlying f3.type = some (.int .i64) ∧ P.cellsOf f3.type = 1)
    (hok : Value.okWide P W .any base t v) (h : DataW.Trod enc P W 0 (fun _ => true) true t v d p) : ∃ l, IsSteps W v l := by
  obtain ⟨a0, len, cap, rfl⟩ := okWide_slice ht hok
  obtain ⟨fuel, hf⟩ := h
  rcases Go.Deep.open_slice ht hf with ⟨hcs, hx⟩ | ⟨a, len', cap', m, n, D, Pl, hcs, _, hl, hm, hmm, hx, hel⟩
  · simp [Value.cells] at hcs
    obtain ⟨rfl, rfl, rfl⟩ := hcs
    exact ⟨[], none, 0, 0, 0, rfl, fun h => absurd rfl h, Nat.le_refl _, Nat.zero_le _, fun h => absurd rfl h, fun i hi => absurd hi (by simp)⟩
  · simp [Value.cells] at hcs
    obtain ⟨rfl, rfl, rfl⟩ := hcs
    have each : ∀ i, i < len → ∃ x : Stp, W.cell? (a.add (i * 4)) = some (.int .i64 x.1) ∧ W.cell? (a.add (i * 4 + 1)) = some (.int .i64 x.2.1) ∧ W.cell? (a.add (i * 4 + 2)) = some (.int .i64 x.2.2.1) ∧ W.cell? (a.add (i * 4 + 3)) = some (.int .i64 x.2.2.2) := by
      intro i hi
      obtain ⟨cs', h1, h2⟩ := hel i (by rw [hmm]; simp; omega)
      rw [ce] at h1
      obtain ⟨_, hlen, hcell⟩ := World.cells?_some h1
      obtain ⟨y0, y1, y2, y3, k, _, _, t0, t1, t2, t3⟩ := Go.Joins.trod_struct4 he h2
      match cs', hlen with
      | [v0, v1, v2, v3], _ =>
        simp [o.1, o.2.1, o.2.2.1, o.2.2.2, i0.2, i1.2, i2.2, i3.2] at t0 t1 t2 t3
        obtain ⟨x0, q0, _, _⟩ := DataW.trod_int i0.1 t0
        obtain ⟨x1, q1, _, _⟩ := DataW.trod_int i1.1 t1
        obtain ⟨x2, q2, _, _⟩ := DataW.trod_int i2.1 t2
        obtain ⟨x3, q3, _, _⟩ := DataW.trod_int i3.1 t3
        have e0 := hcell 0 (by omega)
        have e1 := hcell 1 (by omega)
        have e2 := hcell 2 (by omega)
        have e3 := hcell 3 (by omega)
        rw [Go.Deep.add_add] at e0 e1 e2 e3
        cases q0; cases q1; cases q2; cases q3
        exact ⟨(x0, x1, x2, x3), by simpa using e0, by simpa using e1, by simpa using e2, by simpa using e3⟩
    obtain ⟨q, hq⟩ := Go.Deep.choose_lt each
    refine ⟨(List.range len).map q, some a, a.block, a.off, cap, by simp, fun hne => ?_, by simpa using hl, hm, fun hne => ?_, fun i hi => ?_⟩
    · have h0 : 0 < len := by
        rcases Nat.eq_zero_or_pos len with h | h
        · subst h; exact absurd rfl hne
        · exact h
      have := (hq 0 h0).1
      rw [Nat.zero_mul] at this
      rw [← (addr_of_cell this).1]
    · have h0 : 0 < len := by
        rcases Nat.eq_zero_or_pos len with h | h
        · subst h; exact absurd rfl hne
        · exact h
      have := (hq 0 h0).1
      rw [Nat.zero_mul] at this
      exact (addr_of_cell this).2
    · have hi2 : i < len := by simpa using hi
      have h0 := (hq 0 (by omega)).1
      rw [Nat.zero_mul] at h0
      have ha := (addr_of_cell h0).1
      obtain ⟨g0, g1, g2, g3⟩ := hq i hi2
      rw [addr_add ha] at g0 g1 g2 g3
      have e : ((List.range len).map q)[i] = q i := by simp
      rw [e]
      exact ⟨g0, by rw [← g1]; rfl, by rw [← g2]; rfl, by rw [← g3]; rfl⟩
end

theorem At_any (a : Int) (n : Nat) (w : World) (h0 : 0 < n) (h1 : n ≤ 1000000) :
    Calls Try.prog 74 #[.int .i64 a, .int .i64 n] w fun e w' => e = .returned (.int .i64 (pickN a n)) ∧ w = w' := by
  have hp := pick_eq a n h0 h1
  have Hp := Lib.hid hp; clear hp
  go_enter Try.func74, Try.ntmps74
  go_wp2_with fail
  go_ret
  refine ⟨?_, rfl⟩
  rw [← Hp.out]
  rfl
end Go.Proofs.Ytmlnfbageoabnaa
