/- Steps in memory; rows of integers; plain.At. -/
import Derived.Test.YtdeaficdfooegaaDoorPick
import Derived.Test.YtdeaficdfooegaaDoorRow
import Derived.Test.YtdeaficdfooegaaDoorAppend
import Derived.Deep.Slices
import Derived.Lib.SmallJoins
namespace Go.Proofs.YtdeaficdfooegaaDoor
open Go.RowKit Go.ChangeShapes Go.WideShapes
set_option linter.unusedVariables false

/-- Bit v of a word. -/
def bitAt (x : Int) (v : Int) : Bool := bits .and .u64 (x / 2 ^ min v.toNat 64) 1 == 1

/-- What, A, B, C. -/
abbrev Stp := Int × Int × Int × Int
def IsSteps (w : World) (v : Value) (l : List Stp) : Prop :=
  ∃ a b o c, v = .slice a l.length c ∧ (l ≠ [] → a = some ⟨b, o, none⟩) ∧ l.length ≤ c ∧ c ≤ maxLen ∧ (l ≠ [] → b < w.heap.size) ∧
    ∀ i (h : i < l.length), w.cell? ⟨b, o + i * 4, none⟩ = some (.int .i64 l[i].1) ∧ w.cell? ⟨b, o + i * 4 + 1, none⟩ = some (.int .i64 l[i].2.1) ∧ w.cell? ⟨b, o + i * 4 + 2, none⟩ = some (.int .i64 l[i].2.2.1) ∧ w.cell? ⟨b, o + i * 4 + 3, none⟩ = some (.int .i64 l[i].2.2.2)
theorem IsSteps.below {w w' : World} {v : Value} {l : List Stp} (h : IsSteps w v l) (hb : Below w.heap.size w w') : IsSteps w' v l := by
  obtain ⟨a, b, o, c, h1, h2, h3, h4, h5, h6⟩ := h
  refine ⟨a, b, o, c, h1, h2, h3, h4, fun e => Nat.lt_of_lt_of_le (h5 e) hb.size, fun i hi => ?_⟩
  have hlt : b < w.heap.size := h5 (by intro e; subst e; simp at hi)
  obtain ⟨g0, g1, g2, g3⟩ := h6 i hi
  exact ⟨(hb.cell hlt).trans g0, (hb.cell hlt).trans g1, (hb.cell hlt).trans g2, (hb.cell hlt).trans g3⟩

section
variable {H : Type} {enc : TypeId × Value → H} {P : Program}
set_option maxHeartbeats 1000000 in
/-- An argument that is a slice of steps. -/
theorem isSteps_trod {t e : TypeId} {f0 f1 f2 f3 : Field} {W : World} {base : Nat} {v : Value} {d : DataW H} {p : List MemPlace} (ht : P.underlying t = some (.slice e)) (he : P.underlying e = some (.struct #[f0, f1, f2, f3])) (ce : P.cellsOf e = 4)
    (o : f0.offset = 0 ∧ f1.offset = 1 ∧ f2.offset = 2 ∧ f3.offset = 3) (i0 : P.underlying f0.type = some (.int .i64) ∧ P.cellsOf f0.type = 1) (i1 : P.underlying f1.type = some (.int .i64) ∧ P.cellsOf f1.type = 1) (i2 : P.underlying f2.type = some (.int .i64) ∧ P.cellsOf f2.type = 1) (i3 : P.underlying f3.type = some (.int .i64) ∧ P.cellsOf f3.type = 1)
    (hok : Value.okWide P W .any base t v) (h : DataW.Trod enc P W 0 (fun _ => true) true t v d p) : ∃ l, IsSteps W v l := by
  obtain ⟨a0, len, cap, rfl⟩ := okWide_slice ht hok
  obtain ⟨fuel, hf⟩ := h
  rcases Go.Deep.open_slice ht hf with ⟨hcs, hx⟩ | ⟨a, len', cap', m, n, D, Pl, hcs, _, hl, hm, hmm, hx, hel⟩
  · simp [Value.cells] at hcs
    obtain ⟨rfl, rfl, rfl⟩ := hcs
    exact ⟨[], none, 0, 0, 0, rfl, fun h => absurd rfl h, Nat.le_refl _, Nat.zero_le _, fun h => absurd rfl h, fun i hi => absurd hi (by simp)⟩
  · simp [Value.cells] at hcs
    obtain ⟨rfl, rfl, rfl⟩ := hcs
    have each : ∀ i, i < len → ∃ x : Stp, W.cell? (a.add (i * 4)) = some (.int .i64 x.1) ∧ W.cell? (a.add (i * 4 + 1)) = some (.int .i64 x.2.1) ∧ W.cell? (a.add (i * 4 + 2)) = some (.int .i64 x.2.2.1) ∧ W.cell? (a.add (i * 4 + 3)) = some (.int .i64 x.2.2.2) := by
      intro i hi
      obtain ⟨cs', h1, h2⟩ := hel i (by rw [hmm]; simp; omega)
      rw [ce] at h1
      obtain ⟨_, hlen, hcell⟩ := World.cells?_some h1
      obtain ⟨y0, y1, y2, y3, k, _, _, t0, t1, t2, t3⟩ := Go.Joins.trod_struct4 he h2
      match cs', hlen with
      | [v0, v1, v2, v3], _ =>
        simp [o.1, o.2.1, o.2.2.1, o.2.2.2, i0.2, i1.2, i2.2, i3.2] at t0 t1 t2 t3
        obtain ⟨x0, q0, _, _⟩ := DataW.trod_int i0.1 t0
        obtain ⟨x1, q1, _, _⟩ := DataW.trod_int i1.1 t1
        obtain ⟨x2, q2, _, _⟩ := DataW.trod_int i2.1 t2
        obtain ⟨x3, q3, _, _⟩ := DataW.trod_int i3.1 t3
        have e0 := hcell 0 (by omega)
        have e1 := hcell 1 (by omega)
        have e2 := hcell 2 (by omega)
        have e3 := hcell 3 (by omega)
        rw [Go.Deep.add_add] at e0 e1 e2 e3
        cases q0; cases q1; cases q2; cases q3
        exact ⟨(x0, x1, x2, x3), by simpa using e0, by simpa using e1, by simpa using e2, by simpa using e3⟩
    obtain ⟨q, hq⟩ := Go.Deep.choose_lt each
    refine ⟨(List.range len).map q, some a, a.block, a.off, cap, by simp, fun hne => ?_, by simpa using hl, hm, fun hne => ?_, fun i hi => ?_⟩
    · have h0 : 0 < len := by
        rcases Nat.eq_zero_or_pos len with h | h
        · subst h; exact absurd rfl hne
        · exact h
      have := (hq 0 h0).1
      rw [Nat.zero_mul] at this
      rw [← (addr_of_cell this).1]
    · have h0 : 0 < len := by
        rcases Nat.eq_zero_or_pos len with h | h
        · subst h; exact absurd rfl hne
        · exact h
      have := (hq 0 h0).1
      rw [Nat.zero_mul] at this
      exact (addr_of_cell this).2
    · have hi2 : i < len := by simpa using hi
      have h0 := (hq 0 (by omega)).1
      rw [Nat.zero_mul] at h0
      have ha := (addr_of_cell h0).1
      obtain ⟨g0, g1, g2, g3⟩ := hq i hi2
      rw [addr_add ha] at g0 g1 g2 g3
      have e : ((List.range len).map q)[i] = q i := by simp
      rw [e]
      exact ⟨g0, by rw [← g1]; rfl, by rw [← g2]; rfl, by rw [← g3]; rfl⟩
end

theorem At_any (a : Int) (n : Nat) (w : World) (h0 : 0 < n) (h1 : n ≤ 1000000) :
    Calls Tryd.prog 85 #[.int .i64 a, .int .i64 n] w fun e w' => e = .returned (.int .i64 (pickN a n)) ∧ w = w' := by
  have hp := pick_eq a n h0 h1
  have Hp := Lib.hid hp; clear hp
  go_enter Tryd.func85, Tryd.ntmps85
  go_wp2_with fail
  go_ret
  refine ⟨?_, rfl⟩
  rw [← Hp.out]
  rfl
def outAt (out : List Int) (a : Int) : Int := out.getD (pickN a out.length) 0
theorem rchC_of_mem {c : Cells} {s : List Int} {k : Nat} (g : hasM c ((k : Int) + 2) = true) (hm : ((k : Int) + 2) ∈ s) : RchC c s k := by
  rcases hasM_cases g with e | e | ⟨k', n, e, hn, _⟩
  · omega
  · omega
  · obtain rfl : k = k' := by omega
    exact RchC.start hn hm
theorem ownsRow_only {S : Nat → Prop} {w w2 : World} {base e size : Nat} {v : Value} {n : Nat} {xs : List Value} (h : w.ownsRow base e size v n xs) (ho : Only S w w2) (hs : ∀ k, S k → k < base) : w2.ownsRow base e size v n xs := by
  refine ⟨h.1, ?_⟩
  rcases h.2 with hn | ⟨g, cap, cur, rfl, h1, h2, r⟩
  · exact .inl hn
  · exact .inr ⟨g, cap, cur, rfl, h1, by rw [ho.block g (Array.getElem?_eq_some_iff.1 h2).1 (fun hk => by have := hs _ hk; omega)]; exact h2, r⟩
theorem owns_at {w : World} {base e : Nat} {v : Value} {xs : List Int} (h : w.ownsRow base e 1 v xs.length (xs.map (Value.int .i64))) (hp : 0 < xs.length) :
    ∃ g cap, v = .slice (some ⟨g, 0, none⟩) xs.length cap ∧ ∀ (i : Nat) (hi : i < xs.length), w.cell? ⟨g, i, none⟩ = some (.int .i64 xs[i]) := by
  have h' := h
  rcases h.2 with ⟨rfl, e⟩ | ⟨g, cap, cur, rfl, hg, hh, _⟩
  · omega
  · exact ⟨g, cap, rfl, fun i hi => by rw [h'.cellAt i (by omega)]; simp [hi]⟩

theorem ints_of_owns {w : World} {base e : Nat} {v : Value} {n : Nat} {xs : List Int} (h : w.ownsRow base e 1 v n (xs.map (Value.int .i64))) (hl : xs.length ≤ 17592186044416) : IsInts w v xs := by
  obtain ⟨h1, h2⟩ := h
  have hn : n = xs.length := by simp at h1; omega
  subst hn
  rcases h2 with ⟨rfl, h3⟩ | ⟨g, cap, cur, rfl, hg, hh, h3, h4, h5, h6⟩
  · have e : xs = [] := List.eq_nil_of_length_eq_zero h3
    subst e
    exact ⟨none, 0, 0, 0, rfl, fun h => absurd rfl h, Nat.le_refl _, Nat.zero_le _, fun i hi => absurd hi (by simp), fun h => absurd rfl h, Nat.zero_le _⟩
  · refine ⟨_, g, 0, cap, rfl, fun _ => rfl, h3, h4, fun i hi => ?_, fun _ => (Array.getElem?_eq_some_iff.1 hh).1, hl⟩
    rw [cell_of_row w g (0 + i) cur e (0, 0) hh, Nat.zero_add]
    have h7 : (cur.toList.take (xs.length * 1))[i]? = some (.int .i64 xs[i]) := by rw [h6]; simp [hi]
    rw [List.getElem?_take] at h7
    have e2 : xs.getD i 0 = xs[i] := by simp [hi]
    rw [e2]
    split at h7
    · simpa using h7
    · cases h7

theorem Only.drew0 {S : Nat → Prop} {w w' : World} (h : Only S w.drew w') : Only S w w' := ⟨h.os, h.tape, h.output, h.size, h.block⟩
/-- A step's box. -/
structure FBx (w wr : World) (bx : Nat) (x : Stp) : Prop where
  lo : w.heap.size ≤ bx
  hi : bx < wr.heap.size
  b0 : wr.cell? ⟨bx, 0, none⟩ = some (.int .i64 x.1)
  b1 : wr.cell? ⟨bx, 1, none⟩ = some (.int .i64 x.2.1)
  b2 : wr.cell? ⟨bx, 2, none⟩ = some (.int .i64 x.2.2.1)
  b3 : wr.cell? ⟨bx, 3, none⟩ = some (.int .i64 x.2.2.2)
theorem FBx.only {S : Nat → Prop} {w wr w2 : World} {bx : Nat} {x : Stp} (h : FBx w wr bx x) (ho : Only S wr w2) (hs : ∀ k, S k → k < w.heap.size) : FBx w w2 bx x := by
  have hn : ¬ S bx := fun hk => by have := hs _ hk; have := h.lo; omega
  exact ⟨h.lo, Nat.lt_of_lt_of_le h.hi ho.size, (ho.cell h.hi hn).trans h.b0, (ho.cell h.hi hn).trans h.b1, (ho.cell h.hi hn).trans h.b2, (ho.cell h.hi hn).trans h.b3⟩

theorem IsSteps.shape {w : World} {v : Value} {xs : List Stp} (h : IsSteps w v xs) : ∃ a c, v = .slice a xs.length c ∧ xs.length ≤ c ∧ c ≤ 9223372036854775807 := by
  obtain ⟨a, b, o, c, rfl, _, h3, h4, _⟩ := h
  exact ⟨a, c, rfl, h3, by unfold maxLen at h4; omega⟩
theorem IsSteps.addr {w : World} {a : Option Addr} {n c : Nat} {xs : List Stp} (h : IsSteps w (.slice a n c) xs) {k : Nat} (hk : k < xs.length) : ∃ b o, a = some ⟨b, o, none⟩ ∧ b < w.heap.size := by
  obtain ⟨_, b, o, _, hh, h2, _, _, h6, _⟩ := h
  cases hh
  exact ⟨b, o, h2 (by intro e; subst e; simp at hk), h6 (by intro e; subst e; simp at hk)⟩
theorem IsSteps.get {w : World} {b o n c : Nat} {xs : List Stp} (h : IsSteps w (.slice (some ⟨b, o, none⟩) n c) xs) {k : Nat} (hk : k < xs.length) {x : Stp} (hx : x = xs[k]) :
    w.cell? ⟨b, o + k * 4, none⟩ = some (.int .i64 x.1) ∧ w.cell? ⟨b, o + k * 4 + 1, none⟩ = some (.int .i64 x.2.1) ∧ w.cell? ⟨b, o + k * 4 + 2, none⟩ = some (.int .i64 x.2.2.1) ∧ w.cell? ⟨b, o + k * 4 + 3, none⟩ = some (.int .i64 x.2.2.2) := by
  obtain ⟨_, b', o', _, hh, h2, _, _, _, h6⟩ := h
  cases hh
  cases h2 (by intro e; subst e; simp at hk)
  subst hx
  exact h6 k hk

end Go.Proofs.YtdeaficdfooegaaDoor
