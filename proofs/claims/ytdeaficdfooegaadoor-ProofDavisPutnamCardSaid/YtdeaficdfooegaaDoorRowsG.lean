/- A row of clauses that the call owns, and that grows. -/
import Derived.Test.YtdeaficdfooegaaDoorFormW
import Derived.Test.YtdeaficdfooegaaDoorAppend
import Derived.Test.YtdeaficdfooegaaDoorClone
namespace Go.Proofs.YtdeaficdfooegaaDoor
open Go.RowKit
set_option linter.unusedVariables false

theorem ints_same {w w' : World} {v : Value} {xs : List Int} (h : IsInts w v xs) (hb : xs ≠ [] → ∀ b, v.ownBlock = some b → b < w.heap.size → w'.heap[b]? = w.heap[b]?) (hs : w.heap.size ≤ w'.heap.size) : IsInts w' v xs := by
  obtain ⟨a, b, o, c, rfl, h2, h3, h4, h5, h6, h7⟩ := h
  refine ⟨a, b, o, c, rfl, h2, h3, h4, fun i hi => ?_, fun e => Nat.lt_of_lt_of_le (h6 e) hs, h7⟩
  have hne : xs ≠ [] := by intro e; subst e; simp at hi
  have e := hb hne b (by rw [h2 hne]; rfl) (h6 hne)
  rw [World.cell?_of_block (w := w) e]
  exact h5 i hi
theorem ints_block {w : World} {v : Value} {xs : List Int} (h : IsInts w v xs) (hne : xs ≠ []) : ∀ b, v.ownBlock = some b → b < w.heap.size := by
  obtain ⟨a, b, o, c, rfl, h2, h3, h4, h5, h6, h7⟩ := h
  intro k hk
  rw [h2 hne] at hk
  cases hk; exact h6 hne

/-- The row v holds the clauses ls, as the values rs; none of them lies where the row lies. -/
structure RowsG (w : World) (base : Nat) (v : Value) (rs : List Value) (ls : List (List Int)) : Prop where
  own : w.ownsRow base 54 1 v ls.length rs
  vals : RowVals w rs ls
  off : ∀ i (h1 : i < rs.length) (h2 : i < ls.length), ls[i] ≠ [] → ∀ b, rs[i].ownBlock = some b → v.ownBlock ≠ some b
theorem RowsG.nil (w : World) (base : Nat) : RowsG w base (.slice none 0 0) [] [] := ⟨World.ownsRow_nil _ _ _ _, rowVals_nil w, fun i h => absurd h (by simp)⟩
theorem RowsG.rows {w : World} {base : Nat} {v : Value} {rs : List Value} {ls : List (List Int)} (h : RowsG w base v rs ls) (hl : ls.length ≤ 1000000) : IsRows w v ls := isRows_of_owns h.own h.vals (by omega)
theorem RowsG.below {w w' : World} {base : Nat} {v : Value} {rs : List Value} {ls : List (List Int)} (h : RowsG w base v rs ls) (hb : Below w.heap.size w w') : RowsG w' base v rs ls := ⟨ownsRow_below h.own hb, h.vals.below hb, h.off⟩
theorem RowsG.push {w w' : World} {base : Nat} {v v' r : Value} {rs : List Value} {ls : List (List Int)} {xs : List Int} (h : RowsG w base v rs ls) (hr : IsInts w r xs) (hoff : xs ≠ [] → ∀ b, r.ownBlock = some b → v.ownBlock ≠ some b)
    (ho : w'.ownsRow base 54 1 v' (ls.length + 1) (rs ++ [r])) (hg : w.grownBy w' v.ownBlock) (hw : v'.ownBlock = v.ownBlock ∨ v'.ownBlock = some w.heap.size) : RowsG w' base v' (rs ++ [r]) (ls ++ [xs]) := by
  have hlen := h.vals.1
  have keep : ∀ i (h1 : i < rs.length) (h2 : i < ls.length), IsInts w' rs[i] ls[i] := fun i h1 h2 =>
    ints_same (h.vals.2 i h1 h2) (fun hne b hb hlt => hg.block b hlt (h.off i h1 h2 hne b hb).symm) hg.size
  have rv : RowVals w' rs ls := ⟨hlen, keep⟩
  have hr' : IsInts w' r xs := ints_same hr (fun hne b hb hlt => hg.block b hlt (hoff hne b hb).symm) hg.size
  refine ⟨by rw [List.length_append]; exact ho, rv.snoc hr', fun i h1 h2 hne b hb => ?_⟩
  have key : ∀ (u : Value) (ys : List Int), IsInts w u ys → ys ≠ [] → u.ownBlock = some b → v.ownBlock ≠ some b → v'.ownBlock ≠ some b := by
    intro u ys hu hn hub hv
    rcases hw with e | e
    · rw [e]; exact hv
    · rw [e]
      intro e2
      have := ints_block hu hn b hub
      cases e2; omega
  by_cases hi : i < rs.length
  · have e1 : (rs ++ [r])[i] = rs[i] := List.getElem_append_left hi
    have e2 : (ls ++ [xs])[i] = ls[i]'(by omega) := List.getElem_append_left (by omega)
    rw [e1] at hb; rw [e2] at hne
    exact key _ _ (h.vals.2 i hi (by omega)) hne hb (h.off i hi (by omega) hne b hb)
  · have e0 : i = rs.length := by simp at h1; omega
    have e1 : (rs ++ [r])[i] = r := by rw [List.getElem_append_right (by omega)]; simp
    have e2 : (ls ++ [xs])[i] = xs := by rw [List.getElem_append_right (by omega)]; simp
    rw [e1] at hb; rw [e2] at hne
    exact key _ _ hr hne hb (hoff hne b hb)

set_option maxHeartbeats 1000000 in
/-- An append of one clause. -/
theorem wpList_append_row {W : World} {ops : Array Oper} {rest : List Oper} {o : Oper} {a : Act} {Q : Exit → Act → World → Prop} (hgd : o.guard = none) (s x : Operand)
    (ho : o.op = .call { callee := .builtin .append, args := #[s, x], argTypes := #[56, 56] })
    (base : Nat) (v : Value) (rs : List Value) (ls : List (List Int)) (hs : a.eval s = v) (hr : RowsG W base v rs ls) (r : Value) (xs : List Int) (hi : IsInts W r xs) (hoff : xs ≠ [] → ∀ b, r.ownBlock = some b → v.ownBlock ≠ some b)
    (n : Nat) (hn0 : n = W.heap.size) (hx : a.eval x = .slice (some ⟨n, 0, none⟩) 1 1) (hn : ls.length + 1 ≤ 1000000) (hbase : base ≤ W.heap.size)
    (h : ∀ v' w', RowsG w' base v' (rs ++ [r]) (ls ++ [xs]) → Below base W w' → wpList Tryd.prog ops Q rest (a.put o.dst v') w') : wpList Tryd.prog ops Q (o :: rest) a (W.alloc (.cells #[r] 54)) := by
  subst hn0
  obtain ⟨i0, hi0, hz0, hz1, hz2⟩ := info_parts infoClause
  have hal : Below W.heap.size W (W.alloc (.cells #[r] 54)) := (Below.refl _ _).alloc (Nat.le_refl _) _
  have h1 := hr.below hal
  have hone : ∀ u ∈ [r], u.oneCell' = true := fun u hu => by
    rw [List.mem_singleton.1 hu]
    obtain ⟨a, b, o, c, rfl, _⟩ := hi; rfl
  have hcell : ∀ (j : Nat) (u' : Value), [r][j]? = some u' → (W.alloc (.cells #[r] 54)).cell? ((⟨W.heap.size, 0, none⟩ : Addr).add j) = some u' := by
    intro j u' hu
    have hj : j = 0 := by
      have := (List.getElem?_eq_some_iff.1 hu).1; simp at this; exact this
    subst hj
    simp at hu; subst hu
    simp [Addr.add]
  refine wpList_append_at _ hgd s x 56 ho base 54 i0 (.slice none 0 0) 1 24 Tryd.underlying56 hi0 hz0 hz1 hz2 rfl (by decide) v ls.length rs hs h1.own ⟨W.heap.size, 0, none⟩ 1 1 [r] hx rfl hcell hone (by simp only [maxLen]; omega) (by omega) (by simp; omega) (fun v' w' h2 h3 h4 => ?_)
  refine h v' w' (h1.push (hi.below hal) hoff h2 h3 h4) ?_
  exact (hal.mono hbase).grown h3 (by simp; omega) (fun j hj => (h1.own.lt j hj).1)
end Go.Proofs.YtdeaficdfooegaaDoor
