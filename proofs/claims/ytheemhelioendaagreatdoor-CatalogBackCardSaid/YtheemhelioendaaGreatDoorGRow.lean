/- Rows of structs in memory, told as lists. -/
import Derived.Test.YtheemhelioendaaGreatDoorBase
import Derived.Laws.AppendOwn
import Derived.Lib.Hide
import Derived.Deep.AppendLies
namespace Go.Proofs.YtheemhelioendaaGreatDoor
open Go.RowKit
set_option linter.unusedVariables false

/-- The cells of a row's elements. -/
def flatG {α : Type} (enc : α → List Value) (xs : List α) : List Value := xs.flatMap enc
theorem flatG_nil {α : Type} (enc : α → List Value) : flatG enc [] = [] := rfl
theorem flatG_len {α : Type} {enc : α → List Value} {z : Nat} (hz : ∀ x, (enc x).length = z) : ∀ xs : List α, (flatG enc xs).length = xs.length * z
  | [] => by simp [flatG]
  | x :: xs => by
    have := flatG_len hz xs
    unfold flatG at this ⊢
    rw [List.flatMap_cons, List.length_append, this, hz, List.length_cons, Nat.succ_mul, Nat.add_comm]
theorem flatG_snoc {α : Type} (enc : α → List Value) (xs : List α) (x : α) : flatG enc (xs ++ [x]) = flatG enc xs ++ enc x := by
  unfold flatG; rw [List.flatMap_append]; simp
theorem flatG_app {α : Type} (enc : α → List Value) (xs ys : List α) : flatG enc (xs ++ ys) = flatG enc xs ++ flatG enc ys := by
  unfold flatG; rw [List.flatMap_append]
theorem flatG_get {α : Type} {enc : α → List Value} {z : Nat} (hz : ∀ x, (enc x).length = z) : ∀ (xs : List α) (k j : Nat) (h : k < xs.length), j < z → (flatG enc xs)[k * z + j]? = (enc xs[k])[j]?
  | x :: xs, 0, j, _, hj => by
    unfold flatG
    rw [List.flatMap_cons, Nat.zero_mul, Nat.zero_add, List.getElem?_append_left (by rw [hz]; exact hj)]
    rfl
  | x :: xs, k + 1, j, h, hj => by
    have ih := flatG_get hz xs k j (by simpa using h) hj
    unfold flatG at ih ⊢
    rw [List.flatMap_cons, List.getElem?_append_right (by rw [hz, Nat.succ_mul]; omega), hz, show (k + 1) * z + j - z = k * z + j by rw [Nat.succ_mul]; omega, ih]
    rfl
/-- A row of structs, in a block of the row's own (from base on), or nil. -/
def RowG {α : Type} (w : World) (base : Nat) (T : TypeId) (z : Nat) (enc : α → List Value) (v : Value) (xs : List α) : Prop := w.ownsRow base T z v xs.length (flatG enc xs)
theorem RowG.nil {α : Type} (w : World) (base : Nat) (T : TypeId) (z : Nat) (enc : α → List Value) : RowG w base T z enc (.slice none 0 0) [] := ⟨by simp [flatG], .inl ⟨rfl, rfl⟩⟩
theorem RowG.keep {α : Type} {w w' : World} {base : Nat} {T : TypeId} {z : Nat} {enc : α → List Value} {v : Value} {xs : List α} (h : RowG w base T z enc v xs) (hk : ∀ b, v.ownBlock = some b → w'.heap[b]? = w.heap[b]?) : RowG w' base T z enc v xs := by
  obtain ⟨h0, h1 | ⟨g, cap, cur, e, h1, h2, h3⟩⟩ := h
  · exact ⟨h0, .inl h1⟩
  · refine ⟨h0, .inr ⟨g, cap, cur, e, h1, (hk g (by rw [e]; rfl)).trans h2, h3⟩⟩
theorem RowG.lt {α : Type} {w : World} {base : Nat} {T : TypeId} {z : Nat} {enc : α → List Value} {v : Value} {xs : List α} (h : RowG w base T z enc v xs) {b : Nat} (hb : v.ownBlock = some b) : base ≤ b ∧ b < w.heap.size := World.ownsRow.lt h b hb
theorem RowG.below {α : Type} {w w' : World} {base : Nat} {T : TypeId} {z : Nat} {enc : α → List Value} {v : Value} {xs : List α} (h : RowG w base T z enc v xs) (hb : Below w.heap.size w w') : RowG w' base T z enc v xs :=
  h.keep (fun b e => hb.block b (h.lt e).2)
theorem RowG.less {α : Type} {w : World} {base base' : Nat} {T : TypeId} {z : Nat} {enc : α → List Value} {v : Value} {xs : List α} (h : RowG w base T z enc v xs) (hb : base' ≤ base) : RowG w base' T z enc v xs := by
  obtain ⟨h0, h1 | ⟨g, cap, cur, e, h1, h2, h3⟩⟩ := h
  · exact ⟨h0, .inl h1⟩
  · exact ⟨h0, .inr ⟨g, cap, cur, e, by omega, h2, h3⟩⟩
theorem RowG.shape {α : Type} {w : World} {base : Nat} {T : TypeId} {z : Nat} {enc : α → List Value} {v : Value} {xs : List α} (h : RowG w base T z enc v xs) : ∃ a c, v = .slice a xs.length c ∧ xs.length ≤ c ∧ c ≤ 9223372036854775807 := by
  obtain ⟨h0, ⟨h1, h2⟩ | ⟨g, cap, cur, e, h1, h2, h3, h4, h5⟩⟩ := h
  · exact ⟨none, 0, by rw [h2]; exact h1, by omega, by omega⟩
  · exact ⟨some ⟨g, 0, none⟩, cap, e, h3, by unfold maxLen at h4; omega⟩
theorem RowG.at {α : Type} {w : World} {base : Nat} {T : TypeId} {z : Nat} {enc : α → List Value} {a : Option Addr} {n c : Nat} {xs : List α} (h : RowG w base T z enc (.slice a n c) xs) (hne : 0 < xs.length) : ∃ g, a = some ⟨g, 0, none⟩ ∧ g < w.heap.size ∧ base ≤ g := by
  obtain ⟨h0, ⟨h1, h2⟩ | ⟨g, cap, cur, e, h1, h2, h3, h4, h5⟩⟩ := h
  · omega
  · cases e
    exact ⟨g, rfl, (Array.getElem?_eq_some_iff.1 h2).1, h1⟩
theorem RowG.cell {α : Type} {w : World} {base : Nat} {T : TypeId} {z : Nat} {enc : α → List Value} {g n c : Nat} {xs : List α} (hz : ∀ x, (enc x).length = z) (h : RowG w base T z enc (.slice (some ⟨g, 0, none⟩) n c) xs) {k j : Nat} (hk : k < xs.length) (hj : j < z) {u : Value} (hu : (enc xs[k])[j]? = some u) : w.cell? ⟨g, k * z + j, none⟩ = some u := by
  obtain ⟨h0, ⟨h1, h2⟩ | ⟨g', cap, cur, e, h1, h2, h3, h4, h5, h6⟩⟩ := h
  · cases h1
  · cases e
    rw [cell_of_row w g _ cur _ _ h2]
    have hlt : k * z + j < xs.length * z := by
      have : (k + 1) * z ≤ xs.length * z := Nat.mul_le_mul_right _ hk
      rw [Nat.succ_mul] at this; omega
    have e1 := flatG_get hz xs k j hk hj
    rw [← h6, List.getElem?_take_of_lt hlt, Array.getElem?_toList] at e1
    rw [e1, hu]
theorem RowG.free {α : Type} {w : World} {base : Nat} {T : TypeId} {z : Nat} {enc : α → List Value} {g n c : Nat} {xs : List α} (h : RowG w base T z enc (.slice (some ⟨g, 0, none⟩) n c) xs) (k : Nat) : w.frozen? ⟨g, k, none⟩ = false := by
  obtain ⟨h0, ⟨h1, h2⟩ | ⟨g', cap, cur, e, h1, h2, h3, h4, h5, h6⟩⟩ := h
  · cases h1
  · cases e
    simp [World.frozen?, h2]
set_option maxHeartbeats 1000000 in
/-- An append of one element that lies in the newest block. -/
theorem wpList_append_g {α : Type} {W : World} {ops : Array Oper} {rest : List Oper} {o : Oper} {a : Act} {Q : Exit → Act → World → Prop} (hgd : o.guard = none) (s x : Operand) (T S : TypeId) (z bytes : Nat) (enc : α → List Value) (hz : ∀ x, (enc x).length = z) (h1 : ∀ x, ∀ u ∈ enc x, u.oneCell' = true)
    (ho : o.op = .call { callee := .builtin .append, args := #[s, x], argTypes := #[S, S] })
    (i : TypeInfo) (zv : Value) (hu : Tryz.prog.underlying S = some (.slice T)) (hi : Tryz.prog.info? T = some i) (hzero : i.zero = some zv) (hsize : i.size = z) (hby : i.bytes = bytes) (hzs : zv.cells.size = z) (hzp : 0 < z) (hbb : bytes ≤ 1000)
    (base : Nat) (v : Value) (xs : List α) (hs : a.eval s = v) (hr : RowG W base T z enc v xs) (y : α) (cs : Array Value) (hcs : cs.toList = enc y)
    (q : Nat) (hq : q = W.heap.size) (hx : a.eval x = .slice (some ⟨q, 0, none⟩) 1 1) (hn : xs.length + 1 ≤ 1000000) (hbase : base ≤ W.heap.size)
    (h : ∀ v' w', RowG w' base T z enc v' (xs ++ [y]) → Below base W w' → (∀ k, k < W.heap.size → v.ownBlock ≠ some k → w'.heap[k]? = W.heap[k]?) → wpList Tryz.prog ops Q rest (a.put o.dst v') w') : wpList Tryz.prog ops Q (o :: rest) a (W.alloc (.cells cs T)) := by
  subst hq
  have hal : Below W.heap.size W (W.alloc (.cells cs T)) := (Below.refl _ _).alloc (Nat.le_refl _) _
  have hb : (W.alloc (.cells cs T)).heap[W.heap.size]? = some (.cells cs T (0, 0)) := heap_at rfl
  have hcell : ∀ (j : Nat) (u' : Value), (enc y)[j]? = some u' → (W.alloc (.cells cs T)).cell? ((⟨W.heap.size, 0, none⟩ : Addr).add j) = some u' := by
    intro j u' hu
    rw [show (⟨W.heap.size, 0, none⟩ : Addr).add j = ⟨W.heap.size, j, none⟩ from by simp [Addr.add]; exact fun h => h.symm, cell_of_row _ _ _ _ _ _ hb, ← hu, ← hcs]
    simp
  have hr' := hr.below hal
  have hb2 : (xs.length + 1) * bytes ≤ 140737488355328 := by
    have : (xs.length + 1) * bytes ≤ 1000000 * 1000 := Nat.mul_le_mul hn hbb
    omega
  refine wpList_append_own _ hgd s x S ho base T i zv z bytes hu hi hzero hsize hby hzs hzp v xs.length _ hs hr' ⟨W.heap.size, 0, none⟩ 1 1 (enc y) hx (by rw [hz]; omega) hcell (h1 y) (by simp only [maxLen]; omega) hb2 (by simp; omega) (fun v' w' h2 h3 _ => ?_)
  refine h v' w' ?_ ?_ (fun k hk hne => (h3.block k (by simp; omega) (fun e => hne e.symm)).trans (hal.block k hk))
  · unfold RowG
    rw [flatG_snoc, List.length_append]
    exact h2
  · exact (hal.mono hbase).grown h3 (by simp; omega) (fun j hj => (hr'.lt hj).1)
set_option maxHeartbeats 1000000 in
/-- The same at a step of a region that draws its order. -/
theorem step_append_g {α : Type} {W : World} {ops : Array Oper} {o : Oper} {a : Act} {K : Act → World → Prop} {Q : Exit → Act → World → Prop} {E : Prop} (hgd : o.guard = none) (s x : Operand) (T S : TypeId) (z bytes : Nat) (enc : α → List Value) (hz : ∀ x, (enc x).length = z) (y : α) (h1 : ∀ u ∈ enc y, u.oneCell' = true)
    (ho : o.op = .call { callee := .builtin .append, args := #[s, x], argTypes := #[S, S] })
    (i : TypeInfo) (zv : Value) (hu : Tryz.prog.underlying S = some (.slice T)) (hi : Tryz.prog.info? T = some i) (hzero : i.zero = some zv) (hsize : i.size = z) (hby : i.bytes = bytes) (hzs : zv.cells.size = z) (hzp : 0 < z) (hbb : bytes ≤ 1000)
    (base : Nat) (v : Value) (xs : List α) (hs : a.eval s = v) (hr : RowG W base T z enc v xs) (cs : Array Value) (hcs : cs.toList = enc y)
    (q : Nat) (hq : q = W.heap.size) (hx : a.eval x = .slice (some ⟨q, 0, none⟩) 1 1) (hn : xs.length + 1 ≤ 1000000) (hbase : base ≤ W.heap.size)
    (h : ∀ g cap w', RowG w' base T z enc (.slice (some ⟨g, 0, none⟩) (xs.length + 1) cap) (xs ++ [y]) → Below base W w' → (∀ k, k < W.heap.size → v.ownBlock ≠ some k → w'.heap[k]? = W.heap[k]?) → base ≤ g → (v.ownBlock = some g ∨ W.heap.size ≤ g) → K (a.put o.dst (.slice (some ⟨g, 0, none⟩) (xs.length + 1) cap)) w') :
    if Region.wanted o (yielded ops a.tmps) = true then Oper.wp Tryz.prog o a (W.alloc (.cells cs T)) K Q else E := by
  subst hq
  have hal : Below W.heap.size W (W.alloc (.cells cs T)) := (Below.refl _ _).alloc (Nat.le_refl _) _
  have hb : (W.alloc (.cells cs T)).heap[W.heap.size]? = some (.cells cs T (0, 0)) := heap_at rfl
  have hr' := hr.below hal
  have hb2 : (xs.length + 1) * bytes ≤ 140737488355328 := by
    have : (xs.length + 1) * bytes ≤ 1000000 * 1000 := Nat.mul_le_mul hn hbb
    omega
  refine step_append_lies _ hgd s x S ho base T i zv z bytes hu hi hzero hsize hby hzs hzp v xs.length _ hs hr' ⟨W.heap.size, 0, none⟩ 1 1 (enc y) hx (by rw [hz]; omega) (fun j u hu => World.news_of_block hb j u (by rw [hcs]; exact hu)) h1 (by decide) (by simp only [maxLen]; omega) hb2 (by simp; omega) _ rfl (fun g cap w' h2 h3 h4 _ => ?_)
  have hbg : base ≤ g := by
    rcases h2.2 with ⟨e, _⟩ | ⟨g', cap', cur, e, q1, _⟩
    · cases e
    · cases e; exact q1
  refine h g cap w' ?_ ?_ (fun k hk hne => (h3.block k (by simp; omega) (fun e => hne e.symm)).trans (hal.block k hk)) hbg ?_
  · unfold RowG
    rw [flatG_snoc, List.length_append]
    exact h2
  · exact (hal.mono hbase).grown h3 (by simp; omega) (fun j hj => (hr'.lt hj).1)
  · rcases h4 with h4 | h4
    · exact .inl h4
    · rw [alloc_size] at h4; exact .inr (by omega)
end Go.Proofs.YtheemhelioendaaGreatDoor
