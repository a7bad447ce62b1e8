/- A row of spans in a block of its own, read and written. -/
import Derived.Test.YtheemhelioendaaGreatDoorRngM
import Derived.Test.YtheemhelioendaaGreatDoorBase
import Derived.Laws.Rows
import Derived.Lib.Hide
import Derived.Test.YtheemhelioendaaGreatDoorRows
import Derived.WalkKit
import Derived.WalkSpells
import Derived.WalkLawsBesides
import Derived.Deep.LoopGhost
import Derived.Below
import Derived.BigQuiet
import Derived.Deep.QuietTactic
import Derived.BigRegion
import Derived.OneCell
namespace Go.Proofs.YtheemhelioendaaGreatDoor
open Go.RowKit
set_option linter.unusedVariables false

theorem below_drewN {B : Nat} {a w : World} (h : Below B a w) (n : Nat) : Below B a (w.drewN n) := ⟨h.os, h.tape, h.output, h.size, h.block⟩
/-- All blocks that were there are kept, but for one. -/
structure Only1 (g : Nat) (w w' : World) : Prop where
  os : w'.os = w.os
  tape : w'.tape = w.tape
  output : w'.output = w.output
  size : w.heap.size ≤ w'.heap.size
  block : ∀ k, k < w.heap.size → k ≠ g → w'.heap[k]? = w.heap[k]?
theorem Only1.refl (g : Nat) (w : World) : Only1 g w w := ⟨rfl, rfl, rfl, Nat.le_refl _, fun _ _ _ => rfl⟩
theorem Only1.trans {g : Nat} {w w1 w2 : World} (h : Only1 g w w1) (h2 : Only1 g w1 w2) : Only1 g w w2 := ⟨h2.os.trans h.os, h2.tape.trans h.tape, h2.output.trans h.output, Nat.le_trans h.size h2.size, fun k h1 hn => (h2.block k (Nat.lt_of_lt_of_le h1 h.size) hn).trans (h.block k h1 hn)⟩
theorem Only1.of_below {g : Nat} {w w1 : World} (h : Below w.heap.size w w1) : Only1 g w w1 := ⟨h.os, h.tape, h.output, h.size, fun k hk _ => h.block k hk⟩
theorem Only1.set {g : Nat} {w w1 : World} (h : Only1 g w w1) (j : Nat) (u : Value) : Only1 g w (w1.setCell ⟨g, j, none⟩ u) := ⟨h.os, h.tape, h.output, by simpa using h.size, fun k h1 hn => (Below.heap_setCell _ _ _ _ hn).trans (h.block k h1 hn)⟩
theorem Only1.drew {g : Nat} {w w1 : World} (h : Only1 g w w1) (n : Nat) : Only1 g w (w1.drewN n) := ⟨h.os, h.tape, h.output, h.size, h.block⟩
theorem Only1.below {g B : Nat} {w w1 : World} (h : Only1 g w w1) (hB : B ≤ g) (hB2 : B ≤ w.heap.size) : Below B w w1 := ⟨h.os, h.tape, h.output, h.size, fun k hk => h.block k (by omega) (by omega)⟩

/-- A row of spans in block g. -/
def SRow (w : World) (g cap n : Nat) (f : Nat → Spn) : Prop := ∃ cur : Array Value, w.heap[g]? = some (.cells cur 115 (0, 0)) ∧ n ≤ cap ∧ cur.size = cap * 2 ∧ ∀ k, k < n → cur[k * 2]? = some (.int .i64 (f k).1) ∧ cur[k * 2 + 1]? = some (.int .i64 (f k).2)
theorem SRow.cell1 {w : World} {g cap n : Nat} {f : Nat → Spn} (h : SRow w g cap n f) {k : Nat} (hk : k < n) : w.cell? ⟨g, k * 2, none⟩ = some (.int .i64 (f k).1) := by
  obtain ⟨cur, h1, _, _, h2⟩ := h; rw [cell_of_row w g _ cur _ _ h1]; exact (h2 k hk).1
theorem SRow.cell2 {w : World} {g cap n : Nat} {f : Nat → Spn} (h : SRow w g cap n f) {k : Nat} (hk : k < n) : w.cell? ⟨g, k * 2 + 1, none⟩ = some (.int .i64 (f k).2) := by
  obtain ⟨cur, h1, _, _, h2⟩ := h; rw [cell_of_row w g _ cur _ _ h1]; exact (h2 k hk).2
theorem SRow.free {w : World} {g cap n : Nat} {f : Nat → Spn} (h : SRow w g cap n f) (k : Nat) : w.frozen? ⟨g, k, none⟩ = false := by
  obtain ⟨cur, h1, _⟩ := h; simp [World.frozen?, h1]
theorem SRow.lt {w : World} {g cap n : Nat} {f : Nat → Spn} (h : SRow w g cap n f) : g < w.heap.size := by
  obtain ⟨cur, h1, _⟩ := h; exact (Array.getElem?_eq_some_iff.1 h1).1
theorem SRow.cap {w : World} {g cap n : Nat} {f : Nat → Spn} (h : SRow w g cap n f) : n ≤ cap := by obtain ⟨_, _, h2, _⟩ := h; exact h2
theorem SRow.drew {w : World} {g cap n : Nat} {f : Nat → Spn} (h : SRow w g cap n f) (m : Nat) : SRow (w.drewN m) g cap n f := h
theorem SRow.less {w : World} {g cap n m : Nat} {f : Nat → Spn} (h : SRow w g cap n f) (hm : m ≤ n) : SRow w g cap m f := by
  obtain ⟨cur, h1, h2, h3, h4⟩ := h; exact ⟨cur, h1, by omega, h3, fun k hk => h4 k (by omega)⟩
theorem SRow.keep {w w' : World} {g cap n : Nat} {f : Nat → Spn} (h : SRow w g cap n f) (hb : w'.heap[g]? = w.heap[g]?) : SRow w' g cap n f := by
  obtain ⟨cur, h1, h2⟩ := h; exact ⟨cur, hb.trans h1, h2⟩
theorem SRow.same {w : World} {g cap n : Nat} {f f' : Nat → Spn} (h : SRow w g cap n f) (e : ∀ k, k < n → f k = f' k) : SRow w g cap n f' := by
  obtain ⟨cur, h1, h2, h3, h4⟩ := h; exact ⟨cur, h1, h2, h3, fun k hk => by rw [← e k hk]; exact h4 k hk⟩
theorem heap_set {w : World} {g : Nat} {cur : Array Value} {T : TypeId} (h1 : w.heap[g]? = some (.cells cur T (0, 0))) (j : Nat) (u : Value) : (w.setCell ⟨g, j, none⟩ u).heap[g]? = some (.cells (cur.setIfInBounds j u) T (0, 0)) := by
  have hlt := (Array.getElem?_eq_some_iff.1 h1).1
  have h' : w.heap[g] = .cells cur T (0, 0) := (Array.getElem?_eq_some_iff.1 h1).2
  show (w.heap.modify g _)[g]? = _
  rw [Array.getElem?_eq_getElem (by simpa using hlt), Array.getElem_modify_self, h']
  rfl
theorem SRow.set {w : World} {g cap n : Nat} {f : Nat → Spn} (h : SRow w g cap n f) (j : Nat) (s : Spn) : SRow ((w.setCell ⟨g, j * 2, none⟩ (.int .i64 s.1)).setCell ⟨g, j * 2 + 1, none⟩ (.int .i64 s.2)) g cap n (fun k => if k = j then s else f k) := by
  obtain ⟨cur, h1, h2, h3, h4⟩ := h
  refine ⟨_, heap_set (heap_set h1 _ _) _ _, h2, by simp [h3], fun k hk => ?_⟩
  dsimp only
  by_cases e : k = j
  · subst e
    rw [if_pos rfl]
    refine ⟨?_, ?_⟩
    · rw [Array.getElem?_setIfInBounds_ne (by omega), Array.getElem?_setIfInBounds_self_of_lt (by omega)]
    · rw [Array.getElem?_setIfInBounds_self_of_lt (by simp; omega)]
  · rw [if_neg e]
    refine ⟨?_, ?_⟩
    · rw [Array.getElem?_setIfInBounds_ne (by omega), Array.getElem?_setIfInBounds_ne (by omega)]; exact (h4 k hk).1
    · rw [Array.getElem?_setIfInBounds_ne (by omega), Array.getElem?_setIfInBounds_ne (by omega)]; exact (h4 k hk).2
/-- The row as a list. -/
def spL (n : Nat) (f : Nat → Spn) : List Spn := (List.range n).map f
theorem mem_spL {n : Nat} {f : Nat → Spn} {s : Spn} : s ∈ spL n f ↔ ∃ k, k < n ∧ f k = s := by
  unfold spL; rw [List.mem_map]
  constructor
  · rintro ⟨k, h, e⟩; exact ⟨k, List.mem_range.1 h, e⟩
  · rintro ⟨k, h, e⟩; exact ⟨k, List.mem_range.2 h, e⟩
theorem spL_succ (n : Nat) (f : Nat → Spn) : spL (n + 1) f = spL n f ++ [f n] := by unfold spL; rw [List.range_succ, List.map_append]; rfl
theorem spL_len (n : Nat) (f : Nat → Spn) : (spL n f).length = n := by simp [spL]
end Go.Proofs.YtheemhelioendaaGreatDoor
