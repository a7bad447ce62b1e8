/- A catalog in memory. -/
import Derived.Test.YtheemhelioendaaGreatDoorCatM
import Derived.Test.YtheemhelioendaaGreatDoorGRow
import Derived.Test.YtheemhelioendaaGreatDoorSame
namespace Go.Proofs.YtheemhelioendaaGreatDoor
open Go.RowKit
set_option linter.unusedVariables false

def encLine (x : LineM) : List Value := [.int .i64 x.kind, .string x.name, .int .i64 x.va, .int .i64 x.vb, .int .i64 x.vc, .string x.other, x.rv]
def encItem (x : ItemM) : List Value := [.string x.1, .int .i64 x.2.1, .int .i64 x.2.2.1, .int .i64 x.2.2.2]
theorem encLine_len (x : LineM) : (encLine x).length = 7 := rfl
theorem encItem_len (x : ItemM) : (encItem x).length = 4 := rfl
/-- A line that lies in memory: its range lies there, and is one. -/
structure LineIn (w : World) (x : LineM) : Prop where
  rng : IsSp w x.rv x.range
  few : x.range.length ≤ 7000
  can : Canon x.range
  sz1 : x.name.size ≤ 9223372036854775807
  sz2 : x.other.size ≤ 9223372036854775807
theorem LineIn.below {w w' : World} {x : LineM} (h : LineIn w x) (hb : Below w.heap.size w w') : LineIn w' x := ⟨h.rng.below hb, h.few, h.can, h.sz1, h.sz2⟩
/-- A slice of lines, in a block of its own from base on. -/
structure IsLines (w : World) (base : Nat) (v : Value) (ls : List LineM) : Prop where
  row : RowG w base 51 7 encLine v ls
  ins : ∀ x ∈ ls, LineIn w x
theorem IsLines.below {w w' : World} {base : Nat} {v : Value} {ls : List LineM} (h : IsLines w base v ls) (hb : Below w.heap.size w w') : IsLines w' base v ls := ⟨h.row.below hb, fun x hx => (h.ins x hx).below hb⟩
theorem IsLines.nil (w : World) (base : Nat) : IsLines w base (.slice none 0 0) [] := ⟨RowG.nil _ _ _ _ _, fun x hx => by cases hx⟩
theorem IsLines.less {w : World} {base base' : Nat} {v : Value} {ls : List LineM} (h : IsLines w base v ls) (hb : base' ≤ base) : IsLines w base' v ls := ⟨h.row.less hb, h.ins⟩
def IsItems (w : World) (base : Nat) (v : Value) (items : List ItemM) : Prop := RowG w base 61 4 encItem v items
theorem IsItems.below {w w' : World} {base : Nat} {v : Value} {items : List ItemM} (h : IsItems w base v items) (hb : Below w.heap.size w w') : IsItems w' base v items := RowG.below h hb
theorem IsItems.nil (w : World) (base : Nat) : IsItems w base (.slice none 0 0) [] := RowG.nil _ _ _ _ _
/-- The cells of an item. -/
theorem IsItems.cells {w : World} {base g n c : Nat} {items : List ItemM} (h : IsItems w base (.slice (some ⟨g, 0, none⟩) n c) items) {k : Nat} (hk : k < items.length) :
    w.cell? ⟨g, k * 4, none⟩ = some (.string items[k].1) ∧ w.cell? ⟨g, k * 4 + 1, none⟩ = some (.int .i64 items[k].2.1) ∧ w.cell? ⟨g, k * 4 + 2, none⟩ = some (.int .i64 items[k].2.2.1) ∧ w.cell? ⟨g, k * 4 + 3, none⟩ = some (.int .i64 items[k].2.2.2) :=
  ⟨RowG.cell encItem_len h hk (j := 0) (by decide) rfl, RowG.cell encItem_len h hk (j := 1) (by decide) rfl, RowG.cell encItem_len h hk (j := 2) (by decide) rfl, RowG.cell encItem_len h hk (j := 3) (by decide) rfl⟩
/-- The cells of a line. -/
theorem IsLines.cells {w : World} {base g n c : Nat} {ls : List LineM} (h : IsLines w base (.slice (some ⟨g, 0, none⟩) n c) ls) {k : Nat} (hk : k < ls.length) :
    w.cell? ⟨g, k * 7, none⟩ = some (.int .i64 ls[k].kind) ∧ w.cell? ⟨g, k * 7 + 1, none⟩ = some (.string ls[k].name) ∧ w.cell? ⟨g, k * 7 + 2, none⟩ = some (.int .i64 ls[k].va) ∧ w.cell? ⟨g, k * 7 + 3, none⟩ = some (.int .i64 ls[k].vb) ∧ w.cell? ⟨g, k * 7 + 4, none⟩ = some (.int .i64 ls[k].vc) ∧
    w.cell? ⟨g, k * 7 + 5, none⟩ = some (.string ls[k].other) ∧ w.cell? ⟨g, k * 7 + 6, none⟩ = some ls[k].rv :=
  ⟨RowG.cell encLine_len h.row hk (j := 0) (by decide) rfl, RowG.cell encLine_len h.row hk (j := 1) (by decide) rfl, RowG.cell encLine_len h.row hk (j := 2) (by decide) rfl, RowG.cell encLine_len h.row hk (j := 3) (by decide) rfl, RowG.cell encLine_len h.row hk (j := 4) (by decide) rfl, RowG.cell encLine_len h.row hk (j := 5) (by decide) rfl, RowG.cell encLine_len h.row hk (j := 6) (by decide) rfl⟩
/-- A catalog at a block. -/
structure CatAt (w : World) (p : Nat) (vl vi : Value) (ls : List LineM) (items : List ItemM) : Prop where
  box : w.heap[p]? = some (.cells #[vl, vi] 83 (0, 0))
  lines : IsLines w 0 vl ls
  its : IsItems w 0 vi items
def IsCat (w : World) (p : Nat) (ls : List LineM) (items : List ItemM) : Prop := CatOk ls items ∧ ∃ vl vi, CatAt w p vl vi ls items
theorem CatAt.below {w w' : World} {p : Nat} {vl vi : Value} {ls : List LineM} {items : List ItemM} (h : CatAt w p vl vi ls items) (hb : Below w.heap.size w w') : CatAt w' p vl vi ls items :=
  ⟨(hb.block _ (lt_of_block h.box)).trans h.box, h.lines.below hb, h.its.below hb⟩
theorem IsCat.below {w w' : World} {p : Nat} {ls : List LineM} {items : List ItemM} (h : IsCat w p ls items) (hb : Below w.heap.size w w') : IsCat w' p ls items := by
  obtain ⟨h0, vl, vi, h⟩ := h
  exact ⟨h0, vl, vi, h.below hb⟩
theorem cellsC {w : World} {p : Nat} {a b : Value} {T : TypeId} (h : w.heap[p]? = some (.cells #[a, b] T (0, 0))) : w.cell? ⟨p, 0, none⟩ = some a ∧ w.cell? ⟨p, 1, none⟩ = some b ∧ w.frozen? ⟨p, 0, none⟩ = false ∧ w.frozen? ⟨p, 1, none⟩ = false := by
  refine ⟨?_, ?_, ?_, ?_⟩
  · rw [cell_of_row w p _ _ _ _ h]; rfl
  · rw [cell_of_row w p _ _ _ _ h]; rfl
  all_goals simp [World.frozen?, h]
end Go.Proofs.YtheemhelioendaaGreatDoor
