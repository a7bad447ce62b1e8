/- Small laws on the heap. -/
import Derived.Test.YtheemhelioendaaGreatDoorRows
import Derived.Below
import Derived.Laws.Rows
namespace Go.Proofs.YtheemhelioendaaGreatDoor
open Go.RowKit
theorem alloc_get (w : World) (o : Obj) (k : Nat) : (w.alloc o).heap[k]? = if k = w.heap.size then some o else w.heap[k]? := by
  show (w.heap.push o)[k]? = _
  rw [Array.getElem?_push]
theorem alloc_size (w : World) (o : Obj) : (w.alloc o).heap.size = w.heap.size + 1 := by
  show (w.heap.push o).size = _
  rw [Array.size_push]
theorem heap_at {w : World} {o : Obj} {k : Nat} (h : k = w.heap.size) : (w.alloc o).heap[k]? = some o := by rw [alloc_get, if_pos h]
theorem heap_up {w : World} {o x : Obj} {k : Nat} (h : w.heap[k]? = some x) : (w.alloc o).heap[k]? = some x := by
  rw [alloc_get, if_neg (by have := (Array.getElem?_eq_some_iff.1 h).1; omega)]; exact h
end Go.Proofs.YtheemhelioendaaGreatDoor
