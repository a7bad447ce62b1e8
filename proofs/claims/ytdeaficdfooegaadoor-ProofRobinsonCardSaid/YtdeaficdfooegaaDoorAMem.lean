/- The arena in memory. -/
import Derived.Test.YtdeaficdfooegaaDoorArM
import Derived.Test.YtdeaficdfooegaaDoorHeap
import Derived.Test.YtdeaficdfooegaaDoorSpec
namespace Go.Proofs.YtdeaficdfooegaaDoor
open Go.RowKit
set_option linter.unusedVariables false

/-- An arena lies in block p: its nodes in bn, what is used in bu, the table in bt. -/
structure ArAt (w : World) (p bn bu bt R : Nat) (nodes : Nat → Nd) (used : Nat → Bool) (tab : List Int) (many : Int) : Prop where
  blk : w.heap[p]? = some (.cells #[.slice (some ⟨bn, 0, none⟩) R R, .slice (some ⟨bu, 0, none⟩) R R, .slice (some ⟨bt, 0, none⟩) tab.length tab.length, .int .i64 many] 152 (0, 0))
  nod : ∃ cn : Array Value, w.heap[bn]? = some (.cells cn 106 (0, 0)) ∧ cn.size = 3 * R ∧ ∀ k, k < R → cn[k * 3]? = some (.int .i64 (nodes k).1) ∧ cn[k * 3 + 1]? = some (.int .i64 (nodes k).2.1) ∧ cn[k * 3 + 2]? = some (.int .i64 (nodes k).2.2)
  use : ∃ cu : Array Value, w.heap[bu]? = some (.cells cu 4 (0, 0)) ∧ cu.size = R ∧ ∀ k, k < R → cu[k]? = some (.bool (used k))
  tbl : w.heap[bt]? = some (.cells (tab.map (Value.int .i64)).toArray 3 (0, 0))

theorem ArAt.below {w w' : World} {p bn bu bt R : Nat} {nodes : Nat → Nd} {used : Nat → Bool} {tab : List Int} {many : Int} (h : ArAt w p bn bu bt R nodes used tab many) (hb : Below w.heap.size w w') : ArAt w' p bn bu bt R nodes used tab many := by
  have key : ∀ {b : Nat} {o : Obj}, w.heap[b]? = some o → w'.heap[b]? = some o := fun {b o} e => by
    rw [hb.block b (Array.getElem?_eq_some_iff.1 e).1]; exact e
  obtain ⟨cn, h1, h2⟩ := h.nod
  obtain ⟨cu, h3, h4⟩ := h.use
  exact ⟨key h.blk, ⟨cn, key h1, h2⟩, ⟨cu, key h3, h4⟩, key h.tbl⟩

section
variable {w : World} {p bn bu bt R : Nat} {nodes : Nat → Nd} {used : Nat → Bool} {tab : List Int} {many : Int} (h : ArAt w p bn bu bt R nodes used tab many)
include h
theorem ArAt.f0 : w.cell? ⟨p, 0, none⟩ = some (.slice (some ⟨bn, 0, none⟩) R R) := by rw [cell_of_row w p _ _ _ _ h.blk]; rfl
theorem ArAt.f1 : w.cell? ⟨p, 1, none⟩ = some (.slice (some ⟨bu, 0, none⟩) R R) := by rw [cell_of_row w p _ _ _ _ h.blk]; rfl
theorem ArAt.f2 : w.cell? ⟨p, 2, none⟩ = some (.slice (some ⟨bt, 0, none⟩) tab.length tab.length) := by rw [cell_of_row w p _ _ _ _ h.blk]; rfl
theorem ArAt.f3 : w.cell? ⟨p, 3, none⟩ = some (.int .i64 many) := by rw [cell_of_row w p _ _ _ _ h.blk]; rfl
theorem ArAt.n0 {k : Nat} (hk : k < R) : w.cell? ⟨bn, k * 3, none⟩ = some (.int .i64 (nodes k).1) := by
  obtain ⟨cn, h1, _, h2⟩ := h.nod; rw [cell_of_row w bn _ _ _ _ h1]; exact (h2 k hk).1
theorem ArAt.n1 {k : Nat} (hk : k < R) : w.cell? ⟨bn, k * 3 + 1, none⟩ = some (.int .i64 (nodes k).2.1) := by
  obtain ⟨cn, h1, _, h2⟩ := h.nod; rw [cell_of_row w bn _ _ _ _ h1]; exact (h2 k hk).2.1
theorem ArAt.n2 {k : Nat} (hk : k < R) : w.cell? ⟨bn, k * 3 + 2, none⟩ = some (.int .i64 (nodes k).2.2) := by
  obtain ⟨cn, h1, _, h2⟩ := h.nod; rw [cell_of_row w bn _ _ _ _ h1]; exact (h2 k hk).2.2
theorem ArAt.u {k : Nat} (hk : k < R) : w.cell? ⟨bu, k, none⟩ = some (.bool (used k)) := by
  obtain ⟨cu, h1, _, h2⟩ := h.use; rw [cell_of_row w bu _ _ _ _ h1]; exact h2 k hk
theorem ArAt.t {i : Nat} (hi : i < tab.length) : w.cell? ⟨bt, i, none⟩ = some (.int .i64 (tab.getD i 0)) := by
  rw [cell_of_row w bt _ _ _ _ h.tbl, List.getElem?_toArray, List.getElem?_map, List.getElem?_eq_getElem hi, getD_at _ _ hi]; rfl
end

section
variable {w : World} {p bn bu bt R : Nat} {nodes : Nat → Nd} {used : Nat → Bool} {tab : List Int} {many : Int} (h : ArAt w p bn bu bt R nodes used tab many)
include h
theorem ArAt.lp : p < w.heap.size := (Array.getElem?_eq_some_iff.1 h.blk).1
theorem ArAt.ln : bn < w.heap.size := by obtain ⟨cn, h1, _⟩ := h.nod; exact (Array.getElem?_eq_some_iff.1 h1).1
theorem ArAt.lu : bu < w.heap.size := by obtain ⟨cn, h1, _⟩ := h.use; exact (Array.getElem?_eq_some_iff.1 h1).1
theorem ArAt.lt : bt < w.heap.size := (Array.getElem?_eq_some_iff.1 h.tbl).1
end

theorem below_drewN {B : Nat} {a w : World} (h : Below B a w) (n : Nat) : Below B a (w.drewN n) := ⟨h.os, h.tape, h.output, h.size, h.block⟩

/-- Of the blocks that were there those of S alone may have turned. -/
structure Only (S : Nat → Prop) (w w' : World) : Prop where
  os : w'.os = w.os
  tape : w'.tape = w.tape
  output : w'.output = w.output
  size : w.heap.size ≤ w'.heap.size
  block : ∀ k, k < w.heap.size → ¬ S k → w'.heap[k]? = w.heap[k]?

theorem Only.refl (S : Nat → Prop) (w : World) : Only S w w := ⟨rfl, rfl, rfl, Nat.le_refl _, fun _ _ _ => rfl⟩
theorem Only.trans {S : Nat → Prop} {a b c : World} (h : Only S a b) (g : Only S b c) : Only S a c :=
  ⟨g.os.trans h.os, g.tape.trans h.tape, g.output.trans h.output, Nat.le_trans h.size g.size, fun k hk hn => (g.block k (Nat.lt_of_lt_of_le hk h.size) hn).trans (h.block k hk hn)⟩
theorem Only.mono {S S' : Nat → Prop} {w w' : World} (h : Only S w w') (hs : ∀ k, S k → S' k) : Only S' w w' := ⟨h.os, h.tape, h.output, h.size, fun k hk hn => h.block k hk (fun e => hn (hs k e))⟩
theorem Only.of_below {S : Nat → Prop} {B : Nat} {w w' : World} (h : Below B w w') (hB : B = w.heap.size) : Only S w w' := ⟨h.os, h.tape, h.output, h.size, fun k hk _ => h.block k (by omega)⟩
theorem Only.below {S : Nat → Prop} {B : Nat} {w w' : World} (h : Only S w w') (hB : B ≤ w.heap.size) (hs : ∀ k, S k → B ≤ k) : Below B w w' :=
  ⟨h.os, h.tape, h.output, h.size, fun k hk => h.block k (by omega) (fun e => by have := hs k e; omega)⟩
theorem Only.alloc {S : Nat → Prop} {a w : World} (h : Only S a w) (o : Obj) : Only S a (w.alloc o) :=
  h.trans ⟨rfl, rfl, rfl, by simp, fun k hk _ => Below.heap_alloc _ _ _ hk⟩
theorem Only.drew {S : Nat → Prop} {a w : World} (h : Only S a w) : Only S a w.drew := ⟨h.os, h.tape, h.output, h.size, h.block⟩
theorem Only.drewN {S : Nat → Prop} {a w : World} (h : Only S a w) (n : Nat) : Only S a (w.drewN n) := ⟨h.os, h.tape, h.output, h.size, h.block⟩
theorem Only.setCell {S : Nat → Prop} {a w : World} (h : Only S a w) {p : Addr} (hp : S p.block ∨ a.heap.size ≤ p.block) (u : Value) : Only S a (w.setCell p u) :=
  ⟨h.os, h.tape, h.output, by simpa using h.size, fun k hk hn => (Below.heap_setCell _ _ _ _ (fun e => by
    subst e
    rcases hp with h1 | h1
    · exact hn h1
    · omega)).trans (h.block k hk hn)⟩
theorem Only.cell {S : Nat → Prop} {w w' : World} (h : Only S w w') {p : Addr} (hp : p.block < w.heap.size) (hn : ¬ S p.block) : w'.cell? p = w.cell? p := World.cell?_of_block (w := w) (h.block p.block hp hn)
theorem Only.frozen {S : Nat → Prop} {w w' : World} (h : Only S w w') {p : Addr} (hp : p.block < w.heap.size) (hn : ¬ S p.block) : w'.frozen? p = w.frozen? p := World.frozen?_of_block (w := w) (h.block p.block hp hn)

theorem heap_set {w : World} {b e : Nat} {cur : Array Value} {fz : Nat × Nat} (h : w.heap[b]? = some (.cells cur e fz)) (o : Nat) (v : Value) : (w.setCell ⟨b, o, none⟩ v).heap[b]? = some (.cells (cur.setIfInBounds o v) e fz) := by
  simp [World.setCell, Array.getElem?_modify, h]
theorem heap_set_ne {w : World} {a : Addr} {v : Value} {k : Nat} {o : Obj} (h : w.heap[k]? = some o) (hne : k ≠ a.block) : (w.setCell a v).heap[k]? = some o := by
  rw [Below.heap_setCell _ _ _ _ hne]; exact h
theorem not_frozen {w : World} {b e o : Nat} {cur : Array Value} (h : w.heap[b]? = some (.cells cur e (0, 0))) : w.frozen? ⟨b, o, none⟩ = false := by
  simp [World.frozen?, h]

section
variable {w : World} {p bn bu bt R : Nat} {nodes : Nat → Nd} {used : Nat → Bool} {tab : List Int} {many : Int} (h : ArAt w p bn bu bt R nodes used tab many)
include h
theorem ArAt.zp (o : Nat) : w.frozen? ⟨p, o, none⟩ = false := not_frozen h.blk
theorem ArAt.zn (o : Nat) : w.frozen? ⟨bn, o, none⟩ = false := by obtain ⟨cn, h1, _⟩ := h.nod; exact not_frozen h1
theorem ArAt.zu (o : Nat) : w.frozen? ⟨bu, o, none⟩ = false := by obtain ⟨cn, h1, _⟩ := h.use; exact not_frozen h1
theorem ArAt.zt (o : Nat) : w.frozen? ⟨bt, o, none⟩ = false := not_frozen h.tbl
end

/-- An arena's blocks, and its room. -/
structure Bk where
  p : Nat
  bn : Nat
  bu : Nat
  bt : Nat
  R : Nat
def Bk.mem (b : Bk) (k : Nat) : Prop := k = b.p ∨ k = b.bn ∨ k = b.bu ∨ k = b.bt
structure Bk.Apart (b : Bk) : Prop where
  n1 : b.p ≠ b.bn
  n2 : b.p ≠ b.bu
  n3 : b.p ≠ b.bt
  n4 : b.bn ≠ b.bu
  n5 : b.bn ≠ b.bt
  n6 : b.bu ≠ b.bt

theorem ArAt.keep {w w' : World} {p bn bu bt R : Nat} {nodes : Nat → Nd} {used : Nat → Bool} {tab : List Int} {many : Int} (h : ArAt w p bn bu bt R nodes used tab many) (h1 : w'.heap[p]? = w.heap[p]?) (h2 : w'.heap[bn]? = w.heap[bn]?)
    (h3 : w'.heap[bu]? = w.heap[bu]?) (h4 : w'.heap[bt]? = w.heap[bt]?) : ArAt w' p bn bu bt R nodes used tab many := by
  obtain ⟨cn, g1, g2⟩ := h.nod
  obtain ⟨cu, g3, g4⟩ := h.use
  exact ⟨by rw [h1]; exact h.blk, ⟨cn, by rw [h2]; exact g1, g2⟩, ⟨cu, by rw [h3]; exact g3, g4⟩, by rw [h4]; exact h.tbl⟩

section
variable {w : World} {b : Bk} {nodes : Nat → Nd} {used : Nat → Bool} {tab : List Int} {many : Int}
theorem ArAt.setNode (h : ArAt w b.p b.bn b.bu b.bt b.R nodes used tab many) (ap : b.Apart) {k : Nat} (hk : k < b.R) (n : Nd) :
    ArAt (((w.setCell ⟨b.bn, k * 3, none⟩ (.int .i64 n.1)).setCell ⟨b.bn, k * 3 + 1, none⟩ (.int .i64 n.2.1)).setCell ⟨b.bn, k * 3 + 2, none⟩ (.int .i64 n.2.2)) b.p b.bn b.bu b.bt b.R (fun j => if j = k then n else nodes j) used tab many := by
  obtain ⟨cn, g1, g2, g5⟩ := h.nod
  obtain ⟨cu, g3, g4⟩ := h.use
  have k1 := ap.n1; have k2 := ap.n4; have k3 := ap.n5
  refine ⟨heap_set_ne (heap_set_ne (heap_set_ne h.blk k1) k1) k1, ⟨_, heap_set (heap_set (heap_set g1 _ _) _ _) _ _, by simp [g2], fun j hj => ?_⟩, ⟨cu, heap_set_ne (heap_set_ne (heap_set_ne g3 k2.symm) k2.symm) k2.symm, g4⟩, heap_set_ne (heap_set_ne (heap_set_ne h.tbl k3.symm) k3.symm) k3.symm⟩
  obtain ⟨r1, r2, r3⟩ := g5 j hj
  by_cases e : j = k
  · subst e
    simp only [if_true]
    refine ⟨?_, ?_, ?_⟩ <;> simp only [Array.getElem?_setIfInBounds, Array.size_setIfInBounds, g2, if_true] <;> repeat (first | rfl | rw [if_pos (by omega)] | rw [if_neg (by omega)])
  · simp only [if_neg e]
    refine ⟨?_, ?_, ?_⟩ <;> simp only [Array.getElem?_setIfInBounds, Array.size_setIfInBounds] <;> rw [if_neg (by omega), if_neg (by omega), if_neg (by omega)] <;> assumption
theorem ArAt.setUsed (h : ArAt w b.p b.bn b.bu b.bt b.R nodes used tab many) (ap : b.Apart) {k : Nat} (hk : k < b.R) (x : Bool) :
    ArAt (w.setCell ⟨b.bu, k, none⟩ (.bool x)) b.p b.bn b.bu b.bt b.R nodes (fun j => if j = k then x else used j) tab many := by
  obtain ⟨cu, g3, g4, g5⟩ := h.use
  obtain ⟨cn, g1, g2⟩ := h.nod
  refine ⟨heap_set_ne h.blk ap.n2, ⟨cn, heap_set_ne g1 ap.n4, g2⟩, ⟨_, heap_set g3 _ _, by simp [g4], fun j hj => ?_⟩, heap_set_ne h.tbl ap.n6.symm⟩
  rw [Array.getElem?_setIfInBounds]
  by_cases e : j = k
  · subst e; rw [if_pos rfl, if_pos (by omega)]; simp
  · rw [if_neg (fun e2 => e e2.symm)]; simp only [if_neg e]; exact g5 j hj
theorem ArAt.setTab (h : ArAt w b.p b.bn b.bu b.bt b.R nodes used tab many) (ap : b.Apart) (i : Nat) (x : Int) :
    ArAt (w.setCell ⟨b.bt, i, none⟩ (.int .i64 x)) b.p b.bn b.bu b.bt b.R nodes used (tab.set i x) many := by
  obtain ⟨cu, g3, g4⟩ := h.use
  obtain ⟨cn, g1, g2⟩ := h.nod
  refine ⟨by rw [List.length_set]; exact heap_set_ne h.blk ap.n3, ⟨cn, heap_set_ne g1 ap.n5, g2⟩, ⟨cu, heap_set_ne g3 ap.n6, g4⟩, ?_⟩
  rw [heap_set h.tbl]
  simp [List.map_set]
theorem ArAt.setMany (h : ArAt w b.p b.bn b.bu b.bt b.R nodes used tab many) (ap : b.Apart) (x : Int) :
    ArAt (w.setCell ⟨b.p, 3, none⟩ (.int .i64 x)) b.p b.bn b.bu b.bt b.R nodes used tab x := by
  obtain ⟨cu, g3, g4⟩ := h.use
  obtain ⟨cn, g1, g2⟩ := h.nod
  refine ⟨?_, ⟨cn, heap_set_ne g1 ap.n1.symm, g2⟩, ⟨cu, heap_set_ne g3 ap.n2.symm, g4⟩, heap_set_ne h.tbl ap.n3.symm⟩
  rw [heap_set h.blk]; rfl
end

/-- Where a node's walk begins, in a table of m cells. -/
def hsh (m : Nat) (n : Nd) : Nat := (IntKind.u64.wrap (IntKind.u64.wrap (IntKind.u64.wrap (IntKind.u64.wrap n.1 * 2654435761) + IntKind.u64.wrap (IntKind.u64.wrap n.2.1 * 2246822519)) + IntKind.u64.wrap (IntKind.u64.wrap n.2.2 * 3266489917))).toNat % m

/-- An arena lies in blocks b, and holds c. -/
structure IsArena (w : World) (b : Bk) (c : Cells) : Prop where
  len : c.length = b.R
  room : 1 ≤ b.R ∧ b.R ≤ 4000
  apart : b.Apart
  mem : ∃ (nodes : Nat → Nd) (tab : List Int), ArAt w b.p b.bn b.bu b.bt b.R nodes (fun k => (c.at k).isSome) tab (cnt c) ∧ tab.length = 2 * b.R + 1 ∧ TabOK (hsh (2 * b.R + 1)) nodes (fun k => (c.at k).isSome = true) tab ∧ ∀ k n, c.at k = some n → nodes k = n

theorem IsArena.below {w w' : World} {b : Bk} {c : Cells} (h : IsArena w b c) (hb : Below w.heap.size w w') : IsArena w' b c := by
  obtain ⟨h1, h2, h3, nodes, tab, h4, h5⟩ := h
  exact ⟨h1, h2, h3, nodes, tab, h4.below hb, h5⟩
theorem IsArena.only {S : Nat → Prop} {w w' : World} {b : Bk} {c : Cells} (h : IsArena w b c) (ho : Only S w w') (hs : ∀ k, b.mem k → ¬ S k) : IsArena w' b c := by
  obtain ⟨h1, h2, h3, nodes, tab, h4, h5⟩ := h
  obtain ⟨cn, g1, g2⟩ := h4.nod
  obtain ⟨cu, g3, g4⟩ := h4.use
  refine ⟨h1, h2, h3, nodes, tab, h4.keep (ho.block _ (Array.getElem?_eq_some_iff.1 h4.blk).1 (hs _ (.inl rfl))) (ho.block _ (Array.getElem?_eq_some_iff.1 g1).1 (hs _ (.inr (.inl rfl))))
    (ho.block _ (Array.getElem?_eq_some_iff.1 g3).1 (hs _ (.inr (.inr (.inl rfl))))) (ho.block _ (Array.getElem?_eq_some_iff.1 h4.tbl).1 (hs _ (.inr (.inr (.inr rfl))))), h5⟩
theorem IsArena.lt {w : World} {b : Bk} {c : Cells} (h : IsArena w b c) {k : Nat} (hk : b.mem k) : k < w.heap.size := by
  obtain ⟨h1, h2, h3, nodes, tab, h4, h5⟩ := h
  obtain ⟨cn, g1, g2⟩ := h4.nod
  obtain ⟨cu, g3, g4⟩ := h4.use
  rcases hk with rfl | rfl | rfl | rfl
  · exact (Array.getElem?_eq_some_iff.1 h4.blk).1
  · exact (Array.getElem?_eq_some_iff.1 g1).1
  · exact (Array.getElem?_eq_some_iff.1 g3).1
  · exact (Array.getElem?_eq_some_iff.1 h4.tbl).1
end Go.Proofs.YtdeaficdfooegaaDoor
