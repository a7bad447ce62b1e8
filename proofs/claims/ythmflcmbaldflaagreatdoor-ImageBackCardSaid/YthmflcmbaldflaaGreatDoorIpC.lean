/- Some texts in one: AMem, Keys, Arena, Place, Index, Quiet. -/
import Derived.Test.YthmflcmbaldflaaGreatDoorIpA
import Derived.Test.YthmflcmbaldflaaGreatDoorIpB
import Derived.Laws.StructEq
import Derived.Deep.Matrix
import Derived.Deep.QuietTactic
import Derived.BigQuiet
import Derived.BigRegion
import Derived.IntWalk
import Derived.Outline
import Derived.Deep.OwnRows
import Derived.WalkKit
namespace Go.Proofs.YthmflcmbaldflaaGreatDoor
open Go.RowKit
set_option linter.unusedVariables false

/-- An arena lies in block p: its nodes in bn, what is used in bu, the table in bt. -/
structure ArAt (w : World) (p bn bu bt R : Nat) (nodes : Nat → Nd) (used : Nat → Bool) (tab : List Int) (many : Int) : Prop where
  blk : w.heap[p]? = some (.cells #[.slice (some ⟨bn, 0, none⟩) R R, .slice (some ⟨bu, 0, none⟩) R R, .slice (some ⟨bt, 0, none⟩) tab.length tab.length, .int .i64 many] 92 (0, 0))
  nod : ∃ cn : Array Value, w.heap[bn]? = some (.cells cn 68 (0, 0)) ∧ cn.size = 3 * R ∧ ∀ k, k < R → cn[k * 3]? = some (.int .i64 (nodes k).1) ∧ cn[k * 3 + 1]? = some (.int .i64 (nodes k).2.1) ∧ cn[k * 3 + 2]? = some (.int .i64 (nodes k).2.2)
  use : ∃ cu : Array Value, w.heap[bu]? = some (.cells cu 4 (0, 0)) ∧ cu.size = R ∧ ∀ k, k < R → cu[k]? = some (.bool (used k))
  tbl : w.heap[bt]? = some (.cells (tab.map (Value.int .i64)).toArray 3 (0, 0))

theorem ArAt.below {w w' : World} {p bn bu bt R : Nat} {nodes : Nat → Nd} {used : Nat → Bool} {tab : List Int} {many : Int} (h : ArAt w p bn bu bt R nodes used tab many) (hb : Below w.heap.size w w') : ArAt w' p bn bu bt R nodes used tab many := by
  have key : ∀ {b : Nat} {o : Obj}, w.heap[b]? = some o → w'.heap[b]? = some o := fun {b o} e => by
    rw [hb.block b (Array.getElem?_eq_some_iff.1 e).1]; exact e
  obtain ⟨cn, h1, h2⟩ := h.nod
  obtain ⟨cu, h3, h4⟩ := h.use
  exact ⟨key h.blk, ⟨cn, key h1, h2⟩, ⟨cu, key h3, h4⟩, key h.tbl⟩

section
variable {w : World} {p bn bu bt R : Nat} {nodes : Nat → Nd} {used : Nat → Bool} {tab : List Int} {many : Int} (h : ArAt w p bn bu bt R nodes used tab many)
include h
theorem ArAt.f0 : w.cell? ⟨p, 0, none⟩ = some (.slice (some ⟨bn, 0, none⟩) R R) := by rw [cell_of_row w p _ _ _ _ h.blk]; rfl
theorem ArAt.f1 : w.cell? ⟨p, 1, none⟩ = some (.slice (some ⟨bu, 0, none⟩) R R) := by rw [cell_of_row w p _ _ _ _ h.blk]; rfl
theorem ArAt.f2 : w.cell? ⟨p, 2, none⟩ = some (.slice (some ⟨bt, 0, none⟩) tab.length tab.length) := by rw [cell_of_row w p _ _ _ _ h.blk]; rfl
theorem ArAt.f3 : w.cell? ⟨p, 3, none⟩ = some (.int .i64 many) := by rw [cell_of_row w p _ _ _ _ h.blk]; rfl
theorem ArAt.n0 {k : Nat} (hk : k < R) : w.cell? ⟨bn, k * 3, none⟩ = some (.int .i64 (nodes k).1) := by
  obtain ⟨cn, h1, _, h2⟩ := h.nod; rw [cell_of_row w bn _ _ _ _ h1]; exact (h2 k hk).1
theorem ArAt.n1 {k : Nat} (hk : k < R) : w.cell? ⟨bn, k * 3 + 1, none⟩ = some (.int .i64 (nodes k).2.1) := by
  obtain ⟨cn, h1, _, h2⟩ := h.nod; rw [cell_of_row w bn _ _ _ _ h1]; exact (h2 k hk).2.1
theorem ArAt.n2 {k : Nat} (hk : k < R) : w.cell? ⟨bn, k * 3 + 2, none⟩ = some (.int .i64 (nodes k).2.2) := by
  obtain ⟨cn, h1, _, h2⟩ := h.nod; rw [cell_of_row w bn _ _ _ _ h1]; exact (h2 k hk).2.2
theorem ArAt.u {k : Nat} (hk : k < R) : w.cell? ⟨bu, k, none⟩ = some (.bool (used k)) := by
  obtain ⟨cu, h1, _, h2⟩ := h.use; rw [cell_of_row w bu _ _ _ _ h1]; exact h2 k hk
theorem ArAt.t {i : Nat} (hi : i < tab.length) : w.cell? ⟨bt, i, none⟩ = some (.int .i64 (tab.getD i 0)) := by
  rw [cell_of_row w bt _ _ _ _ h.tbl, List.getElem?_toArray, List.getElem?_map, List.getElem?_eq_getElem hi, getD_at _ _ hi]; rfl
end

section
variable {w : World} {p bn bu bt R : Nat} {nodes : Nat → Nd} {used : Nat → Bool} {tab : List Int} {many : Int} (h : ArAt w p bn bu bt R nodes used tab many)
include h
theorem ArAt.lp : p < w.heap.size := (Array.getElem?_eq_some_iff.1 h.blk).1
theorem ArAt.ln : bn < w.heap.size := by obtain ⟨cn, h1, _⟩ := h.nod; exact (Array.getElem?_eq_some_iff.1 h1).1
theorem ArAt.lu : bu < w.heap.size := by obtain ⟨cn, h1, _⟩ := h.use; exact (Array.getElem?_eq_some_iff.1 h1).1
theorem ArAt.lt : bt < w.heap.size := (Array.getElem?_eq_some_iff.1 h.tbl).1
end

theorem below_drewA {B : Nat} {a w : World} (h : Below B a w) (n : Nat) : Below B a (w.drewN n) := ⟨h.os, h.tape, h.output, h.size, h.block⟩

/-- Of the blocks that were there those of S alone may have turned. -/
structure Only (S : Nat → Prop) (w w' : World) : Prop where
  os : w'.os = w.os
  tape : w'.tape = w.tape
  output : w'.output = w.output
  size : w.heap.size ≤ w'.heap.size
  block : ∀ k, k < w.heap.size → ¬ S k → w'.heap[k]? = w.heap[k]?

theorem Only.refl (S : Nat → Prop) (w : World) : Only S w w := ⟨rfl, rfl, rfl, Nat.le_refl _, fun _ _ _ => rfl⟩
theorem Only.trans {S : Nat → Prop} {a b c : World} (h : Only S a b) (g : Only S b c) : Only S a c :=
  ⟨g.os.trans h.os, g.tape.trans h.tape, g.output.trans h.output, Nat.le_trans h.size g.size, fun k hk hn => (g.block k (Nat.lt_of_lt_of_le hk h.size) hn).trans (h.block k hk hn)⟩
theorem Only.mono {S S' : Nat → Prop} {w w' : World} (h : Only S w w') (hs : ∀ k, S k → S' k) : Only S' w w' := ⟨h.os, h.tape, h.output, h.size, fun k hk hn => h.block k hk (fun e => hn (hs k e))⟩
theorem Only.of_below {S : Nat → Prop} {B : Nat} {w w' : World} (h : Below B w w') (hB : B = w.heap.size) : Only S w w' := ⟨h.os, h.tape, h.output, h.size, fun k hk _ => h.block k (by omega)⟩
theorem Only.below {S : Nat → Prop} {B : Nat} {w w' : World} (h : Only S w w') (hB : B ≤ w.heap.size) (hs : ∀ k, S k → B ≤ k) : Below B w w' :=
  ⟨h.os, h.tape, h.output, h.size, fun k hk => h.block k (by omega) (fun e => by have := hs k e; omega)⟩
theorem Only.alloc {S : Nat → Prop} {a w : World} (h : Only S a w) (o : Obj) : Only S a (w.alloc o) :=
  h.trans ⟨rfl, rfl, rfl, by simp, fun k hk _ => Below.heap_alloc _ _ _ hk⟩
theorem Only.drew {S : Nat → Prop} {a w : World} (h : Only S a w) : Only S a w.drew := ⟨h.os, h.tape, h.output, h.size, h.block⟩
theorem Only.drewN {S : Nat → Prop} {a w : World} (h : Only S a w) (n : Nat) : Only S a (w.drewN n) := ⟨h.os, h.tape, h.output, h.size, h.block⟩
theorem Only.setCell {S : Nat → Prop} {a w : World} (h : Only S a w) {p : Addr} (hp : S p.block ∨ a.heap.size ≤ p.block) (u : Value) : Only S a (w.setCell p u) :=
  ⟨h.os, h.tape, h.output, by simpa using h.size, fun k hk hn => (Below.heap_setCell _ _ _ _ (fun e => by
    subst e
    rcases hp with h1 | h1
    · exact hn h1
    · omega)).trans (h.block k hk hn)⟩
theorem Only.cell {S : Nat → Prop} {w w' : World} (h : Only S w w') {p : Addr} (hp : p.block < w.heap.size) (hn : ¬ S p.block) : w'.cell? p = w.cell? p := World.cell?_of_block (w := w) (h.block p.block hp hn)
theorem Only.frozen {S : Nat → Prop} {w w' : World} (h : Only S w w') {p : Addr} (hp : p.block < w.heap.size) (hn : ¬ S p.block) : w'.frozen? p = w.frozen? p := World.frozen?_of_block (w := w) (h.block p.block hp hn)

theorem heap_setA {w : World} {b e : Nat} {cur : Array Value} {fz : Nat × Nat} (h : w.heap[b]? = some (.cells cur e fz)) (o : Nat) (v : Value) : (w.setCell ⟨b, o, none⟩ v).heap[b]? = some (.cells (cur.setIfInBounds o v) e fz) := by
  simp [World.setCell, Array.getElem?_modify, h]
theorem heap_set_ne {w : World} {a : Addr} {v : Value} {k : Nat} {o : Obj} (h : w.heap[k]? = some o) (hne : k ≠ a.block) : (w.setCell a v).heap[k]? = some o := by
  rw [Below.heap_setCell _ _ _ _ hne]; exact h
theorem not_frozen {w : World} {b e o : Nat} {cur : Array Value} (h : w.heap[b]? = some (.cells cur e (0, 0))) : w.frozen? ⟨b, o, none⟩ = false := by
  simp [World.frozen?, h]

section
variable {w : World} {p bn bu bt R : Nat} {nodes : Nat → Nd} {used : Nat → Bool} {tab : List Int} {many : Int} (h : ArAt w p bn bu bt R nodes used tab many)
include h
theorem ArAt.zp (o : Nat) : w.frozen? ⟨p, o, none⟩ = false := not_frozen h.blk
theorem ArAt.zn (o : Nat) : w.frozen? ⟨bn, o, none⟩ = false := by obtain ⟨cn, h1, _⟩ := h.nod; exact not_frozen h1
theorem ArAt.zu (o : Nat) : w.frozen? ⟨bu, o, none⟩ = false := by obtain ⟨cn, h1, _⟩ := h.use; exact not_frozen h1
theorem ArAt.zt (o : Nat) : w.frozen? ⟨bt, o, none⟩ = false := not_frozen h.tbl
end

/-- An arena's blocks, and its room. -/
structure Bk where
  p : Nat
  bn : Nat
  bu : Nat
  bt : Nat
  R : Nat
def Bk.mem (b : Bk) (k : Nat) : Prop := k = b.p ∨ k = b.bn ∨ k = b.bu ∨ k = b.bt
structure Bk.Apart (b : Bk) : Prop where
  n1 : b.p ≠ b.bn
  n2 : b.p ≠ b.bu
  n3 : b.p ≠ b.bt
  n4 : b.bn ≠ b.bu
  n5 : b.bn ≠ b.bt
  n6 : b.bu ≠ b.bt

theorem ArAt.keep {w w' : World} {p bn bu bt R : Nat} {nodes : Nat → Nd} {used : Nat → Bool} {tab : List Int} {many : Int} (h : ArAt w p bn bu bt R nodes used tab many) (h1 : w'.heap[p]? = w.heap[p]?) (h2 : w'.heap[bn]? = w.heap[bn]?)
    (h3 : w'.heap[bu]? = w.heap[bu]?) (h4 : w'.heap[bt]? = w.heap[bt]?) : ArAt w' p bn bu bt R nodes used tab many := by
  obtain ⟨cn, g1, g2⟩ := h.nod
  obtain ⟨cu, g3, g4⟩ := h.use
  exact ⟨by rw [h1]; exact h.blk, ⟨cn, by rw [h2]; exact g1, g2⟩, ⟨cu, by rw [h3]; exact g3, g4⟩, by rw [h4]; exact h.tbl⟩

section
variable {w : World} {b : Bk} {nodes : Nat → Nd} {used : Nat → Bool} {tab : List Int} {many : Int}
theorem ArAt.setNode (h : ArAt w b.p b.bn b.bu b.bt b.R nodes used tab many) (ap : b.Apart) {k : Nat} (hk : k < b.R) (n : Nd) :
    ArAt (((w.setCell ⟨b.bn, k * 3, none⟩ (.int .i64 n.1)).setCell ⟨b.bn, k * 3 + 1, none⟩ (.int .i64 n.2.1)).setCell ⟨b.bn, k * 3 + 2, none⟩ (.int .i64 n.2.2)) b.p b.bn b.bu b.bt b.R (fun j => if j = k then n else nodes j) used tab many := by
  obtain ⟨cn, g1, g2, g5⟩ := h.nod
  obtain ⟨cu, g3, g4⟩ := h.use
  have k1 := ap.n1; have k2 := ap.n4; have k3 := ap.n5
  refine ⟨heap_set_ne (heap_set_ne (heap_set_ne h.blk k1) k1) k1, ⟨_, heap_setA (heap_setA (heap_setA g1 _ _) _ _) _ _, by simp [g2], fun j hj => ?_⟩, ⟨cu, heap_set_ne (heap_set_ne (heap_set_ne g3 k2.symm) k2.symm) k2.symm, g4⟩, heap_set_ne (heap_set_ne (heap_set_ne h.tbl k3.symm) k3.symm) k3.symm⟩
  obtain ⟨r1, r2, r3⟩ := g5 j hj
  by_cases e : j = k
  · subst e
    simp only [if_true]
    refine ⟨?_, ?_, ?_⟩ <;> simp only [Array.getElem?_setIfInBounds, Array.size_setIfInBounds, g2, if_true] <;> repeat (first | rfl | rw [if_pos (by omega)] | rw [if_neg (by omega)])
  · simp only [if_neg e]
    refine ⟨?_, ?_, ?_⟩ <;> simp only [Array.getElem?_setIfInBounds, Array.size_setIfInBounds] <;> rw [if_neg (by omega), if_neg (by omega), if_neg (by omega)] <;> assumption
theorem ArAt.setUsed (h : ArAt w b.p b.bn b.bu b.bt b.R nodes used tab many) (ap : b.Apart) {k : Nat} (hk : k < b.R) (x : Bool) :
    ArAt (w.setCell ⟨b.bu, k, none⟩ (.bool x)) b.p b.bn b.bu b.bt b.R nodes (fun j => if j = k then x else used j) tab many := by
  obtain ⟨cu, g3, g4, g5⟩ := h.use
  obtain ⟨cn, g1, g2⟩ := h.nod
  refine ⟨heap_set_ne h.blk ap.n2, ⟨cn, heap_set_ne g1 ap.n4, g2⟩, ⟨_, heap_setA g3 _ _, by simp [g4], fun j hj => ?_⟩, heap_set_ne h.tbl ap.n6.symm⟩
  rw [Array.getElem?_setIfInBounds]
  by_cases e : j = k
  · subst e; rw [if_pos rfl, if_pos (by omega)]; simp
  · rw [if_neg (fun e2 => e e2.symm)]; simp only [if_neg e]; exact g5 j hj
theorem ArAt.setTab (h : ArAt w b.p b.bn b.bu b.bt b.R nodes used tab many) (ap : b.Apart) (i : Nat) (x : Int) :
    ArAt (w.setCell ⟨b.bt, i, none⟩ (.int .i64 x)) b.p b.bn b.bu b.bt b.R nodes used (tab.set i x) many := by
  obtain ⟨cu, g3, g4⟩ := h.use
  obtain ⟨cn, g1, g2⟩ := h.nod
  refine ⟨by rw [List.length_set]; exact heap_set_ne h.blk ap.n3, ⟨cn, heap_set_ne g1 ap.n5, g2⟩, ⟨cu, heap_set_ne g3 ap.n6, g4⟩, ?_⟩
  rw [heap_setA h.tbl]
  simp [List.map_set]
theorem ArAt.setMany (h : ArAt w b.p b.bn b.bu b.bt b.R nodes used tab many) (ap : b.Apart) (x : Int) :
    ArAt (w.setCell ⟨b.p, 3, none⟩ (.int .i64 x)) b.p b.bn b.bu b.bt b.R nodes used tab x := by
  obtain ⟨cu, g3, g4⟩ := h.use
  obtain ⟨cn, g1, g2⟩ := h.nod
  refine ⟨?_, ⟨cn, heap_set_ne g1 ap.n1.symm, g2⟩, ⟨cu, heap_set_ne g3 ap.n2.symm, g4⟩, heap_set_ne h.tbl ap.n3.symm⟩
  rw [heap_setA h.blk]; rfl
end

/-- Where a node's walk begins, in a table of m cells. -/
def hsh (m : Nat) (n : Nd) : Nat := (IntKind.u64.wrap (IntKind.u64.wrap (IntKind.u64.wrap (IntKind.u64.wrap n.1 * 2654435761) + IntKind.u64.wrap (IntKind.u64.wrap n.2.1 * 2246822519)) + IntKind.u64.wrap (IntKind.u64.wrap n.2.2 * 3266489917))).toNat % m

/-- An arena lies in blocks b, and holds c. -/
structure IsArena (w : World) (b : Bk) (c : Cells) : Prop where
  len : c.length = b.R
  room : 1 ≤ b.R ∧ b.R ≤ 4000
  apart : b.Apart
  mem : ∃ (nodes : Nat → Nd) (tab : List Int), ArAt w b.p b.bn b.bu b.bt b.R nodes (fun k => (c.at k).isSome) tab (cnt c) ∧ tab.length = 2 * b.R + 1 ∧ TabOK (hsh (2 * b.R + 1)) nodes (fun k => (c.at k).isSome = true) tab ∧ ∀ k n, c.at k = some n → nodes k = n

theorem IsArena.below {w w' : World} {b : Bk} {c : Cells} (h : IsArena w b c) (hb : Below w.heap.size w w') : IsArena w' b c := by
  obtain ⟨h1, h2, h3, nodes, tab, h4, h5⟩ := h
  exact ⟨h1, h2, h3, nodes, tab, h4.below hb, h5⟩
theorem IsArena.only {S : Nat → Prop} {w w' : World} {b : Bk} {c : Cells} (h : IsArena w b c) (ho : Only S w w') (hs : ∀ k, b.mem k → ¬ S k) : IsArena w' b c := by
  obtain ⟨h1, h2, h3, nodes, tab, h4, h5⟩ := h
  obtain ⟨cn, g1, g2⟩ := h4.nod
  obtain ⟨cu, g3, g4⟩ := h4.use
  refine ⟨h1, h2, h3, nodes, tab, h4.keep (ho.block _ (Array.getElem?_eq_some_iff.1 h4.blk).1 (hs _ (.inl rfl))) (ho.block _ (Array.getElem?_eq_some_iff.1 g1).1 (hs _ (.inr (.inl rfl))))
    (ho.block _ (Array.getElem?_eq_some_iff.1 g3).1 (hs _ (.inr (.inr (.inl rfl))))) (ho.block _ (Array.getElem?_eq_some_iff.1 h4.tbl).1 (hs _ (.inr (.inr (.inr rfl))))), h5⟩
theorem IsArena.lt {w : World} {b : Bk} {c : Cells} (h : IsArena w b c) {k : Nat} (hk : b.mem k) : k < w.heap.size := by
  obtain ⟨h1, h2, h3, nodes, tab, h4, h5⟩ := h
  obtain ⟨cn, g1, g2⟩ := h4.nod
  obtain ⟨cu, g3, g4⟩ := h4.use
  rcases hk with rfl | rfl | rfl | rfl
  · exact (Array.getElem?_eq_some_iff.1 h4.blk).1
  · exact (Array.getElem?_eq_some_iff.1 g1).1
  · exact (Array.getElem?_eq_some_iff.1 g3).1
  · exact (Array.getElem?_eq_some_iff.1 h4.tbl).1
end Go.Proofs.YthmflcmbaldflaaGreatDoor
namespace Go.Proofs.YthmflcmbaldflaaGreatDoor
open Go.RowKit
set_option linter.unusedVariables false

section
variable {α : Type} [DecidableEq α] {P : Program} {kt : TypeId} {enc : α → Value}

theorem findAsking_of (heq : ∀ (x y : α) (w : World), (Op.equal kt (enc x) (enc y)).run P w = .ok (decide (x = y)) w) (x : α) (w : World) : ∀ (es : List MapEntry) (ms : List (α × Value)) (i : Nat),
    es.map (fun e => (e.key, e.val)) = ms.map (fun p => (enc p.1, p.2)) → (Instr.findAsking kt (enc x) es i).run P w = .ok ((assocIdx x ms).map fun r => (r.1 + i, r.2)) w
  | [], [], i, _ => by simp [Instr.findAsking, assocIdx]
  | [], p :: l, _, h => by cases h
  | e :: es, [], _, h => by cases h
  | e :: es, p :: l, i, h => by
    simp only [List.map_cons, List.cons.injEq, Prod.mk.injEq] at h
    obtain ⟨⟨h1, h2⟩, h3⟩ := h
    simp only [Instr.findAsking, Sem.run_bind, h1, heq, Result.andThen_ok, assocIdx]
    by_cases e2 : x = p.1
    · subst e2; simp [h2]
    · have e3 : ¬ p.1 = x := fun h => e2 h.symm
      simp only [decide_eq_false e2, if_neg e3, Bool.false_eq_true, if_false, findAsking_of heq x w es l (i + 1) h3, Option.map_map]
      congr 2
      funext r
      simp [Function.comp]; omega

/-- Keys that are told apart by '=='. -/
theorem askKey (kd : TypeDesc) (hu : P.underlying kt = some kd) (hs : ∀ a b, Instr.sameNow kd a b = none) (heq : ∀ (x y : α) (w : World), (Op.equal kt (enc x) (enc y)).run P w = .ok (decide (x = y)) w)
    (hc : ∀ (b : Bool) (x : α) (w : World), (Instr.checkKey b 10000 kt (enc x)).run P w = .ok () w) (hb : ∀ x : α, Instr.sameBits 10000 (enc x) (enc x) = true) : KeyTy P kt enc where
  check := hc
  bits := hb
  find := by
    intro x ms es h w
    cases es with
    | nil => cases ms with
      | nil => simp [Instr.findKey, Instr.findNow, run_underlying hu, assocIdx]
      | cons p l => cases h
    | cons e es =>
      have h1 := findAsking_of heq x w (e :: es) ms 0 h
      simp only [Instr.findKey, Sem.run_bind, run_underlying hu, Result.andThen_ok, Instr.findNow, hs]
      rw [h1]; simp
end

def encNd (n : Nd) : Value := .agg #[.int .i64 n.1, .int .i64 n.2.1, .int .i64 n.2.2]

@[go_sem] theorem guardNode : Tryz.prog.eqGuardType Tryz.prog.depth 68 = false := by kernel_rfl

/-- Are two nodes one? -/
def sameNd (n n' : Nd) : Bool := decide (n = n')

@[go_sem] theorem equalNode (a b c a' b' c' : Int) (w : World) : (Op.equalIn 10000 68 (.agg #[.int .i64 a, .int .i64 b, .int .i64 c]) (.agg #[.int .i64 a', .int .i64 b', .int .i64 c'])).run Tryz.prog w = .ok (sameNd (a, b, c) (a', b', c')) w := by
  have u3 := Tryz.underlying3
  have a3 := Tryz.isAgg3
  have z3 := Tryz.sizeOf3
  have hS : Tryz.prog.underlying 68 = some (.struct (Tryz.prog.fieldsOf 68)) := by kernel_rfl
  have hp : Tryz.prog.stoodInHeld 68 = false := by kernel_rfl
  rw [show (10000 : Nat) = 9999 + 1 from rfl, run_equalIn_agg w 9999 68 _ _ hS hp]
  simp only [Program.fieldsOf, Tryz.underlying68]
  go_simp
  by_cases h1 : a = a' <;> by_cases h2 : b = b' <;> by_cases h3 : c = c' <;> simp [h1, h2, h3, sameNd]

theorem checkNode (n : Nat) (b : Bool) (x y z : Int) (w : World) : (Instr.checkKey b (n + 1 + 1) 68 (.agg #[.int .i64 x, .int .i64 y, .int .i64 z])).run Tryz.prog w = .ok () w := by
  have u3 := Tryz.underlying3
  have a3 := Tryz.isAgg3
  have z3 := Tryz.sizeOf3
  have k3 := fun x w => checkKey_int (P := Tryz.prog) u3 n b x w
  rw [Instr.checkKey]
  simp only [Sem.run_bind, run_underlying Tryz.underlying68, Result.andThen_ok]
  rw [← Array.forIn_toList]
  simp only [List.forIn_cons, List.forIn_nil]
  go_simp

theorem nodeKey : KeyTy Tryz.prog 68 encNd :=
  askKey _ Tryz.underlying68 (fun a b => by cases a <;> cases b <;> rfl) (fun x y w => by
    obtain ⟨a, l, h⟩ := x
    obtain ⟨a', l', h'⟩ := y
    exact equalNode a l h a' l' h' w) (fun b n w => checkNode 9998 b n.1 n.2.1 n.2.2 w) (fun n => by simp [encNd, Instr.sameBits])
end Go.Proofs.YthmflcmbaldflaaGreatDoor
namespace Go.Proofs.YthmflcmbaldflaaGreatDoor
open Go.RowKit
set_option linter.unusedVariables false

theorem hasM_at {c : Cells} {R : Nat} (hl : c.length = R) {x : Int} (h0 : (x == 0) = false) (h1 : (x == 1) = false) : hasM c x = (decide (2 ≤ x) && decide (x - 2 < (R : Int)) && (c.at (x - 2).toNat).isSome) := by
  unfold hasM getM
  rw [h0, h1]
  by_cases x2 : 2 ≤ x
  · rw [if_neg (by omega)]
    by_cases x3 : x - 2 < (R : Int)
    · simp [x2, x3]
    · rw [at_ge (by omega)]; simp [x3]
  · rw [if_pos (by omega)]; simp [x2]

set_option maxHeartbeats 1000000 in
theorem ahas_any (x : Int) (w : World) (b : Bk) (c : Cells) (ha : IsArena w b c) (hx : x ≤ 9223372036854775807) :
    Calls Tryz.prog 19 #[.pointer (some ⟨b.p, 0, none⟩), .int .i64 x] w fun e w' => e = .returned (.bool (hasM c x)) ∧ w = w' := by
  obtain ⟨hlen, hroom, hap, nodes, tab, hat, -⟩ := ha
  have h0 := hat.f0
  have h1 := hat.f1
  have hR := hroom.2
  by_cases x0 : x = 0
  · subst x0
    have Ha := Lib.hid hat; clear hat
    have Hl := Lib.hid hlen; clear hlen
    go_enter Tryz.func19, Tryz.ntmps19
    go_wp2_with fail
    go_ret
    exact ⟨by rw [hasM_zero]; rfl, rfl⟩
  · have e0 : (x == 0) = false := by simpa using x0
    by_cases x1 : x = 1
    · subst x1
      have Ha := Lib.hid hat; clear hat
      have Hl := Lib.hid hlen; clear hlen
      go_enter Tryz.func19, Tryz.ntmps19
      go_wp2_with fail
      go_ret
      exact ⟨by rw [hasM_one]; rfl, rfl⟩
    · have e1 : (x == 1) = false := by simpa using x1
      rw [hasM_at hlen e0 e1]
      clear x0 x1
      by_cases x2 : 2 ≤ x
      · by_cases x3 : x - 2 < (b.R : Int)
        · have hu := hat.u (k := (x - 2).toNat) (by omega)
          have x5 : 0 ≤ x - 2 := by omega
          have Ha := Lib.hid hat; clear hat
          have Hl := Lib.hid hlen; clear hlen
          go_enter Tryz.func19, Tryz.ntmps19
          go_wp2_with fail
          go_ret
          exact ⟨by simp [x2, x3], rfl⟩
        · have Ha := Lib.hid hat; clear hat
          have Hl := Lib.hid hlen; clear hlen
          have x5 : 0 ≤ x - 2 := by omega
          have x6 : x - 2 ≤ 9223372036854775807 := by omega
          have x7 : (decide (x - 2 < (b.R : Int))) = false := decide_eq_false x3
          go_enter Tryz.func19, Tryz.ntmps19
          go_wp2_with fail
          go_ret
          exact ⟨by simp, rfl⟩
      · have Ha := Lib.hid hat; clear hat
        have Hl := Lib.hid hlen; clear hlen
        go_enter Tryz.func19, Tryz.ntmps19
        go_wp2_with fail
        go_ret
        exact ⟨by simp; omega, rfl⟩

theorem len_any (w : World) (b : Bk) (c : Cells) (ha : IsArena w b c) :
    Calls Tryz.prog 15 #[.pointer (some ⟨b.p, 0, none⟩)] w fun e w' => e = .returned (.int .i64 (cnt c)) ∧ w = w' := by
  obtain ⟨hlen, hroom, hap, nodes, tab, hat, -⟩ := ha
  have h3 := hat.f3
  have Ha := Lib.hid hat; clear hat
  have Hl := Lib.hid hlen; clear hlen
  go_enter Tryz.func15, Tryz.ntmps15
  go_wp2_with fail
  go_ret
  exact ⟨rfl, rfl⟩

/-- What Get tells. -/
def gotV (o : Option Nd) : Value := .tuple #[encNd (o.getD (0, 0, 0)), .bool o.isSome]

set_option maxRecDepth 100000 in
set_option maxHeartbeats 1000000 in
theorem get_any (x : Int) (w : World) (b : Bk) (c : Cells) (ha : IsArena w b c) (hx : x ≤ 9223372036854775807) :
    Calls Tryz.prog 21 #[.pointer (some ⟨b.p, 0, none⟩), .int .i64 x] w fun e w' => e = .returned (gotV (getM c x)) ∧ w' = w.alloc (.cells #[.int .i64 ((getM c x).getD (0, 0, 0)).1, .int .i64 ((getM c x).getD (0, 0, 0)).2.1, .int .i64 ((getM c x).getD (0, 0, 0)).2.2] 68) := by
  have Ha := Lib.hid ha; clear ha
  by_cases x2 : x < 2
  · have e1 : getM c x = none := by unfold getM; rw [if_pos x2]
    rw [e1]
    clear e1
    go_enter Tryz.func21, Tryz.ntmps21
    go_wp2_with fail
    exact bodyPost_ret (v := gotV none) (by simp [results, Tryz.results21, go_sem, gotV, encNd]) rfl ⟨rfl, rfl⟩
  · cases e1 : getM c x with
    | none =>
      have e2 : hasM c x = false := by
        cases h : hasM c x
        · rfl
        · have := getM_none_of_has h e1; omega
      have E1 := Lib.hid e1; clear e1
      have hh := ahas_any x
      have Hh := Lib.hid hh; clear hh
      have E2 := Lib.hid e2; clear e2
      go_enter Tryz.func21, Tryz.ntmps21
      go_wp2_with (go_at_call 19; refine (Hh.out _ b c (Ha.out.below ((Below.refl _ _).alloc (Nat.le_refl _) _)) hx).mono ?_; rw [E2.out]; rintro e w' ⟨rfl, rfl⟩)
      exact bodyPost_ret (v := gotV none) (by simp [results, Tryz.results21, go_sem, gotV, encNd]) rfl ⟨rfl, rfl⟩
    | some n =>
      have e2 : hasM c x = true := by unfold hasM; rw [e1]; simp
      have e3 : c.at (x - 2).toNat = some n := by unfold getM at e1; rw [if_neg x2] at e1; exact e1
      have hk := at_lt e3
      obtain ⟨a, l, h⟩ := n
      have E1 := Lib.hid e1; clear e1
      have E2 := Lib.hid e2; clear e2
      obtain ⟨hlen, hroom, hap, nodes, tab, hat, h4, h5, h6⟩ := Ha.out
      have h7 := h6 _ _ e3
      have hal : Below w.heap.size w (w.alloc (.cells #[.int .i64 0, .int .i64 0, .int .i64 0] 68)) := (Below.refl _ _).alloc (Nat.le_refl _) _
      have h0 := hat.f0
      have n0 := hat.n0 (k := (x - 2).toNat) (by omega)
      have n1 := hat.n1 (k := (x - 2).toNat) (by omega)
      have n2 := hat.n2 (k := (x - 2).toNat) (by omega)
      rw [h7] at n0 n1 n2
      have lp := Ha.out.lt (.inl rfl : b.mem b.p)
      have ln := Ha.out.lt (.inr (.inl rfl) : b.mem b.bn)
      have hR := hroom.2
      have hk' : x - 2 < (b.R : Int) := by omega
      have x5 : 0 ≤ x - 2 := by omega
      clear hat h4 h5 h6 h7 e3 hlen hk
      have Hal := Lib.hid hal; clear hal
      have hh := ahas_any x
      have Hh := Lib.hid hh; clear hh
      go_enter Tryz.func21, Tryz.ntmps21
      go_wp2_with fail
      refine (Hh.out _ b c (Ha.out.below Hal.out) hx).mono ?_; rw [E2.out]; rintro e w' ⟨rfl, rfl⟩
      go_wp2_with fail
      exact bodyPost_ret (v := gotV (some (a, l, h))) (by simp [results, Tryz.results21, go_sem, gotV, encNd]) rfl ⟨rfl, rfl⟩
end Go.Proofs.YthmflcmbaldflaaGreatDoor
namespace Go.Proofs.YthmflcmbaldflaaGreatDoor
open Go.RowKit
set_option linter.unusedVariables false

theorem topM_eq (c : Cells) (x : Int) : topM c x = match getM c x with | some n => n.1 | none => 24 := rfl

set_option maxRecDepth 100000 in
set_option maxHeartbeats 1000000 in
theorem top_any (x : Int) (w : World) (b : Bk) (c : Cells) (ha : IsArena w b c) (hx : x ≤ 9223372036854775807) :
    Calls Tryz.prog 33 #[.pointer (some ⟨b.p, 0, none⟩), .int .i64 x] w fun e w' => e = .returned (.int .i64 (topM c x)) ∧ Below w.heap.size w w' := by
  have Ha := Lib.hid ha; clear ha
  rw [topM_eq]
  have hg := get_any x w b c Ha.out hx
  cases e1 : getM c x with
  | none =>
    rw [e1] at hg
    have Hg := Lib.hid hg; clear hg
    have E1 := Lib.hid e1; clear e1
    go_enter Tryz.func33, Tryz.ntmps33
    go_wp2_with (go_at_call 21; refine Hg.out.mono ?_; rintro e w' ⟨rfl, rfl⟩; simp only [gotV, encNd, Option.getD_none, Option.isSome_none])
    go_ret
    exact ⟨rfl, ((Below.refl _ _).alloc (Nat.le_refl _) _).alloc (by simp) _⟩
  | some n =>
    obtain ⟨a, l, h⟩ := n
    rw [e1] at hg
    have Hg := Lib.hid hg; clear hg
    have E1 := Lib.hid e1; clear e1
    go_enter Tryz.func33, Tryz.ntmps33
    go_wp2_with (go_at_call 21; refine Hg.out.mono ?_; rintro e w' ⟨rfl, rfl⟩; simp only [gotV, encNd, Option.getD_some, Option.isSome_some])
    go_ret
    exact ⟨rfl, ((Below.refl _ _).alloc (Nat.le_refl _) _).alloc (by simp) _⟩

theorem u64_nonneg (x : Int) : 0 ≤ IntKind.u64.wrap x := by
  simp only [IntKind.wrap, IntKind.signed, IntKind.bits]; simp; omega
theorem start_eq (x : Int) (R : Nat) (hR : R ≤ 4000) : wrap64 ((IntKind.u64.wrap x).tmod (2 * (R : Int) + 1)) = (((IntKind.u64.wrap x).toNat % (2 * R + 1) : Nat) : Int) := by
  have h := u64_nonneg x
  generalize IntKind.u64.wrap x = y at h
  obtain ⟨m, rfl⟩ := Int.eq_ofNat_of_zero_le h
  rw [Int.tmod_eq_emod_of_nonneg (by omega), Int.toNat_natCast]
  rw [show (2 * (R : Int) + 1) = ((2 * R + 1 : Nat) : Int) by omega, ← Int.natCast_emod]
  have := Nat.mod_lt m (show 0 < 2 * R + 1 by omega)
  rw [IntWalk.wrap64_in _ ⟨by omega, by omega⟩]
theorem step_eq (i R : Nat) : ((i : Int) + 1) % (2 * (R : Int) + 1) = (((i + 1) % (2 * R + 1) : Nat) : Int) := by
  rw [Int.natCast_emod]; norm_cast

set_option maxRecDepth 100000 in
set_option maxHeartbeats 2000000 in
theorem place_any (n : Nd) (w : World) (b : Bk) (nodes : Nat → Nd) (used : Nat → Bool) (tab : List Int) (many : Int) (S : Nat → Prop) (hat : ArAt w b.p b.bn b.bu b.bt b.R nodes used tab many)
    (hR : b.R ≤ 4000) (hl : tab.length = 2 * b.R + 1) (ht : TabOK (hsh (2 * b.R + 1)) nodes S tab) (hS : ∀ k, S k → k < b.R) :
    Calls Tryz.prog 54 #[.pointer (some ⟨b.p, 0, none⟩), encNd n] w fun e w' => (∃ i : Nat, e = .returned (.int .i64 i) ∧ Placed (hsh (2 * b.R + 1)) nodes tab n i) ∧ Below w.heap.size w w' := by
  obtain ⟨a, l, h⟩ := n
  have h0 := hat.f0
  have h2 := hat.f2
  rw [hl] at h2
  have lp := hat.lp
  have Hat := Lib.hid hat; clear hat
  have Ht := Lib.hid ht; clear ht
  have Hl := Lib.hid hl; clear hl
  unfold encNd
  go_enter Tryz.func54, Tryz.ntmps54
  go_wp2
  have hpos : hsh (2 * b.R + 1) (a, l, h) < 2 * b.R + 1 := Nat.mod_lt _ (by omega)
  obtain ⟨j0, hj0, hs0⟩ := Ht.out.stop hS (by rw [Hl.out]; omega) (a, l, h) (by rw [Hl.out]; exact hpos)
  rw [Hl.out] at hj0 hs0
  have Hs0 := Lib.hid hs0; clear hs0 hpos
  have HS := Lib.hid hS; clear hS
  go_loopg [6] j0 (fun gk i wr => Below w.heap.size w wr ∧ w.heap.size < wr.heap.size ∧ (wr.cell? ⟨w.heap.size, 0, none⟩ = some (.int .i64 a) ∧ wr.cell? ⟨w.heap.size, 1, none⟩ = some (.int .i64 l) ∧ wr.cell? ⟨w.heap.size, 2, none⟩ = some (.int .i64 h)) ∧
    ∃ j : Nat, j ≤ j0 ∧ gk = j0 - j ∧ i = .int .i64 (((hsh (2 * b.R + 1) (a, l, h) + j) % (2 * b.R + 1) : Nat) : Int) ∧ ∀ j', j' < j → ¬ Stops nodes tab (a, l, h) ((hsh (2 * b.R + 1) (a, l, h) + j') % (2 * b.R + 1)))
  case atStart => exact ⟨(Below.refl _ _).alloc (Nat.le_refl _) _, by simp, by simp [go_sem], 0, Nat.zero_le _, rfl, by rw [start_eq _ _ hR]; unfold hsh; simp, fun j' h => absurd h (Nat.not_lt_zero _)⟩
  case round =>
    obtain ⟨hbw, hsz, ⟨b0, b1, b2⟩, j, hj, rfl, rfl, hno⟩ := hrel
    have Hb := Lib.hid hbw; clear hbw
    have Hno := Lib.hid hno; clear hno
    obtain ⟨i, hi⟩ : ∃ i, i = (hsh (2 * b.R + 1) (a, l, h) + j) % (2 * b.R + 1) := ⟨_, rfl⟩
    have hilt : i < 2 * b.R + 1 := by rw [hi]; exact Nat.mod_lt _ (by omega)
    rw [← hi]
    have Hi := Lib.hid hi; clear hi
    obtain ⟨x, hx⟩ : ∃ x, x = tab.getD i 0 := ⟨_, rfl⟩
    have ht0 := Hat.out.t (i := i) (by rw [Hl.out]; exact hilt)
    rw [← hx] at ht0
    have lbt := Hat.out.lt
    have lbn := Hat.out.ln
    have h0' : wr.cell? ⟨b.p, 0, none⟩ = some (.slice (some ⟨b.bn, 0, none⟩) b.R b.R) := by rw [Hb.out.cell lp]; exact h0
    have h2' : wr.cell? ⟨b.p, 2, none⟩ = some (.slice (some ⟨b.bt, 0, none⟩) (2 * b.R + 1) (2 * b.R + 1)) := by rw [Hb.out.cell lp]; exact h2
    have ht' : wr.cell? ⟨b.bt, i, none⟩ = some (.int .i64 x) := by rw [Hb.out.cell lbt]; exact ht0
    have hi1 : (i : Int) < 2 * (b.R : Int) + 1 := by omega
    clear ht0
    have Hx := Lib.hid hx; clear hx
    by_cases x0 : x = 0
    · have e0 : (x != 0) = false := by simp [x0]
      have X0 := Lib.hid x0; clear x0
      go_wp2
      go_quiet (fail)
      go_wp2
      go_ret
      refine ⟨⟨i, rfl, by rw [Hl.out]; exact hilt, .inl (Hx.out.symm.trans X0.out), j, by rw [Hl.out]; omega, by rw [Hl.out]; exact Hi.out, fun j' hj' => by rw [Hl.out]; exact Hno.out j' hj'⟩, below_drewA Hb.out _⟩
    · have e0 : (x != 0) = true := by simpa using x0
      obtain ⟨k, hSk, hxk⟩ := Ht.out.ent i (by rw [Hl.out]; exact hilt) (by rw [← Hx.out]; exact x0)
      rw [← Hx.out] at hxk
      have hk := HS.out k hSk
      have ek : x - 2 = (k : Int) := by omega
      have n0 := Hat.out.n0 hk
      have n1 := Hat.out.n1 hk
      have n2 := Hat.out.n2 hk
      obtain ⟨⟨a', l', h'⟩, hnd⟩ : ∃ n', n' = nodes k := ⟨_, rfl⟩
      rw [← hnd] at n0 n1 n2
      have n0' : wr.cell? ⟨b.bn, k * 3, none⟩ = some (.int .i64 a') := by rw [Hb.out.cell lbn]; exact n0
      have n1' : wr.cell? ⟨b.bn, k * 3 + 1, none⟩ = some (.int .i64 l') := by rw [Hb.out.cell lbn]; exact n1
      have n2' : wr.cell? ⟨b.bn, k * 3 + 2, none⟩ = some (.int .i64 h') := by rw [Hb.out.cell lbn]; exact n2
      have hk1 : (k : Int) < (b.R : Int) := by omega
      have HSk := Lib.hid hSk; have Hxk := Lib.hid hxk; have Hek := Lib.hid ek; have Hnd := Lib.hid hnd
      clear hSk hxk ek hnd n0 n1 n2 x0
      cases hq : sameNd (a', l', h') (a, l, h)
      · have hneq : ¬ Stops nodes tab (a, l, h) i := by
          rintro (h1 | ⟨k2, h1, h2⟩)
          · have := Hx.out; have := Hxk.out; omega
          · have h3 := Hx.out; have h4 := Hxk.out
            obtain rfl : k2 = k := by omega
            rw [← Hnd.out] at h2
            rw [h2] at hq
            simp [sameNd] at hq
        have Hneq := Lib.hid hneq; clear hneq
        have hjl : j < j0 := by
          rcases Nat.lt_or_ge j j0 with h1 | h1
          · exact h1
          · obtain rfl : j = j0 := by omega
            have := Hs0.out
            rw [← Hi.out] at this
            exact absurd this Hneq.out
        have hw : IntKind.i64.wrap (x - 2) = (k : Int) := by rw [Hek.out]; exact IntWalk.i64_in _ (by omega)
        have hg1 := guardNode
        have hg2 := fun w => equalNode a' l' h' a l h w
        go_wp2
        go_quiet (fail)
        clear hw hg1 hg2
        go_wp2
        go_roundg (j0 - (j + 1))
        case measure => omega
        case rel =>
          refine ⟨below_drewA Hb.out _, hsz, ⟨b0, b1, b2⟩, j + 1, by omega, rfl, ?_, fun j' hj' => ?_⟩
          · rw [step_eq, Hi.out, Nat.mod_add_mod, Nat.add_assoc]
          · rcases Nat.lt_or_ge j' j with h1 | h1
            · exact Hno.out j' h1
            · obtain rfl : j' = j := by omega
              rw [← Hi.out]; exact Hneq.out
      · have hst : Stops nodes tab (a, l, h) i := .inr ⟨k, by rw [← Hx.out]; exact Hxk.out, by rw [← Hnd.out]; simpa [sameNd] using hq⟩
        have Hst := Lib.hid hst; clear hst
        have hw : IntKind.i64.wrap (x - 2) = (k : Int) := by rw [Hek.out]; exact IntWalk.i64_in _ (by omega)
        have hg1 := guardNode
        have hg2 := fun w => equalNode a' l' h' a l h w
        go_wp2
        go_quiet (fail)
        clear hw hg1 hg2
        go_wp2
        go_ret
        exact ⟨⟨i, rfl, by rw [Hl.out]; exact hilt, Hst.out, j, by rw [Hl.out]; omega, by rw [Hl.out]; exact Hi.out, fun j' hj' => by rw [Hl.out]; exact Hno.out j' hj'⟩, below_drewA Hb.out _⟩
end Go.Proofs.YthmflcmbaldflaaGreatDoor
namespace Go.Proofs.YthmflcmbaldflaaGreatDoor
open Go.RowKit
set_option linter.unusedVariables false

/-- Where there is room, as slices.Index tells it. -/
def freeI (c : Cells) : Int := match freeM c with | some k => (k : Int) | none => -1

set_option maxHeartbeats 1000000 in
theorem aindex_any (w : World) (b : Bk) (c : Cells) (ha : IsArena w b c) :
    Calls Tryz.prog 55 #[.slice (some ⟨b.bu, 0, none⟩) b.R b.R, .bool false] w fun e w' => e = .returned (.int .i64 (freeI c)) ∧ w = w' := by
  obtain ⟨hlen, hroom, hap, nodes, tab, hat, -⟩ := ha
  have hR := hroom.2
  have Hat := Lib.hid hat; clear hat
  have Hlen := Lib.hid hlen; clear hlen
  go_enter Tryz.func55, Tryz.ntmps55
  go_wp2
  go_loop [5, 8] (fun u i => ∃ k : Nat, k ≤ b.R ∧ i = .int .i64 k ∧ ∀ j, j < k → (c.at j).isSome = true) (fun _ i => b.R - (intOf i).toNat)
  case atStart => exact ⟨0, Nat.zero_le _, rfl, fun j h => absurd h (Nat.not_lt_zero _)⟩
  case round =>
    obtain ⟨k, hk, rfl, hno⟩ := hrel
    have Hno := Lib.hid hno; clear hno
    by_cases hlt : k < b.R
    · have hu := Hat.out.u hlt
      cases hs : (c.at k).isSome
      · rw [hs] at hu
        have Hs := Lib.hid hs; clear hs
        go_wp2
        go_ret
        refine ⟨?_, rfl⟩
        have h1 : freeM c = some k := freeM_at (by rw [Hlen.out]; exact hlt) (by simpa using Hs.out) Hno.out
        unfold freeI; rw [h1]; rfl
      · rw [hs] at hu
        have Hs := Lib.hid hs; clear hs
        go_wp2
        go_round
        case rel =>
          refine ⟨k + 1, by omega, by go_num, fun j hj => ?_⟩
          rcases Nat.lt_or_ge j k with h1 | h1
          · exact Hno.out j h1
          · obtain rfl : j = k := by omega
            exact Hs.out
        case measure => simp [intOf]; omega
    · go_wp2
      go_ret
      refine ⟨?_, rfl⟩
      have h1 : freeM c = none := freeM_full (fun j hj => Hno.out j (by rw [Hlen.out] at hj; omega))
      unfold freeI; rw [h1]; rfl

theorem infoNode : (Tryz.prog.info? 68).map (fun i => (i.zero, i.size, i.bytes)) = some (some (.agg #[.int .i64 0, .int .i64 0, .int .i64 0]), 3, 24) := by kernel_rfl
theorem infoBool : (Tryz.prog.info? 4).map (fun i => (i.zero, i.size, i.bytes)) = some (some (.bool false), 1, 1) := by kernel_rfl
theorem infoIntA : (Tryz.prog.info? 3).map (fun i => (i.zero, i.size, i.bytes)) = some (some (.int .i64 0), 1, 8) := by kernel_rfl

theorem make_nodes (R : Nat) (h : R ≤ 4000) (w : World) : (Instr.makeSlice 89 (.int .i64 (R : Int)) (.int .i64 (R : Int))).run Tryz.prog w = .ok (.slice (some ⟨w.heap.size, 0, none⟩) R R) (w.alloc (.cells (madeCells #[.int .i64 0, .int .i64 0, .int .i64 0] (R * 3)) 68)) := by
  obtain ⟨i, hi, hzz⟩ := Option.map_eq_some_iff.1 infoNode
  simp only [Prod.mk.injEq] at hzz
  obtain ⟨hz, hs, hb⟩ := hzz
  have := run_make (P := Tryz.prog) w 89 68 i _ Tryz.underlying89 hi hz .i64 .i64 R R (by omega) (Int.le_refl _) (by rw [hb]; omega) (by omega)
  simpa [hs, Value.cells] using this

/-- An arena that was made. -/
theorem arena_made {w : World} (b : Bk) (ap : b.Apart) (h1 : 1 ≤ b.R) (h2 : b.R ≤ 4000) (hp : w.heap[b.p]? = some (.cells #[.slice (some ⟨b.bn, 0, none⟩) b.R b.R, .slice (some ⟨b.bu, 0, none⟩) b.R b.R, .slice (some ⟨b.bt, 0, none⟩) (2 * b.R + 1) (2 * b.R + 1), .int .i64 0] 92 (0, 0)))
    (hn : w.heap[b.bn]? = some (.cells (madeCells #[.int .i64 0, .int .i64 0, .int .i64 0] (b.R * 3)) 68 (0, 0))) (hu : w.heap[b.bu]? = some (.cells (madeCells #[.bool false] b.R) 4 (0, 0)))
    (ht : w.heap[b.bt]? = some (.cells (madeCells #[.int .i64 0] (2 * b.R + 1)) 3 (0, 0))) : IsArena w b (List.replicate b.R none) := by
  have hat : ∀ k, Cells.at (List.replicate b.R none) k = none := fun k => by unfold Cells.at; simp only [List.getD_eq_getElem?_getD, List.getElem?_replicate]; split <;> rfl
  have hcnt : cnt (List.replicate b.R none) = 0 := by unfold cnt; rw [List.countP_replicate]; simp
  refine ⟨by simp, ⟨h1, h2⟩, ap, fun _ => (0, 0, 0), List.replicate (2 * b.R + 1) 0, ⟨?_, ⟨_, hn, by rw [size_madeCells]; omega, fun k hk => ?_⟩, ⟨_, hu, by rw [size_madeCells], fun k hk => ?_⟩, ?_⟩, by simp, ?_, fun k n h => by rw [hat] at h; cases h⟩
  · rw [hcnt, List.length_replicate]; exact hp
  · have h3 : ∀ i, i < b.R * 3 → (madeCells #[Value.int .i64 0, .int .i64 0, .int .i64 0] (b.R * 3))[i]? = some (.int .i64 0) := by
      intro i hi
      unfold madeCells
      have h4 : i % 3 = 0 ∨ i % 3 = 1 ∨ i % 3 = 2 := by omega
      rcases h4 with e | e | e <;> simp [hi, e]
    exact ⟨h3 _ (by omega), h3 _ (by omega), h3 _ (by omega)⟩
  · rw [hat, ← Array.getElem?_toList, toList_madeCells_one]; simp [hk]
  · rw [ht]
    congr 2
    apply Array.toList_inj.1
    rw [toList_madeCells_one]; simp
  · exact (tabOK_empty _ (fun _ => (0, 0, 0)) _).congr (fun k => by simp [hat]) (fun k h => h.elim)

theorem four_blocks (w : World) (o0 o1 o2 o3 : Obj) : ((((w.alloc o0).alloc o1).alloc o2).alloc o3).drew.heap[w.heap.size]? = some o0 ∧ ((((w.alloc o0).alloc o1).alloc o2).alloc o3).drew.heap[w.heap.size + 1]? = some o1 ∧
    ((((w.alloc o0).alloc o1).alloc o2).alloc o3).drew.heap[w.heap.size + 1 + 1]? = some o2 ∧ ((((w.alloc o0).alloc o1).alloc o2).alloc o3).drew.heap[w.heap.size + 1 + 1 + 1]? = some o3 :=
  ⟨heap_up (heap_up (heap_up (heap_at rfl))), heap_up (heap_up (heap_at (by simp only [alloc_size]))), heap_up (heap_at (by simp only [alloc_size])), heap_at (by simp only [alloc_size])⟩

theorem four_below (w : World) (o0 o1 o2 o3 : Obj) : Below w.heap.size w ((((w.alloc o0).alloc o1).alloc o2).alloc o3).drew :=
  (((((Below.refl _ _).alloc (Nat.le_refl _) _).alloc (by simp) _).alloc (by simp only [alloc_size]; omega) _).alloc (by simp only [alloc_size]; omega) _).drew

set_option maxHeartbeats 4000000 in
theorem anew_any (R : Nat) (w : World) (h1 : 1 ≤ R) (h2 : R ≤ 4000) :
    Calls Tryz.prog 37 #[.int .i64 R] w fun e w' => (∃ b : Bk, e = .returned (.tuple #[.pointer (some ⟨b.p, 0, none⟩), .nilIface]) ∧ b.R = R ∧ IsArena w' b (List.replicate R none) ∧ ∀ k, b.mem k → w.heap.size ≤ k) ∧ Below w.heap.size w w' := by
  have hm1 := make_nodes R h2
  have hm2 := run_make_row' (P := Tryz.prog) 90 4 (.bool false) 1 Tryz.underlying90 infoBool rfl .i64 .i64 R (by omega) (by omega)
  have hm3 := run_make_row' (P := Tryz.prog) 24 3 (.int .i64 0) 8 Tryz.underlying24 infoIntA rfl .i64 .i64 (2 * R + 1) (by omega) (by omega)
  rw [show ((2 * R + 1 : Nat) : Int) = 2 * (R : Int) + 1 by omega] at hm3
  go_enter Tryz.func37, Tryz.ntmps37
  go_wp2
  go_region
  all_goals (try go_wp2)
  all_goals go_ret2
  all_goals first
    | exact ⟨⟨⟨w.heap.size + 1 + 1 + 1, w.heap.size, w.heap.size + 1, w.heap.size + 1 + 1, R⟩, rfl, rfl, arena_made _ ⟨by dsimp only; omega, by dsimp only; omega, by dsimp only; omega, by dsimp only; omega, by dsimp only; omega, by dsimp only; omega⟩ h1 h2 (four_blocks _ _ _ _ _).2.2.2 (four_blocks _ _ _ _ _).1 (four_blocks _ _ _ _ _).2.1 (four_blocks _ _ _ _ _).2.2.1, by rintro k (rfl | rfl | rfl | rfl) <;> (dsimp only; omega)⟩, four_below _ _ _ _ _⟩
    | exact ⟨⟨⟨w.heap.size + 1 + 1 + 1, w.heap.size, w.heap.size + 1 + 1, w.heap.size + 1, R⟩, rfl, rfl, arena_made _ ⟨by dsimp only; omega, by dsimp only; omega, by dsimp only; omega, by dsimp only; omega, by dsimp only; omega, by dsimp only; omega⟩ h1 h2 (four_blocks _ _ _ _ _).2.2.2 (four_blocks _ _ _ _ _).1 (four_blocks _ _ _ _ _).2.2.1 (four_blocks _ _ _ _ _).2.1, by rintro k (rfl | rfl | rfl | rfl) <;> (dsimp only; omega)⟩, four_below _ _ _ _ _⟩
    | exact ⟨⟨⟨w.heap.size + 1 + 1 + 1, w.heap.size + 1, w.heap.size, w.heap.size + 1 + 1, R⟩, rfl, rfl, arena_made _ ⟨by dsimp only; omega, by dsimp only; omega, by dsimp only; omega, by dsimp only; omega, by dsimp only; omega, by dsimp only; omega⟩ h1 h2 (four_blocks _ _ _ _ _).2.2.2 (four_blocks _ _ _ _ _).2.1 (four_blocks _ _ _ _ _).1 (four_blocks _ _ _ _ _).2.2.1, by rintro k (rfl | rfl | rfl | rfl) <;> (dsimp only; omega)⟩, four_below _ _ _ _ _⟩
    | exact ⟨⟨⟨w.heap.size + 1 + 1 + 1, w.heap.size + 1, w.heap.size + 1 + 1, w.heap.size, R⟩, rfl, rfl, arena_made _ ⟨by dsimp only; omega, by dsimp only; omega, by dsimp only; omega, by dsimp only; omega, by dsimp only; omega, by dsimp only; omega⟩ h1 h2 (four_blocks _ _ _ _ _).2.2.2 (four_blocks _ _ _ _ _).2.1 (four_blocks _ _ _ _ _).2.2.1 (four_blocks _ _ _ _ _).1, by rintro k (rfl | rfl | rfl | rfl) <;> (dsimp only; omega)⟩, four_below _ _ _ _ _⟩
    | exact ⟨⟨⟨w.heap.size + 1 + 1 + 1, w.heap.size + 1 + 1, w.heap.size, w.heap.size + 1, R⟩, rfl, rfl, arena_made _ ⟨by dsimp only; omega, by dsimp only; omega, by dsimp only; omega, by dsimp only; omega, by dsimp only; omega, by dsimp only; omega⟩ h1 h2 (four_blocks _ _ _ _ _).2.2.2 (four_blocks _ _ _ _ _).2.2.1 (four_blocks _ _ _ _ _).1 (four_blocks _ _ _ _ _).2.1, by rintro k (rfl | rfl | rfl | rfl) <;> (dsimp only; omega)⟩, four_below _ _ _ _ _⟩
    | exact ⟨⟨⟨w.heap.size + 1 + 1 + 1, w.heap.size + 1 + 1, w.heap.size + 1, w.heap.size, R⟩, rfl, rfl, arena_made _ ⟨by dsimp only; omega, by dsimp only; omega, by dsimp only; omega, by dsimp only; omega, by dsimp only; omega, by dsimp only; omega⟩ h1 h2 (four_blocks _ _ _ _ _).2.2.2 (four_blocks _ _ _ _ _).2.2.1 (four_blocks _ _ _ _ _).2.1 (four_blocks _ _ _ _ _).1, by rintro k (rfl | rfl | rfl | rfl) <;> (dsimp only; omega)⟩, four_below _ _ _ _ _⟩
end Go.Proofs.YthmflcmbaldflaaGreatDoor
namespace Go.Proofs.YthmflcmbaldflaaGreatDoor
open Go.RowKit

section
variable {P : Program} {ops : Array Oper} {C : World → Prop} {Q : Act → Prop} {a : Act} {o : Oper} {rest : List Oper} {K : Act → Prop}
theorem quiet_run (v : Value) (h : ∀ w, C w → (execOp a.eval o).run P w = .ok (.value v) w) (hk : K (a.put o.dst v)) : o.quiet P a C K :=
  ⟨v, fun w hw => by unfold Oper.quietAt; rw [h w hw]; exact ⟨rfl, rfl⟩, hk⟩
theorem quiet_call (v : Value) (f : FuncId) (args : Array Value) (h : ∀ w, (execOp a.eval o).run P w = .ok (.enter f args) w) (hc : ∀ w, C w → Calls P f args w (fun e w'' => e = .returned v ∧ C w'')) (hk : K (a.put o.dst v)) : o.quiet P a C K :=
  ⟨v, fun w hw => by unfold Oper.quietAt; rw [h w]; exact ⟨rfl, hc w hw⟩, hk⟩
/-- The law, for a region that is written out. -/
theorem wp_region_class (C : World → Prop) {id : Nat} {Q : Exit → Act → World → Prop} {a : Act} {w : World} {l : List Oper} (hm : P.follows .mixedOrders = true) (hB : Region.lexB .any l.toArray = true) (hC : C w.drew)
    (h : wpQuiet P l.toArray C (fun a' => ∀ w', C w' → Q .normal a' w') l a) : (Code.region id l.toArray true).wp P Q a w :=
  wp_region_quiet (C := C) hm hB hC (by simpa using h)
end
end Go.Proofs.YthmflcmbaldflaaGreatDoor
