/- Some texts in one: LineA, LineW, SRow, Bld, VerN, RTextW. (Merged by merge.py.) -/
import Derived.Test.YtheemhelioendaaGreatDoorCatH
import Derived.Test.YtheemhelioendaaGreatDoorShelfC
import Derived.Test.YtheemhelioendaaGreatDoorCatT
import Derived.Shelf.Strings.Cut
import Derived.Shelf.Slices.Turned
import Derived.Test.YtheemhelioendaaGreatDoorChkW
import Derived.Test.YtheemhelioendaaGreatDoorRangeP
import Derived.Test.YtheemhelioendaaGreatDoorVerW
import Derived.Test.YtheemhelioendaaGreatDoorRTxtM
import Derived.Laws.AppendOwn
import Derived.Deep.AppendLies
import Derived.Shelf.Strings.OnBuilder
import Derived.Shelf.Strings.BuilderK
import Derived.Test.YtheemhelioendaaGreatDoorSame
import Derived.Shelf.SlGeneric
namespace Go.Proofs
open Go.Shelf
def Tryz.lays156_ren : Go.Shelf.Ren := ⟨fun | 156 => 55 | 165 => 87 | 166 => 49 | 169 => 52 | 240 => 85 | 241 => 111 | 276 => 109 | 277 => 134 | n => n, fun | 31 => 113 | 9 => 9 | 3 => 3 | 4 => 4 | 0 => 0 | 20 => 20 | 72 => 109 | 76 => 110 | 70 => 106 | 37 => 107 | 75 => 38 | 127 => 159 | 164 => 136 | 5 => 5 | 80 => 57 | n => n, fun | n => n⟩
theorem Tryz.lays156 : Go.Proofs.Lays.n156 Tryz.prog Tryz.lays156_ren := {
  mixed := by kernel_rfl
  f156 := Tryz.func55.trans (congrArg some (by kernel_rfl))
  f165 := Tryz.func87.trans (congrArg some (by kernel_rfl))
  f166 := Tryz.func49.trans (congrArg some (by kernel_rfl))
  f169 := Tryz.func52.trans (congrArg some (by kernel_rfl))
  f240 := Tryz.func85.trans (congrArg some (by kernel_rfl))
  f241 := Tryz.func111.trans (congrArg some (by kernel_rfl))
  f276 := Tryz.func109.trans (congrArg some (by kernel_rfl))
  f277 := Tryz.func134.trans (congrArg some (by kernel_rfl))
  t0 := Tryz.underlying0
  a0 := Tryz.isAgg0
  z0 := Tryz.sizeOf0
  v0 := Tryz.zeroValue0
  t3 := Tryz.underlying3
  a3 := Tryz.isAgg3
  z3 := Tryz.sizeOf3
  v3 := Tryz.zeroValue3
  t4 := Tryz.underlying4
  a4 := Tryz.isAgg4
  z4 := Tryz.sizeOf4
  v4 := Tryz.zeroValue4
  t9 := Tryz.underlying9
  a9 := Tryz.isAgg9
  z9 := Tryz.sizeOf9
  v9 := Tryz.zeroValue9
  t20 := Tryz.underlying20
  a20 := Tryz.isAgg20
  z20 := Tryz.sizeOf20
  v20 := Tryz.zeroValue20
  t31 := Tryz.underlying113
  a31 := Tryz.isAgg113
  z31 := Tryz.sizeOf113
  v31 := Tryz.zeroValue113
  t37 := Tryz.underlying107
  a37 := Tryz.isAgg107
  z37 := Tryz.sizeOf107
  v37 := Tryz.zeroValue107
  t70 := Tryz.underlying106
  a70 := Tryz.isAgg106
  z70 := Tryz.sizeOf106
  v70 := Tryz.zeroValue106
  t72 := Tryz.underlying109
  a72 := Tryz.isAgg109
  z72 := Tryz.sizeOf109
  v72 := Tryz.zeroValue109
  t75 := Tryz.underlying38
  a75 := Tryz.isAgg38
  z75 := Tryz.sizeOf38
  v75 := Tryz.zeroValue38
  t76 := Tryz.underlying110
  a76 := Tryz.isAgg110
  z76 := Tryz.sizeOf110
  v76 := Tryz.zeroValue110
  t127 := Tryz.underlying159
  a127 := Tryz.isAgg159
  z127 := Tryz.sizeOf159
  v127 := Tryz.zeroValue159
  t164 := Tryz.underlying136
  a164 := Tryz.isAgg136
  z164 := Tryz.sizeOf136
  v164 := Tryz.zeroValue136 }
end Go.Proofs
namespace Go.Proofs.YtheemhelioendaaGreatDoor
open Go.RowKit
set_option linter.unusedVariables false

theorem cut_any (s : ByteArray) (w : World) (hs : s.size ≤ 100000) (h : LaidR w) : Calls Tryz.prog 100 #[.string s, .string ⟨#[32]⟩] w fun e w' => (∃ b, e = .returned (.tuple #[.string (cutA s), .string (cutB s), .bool b])) ∧ Below w.heap.size w w' := by
  obtain ⟨m, hm⟩ := h.len
  refine (Any.strings_Cut Tryz.lays145 s ⟨#[32]⟩ m w (by omega) hm).mono ?_
  rintro e w' ⟨rfl, n, rfl⟩
  exact ⟨⟨_, rfl⟩, below_drewN (Below.refl _ _) n⟩
theorem cut_sizes (s : ByteArray) : (cutA s).size ≤ s.size ∧ (cutB s).size ≤ s.size := by
  have e1 : (cutA s).size = (Lib.cut s.data.toList spT).1.length := by show (Lib.cut s.data.toList spT).1.toArray.size = _; simp
  have e2 : (cutB s).size = (Lib.cut s.data.toList spT).2.1.length := by show (Lib.cut s.data.toList spT).2.1.toArray.size = _; simp
  have e3 : s.data.toList.length = s.size := by simp
  rw [e1, e2]
  unfold Lib.cut
  split
  · simp only [List.length_take, List.length_drop]; omega
  · simp only [List.length_nil]; omega
/-- Which of the five words. -/
def kindOf (x : ByteArray) : Int := Lib.idxOfS [⟨#[]⟩, pkgT, needT, clashT, rootT] x
theorem idx_any (q : Nat) (x : ByteArray) (w : World) (h : w.heap[q]? = some (.cells #[.string ⟨#[]⟩, .string pkgT, .string needT, .string clashT, .string rootT] 9 (0, 0))) :
    Calls Tryz.prog 101 #[.slice (some ⟨q, 0, none⟩) 5 5, .string x] w fun e w' => e = .returned (.int .i64 (kindOf x)) ∧ w' = w := by
  have := Any.slices_Index_string Tryz.lays109 q 0 5 5 [⟨#[]⟩, pkgT, needT, clashT, rootT] x w (by decide) (by decide) (fun j hj => by
    rw [cell_of_row w q _ _ _ _ h]
    simp only [List.length_cons, List.length_nil] at hj
    obtain rfl | rfl | rfl | rfl | rfl : j = 0 ∨ j = 1 ∨ j = 2 ∨ j = 3 ∨ j = 4 := by omega
    all_goals rfl)
  exact this
theorem kindOf_cases (x : ByteArray) : (x = pkgT ∧ kindOf x = 1) ∨ (x = needT ∧ kindOf x = 2) ∨ (x = clashT ∧ kindOf x = 3) ∨ (x = rootT ∧ kindOf x = 4) ∨ (x ≠ pkgT ∧ x ≠ needT ∧ x ≠ clashT ∧ x ≠ rootT ∧ kindOf x < 1) := by
  by_cases h1 : x = pkgT
  · subst h1; exact .inl ⟨rfl, by decide⟩
  by_cases h2 : x = needT
  · subst h2; exact .inr (.inl ⟨rfl, by decide⟩)
  by_cases h3 : x = clashT
  · subst h3; exact .inr (.inr (.inl ⟨rfl, by decide⟩))
  by_cases h4 : x = rootT
  · subst h4; exact .inr (.inr (.inr (.inl ⟨rfl, by decide⟩)))
  refine .inr (.inr (.inr (.inr ⟨h1, h2, h3, h4, ?_⟩)))
  have n1 : ¬ pkgT = x := fun e => h1 e.symm
  have n2 : ¬ needT = x := fun e => h2 e.symm
  have n3 : ¬ clashT = x := fun e => h3 e.symm
  have n4 : ¬ rootT = x := fun e => h4 e.symm
  unfold kindOf Lib.idxOfS
  by_cases h0 : (⟨#[]⟩ : ByteArray) = x
  · simp [Lib.idxFromS, h0]
  · simp [Lib.idxFromS, h0, n1, n2, n3, n4]
theorem no_word {s : ByteArray} (h1 : cutA s ≠ pkgT) (h2 : cutA s ≠ needT) (h3 : cutA s ≠ clashT) (h4 : cutA s ≠ rootT) (x : LineM) : ¬ LineR s x := by
  rintro ⟨_, ⟨_, w, _⟩ | ⟨⟨_, w⟩ | ⟨_, w⟩, _⟩ | ⟨_, w, _⟩⟩
  · exact h1 w
  · exact h2 w
  · exact h3 w
  · exact h4 w
theorem pkg_only {s : ByteArray} (h : cutA s = pkgT) {x : LineM} (hx : LineR s x) : x.kind = 1 ∧ okVer (cutA (cutB (cutB s))) x.va x.vb x.vc ∧ cutB (cutB (cutB s)) = ByteArray.empty := by
  obtain ⟨_, ⟨k, w, v, r, _⟩ | ⟨⟨_, w⟩ | ⟨_, w⟩, _⟩ | ⟨_, w, _⟩⟩ := hx
  · exact ⟨k, v, r⟩
  · exact absurd (h.symm.trans w) (by decide)
  · exact absurd (h.symm.trans w) (by decide)
  · exact absurd (h.symm.trans w) (by decide)
theorem dep_only {s : ByteArray} (h : cutA s = needT ∨ cutA s = clashT) {x : LineM} (hx : LineR s x) : okVer (cutA (cutB (cutB s))) x.va x.vb x.vc ∧ (cutB (cutB (cutB (cutB s)))).size ≤ 1000 ∧ TextR (cutB (cutB (cutB (cutB s)))) x.range := by
  have e1 : needT ≠ pkgT := by decide
  have e2 : clashT ≠ pkgT := by decide
  have e3 : needT ≠ rootT := by decide
  have e4 : clashT ≠ rootT := by decide
  obtain ⟨_, ⟨k, w, v, r, _⟩ | ⟨_, v, _, r⟩ | ⟨_, w, _⟩⟩ := hx
  · rcases h with h | h
    · exact absurd (h.symm.trans w) e1
    · exact absurd (h.symm.trans w) e2
  · exact ⟨v, r⟩
  · rcases h with h | h
    · exact absurd (h.symm.trans w) e3
    · exact absurd (h.symm.trans w) e4
theorem root_only {s : ByteArray} (h : cutA s = rootT) {x : LineM} (hx : LineR s x) : (cutB (cutB s)).size ≤ 1000 ∧ TextR (cutB (cutB s)) x.range := by
  obtain ⟨_, ⟨k, w, v, r, _⟩ | ⟨⟨_, w⟩ | ⟨_, w⟩, _⟩ | ⟨_, w, _, _, _, _, r⟩⟩ := hx
  · exact absurd (h.symm.trans w) (by decide)
  · exact absurd (h.symm.trans w) (by decide)
  · exact absurd (h.symm.trans w) (by decide)
  · exact r
/-- What line says. -/
def LineP (s : ByteArray) (w : World) (e : Ending) (w' : World) : Prop :=
  ((∃ x : LineM, e = .returned (.tuple #[.agg (encLine x).toArray, .nilIface]) ∧ LineR s x ∧ LineIn w' x ∧ (∀ b, x.rv.ownBlock = some b → w.heap.size ≤ b)) ∨
   (∃ (k : Int) (n : ByteArray) (a b c : Int) (o : ByteArray) (va : Option Addr) (vn vc : Nat) (er : Value), e = .returned (.tuple #[.agg #[.int .i64 k, .string n, .int .i64 a, .int .i64 b, .int .i64 c, .string o, .slice va vn vc], er]) ∧ IsErr w' er ∧ ∀ x, ¬ LineR s x)) ∧ Below w.heap.size w w'
theorem err_iface {w : World} {er : Value} (h : IsErr w er) : ∃ t x, er = .iface t x := by
  rcases h with ⟨k, rfl⟩ | ⟨p, k, pl, rfl, _⟩
  · exact ⟨_, _, rfl⟩
  · exact ⟨_, _, rfl⟩
theorem IsErr.below {w w' : World} {er : Value} (h : IsErr w er) (hb : Below w.heap.size w w') : IsErr w' er := by
  rcases h with ⟨k, rfl⟩ | ⟨p, k, pl, rfl, h⟩
  · exact .inl ⟨k, rfl⟩
  · exact .inr ⟨p, k, pl, rfl, (hb.block _ (lt_of_block h)).trans h⟩
end Go.Proofs.YtheemhelioendaaGreatDoor
namespace Go.Proofs.YtheemhelioendaaGreatDoor
open Go.RowKit
set_option linter.unusedVariables false

theorem set7 {w : World} {p : Nat} {a b c d e f g : Value} {T : TypeId} (h : w.heap[p]? = some (.cells #[a, b, c, d, e, f, g] T (0, 0))) (u : Value) :
    (w.setCell ⟨p, 0, none⟩ u).heap[p]? = some (.cells #[u, b, c, d, e, f, g] T (0, 0)) ∧ (w.setCell ⟨p, 1, none⟩ u).heap[p]? = some (.cells #[a, u, c, d, e, f, g] T (0, 0)) ∧ (w.setCell ⟨p, 5, none⟩ u).heap[p]? = some (.cells #[a, b, c, d, e, u, g] T (0, 0)) ∧ (w.setCell ⟨p, 6, none⟩ u).heap[p]? = some (.cells #[a, b, c, d, e, f, u] T (0, 0)) :=
  ⟨heap_set h 0 u, heap_set h 1 u, heap_set h 5 u, heap_set h 6 u⟩
theorem set7v {w : World} {p : Nat} {a b c d e f g : Value} {T : TypeId} (h : w.heap[p]? = some (.cells #[a, b, c, d, e, f, g] T (0, 0))) (x y z : Value) :
    (((w.setCell ⟨p, 2, none⟩ x).setCell ⟨p, 3, none⟩ y).setCell ⟨p, 4, none⟩ z).heap[p]? = some (.cells #[a, b, x, y, z, f, g] T (0, 0)) := heap_set (heap_set (heap_set h 2 x) 3 y) 4 z
/-- The line's box, on its way. -/
structure LB (w wr : World) (k n a b c o v : Value) : Prop where
  blk : wr.heap[w.heap.size]? = some (.cells #[k, n, a, b, c, o, v] 51 (0, 0))
  bel : Below w.heap.size w wr
theorem LB.below {w wr w' : World} {k n a b c o v : Value} (h : LB w wr k n a b c o v) (hb : Below wr.heap.size wr w') : LB w w' k n a b c o v := ⟨(hb.block _ (lt_of_block h.blk)).trans h.blk, h.bel.trans (hb.mono h.bel.size)⟩
theorem LB.set0 {w wr : World} {k n a b c o v : Value} (h : LB w wr k n a b c o v) (u : Value) : LB w (wr.setCell ⟨w.heap.size, 0, none⟩ u) u n a b c o v := ⟨(set7 h.blk u).1, h.bel.setCell (Nat.le_refl _) _⟩
theorem LB.set1 {w wr : World} {k n a b c o v : Value} (h : LB w wr k n a b c o v) (u : Value) : LB w (wr.setCell ⟨w.heap.size, 1, none⟩ u) k u a b c o v := ⟨(set7 h.blk u).2.1, h.bel.setCell (Nat.le_refl _) _⟩
theorem LB.set5 {w wr : World} {k n a b c o v : Value} (h : LB w wr k n a b c o v) (u : Value) : LB w (wr.setCell ⟨w.heap.size, 5, none⟩ u) k n a b c u v := ⟨(set7 h.blk u).2.2.1, h.bel.setCell (Nat.le_refl _) _⟩
theorem LB.set6 {w wr : World} {k n a b c o v : Value} (h : LB w wr k n a b c o v) (u : Value) : LB w (wr.setCell ⟨w.heap.size, 6, none⟩ u) k n a b c o u := ⟨(set7 h.blk u).2.2.2, h.bel.setCell (Nat.le_refl _) _⟩
theorem LB.setV {w wr : World} {k n a b c o v : Value} (h : LB w wr k n a b c o v) (x y z : Value) : LB w (((wr.setCell ⟨w.heap.size, 2, none⟩ x).setCell ⟨w.heap.size, 3, none⟩ y).setCell ⟨w.heap.size, 4, none⟩ z) k n x y z o v := ⟨set7v h.blk x y z, ((h.bel.setCell (Nat.le_refl _) _).setCell (Nat.le_refl _) _).setCell (Nat.le_refl _) _⟩
theorem LB.fill {w wr : World} {k n a b c o v : Value} (h : LB w wr k n a b c o v) (k' n' a' b' c' o' v' : Value) : LB w (((((((wr.setCell ⟨w.heap.size, 0, none⟩ k').setCell ⟨w.heap.size, 1, none⟩ n').setCell ⟨w.heap.size, 2, none⟩ a').setCell ⟨w.heap.size, 3, none⟩ b').setCell ⟨w.heap.size, 4, none⟩ c').setCell ⟨w.heap.size, 5, none⟩ o').setCell ⟨w.heap.size, 6, none⟩ v') k' n' a' b' c' o' v' :=
  ((((h.set0 k').set1 n').setV a' b' c').set5 o').set6 v'
theorem LB.cells {w wr : World} {k n a b c o v : Value} (h : LB w wr k n a b c o v) : wr.cell? ⟨w.heap.size, 0, none⟩ = some k ∧ wr.cell? ⟨w.heap.size, 1, none⟩ = some n ∧ wr.cell? ⟨w.heap.size, 2, none⟩ = some a ∧ wr.cell? ⟨w.heap.size, 3, none⟩ = some b ∧ wr.cell? ⟨w.heap.size, 4, none⟩ = some c ∧ wr.cell? ⟨w.heap.size, 5, none⟩ = some o ∧ wr.cell? ⟨w.heap.size, 6, none⟩ = some v := cells7 h.blk
theorem LB.free {w wr : World} {k n a b c o v : Value} (h : LB w wr k n a b c o v) : wr.frozen? ⟨w.heap.size, 0, none⟩ = false ∧ wr.frozen? ⟨w.heap.size, 1, none⟩ = false ∧ wr.frozen? ⟨w.heap.size, 2, none⟩ = false ∧ wr.frozen? ⟨w.heap.size, 3, none⟩ = false ∧ wr.frozen? ⟨w.heap.size, 4, none⟩ = false ∧ wr.frozen? ⟨w.heap.size, 5, none⟩ = false ∧ wr.frozen? ⟨w.heap.size, 6, none⟩ = false := by
  refine ⟨?_, ?_, ?_, ?_, ?_, ?_, ?_⟩
  all_goals simp [World.frozen?, h.blk]
theorem LB.lt {w wr : World} {k n a b c o v : Value} (h : LB w wr k n a b c o v) : w.heap.size < wr.heap.size := lt_of_block h.blk
theorem sp_set {w : World} {v : Value} {l : List Spn} (h : IsSp w v l) {p : Nat} (hb : ∀ b, v.ownBlock = some b → p ≠ b) (j : Nat) (u : Value) : IsSp (w.setCell ⟨p, j, none⟩ u) v l := by
  rcases h with h | ⟨g, cap, f, rfl, h1, h2, h3⟩
  · exact .inl h
  · have := hb g rfl
    exact .inr ⟨g, cap, f, rfl, h1, h2.keep (Below.heap_setCell _ _ _ _ (by show g ≠ p; omega)), h3⟩
theorem sp_fill {w : World} {v : Value} {l : List Spn} (h : IsSp w v l) {p : Nat} (hb : ∀ b, v.ownBlock = some b → p < b) (k' n' a' b' c' o' v' : Value) : IsSp (((((((w.setCell ⟨p, 0, none⟩ k').setCell ⟨p, 1, none⟩ n').setCell ⟨p, 2, none⟩ a').setCell ⟨p, 3, none⟩ b').setCell ⟨p, 4, none⟩ c').setCell ⟨p, 5, none⟩ o').setCell ⟨p, 6, none⟩ v') v l := by
  have hb2 : ∀ b, v.ownBlock = some b → p ≠ b := fun b h => Nat.ne_of_lt (hb b h)
  exact sp_set (sp_set (sp_set (sp_set (sp_set (sp_set (sp_set h hb2 _ _) hb2 _ _) hb2 _ _) hb2 _ _) hb2 _ _) hb2 _ _) hb2 _ _
theorem at_ne {w : World} {b p : Nat} {k n a c d e f : Value} (h : ∃ k pl, w.heap[b]? = some (.cells #[.int .i64 k, .int .i64 pl] 103 (0, 0))) (hp : w.heap[p]? = some (.cells #[k, n, a, c, d, e, f] 51 (0, 0))) : b ≠ p := by
  rintro rfl
  obtain ⟨k, pl, h⟩ := h
  rw [h] at hp
  simp at hp
theorem err_fill7 {w : World} {p : Nat} {er : Value} {k' n' a' b' c' o' v' : Value} (h : IsErr w er) (hx : ∀ b, (∃ k pl, w.heap[b]? = some (.cells #[.int .i64 k, .int .i64 pl] 103 (0, 0))) → b ≠ p) : IsErr (((((((w.setCell ⟨p, 0, none⟩ k').setCell ⟨p, 1, none⟩ n').setCell ⟨p, 2, none⟩ a').setCell ⟨p, 3, none⟩ b').setCell ⟨p, 4, none⟩ c').setCell ⟨p, 5, none⟩ o').setCell ⟨p, 6, none⟩ v') er := by
  rcases h with ⟨k, rfl⟩ | ⟨q, k, pl, rfl, h⟩
  · exact .inl ⟨k, rfl⟩
  · have hne := hx q ⟨k, pl, h⟩
    refine .inr ⟨q, k, pl, rfl, ?_⟩
    have key : ∀ (w' : World) (j : Nat) (u : Value), (w'.setCell ⟨p, j, none⟩ u).heap[q]? = w'.heap[q]? := fun w' j u => Below.heap_setCell _ _ _ _ (by show q ≠ p; exact hne)
    rw [key, key, key, key, key, key, key]
    exact h
theorem err_fill {w : World} {p : Nat} {er : Value} {u k' n' a' b' c' o' v' : Value} (h : IsErr w er) (hx : ∀ b, (∃ k pl, w.heap[b]? = some (.cells #[.int .i64 k, .int .i64 pl] 103 (0, 0))) → b ≠ p) : IsErr ((((((((w.setCell ⟨p, 6, none⟩ u).setCell ⟨p, 0, none⟩ k').setCell ⟨p, 1, none⟩ n').setCell ⟨p, 2, none⟩ a').setCell ⟨p, 3, none⟩ b').setCell ⟨p, 4, none⟩ c').setCell ⟨p, 5, none⟩ o').setCell ⟨p, 6, none⟩ v') er := by
  rcases h with ⟨k, rfl⟩ | ⟨q, k, pl, rfl, h⟩
  · exact .inl ⟨k, rfl⟩
  · have hne := hx q ⟨k, pl, h⟩
    refine .inr ⟨q, k, pl, rfl, ?_⟩
    have key : ∀ (w' : World) (j : Nat) (u : Value), (w'.setCell ⟨p, j, none⟩ u).heap[q]? = w'.heap[q]? := fun w' j u => Below.heap_setCell _ _ _ _ (by show q ≠ p; exact hne)
    rw [key, key, key, key, key, key, key, key]
    exact h
set_option maxRecDepth 100000 in
set_option maxHeartbeats 16000000 in
theorem line_any (s : ByteArray) (w : World) (hs : s.size ≤ 20000) (hL : LaidR w) (hT : TypeLaid w) : Calls Tryz.prog 79 #[.string s] w (LineP s w) := by
  have hz1 := cut_sizes s
  have hz2 := cut_sizes (cutB s)
  have hz3 := cut_sizes (cutB (cutB s))
  have hz4 := cut_sizes (cutB (cutB (cutB s)))
  have HLT := Lib.hid (show ∀ w', Below w.heap.size w w' → LaidR w' ∧ TypeLaid w' from fun w' hw => ⟨hL.below hw, hT.below hw⟩)
  have HCut := Lib.hid (show ∀ t w', t.size ≤ 20000 → Below w.heap.size w w' → Calls Tryz.prog 100 #[.string t, .string ⟨#[32]⟩] w' fun e w'' => (∃ b, e = .returned (.tuple #[.string (cutA t), .string (cutB t), .bool b])) ∧ Below w'.heap.size w' w'' from fun t w' ht hw => cut_any t w' (by omega) (HLT.out w' hw).1)
  have Hz := Lib.hid (show s.size ≤ 20000 ∧ (cutB s).size ≤ 20000 ∧ (cutB (cutB s)).size ≤ 20000 ∧ (cutB (cutB (cutB s))).size ≤ 20000 ∧ (cutB (cutB (cutB (cutB s)))).size ≤ 20000 ∧ (cutA (cutB (cutB s))).size ≤ 20000 ∧ (cutA (cutB s)).size ≤ 20000 ∧ (cutA (cutB (cutB (cutB s)))).size ≤ 20000 by omega)
  obtain ⟨W0, hW0⟩ : ∃ W0, W0 = w.alloc (.cells #[.int .i64 0, .string ⟨#[]⟩, .int .i64 0, .int .i64 0, .int .i64 0, .string ⟨#[]⟩, .slice none 0 0] 51) := ⟨_, rfl⟩
  have hB0 : LB w W0 (.int .i64 0) (.string ⟨#[]⟩) (.int .i64 0) (.int .i64 0) (.int .i64 0) (.string ⟨#[]⟩) (.slice none 0 0) := by rw [hW0]; exact ⟨heap_at rfl, (Below.refl _ _).alloc (Nat.le_refl _) _⟩
  have HB0 := Lib.hid hB0
  clear hB0 hL hT hs hz1 hz2 hz3 hz4
  go_enter Tryz.func79, Tryz.ntmps79
  go_upto_region 1 with fail
  rw [← hW0]
  clear hW0
  go_wp2_with fail
  refine (HCut.out _ _ Hz.out.1 HB0.out.bel).mono ?_
  rintro e w1 ⟨⟨b1, rfl⟩, hb1⟩
  have HI := Lib.hid (idx_any w1.heap.size (cutA s) (w1.alloc (.cells #[.string ⟨#[]⟩, .string ⟨#[112, 97, 99, 107, 97, 103, 101]⟩, .string ⟨#[110, 101, 101, 100, 115]⟩, .string ⟨#[99, 108, 97, 115, 104, 101, 115]⟩, .string ⟨#[114, 111, 111, 116]⟩] 9)) (heap_at rfl))
  have hB1 := (HB0.out.below hb1).below ((Below.refl _ _).alloc (Nat.le_refl _) (.cells #[.string ⟨#[]⟩, .string ⟨#[112, 97, 99, 107, 97, 103, 101]⟩, .string ⟨#[110, 101, 101, 100, 115]⟩, .string ⟨#[99, 108, 97, 115, 104, 101, 115]⟩, .string ⟨#[114, 111, 111, 116]⟩] 9))
  have HB1 := Lib.hid hB1
  clear hB1 hb1 HB0
  obtain ⟨K, hK⟩ : ∃ K, K = kindOf (cutA s) := ⟨_, rfl⟩
  have hKc := kindOf_cases (cutA s)
  rw [← hK] at HI hKc
  have HKc := Lib.hid hKc
  clear hK hKc
  go_wp2_with fail
  refine HI.out.mono ?_
  rintro e w2 ⟨rfl, hw2⟩
  rw [← hw2] at HB1
  clear hw2 HI

  obtain ⟨k0, k1, k2, k3, k4, k5, k6⟩ := HB1.out.cells
  obtain ⟨f0, f1, f2, f3, f4, f5, f6⟩ := HB1.out.free
  have hlt := HB1.out.lt
  have HB2 := Lib.hid (HB1.out.set0 (.int .i64 K))
  clear HB1
  rcases HKc.out with ⟨hw, rfl⟩ | ⟨hw, rfl⟩ | ⟨hw, rfl⟩ | ⟨hw, rfl⟩ | ⟨n1, n2, n3, n4, hk⟩
  · have Hw := Lib.hid hw; clear hw
    go_wp2_with fail
    refine (HCut.out (cutB s) _ Hz.out.2.1 HB2.out.bel).mono ?_
    rintro e w3 ⟨⟨b3, rfl⟩, hb3⟩
    have HC3 := Lib.hid (HB2.out.below hb3)
    clear k0 k1 k2 k3 k4 k5 k6 f0 f1 f2 f3 f4 f5 f6 hlt
    clear hb3 HB2
    obtain ⟨k0, k1, k2, k3, k4, k5, k6⟩ := HC3.out.cells
    obtain ⟨f0, f1, f2, f3, f4, f5, f6⟩ := HC3.out.free
    have hlt := HC3.out.lt
    have HB3 := Lib.hid (HC3.out.set1 (.string (cutA (cutB s))))
    clear HC3
    go_wp2_with fail
    refine (HCut.out (cutB (cutB s)) _ Hz.out.2.2.1 HB3.out.bel).mono ?_
    rintro e w4 ⟨⟨b4, rfl⟩, hb4⟩
    have HC4 := Lib.hid (HB3.out.below hb4)
    clear k0 k1 k2 k3 k4 k5 k6 f0 f1 f2 f3 f4 f5 f6 hlt
    clear hb4 HB3
    obtain ⟨k0, k1, k2, k3, k4, k5, k6⟩ := HC4.out.cells
    obtain ⟨f0, f1, f2, f3, f4, f5, f6⟩ := HC4.out.free
    have hlt := HC4.out.lt
    have HB4 := Lib.hid HC4.out
    clear HC4
    have HPs := Lib.hid (parse_any (cutA (cutB (cutB s))) w4 (by have := Hz.out.2.2.2.2.2.1; omega) (HLT.out _ HB4.out.bel).1)
    go_wp2_with fail
    refine HPs.out.mono ?_
    rintro e w5 ⟨a, b, c, er, rfl, hb5, hver⟩
    have HC5 := Lib.hid (HB4.out.below hb5)
    clear k0 k1 k2 k3 k4 k5 k6 f0 f1 f2 f3 f4 f5 f6 hlt
    clear hb5 HB4 HPs
    obtain ⟨k0, k1, k2, k3, k4, k5, k6⟩ := HC5.out.cells
    obtain ⟨f0, f1, f2, f3, f4, f5, f6⟩ := HC5.out.free
    have hlt := HC5.out.lt
    have HB5 := Lib.hid (HC5.out.setV (.int .i64 a) (.int .i64 b) (.int .i64 c))
    clear HC5
    rcases hver with ⟨rfl, hok⟩ | ⟨⟨q, rfl⟩, hbad⟩
    rotate_left
    · have Hbad := Lib.hid hbad; clear hbad
      go_wp2_with fail
      have hF := HB5.out.fill (.int .i64 0) (.string ⟨#[]⟩) (.int .i64 0) (.int .i64 0) (.int .i64 0) (.string ⟨#[]⟩) (.slice none 0 0)
      obtain ⟨WF, hWF⟩ : ∃ x, x = ((((((((((w5.setCell ⟨w.heap.size, 2, none⟩ (.int .i64 a)).setCell ⟨w.heap.size, 3, none⟩ (.int .i64 b)).setCell ⟨w.heap.size, 4, none⟩ (.int .i64 c)).setCell ⟨w.heap.size, 0, none⟩ (.int .i64 0)).setCell ⟨w.heap.size, 1, none⟩ (.string ⟨#[]⟩)).setCell ⟨w.heap.size, 2, none⟩ (.int .i64 0)).setCell ⟨w.heap.size, 3, none⟩ (.int .i64 0)).setCell ⟨w.heap.size, 4, none⟩ (.int .i64 0)).setCell ⟨w.heap.size, 5, none⟩ (.string ⟨#[]⟩)).setCell ⟨w.heap.size, 6, none⟩ (.slice none 0 0)) := ⟨_, rfl⟩
      rw [← hWF] at hF ⊢
      clear hWF
      obtain ⟨z0, z1, z2, z3, z4, z5, z6⟩ := hF.cells
      refine bodyPost_ret (v := .tuple #[.agg #[.int .i64 0, .string ⟨#[]⟩, .int .i64 0, .int .i64 0, .int .i64 0, .string ⟨#[]⟩, .slice none 0 0], .iface 43 (.int .i64 q)]) (by simp [results, Tryz.results79, go_sem, z0, z1, z2, z3, z4, z5, z6]) rfl ⟨.inr ⟨_, _, _, _, _, _, _, _, _, _, rfl, .inl ⟨q, rfl⟩, fun x hx => Hbad.out _ _ _ (pkg_only Hw.out hx).2.1⟩, hF.bel⟩
    have Hok := Lib.hid hok; clear hok
    by_cases hr : cutB (cutB (cutB s)) = ByteArray.empty
    · have te : (cutB (cutB (cutB s))).toList.isEmpty = true := empty_iff.2 hr
      have Hr := Lib.hid hr; clear hr
      go_wp2_with fail
      have hF := HB5.out.fill (.int .i64 1) (.string (cutA (cutB s))) (.int .i64 a) (.int .i64 b) (.int .i64 c) (.string ⟨#[]⟩) (.slice none 0 0)
      obtain ⟨WF, hWF⟩ : ∃ x, x = ((((((((((w5.setCell ⟨w.heap.size, 2, none⟩ (.int .i64 a)).setCell ⟨w.heap.size, 3, none⟩ (.int .i64 b)).setCell ⟨w.heap.size, 4, none⟩ (.int .i64 c)).setCell ⟨w.heap.size, 0, none⟩ (.int .i64 1)).setCell ⟨w.heap.size, 1, none⟩ (.string (cutA (cutB s)))).setCell ⟨w.heap.size, 2, none⟩ (.int .i64 a)).setCell ⟨w.heap.size, 3, none⟩ (.int .i64 b)).setCell ⟨w.heap.size, 4, none⟩ (.int .i64 c)).setCell ⟨w.heap.size, 5, none⟩ (.string ⟨#[]⟩)).setCell ⟨w.heap.size, 6, none⟩ (.slice none 0 0)) := ⟨_, rfl⟩
      rw [← hWF] at hF ⊢
      clear hWF
      obtain ⟨z0, z1, z2, z3, z4, z5, z6⟩ := hF.cells
      refine bodyPost_ret (v := .tuple #[.agg (encLine (⟨1, cutA (cutB s), a, b, c, ⟨#[]⟩, [], .slice none 0 0⟩ : LineM)).toArray, .nilIface]) (by simp [results, Tryz.results79, go_sem, encLine, z0, z1, z2, z3, z4, z5, z6]) rfl ⟨.inl ⟨(⟨1, cutA (cutB s), a, b, c, ⟨#[]⟩, [], .slice none 0 0⟩ : LineM), rfl, ⟨rfl, .inl ⟨rfl, Hw.out, Hok.out, Hr.out, rfl, rfl⟩⟩, ⟨IsSp.nil _, by simp, Canon.nil, by have := Hz.out; simp only; omega, Nat.zero_le _⟩, fun b hb => by cases hb⟩, hF.bel⟩
    · have te : (cutB (cutB (cutB s))).toList.isEmpty = false := by rw [Bool.eq_false_iff]; exact fun q => hr (empty_iff.1 q)
      have Hr := Lib.hid hr; clear hr
      go_wp2_with fail
      have hF := HB5.out.fill (.int .i64 0) (.string ⟨#[]⟩) (.int .i64 0) (.int .i64 0) (.int .i64 0) (.string ⟨#[]⟩) (.slice none 0 0)
      obtain ⟨WF, hWF⟩ : ∃ x, x = ((((((((((w5.setCell ⟨w.heap.size, 2, none⟩ (.int .i64 a)).setCell ⟨w.heap.size, 3, none⟩ (.int .i64 b)).setCell ⟨w.heap.size, 4, none⟩ (.int .i64 c)).setCell ⟨w.heap.size, 0, none⟩ (.int .i64 0)).setCell ⟨w.heap.size, 1, none⟩ (.string ⟨#[]⟩)).setCell ⟨w.heap.size, 2, none⟩ (.int .i64 0)).setCell ⟨w.heap.size, 3, none⟩ (.int .i64 0)).setCell ⟨w.heap.size, 4, none⟩ (.int .i64 0)).setCell ⟨w.heap.size, 5, none⟩ (.string ⟨#[]⟩)).setCell ⟨w.heap.size, 6, none⟩ (.slice none 0 0)) := ⟨_, rfl⟩
      rw [← hWF] at hF ⊢
      clear hWF
      obtain ⟨z0, z1, z2, z3, z4, z5, z6⟩ := hF.cells
      refine bodyPost_ret (v := .tuple #[.agg #[.int .i64 0, .string ⟨#[]⟩, .int .i64 0, .int .i64 0, .int .i64 0, .string ⟨#[]⟩, .slice none 0 0], .iface 43 (.int .i64 3)]) (by simp [results, Tryz.results79, go_sem, z0, z1, z2, z3, z4, z5, z6]) rfl ⟨.inr ⟨_, _, _, _, _, _, _, _, _, _, rfl, .inl ⟨3, rfl⟩, fun x hx => Hr.out (pkg_only Hw.out hx).2.2⟩, hF.bel⟩
  · have Hw := Lib.hid (show cutA s = needT ∨ cutA s = clashT from .inl hw)
    have Hww := Lib.hid hw; clear hw
    go_wp2_with fail
    refine (HCut.out (cutB s) _ Hz.out.2.1 HB2.out.bel).mono ?_
    rintro e w3 ⟨⟨b3, rfl⟩, hb3⟩
    have HC3 := Lib.hid (HB2.out.below hb3)
    clear k0 k1 k2 k3 k4 k5 k6 f0 f1 f2 f3 f4 f5 f6 hlt
    clear hb3 HB2
    obtain ⟨k0, k1, k2, k3, k4, k5, k6⟩ := HC3.out.cells
    obtain ⟨f0, f1, f2, f3, f4, f5, f6⟩ := HC3.out.free
    have hlt := HC3.out.lt
    have HB3 := Lib.hid (HC3.out.set1 (.string (cutA (cutB s))))
    clear HC3
    go_wp2_with fail
    refine (HCut.out (cutB (cutB s)) _ Hz.out.2.2.1 HB3.out.bel).mono ?_
    rintro e w4 ⟨⟨b4, rfl⟩, hb4⟩
    have HC4 := Lib.hid (HB3.out.below hb4)
    clear k0 k1 k2 k3 k4 k5 k6 f0 f1 f2 f3 f4 f5 f6 hlt
    clear hb4 HB3
    obtain ⟨k0, k1, k2, k3, k4, k5, k6⟩ := HC4.out.cells
    obtain ⟨f0, f1, f2, f3, f4, f5, f6⟩ := HC4.out.free
    have hlt := HC4.out.lt
    have HB4 := Lib.hid HC4.out
    clear HC4
    have HPs := Lib.hid (parse_any (cutA (cutB (cutB s))) w4 (by have := Hz.out.2.2.2.2.2.1; omega) (HLT.out _ HB4.out.bel).1)
    go_wp2_with fail
    refine HPs.out.mono ?_
    rintro e w5 ⟨a, b, c, er, rfl, hb5, hver⟩
    have HC5 := Lib.hid (HB4.out.below hb5)
    clear k0 k1 k2 k3 k4 k5 k6 f0 f1 f2 f3 f4 f5 f6 hlt
    clear hb5 HB4 HPs
    obtain ⟨k0, k1, k2, k3, k4, k5, k6⟩ := HC5.out.cells
    obtain ⟨f0, f1, f2, f3, f4, f5, f6⟩ := HC5.out.free
    have hlt := HC5.out.lt
    have HB5 := Lib.hid (HC5.out.setV (.int .i64 a) (.int .i64 b) (.int .i64 c))
    clear HC5
    rcases hver with ⟨rfl, hok⟩ | ⟨⟨q, rfl⟩, hbad⟩
    rotate_left
    · have Hbad := Lib.hid hbad; clear hbad
      go_wp2_with fail
      have hF := HB5.out.fill (.int .i64 0) (.string ⟨#[]⟩) (.int .i64 0) (.int .i64 0) (.int .i64 0) (.string ⟨#[]⟩) (.slice none 0 0)
      obtain ⟨WF, hWF⟩ : ∃ x, x = ((((((((((w5.setCell ⟨w.heap.size, 2, none⟩ (.int .i64 a)).setCell ⟨w.heap.size, 3, none⟩ (.int .i64 b)).setCell ⟨w.heap.size, 4, none⟩ (.int .i64 c)).setCell ⟨w.heap.size, 0, none⟩ (.int .i64 0)).setCell ⟨w.heap.size, 1, none⟩ (.string ⟨#[]⟩)).setCell ⟨w.heap.size, 2, none⟩ (.int .i64 0)).setCell ⟨w.heap.size, 3, none⟩ (.int .i64 0)).setCell ⟨w.heap.size, 4, none⟩ (.int .i64 0)).setCell ⟨w.heap.size, 5, none⟩ (.string ⟨#[]⟩)).setCell ⟨w.heap.size, 6, none⟩ (.slice none 0 0)) := ⟨_, rfl⟩
      rw [← hWF] at hF ⊢
      clear hWF
      obtain ⟨z0, z1, z2, z3, z4, z5, z6⟩ := hF.cells
      refine bodyPost_ret (v := .tuple #[.agg #[.int .i64 0, .string ⟨#[]⟩, .int .i64 0, .int .i64 0, .int .i64 0, .string ⟨#[]⟩, .slice none 0 0], .iface 43 (.int .i64 q)]) (by simp [results, Tryz.results79, go_sem, z0, z1, z2, z3, z4, z5, z6]) rfl ⟨.inr ⟨_, _, _, _, _, _, _, _, _, _, rfl, .inl ⟨q, rfl⟩, fun x hx => Hbad.out _ _ _ (dep_only Hw.out hx).1⟩, hF.bel⟩
    have Hok := Lib.hid hok; clear hok
    go_wp2_with fail
    refine (HCut.out (cutB (cutB (cutB s))) _ Hz.out.2.2.2.1 HB5.out.bel).mono ?_
    rintro e w6 ⟨⟨b6, rfl⟩, hb6⟩
    have HC6 := Lib.hid (HB5.out.below hb6)
    clear k0 k1 k2 k3 k4 k5 k6 f0 f1 f2 f3 f4 f5 f6 hlt
    clear hb6 HB5
    obtain ⟨k0, k1, k2, k3, k4, k5, k6⟩ := HC6.out.cells
    obtain ⟨f0, f1, f2, f3, f4, f5, f6⟩ := HC6.out.free
    have hlt := HC6.out.lt
    have HB6 := Lib.hid (HC6.out.set5 (.string (cutA (cutB (cutB (cutB s))))))
    clear HC6
    have HR := Lib.hid (range_any (cutB (cutB (cutB (cutB s)))) _ (by have := Hz.out.2.2.2.2.1; omega) (HLT.out _ HB6.out.bel).1 (HLT.out _ HB6.out.bel).2)
    go_wp2_with fail
    refine HR.out.mono ?_
    rintro e w8 ⟨v8, r8, e8, rfl, hs8, hf8, hl8, hb8, hc8⟩
    obtain ⟨a8, c8, rfl, _, _⟩ := hs8.shape
    have HC8 := Lib.hid (HB6.out.below hb8)
    have Hf8 := Lib.hid (fun b hb => Nat.lt_of_lt_of_le HB6.out.lt (hf8 b hb))
    clear k0 k1 k2 k3 k4 k5 k6 f0 f1 f2 f3 f4 f5 f6 hlt
    have HX8 := Lib.hid (fun (b : Nat) (hb : ∃ k pl, w8.heap[b]? = some (.cells #[.int .i64 k, .int .i64 pl] 103 (0, 0))) => at_ne hb HC8.out.blk)
    clear hb8 hf8 HB6 HR
    obtain ⟨k0, k1, k2, k3, k4, k5, k6⟩ := HC8.out.cells
    obtain ⟨f0, f1, f2, f3, f4, f5, f6⟩ := HC8.out.free
    have hlt := HC8.out.lt
    have HB8 := Lib.hid (HC8.out.set6 (.slice a8 r8.length c8))
    have hs9 : IsSp (w8.setCell ⟨w.heap.size, 6, none⟩ (.slice a8 r8.length c8)) (.slice a8 r8.length c8) r8 := sp_set hs8 (fun b hb => Nat.ne_of_lt (Hf8.out b hb)) _ _
    have Hs9 := Lib.hid hs9; have Hl8 := Lib.hid hl8
    clear HC8 hs8 hs9 hl8
    rcases hc8 with ⟨rfl, hsz8, htx⟩ | ⟨he8, hr0, hno⟩
    · have Htx := Lib.hid htx; have Hsz8 := Lib.hid hsz8; clear htx hsz8
      go_wp2_with fail
      have hF := HB8.out.fill (.int .i64 2) (.string (cutA (cutB s))) (.int .i64 a) (.int .i64 b) (.int .i64 c) (.string (cutA (cutB (cutB (cutB s))))) (.slice a8 r8.length c8)
      have hsF := sp_fill Hs9.out (fun b hb => Hf8.out b hb) (.int .i64 2) (.string (cutA (cutB s))) (.int .i64 a) (.int .i64 b) (.int .i64 c) (.string (cutA (cutB (cutB (cutB s))))) (.slice a8 r8.length c8)
      obtain ⟨WF, hWF⟩ : ∃ x, x = ((((((((w8.setCell ⟨w.heap.size, 6, none⟩ (.slice a8 r8.length c8)).setCell ⟨w.heap.size, 0, none⟩ (.int .i64 2)).setCell ⟨w.heap.size, 1, none⟩ (.string (cutA (cutB s)))).setCell ⟨w.heap.size, 2, none⟩ (.int .i64 a)).setCell ⟨w.heap.size, 3, none⟩ (.int .i64 b)).setCell ⟨w.heap.size, 4, none⟩ (.int .i64 c)).setCell ⟨w.heap.size, 5, none⟩ (.string (cutA (cutB (cutB (cutB s)))))).setCell ⟨w.heap.size, 6, none⟩ (.slice a8 r8.length c8)) := ⟨_, rfl⟩
      rw [← hWF] at hF hsF ⊢
      clear hWF
      obtain ⟨z0, z1, z2, z3, z4, z5, z6⟩ := hF.cells
      refine bodyPost_ret (v := .tuple #[.agg (encLine (⟨2, cutA (cutB s), a, b, c, cutA (cutB (cutB (cutB s))), r8, .slice a8 r8.length c8⟩ : LineM)).toArray, .nilIface]) (by simp [results, Tryz.results79, go_sem, encLine, z0, z1, z2, z3, z4, z5, z6]) rfl ⟨.inl ⟨(⟨2, cutA (cutB s), a, b, c, cutA (cutB (cutB (cutB s))), r8, .slice a8 r8.length c8⟩ : LineM), rfl, ⟨rfl, .inr (.inl ⟨.inl ⟨rfl, Hww.out⟩, Hok.out, rfl, Hsz8.out, Htx.out⟩)⟩, ⟨hsF, Hl8.out, Htx.out.can, by have := Hz.out; simp only; omega, by have := Hz.out; simp only; first | omega | exact Nat.zero_le _⟩, fun b hb => Nat.le_of_lt (Hf8.out b hb)⟩, hF.bel⟩
    · obtain ⟨t8, x8, rfl⟩ := err_iface he8
      have Hno := Lib.hid hno; have He8 := Lib.hid he8; clear hno he8
      subst hr0
      simp only [List.length_nil] at HB8 ⊢
      go_wp2_with fail
      have hF := HB8.out.fill (.int .i64 2) (.string (cutA (cutB s))) (.int .i64 a) (.int .i64 b) (.int .i64 c) (.string (cutA (cutB (cutB (cutB s))))) (.slice a8 0 c8)
      have heF := err_fill (u := .slice a8 0 c8) (k' := .int .i64 2) (n' := .string (cutA (cutB s))) (a' := .int .i64 a) (b' := .int .i64 b) (c' := .int .i64 c) (o' := .string (cutA (cutB (cutB (cutB s))))) (v' := .slice a8 0 c8) He8.out HX8.out
      obtain ⟨WF, hWF⟩ : ∃ x, x = ((((((((w8.setCell ⟨w.heap.size, 6, none⟩ (.slice a8 0 c8)).setCell ⟨w.heap.size, 0, none⟩ (.int .i64 2)).setCell ⟨w.heap.size, 1, none⟩ (.string (cutA (cutB s)))).setCell ⟨w.heap.size, 2, none⟩ (.int .i64 a)).setCell ⟨w.heap.size, 3, none⟩ (.int .i64 b)).setCell ⟨w.heap.size, 4, none⟩ (.int .i64 c)).setCell ⟨w.heap.size, 5, none⟩ (.string (cutA (cutB (cutB (cutB s)))))).setCell ⟨w.heap.size, 6, none⟩ (.slice a8 0 c8)) := ⟨_, rfl⟩
      rw [← hWF] at hF heF ⊢
      clear hWF
      obtain ⟨z0, z1, z2, z3, z4, z5, z6⟩ := hF.cells
      refine bodyPost_ret (v := .tuple #[.agg #[.int .i64 2, .string (cutA (cutB s)), .int .i64 a, .int .i64 b, .int .i64 c, .string (cutA (cutB (cutB (cutB s)))), .slice a8 0 c8], .iface t8 x8]) (by simp [results, Tryz.results79, go_sem, z0, z1, z2, z3, z4, z5, z6]) rfl ⟨.inr ⟨_, _, _, _, _, _, _, _, _, _, rfl, heF, fun x hx => Hno.out _ (dep_only Hw.out hx).2.1 (dep_only Hw.out hx).2.2⟩, hF.bel⟩
  · have Hw := Lib.hid (show cutA s = needT ∨ cutA s = clashT from .inr hw)
    have Hww := Lib.hid hw; clear hw
    go_wp2_with fail
    refine (HCut.out (cutB s) _ Hz.out.2.1 HB2.out.bel).mono ?_
    rintro e w3 ⟨⟨b3, rfl⟩, hb3⟩
    have HC3 := Lib.hid (HB2.out.below hb3)
    clear k0 k1 k2 k3 k4 k5 k6 f0 f1 f2 f3 f4 f5 f6 hlt
    clear hb3 HB2
    obtain ⟨k0, k1, k2, k3, k4, k5, k6⟩ := HC3.out.cells
    obtain ⟨f0, f1, f2, f3, f4, f5, f6⟩ := HC3.out.free
    have hlt := HC3.out.lt
    have HB3 := Lib.hid (HC3.out.set1 (.string (cutA (cutB s))))
    clear HC3
    go_wp2_with fail
    refine (HCut.out (cutB (cutB s)) _ Hz.out.2.2.1 HB3.out.bel).mono ?_
    rintro e w4 ⟨⟨b4, rfl⟩, hb4⟩
    have HC4 := Lib.hid (HB3.out.below hb4)
    clear k0 k1 k2 k3 k4 k5 k6 f0 f1 f2 f3 f4 f5 f6 hlt
    clear hb4 HB3
    obtain ⟨k0, k1, k2, k3, k4, k5, k6⟩ := HC4.out.cells
    obtain ⟨f0, f1, f2, f3, f4, f5, f6⟩ := HC4.out.free
    have hlt := HC4.out.lt
    have HB4 := Lib.hid HC4.out
    clear HC4
    have HPs := Lib.hid (parse_any (cutA (cutB (cutB s))) w4 (by have := Hz.out.2.2.2.2.2.1; omega) (HLT.out _ HB4.out.bel).1)
    go_wp2_with fail
    refine HPs.out.mono ?_
    rintro e w5 ⟨a, b, c, er, rfl, hb5, hver⟩
    have HC5 := Lib.hid (HB4.out.below hb5)
    clear k0 k1 k2 k3 k4 k5 k6 f0 f1 f2 f3 f4 f5 f6 hlt
    clear hb5 HB4 HPs
    obtain ⟨k0, k1, k2, k3, k4, k5, k6⟩ := HC5.out.cells
    obtain ⟨f0, f1, f2, f3, f4, f5, f6⟩ := HC5.out.free
    have hlt := HC5.out.lt
    have HB5 := Lib.hid (HC5.out.setV (.int .i64 a) (.int .i64 b) (.int .i64 c))
    clear HC5
    rcases hver with ⟨rfl, hok⟩ | ⟨⟨q, rfl⟩, hbad⟩
    rotate_left
    · have Hbad := Lib.hid hbad; clear hbad
      go_wp2_with fail
      have hF := HB5.out.fill (.int .i64 0) (.string ⟨#[]⟩) (.int .i64 0) (.int .i64 0) (.int .i64 0) (.string ⟨#[]⟩) (.slice none 0 0)
      obtain ⟨WF, hWF⟩ : ∃ x, x = ((((((((((w5.setCell ⟨w.heap.size, 2, none⟩ (.int .i64 a)).setCell ⟨w.heap.size, 3, none⟩ (.int .i64 b)).setCell ⟨w.heap.size, 4, none⟩ (.int .i64 c)).setCell ⟨w.heap.size, 0, none⟩ (.int .i64 0)).setCell ⟨w.heap.size, 1, none⟩ (.string ⟨#[]⟩)).setCell ⟨w.heap.size, 2, none⟩ (.int .i64 0)).setCell ⟨w.heap.size, 3, none⟩ (.int .i64 0)).setCell ⟨w.heap.size, 4, none⟩ (.int .i64 0)).setCell ⟨w.heap.size, 5, none⟩ (.string ⟨#[]⟩)).setCell ⟨w.heap.size, 6, none⟩ (.slice none 0 0)) := ⟨_, rfl⟩
      rw [← hWF] at hF ⊢
      clear hWF
      obtain ⟨z0, z1, z2, z3, z4, z5, z6⟩ := hF.cells
      refine bodyPost_ret (v := .tuple #[.agg #[.int .i64 0, .string ⟨#[]⟩, .int .i64 0, .int .i64 0, .int .i64 0, .string ⟨#[]⟩, .slice none 0 0], .iface 43 (.int .i64 q)]) (by simp [results, Tryz.results79, go_sem, z0, z1, z2, z3, z4, z5, z6]) rfl ⟨.inr ⟨_, _, _, _, _, _, _, _, _, _, rfl, .inl ⟨q, rfl⟩, fun x hx => Hbad.out _ _ _ (dep_only Hw.out hx).1⟩, hF.bel⟩
    have Hok := Lib.hid hok; clear hok
    go_wp2_with fail
    refine (HCut.out (cutB (cutB (cutB s))) _ Hz.out.2.2.2.1 HB5.out.bel).mono ?_
    rintro e w6 ⟨⟨b6, rfl⟩, hb6⟩
    have HC6 := Lib.hid (HB5.out.below hb6)
    clear k0 k1 k2 k3 k4 k5 k6 f0 f1 f2 f3 f4 f5 f6 hlt
    clear hb6 HB5
    obtain ⟨k0, k1, k2, k3, k4, k5, k6⟩ := HC6.out.cells
    obtain ⟨f0, f1, f2, f3, f4, f5, f6⟩ := HC6.out.free
    have hlt := HC6.out.lt
    have HB6 := Lib.hid (HC6.out.set5 (.string (cutA (cutB (cutB (cutB s))))))
    clear HC6
    have HR := Lib.hid (range_any (cutB (cutB (cutB (cutB s)))) _ (by have := Hz.out.2.2.2.2.1; omega) (HLT.out _ HB6.out.bel).1 (HLT.out _ HB6.out.bel).2)
    go_wp2_with fail
    refine HR.out.mono ?_
    rintro e w8 ⟨v8, r8, e8, rfl, hs8, hf8, hl8, hb8, hc8⟩
    obtain ⟨a8, c8, rfl, _, _⟩ := hs8.shape
    have HC8 := Lib.hid (HB6.out.below hb8)
    have Hf8 := Lib.hid (fun b hb => Nat.lt_of_lt_of_le HB6.out.lt (hf8 b hb))
    clear k0 k1 k2 k3 k4 k5 k6 f0 f1 f2 f3 f4 f5 f6 hlt
    have HX8 := Lib.hid (fun (b : Nat) (hb : ∃ k pl, w8.heap[b]? = some (.cells #[.int .i64 k, .int .i64 pl] 103 (0, 0))) => at_ne hb HC8.out.blk)
    clear hb8 hf8 HB6 HR
    obtain ⟨k0, k1, k2, k3, k4, k5, k6⟩ := HC8.out.cells
    obtain ⟨f0, f1, f2, f3, f4, f5, f6⟩ := HC8.out.free
    have hlt := HC8.out.lt
    have HB8 := Lib.hid (HC8.out.set6 (.slice a8 r8.length c8))
    have hs9 : IsSp (w8.setCell ⟨w.heap.size, 6, none⟩ (.slice a8 r8.length c8)) (.slice a8 r8.length c8) r8 := sp_set hs8 (fun b hb => Nat.ne_of_lt (Hf8.out b hb)) _ _
    have Hs9 := Lib.hid hs9; have Hl8 := Lib.hid hl8
    clear HC8 hs8 hs9 hl8
    rcases hc8 with ⟨rfl, hsz8, htx⟩ | ⟨he8, hr0, hno⟩
    · have Htx := Lib.hid htx; have Hsz8 := Lib.hid hsz8; clear htx hsz8
      go_wp2_with fail
      have hF := HB8.out.fill (.int .i64 3) (.string (cutA (cutB s))) (.int .i64 a) (.int .i64 b) (.int .i64 c) (.string (cutA (cutB (cutB (cutB s))))) (.slice a8 r8.length c8)
      have hsF := sp_fill Hs9.out (fun b hb => Hf8.out b hb) (.int .i64 3) (.string (cutA (cutB s))) (.int .i64 a) (.int .i64 b) (.int .i64 c) (.string (cutA (cutB (cutB (cutB s))))) (.slice a8 r8.length c8)
      obtain ⟨WF, hWF⟩ : ∃ x, x = ((((((((w8.setCell ⟨w.heap.size, 6, none⟩ (.slice a8 r8.length c8)).setCell ⟨w.heap.size, 0, none⟩ (.int .i64 3)).setCell ⟨w.heap.size, 1, none⟩ (.string (cutA (cutB s)))).setCell ⟨w.heap.size, 2, none⟩ (.int .i64 a)).setCell ⟨w.heap.size, 3, none⟩ (.int .i64 b)).setCell ⟨w.heap.size, 4, none⟩ (.int .i64 c)).setCell ⟨w.heap.size, 5, none⟩ (.string (cutA (cutB (cutB (cutB s)))))).setCell ⟨w.heap.size, 6, none⟩ (.slice a8 r8.length c8)) := ⟨_, rfl⟩
      rw [← hWF] at hF hsF ⊢
      clear hWF
      obtain ⟨z0, z1, z2, z3, z4, z5, z6⟩ := hF.cells
      refine bodyPost_ret (v := .tuple #[.agg (encLine (⟨3, cutA (cutB s), a, b, c, cutA (cutB (cutB (cutB s))), r8, .slice a8 r8.length c8⟩ : LineM)).toArray, .nilIface]) (by simp [results, Tryz.results79, go_sem, encLine, z0, z1, z2, z3, z4, z5, z6]) rfl ⟨.inl ⟨(⟨3, cutA (cutB s), a, b, c, cutA (cutB (cutB (cutB s))), r8, .slice a8 r8.length c8⟩ : LineM), rfl, ⟨rfl, .inr (.inl ⟨.inr ⟨rfl, Hww.out⟩, Hok.out, rfl, Hsz8.out, Htx.out⟩)⟩, ⟨hsF, Hl8.out, Htx.out.can, by have := Hz.out; simp only; omega, by have := Hz.out; simp only; first | omega | exact Nat.zero_le _⟩, fun b hb => Nat.le_of_lt (Hf8.out b hb)⟩, hF.bel⟩
    · obtain ⟨t8, x8, rfl⟩ := err_iface he8
      have Hno := Lib.hid hno; have He8 := Lib.hid he8; clear hno he8
      subst hr0
      simp only [List.length_nil] at HB8 ⊢
      go_wp2_with fail
      have hF := HB8.out.fill (.int .i64 3) (.string (cutA (cutB s))) (.int .i64 a) (.int .i64 b) (.int .i64 c) (.string (cutA (cutB (cutB (cutB s))))) (.slice a8 0 c8)
      have heF := err_fill (u := .slice a8 0 c8) (k' := .int .i64 3) (n' := .string (cutA (cutB s))) (a' := .int .i64 a) (b' := .int .i64 b) (c' := .int .i64 c) (o' := .string (cutA (cutB (cutB (cutB s))))) (v' := .slice a8 0 c8) He8.out HX8.out
      obtain ⟨WF, hWF⟩ : ∃ x, x = ((((((((w8.setCell ⟨w.heap.size, 6, none⟩ (.slice a8 0 c8)).setCell ⟨w.heap.size, 0, none⟩ (.int .i64 3)).setCell ⟨w.heap.size, 1, none⟩ (.string (cutA (cutB s)))).setCell ⟨w.heap.size, 2, none⟩ (.int .i64 a)).setCell ⟨w.heap.size, 3, none⟩ (.int .i64 b)).setCell ⟨w.heap.size, 4, none⟩ (.int .i64 c)).setCell ⟨w.heap.size, 5, none⟩ (.string (cutA (cutB (cutB (cutB s)))))).setCell ⟨w.heap.size, 6, none⟩ (.slice a8 0 c8)) := ⟨_, rfl⟩
      rw [← hWF] at hF heF ⊢
      clear hWF
      obtain ⟨z0, z1, z2, z3, z4, z5, z6⟩ := hF.cells
      refine bodyPost_ret (v := .tuple #[.agg #[.int .i64 3, .string (cutA (cutB s)), .int .i64 a, .int .i64 b, .int .i64 c, .string (cutA (cutB (cutB (cutB s)))), .slice a8 0 c8], .iface t8 x8]) (by simp [results, Tryz.results79, go_sem, z0, z1, z2, z3, z4, z5, z6]) rfl ⟨.inr ⟨_, _, _, _, _, _, _, _, _, _, rfl, heF, fun x hx => Hno.out _ (dep_only Hw.out hx).2.1 (dep_only Hw.out hx).2.2⟩, hF.bel⟩
  · have Hw := Lib.hid hw; clear hw
    go_wp2_with fail
    refine (HCut.out (cutB s) _ Hz.out.2.1 HB2.out.bel).mono ?_
    rintro e w3 ⟨⟨b3, rfl⟩, hb3⟩
    have HC3 := Lib.hid (HB2.out.below hb3)
    clear k0 k1 k2 k3 k4 k5 k6 f0 f1 f2 f3 f4 f5 f6 hlt
    clear hb3 HB2
    obtain ⟨k0, k1, k2, k3, k4, k5, k6⟩ := HC3.out.cells
    obtain ⟨f0, f1, f2, f3, f4, f5, f6⟩ := HC3.out.free
    have hlt := HC3.out.lt
    have HB3 := Lib.hid (HC3.out.set1 (.string (cutA (cutB s))))
    clear HC3
    have HR := Lib.hid (range_any (cutB (cutB s)) _ (by have := Hz.out.2.2.1; omega) (HLT.out _ HB3.out.bel).1 (HLT.out _ HB3.out.bel).2)
    go_wp2_with fail
    refine HR.out.mono ?_
    rintro e w8 ⟨v8, r8, e8, rfl, hs8, hf8, hl8, hb8, hc8⟩
    obtain ⟨a8, c8, rfl, _, _⟩ := hs8.shape
    have HC8 := Lib.hid (HB3.out.below hb8)
    have Hf8 := Lib.hid (fun b hb => Nat.lt_of_lt_of_le HB3.out.lt (hf8 b hb))
    clear k0 k1 k2 k3 k4 k5 k6 f0 f1 f2 f3 f4 f5 f6 hlt
    have HX8 := Lib.hid (fun (b : Nat) (hb : ∃ k pl, w8.heap[b]? = some (.cells #[.int .i64 k, .int .i64 pl] 103 (0, 0))) => at_ne hb HC8.out.blk)
    clear hb8 hf8 HB3 HR
    obtain ⟨k0, k1, k2, k3, k4, k5, k6⟩ := HC8.out.cells
    obtain ⟨f0, f1, f2, f3, f4, f5, f6⟩ := HC8.out.free
    have hlt := HC8.out.lt
    have HB8 := Lib.hid (HC8.out.set6 (.slice a8 r8.length c8))
    have hs9 : IsSp (w8.setCell ⟨w.heap.size, 6, none⟩ (.slice a8 r8.length c8)) (.slice a8 r8.length c8) r8 := sp_set hs8 (fun b hb => Nat.ne_of_lt (Hf8.out b hb)) _ _
    have Hs9 := Lib.hid hs9; have Hl8 := Lib.hid hl8
    clear HC8 hs8 hs9 hl8
    rcases hc8 with ⟨rfl, hsz8, htx⟩ | ⟨he8, hr0, hno⟩
    · have Htx := Lib.hid htx; have Hsz8 := Lib.hid hsz8; clear htx hsz8
      go_wp2_with fail
      have hF := HB8.out.fill (.int .i64 4) (.string (cutA (cutB s))) (.int .i64 0) (.int .i64 0) (.int .i64 0) (.string ⟨#[]⟩) (.slice a8 r8.length c8)
      have hsF := sp_fill Hs9.out (fun b hb => Hf8.out b hb) (.int .i64 4) (.string (cutA (cutB s))) (.int .i64 0) (.int .i64 0) (.int .i64 0) (.string ⟨#[]⟩) (.slice a8 r8.length c8)
      obtain ⟨WF, hWF⟩ : ∃ x, x = ((((((((w8.setCell ⟨w.heap.size, 6, none⟩ (.slice a8 r8.length c8)).setCell ⟨w.heap.size, 0, none⟩ (.int .i64 4)).setCell ⟨w.heap.size, 1, none⟩ (.string (cutA (cutB s)))).setCell ⟨w.heap.size, 2, none⟩ (.int .i64 0)).setCell ⟨w.heap.size, 3, none⟩ (.int .i64 0)).setCell ⟨w.heap.size, 4, none⟩ (.int .i64 0)).setCell ⟨w.heap.size, 5, none⟩ (.string ⟨#[]⟩)).setCell ⟨w.heap.size, 6, none⟩ (.slice a8 r8.length c8)) := ⟨_, rfl⟩
      rw [← hWF] at hF hsF ⊢
      clear hWF
      obtain ⟨z0, z1, z2, z3, z4, z5, z6⟩ := hF.cells
      refine bodyPost_ret (v := .tuple #[.agg (encLine (⟨4, cutA (cutB s), 0, 0, 0, ⟨#[]⟩, r8, .slice a8 r8.length c8⟩ : LineM)).toArray, .nilIface]) (by simp [results, Tryz.results79, go_sem, encLine, z0, z1, z2, z3, z4, z5, z6]) rfl ⟨.inl ⟨(⟨4, cutA (cutB s), 0, 0, 0, ⟨#[]⟩, r8, .slice a8 r8.length c8⟩ : LineM), rfl, ⟨rfl, .inr (.inr ⟨rfl, Hw.out, rfl, rfl, rfl, rfl, Hsz8.out, Htx.out⟩)⟩, ⟨hsF, Hl8.out, Htx.out.can, by have := Hz.out; simp only; omega, by have := Hz.out; simp only; first | omega | exact Nat.zero_le _⟩, fun b hb => Nat.le_of_lt (Hf8.out b hb)⟩, hF.bel⟩
    · obtain ⟨t8, x8, rfl⟩ := err_iface he8
      have Hno := Lib.hid hno; have He8 := Lib.hid he8; clear hno he8
      subst hr0
      simp only [List.length_nil] at HB8 ⊢
      go_wp2_with fail
      have hF := HB8.out.fill (.int .i64 4) (.string (cutA (cutB s))) (.int .i64 0) (.int .i64 0) (.int .i64 0) (.string ⟨#[]⟩) (.slice a8 0 c8)
      have heF := err_fill (u := .slice a8 0 c8) (k' := .int .i64 4) (n' := .string (cutA (cutB s))) (a' := .int .i64 0) (b' := .int .i64 0) (c' := .int .i64 0) (o' := .string ⟨#[]⟩) (v' := .slice a8 0 c8) He8.out HX8.out
      obtain ⟨WF, hWF⟩ : ∃ x, x = ((((((((w8.setCell ⟨w.heap.size, 6, none⟩ (.slice a8 0 c8)).setCell ⟨w.heap.size, 0, none⟩ (.int .i64 4)).setCell ⟨w.heap.size, 1, none⟩ (.string (cutA (cutB s)))).setCell ⟨w.heap.size, 2, none⟩ (.int .i64 0)).setCell ⟨w.heap.size, 3, none⟩ (.int .i64 0)).setCell ⟨w.heap.size, 4, none⟩ (.int .i64 0)).setCell ⟨w.heap.size, 5, none⟩ (.string ⟨#[]⟩)).setCell ⟨w.heap.size, 6, none⟩ (.slice a8 0 c8)) := ⟨_, rfl⟩
      rw [← hWF] at hF heF ⊢
      clear hWF
      obtain ⟨z0, z1, z2, z3, z4, z5, z6⟩ := hF.cells
      refine bodyPost_ret (v := .tuple #[.agg #[.int .i64 4, .string (cutA (cutB s)), .int .i64 0, .int .i64 0, .int .i64 0, .string ⟨#[]⟩, .slice a8 0 c8], .iface t8 x8]) (by simp [results, Tryz.results79, go_sem, z0, z1, z2, z3, z4, z5, z6]) rfl ⟨.inr ⟨_, _, _, _, _, _, _, _, _, _, rfl, heF, fun x hx => Hno.out _ (root_only Hw.out hx).1 (root_only Hw.out hx).2⟩, hF.bel⟩
  · have H1 := Lib.hid n1; have H2 := Lib.hid n2; have H3 := Lib.hid n3; have H4 := Lib.hid n4; clear n1 n2 n3 n4
    go_wp2_with fail
    have hF := HB2.out.fill (.int .i64 0) (.string ⟨#[]⟩) (.int .i64 0) (.int .i64 0) (.int .i64 0) (.string ⟨#[]⟩) (.slice none 0 0)
    obtain ⟨WF, hWF⟩ : ∃ x, x = ((((((((w2.setCell ⟨w.heap.size, 0, none⟩ (.int .i64 K)).setCell ⟨w.heap.size, 0, none⟩ (.int .i64 0)).setCell ⟨w.heap.size, 1, none⟩ (.string ⟨#[]⟩)).setCell ⟨w.heap.size, 2, none⟩ (.int .i64 0)).setCell ⟨w.heap.size, 3, none⟩ (.int .i64 0)).setCell ⟨w.heap.size, 4, none⟩ (.int .i64 0)).setCell ⟨w.heap.size, 5, none⟩ (.string ⟨#[]⟩)).setCell ⟨w.heap.size, 6, none⟩ (.slice none 0 0)) := ⟨_, rfl⟩
    rw [← hWF] at hF ⊢
    clear hWF
    obtain ⟨z0, z1, z2, z3, z4, z5, z6⟩ := hF.cells
    refine bodyPost_ret (v := .tuple #[.agg #[.int .i64 0, .string ⟨#[]⟩, .int .i64 0, .int .i64 0, .int .i64 0, .string ⟨#[]⟩, .slice none 0 0], .iface 43 (.int .i64 3)]) (by simp [results, Tryz.results79, go_sem, z0, z1, z2, z3, z4, z5, z6]) rfl ⟨.inr ⟨_, _, _, _, _, _, _, _, _, _, rfl, .inl ⟨3, rfl⟩, no_word H1.out H2.out H3.out H4.out⟩, hF.bel⟩
set_option maxRecDepth 100000 in
set_option maxHeartbeats 8000000 in
theorem parseLine_any (s : ByteArray) (w : World) (hs : s.size ≤ 20000) (hL : LaidR w) (hT : TypeLaid w) : Calls Tryz.prog 47 #[.string s] w (LineP s w) := by
  obtain ⟨W0, hW0⟩ : ∃ W0, W0 = w.alloc (.cells #[.int .i64 0, .string ⟨#[]⟩, .int .i64 0, .int .i64 0, .int .i64 0, .string ⟨#[]⟩, .slice none 0 0] 51) := ⟨_, rfl⟩
  have hB0 : LB w W0 (.int .i64 0) (.string ⟨#[]⟩) (.int .i64 0) (.int .i64 0) (.int .i64 0) (.string ⟨#[]⟩) (.slice none 0 0) := by rw [hW0]; exact ⟨heap_at rfl, (Below.refl _ _).alloc (Nat.le_refl _) _⟩
  have HP := Lib.hid (line_any s W0 hs (hL.below hB0.bel) (hT.below hB0.bel))
  have HB0 := Lib.hid hB0
  clear hB0 hL hT hs
  go_enter Tryz.func47, Tryz.ntmps47
  go_upto_region 1 with fail
  rw [← hW0]
  clear hW0
  go_wp2_with fail
  refine HP.out.mono ?_
  rintro e w1 ⟨⟨x, rfl, hx, hin, hfr⟩ | ⟨kd, nm, a, b, c, ot, va, vn, vc, er, rfl, her, hno⟩, hb1⟩
  · have hlt0 := HB0.out.lt
    obtain ⟨kd, nm, a, b, c, ot, rg, rv⟩ := x
    have hsp := hin.rng
    simp only at hsp
    obtain ⟨ar, cr, rfl, _, _⟩ := hsp.shape
    simp only [encLine]
    obtain ⟨w2, hw2⟩ : ∃ x, x = w1.alloc (.cells #[.int .i64 kd, .string nm, .int .i64 a, .int .i64 b, .int .i64 c, .string ot, .slice ar rg.length cr] 51) := ⟨_, rfl⟩
    have hb2 : Below w1.heap.size w1 w2 := by rw [hw2]; exact (Below.refl _ _).alloc (Nat.le_refl _) _
    have hk2 : w2.heap[w1.heap.size]? = some (.cells #[.int .i64 kd, .string nm, .int .i64 a, .int .i64 b, .int .i64 c, .string ot, .slice ar rg.length cr] 51 (0, 0)) := by rw [hw2]; exact heap_at rfl
    have hB2 := (HB0.out.below hb1).below hb2
    have Hx := Lib.hid hx; have Hin := Lib.hid (hin.below hb2); have Hfr := Lib.hid (fun q (hq : (Value.slice ar rg.length cr).ownBlock = some q) => Nat.lt_of_lt_of_le hlt0 (hfr q hq)); have HB2 := Lib.hid hB2
    obtain ⟨y0, y1, y2, y3, y4, y5, y6⟩ := cells7 hk2
    obtain ⟨k0, k1, k2, k3, k4, k5, k6⟩ := hB2.cells
    obtain ⟨f0, f1, f2, f3, f4, f5, f6⟩ := hB2.free
    have hlt := hB2.lt
    clear hx hin hfr hb1 hb2 hk2 hB2 HB0 HP hlt0 hsp
    go_upto_region 2 with fail
    rw [← hw2]
    clear hw2
    go_wp2_with fail
    have hF := HB2.out.fill (.int .i64 kd) (.string nm) (.int .i64 a) (.int .i64 b) (.int .i64 c) (.string ot) (.slice ar rg.length cr)
    have hsF := sp_fill Hin.out.rng (fun b hb => Hfr.out b hb) (.int .i64 kd) (.string nm) (.int .i64 a) (.int .i64 b) (.int .i64 c) (.string ot) (.slice ar rg.length cr)
    obtain ⟨WF, hWF⟩ : ∃ x, x = (((((((w2.setCell ⟨w.heap.size, 0, none⟩ (.int .i64 kd)).setCell ⟨w.heap.size, 1, none⟩ (.string nm)).setCell ⟨w.heap.size, 2, none⟩ (.int .i64 a)).setCell ⟨w.heap.size, 3, none⟩ (.int .i64 b)).setCell ⟨w.heap.size, 4, none⟩ (.int .i64 c)).setCell ⟨w.heap.size, 5, none⟩ (.string ot)).setCell ⟨w.heap.size, 6, none⟩ (.slice ar rg.length cr)) := ⟨_, rfl⟩
    rw [← hWF] at hF hsF ⊢
    clear hWF
    obtain ⟨z0, z1, z2, z3, z4, z5, z6⟩ := hF.cells
    exact bodyPost_ret (v := .tuple #[.agg (encLine (⟨kd, nm, a, b, c, ot, rg, .slice ar rg.length cr⟩ : LineM)).toArray, .nilIface]) (by simp [results, Tryz.results47, go_sem, encLine, z0, z1, z2, z3, z4, z5, z6]) rfl ⟨.inl ⟨⟨kd, nm, a, b, c, ot, rg, .slice ar rg.length cr⟩, rfl, Hx.out, ⟨hsF, Hin.out.few, Hin.out.can, Hin.out.sz1, Hin.out.sz2⟩, fun q hq => Nat.le_of_lt (Hfr.out q hq)⟩, hF.bel⟩
  · obtain ⟨t, x, rfl⟩ := err_iface her
    obtain ⟨w2, hw2⟩ : ∃ x, x = w1.alloc (.cells #[.int .i64 kd, .string nm, .int .i64 a, .int .i64 b, .int .i64 c, .string ot, .slice va vn vc] 51) := ⟨_, rfl⟩
    have hb2 : Below w1.heap.size w1 w2 := by rw [hw2]; exact (Below.refl _ _).alloc (Nat.le_refl _) _
    have hB2 := (HB0.out.below hb1).below hb2
    have Hno := Lib.hid hno; have Her := Lib.hid (her.below hb2); have HB2 := Lib.hid hB2
    have hX : ∀ q, (∃ k pl, w2.heap[q]? = some (.cells #[.int .i64 k, .int .i64 pl] 103 (0, 0))) → q ≠ w.heap.size := fun q hq => at_ne hq hB2.blk
    have HX := Lib.hid hX
    obtain ⟨k0, k1, k2, k3, k4, k5, k6⟩ := hB2.cells
    obtain ⟨f0, f1, f2, f3, f4, f5, f6⟩ := hB2.free
    have hlt := hB2.lt
    clear hno her hb1 hb2 hB2 HB0 HP hX
    go_upto_region 2 with fail
    rw [← hw2]
    clear hw2
    go_wp2_with fail
    have hF := HB2.out.fill (.int .i64 0) (.string ⟨#[]⟩) (.int .i64 0) (.int .i64 0) (.int .i64 0) (.string ⟨#[]⟩) (.slice none 0 0)
    have heF := err_fill7 (k' := .int .i64 0) (n' := .string ⟨#[]⟩) (a' := .int .i64 0) (b' := .int .i64 0) (c' := .int .i64 0) (o' := .string ⟨#[]⟩) (v' := .slice none 0 0) Her.out HX.out
    obtain ⟨WF, hWF⟩ : ∃ x, x = (((((((w2.setCell ⟨w.heap.size, 0, none⟩ (.int .i64 0)).setCell ⟨w.heap.size, 1, none⟩ (.string ⟨#[]⟩)).setCell ⟨w.heap.size, 2, none⟩ (.int .i64 0)).setCell ⟨w.heap.size, 3, none⟩ (.int .i64 0)).setCell ⟨w.heap.size, 4, none⟩ (.int .i64 0)).setCell ⟨w.heap.size, 5, none⟩ (.string ⟨#[]⟩)).setCell ⟨w.heap.size, 6, none⟩ (.slice none 0 0)) := ⟨_, rfl⟩
    rw [← hWF] at hF heF ⊢
    clear hWF
    obtain ⟨z0, z1, z2, z3, z4, z5, z6⟩ := hF.cells
    exact bodyPost_ret (v := .tuple #[.agg #[.int .i64 0, .string ⟨#[]⟩, .int .i64 0, .int .i64 0, .int .i64 0, .string ⟨#[]⟩, .slice none 0 0], .iface t x]) (by simp [results, Tryz.results47, go_sem, z0, z1, z2, z3, z4, z5, z6]) rfl ⟨.inr ⟨_, _, _, _, _, _, _, _, _, _, rfl, heF, Hno.out⟩, hF.bel⟩

end Go.Proofs.YtheemhelioendaaGreatDoor
namespace Go.Proofs.YtheemhelioendaaGreatDoor
open Go.RowKit
set_option linter.unusedVariables false

/-- The row's texts. -/
def strF (xs : List (List UInt8)) : List Value := xs.map fun x => .string (wordB x)
theorem infoStrS : (Tryz.prog.info? 9).map (fun i => (i.zero, i.size, i.bytes)) = some (some (.string ⟨#[]⟩), 1, 16) := by kernel_rfl
theorem under_strs : Tryz.prog.underlying 113 = some (.slice 9) := by kernel_rfl
def OutS (w : World) (base : Nat) (v : Value) (xs : List (List UInt8)) : Prop := w.ownsRow base 9 1 v xs.length (strF xs)
theorem OutS.nil (w : World) (base : Nat) : OutS w base (.slice none 0 0) [] := ⟨rfl, .inl ⟨rfl, rfl⟩⟩
theorem OutS.keep {w w' : World} {base : Nat} {v : Value} {xs : List (List UInt8)} (h : OutS w base v xs) (hk : ∀ b, v.ownBlock = some b → w'.heap[b]? = w.heap[b]?) : OutS w' base v xs := by
  obtain ⟨h0, h1 | ⟨g, cap, cur, e, h1, h2, h3⟩⟩ := h
  · exact ⟨h0, .inl h1⟩
  · exact ⟨h0, .inr ⟨g, cap, cur, e, h1, (hk g (by rw [e]; rfl)).trans h2, h3⟩⟩
theorem OutS.below {w w' : World} {base : Nat} {v : Value} {xs : List (List UInt8)} (h : OutS w base v xs) (hb : Below w.heap.size w w') : OutS w' base v xs :=
  h.keep (fun b e => hb.block b (World.ownsRow.lt h b e).2)
theorem OutS.shape {w : World} {base : Nat} {v : Value} {xs : List (List UInt8)} (h : OutS w base v xs) : ∃ a c, v = .slice a xs.length c := by
  obtain ⟨h0, ⟨h1, h2⟩ | ⟨g, cap, cur, e, h1, h2, h3, h4, h5⟩⟩ := h
  · exact ⟨none, 0, by rw [h2]; exact h1⟩
  · exact ⟨some ⟨g, 0, none⟩, cap, e⟩
theorem OutS.row {w : World} {base : Nat} {v : Value} {xs : List (List UInt8)} (h : OutS w base v xs) (hne : 0 < xs.length) :
    ∃ g c, v = .slice (some ⟨g, 0, none⟩) xs.length c ∧ g < w.heap.size ∧ xs.length ≤ c ∧ ∀ (j : Nat) x, (xs.map wordB)[j]? = some x → w.cell? ⟨g, 0 + j, none⟩ = some (.string x) := by
  obtain ⟨h0, ⟨h1, h2⟩ | ⟨g, cap, cur, e, h1, h2, h3, h4, h5, h6⟩⟩ := h
  · omega
  · refine ⟨g, cap, e, (Array.getElem?_eq_some_iff.1 h2).1, h3, fun j x hx => ?_⟩
    rw [cell_of_row w g _ cur _ _ h2, Nat.zero_add]
    have hj : j < xs.length := by
      have := (List.getElem?_eq_some_iff.1 hx).1
      simpa using this
    have e1 : (cur.toList.take (xs.length * 1))[j]? = (strF xs)[j]? := by rw [h6]
    rw [List.getElem?_take_of_lt (by omega), Array.getElem?_toList] at e1
    rw [e1]
    unfold strF
    rw [List.getElem?_map] at hx ⊢
    cases hq : xs[j]? with
    | none => rw [hq] at hx; cases hx
    | some y => rw [hq] at hx; cases hx; rfl
set_option maxHeartbeats 1000000 in
/-- An append of one text. -/
theorem wpList_append_str {W : World} {ops : Array Oper} {rest : List Oper} {o : Oper} {a : Act} {Q : Exit → Act → World → Prop} (hgd : o.guard = none) (s x : Operand)
    (ho : o.op = .call { callee := .builtin .append, args := #[s, x], argTypes := #[113, 113] })
    (base : Nat) (v : Value) (xs : List (List UInt8)) (hs : a.eval s = v) (hr : OutS W base v xs) (y : List UInt8) (yb : ByteArray) (hy : yb = wordB y)
    (q : Nat) (hq : q = W.heap.size) (hx : a.eval x = .slice (some ⟨q, 0, none⟩) 1 1) (hn : xs.length + 1 ≤ 1000000) (hbase : base ≤ W.heap.size)
    (h : ∀ v' w', OutS w' base v' (xs ++ [y]) → Below base W w' → (∀ k, k < W.heap.size → v.ownBlock ≠ some k → w'.heap[k]? = W.heap[k]?) → wpList Tryz.prog ops Q rest (a.put o.dst v') w') : wpList Tryz.prog ops Q (o :: rest) a (W.alloc (.cells #[.string yb] 9)) := by
  subst hq hy
  obtain ⟨i0, hi0, hz0, hz1, hz2⟩ := info_parts infoStrS
  have hal : Below W.heap.size W (W.alloc (.cells #[.string (wordB y)] 9)) := (Below.refl _ _).alloc (Nat.le_refl _) _
  have hb : (W.alloc (.cells #[.string (wordB y)] 9)).heap[W.heap.size]? = some (.cells #[.string (wordB y)] 9 (0, 0)) := heap_at rfl
  have hcell : ∀ (j : Nat) (u' : Value), [Value.string (wordB y)][j]? = some u' → (W.alloc (.cells #[.string (wordB y)] 9)).cell? ((⟨W.heap.size, 0, none⟩ : Addr).add j) = some u' := by
    intro j u' hu
    rw [show (⟨W.heap.size, 0, none⟩ : Addr).add j = ⟨W.heap.size, j, none⟩ from by simp [Addr.add]; exact fun h => h.symm, cell_of_row _ _ _ _ _ _ hb]
    simpa using hu
  have hr' : OutS (W.alloc (.cells #[.string (wordB y)] 9)) base v xs := hr.below hal
  refine wpList_append_own _ hgd s x 113 ho base 9 i0 (.string ⟨#[]⟩) 1 16 under_strs hi0 hz0 hz1 hz2 rfl (by decide) v xs.length _ hs hr' ⟨W.heap.size, 0, none⟩ 1 1 [.string (wordB y)] hx rfl hcell (fun u hu => by
    simp at hu; subst hu; rfl) (by simp only [maxLen]; omega) (by omega) (by simp; omega) (fun v' w' h2 h3 _ => ?_)
  refine h v' w' ?_ ?_ (fun k hk hne => (h3.block k (by simp; omega) (fun e => hne e.symm)).trans (hal.block k hk))
  · unfold OutS strF
    rw [List.map_append, List.length_append]
    exact h2
  · exact (hal.mono hbase).grown h3 (by simp; omega) (fun j hj => (World.ownsRow.lt hr' j hj).1)

set_option maxHeartbeats 1000000 in
/-- The same at a step of a region that draws its order. -/
theorem step_append_str {W : World} {ops : Array Oper} {o : Oper} {a : Act} {K : Act → World → Prop} {Q : Exit → Act → World → Prop} {E : Prop} (hgd : o.guard = none) (s x : Operand)
    (ho : o.op = .call { callee := .builtin .append, args := #[s, x], argTypes := #[113, 113] })
    (base : Nat) (v : Value) (xs : List (List UInt8)) (hs : a.eval s = v) (hr : OutS W base v xs) (y : List UInt8) (yb : ByteArray) (hy : yb = wordB y)
    (q : Nat) (hq : q = W.heap.size) (hx : a.eval x = .slice (some ⟨q, 0, none⟩) 1 1) (hn : xs.length + 1 ≤ 1000000) (hbase : base ≤ W.heap.size)
    (h : ∀ g cap w', OutS w' base (.slice (some ⟨g, 0, none⟩) (xs.length + 1) cap) (xs ++ [y]) → Below base W w' → (∀ k, k < W.heap.size → v.ownBlock ≠ some k → w'.heap[k]? = W.heap[k]?) → K (a.put o.dst (.slice (some ⟨g, 0, none⟩) (xs.length + 1) cap)) w') :
    if Region.wanted o (yielded ops a.tmps) = true then Oper.wp Tryz.prog o a (W.alloc (.cells #[.string yb] 9)) K Q else E := by
  subst hq hy
  obtain ⟨i0, hi0, hz0, hz1, hz2⟩ := info_parts infoStrS
  have hal : Below W.heap.size W (W.alloc (.cells #[.string (wordB y)] 9)) := (Below.refl _ _).alloc (Nat.le_refl _) _
  have hb : (W.alloc (.cells #[.string (wordB y)] 9)).heap[W.heap.size]? = some (.cells #[.string (wordB y)] 9 (0, 0)) := heap_at rfl
  have hr' : OutS (W.alloc (.cells #[.string (wordB y)] 9)) base v xs := hr.below hal
  refine step_append_lies _ hgd s x 113 ho base 9 i0 (.string ⟨#[]⟩) 1 16 under_strs hi0 hz0 hz1 hz2 rfl (by decide) v xs.length _ hs hr' ⟨W.heap.size, 0, none⟩ 1 1 [.string (wordB y)] hx rfl (World.news_of_block hb) (fun u hu => by
    simp at hu; subst hu; rfl) (by decide) (by simp only [maxLen]; omega) (by omega) (by simp; omega) _ rfl (fun g cap w' h2 h3 _ _ => ?_)
  refine h g cap w' ?_ ?_ (fun k hk hne => (h3.block k (by simp; omega) (fun e => hne e.symm)).trans (hal.block k hk))
  · unfold OutS strF
    rw [List.map_append, List.length_append]
    exact h2
  · exact (hal.mono hbase).grown h3 (by simp; omega) (fun j hj => (World.ownsRow.lt hr' j hj).1)

theorem builderX : Builder.Extra Tryz.prog Tryz.lays156_ren where
  sizeBuilder := by kernel_rfl
  liesBuilder := by kernel_rfl
  t5 := Tryz.underlying5
  a5 := Tryz.isAgg5
  z5 := Tryz.sizeOf5
  v5 := Tryz.zeroValue5
  infoByte := by kernel_rfl
  cellsByte := by kernel_rfl
  sizeByte := by kernel_rfl
  neB5 := by decide
/-- strings.Join of a row that the call owns, not empty. -/
theorem join_any (base : Nat) (v : Value) (xs : List (List UInt8)) (sep : List UInt8) (w : World) (h : OutS w base v xs) (hne : 0 < xs.length) (hn : xs.length ≤ 1000000) (hlen : (Lib.join xs sep).length ≤ 140737488355328) :
    Calls Tryz.prog 55 #[v, .string (wordB sep)] w fun e w' => e = .returned (.string (wordB (Lib.join xs sep))) ∧ Below w.heap.size w w' := by
  obtain ⟨g, c, rfl, hg, hc, hcells⟩ := h.row hne
  have em : (xs.map wordB).map (·.data.toList) = xs := by simp [List.map_map, Function.comp_def, wordB_data]
  have := Any.strings_Join Tryz.lays156 builderX g 0 c (xs.map wordB) (wordB sep) w hcells hg (by simp; omega) (by simpa using hc) (by rw [em, wordB_data]; exact hlen)
  rw [em, wordB_data, List.length_map] at this
  exact this
end Go.Proofs.YtheemhelioendaaGreatDoor
namespace Go.Proofs.YtheemhelioendaaGreatDoor
open Go.RowKit Go.Shelf
set_option linter.unusedVariables false

theorem laysWS : Lays.n166 Tryz.prog Tryz.lays156_ren := { Tryz.lays156 with }
theorem laysSt : Lays.n169 Tryz.prog Tryz.lays156_ren := { Tryz.lays156 with }
def renWB : Ren := ⟨fun | 167 => 51 | n => Tryz.lays156_ren.f n, Tryz.lays156_ren.t, Tryz.lays156_ren.g⟩
theorem laysWB : Lays.n167 Tryz.prog renWB where
  mixed := Tryz.lays156.mixed
  f167 := Tryz.func51.trans (congrArg some (by kernel_rfl))
  f240 := Tryz.func85.trans (congrArg some (by kernel_rfl))
  f276 := Tryz.lays156.f276
  t0 := Tryz.lays156.t0
  a0 := Tryz.lays156.a0
  z0 := Tryz.lays156.z0
  v0 := Tryz.lays156.v0
  t4 := Tryz.lays156.t4
  a4 := Tryz.lays156.a4
  z4 := Tryz.lays156.z4
  v4 := Tryz.lays156.v4
  t5 := Tryz.underlying5
  a5 := Tryz.isAgg5
  z5 := Tryz.sizeOf5
  v5 := Tryz.zeroValue5
  t9 := Tryz.lays156.t9
  a9 := Tryz.lays156.a9
  z9 := Tryz.lays156.z9
  v9 := Tryz.lays156.v9
  t20 := Tryz.lays156.t20
  a20 := Tryz.lays156.a20
  z20 := Tryz.lays156.z20
  v20 := Tryz.lays156.v20
  t37 := Tryz.lays156.t37
  a37 := Tryz.lays156.a37
  z37 := Tryz.lays156.z37
  v37 := Tryz.lays156.v37
  t70 := Tryz.lays156.t70
  a70 := Tryz.lays156.a70
  z70 := Tryz.lays156.z70
  v70 := Tryz.lays156.v70
  t72 := Tryz.lays156.t72
  a72 := Tryz.lays156.a72
  z72 := Tryz.lays156.z72
  v72 := Tryz.lays156.v72
  t75 := Tryz.lays156.t75
  a75 := Tryz.lays156.a75
  z75 := Tryz.lays156.z75
  v75 := Tryz.lays156.v75
  t164 := Tryz.lays156.t164
  a164 := Tryz.lays156.a164
  z164 := Tryz.lays156.z164
  v164 := Tryz.lays156.v164
theorem builderXB : Builder.Extra Tryz.prog renWB where
  sizeBuilder := by kernel_rfl
  liesBuilder := by kernel_rfl
  t5 := Tryz.underlying5
  a5 := Tryz.isAgg5
  z5 := Tryz.sizeOf5
  v5 := Tryz.zeroValue5
  infoByte := by kernel_rfl
  cellsByte := by kernel_rfl
  sizeByte := by kernel_rfl
  neB5 := by decide
/-- A builder in block b that holds l. -/
def BB (B b : Nat) (l : List UInt8) (w : World) : Prop := Lib.IsBuilderF 109 5 B b (Lib.byteCells l) w
abbrev KeptB (b : Nat) (w w' : World) : Prop := Lib.OthersKept 5 (some b) w w'
theorem wstr_any (B b : Nat) (l : List UInt8) (s : ByteArray) (w : World) (h : BB B b l w) (hlen : l.length + s.size ≤ 140737488355328) (hBw : B ≤ w.heap.size) :
    Calls Tryz.prog 49 #[.pointer (some ⟨b, 0, none⟩), .string s] w fun e w' => e = .returned (.tuple #[.int .i64 s.size, .nilIface]) ∧ BB B b (l ++ s.data.toList) w' ∧ Below B w w' ∧ KeptB b w w' := by
  refine (Any.Builder_WriteString_k laysWS builderX B b (Lib.byteCells l) s w h (by rw [Lib.byteCells_length]; exact hlen) hBw).mono ?_
  rintro e w' ⟨h1, h2, h3, h4⟩
  refine ⟨h1, .inr ?_, h3, h4⟩
  rw [Lib.byteCells_append]
  exact h2
theorem wbyte_any (B b : Nat) (l : List UInt8) (c : UInt8) (w : World) (h : BB B b l w) (hlen : l.length + 1 ≤ 140737488355328) (hBw : B ≤ w.heap.size) :
    Calls Tryz.prog 51 #[.pointer (some ⟨b, 0, none⟩), .int .u8 c.toNat] w fun e w' => e = .returned .nilIface ∧ BB B b (l ++ [c]) w' ∧ Below B w w' ∧ KeptB b w w' := by
  refine (Any.Builder_WriteByte_k laysWB builderXB B b (Lib.byteCells l) c.toNat w h (by rw [Lib.byteCells_length]; exact hlen) hBw).mono ?_
  rintro e w' ⟨h1, h2, h3, h4⟩
  refine ⟨h1, .inr ?_, h3, h4⟩
  rw [Lib.byteCells_append]
  exact h2
theorem bstr_any (B b : Nat) (l : List UInt8) (w : World) (h : BB B b l w) (hBw : B ≤ w.heap.size) :
    Calls Tryz.prog 52 #[.pointer (some ⟨b, 0, none⟩)] w fun e w' => e = .returned (.string (wordB l)) ∧ Below B w w' := by
  refine (Any.Builder_String_any_k laysSt builderX B b l w h hBw).mono ?_
  rintro e w' ⟨h1, h2, h3, h4⟩
  exact ⟨h1, h3⟩
end Go.Proofs.YtheemhelioendaaGreatDoor
namespace Go.Proofs.YtheemhelioendaaGreatDoor
open Go.RowKit
set_option linter.unusedVariables false

set_option maxHeartbeats 1000000 in
/-- version(n). -/
theorem version_any (n : Int) (w : World) (h : 0 ≤ n ∧ n ≤ pastV) : Calls Tryz.prog 54 #[.int .i64 n] w fun e w' => e = .returned (.agg #[.int .i64 (n / 1000 / 1000), .int .i64 (n / 1000 % 1000), .int .i64 (n % 1000)]) ∧ Below w.heap.size w w' := by
  unfold pastV at h
  obtain ⟨h1, h2⟩ := h
  have e1 : 0 ≤ n / 1000 := by omega
  have e2 : n / 1000 ≤ 1000000 := by omega
  have e3 : 0 ≤ n / 1000 / 1000 := by omega
  have e4 : n / 1000 / 1000 ≤ 1000 := by omega
  go_enter Tryz.func54, Tryz.ntmps54
  go_wp2_with fail
  exact bodyPost_ret (v := .agg #[.int .i64 (n / 1000 / 1000), .int .i64 (n / 1000 % 1000), .int .i64 (n % 1000)]) (by simp [results, Tryz.results54, go_sem]) rfl ⟨rfl, (Below.refl _ _).alloc (Nat.le_refl _) _⟩
end Go.Proofs.YtheemhelioendaaGreatDoor
namespace Go.Proofs.YtheemhelioendaaGreatDoor
open Go.RowKit
set_option linter.unusedVariables false

theorem vtext_any (n : Int) (w : World) (h : 0 ≤ n ∧ n < pastV) (hL : LaidR w) : Calls Tryz.prog 50 #[.agg #[.int .i64 (n / 1000 / 1000), .int .i64 (n / 1000 % 1000), .int .i64 (n % 1000)]] w fun e w' => e = .returned (.string (wordB (vT n))) ∧ Below w.heap.size w w' :=
  text_any _ _ _ w (vT_ok h).1 hL
theorem spanT_a {s : Spn} (h : s.2 = s.1 + 1) : spanT s = vT s.1 := by unfold spanT spanW; rw [if_pos h, Lib.join_one]
theorem spanT_b {s : Spn} (h : ¬ s.2 = s.1 + 1) (h1 : 0 < s.1) (h2 : s.2 < pastV) : spanT s = [62, 61] ++ vT s.1 ++ [32, 60] ++ vT s.2 := by
  unfold spanT spanW; rw [if_neg h, if_pos ⟨h1, h2⟩]
  simp [Lib.join, List.intercalate, List.intersperse]
theorem spanT_c {s : Spn} (h : ¬ s.2 = s.1 + 1) (h1 : 0 < s.1) (h2 : ¬ s.2 < pastV) : spanT s = [62, 61] ++ vT s.1 := by
  unfold spanT spanW; rw [if_neg h, if_neg (fun q => h2 q.2), if_pos h1, Lib.join_one]
theorem spanT_d {s : Spn} (h : ¬ s.2 = s.1 + 1) (h1 : ¬ 0 < s.1) (h2 : s.2 < pastV) : spanT s = [60] ++ vT s.2 := by
  unfold spanT spanW; rw [if_neg h, if_neg (fun q => h1 q.1), if_neg h1, if_pos h2, Lib.join_one]
theorem spanT_e {s : Spn} (h : ¬ s.2 = s.1 + 1) (h1 : ¬ 0 < s.1) (h2 : ¬ s.2 < pastV) : spanT s = [97, 110, 121] := by
  unfold spanT spanW; rw [if_neg h, if_neg (fun q => h1 q.1), if_neg h1, if_neg h2, Lib.join_one]
theorem cat_wordB (o l : List UInt8) : wordB o ++ wordB l = wordB (o ++ l) := by
  apply ByteArray.ext
  apply Array.toList_inj.1
  unfold wordB
  simp
theorem lens_le {B : Nat} : ∀ {xs : List (List UInt8)}, (∀ x ∈ xs, x.length ≤ B) → Lib.lens xs ≤ xs.length * B
  | [], _ => by simp [Lib.lens]
  | x :: xs, h => by
    have h1 := h x (List.mem_cons_self ..)
    have h2 := lens_le (xs := xs) (fun y hy => h y (List.mem_cons_of_mem _ hy))
    simp only [Lib.lens, List.map_cons, List.sum_cons, List.length_cons, Nat.succ_mul] at h2 ⊢
    omega
theorem join_le {B : Nat} {xs : List (List UInt8)} {sep : List UInt8} (h : ∀ x ∈ xs, x.length ≤ B) : (Lib.join xs sep).length ≤ xs.length * (B + sep.length) := by
  cases xs with
  | nil => simp [Lib.join_nil]
  | cons x r =>
    have h1 := lens_le h
    rw [Lib.join_cons, List.length_append, Lib.joinTail_length]
    simp only [Lib.lens, List.map_cons, List.sum_cons, List.length_cons, Nat.succ_mul] at h1 ⊢
    rw [Nat.mul_add, Nat.mul_comm r.length sep.length]
    omega
set_option maxRecDepth 100000 in
set_option maxHeartbeats 8000000 in
theorem rtext_any (vs : Value) (l : List Spn) (w : World) (h : IsSp w vs l) (hc : Canon l) (hl : l.length ≤ 50000) (hL : LaidR w) : Calls Tryz.prog 23 #[.agg #[vs]] w fun e w' => e = .returned (.string (wordB (rangeT l))) ∧ Below w.heap.size w w' := by
  obtain ⟨a, c, rfl, hlc, hcm⟩ := h.shape
  have hal : Below w.heap.size w (w.alloc (.cells #[.slice a l.length c] 49)) := (Below.refl _ _).alloc (Nat.le_refl _) _
  have hblk : (w.alloc (.cells #[.slice a l.length c] 49)).heap[w.heap.size]? = some (.cells #[.slice a l.length c] 49 (0, 0)) := heap_at rfl
  have he := empty_any _ l (w.alloc (.cells #[.slice a l.length c] 49)) (h.below hal)
  have HL := Lib.hid (show ∀ w', Below w.heap.size w w' → LaidR w' from fun w' hw => hL.below hw)
  by_cases hne : l = []
  · subst hne
    rw [decide_eq_true rfl] at he
    have He := Lib.hid he; have Hal := Lib.hid hal
    clear he h hal hL hblk hc
    go_enter Tryz.func23, Tryz.ntmps23
    go_wp2_with fail
    refine He.out.mono ?_
    rintro e w1 ⟨rfl, hb1⟩
    have Hb1 := Lib.hid hb1; clear hb1
    go_wp2_with fail
    go_ret
    exact ⟨rfl, Hal.out.trans (Hb1.out.mono Hal.out.size)⟩
  · rw [decide_eq_false hne] at he
    have He := Lib.hid he; have Hal := Lib.hid hal; have H := Lib.hid h; have Hblk := Lib.hid hblk; have Hc := Lib.hid hc; have Hne := Lib.hid hne
    clear he h hal hL hblk hc hne
    go_enter Tryz.func23, Tryz.ntmps23
    go_wp2_with fail
    refine He.out.mono ?_
    rintro e w1 ⟨rfl, hb1⟩
    have hblk1 := (hb1.block _ (lt_of_block Hblk.out)).trans Hblk.out
    have d1 := cell_of_one hblk1
    have hB1 := Hal.out.trans (hb1.mono Hal.out.size)
    have hs1 := hb1.size
    rw [alloc_size] at hs1
    have HB1 := Lib.hid hB1; have Hs1 := Lib.hid hs1
    clear hb1 hblk1 hB1 hs1 He
    go_wp2_with fail
    go_loopg [3, 13] l.length (fun gk vo i wr => ∃ (k : Nat), k ≤ l.length ∧ gk = l.length - k ∧ i = .int .i64 k ∧ OutS wr (w.heap.size + 1) vo ((l.take k).map spanT) ∧ Below (w.heap.size + 1) w1 wr)
    case atStart => exact ⟨0, Nat.zero_le _, rfl, rfl, OutS.nil _ _, Below.refl _ _⟩
    case round =>
      obtain ⟨k, hk, rfl, rfl, hout, hbw⟩ := hrel
      obtain ⟨wo, rfl⟩ : ∃ y, y = wr := ⟨_, rfl⟩
      obtain ⟨ss, hss⟩ : ∃ ss, ss = (l.take k).map spanT := ⟨_, rfl⟩
      rw [← hss] at hout
      obtain ⟨ao, co, rfl⟩ := hout.shape
      have sbw := hbw.size
      have hsA := Hs1.out
      by_cases hlt : k < l.length
      ·
        -- ROUND
        have hbel := HB1.out.trans (hbw.mono (by omega))
        obtain ⟨g, rfl, hgl, c1, c2⟩ := (H.out.below hbel).get hlt
        have hW := Hc.out.ok l[k] (List.getElem_mem hlt)
        have htk : (l.take (k + 1)).map spanT = ss ++ [spanT l[k]] := by rw [hss, List.take_succ_eq_append_getElem hlt, List.map_append]; rfl
        generalize l[k] = s at c1 c2 hW htk
        have hlen : ss.length = k := by rw [hss, List.length_map, List.length_take]; omega
        have Htk := Lib.hid htk; have Hss := Lib.hid hss; clear htk hss
        obtain ⟨s1, s2⟩ := s
        obtain ⟨h1, h2, h3⟩ := hW
        unfold pastV at h3
        simp only at h1 h2 h3 c1 c2
        rw [hlen] at hout ⊢
        obtain ⟨wB, hwB⟩ : ∃ x, x = wo.alloc (.cells #[.int .i64 s1, .int .i64 s2] 115) := ⟨_, rfl⟩
        have hbB : Below wo.heap.size wo wB := by rw [hwB]; exact (Below.refl _ _).alloc (Nat.le_refl _) _
        have hkB : wB.heap[wo.heap.size]? = some (.cells #[.int .i64 s1, .int .i64 s2] 115 (0, 0)) := by rw [hwB]; exact heap_at rfl
        have hszB : wB.heap.size = wo.heap.size + 1 := by rw [hwB, alloc_size]
        have HL2 := Lib.hid (show ∀ w', Below wo.heap.size wo w' → LaidR w' from fun w' hw => HL.out _ (hbel.trans (hw.mono hbel.size)))
        have HBB := Lib.hid hbB; have HkB := Lib.hid hkB; have HszB := Lib.hid hszB; have Hbw := Lib.hid hbw; have Hout := Lib.hid hout; have Hlen := Lib.hid hlen
        clear hbB hkB hszB hbw hout hlen hbel
        have z1 := cell_of_row wB wo.heap.size 0 _ _ _ HkB.out
        have z2 := cell_of_row wB wo.heap.size 1 _ _ _ HkB.out
        simp only [List.getElem?_toArray, List.getElem?_cons_zero, List.getElem?_cons_succ] at z1 z2
        have b1 : 0 ≤ s1 ∧ s1 < pastV := ⟨h1, by unfold pastV; omega⟩
        have HV1 := Lib.hid (show ∀ w', Below wo.heap.size wo w' → Calls Tryz.prog 54 #[.int .i64 s1] w' fun e w'' => e = .returned (.agg #[.int .i64 (s1 / 1000 / 1000), .int .i64 (s1 / 1000 % 1000), .int .i64 (s1 % 1000)]) ∧ Below wo.heap.size wo w'' from fun w' hw => (version_any s1 w' ⟨b1.1, Int.le_of_lt b1.2⟩).mono fun e w'' q => ⟨q.1, hw.trans (q.2.mono hw.size)⟩)
        have HT1 := Lib.hid (show ∀ w', Below wo.heap.size wo w' → Calls Tryz.prog 50 #[.agg #[.int .i64 (s1 / 1000 / 1000), .int .i64 (s1 / 1000 % 1000), .int .i64 (s1 % 1000)]] w' fun e w'' => e = .returned (.string (wordB (vT s1))) ∧ Below wo.heap.size wo w'' from fun w' hw => (vtext_any s1 w' b1 (HL2.out w' hw)).mono fun e w'' q => ⟨q.1, hw.trans (q.2.mono hw.size)⟩)
        have l1 : (wordB (vT s1)).size ≤ 11 := verL_len (vT_ok b1).1
        clear b1
        by_cases hA : s2 = s1 + 1
        · have tA : (s2 == s1 + 1) = true := by rw [beq_iff_eq]; exact hA
          have HA := Lib.hid hA; clear hA
          go_upto_region 7 with fail
          rw [← hwB]
          clear hwB
          go_quiet (fail)
          go_wp2_with fail
          refine (HV1.out _ (below_drewN HBB.out nq)).mono ?_
          rintro e w2 ⟨rfl, hb2⟩
          have Hb2 := Lib.hid hb2; clear hb2
          go_wp2_with fail
          refine (HT1.out _ Hb2.out).mono ?_
          rintro e w3 ⟨rfl, hb3⟩
          have sz3 := hb3.size
          have HBo := Lib.hid hb3; clear hb3
          go_wp2_with (at_builtin; refine wpList_append_str rfl (.tmp 33) (.tmp 38) rfl (w.heap.size + 1) _ ss rfl (Hout.out.below HBo.out) (vT s1) _ (rfl) _ rfl rfl (by rw [Hlen.out]; omega) (by omega) ?_; intro v9 w9 ho9 hb9 _; have Ho9 := Lib.hid ho9; have Hb9 := Lib.hid hb9; clear ho9 hb9)
          go_roundg (l.length - (k + 1))
          case measure => omega
          case rel => exact ⟨k + 1, by omega, rfl, by go_num, by rw [Htk.out, spanT_a HA.out]; exact Ho9.out, (Hbw.out.trans (HBo.out.mono (by omega))).trans Hb9.out⟩
        · have tA : (s2 == s1 + 1) = false := by rw [beq_eq_false_iff_ne]; exact hA
          have HA := Lib.hid hA; clear hA
          by_cases hF : 0 < s1
          · by_cases hG : s2 < 1000000000
            · have b2 : 0 ≤ s2 ∧ s2 < pastV := ⟨by omega, by unfold pastV; exact hG⟩
              have b1 : 0 ≤ s1 ∧ s1 < pastV := ⟨by omega, by unfold pastV; omega⟩
              have HL3 := Lib.hid (show ∀ w', Below wB.heap.size wB w' → LaidR w' from fun w' hw => HL2.out w' (HBB.out.trans (hw.mono HBB.out.size)))
              have HX1 := Lib.hid (show ∀ w', Below wB.heap.size wB w' → Calls Tryz.prog 54 #[.int .i64 s1] w' fun e w'' => e = .returned (.agg #[.int .i64 (s1 / 1000 / 1000), .int .i64 (s1 / 1000 % 1000), .int .i64 (s1 % 1000)]) ∧ Below wB.heap.size wB w'' from fun w' hw => (version_any s1 w' ⟨b1.1, Int.le_of_lt b1.2⟩).mono fun e w'' q => ⟨q.1, hw.trans (q.2.mono hw.size)⟩)
              have HY1 := Lib.hid (show ∀ w', Below wB.heap.size wB w' → Calls Tryz.prog 50 #[.agg #[.int .i64 (s1 / 1000 / 1000), .int .i64 (s1 / 1000 % 1000), .int .i64 (s1 % 1000)]] w' fun e w'' => e = .returned (.string (wordB (vT s1))) ∧ Below wB.heap.size wB w'' from fun w' hw => (vtext_any s1 w' b1 (HL3.out w' hw)).mono fun e w'' q => ⟨q.1, hw.trans (q.2.mono hw.size)⟩)
              have HX2 := Lib.hid (show ∀ w', Below wB.heap.size wB w' → Calls Tryz.prog 54 #[.int .i64 s2] w' fun e w'' => e = .returned (.agg #[.int .i64 (s2 / 1000 / 1000), .int .i64 (s2 / 1000 % 1000), .int .i64 (s2 % 1000)]) ∧ Below wB.heap.size wB w'' from fun w' hw => (version_any s2 w' ⟨b2.1, Int.le_of_lt b2.2⟩).mono fun e w'' q => ⟨q.1, hw.trans (q.2.mono hw.size)⟩)
              have HY2 := Lib.hid (show ∀ w', Below wB.heap.size wB w' → Calls Tryz.prog 50 #[.agg #[.int .i64 (s2 / 1000 / 1000), .int .i64 (s2 / 1000 % 1000), .int .i64 (s2 % 1000)]] w' fun e w'' => e = .returned (.string (wordB (vT s2))) ∧ Below wB.heap.size wB w'' from fun w' hw => (vtext_any s2 w' b2 (HL3.out w' hw)).mono fun e w'' q => ⟨q.1, hw.trans (q.2.mono hw.size)⟩)
              have l2 : (wordB (vT s2)).size ≤ 11 := verL_len (vT_ok b2).1
              have ec : wordB [62, 61] ++ wordB (vT s1) ++ wordB [32, 60] ++ wordB (vT s2) = wordB ([62, 61] ++ vT s1 ++ [32, 60] ++ vT s2) := by rw [cat_wordB, cat_wordB, cat_wordB]
              have Ec := Lib.hid ec; clear ec b1 b2 HV1 HT1
              generalize wordB (vT s1) = S at l1 Ec HY1 ⊢
              generalize wordB (vT s2) = S' at l2 Ec HY2 ⊢
              have q1 : ¬ 9223372036854775807 < 2 + S.size := by omega
              have q2 : ¬ 9223372036854775807 < 2 + S.size + 2 := by omega
              have q3 : ¬ 9223372036854775807 < 2 + S.size + 2 + S'.size := by omega
              have Z := And.intro z1 z2
              have HZ := Lib.hid (show ∀ w', Below wB.heap.size wB w' → w'.cell? ⟨wo.heap.size, 0, none⟩ = some (.int .i64 s1) ∧ w'.cell? ⟨wo.heap.size, 1, none⟩ = some (.int .i64 s2) from fun w' hw => ⟨(hw.cell (p := ⟨wo.heap.size, 0, none⟩) (by show wo.heap.size < _; rw [HszB.out]; omega)).trans z1, (hw.cell (p := ⟨wo.heap.size, 1, none⟩) (by show wo.heap.size < _; rw [HszB.out]; omega)).trans z2⟩)
              have HOut := Lib.hid (show ∀ w', Below wB.heap.size wB w' → OutS w' (w.heap.size + 1) (.slice ao k co) ss from fun w' hw => Hout.out.below (HBB.out.trans (hw.mono HBB.out.size)))
              have hbo : ∀ b, (Value.slice ao k co).ownBlock = some b → b < wo.heap.size := fun b hb => (World.ownsRow.lt Hout.out b hb).2
              have Hbo := Lib.hid hbo; clear hbo
              go_upto_region 7 with fail
              rw [← hwB]
              clear hwB
              go_quiet (fail)
              have HB := Lib.hid (below_drewN (Below.refl wB.heap.size wB) (nq + 1))
              go_wp2_with fail
              go_region_held3 (fun w' => w'.cell? ⟨wo.heap.size, 0, none⟩ = some (.int .i64 s1) ∧ w'.cell? ⟨wo.heap.size, 1, none⟩ = some (.int .i64 s2)) (first | exact ⟨Z.1, Z.2⟩ | exact ⟨(HZA.out _).1, (HZA.out _).2⟩)
                (first
                  | (go_at_call 54; (with_reducible refine (HX1.out _ HB.out).mono ?_); rintro e w5 ⟨rfl, hb⟩; have HB := Lib.hid hb; have Z := HZ.out _ hb; clear hb HX1)
                  | (go_at_call 50; (with_reducible refine (HY1.out _ HB.out).mono ?_); rintro e w6 ⟨rfl, hb⟩; have HB := Lib.hid hb; have Z := HZ.out _ hb; clear hb HY1)
                  | (go_at_call 54; (with_reducible refine (HX2.out _ HB.out).mono ?_); rintro e w7 ⟨rfl, hb⟩; have HB := Lib.hid hb; have Z := HZ.out _ hb; clear hb HX2)
                  | (go_at_call 50; (with_reducible refine (HY2.out _ HB.out).mono ?_); rintro e w8 ⟨rfl, hb⟩; have HB := Lib.hid hb; have Z := HZ.out _ hb; have sz8 := hb.size; have HZA := Lib.hid (show ∀ o, (w8.alloc o).cell? ⟨wo.heap.size, 0, none⟩ = some (.int .i64 s1) ∧ (w8.alloc o).cell? ⟨wo.heap.size, 1, none⟩ = some (.int .i64 s2) from fun o => HZ.out _ (hb.trans (((Below.refl _ _).alloc (Nat.le_refl _) o).mono hb.size))); clear hb HY2)
                  | (refine step_append_str (by rfl) _ _ (by rfl) (w.heap.size + 1) _ ss (by rfl) (HOut.out _ HB.out) ([62, 61] ++ vT s1 ++ [32, 60] ++ vT s2) _ Ec.out _ rfl (by rfl) (by rw [Hlen.out]; omega) (by rw [HszB.out] at sz8; omega) ?_; intro g9 c9 w9 ho9 hb9 hk9; rw [Hlen.out] at ho9 ⊢; rw [HszB.out] at sz8; have Z := And.intro ((World.cell?_of_block (w := w8) (a := ⟨wo.heap.size, 0, none⟩) (hk9 wo.heap.size (by omega) (fun e => by have := Hbo.out _ e; omega))).trans Z.1) ((World.cell?_of_block (w := w8) (a := ⟨wo.heap.size, 1, none⟩) (hk9 wo.heap.size (by omega) (fun e => by have := Hbo.out _ e; omega))).trans Z.2); clear hk9; have Ho9 := Lib.hid ho9; have Hb9 := Lib.hid hb9; clear ho9 hb9))
              go_wp2_with fail
              go_roundg (l.length - (k + 1))
              case measure => omega
              case rel => exact ⟨k + 1, by omega, rfl, by go_num, by rw [Htk.out, spanT_b HA.out (by show 0 < s1; omega) (by show s2 < pastV; unfold pastV; omega)]; exact Ho9.out, (Hbw.out.trans ((HBB.out.trans (HB.out.mono HBB.out.size)).mono (by omega))).trans Hb9.out⟩
            ·
              go_upto_region 7 with fail
              rw [← hwB]
              clear hwB
              go_quiet (fail)
              go_wp2_with fail
              refine (HV1.out _ (below_drewN HBB.out nq)).mono ?_
              rintro e w2 ⟨rfl, hb2⟩
              have Hb2 := Lib.hid hb2; clear hb2
              go_wp2_with fail
              refine (HT1.out _ Hb2.out).mono ?_
              rintro e w3 ⟨rfl, hb3⟩
              have sz3 := hb3.size
              have HBo := Lib.hid hb3; clear hb3
              have ec := cat_wordB [62, 61] (vT s1)
              have Ec := Lib.hid ec; clear ec
              generalize wordB (vT s1) = S at l1 Ec ⊢
              have z3 : ¬ 9223372036854775807 < 2 + S.size := by omega
              go_wp2_with (at_builtin; refine wpList_append_str rfl (.tmp 61) (.tmp 67) rfl (w.heap.size + 1) _ ss rfl (Hout.out.below HBo.out) ([62, 61] ++ vT s1) _ (Ec.out) _ rfl rfl (by rw [Hlen.out]; omega) (by omega) ?_; intro v9 w9 ho9 hb9 _; have Ho9 := Lib.hid ho9; have Hb9 := Lib.hid hb9; clear ho9 hb9)
              go_roundg (l.length - (k + 1))
              case measure => omega
              case rel => exact ⟨k + 1, by omega, rfl, by go_num, by rw [Htk.out, spanT_c HA.out (by show 0 < s1; omega) (by show ¬ s2 < pastV; unfold pastV; omega)]; exact Ho9.out, (Hbw.out.trans (HBo.out.mono (by omega))).trans Hb9.out⟩
          · by_cases hG : s2 < 1000000000
            · have b2 : 0 ≤ s2 ∧ s2 < pastV := ⟨by omega, by unfold pastV; exact hG⟩
              have HV2 := Lib.hid (show ∀ w', Below wo.heap.size wo w' → Calls Tryz.prog 54 #[.int .i64 s2] w' fun e w'' => e = .returned (.agg #[.int .i64 (s2 / 1000 / 1000), .int .i64 (s2 / 1000 % 1000), .int .i64 (s2 % 1000)]) ∧ Below wo.heap.size wo w'' from fun w' hw => (version_any s2 w' ⟨b2.1, Int.le_of_lt b2.2⟩).mono fun e w'' q => ⟨q.1, hw.trans (q.2.mono hw.size)⟩)
              have HT2 := Lib.hid (show ∀ w', Below wo.heap.size wo w' → Calls Tryz.prog 50 #[.agg #[.int .i64 (s2 / 1000 / 1000), .int .i64 (s2 / 1000 % 1000), .int .i64 (s2 % 1000)]] w' fun e w'' => e = .returned (.string (wordB (vT s2))) ∧ Below wo.heap.size wo w'' from fun w' hw => (vtext_any s2 w' b2 (HL2.out w' hw)).mono fun e w'' q => ⟨q.1, hw.trans (q.2.mono hw.size)⟩)
              have l2 : (wordB (vT s2)).size ≤ 11 := verL_len (vT_ok b2).1
              clear b2
              go_upto_region 7 with fail
              rw [← hwB]
              clear hwB
              go_quiet (fail)
              go_wp2_with fail
              refine (HV2.out _ (below_drewN HBB.out nq)).mono ?_
              rintro e w2 ⟨rfl, hb2⟩
              have Hb2 := Lib.hid hb2; clear hb2
              go_wp2_with fail
              refine (HT2.out _ Hb2.out).mono ?_
              rintro e w3 ⟨rfl, hb3⟩
              have sz3 := hb3.size
              have HBo := Lib.hid hb3; clear hb3
              have ec := cat_wordB [60] (vT s2)
              have Ec := Lib.hid ec; clear ec
              generalize wordB (vT s2) = S at l2 Ec ⊢
              have z3 : ¬ 9223372036854775807 < 1 + S.size := by omega
              go_wp2_with (at_builtin; refine wpList_append_str rfl (.tmp 71) (.tmp 77) rfl (w.heap.size + 1) _ ss rfl (Hout.out.below HBo.out) ([60] ++ vT s2) _ (Ec.out) _ rfl rfl (by rw [Hlen.out]; omega) (by omega) ?_; intro v9 w9 ho9 hb9 _; have Ho9 := Lib.hid ho9; have Hb9 := Lib.hid hb9; clear ho9 hb9)
              go_roundg (l.length - (k + 1))
              case measure => omega
              case rel => exact ⟨k + 1, by omega, rfl, by go_num, by rw [Htk.out, spanT_d HA.out (by show ¬ 0 < s1; omega) (by show s2 < pastV; unfold pastV; omega)]; exact Ho9.out, (Hbw.out.trans (HBo.out.mono (by omega))).trans Hb9.out⟩
            ·
              go_upto_region 7 with fail
              rw [← hwB]
              clear hwB
              go_quiet (fail)
              have sz3 := (below_drewN HBB.out nq).size
              go_wp2_with (at_builtin; refine wpList_append_str rfl (.tmp 23) (.tmp 24) rfl (w.heap.size + 1) _ ss rfl (Hout.out.below (below_drewN HBB.out nq)) [97, 110, 121] _ rfl _ rfl rfl (by rw [Hlen.out]; omega) (by omega) ?_; intro v9 w9 ho9 hb9 _; have Ho9 := Lib.hid ho9; have Hb9 := Lib.hid hb9; clear ho9 hb9)
              go_roundg (l.length - (k + 1))
              case measure => omega
              case rel => exact ⟨k + 1, by omega, rfl, by go_num, by rw [Htk.out, spanT_e HA.out (by show ¬ 0 < s1; omega) (by show ¬ s2 < pastV; unfold pastV; omega)]; exact Ho9.out, (Hbw.out.trans ((below_drewN HBB.out nq).mono (by omega))).trans Hb9.out⟩
        -- END ROUND
      · obtain rfl : k = l.length := by omega
        rw [List.take_length] at hss
        have hlen : ss.length = l.length := by rw [hss, List.length_map]
        have hne2 : 0 < l.length := List.length_pos_iff.2 Hne.out
        have hml : ∀ x ∈ ss, x.length ≤ 26 := fun x hx => by
          rw [hss] at hx
          obtain ⟨s, hs, rfl⟩ := List.mem_map.1 hx
          exact spanT_len (Hc.out.ok s hs)
        have hj := join_any _ _ ss orS _ hout (by omega) (by omega) (by
          have := join_le (sep := orS) hml
          have h4 : orS.length = 4 := rfl
          rw [h4] at this
          omega)
        have er : Lib.join ss orS = rangeT l := by unfold rangeT; rw [if_neg Hne.out, hss]
        rw [hlen, er] at hj
        have Hj := Lib.hid hj; have Hbw := Lib.hid hbw; have Hlen := Lib.hid hlen
        rw [hlen]
        unfold orS wordB at Hj
        clear hj hbw hlen er hml hss hout
        go_wp2_with fail
        refine Hj.out.mono ?_
        rintro e w3 ⟨rfl, hb3⟩
        have Hb3 := Lib.hid hb3; clear hb3
        go_wp2_with fail
        go_ret
        exact ⟨rfl, (HB1.out.trans (Hbw.out.mono (by omega))).trans (Hb3.out.mono (by omega))⟩
end Go.Proofs.YtheemhelioendaaGreatDoor
