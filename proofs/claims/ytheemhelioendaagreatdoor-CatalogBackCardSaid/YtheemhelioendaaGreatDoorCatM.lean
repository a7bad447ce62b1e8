/- A catalog, plain: lines, items, what a line's text says, what may be. -/
import Derived.Test.YtheemhelioendaaGreatDoorVerW
import Derived.Lib.CutLaws
namespace Go.Proofs.YtheemhelioendaaGreatDoor
open Go.RowKit
set_option linter.unusedVariables false

/-- A line, and the value at which its range lies. -/
structure LineM where
  kind : Int
  name : ByteArray
  va : Int
  vb : Int
  vc : Int
  other : ByteArray
  range : List Spn
  rv : Value
abbrev ItemM := ByteArray × Int × Int × Int
def LineM.item (x : LineM) : ItemM := (x.name, x.va, x.vb, x.vc)

def nameCh (c : UInt8) : Bool := (97 ≤ c && c ≤ 122) || (48 ≤ c && c ≤ 57) || c == 45
/-- May a text be a name? -/
def nameOk (s : ByteArray) : Bool :=
  decide (0 < s.size) && decide (s.size ≤ 12) && (match s.data.toList with | c :: _ => 97 ≤ c && c ≤ 122 | [] => false) && s.data.toList.all nameCh && !decide (s = anyT) && !decide (s = noneT)
def verB (a b c : Int) : Bool := decide ((0 ≤ a ∧ a ≤ 999) ∧ (0 ≤ b ∧ b ≤ 999) ∧ 0 ≤ c ∧ c ≤ 999)
theorem verB_ok {a b c : Int} : verB a b c = true ↔ VerOk a b c := by
  unfold verB
  rw [decide_eq_true_iff]
  exact ⟨fun ⟨h1, h2, h3⟩ => ⟨h1, h2, h3⟩, fun ⟨h1, h2, h3⟩ => ⟨h1, h2, h3⟩⟩
/-- What check says of a line: 0 for nothing. -/
def checkM (x : LineM) : Int :=
  if x.kind < 1 ∨ 4 < x.kind then 1
  else if nameOk x.name = false ∨ ((x.kind = 2 ∨ x.kind = 3) ∧ nameOk x.other = false) then 5
  else if (¬ (x.kind = 2 ∨ x.kind = 3) ∧ x.other ≠ ByteArray.empty) ∨ (x.kind = 1 ∧ x.range ≠ []) ∨ (x.kind = 4 ∧ ¬ (x.va = 0 ∧ x.vb = 0 ∧ x.vc = 0)) then 1
  else if x.kind ≠ 4 ∧ verB x.va x.vb x.vc = false then 2
  else 0
def itemsOf (ls : List LineM) : List ItemM := (ls.filter fun x => decide (x.kind = 1)).map LineM.item
/-- May lines be a catalog? -/
structure NewOk (ls : List LineM) : Prop where
  few : ls.length ≤ 100
  check : ∀ x ∈ ls, checkM x = 0
  twice : (itemsOf ls).Nodup
  names : ∀ l : List ByteArray, l.Nodup → (∀ n ∈ l, ∃ x ∈ ls, x.kind = 1 ∧ x.name = n) → l.length ≤ 8
  most : (itemsOf ls).length ≤ 24
  there : ∀ x ∈ ls, x.kind = 2 ∨ x.kind = 3 → x.item ∈ itemsOf ls
/-- Does an item come ahead of another? -/
def itemLt (a b : ItemM) : Prop := a.1.toList < b.1.toList ∨ (a.1 = b.1 ∧ cmp3 b.2.1 b.2.2.1 b.2.2.2 a.2.1 a.2.2.1 a.2.2.2 < 0)
/-- Lines and items of a catalog. -/
structure CatOk (ls : List LineM) (items : List ItemM) : Prop extends NewOk ls where
  perm : items.Perm (itemsOf ls)
  order : items.Pairwise itemLt
  canon : ∀ x ∈ ls, Canon x.range

def spT : List UInt8 := [32]
def cutA (s : ByteArray) : ByteArray := ⟨(Lib.cut s.data.toList spT).1.toArray⟩
def cutB (s : ByteArray) : ByteArray := ⟨(Lib.cut s.data.toList spT).2.1.toArray⟩
def pkgT : ByteArray := ⟨#[112, 97, 99, 107, 97, 103, 101]⟩
def needT : ByteArray := ⟨#[110, 101, 101, 100, 115]⟩
def clashT : ByteArray := ⟨#[99, 108, 97, 115, 104, 101, 115]⟩
def rootT : ByteArray := ⟨#[114, 111, 111, 116]⟩
/-- What a line's text says. -/
def LineR (s : ByteArray) (x : LineM) : Prop :=
  x.name = cutA (cutB s) ∧
  ((x.kind = 1 ∧ cutA s = pkgT ∧ okVer (cutA (cutB (cutB s))) x.va x.vb x.vc ∧ cutB (cutB (cutB s)) = ByteArray.empty ∧ x.other = ByteArray.empty ∧ x.range = []) ∨
   (((x.kind = 2 ∧ cutA s = needT) ∨ (x.kind = 3 ∧ cutA s = clashT)) ∧ okVer (cutA (cutB (cutB s))) x.va x.vb x.vc ∧ x.other = cutA (cutB (cutB (cutB s))) ∧ (cutB (cutB (cutB (cutB s)))).size ≤ 1000 ∧ TextR (cutB (cutB (cutB (cutB s)))) x.range) ∨
   (x.kind = 4 ∧ cutA s = rootT ∧ x.va = 0 ∧ x.vb = 0 ∧ x.vc = 0 ∧ x.other = ByteArray.empty ∧ (cutB (cutB s)).size ≤ 1000 ∧ TextR (cutB (cutB s)) x.range))
/-- Two lines say the same. -/
def LineM.same (x y : LineM) : Prop := x.kind = y.kind ∧ x.name = y.name ∧ x.va = y.va ∧ x.vb = y.vb ∧ x.vc = y.vc ∧ x.other = y.other ∧ x.range = y.range
theorem LineR.one {s : ByteArray} {x y : LineM} (h : LineR s x) (h' : LineR s y) : x.same y := by
  obtain ⟨n1, h⟩ := h
  obtain ⟨n2, h'⟩ := h'
  have e12 : pkgT ≠ needT := by decide
  have e13 : pkgT ≠ clashT := by decide
  have e14 : pkgT ≠ rootT := by decide
  have e23 : needT ≠ clashT := by decide
  have e24 : needT ≠ rootT := by decide
  have e34 : clashT ≠ rootT := by decide
  rcases h with ⟨k1, w1, v1, r1, o1, g1⟩ | ⟨kw1, v1, o1, r1, g1⟩ | ⟨k1, w1, a1, b1, c1, o1, r1, g1⟩ <;>
  rcases h' with ⟨k2, w2, v2, r2, o2, g2⟩ | ⟨kw2, v2, o2, r2, g2⟩ | ⟨k2, w2, a2, b2, c2, o2, r2, g2⟩
  · obtain ⟨a, b, c⟩ := v1.one v2
    exact ⟨k1.trans k2.symm, n1.trans n2.symm, a, b, c, o1.trans o2.symm, g1.trans g2.symm⟩
  · rcases kw2 with ⟨_, w2⟩ | ⟨_, w2⟩
    · exact absurd (w1.symm.trans w2) e12
    · exact absurd (w1.symm.trans w2) e13
  · exact absurd (w1.symm.trans w2) e14
  · rcases kw1 with ⟨_, w1⟩ | ⟨_, w1⟩
    · exact absurd (w2.symm.trans w1) e12
    · exact absurd (w2.symm.trans w1) e13
  · obtain ⟨a, b, c⟩ := v1.one v2
    refine ⟨?_, n1.trans n2.symm, a, b, c, o1.trans o2.symm, g1.one g2⟩
    rcases kw1 with ⟨k1, w1⟩ | ⟨k1, w1⟩ <;> rcases kw2 with ⟨k2, w2⟩ | ⟨k2, w2⟩
    · exact k1.trans k2.symm
    · exact absurd (w1.symm.trans w2) e23
    · exact absurd (w2.symm.trans w1) e23
    · exact k1.trans k2.symm
  · rcases kw1 with ⟨_, w1⟩ | ⟨_, w1⟩
    · exact absurd (w1.symm.trans w2) e24
    · exact absurd (w1.symm.trans w2) e34
  · exact absurd (w2.symm.trans w1) e14
  · rcases kw2 with ⟨_, w2⟩ | ⟨_, w2⟩
    · exact absurd (w2.symm.trans w1) e24
    · exact absurd (w2.symm.trans w1) e34
  · exact ⟨k1.trans k2.symm, n1.trans n2.symm, a1.trans a2.symm, b1.trans b2.symm, c1.trans c2.symm, o1.trans o2.symm, g1.one g2⟩
end Go.Proofs.YtheemhelioendaaGreatDoor
