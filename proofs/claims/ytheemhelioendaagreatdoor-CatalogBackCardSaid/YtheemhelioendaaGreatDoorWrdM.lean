/- One word of a range, plain: which versions it has. -/
import Derived.Test.YtheemhelioendaaGreatDoorCaret
import Derived.Test.YtheemhelioendaaGreatDoorPrs
namespace Go.Proofs.YtheemhelioendaaGreatDoor
open Go.RowKit
set_option linter.unusedVariables false

def anyT : ByteArray := ⟨#[97, 110, 121]⟩
def noneT : ByteArray := ⟨#[110, 111, 110, 101]⟩
def opCh (c : UInt8) : Bool := c == 61 || c == 33 || c == 60 || c == 62 || c == 94 || c == 126
def opsL : List UInt8 := [61, 33, 60, 62, 94, 126]
theorem opCh_index (c : UInt8) : opCh c = decide (0 ≤ Lib.indexByte opsL c) := by
  have h : ∀ n : Fin 256, opCh (UInt8.ofNat n.val) = decide (0 ≤ Lib.indexByte opsL (UInt8.ofNat n.val)) := by decide +kernel
  have := h ⟨c.toNat, c.toNat_lt⟩
  simpa using this
/-- How many bytes of an operator stand ahead. -/
def opLen (s : ByteArray) : Nat := (s.data.toList.takeWhile opCh).length
/-- Which operator: 0 =, 1 !, 2 <, 3 <=, 4 >, 5 >=, 6 ^, 7 ~. -/
def opK (l : List UInt8) : Option Nat :=
  if l = [] then some 0 else if l = [61] then some 0 else if l = [33] then some 1 else if l = [60] then some 2 else if l = [60, 61] then some 3 else if l = [62] then some 4 else if l = [62, 61] then some 5 else if l = [94] then some 6 else if l = [126] then some 7 else none
def opSpan (k : Nat) (a b c : Int) : Spn :=
  if k = 2 then (0, numV a b c) else if k = 3 then (0, numV a b c + 1) else if k = 4 then (numV a b c + 1, pastV) else if k = 5 then (numV a b c, pastV) else if k = 6 then (numV a b c, caretV a b c) else if k = 7 then (numV a b c, numV a (b + 1) 0) else (numV a b c, numV a b c + 1)
/-- The versions of an operator and a version. -/
def OpR (k : Nat) (a b c : Int) (r : List Spn) : Prop := Canon r ∧ ∀ n, inL r n ↔ if k = 1 then (0 ≤ n ∧ n < pastV) ∧ ¬ inS n (opSpan 1 a b c) else inS n (opSpan k a b c)
/-- What a word says. -/
def WordR (s : ByteArray) (r : List Spn) : Prop :=
  (s = anyT ∧ r = [(0, pastV)]) ∨ (s = noneT ∧ r = []) ∨
    (s ≠ anyT ∧ s ≠ noneT ∧ ∃ k a b c, opK (s.extract 0 (opLen s)).data.toList = some k ∧ okVer (s.extract (opLen s) s.size) a b c ∧ OpR k a b c r)
theorem okVer.bd {s : ByteArray} {a b c : Int} (h : okVer s a b c) : (0 ≤ a ∧ a ≤ 999) ∧ (0 ≤ b ∧ b ≤ 999) ∧ 0 ≤ c ∧ c ≤ 999 := by
  obtain ⟨p, q, r, _, h1, h2, h3⟩ := h
  exact ⟨⟨h1.2.2.1, h1.2.2.2⟩, ⟨h2.2.2.1, h2.2.2.2⟩, h3.2.2.1, h3.2.2.2⟩
theorem okVer.one {s : ByteArray} {a b c a' b' c' : Int} (h : okVer s a b c) (h' : okVer s a' b' c') : a = a' ∧ b = b' ∧ c = c' := by
  obtain ⟨p, q, r, e, h1, h2, h3⟩ := h
  obtain ⟨p', q', r', e', h1', h2', h3'⟩ := h'
  rw [e] at e'
  cases e'
  exact ⟨h1.one h1', h2.one h2', h3.one h3'⟩
theorem numV_bd {a b c : Int} (ha : 0 ≤ a ∧ a ≤ 999) (hb : 0 ≤ b ∧ b ≤ 999) (hc : 0 ≤ c ∧ c ≤ 999) : 0 ≤ numV a b c ∧ numV a b c < pastV := by unfold numV pastV; omega
theorem caretV_bd {a b c : Int} (ha : 0 ≤ a ∧ a ≤ 999) (hb : 0 ≤ b ∧ b ≤ 999) (hc : 0 ≤ c ∧ c ≤ 999) : numV a b c < caretV a b c ∧ caretV a b c ≤ pastV := by
  unfold caretV numV pastV
  split
  · omega
  · split <;> omega
theorem tilde_bd {a b c : Int} (ha : 0 ≤ a ∧ a ≤ 999) (hb : 0 ≤ b ∧ b ≤ 999) (hc : 0 ≤ c ∧ c ≤ 999) : numV a b c < numV a (b + 1) 0 ∧ numV a (b + 1) 0 ≤ pastV := by
  unfold numV pastV; omega
theorem opSpan_fits {k : Nat} {a b c : Int} (ha : 0 ≤ a ∧ a ≤ 999) (hb : 0 ≤ b ∧ b ≤ 999) (hc : 0 ≤ c ∧ c ≤ 999) : 0 ≤ (opSpan k a b c).1 ∧ (opSpan k a b c).2 ≤ pastV := by
  have h1 := numV_bd ha hb hc; have h2 := caretV_bd ha hb hc; have h3 := tilde_bd ha hb hc
  unfold opSpan
  unfold pastV at *
  repeat' split
  all_goals simp only; omega
theorem OpR.of_made {k : Nat} {a b c : Int} {r : List Spn} (hk : k ≠ 1) (h : MadeR [opSpan k a b c] r) : OpR k a b c r := ⟨h.1, fun n => by rw [if_neg hk, h.2, inL_one]⟩
theorem OpR.of_not {a b c : Int} {m r : List Spn} (h1 : MadeR [opSpan 1 a b c] m) (h2 : NotR m r) : OpR 1 a b c r := ⟨h2.1, fun n => by rw [if_pos rfl, h2.2, h1.2, inL_one]⟩
theorem OpR.one {k : Nat} {a b c : Int} {r r' : List Spn} (h : OpR k a b c r) (h' : OpR k a b c r') : r = r' := Canon.ext h.1 h'.1 (fun n => (h.2 n).trans (h'.2 n).symm)
theorem WordR.one {s : ByteArray} {r r' : List Spn} (h : WordR s r) (h' : WordR s r') : r = r' := by
  rcases h with ⟨h1, h2⟩ | ⟨h1, h2⟩ | ⟨h1, h2, k, a, b, c, h3, h4, h5⟩
  · rcases h' with ⟨g1, g2⟩ | ⟨g1, g2⟩ | ⟨g1, g2, _⟩
    · rw [h2, g2]
    · rw [h1] at g1; exact absurd g1 (by decide)
    · exact absurd h1 g1
  · rcases h' with ⟨g1, g2⟩ | ⟨g1, g2⟩ | ⟨g1, g2, _⟩
    · rw [h1] at g1; exact absurd g1 (by decide)
    · rw [h2, g2]
    · exact absurd h1 g2
  · rcases h' with ⟨g1, g2⟩ | ⟨g1, g2⟩ | ⟨g1, g2, k', a', b', c', g3, g4, g5⟩
    · exact absurd g1 h1
    · exact absurd g1 h2
    · rw [h3] at g3; cases g3
      obtain ⟨rfl, rfl, rfl⟩ := h4.one g4
      exact h5.one g5
theorem WordR.canon {s : ByteArray} {r : List Spn} (h : WordR s r) : Canon r := by
  rcases h with ⟨_, rfl⟩ | ⟨_, rfl⟩ | ⟨_, _, _, _, _, _, _, _, h⟩
  · exact Canon.any
  · exact Canon.nil
  · exact h.1
/-- The operators, one by one. -/
theorem opK_cases (l : List UInt8) : l = [] ∨ l = [61] ∨ l = [33] ∨ l = [60] ∨ l = [60, 61] ∨ l = [62] ∨ l = [62, 61] ∨ l = [94] ∨ l = [126] ∨
    (opK l = none ∧ l ≠ [] ∧ l ≠ [61] ∧ l ≠ [33] ∧ l ≠ [60] ∧ l ≠ [60, 61] ∧ l ≠ [62] ∧ l ≠ [62, 61] ∧ l ≠ [94] ∧ l ≠ [126]) := by
  by_cases h0 : l = []
  · exact .inl h0
  by_cases h1 : l = [61]
  · exact .inr (.inl h1)
  by_cases h2 : l = [33]
  · exact .inr (.inr (.inl h2))
  by_cases h3 : l = [60]
  · exact .inr (.inr (.inr (.inl h3)))
  by_cases h4 : l = [60, 61]
  · exact .inr (.inr (.inr (.inr (.inl h4))))
  by_cases h5 : l = [62]
  · exact .inr (.inr (.inr (.inr (.inr (.inl h5)))))
  by_cases h6 : l = [62, 61]
  · exact .inr (.inr (.inr (.inr (.inr (.inr (.inl h6))))))
  by_cases h7 : l = [94]
  · exact .inr (.inr (.inr (.inr (.inr (.inr (.inr (.inl h7)))))))
  by_cases h8 : l = [126]
  · exact .inr (.inr (.inr (.inr (.inr (.inr (.inr (.inr (.inl h8))))))))
  exact .inr (.inr (.inr (.inr (.inr (.inr (.inr (.inr (.inr ⟨by unfold opK; rw [if_neg h0, if_neg h1, if_neg h2, if_neg h3, if_neg h4, if_neg h5, if_neg h6, if_neg h7, if_neg h8], h0, h1, h2, h3, h4, h5, h6, h7, h8⟩))))))))
end Go.Proofs.YtheemhelioendaaGreatDoor
