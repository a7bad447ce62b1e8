/- A range's text, plain: which versions it has. -/
import Derived.Test.YtheemhelioendaaGreatDoorWrdM
import Derived.Test.YtheemhelioendaaGreatDoorWordsM
namespace Go.Proofs.YtheemhelioendaaGreatDoor
open Go.RowKit
set_option linter.unusedVariables false

def wordB (l : List UInt8) : ByteArray := ⟨l.toArray⟩
/-- All of some words hold. -/
structure PieceQ (ws : List (List UInt8)) (r : List Spn) : Prop where
  can : Canon r
  all : ∀ l ∈ ws, ∃ x, WordR (wordB l) x
  mem : ∀ n, inL r n ↔ (0 ≤ n ∧ n < pastV) ∧ ∀ l ∈ ws, ∀ x, WordR (wordB l) x → inL x n
def PieceR (p : List UInt8) (r : List Spn) : Prop := words p ≠ [] ∧ PieceQ (words p) r
structure TextQ (ps : List (List UInt8)) (r : List Spn) : Prop where
  can : Canon r
  all : ∀ p ∈ ps, ∃ x, PieceR p x
  mem : ∀ n, inL r n ↔ ∃ p ∈ ps, ∃ x, PieceR p x ∧ inL x n
def orB : ByteArray := ⟨#[124, 124]⟩
def pieces (s : ByteArray) : List ByteArray := Lib.splitB orB 0 (Lib.countB s orB) s
/-- What a range's text says. -/
def TextR (s : ByteArray) (r : List Spn) : Prop := TextQ ((pieces s).map (·.data.toList)) r
theorem PieceQ.nil : PieceQ [] [(0, pastV)] := ⟨Canon.any, fun l h => by simp at h, fun n => by
  rw [inL_one]
  exact ⟨fun h => ⟨h, fun l h => by simp at h⟩, fun h => h.1⟩⟩
theorem PieceQ.snoc {ws : List (List UInt8)} {r x y : List Spn} {l : List UInt8} (h : PieceQ ws r) (hx : WordR (wordB l) x) (hy : AndR r x y) : PieceQ (ws ++ [l]) y := by
  refine ⟨hy.1, fun m hm => ?_, fun n => ?_⟩
  · rcases List.mem_append.1 hm with q | q
    · exact h.all m q
    · rw [List.mem_singleton.1 q]; exact ⟨x, hx⟩
  · rw [hy.2, h.mem]
    constructor
    · rintro ⟨⟨q1, q2⟩, q3⟩
      refine ⟨q1, fun m hm z hz => ?_⟩
      rcases List.mem_append.1 hm with q | q
      · exact q2 m q z hz
      · rw [List.mem_singleton.1 q] at hz; rw [hz.one hx]; exact q3
    · rintro ⟨q1, q2⟩
      exact ⟨⟨q1, fun m hm z hz => q2 m (List.mem_append_left _ hm) z hz⟩, q2 l (by simp) x hx⟩
theorem PieceQ.one {ws : List (List UInt8)} {r r' : List Spn} (h : PieceQ ws r) (h' : PieceQ ws r') : r = r' := Canon.ext h.can h'.can (fun n => (h.mem n).trans (h'.mem n).symm)
theorem PieceR.one {p : List UInt8} {r r' : List Spn} (h : PieceR p r) (h' : PieceR p r') : r = r' := h.2.one h'.2
theorem TextQ.nil : TextQ [] [] := ⟨Canon.nil, fun l h => by simp at h, fun n => ⟨fun h => absurd h (inL_nil n), fun ⟨p, h, _⟩ => by simp at h⟩⟩
theorem TextQ.snoc {ps : List (List UInt8)} {r x y : List Spn} {p : List UInt8} (h : TextQ ps r) (hx : PieceR p x) (hy : OrR r x y) : TextQ (ps ++ [p]) y := by
  refine ⟨hy.1, fun m hm => ?_, fun n => ?_⟩
  · rcases List.mem_append.1 hm with q | q
    · exact h.all m q
    · rw [List.mem_singleton.1 q]; exact ⟨x, hx⟩
  · rw [hy.2, h.mem]
    constructor
    · rintro (⟨q, hq, z, hz, hn⟩ | hn)
      · exact ⟨q, List.mem_append_left _ hq, z, hz, hn⟩
      · exact ⟨p, by simp, x, hx, hn⟩
    · rintro ⟨q, hq, z, hz, hn⟩
      rcases List.mem_append.1 hq with q2 | q2
      · exact .inl ⟨q, q2, z, hz, hn⟩
      · rw [List.mem_singleton.1 q2] at hz; rw [hz.one hx] at hn; exact .inr hn
theorem TextQ.one {ps : List (List UInt8)} {r r' : List Spn} (h : TextQ ps r) (h' : TextQ ps r') : r = r' := Canon.ext h.can h'.can (fun n => (h.mem n).trans (h'.mem n).symm)
theorem TextR.one {s : ByteArray} {r r' : List Spn} (h : TextR s r) (h' : TextR s r') : r = r' := TextQ.one h h'
end Go.Proofs.YtheemhelioendaaGreatDoor
