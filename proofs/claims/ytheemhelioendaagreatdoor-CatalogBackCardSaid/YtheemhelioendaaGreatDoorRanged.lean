/- The fact 'ranged' of the laws on ranges: what it parses, plain; its walk. -/
import Derived.Test.YtheemhelioendaaGreatDoorRangeP
namespace Go.Proofs.YtheemhelioendaaGreatDoor
open Go.RowKit
set_option linter.unusedVariables false

theorem parts3 {s p q r : ByteArray} {i j : Nat} (h1 : Lib.indexB s dotB = i) (e1 : s.extract 0 i = p) (h2 : Lib.indexB (s.extract (i + 1) s.size) dotB = j) (e2 : (s.extract (i + 1) s.size).extract 0 j = q)
    (h3 : Lib.indexB ((s.extract (i + 1) s.size).extract (j + 1) (s.extract (i + 1) s.size).size) dotB = -1) (e3 : (s.extract (i + 1) s.size).extract (j + 1) (s.extract (i + 1) s.size).size = r) : partsV s = [p, q, r] := by
  unfold partsV
  rw [split_hit (by decide) h1, e1]
  have hd : dotB.size = 1 := rfl
  rw [hd, split_hit (by decide) h2, e2, hd, e3]
  rw [e3] at h3
  rw [Lib.splitB_miss _ _ _ _ h3]
theorem one_piece {s : ByteArray} (h : Lib.indexB s orB = -1) : pieces s = [s] := by
  unfold pieces
  rw [Lib.splitB_miss _ _ _ _ h]
theorem TextR.one_piece {s : ByteArray} {r : List Spn} (h : Lib.indexB s orB = -1) (hp : PieceR s.data.toList r) (hc : Canon r) : TextR s r := by
  unfold TextR
  rw [Go.Proofs.YtheemhelioendaaGreatDoor.one_piece h]
  exact TextQ.nil.snoc (ps := []) hp ⟨hc, fun n => ⟨.inr, fun q => q.elim (fun q => absurd q (inL_nil n)) id⟩⟩
def rangedT : ByteArray := ⟨#[94, 49, 46, 50, 46, 48, 32, 33, 49, 46, 51, 46, 48]⟩
def rangedL : List Spn := [(1002000, 1003000), (1003001, 2000000)]
theorem ranged_w1 : WordR (wordB [94, 49, 46, 50, 46, 48]) [(1002000, 2000000)] := by
  refine .inr (.inr ⟨by decide, by decide, 6, 1, 2, 0, by decide +kernel, ⟨⟨#[49]⟩, ⟨#[50]⟩, ⟨#[48]⟩, ?_, ?_, ?_, ?_⟩, ⟨⟨?_, List.pairwise_singleton _ _⟩, fun n => ?_⟩⟩)
  · have e : (wordB [94, 49, 46, 50, 46, 48]).extract (opLen (wordB [94, 49, 46, 50, 46, 48])) (wordB [94, 49, 46, 50, 46, 48]).size = ⟨#[49, 46, 50, 46, 48]⟩ := by decide +kernel
    rw [e]
    exact parts3 (i := 1) (j := 1) (by decide +kernel) (by decide +kernel) (by decide +kernel) (by decide +kernel) (by decide +kernel) (by decide +kernel)
  · exact ⟨by decide +kernel, by decide +kernel, by omega, by omega⟩
  · exact ⟨by decide +kernel, by decide +kernel, by omega, by omega⟩
  · exact ⟨by decide +kernel, by decide +kernel, by omega, by omega⟩
  · intro s hs
    rw [List.mem_singleton.1 hs]; unfold Wide pastV; omega
  · rw [inL_one, if_neg (by decide)]
    have : opSpan 6 1 2 0 = (1002000, 2000000) := by decide +kernel
    rw [this]
theorem ranged_w2 : WordR (wordB [33, 49, 46, 51, 46, 48]) [(0, 1003000), (1003001, 1000000000)] := by
  refine .inr (.inr ⟨by decide, by decide, 1, 1, 3, 0, by decide +kernel, ⟨⟨#[49]⟩, ⟨#[51]⟩, ⟨#[48]⟩, ?_, ?_, ?_, ?_⟩, ⟨⟨?_, ?_⟩, fun n => ?_⟩⟩)
  · have e : (wordB [33, 49, 46, 51, 46, 48]).extract (opLen (wordB [33, 49, 46, 51, 46, 48])) (wordB [33, 49, 46, 51, 46, 48]).size = ⟨#[49, 46, 51, 46, 48]⟩ := by decide +kernel
    rw [e]
    exact parts3 (i := 1) (j := 1) (by decide +kernel) (by decide +kernel) (by decide +kernel) (by decide +kernel) (by decide +kernel) (by decide +kernel)
  · exact ⟨by decide +kernel, by decide +kernel, by omega, by omega⟩
  · exact ⟨by decide +kernel, by decide +kernel, by omega, by omega⟩
  · exact ⟨by decide +kernel, by decide +kernel, by omega, by omega⟩
  · intro s hs
    simp only [List.mem_cons, List.not_mem_nil, or_false] at hs
    rcases hs with rfl | rfl <;> (unfold Wide pastV; omega)
  · simp
  · rw [inL_cons, inL_one, if_pos rfl]
    have : opSpan 1 1 3 0 = (1003000, 1003001) := by decide +kernel
    rw [this]
    unfold inS pastV
    simp only
    omega
theorem ranged_canon : Canon rangedL := by
  refine ⟨?_, ?_⟩
  · intro s hs
    simp only [rangedL, List.mem_cons, List.not_mem_nil, or_false] at hs
    rcases hs with rfl | rfl <;> (unfold Wide pastV; omega)
  · simp [rangedL]
theorem ranged_text : TextR rangedT rangedL := by
  refine TextR.one_piece (by decide +kernel) ⟨by decide +kernel, ?_⟩ ranged_canon
  have e : words rangedT.data.toList = [[94, 49, 46, 50, 46, 48]] ++ [[33, 49, 46, 51, 46, 48]] := by decide +kernel
  rw [e]
  refine PieceQ.snoc (r := [(1002000, 2000000)]) (PieceQ.snoc (ws := []) PieceQ.nil ranged_w1 ⟨ranged_w1.canon, fun n => ?_⟩) ranged_w2 ⟨ranged_canon, fun n => ?_⟩
  · rw [inL_one, inL_one]
    unfold inS pastV
    simp only
    omega
  · unfold rangedL
    simp only [inL_cons, inL_nil, or_false, inS]
    omega
theorem ranged_has : hasV rangedL 1 9 9 = true ∧ hasV rangedL 1 3 0 = false ∧ hasV rangedL 2 0 0 = false := by decide +kernel

theorem okRange {s : ByteArray} {r : List Spn} {w w' : World} {e : Ending} (h : RangeP s w e w') (hs : s.size ≤ 1000) (hr : TextR s r) :
    ∃ v, e = .returned (.tuple #[.agg #[v], .nilIface]) ∧ IsSp w' v r ∧ (∀ b, v.ownBlock = some b → w.heap.size ≤ b) ∧ Below w.heap.size w w' := by
  obtain ⟨v, r', er, rfl, h1, h2, _, h3, h4⟩ := h
  rcases h4 with ⟨rfl, _, h5⟩ | ⟨_, _, h5⟩
  · obtain rfl := h5.one hr
    exact ⟨v, rfl, h1, h2, h3⟩
  · exact absurd hr (h5 r hs)
end Go.Proofs.YtheemhelioendaaGreatDoor
