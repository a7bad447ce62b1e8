/- The fact 'ranged' of the laws on ranges: what it parses, plain; its walk. -/
import Derived.Test.YtpnchjbdjcihfaaGreatDoorRangeP
namespace Go.Proofs.YtpnchjbdjcihfaaGreatDoor
open Go.RowKit
set_option linter.unusedVariables false

theorem parts3 {s p q r : ByteArray} {i j : Nat} (h1 : Lib.indexB s dotB = i) (e1 : s.extract 0 i = p) (h2 : Lib.indexB (s.extract (i + 1) s.size) dotB = j) (e2 : (s.extract (i + 1) s.size).extract 0 j = q)
    (h3 : Lib.indexB ((s.extract (i + 1) s.size).extract (j + 1) (s.extract (i + 1) s.size).size) dotB = -1) (e3 : (s.extract (i + 1) s.size).extract (j + 1) (s.extract (i + 1) s.size).size = r) : partsV s = [p, q, r] := by
  unfold partsV
  rw [split_hit (by decide) h1, e1]
  have hd : dotB.size = 1 := rfl
  rw [hd, split_hit (by decide) h2, e2, hd, e3]
  rw [e3] at h3
  rw [Lib.splitB_miss _ _ _ _ h3]
theorem one_piece {s : ByteArray} (h : Lib.indexB s orB = -1) : pieces s = [s] := by
  unfold pieces
  rw [Lib.splitB_miss _ _ _ _ h]
theorem TextR.one_piece {s : ByteArray} {r : List Spn} (h : Lib.indexB s orB = -1) (hp : PieceR s.data.toList r) (hc : Canon r) : TextR s r := by
  unfold TextR
  rw [Go.Proofs.YtpnchjbdjcihfaaGreatDoor.one_piece h]
  exact TextQ.nil.snoc (ps := []) hp ⟨hc, fun n => ⟨.inr, fun q => q.elim (fun q => absurd q (inL_nil n)) id⟩⟩
def rangedT : ByteArray := ⟨#[94, 49, 46, 50, 46, 48, 32, 33, 49, 46, 51, 46, 48]⟩
def rangedL : List Spn := [(1002000, 1003000), (1003001, 2000000)]
theorem ranged_w1 : WordR (wordB [94, 49, 46, 50, 46, 48]) [(1002000, 2000000)] := by
  refine .inr (.inr ⟨by decide, by decide, 6, 1, 2, 0, by decide +kernel, ⟨⟨#[49]⟩, ⟨#[50]⟩, ⟨#[48]⟩, ?_, ?_, ?_, ?_⟩, ⟨⟨?_, List.pairwise_singleton _ _⟩, fun n => ?_⟩⟩)
  · have e : (wordB [94, 49, 46, 50, 46, 48]).extract (opLen (wordB [94, 49, 46, 50, 46, 48])) (wordB [94, 49, 46, 50, 46, 48]).size = ⟨#[49, 46, 50, 46, 48]⟩ := by decide +kernel
    rw [e]
    exact parts3 (i := 1) (j := 1) (by decide +kernel) (by decide +kernel) (by decide +kernel) (by decide +kernel) (by decide +kernel) (by decide +kernel)
  · exact ⟨by decide +kernel, by decide +kernel, by omega, by omega⟩
  · exact ⟨by decide +kernel, by decide +kernel, by omega, by omega⟩
  · exact ⟨by decide +kernel, by decide +kernel, by omega, by omega⟩
  · intro s hs
    rw [List.mem_singleton.1 hs]; unfold Wide pastV; omega
  · rw [inL_one, if_neg (by decide)]
    have : opSpan 6 1 2 0 = (1002000, 2000000) := by decide +kernel
    rw [this]
theorem ranged_w2 : WordR (wordB [33, 49, 46, 51, 46, 48]) [(0, 1003000), (1003001, 1000000000)] := by
  refine .inr (.inr ⟨by decide, by decide, 1, 1, 3, 0, by decide +kernel, ⟨⟨#[49]⟩, ⟨#[51]⟩, ⟨#[48]⟩, ?_, ?_, ?_, ?_⟩, ⟨⟨?_, ?_⟩, fun n => ?_⟩⟩)
  · have e : (wordB [33, 49, 46, 51, 46, 48]).extract (opLen (wordB [33, 49, 46, 51, 46, 48])) (wordB [33, 49, 46, 51, 46, 48]).size = ⟨#[49, 46, 51, 46, 48]⟩ := by decide +kernel
    rw [e]
    exact parts3 (i := 1) (j := 1) (by decide +kernel) (by decide +kernel) (by decide +kernel) (by decide +kernel) (by decide +kernel) (by decide +kernel)
  · exact ⟨by decide +kernel, by decide +kernel, by omega, by omega⟩
  · exact ⟨by decide +kernel, by decide +kernel, by omega, by omega⟩
  · exact ⟨by decide +kernel, by decide +kernel, by omega, by omega⟩
  · intro s hs
    simp only [List.mem_cons, List.not_mem_nil, or_false] at hs
    rcases hs with rfl | rfl <;> (unfold Wide pastV; omega)
  · simp
  · rw [inL_cons, inL_one, if_pos rfl]
    have : opSpan 1 1 3 0 = (1003000, 1003001) := by decide +kernel
    rw [this]
    unfold inS pastV
    simp only
    omega
theorem ranged_canon : Canon rangedL := by
  refine ⟨?_, ?_⟩
  · intro s hs
    simp only [rangedL, List.mem_cons, List.not_mem_nil, or_false] at hs
    rcases hs with rfl | rfl <;> (unfold Wide pastV; omega)
  · simp [rangedL]
theorem ranged_text : TextR rangedT rangedL := by
  refine TextR.one_piece (by decide +kernel) ⟨by decide +kernel, ?_⟩ ranged_canon
  have e : words rangedT.data.toList = [[94, 49, 46, 50, 46, 48]] ++ [[33, 49, 46, 51, 46, 48]] := by decide +kernel
  rw [e]
  refine PieceQ.snoc (r := [(1002000, 2000000)]) (PieceQ.snoc (ws := []) PieceQ.nil ranged_w1 ⟨ranged_w1.canon, fun n => ?_⟩) ranged_w2 ⟨ranged_canon, fun n => ?_⟩
  · rw [inL_one, inL_one]
    unfold inS pastV
    simp only
    omega
  · unfold rangedL
    simp only [inL_cons, inL_nil, or_false, inS]
    omega
theorem ranged_has : hasV rangedL 1 9 9 = true ∧ hasV rangedL 1 3 0 = false ∧ hasV rangedL 2 0 0 = false := by decide +kernel

theorem okRange {s : ByteArray} {r : List Spn} {w w' : World} {e : Ending} (h : RangeP s w e w') (hs : s.size ≤ 1000) (hr : TextR s r) :
    ∃ v, e = .returned (.tuple #[.agg #[v], .nilIface]) ∧ IsSp w' v r ∧ (∀ b, v.ownBlock = some b → w.heap.size ≤ b) ∧ Below w.heap.size w w' := by
  obtain ⟨v, r', er, rfl, h1, h2, _, h3, h4⟩ := h
  rcases h4 with ⟨rfl, _, h5⟩ | ⟨_, _, h5⟩
  · obtain rfl := h5.one hr
    exact ⟨v, rfl, h1, h2, h3⟩
  · exact absurd hr (h5 r hs)
set_option maxRecDepth 100000 in
set_option maxHeartbeats 4000000 in
theorem ranged_any (w : World) (hL : LaidR w) (hT : TypeLaid w) : Calls Tryz.prog 7 #[] w fun e w' => e = .returned (.bool true) ∧ Below w.heap.size w w' := by
  have HR := Lib.hid (range_any rangedT w (by decide) hL hT)
  unfold rangedT at HR
  clear hL hT
  go_enter Tryz.func7, Tryz.ntmps7
  go_wp2_with fail
  refine HR.out.mono ?_
  intro e w1 hp
  obtain ⟨v, rfl, hsp, _, hb1⟩ := okRange hp (by decide) ranged_text
  clear hp
  obtain ⟨a, c, rfl, _⟩ := hsp.shape
  obtain ⟨W2, hW2⟩ : ∃ W2, W2 = w1.alloc (.cells #[.slice a rangedL.length c] 24) := ⟨_, rfl⟩
  have hb2 : Below w1.heap.size w1 W2 := by rw [hW2]; exact (Below.refl _ _).alloc (Nat.le_refl _) _
  have hk2 : W2.heap[w1.heap.size]? = some (.cells #[.slice a rangedL.length c] 24 (0, 0)) := by rw [hW2]; exact heap_at rfl
  have hs2 := hsp.below hb2
  have H1 := has_any _ rangedL 1 9 9 W2 hs2
  rw [ranged_has.1] at H1
  have H1 := Lib.hid H1; have Hk2 := Lib.hid hk2; have Hs2 := Lib.hid hs2; have HB2 := Lib.hid (hb1.trans (hb2.mono hb1.size))
  have d1 := cell_of_one hk2
  clear hsp hb1 hb2 hk2 hs2 HR
  go_upto_region 2 with fail
  rw [← hW2]
  clear hW2
  go_wp2_with fail
  refine H1.out.mono ?_
  rintro e w3 ⟨rfl, hb3⟩
  have hk3 := (hb3.block _ (lt_of_block Hk2.out)).trans Hk2.out
  have hs3 := Hs2.out.below hb3
  have H2 := has_any _ rangedL 1 3 0 w3 hs3
  rw [ranged_has.2.1] at H2
  have H2 := Lib.hid H2; have Hk3 := Lib.hid hk3; have Hs3 := Lib.hid hs3; have HB3 := Lib.hid (HB2.out.trans (hb3.mono HB2.out.size))
  have d2 := cell_of_one hk3
  clear hb3 hk3 hs3 H1
  go_wp2_with fail
  refine H2.out.mono ?_
  rintro e w4 ⟨rfl, hb4⟩
  have hk4 := (hb4.block _ (lt_of_block Hk3.out)).trans Hk3.out
  have H3 := has_any _ rangedL 2 0 0 w4 (Hs3.out.below hb4)
  rw [ranged_has.2.2] at H3
  have H3 := Lib.hid H3; have HB4 := Lib.hid (HB3.out.trans (hb4.mono HB3.out.size))
  have d3 := cell_of_one hk4
  clear hb4 hk4 H2
  go_wp2_with fail
  refine H3.out.mono ?_
  rintro e w5 ⟨rfl, hb5⟩
  have HB5 := Lib.hid (HB4.out.trans (hb5.mono HB4.out.size))
  clear hb5 H3
  go_wp2_with fail
  go_ret
  exact ⟨rfl, HB5.out⟩
end Go.Proofs.YtpnchjbdjcihfaaGreatDoor
