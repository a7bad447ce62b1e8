/- Contracts: solspacekeep.solves, solspacekeep.ahead. -/
import Derived.Test.YtpkemgkaledcoaaComplete
namespace Go.Proofs.Ytpkemgkaledcoaa
open Go.RowKit
set_option linter.unusedVariables false

/-- A proof of clauses refutes them. -/
theorem no_of_proof {m : Int} {l ls : List (List Int)} (hz : ∀ d ∈ l, NoZero d) (hr : ∀ i (h : i < ls.length), Rup m (l ++ ls.take i) ls[i]) (hl : ls.getLast? = some []) (v : Nat) : allB v l = false := by
  cases hv : allB v l
  · rfl
  · exfalso
    have hzz : ∀ d ∈ ls, NoZero d := by
      intro d hd x hx
      obtain ⟨i, hi, rfl⟩ := List.getElem_of_mem hd
      exact (lit_of_good (hr i hi).1 hx).1
    have key : ∀ i, i ≤ ls.length → allB v (l ++ ls.take i) = true := by
      intro i
      induction i with
      | zero => intro _; simpa using hv
      | succ i ih =>
        intro hi
        have h1 := ih (by omega)
        have h2 := (hr i (by omega)).sound (fun d hd => (List.mem_append.1 hd).elim (hz d) (fun h => hzz d (List.mem_of_mem_take h))) h1
        rw [List.take_succ_eq_append_getElem (by omega), ← List.append_assoc, allB_append, h1]
        simp [allB, h2]
    have h1 := key ls.length (Nat.le_refl _)
    rw [List.take_length, allB_append] at h1
    have h2 : allB v ls = true := by simp at h1; exact h1.2
    have h3 : ([] : List Int) ∈ ls := List.mem_of_getLast? hl
    have h4 := List.all_eq_true.1 h2 _ h3
    simp [clB] at h4

theorem small_of_bits {v : Nat} {m : Nat} (h : ∀ k : Nat, (m : Int) ≤ k → v.testBit k = false) : v < 2 ^ m := Nat.lt_pow_two_of_testBit v (fun i hi => h i (by omega))

theorem say_a {holds : Bool} {vals : Nat} {vp err : Value} {w : World} (h : SolveSay 2 [[-1, 2], [1]] holds vals vp err w) : holds = true ∧ vals = 3 ∧ vp = .slice none 0 0 ∧ err = .nilIface := by
  have hg : Good 2 [[-1, 2], [1]] := ⟨by decide, by decide, by decide, by decide⟩
  have he := h.small hg (by decide)
  cases holds
  · obtain ⟨_, ls, _, _, h1, h2, _⟩ := h.no hg he rfl
    exact absurd (no_of_proof (by unfold NoZero; decide) h1 h2 3) (by decide)
  · obtain ⟨h1, h2, h3, _⟩ := h.yes hg he rfl
    have h4 : vals < 2 ^ 2 := small_of_bits h3
    have h5 : vals = 0 ∨ vals = 1 ∨ vals = 2 ∨ vals = 3 := by omega
    refine ⟨rfl, ?_, h1, he⟩
    rcases h5 with rfl | rfl | rfl | rfl
    · exact absurd h2 (by decide)
    · exact absurd h2 (by decide)
    · exact absurd h2 (by decide)
    · rfl

theorem say_b {holds : Bool} {vals : Nat} {vp err : Value} {w : World} (h : SolveSay 1 [[1], [-1]] holds vals vp err w) : holds = false ∧ vals = 0 ∧ (∃ a c, vp = .slice a 1 c) ∧ err = .nilIface := by
  have hg : Good 1 [[1], [-1]] := ⟨by decide, by decide, by decide, by decide⟩
  have he := h.small hg (by decide)
  cases holds
  · obtain ⟨h0, ls, h3, _, _, _, h1⟩ := h.no hg he rfl
    obtain rfl := h1 (rup_ends 1 _ (by simp) (by simp))
    obtain ⟨a, c, h4, _⟩ := h3.shape
    exact ⟨rfl, h0, ⟨a, c, h4⟩, he⟩
  · obtain ⟨h1, h2, h3, _⟩ := h.yes hg he rfl
    have h4 : vals < 2 ^ 1 := small_of_bits h3
    have h5 : vals = 0 ∨ vals = 1 := by omega
    rcases h5 with rfl | rfl
    · exact absurd h2 (by decide)
    · exact absurd h2 (by decide)

theorem lits_a (w : World) : IsRows (((w.alloc (.cells #[.int .i64 (-1), .int .i64 2] 3)).alloc (.cells #[.int .i64 1] 3)).alloc (.cells #[.slice (some ⟨w.heap.size, 0, none⟩) 2 2, .slice (some ⟨w.heap.size + 1, 0, none⟩) 1 1] 42))
    (.slice (some ⟨w.heap.size + 1 + 1, 0, none⟩) 2 2) [[-1, 2], [1]] :=
  isRows_row _ _ (heap_at (by simp only [alloc_size])) rfl (rowVals_two (isInts_row [-1, 2] (heap_up (heap_up (heap_at rfl))) rfl rfl (Nat.le_refl _) (by decide) (by decide))
    (isInts_row [1] (heap_up (heap_at (by simp only [alloc_size]))) rfl rfl (Nat.le_refl _) (by decide) (by decide))) rfl (Nat.le_refl _) (by decide) (by decide)
theorem lits_b (w : World) (n : Nat) (hn : w.heap.size = n) : IsRows (((w.alloc (.cells #[.int .i64 1] 3)).alloc (.cells #[.int .i64 (-1)] 3)).alloc (.cells #[.slice (some ⟨n, 0, none⟩) 1 1, .slice (some ⟨n + 1, 0, none⟩) 1 1] 42))
    (.slice (some ⟨n + 1 + 1, 0, none⟩) 2 2) [[1], [-1]] := by
  subst hn
  exact isRows_row _ _ (heap_at (by simp only [alloc_size])) rfl (rowVals_two (isInts_row [1] (heap_up (heap_up (heap_at rfl))) rfl rfl (Nat.le_refl _) (by decide) (by decide))
    (isInts_row [-1] (heap_up (heap_at (by simp only [alloc_size]))) rfl rfl (Nat.le_refl _) (by decide) (by decide))) rfl (Nat.le_refl _) (by decide) (by decide)

set_option maxHeartbeats 1000000 in
theorem solves_any (w : World) : Calls Try.prog 12 #[] w fun e w' => e = .returned (.bool true) ∧ Below w.heap.size w w' := by
  go_enter Try.func12, Try.ntmps12
  go_wp2_with fail
  refine (solve_any 2 _ [[-1, 2], [1]] _ (lits_a w)).mono ?_
  rintro e w1 ⟨⟨holds, vals, vp, err, rfl, -, hs⟩, hb⟩
  obtain ⟨rfl, rfl, rfl, rfl⟩ := say_a hs
  have Hb := Lib.hid hb; clear hb hs
  go_wp2_with fail
  with_reducible refine (solve_any 1 _ [[1], [-1]] _ (lits_b (w1.alloc (.cells #[.bool true, .int .u64 3, .slice none 0 0] 33)) (w1.heap.size + 1) (by simp only [alloc_size]))).mono ?_
  rintro e w2 ⟨⟨holds, vals, vp, err, rfl, -, hs⟩, hb2⟩
  obtain ⟨rfl, rfl, ⟨a, c, rfl⟩, rfl⟩ := say_b hs
  have h2 : Below (w1.alloc (.cells #[.bool true, .int .u64 3, .slice none 0 0] 33)).heap.size (w1.alloc (.cells #[.bool true, .int .u64 3, .slice none 0 0] 33)) w2 :=
    (((Below.refl _ _).alloc (Nat.le_refl _) _).alloc (by simp only [alloc_size]; omega) _).alloc (by simp only [alloc_size]; omega) _ |>.trans (hb2.mono (by simp only [alloc_size]; omega))
  have h3 : Below w2.heap.size w2 (w2.alloc (.cells #[.bool false, .int .u64 0, .slice a 1 c] 33)) := (Below.refl _ _).alloc (Nat.le_refl _) _
  obtain ⟨hc0, hc1, hc2⟩ := ans_cells (h2.trans (h3.mono h2.size))
  obtain ⟨hd0, hd1, hd2⟩ := ans_cells (Below.refl _ (w2.alloc (.cells #[.bool false, .int .u64 0, .slice a 1 c] 33)))
  have Hb2 := Lib.hid hb2; have H2 := Lib.hid h2; have H3 := Lib.hid h3; clear hb2 hs h2 h3
  go_wp2_with fail
  go_ret
  refine ⟨rfl, ?_⟩
  have h1 : Below w.heap.size w w1 := (((((Below.refl _ _).alloc (Nat.le_refl _) _).alloc (by simp only [alloc_size]; omega) _).alloc (by simp only [alloc_size]; omega) _)).trans (Hb.out.mono (by simp only [alloc_size]; omega))
  have h4 : Below w.heap.size w w2 := (h1.alloc h1.size _).trans (H2.out.mono (by have := h1.size; simp; omega))
  exact h4.trans (H3.out.mono h4.size)
end Go.Proofs.Ytpkemgkaledcoaa
