/- Contracts: solspacekeep.shown; the law ProofSound. -/
import Derived.Test.YtdeaficdfooegaaDoorShows
import Derived.Test.YtdeaficdfooegaaDoorFew
namespace Go.Proofs.YtdeaficdfooegaaDoor
open Go.RowKit
set_option linter.unusedVariables false

theorem rup_ends (m : Int) (all : List (List Int)) (h : [1] ∈ all) (h' : [-1] ∈ all) : Rup m all [] := by
  refine ⟨rfl, fun ⟨f, _, _, hs⟩ => ?_⟩
  have one : ∀ x, [x] ∈ all → lv f x = 1 := by
    intro x hx
    rcases hs _ hx with ⟨y, hy, h1⟩ | ⟨y, hy, z, hz, hne, _⟩
    · simp at hy; subst hy; exact h1
    · simp at hy hz; subst hy; subst hz; exact absurd rfl hne
  have h1 := one 1 h
  have h2 := one (-1) h'
  rw [lv_neg (by decide)] at h2
  omega

/-- The literal lists of the fact 'shown', in memory. -/
theorem lit_rows2 (w : World) : IsRows (((((w.alloc (.cells #[.int .i64 1] 3)).alloc (.cells #[.int .i64 (-1)] 3)).alloc (.cells #[.slice (some ⟨w.heap.size, 0, none⟩) 1 1, .slice (some ⟨w.heap.size + 1, 0, none⟩) 1 1] 54)).alloc (.cells #[] 3)).alloc (.cells #[.slice (some ⟨w.heap.size + 1 + 1 + 1, 0, none⟩) 0 0] 54))
    (.slice (some ⟨w.heap.size + 1 + 1, 0, none⟩) 2 2) [[1], [-1]] :=
  isRows_row _ _ (heap_up (heap_up (heap_at (by simp only [alloc_size])))) rfl (rowVals_two (isInts_row [1] (heap_up (heap_up (heap_up (heap_up (heap_at rfl))))) rfl rfl (Nat.le_refl _) (by decide) (by decide))
    (isInts_row [-1] (heap_up (heap_up (heap_up (heap_at (by simp only [alloc_size]))))) rfl rfl (Nat.le_refl _) (by decide) (by decide))) rfl (Nat.le_refl _) (by decide) (by decide)
theorem lit_rows0 (w : World) : IsRows (((((w.alloc (.cells #[.int .i64 1] 3)).alloc (.cells #[.int .i64 (-1)] 3)).alloc (.cells #[.slice (some ⟨w.heap.size, 0, none⟩) 1 1, .slice (some ⟨w.heap.size + 1, 0, none⟩) 1 1] 54)).alloc (.cells #[] 3)).alloc (.cells #[.slice (some ⟨w.heap.size + 1 + 1 + 1, 0, none⟩) 0 0] 54))
    (.slice (some ⟨w.heap.size + 1 + 1 + 1 + 1, 0, none⟩) 1 1) [[]] :=
  isRows_row _ _ (heap_at (by simp only [alloc_size])) rfl (rowVals_one (isInts_row [] (heap_up (heap_at (by simp only [alloc_size]))) rfl rfl (Nat.le_refl _) (by decide) (by decide))) rfl (Nat.le_refl _) (by decide) (by decide)

theorem lit_rows1 (w : World) : IsRows ((((w.alloc (.cells #[.int .i64 1] 3)).alloc (.cells #[.slice (some ⟨w.heap.size, 0, none⟩) 1 1] 54)).alloc (.cells #[] 3)).alloc (.cells #[.slice (some ⟨w.heap.size + 1 + 1, 0, none⟩) 0 0] 54))
    (.slice (some ⟨w.heap.size + 1, 0, none⟩) 1 1) [[1]] :=
  isRows_row _ _ (heap_up (heap_up (heap_at (by simp only [alloc_size])))) rfl (rowVals_one (isInts_row [1] (heap_up (heap_up (heap_up (heap_at rfl)))) rfl rfl (Nat.le_refl _) (by decide) (by decide))) rfl (Nat.le_refl _) (by decide) (by decide)
theorem lit_rows10 (w : World) : IsRows ((((w.alloc (.cells #[.int .i64 1] 3)).alloc (.cells #[.slice (some ⟨w.heap.size, 0, none⟩) 1 1] 54)).alloc (.cells #[] 3)).alloc (.cells #[.slice (some ⟨w.heap.size + 1 + 1, 0, none⟩) 0 0] 54))
    (.slice (some ⟨w.heap.size + 1 + 1 + 1, 0, none⟩) 1 1) [[]] :=
  isRows_row _ _ (heap_at (by simp only [alloc_size])) rfl (rowVals_one (isInts_row [] (heap_up (heap_at (by simp only [alloc_size]))) rfl rfl (Nat.le_refl _) (by decide) (by decide))) rfl (Nat.le_refl _) (by decide) (by decide)

set_option maxHeartbeats 1000000 in
theorem shown_any (w : World) : Calls Tryd.prog 28 #[] w fun e w' => e = .returned (.bool true) ∧ Below w.heap.size w w' := by
  go_enter Tryd.func28, Tryd.ntmps28
  go_wp2_with fail
  refine (shows_any 1 _ _ [[1], [-1]] [[]] _ (lit_rows2 w) (lit_rows0 w)).mono ?_
  rintro e w1 ⟨⟨ok, n, err, rfl, hs⟩, hb⟩
  obtain ⟨rfl, -, hc⟩ := hs.2 ⟨by decide, by decide, by decide, by decide⟩ (by decide)
  obtain ⟨rfl, rfl⟩ := hc (fun i h => by
    have : i = 0 := by simp at h; exact h
    subst this
    exact rup_ends 1 _ (by simp) (by simp)) rfl
  clear hs hc
  have Hb := Lib.hid hb; clear hb
  go_wp2_with fail
  refine (shows_any 1 _ _ [[1]] [[]] _ (lit_rows1 w1) (lit_rows10 w1)).mono ?_
  rintro e w2 ⟨⟨ok, n, err, rfl, hs⟩, hb2⟩
  obtain ⟨rfl, hsnd, -⟩ := hs.2 ⟨by decide, by decide, by decide, by decide⟩ (by decide)
  have hok : ok = false := by
    cases ok
    · rfl
    · exact absurd (hsnd rfl 1) (by decide)
  subst hok
  clear hs hsnd
  have Hb2 := Lib.hid hb2; clear hb2
  go_wp2_with fail
  go_ret
  refine ⟨rfl, ?_⟩
  have h1 : Below w.heap.size w w1 := (((((((Below.refl _ _).alloc (Nat.le_refl _) _).alloc (by simp only [alloc_size]; omega) _).alloc (by simp only [alloc_size]; omega) _).alloc (by simp only [alloc_size]; omega) _).alloc (by simp only [alloc_size]; omega) _)).trans (Hb.out.mono (by simp only [alloc_size]; omega))
  have h2 : Below w1.heap.size w1 w2 := ((((((Below.refl _ _).alloc (Nat.le_refl _) _).alloc (by simp only [alloc_size]; omega) _).alloc (by simp only [alloc_size]; omega) _).alloc (by simp only [alloc_size]; omega) _)).trans (Hb2.out.mono (by simp only [alloc_size]; omega))
  exact h1.trans (h2.mono h1.size)

theorem within_of_good {m : Int} {l : List (List Int)} (h : Good m l) : Within 1000 l := by
  intro c hc x hx
  have h1 := good_lit (h.2.2.2 c hc).2 hx
  have h2 := h.2.1
  omega

end Go.Proofs.YtdeaficdfooegaaDoor
