/- Contracts: slices.Equal at spans; Range.Same, Empty, Any. -/
import Derived.Test.YtheemhelioendaaGreatDoorNot
import Derived.Laws.StructEq
namespace Go.Proofs.YtheemhelioendaaGreatDoor
open Go.RowKit
set_option linter.unusedVariables false

set_option maxHeartbeats 1000000 in
theorem any_any (w : World) : Calls Tryz.prog 105 #[] w fun e w' => ∃ v, e = .returned (.agg #[v]) ∧ IsSp w' v [(0, pastV)] ∧ (∀ b, v.ownBlock = some b → w.heap.size ≤ b) ∧ Below w.heap.size w w' := by
  go_enter Tryz.func105, Tryz.ntmps105
  go_wp2_with fail
  refine bodyPost_ret (v := .agg #[.slice (some ⟨w.heap.size + 1, 0, none⟩) 1 1]) (by simp [results, Tryz.results105, go_sem]) rfl ⟨_, rfl, .inr ⟨w.heap.size + 1, 1, fun _ => (0, pastV), rfl, by decide, ⟨_, heap_at (by simp), Nat.le_refl _, rfl, fun k hk => ?_⟩, rfl⟩, fun b hb => (show w.heap.size ≤ b from (by have : w.heap.size + 1 = b := (by simpa [Value.ownBlock] using hb); omega)), ((Below.refl _ _).alloc (Nat.le_refl _) _).alloc (by simp) _⟩
  have : k = 0 := by simp at hk; exact hk
  subst this
  exact ⟨rfl, rfl⟩

set_option maxHeartbeats 1000000 in
theorem empty_any (v : Value) (l : List Spn) (w : World) (h : IsSp w v l) : Calls Tryz.prog 53 #[.agg #[v]] w fun e w' => e = .returned (.bool (decide (l = []))) ∧ Below w.heap.size w w' := by
  obtain ⟨a, c, rfl, hlc, hcm⟩ := h.shape
  have hd : decide (l = []) = ((l.length : Int) == 0) := by
    cases l with
    | nil => rfl
    | cons x r =>
      have : (((x :: r).length : Int) == 0) = false := by rw [beq_eq_false_iff_ne]; simp; omega
      rw [this]; simp
  rw [hd]
  have hal : Below w.heap.size w (w.alloc (.cells #[.slice a l.length c] 49)) := (Below.refl _ _).alloc (Nat.le_refl _) _
  have Hal := Lib.hid hal
  clear h hd hal
  go_enter Tryz.func53, Tryz.ntmps53
  go_wp2_with fail
  go_ret
  exact ⟨rfl, Hal.out⟩

end Go.Proofs.YtheemhelioendaaGreatDoor
