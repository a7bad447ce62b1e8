/- Contract: Version.caret. -/
import Derived.Test.YtheemhelioendaaGreatDoorHas
namespace Go.Proofs.YtheemhelioendaaGreatDoor
open Go.RowKit
set_option linter.unusedVariables false

def caretV (a b c : Int) : Int := if 0 < a then numV (a + 1) 0 0 else if 0 < b then numV 0 (b + 1) 0 else numV 0 0 (c + 1)
set_option maxHeartbeats 2000000 in
theorem caret_any (a b c : Int) (w : World) (ha : 0 ≤ a ∧ a ≤ 999) (hb : 0 ≤ b ∧ b ≤ 999) (hc : 0 ≤ c ∧ c ≤ 999) : Calls Tryz.prog 145 #[.agg #[.int .i64 a, .int .i64 b, .int .i64 c]] w fun e w' => e = .returned (.int .i64 (caretV a b c)) ∧ Below w.heap.size w w' := by
  have hal : Below w.heap.size w (w.alloc (.cells #[.int .i64 a, .int .i64 b, .int .i64 c] 46)) := (Below.refl _ _).alloc (Nat.le_refl _) _
  have Hal := Lib.hid hal; clear hal
  by_cases h1 : 0 < a
  · have d1 : decide (0 < a) = true := by simpa using h1
    have e : caretV a b c = numV (a + 1) 0 0 := if_pos h1
    have Hn := Lib.hid (number_any (a + 1) 0 0 (w.alloc (.cells #[.int .i64 a, .int .i64 b, .int .i64 c] 46)) (by omega) (by omega) (by omega))
    rw [e]
    generalize numV (a + 1) 0 0 = N at Hn ⊢
    clear e
    obtain ⟨a1, a2⟩ := ha
    go_enter Tryz.func145, Tryz.ntmps145
    go_wp2_with fail
    refine Hn.out.mono ?_
    rintro e w1 ⟨rfl, hb1⟩
    have Hb1 := Lib.hid (Hal.out.trans (hb1.mono Hal.out.size)); clear hb1
    go_wp2_with fail
    go_ret
    exact ⟨rfl, Hb1.out⟩
  · have d1 : decide (0 < a) = false := by simpa using h1
    by_cases h2 : 0 < b
    · have d2 : decide (0 < b) = true := by simpa using h2
      have e : caretV a b c = numV 0 (b + 1) 0 := by unfold caretV; rw [if_neg h1, if_pos h2]
      have Hn := Lib.hid (number_any 0 (b + 1) 0 (w.alloc (.cells #[.int .i64 a, .int .i64 b, .int .i64 c] 46)) (by omega) (by omega) (by omega))
      rw [e]
      generalize numV 0 (b + 1) 0 = N at Hn ⊢
      clear e
      obtain ⟨b1, b2⟩ := hb
      go_enter Tryz.func145, Tryz.ntmps145
      go_wp2_with fail
      refine Hn.out.mono ?_
      rintro e w1 ⟨rfl, hb1⟩
      have Hb1 := Lib.hid (Hal.out.trans (hb1.mono Hal.out.size)); clear hb1
      go_wp2_with fail
      go_ret
      exact ⟨rfl, Hb1.out⟩
    · have d2 : decide (0 < b) = false := by simpa using h2
      have e : caretV a b c = numV 0 0 (c + 1) := by unfold caretV; rw [if_neg h1, if_neg h2]
      have Hn := Lib.hid (number_any 0 0 (c + 1) (w.alloc (.cells #[.int .i64 a, .int .i64 b, .int .i64 c] 46)) (by omega) (by omega) (by omega))
      rw [e]
      generalize numV 0 0 (c + 1) = N at Hn ⊢
      clear e
      obtain ⟨c1, c2⟩ := hc
      go_enter Tryz.func145, Tryz.ntmps145
      go_wp2_with fail
      refine Hn.out.mono ?_
      rintro e w1 ⟨rfl, hb1⟩
      have Hb1 := Lib.hid (Hal.out.trans (hb1.mono Hal.out.size)); clear hb1
      go_wp2_with fail
      go_ret
      exact ⟨rfl, Hb1.out⟩
end Go.Proofs.YtheemhelioendaaGreatDoor
