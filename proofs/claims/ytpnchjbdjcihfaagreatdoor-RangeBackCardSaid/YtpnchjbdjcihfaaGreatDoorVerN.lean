/- version(n), and its text. -/
import Derived.Test.YtpnchjbdjcihfaaGreatDoorVerW
import Derived.Test.YtpnchjbdjcihfaaGreatDoorRTxtM
namespace Go.Proofs.YtpnchjbdjcihfaaGreatDoor
open Go.RowKit
set_option linter.unusedVariables false

set_option maxHeartbeats 1000000 in
/-- version(n). -/
theorem version_any (n : Int) (w : World) (h : 0 ≤ n ∧ n ≤ pastV) : Calls Tryz.prog 30 #[.int .i64 n] w fun e w' => e = .returned (.agg #[.int .i64 (n / 1000 / 1000), .int .i64 (n / 1000 % 1000), .int .i64 (n % 1000)]) ∧ Below w.heap.size w w' := by
  unfold pastV at h
  obtain ⟨h1, h2⟩ := h
  have e1 : 0 ≤ n / 1000 := by omega
  have e2 : n / 1000 ≤ 1000000 := by omega
  have e3 : 0 ≤ n / 1000 / 1000 := by omega
  have e4 : n / 1000 / 1000 ≤ 1000 := by omega
  go_enter Tryz.func30, Tryz.ntmps30
  go_wp2_with fail
  exact bodyPost_ret (v := .agg #[.int .i64 (n / 1000 / 1000), .int .i64 (n / 1000 % 1000), .int .i64 (n % 1000)]) (by simp [results, Tryz.results30, go_sem]) rfl ⟨rfl, (Below.refl _ _).alloc (Nat.le_refl _) _⟩
end Go.Proofs.YtpnchjbdjcihfaaGreatDoor
