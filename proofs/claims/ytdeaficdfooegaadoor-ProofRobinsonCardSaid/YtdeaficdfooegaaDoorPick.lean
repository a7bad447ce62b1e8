/- Contract: pick. -/
import Derived.Test.YtdeaficdfooegaaDoorSweep
namespace Go.Proofs.YtdeaficdfooegaaDoor
open Go.RowKit
set_option linter.unusedVariables false

/-- pick, over an int (or uint) a and a length n. -/
def pickN (a : Int) (n : Nat) : Nat := (IntKind.u64.wrap a).toNat % n
theorem pickN_lt (a : Int) {n : Nat} (h : 0 < n) : pickN a n < n := Nat.mod_lt _ h
theorem pick_eq (a : Int) (n : Nat) (h0 : 0 < n) (h1 : n ≤ 1000000) : wrap64 ((IntKind.u64.wrap a).tmod n) = (pickN a n : Nat) := by
  have h := u64_nonneg a
  unfold pickN
  generalize IntKind.u64.wrap a = y at h
  obtain ⟨m, rfl⟩ := Int.eq_ofNat_of_zero_le h
  rw [Int.tmod_eq_emod_of_nonneg (by omega), Int.toNat_natCast, ← Int.natCast_emod]
  have := Nat.mod_lt m h0
  rw [IntWalk.wrap64_in _ ⟨by omega, by omega⟩]

theorem pick_any (a : Int) (n : Nat) (w : World) (h0 : 0 < n) (h1 : n ≤ 1000000) :
    Calls Tryd.prog 15 #[.int .i64 a, .int .i64 n] w fun e w' => e = .returned (.int .i64 (pickN a n)) ∧ w = w' := by
  have hp := pick_eq a n h0 h1
  have Hp := Lib.hid hp; clear hp
  go_enter Tryd.func15, Tryd.ntmps15
  go_wp2_with fail
  go_ret
  refine ⟨?_, rfl⟩
  rw [← Hp.out]
  rfl

end Go.Proofs.YtdeaficdfooegaaDoor
