/- Contracts: solspacekeep.ahead. -/
import Derived.Test.YtpkemgkaledcoaaHolds
import Derived.BigQuiet
import Derived.BigRegion
namespace Go.Proofs.Ytpkemgkaledcoaa
open Go.RowKit
set_option linter.unusedVariables false

def AheadPost (m x y : Nat) (w : World) (e : Ending) (w' : World) : Prop :=
  (∃ t : Bool, e = .returned (.bool t) ∧ (t = true → ∃ k, k < m ∧ (∀ i, i < k → x.testBit i = y.testBit i) ∧ x.testBit k = true ∧ y.testBit k = false)) ∧ Below w.heap.size w w'

set_option maxHeartbeats 1000000 in
theorem ahead_any (m x y : Nat) (w : World) (hm : m ≤ 24) (hx : x < 18446744073709551616) (hy : y < 18446744073709551616) :
    Calls Try.prog 13 #[.int .i64 m, .int .u64 x, .int .u64 y] w (AheadPost m x y w) := by
  go_enter Try.func13, Try.ntmps13
  go_wp2_with fail
  go_loopg [7, 8, 9] m (fun gk i u8 u9 wr => Below w.heap.size w wr ∧ ∃ k : Nat, k ≤ m ∧ gk = m - k ∧ i = .int .i64 k ∧ ∀ j, j < k → x.testBit j = y.testBit j)
  case atStart => exact ⟨Below.refl _ _, 0, Nat.zero_le _, rfl, rfl, fun j hj => absurd hj (Nat.not_lt_zero _)⟩
  case round =>
    obtain ⟨hb, k, hk, rfl, rfl, hsame⟩ := hrel
    have Hb := Lib.hid hb; have Hsame := Lib.hid hsame; clear hb hsame
    by_cases hlt : k < m
    · have ex := shr_and x k hx
      have ey := shr_and y k hy
      rw [Nat.min_eq_left (by omega)] at ex ey
      rcases hbx : x.testBit k with _ | _ <;> rcases hby : y.testBit k with _ | _
      all_goals rw [hbx] at ex
      all_goals rw [hby] at ey
      all_goals simp only [if_true, if_false, Bool.false_eq_true] at ex ey
      all_goals have Hbx := Lib.hid hbx
      all_goals have Hby := Lib.hid hby
      all_goals clear hbx hby
      all_goals go_wp2_with fail
      all_goals go_region
      · go_wp2_with fail
        go_roundg (m - (k + 1))
        case measure => omega
        case rel => exact ⟨Hb.out.drew, k + 1, by omega, rfl, by go_num, fun j hj => (Nat.lt_succ_iff_lt_or_eq.1 hj).elim (Hsame.out j) (fun e => by rw [e, Hbx.out, Hby.out])⟩
      · go_wp2_with fail
        go_ret
        exact ⟨⟨false, rfl, fun h => by cases h⟩, Hb.out.drew⟩
      · go_wp2_with fail
        go_ret
        exact ⟨⟨true, rfl, fun _ => ⟨k, hlt, Hsame.out, Hbx.out, Hby.out⟩⟩, Hb.out.drew⟩
      · go_wp2_with fail
        go_roundg (m - (k + 1))
        case measure => omega
        case rel => exact ⟨Hb.out.drew, k + 1, by omega, rfl, by go_num, fun j hj => (Nat.lt_succ_iff_lt_or_eq.1 hj).elim (Hsame.out j) (fun e => by rw [e, Hbx.out, Hby.out])⟩
    · go_wp2_with fail
      go_ret
      exact ⟨⟨false, rfl, fun h => by cases h⟩, Hb.out⟩
end Go.Proofs.Ytpkemgkaledcoaa
