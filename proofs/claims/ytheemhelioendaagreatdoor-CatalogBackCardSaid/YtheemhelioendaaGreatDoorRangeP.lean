/- Contract: semver.ParseRange at whatever text. -/
import Derived.Test.YtheemhelioendaaGreatDoorRange1
namespace Go.Proofs.YtheemhelioendaaGreatDoor
open Go.RowKit
set_option linter.unusedVariables false

set_option maxRecDepth 100000 in
set_option maxHeartbeats 4000000 in
theorem range_any (s : ByteArray) (w : World) (hm : s.size ≤ 9223372036854775807) (hL : LaidR w) (hT : TypeLaid w) : Calls Tryz.prog 103 #[.string s] w (RangeP s w) := by
  by_cases hs : s.size ≤ 1000
  · exact range_short s w hs hL hT
  · have hd : decide (1000 < (s.size : Int)) = true := by simp; omega
    have Hs := Lib.hid hs
    clear hs hL hT
    go_enter Tryz.func103, Tryz.ntmps103
    go_wp2_with fail
    exact bodyPost_ret (v := .tuple #[.agg #[.slice none 0 0], .iface 43 (.int .i64 4)]) (by simp [results, Tryz.results103, go_sem]) rfl ⟨_, [], _, rfl, IsSp.nil _, fun b hb => (by cases hb), by simp, ((Below.refl _ _).alloc (Nat.le_refl _) _).alloc (by simp) _, .inr ⟨.inl ⟨_, rfl⟩, rfl, fun r h _ => Hs.out h⟩⟩
theorem RangeP.ok {s : ByteArray} {w w' : World} {e : Ending} (h : RangeP s w e w') : True := trivial
end Go.Proofs.YtheemhelioendaaGreatDoor
