/- Contracts: Size, truth, space. -/
import Derived.Test.YtdeaficdfooegaaDoorRoom
namespace Go.Proofs.YtdeaficdfooegaaDoor
open Go.RowKit
set_option linter.unusedVariables false


set_option maxHeartbeats 2000000 in
theorem truth_any (w : World) : Calls Tryd.prog 20 #[] w fun e w' => e = .returned (.bool true) ∧ Below w.heap.size w w' := by
  go_enter Tryd.func20, Tryd.ntmps20
  go_wp2_with fail
  refine (bnew_any 2 50 w (by decide) (by decide) (by decide) (by decide)).mono ?_
  rintro e w1 ⟨⟨s, rfl, hR, hs, hp, hm⟩, hb1⟩
  have so : SOk 2 ⟨List.replicate 50 none, noQ⟩ := SOk.none (COk.empty 2 50)
  have hl := Lit_any 2 1 true w1 s _ hs (by decide) (by decide)
  have hc0 : cnt (List.replicate 50 none : Cells) < (List.replicate 50 none : Cells).length := by decide
  have ok := litX_ok (V := 2) (by decide) true (v := 1) (by decide) (by decide) so hc0
  generalize litX ⟨List.replicate 50 none, noQ⟩ 1 true = R at hl ok
  have Hl := Lib.hid hl; have Ok := Lib.hid ok; have Hm := Lib.hid hm; have Hb1 := Lib.hid hb1
  clear hl ok hs hm hb1 so hc0 hR hp
  go_wp2_with fail
  refine Hl.out.mono ?_
  rintro e w2 ⟨rfl, hs2, ho2⟩
  rw [Ok.out.err]
  simp only [errV, if_true]
  have h1 := Holds_any 2 R.2.1 2 w2 s R.1 hs2 Ok.out.sok Ok.out.has
  rw [Ok.out.den, show ((bitAt 2 1) == true) = true by decide] at h1
  have Hs2 := Lib.hid hs2; have H1 := Lib.hid h1; have Ho2 := Lib.hid ho2; clear hs2 h1 ho2
  go_wp2_with fail
  refine H1.out.mono ?_
  rintro e w3 ⟨rfl, hb3⟩
  have h2 := Holds_any 2 R.2.1 1 w3 s R.1 (Hs2.out.below hb3) Ok.out.sok Ok.out.has
  rw [Ok.out.den, show ((bitAt 1 1) == true) = false by decide] at h2
  have H2 := Lib.hid h2; have Hb3 := Lib.hid hb3; clear h2 hb3
  go_wp2_with fail
  refine H2.out.mono ?_
  rintro e w4 ⟨rfl, hb4⟩
  have Hb4 := Lib.hid hb4; clear hb4
  go_wp2_with fail
  go_ret
  refine ⟨rfl, ((Hb1.out.trans (Ho2.out.below Hb1.out.size Hm.out)).trans (Hb3.out.mono ?_)).trans (Hb4.out.mono ?_)⟩
  all_goals (have := Hb1.out.size; have := Ho2.out.size; have := Hb3.out.size; omega)
end Go.Proofs.YtdeaficdfooegaaDoor
