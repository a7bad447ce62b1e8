/- Contract: solspacekeep.space. -/
import Derived.Test.YthmflcmbaldflaaGreatDoorSpaces
namespace Go.Proofs.YthmflcmbaldflaaGreatDoor
open Go.RowKit
set_option linter.unusedVariables false

set_option maxHeartbeats 1000000 in
theorem space_no (vars : Int) (vl : Value) (l : List Stp) (w : World) (hst : IsSteps w vl l) (h : vars < 1 ∨ 6 < vars ∨ 25 < l.length) :
    Calls Tryz.prog 5 #[.int .i64 vars, vl] w fun e w' => e = .returned (.tuple #[.pointer none, .slice none 0 0, .bool false]) ∧ w = w' := by
  obtain ⟨a, c, rfl, hl1, hl2⟩ := hst.shape
  clear hst
  by_cases h1 : vars < 1
  · go_enter Tryz.func5, Tryz.ntmps5
    go_wp2_with fail
    go_ret3
    exact ⟨rfl, rfl⟩
  · have e1 : decide (vars < 1) = false := by simpa using h1
    by_cases h2 : 6 < vars
    · go_enter Tryz.func5, Tryz.ntmps5
      go_wp2_with fail
      go_ret3
      exact ⟨rfl, rfl⟩
    · have e2 : decide (6 < vars) = false := by simpa using h2
      have h3 : 25 < l.length := by omega
      have h4 : (25 : Int) < (l.length : Int) := by omega
      go_enter Tryz.func5, Tryz.ntmps5
      go_wp2_with fail
      go_ret3
      exact ⟨rfl, rfl⟩

set_option maxHeartbeats 2000000 in
theorem space_ok (V : Nat) (vl : Value) (l : List Stp) (w : World) (hst : IsSteps w vl l) (h1 : 1 ≤ V) (h2 : V ≤ 6) (h3 : l.length ≤ 25) :
    Calls Tryz.prog 5 #[.int .i64 V, vl] w fun e w' => ∃ (s : Sb) (va : Value) (w1 : World), e = .returned (.tuple #[.pointer (some ⟨s.ps, 0, none⟩), va, .bool true]) ∧ Below w.heap.size w w1 ∧ (∀ k, s.mem k → w.heap.size ≤ k) ∧ w.heap.size ≤ s.ps ∧
      FSt w1 w' s V (funsX V l ⟨List.replicate 4000 none, noQ⟩ [0, 1]).1 va (funsX V l ⟨List.replicate 4000 none, noQ⟩ [0, 1]).2 := by
  obtain ⟨a, c, rfl, hl1, hl2⟩ := hst.shape
  have e1 : decide ((V : Int) < 1) = false := by simp; omega
  have e2 : decide (6 < (V : Int)) = false := by simp; omega
  have e3 : decide (25 < (l.length : Int)) = false := by simp; omega
  have f : FOk V ⟨List.replicate 4000 none, noQ⟩ [0, 1] := ⟨SOk.none (COk.empty V 4000), fun h hh => by
    rcases List.mem_cons.1 hh with rfl | hh
    · exact hasM_zero _
    · rw [List.mem_singleton.1 hh]; exact hasM_one _, by simp⟩
  have hc0 : cnt (List.replicate 4000 none : Cells) = 0 := by unfold cnt; rw [List.countP_replicate]; simp
  have hp : 2 ^ V ≤ 2 ^ 6 := Nat.pow_le_pow_right (by decide) h2
  have hr := (run_ok h1 (by omega) l _ _ f (by
    dsimp only
    rw [hc0, List.length_replicate]
    have : l.length * (2 * 2 ^ V) ≤ 25 * (2 * 2 ^ 6) := Nat.mul_le_mul h3 (by omega)
    omega)).1
  have Hst := Lib.hid hst; have Hf := Lib.hid f; have Hr := Lib.hid hr
  clear hst f hr hc0 hp
  go_enter Tryz.func5, Tryz.ntmps5
  go_wp2_with fail
  refine (bnew_any V 4000 w (by omega) (by omega) (by decide) (by decide)).mono ?_
  rintro e w1 ⟨⟨s, rfl, hR, hs, hp, hm⟩, hb1⟩
  have hfun := Functions_any V h1 h2 _ l w1 s _ hs Hf.out (fun w' ho => Hst.out.below (hb1.trans (ho.below hb1.size hm))) h3 Hr.out
  have Hfun := Lib.hid hfun; have Hm := Lib.hid hm; have Hb1 := Lib.hid hb1; have Hp := Lib.hid hp
  clear hfun hm hb1 hs hR hp Hr Hf
  go_wp2_with fail
  refine Hfun.out.mono ?_
  rintro e w2 ⟨va, rfl, hfs⟩
  have Hfs := Lib.hid hfs; clear hfs
  go_wp2_with fail
  go_ret3
  exact ⟨s, va, w1, rfl, Hb1.out, Hm.out, Hp.out, Hfs.out⟩
end Go.Proofs.YthmflcmbaldflaaGreatDoor
