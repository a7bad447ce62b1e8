/- Contracts: Size, truth, space. -/
import Derived.Test.YthmflcmbaldflaaGreatDoorRoom
namespace Go.Proofs.YthmflcmbaldflaaGreatDoor
open Go.RowKit
set_option linter.unusedVariables false

set_option maxHeartbeats 1000000 in
theorem Size_any (V : Int) (h : Int) (w : World) (s : Sb) (st : Sp) (hs : IsSpace w s V st) (so : SOk V st) (hh : hasM st.c h = true) :
    Calls Tryz.prog 13 #[.pointer (some ⟨s.ps, 0, none⟩), .int .i64 h] w fun e w' => e = .returned (.tuple #[.int .i64 (reachM st.c [h]).length, .nilIface]) ∧ Below w.heap.size w w' := by
  have hlen := hs.ar.len
  have hR := hs.ar.room.2
  have lh : h ≤ 9223372036854775807 := by have := hasM_le hh; omega
  have c0 := hs.s0
  have lps := hs.lps
  have hha := ahas_any h w s.b st.c hs.ar lh
  rw [hh] at hha
  have hb : Below w.heap.size w (w.alloc (.cells #[.int .i64 h] 3)) := (Below.refl _ _).alloc (Nat.le_refl _) _
  have hre := reach_any (.slice (some ⟨w.heap.size, 0, none⟩) 1 1) [h] (w.alloc (.cells #[.int .i64 h] 3)) s.b st.c (hs.ar.below hb) so.ok (isInts_row [h] (heap_at rfl) rfl rfl (Nat.le_refl _) (by decide) (by simp)) (by simp) (fun y hy => by rw [List.mem_singleton.1 hy]; exact lh)
  have Hha := Lib.hid hha; have Hre := Lib.hid hre; have Hb := Lib.hid hb
  clear hha hre hb hs so hh hlen hR
  go_enter Tryz.func13, Tryz.ntmps13
  go_wp2_with fail
  refine Hha.out.mono ?_
  rintro e w' ⟨rfl, rfl⟩
  go_wp2_with fail
  refine Hre.out.mono ?_
  rintro e w1 ⟨⟨v, rfl, hi, _⟩, hb1⟩
  obtain ⟨a, c, rfl, hl1, hl2, _⟩ := hi.shape
  have Hb1 := Lib.hid hb1; clear hb1 hi
  go_wp2_with fail
  go_ret2
  exact ⟨rfl, Hb.out.trans (Hb1.out.mono Hb.out.size)⟩

set_option maxHeartbeats 2000000 in
theorem truth_any (w : World) : Calls Tryz.prog 6 #[] w fun e w' => e = .returned (.bool true) ∧ Below w.heap.size w w' := by
  go_enter Tryz.func6, Tryz.ntmps6
  go_wp2_with fail
  refine (bnew_any 2 50 w (by decide) (by decide) (by decide) (by decide)).mono ?_
  rintro e w1 ⟨⟨s, rfl, hR, hs, hp, hm⟩, hb1⟩
  have so : SOk 2 ⟨List.replicate 50 none, noQ⟩ := SOk.none (COk.empty 2 50)
  have hl := Lit_any 2 1 true w1 s _ hs (by decide) (by decide)
  have hc0 : cnt (List.replicate 50 none : Cells) < (List.replicate 50 none : Cells).length := by decide
  have ok := litX_ok (V := 2) (by decide) true (v := 1) (by decide) (by decide) so hc0
  generalize litX ⟨List.replicate 50 none, noQ⟩ 1 true = R at hl ok
  have Hl := Lib.hid hl; have Ok := Lib.hid ok; have Hm := Lib.hid hm; have Hb1 := Lib.hid hb1
  clear hl ok hs hm hb1 so hc0 hR hp
  go_wp2_with fail
  refine Hl.out.mono ?_
  rintro e w2 ⟨rfl, hs2, ho2⟩
  rw [Ok.out.err]
  simp only [errV, if_true]
  have h1 := Holds_any 2 R.2.1 2 w2 s R.1 hs2 Ok.out.sok Ok.out.has
  rw [Ok.out.den, show ((bitAt 2 1) == true) = true by decide] at h1
  have Hs2 := Lib.hid hs2; have H1 := Lib.hid h1; have Ho2 := Lib.hid ho2; clear hs2 h1 ho2
  go_wp2_with fail
  refine H1.out.mono ?_
  rintro e w3 ⟨rfl, hb3⟩
  have h2 := Holds_any 2 R.2.1 1 w3 s R.1 (Hs2.out.below hb3) Ok.out.sok Ok.out.has
  rw [Ok.out.den, show ((bitAt 1 1) == true) = false by decide] at h2
  have H2 := Lib.hid h2; have Hb3 := Lib.hid hb3; clear h2 hb3
  go_wp2_with fail
  refine H2.out.mono ?_
  rintro e w4 ⟨rfl, hb4⟩
  have Hb4 := Lib.hid hb4; clear hb4
  go_wp2_with fail
  go_ret
  refine ⟨rfl, ((Hb1.out.trans (Ho2.out.below Hb1.out.size Hm.out)).trans (Hb3.out.mono ?_)).trans (Hb4.out.mono ?_)⟩
  all_goals (have := Hb1.out.size; have := Ho2.out.size; have := Hb3.out.size; omega)
end Go.Proofs.YthmflcmbaldflaaGreatDoor
