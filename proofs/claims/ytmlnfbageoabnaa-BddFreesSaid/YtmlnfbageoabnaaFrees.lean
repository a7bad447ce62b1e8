/- The walk of BddFrees. -/
import Derived.Test.YtmlnfbageoabnaaFreesM
import Derived.Test.YtmlnfbageoabnaaSpaceF
namespace Go.Proofs.Ytmlnfbageoabnaa
open Go.RowKit
set_option linter.unusedVariables false

theorem first_run3 (V : Nat) (l : List Stp) (h1 : 1 ≤ V) (h2 : V ≤ 6) (h3 : l.length ≤ 25) : FOk V (funsX V l ⟨List.replicate 4000 none, noQ⟩ [0, 1]).1 (funsX V l ⟨List.replicate 4000 none, noQ⟩ [0, 1]).2 ∧
    (funsX V l ⟨List.replicate 4000 none, noQ⟩ [0, 1]).1.c.length = 4000 ∧ (funsX V l ⟨List.replicate 4000 none, noQ⟩ [0, 1]).2.length = l.length + 2 := by
  have f : FOk V ⟨List.replicate 4000 none, noQ⟩ [0, 1] := ⟨SOk.none (COk.empty V 4000), fun h hh => by
    rcases List.mem_cons.1 hh with rfl | hh
    · exact hasM_zero _
    · rw [List.mem_singleton.1 hh]; exact hasM_one _, by simp⟩
  have hc0 : cnt (List.replicate 4000 none : Cells) = 0 := by unfold cnt; rw [List.countP_replicate]; simp
  have hp : 2 ^ V ≤ 2 ^ 6 := Nat.pow_le_pow_right (by decide) h2
  have hm : l.length * (2 * 2 ^ V) ≤ 25 * (2 * 2 ^ 6) := Nat.mul_le_mul h3 (by omega)
  obtain ⟨_, a, b, c, d⟩ := run_ok h1 (by omega) l _ _ f (by dsimp only; rw [hc0, List.length_replicate]; omega)
  dsimp only at b
  rw [List.length_replicate] at b
  exact ⟨a, b, by rw [d]; simp; omega⟩
theorem reach_le (c : Cells) (s : List Int) : (reachM c s).length ≤ cnt c := by rw [← cnt_sweepM]; exact cnt_sweep_le c s

set_option maxRecDepth 100000 in
set_option maxHeartbeats 8000000 in
theorem frees_any (vars iv x : Int) (vl : Value) (l : List Stp) (w : World) (hst : IsSteps w vl l) :
    Calls Try.prog 5 #[.int .i64 vars, vl, .int .i64 iv, .int .u64 x] w fun e w' => e = .returned (.bool true) ∧ Below w.heap.size w w' := by
  by_cases hno : vars < 1 ∨ 6 < vars ∨ 25 < l.length
  · have Hn := Lib.hid (space_no vars vl l w hst hno)
    clear hno hst
    go_enter Try.func5, Try.ntmps5
    go_wp2_with fail
    refine Hn.out.mono ?_
    rintro e w1 ⟨rfl, rfl⟩
    go_wp2_with fail
    go_ret
    exact ⟨rfl, Below.refl _ _⟩
  obtain ⟨V, rfl⟩ : ∃ V : Nat, vars = V := ⟨vars.toNat, by omega⟩
  have h1 : 1 ≤ V := by omega
  have hV : V ≤ 6 := by omega
  have h3 : l.length ≤ 25 := by omega
  have Hsp := Lib.hid (space_ok V vl l w hst h1 hV h3)
  have Hst := Lib.hid hst
  clear hno hst
  go_enter Try.func5, Try.ntmps5
  go_wp2_with fail
  refine Hsp.out.mono ?_
  rintro e w2 ⟨s, va, w1, rfl, hb1, hm, hp, hfs⟩
  obtain ⟨fo, fl, fn⟩ := first_run3 V l h1 hV h3
  obtain ⟨st, est⟩ : ∃ z, z = (funsX V l ⟨List.replicate 4000 none, noQ⟩ [0, 1]).1 := ⟨_, rfl⟩
  obtain ⟨out, eout⟩ : ∃ z, z = (funsX V l ⟨List.replicate 4000 none, noQ⟩ [0, 1]).2 := ⟨_, rfl⟩
  rw [← est, ← eout] at hfs fo
  rw [← est] at fl
  rw [← eout] at fn
  obtain ⟨g, cap, rfl, hrow⟩ := owns_at hfs.own (by omega)
  have hpos : 0 < out.length := by omega
  have hlt := pickN_lt iv hpos
  have hcell := hrow _ hlt
  have hf := fo.has _ (List.getElem_mem hlt)
  obtain ⟨f, ef⟩ : ∃ z, z = out.getD (pickN iv out.length) 0 := ⟨_, rfl⟩
  have e0 : out[pickN iv out.length] = f := by rw [ef]; simp [hlt]
  rw [e0] at hcell hf
  clear e0
  have hfk : FOk V st [f] := ⟨fo.sok, fun h hh => by rw [List.mem_singleton.1 hh]; exact hf, by simp⟩
  obtain ⟨ag, ar⟩ := funs_same h1 hV l h3 est hf hfk
  rw [← eout] at ag
  have Ag := Lib.hid ag; have Ar := Lib.hid ar; have Hf := Lib.hid hf; have Ef := Lib.hid ef
  have hpk := fun w' => pick_any iv out.length w' hpos (by omega)
  have hqa : ((pickN iv out.length : Nat) : Int) < out.length := by exact_mod_cast hlt
  have hqn : pickN iv out.length < out.length := hlt
  clear hrow ag ar hf hlt ef
  obtain ⟨q, eq⟩ : ∃ z, z = pickN iv out.length := ⟨_, rfl⟩
  have Eq := Lib.hid eq
  rw [← eq] at hcell hpk hqa hqn
  clear eq est eout
  obtain ⟨D, hD⟩ : ∃ z, z = den st.c f (bitAt x) := ⟨_, rfl⟩
  obtain ⟨C, hC⟩ : ∃ z, z = cnt st.c := ⟨_, rfl⟩
  obtain ⟨R, hR⟩ : ∃ z, z = (reachM st.c [f]).length := ⟨_, rfl⟩
  have hRC : R ≤ C := by rw [hR, hC]; exact reach_le _ _
  have hC4 : C ≤ 4000 := by rw [hC, ← fl]; exact cnt_le _
  have Hpk := Lib.hid hpk; have HD := Lib.hid hD; have HC := Lib.hid hC; have HR := Lib.hid hR
  have Hfo := Lib.hid fo; have Hfn := Lib.hid fn; have Hb1 := Lib.hid hb1; have Hm := Lib.hid hm; have Hfs := Lib.hid hfs; have Hcell := Lib.hid hcell; have Hfk := Lib.hid hfk
  clear hpk hD hC hR fo fl fn hb1 hm hp hfs hcell hfk Hsp hpos
  go_wp2_with fail
  refine (truth_any _).mono ?_
  rintro e w3 ⟨rfl, hb3⟩
  have hcell3 : w3.cell? ⟨g, q, none⟩ = some (.int .i64 f) := (hb3.cell (World.block_lt_of_cell? _ _ Hcell.out)).trans Hcell.out
  have Hfs3 := Lib.hid (Hfs.out.grow hb3); clear hb3 Hfs Hcell
  go_wp2_with fail
  refine (Hpk.out _).mono ?_
  rintro e w' ⟨rfl, rfl⟩
  have Hq := Lib.hid (Holds_any V f x w3 s st Hfs3.out.sp Hfo.out.sok Hf.out)
  go_wp2_with fail
  refine Hq.out.mono ?_
  rintro e w4 ⟨rfl, hb4⟩
  rw [← HD.out]
  have Hfs4 := Lib.hid (Hfs3.out.grow hb4); clear hb4 Hfs3 hcell3 Hq
  have Hq := Lib.hid (Size_any V f w4 s st Hfs4.out.sp Hfo.out.sok Hf.out)
  go_wp2_with fail
  refine Hq.out.mono ?_
  rintro e w5 ⟨rfl, hb5⟩
  rw [← HR.out]
  have Hfs5 := Lib.hid (Hfs4.out.grow hb5); clear hb5 Hfs4 Hq
  have c0 := Hfs5.out.sp.s0
  have Hq := Lib.hid (len_any w5 s.b st.c Hfs5.out.sp.ar)
  go_wp2_with fail
  refine Hq.out.mono ?_
  rintro e w' ⟨rfl, rfl⟩
  rw [← HC.out]
  have hf6 := Hfs5.out.grow (w2 := w5.alloc (.cells #[.int .i64 f] 3)) ((Below.refl _ _).alloc (Nat.le_refl _) _)
  have lf : f ≤ 9223372036854775807 := by have := hasM_le Hf.out; have := Hfs5.out.sp.ar.len; have := Hfs5.out.sp.ar.room.2; omega
  have Hq := Lib.hid (Free_any V (.slice (some ⟨w5.heap.size, 0, none⟩) 1 1) [f] _ s st hf6.sp Hfo.out.sok.ok (isInts_row [f] (heap_at rfl) rfl rfl (Nat.le_refl _) (by decide) (by simp)) (by simp) (fun y hy => by rw [List.mem_singleton.1 hy]; exact lf))
  have Hfs6 := Lib.hid hf6; clear hf6 Hfs5 c0 lf
  go_wp2_with fail
  refine Hq.out.mono ?_
  rintro e w7 ⟨rfl, hs7, ho7⟩
  have hfn : freeN st [f] = (C : Int) - R := by rw [HC.out, HR.out]; rfl
  rw [hfn]
  have Hfs7 := Lib.hid (Hfs6.out.step ho7 hs7); clear hs7 ho7 Hfs6 Hq hfn
  have hso : FOk V (freeX st [f]) [f] := FOk.free Hfo.out.sok Hfk.out.has (by simp)
  have hq := Holds_any V f x w7 s (freeX st [f]) Hfs7.out.sp hso.sok (hso.has f (by simp))
  rw [den_free_keep Hfo.out.sok (by simp) Hf.out, ← HD.out] at hq
  have Hso := Lib.hid hso; have Hq := Lib.hid hq; clear hso hq
  go_wp2_with fail
  refine Hq.out.mono ?_
  rintro e w8 ⟨rfl, hb8⟩
  have Hfs8 := Lib.hid (Hfs7.out.grow hb8); clear hb8 Hfs7 Hq
  have hcf : cnt (freeX st [f]).c = R := by rw [HR.out]; exact cnt_sweepM _ _
  have c0 := Hfs8.out.sp.s0
  have hq := len_any w8 s.b (freeX st [f]).c Hfs8.out.sp.ar
  rw [hcf] at hq
  have Hq := Lib.hid hq; clear hq hcf
  go_wp2_with fail
  refine Hq.out.mono ?_
  rintro e w' ⟨rfl, rfl⟩
  have f0 : FOk V (freeX st [f]) [0, 1] := ⟨Hso.out.sok, fun h hh => by
    rcases List.mem_cons.1 hh with rfl | hh
    · exact hasM_zero _
    · rw [List.mem_singleton.1 hh]; exact hasM_one _, by simp⟩
  have hq := Functions_any V h1 hV vl l w8 s (freeX st [f]) Hfs8.out.sp f0 (fun w' ho => Hst.out.below (Hb1.out.trans ((Hfs8.out.only.trans ho).below Hb1.out.size Hm.out))) h3 Ar.out
  rw [Ag.out] at hq
  have Hq := Lib.hid hq; clear hq f0 c0
  go_wp2_with fail
  refine Hq.out.mono ?_
  rintro e w9 ⟨va, rfl, hfs9⟩
  obtain ⟨g2, cap2, rfl, hrow⟩ := owns_at hfs9.own (by omega)
  have hcell9 := hrow q hqn
  have ef9 : out[q] = f := by rw [Ef.out, ← Eq.out]; simp [hqn]
  rw [ef9] at hcell9
  have Hfs9 := Lib.hid hfs9; clear hfs9 hrow ef9 Hq
  go_wp2_with fail
  refine (Hpk.out _).mono ?_
  rintro e w' ⟨rfl, rfl⟩
  go_wp2_with fail
  go_ret
  exact ⟨rfl, Hb1.out.trans ((Hfs8.out.only.trans Hfs9.out.only).below Hb1.out.size Hm.out)⟩
end Go.Proofs.Ytmlnfbageoabnaa
