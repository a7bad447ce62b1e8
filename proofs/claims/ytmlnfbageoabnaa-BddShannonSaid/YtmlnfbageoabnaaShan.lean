/- The walk of BddShannon. -/
import Derived.Test.YtmlnfbageoabnaaShanM
namespace Go.Proofs.Ytmlnfbageoabnaa
open Go.RowKit
set_option linter.unusedVariables false

theorem first_run (V : Nat) (l : List Stp) (h1 : 1 ≤ V) (h2 : V ≤ 6) (h3 : l.length ≤ 25) : FOk V (funsX V l ⟨List.replicate 4000 none, noQ⟩ [0, 1]).1 (funsX V l ⟨List.replicate 4000 none, noQ⟩ [0, 1]).2 ∧
    (funsX V l ⟨List.replicate 4000 none, noQ⟩ [0, 1]).1.c.length = 4000 ∧ cnt (funsX V l ⟨List.replicate 4000 none, noQ⟩ [0, 1]).1.c ≤ 3200 ∧ (funsX V l ⟨List.replicate 4000 none, noQ⟩ [0, 1]).2.length = l.length + 2 := by
  have f : FOk V ⟨List.replicate 4000 none, noQ⟩ [0, 1] := ⟨SOk.none (COk.empty V 4000), fun h hh => by
    rcases List.mem_cons.1 hh with rfl | hh
    · exact hasM_zero _
    · rw [List.mem_singleton.1 hh]; exact hasM_one _, by simp⟩
  have hc0 : cnt (List.replicate 4000 none : Cells) = 0 := by unfold cnt; rw [List.countP_replicate]; simp
  have hp : 2 ^ V ≤ 2 ^ 6 := Nat.pow_le_pow_right (by decide) h2
  have hm : l.length * (2 * 2 ^ V) ≤ 25 * (2 * 2 ^ 6) := Nat.mul_le_mul h3 (by omega)
  obtain ⟨_, a, b, c, d⟩ := run_ok h1 (by omega) l _ _ f (by dsimp only; rw [hc0, List.length_replicate]; omega)
  dsimp only at b c d
  rw [hc0] at c
  rw [List.length_replicate] at b
  exact ⟨a, b, by omega, by rw [d]; simp; omega⟩

set_option maxHeartbeats 8000000 in
theorem shannon_any (vars v : Int) (vl : Value) (l : List Stp) (w : World) (hst : IsSteps w vl l) :
    Calls Try.prog 4 #[.int .i64 vars, vl, .int .i64 v] w fun e w' => e = .returned (.bool true) ∧ Below w.heap.size w w' := by
  by_cases hno : vars < 1 ∨ 6 < vars ∨ 25 < l.length
  · have Hn := Lib.hid (space_no vars vl l w hst hno)
    clear hno hst
    go_enter Try.func4, Try.ntmps4
    go_wp2_with fail
    refine Hn.out.mono ?_
    rintro e w1 ⟨rfl, rfl⟩
    go_wp2_with fail
    go_ret
    exact ⟨rfl, Below.refl _ _⟩
  obtain ⟨V, rfl⟩ : ∃ V : Nat, vars = V := ⟨vars.toNat, by omega⟩
  have h1 : 1 ≤ V := by omega
  have h2 : V ≤ 6 := by omega
  have h3 : l.length ≤ 25 := by omega
  have Hsp := Lib.hid (space_ok V vl l w hst h1 h2 h3)
  clear hno hst
  go_enter Try.func4, Try.ntmps4
  go_wp2_with fail
  refine Hsp.out.mono ?_
  rintro e w2 ⟨s, va, w1, rfl, hb1, hm, hp, hfs⟩
  obtain ⟨fo, fl, fc, fn⟩ := first_run V l h1 h2 h3
  generalize (funsX V l ⟨List.replicate 4000 none, noQ⟩ [0, 1]).1 = st at hfs fo fl fc
  generalize (funsX V l ⟨List.replicate 4000 none, noQ⟩ [0, 1]).2 = out at hfs fo fn
  have hpos : out.length - 1 < out.length := by omega
  obtain ⟨g, cap, rfl, hrow⟩ := owns_at hfs.own (by omega)
  have hcell := hrow _ hpos
  have hf := fo.has _ (List.getElem_mem hpos)
  generalize out[out.length - 1] = f at hcell hf
  have gv := pickN_lt v (show 0 < V by omega)
  have hpk := fun w' => pick_any v V w' (by omega) (by omega)
  generalize pickN v V = u at gv hpk
  have hpw : 2 ^ (V : Int).toNat ≤ 64 := by
    have : 2 ^ V ≤ 2 ^ 6 := Nat.pow_le_pow_right (by decide) h2
    simpa using this
  obtain ⟨x, a, b, gg, sm, o, ea, an, S⟩ := shan_ok (V := V) (by omega) (f := f) (v := u) (by omega) (by omega) fo.sok hf (by omega)
  have hF : hasM x.1.c f = true ∧ hasM a.1.c f = true ∧ hasM gg.1.c f = true ∧ hasM o.1.c f = true := by
    have q1 := S.kx.hasOld hf; have q2 := S.ka.hasOld q1; have q3 := S.kg.hasOld (S.kb.hasOld q2)
    exact ⟨q1, q2, q3, S.ko.hasOld (S.kso.hasOld q3)⟩
  have hA : hasM sm.1.c a.2.1 = true ∧ hasM sm.1.c b.2.1 = true := ⟨S.kso.hasOld (S.kg.hasOld (S.kb.hasOld S.ka.has)), S.kso.hasOld (S.kg.hasOld S.kb.has)⟩
  have hR : cnt x.1.c + 2 ^ (V : Int).toNat ≤ x.1.c.length + 1 ∧ cnt a.1.c + 2 ^ (V : Int).toNat ≤ a.1.c.length + 1 ∧ cnt b.1.c + 2 ^ (V : Int).toNat ≤ b.1.c.length + 1 ∧ cnt gg.1.c + 2 * 2 ^ (V : Int).toNat ≤ gg.1.c.length + 1 ∧ cnt sm.1.c + 2 ^ (V : Int).toNat ≤ sm.1.c.length + 1 ∧ cnt o.1.c + 2 * 2 ^ (V : Int).toNat ≤ o.1.c.length + 1 ∧ cnt ea.1.c + 2 ^ (V : Int).toNat ≤ ea.1.c.length + 1 := by
    have ph := pow_half (V := V) (v := (u : Int)) (by omega) (by omega)
    have c1 := S.kx.cnt; have c2 := S.ka.cnt; have c3 := S.kb.cnt; have c4 := S.kg.cnt; have c5 := S.kso.cnt; have c6 := S.ko.cnt; have c7 := S.kea.cnt
    have l1 := S.kx.ext.len; have l2 := S.ka.ext.len; have l3 := S.kb.ext.len; have l4 := S.kg.ext.len; have l5 := S.kso.ext.len; have l6 := S.ko.ext.len; have l7 := S.kea.ext.len
    refine ⟨by omega, by omega, by omega, by omega, by omega, by omega, by omega⟩
  have HF := Lib.hid hF; have HA := Lib.hid hA; have HR := Lib.hid hR; clear hF hA hR
  have HS := Lib.hid S; have Hfs := Lib.hid hfs; have Hb1 := Lib.hid hb1; have Hm := Lib.hid hm; have Hpk := Lib.hid hpk; have Hcell := Lib.hid hcell; have Hfo := Lib.hid fo
  clear S hfs hb1 hm hpk hcell fo hrow
  go_wp2_with fail
  refine (truth_any w2).mono ?_
  rintro e w3 ⟨rfl, hb3⟩
  have hfs3 := Hfs.out.grow hb3
  have hcell3 : w3.cell? ⟨g, out.length - 1, none⟩ = some (.int .i64 f) := (hb3.cell (World.block_lt_of_cell? _ _ Hcell.out)).trans Hcell.out
  rw [show out.length - 1 = l.length + 1 by omega] at hcell3
  have hidx : wrap64 ((out.length : Int) - 1) = ((out.length - 1 : Nat) : Int) := by rw [IntWalk.wrap64_in _ ⟨by omega, by omega⟩]; omega
  have Hfs3 := Lib.hid hfs3; have Hb3 := Lib.hid hb3; clear hfs3 hb3 Hfs Hcell
  go_wp2_with fail
  refine (Hpk.out _).mono ?_
  rintro e w4 ⟨rfl, rfl⟩
  go_wp2_with fail
  have q := Lit_any V u true w3 s st Hfs3.out.sp (by omega) (by omega)
  rw [← HS.out.rx] at q
  have Q := Lib.hid q; clear q
  refine Q.out.mono ?_
  rintro e w10 ⟨rfl, hsn, hon⟩
  have Hf10 := Lib.hid (Hfs3.out.step hon hsn); clear hsn hon Q
  rw [HS.out.kx.err]
  simp only [errV, if_true]
  go_wp2_with fail
  have q := Set_any V (by omega) f u true w10 s x.1 Hf10.out.sp HS.out.kx.sok (by omega) (by omega) HF.out.1 HR.out.1
  rw [← HS.out.ra] at q
  have Q := Lib.hid q; clear q
  refine Q.out.mono ?_
  rintro e w11 ⟨rfl, hsn, hon⟩
  have Hf11 := Lib.hid (Hf10.out.step hon hsn); clear hsn hon Q
  rw [HS.out.ka.err]
  simp only [errV, if_true]
  go_wp2_with fail
  have q := Set_any V (by omega) f u false w11 s a.1 Hf11.out.sp HS.out.ka.sok (by omega) (by omega) HF.out.2.1 HR.out.2.1
  rw [← HS.out.rb] at q
  have Q := Lib.hid q; clear q
  refine Q.out.mono ?_
  rintro e w12 ⟨rfl, hsn, hon⟩
  have Hf12 := Lib.hid (Hf11.out.step hon hsn); clear hsn hon Q
  rw [HS.out.kb.err]
  simp only [errV, if_true]
  go_wp2_with fail
  have q := Ite_any V (by omega) x.2.1 a.2.1 b.2.1 w12 s b.1 Hf12.out.sp HS.out.kb.sok (HS.out.kb.hasOld (HS.out.ka.hasOld HS.out.kx.has)) (HS.out.kb.hasOld HS.out.ka.has) HS.out.kb.has HR.out.2.2.1
  rw [← HS.out.rg] at q
  have Q := Lib.hid q; clear q
  refine Q.out.mono ?_
  rintro e w13 ⟨rfl, hsn, hon⟩
  have Hf13 := Lib.hid (Hf12.out.step hon hsn); clear hsn hon Q
  rw [HS.out.kg.err, HS.out.eg]
  simp only [errV, if_true]
  go_wp2_with fail
  have q := Some_any V (by omega) f u w13 s gg.1 Hf13.out.sp HS.out.kg.sok (by omega) (by omega) HF.out.2.2.1 HR.out.2.2.2.1
  rw [← HS.out.rso] at q
  have Q := Lib.hid q; clear q
  refine Q.out.mono ?_
  rintro e w14 ⟨rfl, hsn, hon⟩
  have Hf14 := Lib.hid (Hf13.out.step hon hsn); clear hsn hon Q
  rw [HS.out.kso.err, HS.out.eo]
  simp only [errV, if_true]
  go_wp2_with fail
  have q := Or_any V (by omega) a.2.1 b.2.1 w14 s sm.1 Hf14.out.sp HS.out.kso.sok HA.out.1 HA.out.2 HR.out.2.2.2.2.1
  rw [← HS.out.ro] at q
  have Q := Lib.hid q; clear q
  refine Q.out.mono ?_
  rintro e w15 ⟨rfl, hsn, hon⟩
  have Hf15 := Lib.hid (Hf14.out.step hon hsn); clear hsn hon Q
  rw [HS.out.ko.err]
  simp only [errV, if_true]
  go_wp2_with fail
  have q := Each_any V (by omega) f u w15 s o.1 Hf15.out.sp HS.out.ko.sok (by omega) (by omega) HF.out.2.2.2 HR.out.2.2.2.2.2.1
  rw [← HS.out.rea] at q
  have Q := Lib.hid q; clear q
  refine Q.out.mono ?_
  rintro e w16 ⟨rfl, hsn, hon⟩
  have Hf16 := Lib.hid (Hf15.out.step hon hsn); clear hsn hon Q
  rw [HS.out.kea.err, HS.out.ean]
  simp only [errV, if_true]
  go_wp2_with fail
  have q := And_any V (by omega) a.2.1 b.2.1 w16 s ea.1 Hf16.out.sp HS.out.kea.sok (HS.out.kea.hasOld (HS.out.ko.hasOld HA.out.1)) (HS.out.kea.hasOld (HS.out.ko.hasOld HA.out.2)) HR.out.2.2.2.2.2.2
  rw [← HS.out.ran] at q
  have Q := Lib.hid q; clear q
  refine Q.out.mono ?_
  rintro e w17 ⟨rfl, hsn, hon⟩
  have Hf17 := Lib.hid (Hf16.out.step hon hsn); clear hsn hon Q
  rw [HS.out.kan.err]
  simp only [errV, if_true]
  go_wp2_with fail
  go_ret
  exact ⟨rfl, Hb1.out.trans (Hf17.out.only.below Hb1.out.size Hm.out)⟩
end Go.Proofs.Ytmlnfbageoabnaa
