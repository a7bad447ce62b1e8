/- The walk of FamilyTwice. -/
import Derived.Test.YtmlnfbageoabnaaFamHt
namespace Go.Proofs.Ytmlnfbageoabnaa
open Go.RowKit
set_option linter.unusedVariables false

set_option maxRecDepth 100000 in
set_option maxHeartbeats 20000000 in
theorem twice_any (vars : Int) (vl : Value) (l : List Stp) (w : World) (hst : IsSteps w vl l) :
    Calls Try.prog 10 #[.int .i64 vars, vl] w fun e w' => e = .returned (.bool true) ∧ Below w.heap.size w w' := by
  by_cases hno : vars < 0 ∨ 6 < vars ∨ 20 < l.length
  · have Hn := Lib.hid (store_no vars vl l w hst hno)
    clear hno hst
    go_enter Try.func10, Try.ntmps10
    go_wp2_with fail
    refine Hn.out.mono ?_
    rintro e w1 ⟨rfl, rfl⟩
    go_wp2_with fail
    go_ret
    exact ⟨rfl, Below.refl _ _⟩
  obtain ⟨V, rfl⟩ : ∃ V : Nat, vars = V := ⟨vars.toNat, by omega⟩
  have hV : V ≤ 6 := by omega
  have h3 : l.length ≤ 20 := by omega
  have hv6 : decide ((6 : Int) < (V : Int)) = false := by simp; omega
  have Hsp := Lib.hid (store_ok V vl l w hst hV h3)
  clear hno hst
  go_enter Try.func10, Try.ntmps10
  go_wp2_with fail
  refine Hsp.out.mono ?_
  rintro e w2 ⟨s, va, c0, out, rfl, so⟩
  obtain ⟨w1, hfs, hb1⟩ := so.st
  have fn := so.len
  have hpos : out.length - 1 < out.length := by omega
  obtain ⟨g, cap, rfl, hrow⟩ := owns_at hfs.own (by omega)
  have hcell := hrow _ hpos
  have hf := so.f.has _ (List.getElem_mem hpos)
  generalize out[out.length - 1] = f at hcell hf
  have hz0 := so.f.zok; have hcl := so.cl; have hlw := so.low
  have hnew : ∀ k, s.b.mem k → w.heap.size ≤ k := so.new
  have Hb1 := Lib.hid hb1; have Hfs := Lib.hid hfs; have Hf := Lib.hid hf; have Hz0 := Lib.hid hz0; have Hcl := Lib.hid hcl; have Hlw := Lib.hid hlw; have Hnew := Lib.hid hnew; have Hcell := Lib.hid hcell
  clear hb1 hfs hf hz0 hcl hlw hnew hcell hrow so
  go_wp2_with fail
  refine (sets_any w2).mono ?_
  rintro e w3 ⟨rfl, hb3⟩
  have hfs3 := Hfs.out.grow hb3
  have hcell3 : w3.cell? ⟨g, out.length - 1, none⟩ = some (.int .i64 f) := (hb3.cell (World.block_lt_of_cell? _ _ Hcell.out)).trans Hcell.out
  rw [show out.length - 1 = l.length + 1 by omega] at hcell3
  have hidx : wrap64 ((out.length : Int) - 1) = ((out.length - 1 : Nat) : Int) := by rw [IntWalk.wrap64_in _ ⟨by omega, by omega⟩]; omega
  have hco : costO ((V : Int) - 3).toNat ≤ 7 := by
    have h4 : costO ((V : Int) - 3).toNat ≤ costO 3 := costO_mono (by omega)
    have h5 : costO 3 = 7 := rfl
    omega
  have q1 := Hits_any V (by omega) f w3 s c0 hfs3.sp Hz0.out Hf.out (by rw [hiB_V]; have := Hcl.out; have := Hlw.out; omega)
  have Q1 := Lib.hid q1; have Hfs3 := Lib.hid hfs3; have Hb3 := Lib.hid hb3; have Hco := Lib.hid hco
  clear q1 hfs3 hb3 hco Hfs Hcell
  go_wp2_with fail
  refine Q1.out.mono ?_
  rintro e w4 ⟨c1, a, rfl, hs4, ho4, k1⟩
  have n1 := k1.cnt; have e1 := k1.ext.len
  have q2 := Hits_any V (by omega) a w4 s c1 hs4 k1.zok k1.has (by rw [hiB_V]; have := Hcl.out; have := Hlw.out; have := Hco.out; omega)
  have Q2 := Lib.hid q2; have K1 := Lib.hid k1; have Hf4 := Lib.hid (Hfs3.out.step ho4 hs4)
  have N1 := Lib.hid n1; have E1 := Lib.hid e1
  clear q2 k1 hs4 ho4 hcell3 Q1 n1 e1
  go_wp2_with fail
  refine Q2.out.mono ?_
  rintro e w5 ⟨c2, b, rfl, hs5, ho5, k2⟩
  have n2 := k2.cnt; have e2 := k2.ext.len
  have hf2 : hasM c2 f = true := k2.ext.has (K1.out.ext.has Hf.out)
  have hr2 := room_l (V := V) (c := c2) hV k2.zok (by have := Hcl.out; have := Hlw.out; have := Hco.out; have := N1.out; have := E1.out; omega) f
  have q3 := Least_any (V := V) (L := (V : Int) - 3) (by omega) (by omega) f w5 c2 hs5 k2.zok hf2 hr2
  have Q3 := Lib.hid q3; have K2 := Lib.hid k2; have Hf5 := Lib.hid (Hf4.out.step ho5 hs5); have Hf2 := Lib.hid hf2
  clear q3 k2 hs5 ho5 hr2 hf2 n2 e2 Q2
  go_wp2_with fail
  refine Q3.out.mono ?_
  rintro e w6 ⟨c3, c, rfl, hs6, ho6, k3⟩
  have hzf : ∀ st, Z c2 f st ↔ Z c0 f st := fun st => (Z_ext K1.out.zok.ok K2.out.zok.ok K2.out.ext f (K1.out.ext.has Hf.out) st).trans (Z_ext Hz0.out.ok K1.out.zok.ok K1.out.ext f Hf.out st)
  have hsup : ∀ st, Z c0 f st → ∀ u, st u = true → 0 ≤ u ∧ u < (V : Int) := fun st hz u hu => ⟨by have := Z_supp Hz0.out.ok f st hz u hu; have := topM_le Hz0.out.ok f; omega, Z_lt Hz0.out.ok Hz0.out.vlt f st hz u hu⟩
  have hbc : b = c := canonZ_eq k3.zok.ok k3.zok.red (k3.ext.has K2.out.has) k3.has (fun st => by
    rw [Z_ext K2.out.zok.ok k3.zok.ok k3.ext b K2.out.has, K2.out.z, k3.z, least_congr hzf, least_congr (hitF_congr K1.out.z)]
    exact berge hsup (by omega) st)
  have e6 : Below w.heap.size w w6 := Hb1.out.trans ((Hf5.out.step ho6 hs6).only.below Hb1.out.size (fun k hk => Hnew.out k hk))
  subst hbc
  have E6 := Lib.hid e6; clear e6 k3 hs6 ho6 Q3 hzf hsup
  have hbb : (b == b) = true := by simp
  go_wp2_with fail
  go_ret
  exact ⟨rfl, E6.out⟩
end Go.Proofs.Ytmlnfbageoabnaa
