/- The walk of FamilyLaws. (Printed by gen_flaws.py.) -/
import Derived.Test.YtmlnfbageoabnaaFamK
import Derived.BigQuiet
import Derived.Laws.EntriesVeiled
namespace Go.Proofs.Ytmlnfbageoabnaa
open Go.RowKit
set_option linter.unusedVariables false

theorem owns_cells {w : World} {base e g n cap : Nat} {xs : List Int} (h : w.ownsRow base e 1 (.slice (some ⟨g, 0, none⟩) n cap) xs.length (xs.map (Value.int .i64))) (hp : 0 < xs.length) : ∀ (i : Nat) (hi : i < xs.length), w.cell? ⟨g, i, none⟩ = some (.int .i64 xs[i]) := by
  obtain ⟨g', c', e', hr⟩ := owns_at h hp
  cases e'
  exact hr
set_option maxRecDepth 100000 in
set_option maxHeartbeats 40000000 in
theorem laws_any (vars iv kv jv : Int) (vl : Value) (l : List Stp) (w : World) (hst : IsSteps w vl l) :
    Calls Try.prog 8 #[.int .i64 vars, vl, .int .i64 iv, .int .i64 kv, .int .i64 jv] w fun e w' => e = .returned (.bool true) ∧ Below w.heap.size w w' := by
  have hmf : ∀ (fn : Fn) (first cap : Array Value) (w : World), (Instr.makeFunc fn first cap).run Try.prog w = .ok (.func fn first cap) w := fun _ _ _ _ => rfl
  by_cases hno : vars < 0 ∨ 6 < vars ∨ 20 < l.length
  · have Hn := Lib.hid (store_no vars vl l w hst hno)
    clear hno hst
    go_enter Try.func8, Try.ntmps8
    go_wp2_with fail
    refine Hn.out.mono ?_
    rintro e w1 ⟨rfl, rfl⟩
    go_wp2_with fail
    go_ret
    exact ⟨rfl, ((Below.refl _ _).alloc (Nat.le_refl _) _).alloc (by simp) _⟩
  obtain ⟨V, rfl⟩ : ∃ V : Nat, vars = V := ⟨vars.toNat, by omega⟩
  have hV : V ≤ 6 := by omega
  have h3 : l.length ≤ 20 := by omega
  have Hsp := Lib.hid (store_ok V vl l w hst hV h3)
  clear hno hst
  go_enter Try.func8, Try.ntmps8
  go_wp2_with fail
  refine Hsp.out.mono ?_
  rintro e w2 ⟨s, va, c0, out, rfl, so⟩
  obtain ⟨w1, hfs, hb1⟩ := so.st
  have fn := so.len
  obtain ⟨g, cap, rfl, hrow0⟩ := owns_at hfs.own (by omega)
  clear hrow0
  have hlt := fun k (hk : s.b.mem k) => hfs.sp.lt hk
  have hbb : Below w2.heap.size w2 ((w2.alloc (.cells #[.pointer (some ⟨s.ps, 0, none⟩)] 77)).alloc (.cells #[.slice (some ⟨g, 0, none⟩) out.length cap] 22)) := ((Below.refl _ _).alloc (Nat.le_refl _) _).alloc (by simp) _
  have hfs2 := hfs.grow hbb
  have hbs : ((w2.alloc (.cells #[.pointer (some ⟨s.ps, 0, none⟩)] 77)).alloc (.cells #[.slice (some ⟨g, 0, none⟩) out.length cap] 22)).heap[w2.heap.size]? = some (.cells #[.pointer (some ⟨s.ps, 0, none⟩)] 77 (0, 0)) := heap_up (heap_at rfl)
  have hbh : ((w2.alloc (.cells #[.pointer (some ⟨s.ps, 0, none⟩)] 77)).alloc (.cells #[.slice (some ⟨g, 0, none⟩) out.length cap] 22)).heap[w2.heap.size + 1]? = some (.cells #[.slice (some ⟨g, 0, none⟩) out.length cap] 22 (0, 0)) := heap_at (by simp)
  have Hso := Lib.hid so; have Hfn := Lib.hid fn; have Hb1 := Lib.hid hb1; have Hlt := Lib.hid hlt; have Hfs := Lib.hid hfs2; have Hbs := Lib.hid hbs; have Hbh := Lib.hid hbh
  clear hfs hfs2 so fn hb1 hlt Hsp hbs hbh hbb
  go_wp2_with fail
  refine (sets_any _).mono ?_
  rintro e w3 ⟨rfl, hb3⟩
  have hfs3 := Hfs.out.grow hb3
  have hbs3 := (hb3.block _ (lt_of_block Hbs.out)).trans Hbs.out
  have hbh3 := (hb3.block _ (lt_of_block Hbh.out)).trans Hbh.out
  have nbs : ¬ s.b.mem w2.heap.size := fun hk => by have := Hlt.out _ hk; omega
  have nbh : ¬ s.b.mem (w2.heap.size + 1) := fun hk => by have := Hlt.out _ hk; omega
  have hz0 := Hso.out.f.zok; have hh0 := Hso.out.f.has; have hcl := Hso.out.cl; have hlw := Hso.out.low; have hnew := Hso.out.new
  obtain ⟨bh, ebh⟩ : ∃ b, b = w2.heap.size + 1 := ⟨_, rfl⟩
  obtain ⟨bs, ebs⟩ : ∃ b, b = w2.heap.size := ⟨_, rfl⟩
  rw [← ebh] at hbh3 nbh ⊢
  rw [← ebs] at hbs3 nbs ⊢
  have Hz0 := Lib.hid hz0; have Hh0 := Lib.hid hh0; have Hcl := Lib.hid hcl; have Hlw := Lib.hid hlw; have Hnew := Lib.hid hnew
  clear Hfs Hbs Hbh hb3 Hlt ebh ebs Hso hz0 hh0 hcl hlw hnew
  clear w2
  have hrow := owns_cells hfs3.own (by have := Hfn.out; omega)
  have hpos : 0 < out.length := by have := Hfn.out; omega
  have hno : out.length ≤ 1000000 := by have := Hfn.out; omega
  have l1 := pickN_lt iv hpos
  have l2 := pickN_lt kv hpos
  have l3 := pickN_lt jv hpos
  have r1 := hrow _ l1
  have r2 := hrow _ l2
  have r3 := hrow _ l3
  have m1 := List.getElem_mem l1
  have m2 := List.getElem_mem l2
  have m3 := List.getElem_mem l3
  have p1 := fun w' => (pick_any iv out.length w' hpos hno).mono fun e w'' h => And.intro h.1 h.2.symm
  have p2 := fun w' => (pick_any kv out.length w' hpos hno).mono fun e w'' h => And.intro h.1 h.2.symm
  have p3 := fun w' => (pick_any jv out.length w' hpos hno).mono fun e w'' h => And.intro h.1 h.2.symm
  generalize out[pickN iv out.length] = a at r1 m1
  generalize out[pickN kv out.length] = b at r2 m2
  generalize out[pickN jv out.length] = c at r3 m3
  have j1 : ((pickN iv out.length : Nat) : Int) < out.length := by exact_mod_cast l1
  have j2 : ((pickN kv out.length : Nat) : Int) < out.length := by exact_mod_cast l2
  have j3 : ((pickN jv out.length : Nat) : Int) < out.length := by exact_mod_cast l3
  clear hrow l1 l2 l3 hpos hno
  generalize pickN iv out.length = q1 at r1 j1 p1
  generalize pickN kv out.length = q2 at r2 j2 p2
  generalize pickN jv out.length = q3 at r3 j3 p3
  have chh := cell_of_one hbh3
  have HA := Lib.hid m1; have HBm := Lib.hid m2; have HC := Lib.hid m3; have P1 := Lib.hid p1; have P2 := Lib.hid p2; have P3 := Lib.hid p3; have Hfs := Lib.hid hfs3; have Hbs := Lib.hid hbs3; have Hbh := Lib.hid hbh3; have Nbs := Lib.hid nbs; have Nbh := Lib.hid nbh
  have hle : (out.length : Int) ≤ 27 := by have := Hfn.out; omega
  clear m1 m2 m3 p1 p2 p3 hfs3 hbs3 hbh3 nbs nbh
  have csx := cell_of_one Hbs.out
  go_upto_region 6 with fail
  go_quiet (first
    | (go_at_call_of 13 (Value.int IntKind.i64 iv); exact Calls.quiet_of_same (P1.out _))
    | (go_at_call_of 13 (Value.int IntKind.i64 kv); exact Calls.quiet_of_same (P2.out _))
    | (go_at_call_of 13 (Value.int IntKind.i64 jv); exact Calls.quiet_of_same (P3.out _)))
  have hb4 : Below w3.heap.size w3 (w3.drewN nq) := below_drewN (Below.refl _ _) nq
  have hfs4 := Hfs.out.grow hb4
  have hbs4 := (hb4.block _ (lt_of_block Hbs.out)).trans Hbs.out
  have hbh4 := (hb4.block _ (lt_of_block Hbh.out)).trans Hbh.out
  clear Hfs Hbs Hbh r1 r2 r3 j1 j2 j3 P1 P2 P3 chh csx hle hb4
  generalize w3.drewN nq = w4 at hfs4 hbs4 hbh4 ⊢
  clear w3 nq
  have hB : FI w1 ((w4.alloc (.cells #[.bool false] 4)).alloc (.cells #[.func (.func 50) #[] #[.pointer (some ⟨w4.heap.size, 0, none⟩)]] 63)) s V c0 (.slice (some ⟨g, 0, none⟩) out.length cap) out (fun y => Z c0 y) bs bh w4.heap.size (w4.heap.size + 1) 840 := by
    have hb5 : Below w4.heap.size w4 ((w4.alloc (.cells #[.bool false] 4)).alloc (.cells #[.func (.func 50) #[] #[.pointer (some ⟨w4.heap.size, 0, none⟩)]] 63)) := ((Below.refl _ _).alloc (Nat.le_refl _) _).alloc (by simp) _
    refine ⟨hfs4.grow hb5, ⟨(hb5.block _ (lt_of_block hbs4)).trans hbs4, (hb5.block _ (lt_of_block hbh4)).trans hbh4, heap_up (heap_at rfl), heap_at (by simp), Nbs.out, Nbh.out, fun hk => ?_, fun hk => ?_⟩, Hz0.out, Hcl.out, by have := Hlw.out; omega, fun y hy => fmeans_self (Hh0.out y hy), by have := Hfn.out; omega⟩
    · have := hfs4.sp.lt hk; omega
    · have := hfs4.sp.lt hk; omega
  have HB0 := Lib.hid hB; clear hB hfs4 hbs4 hbh4 Nbs Nbh Hfn Hz0 Hh0 Hcl Hlw
  go_upto_region 14 with fail
  obtain ⟨bd, ebd⟩ : ∃ b, b = w4.heap.size + 1 := ⟨_, rfl⟩
  obtain ⟨bb, ebb⟩ : ∃ b, b = w4.heap.size := ⟨_, rfl⟩
  have hB := HB0.out
  clear HB0
  rw [← ebd] at hB ⊢
  rw [← ebb] at hB ⊢
  clear ebd ebb
  generalize ((w4.alloc (.cells #[.bool false] 4)).alloc (.cells #[.func (.func 50) #[] #[.pointer (some ⟨bb, 0, none⟩)]] 63)) = w5 at hB ⊢
  clear w4
  have h91 := cell_of_one hB.cp.cs; have h92 := cell_of_one hB.cp.cd
  have HB := Lib.hid hB; clear hB
  obtain ⟨A, eA⟩ : ∃ A, A = Z c0 a := ⟨_, rfl⟩
  obtain ⟨B, eB⟩ : ∃ B, B = Z c0 b := ⟨_, rfl⟩
  obtain ⟨C, eC⟩ : ∃ C, C = Z c0 c := ⟨_, rfl⟩
  have Ka : ∀ st', (∀ y ∈ out, FMeans st' y (Z c0 y)) → FMeans st' a A := fun st' h => by rw [eA]; exact h _ HA.out
  have Kb : ∀ st', (∀ y ∈ out, FMeans st' y (Z c0 y)) → FMeans st' b B := fun st' h => by rw [eB]; exact h _ HBm.out
  have Kc : ∀ st', (∀ y ∈ out, FMeans st' y (Z c0 y)) → FMeans st' c C := fun st' h => by rw [eC]; exact h _ HC.out
  have KA := Lib.hid Ka; have KB := Lib.hid Kb; have KC := Lib.hid Kc
  clear Ka Kb Kc eA eB eC
  have Ma := Lib.hid (KA.out _ HB.out.m); have Mb := Lib.hid (KB.out _ HB.out.m); have Mc := Lib.hid (KC.out _ HB.out.m)
  have T1 := Lib.hid (fmeans_one c0); have T2 := T1; have T3 := T1; have T4 := T1; have T5 := T1; have T6 := T1
  go_wp2_with fail
  with_reducible refine (jAnd hV (by assumption) (by decide) (by first | assumption | exact Lib.hid (fmeans_one _)) (by first | assumption | exact Lib.hid (fmeans_one _))).mono ?_
  rintro e w9 ⟨s9, x9, rfl, hb, hk, hm⟩
  have Ma' := Lib.hid (hk _ _ Ma.out)
  have Mb' := Lib.hid (hk _ _ Mb.out)
  have Mc' := Lib.hid (hk _ _ Mc.out)
  have T1' := Lib.hid (hk _ _ T1.out)
  have T2' := Lib.hid (hk _ _ T2.out)
  have T3' := Lib.hid (hk _ _ T3.out)
  have T4' := Lib.hid (hk _ _ T4.out)
  have T5' := Lib.hid (hk _ _ T5.out)
  have HB' := Lib.hid hb; have T0' := Lib.hid hm
  clear h91 h92 hb hk hm HB Ma Mb Mc T1 T2 T3 T4 T5 T6
  have Ma := Ma'; clear Ma'; have Mb := Mb'; clear Mb'; have Mc := Mc'; clear Mc'
  have T6 := T5'; have T5 := T4'; have T4 := T3'; have T3 := T2'; have T2 := T1'; have T1 := T0'; have HB := HB'; clear T0' T1' T2' T3' T4' T5' HB'
  have h91 := cell_of_one HB.out.cp.cs; have h92 := cell_of_one HB.out.cp.cd
  go_wp2_with fail
  with_reducible refine (jLess hV (by assumption) (by decide) (by first | assumption | exact Lib.hid (fmeans_one _)) (by first | assumption | exact Lib.hid (fmeans_one _))).mono ?_
  rintro e w9 ⟨s9, x9, rfl, hb, hk, hm⟩
  have Ma' := Lib.hid (hk _ _ Ma.out)
  have Mb' := Lib.hid (hk _ _ Mb.out)
  have Mc' := Lib.hid (hk _ _ Mc.out)
  have T1' := Lib.hid (hk _ _ T1.out)
  have T2' := Lib.hid (hk _ _ T2.out)
  have T3' := Lib.hid (hk _ _ T3.out)
  have T4' := Lib.hid (hk _ _ T4.out)
  have T5' := Lib.hid (hk _ _ T5.out)
  have HB' := Lib.hid hb; have T0' := Lib.hid hm
  clear h91 h92 hb hk hm HB Ma Mb Mc T1 T2 T3 T4 T5 T6
  have Ma := Ma'; clear Ma'; have Mb := Mb'; clear Mb'; have Mc := Mc'; clear Mc'
  have T6 := T5'; have T5 := T4'; have T4 := T3'; have T3 := T2'; have T2 := T1'; have T1 := T0'; have HB := HB'; clear T0' T1' T2' T3' T4' T5' HB'
  have h91 := cell_of_one HB.out.cp.cs; have h92 := cell_of_one HB.out.cp.cd
  go_wp2_with fail
  with_reducible refine (jLess hV (by assumption) (by decide) (by first | assumption | exact Lib.hid (fmeans_one _)) (by first | assumption | exact Lib.hid (fmeans_one _))).mono ?_
  rintro e w9 ⟨s9, x9, rfl, hb, hk, hm⟩
  have Ma' := Lib.hid (hk _ _ Ma.out)
  have Mb' := Lib.hid (hk _ _ Mb.out)
  have Mc' := Lib.hid (hk _ _ Mc.out)
  have T1' := Lib.hid (hk _ _ T1.out)
  have T2' := Lib.hid (hk _ _ T2.out)
  have T3' := Lib.hid (hk _ _ T3.out)
  have T4' := Lib.hid (hk _ _ T4.out)
  have T5' := Lib.hid (hk _ _ T5.out)
  have HB' := Lib.hid hb; have T0' := Lib.hid hm
  clear h91 h92 hb hk hm HB Ma Mb Mc T1 T2 T3 T4 T5 T6
  have Ma := Ma'; clear Ma'; have Mb := Mb'; clear Mb'; have Mc := Mc'; clear Mc'
  have T6 := T5'; have T5 := T4'; have T4 := T3'; have T3 := T2'; have T2 := T1'; have T1 := T0'; have HB := HB'; clear T0' T1' T2' T3' T4' T5' HB'
  have h91 := cell_of_one HB.out.cp.cs; have h92 := cell_of_one HB.out.cp.cd
  go_wp2_with fail
  with_reducible refine (jThen (by assumption) (by assumption) (by assumption) (by first | exact fl1 A B | exact fl2 A B | exact fl3 A B | exact fl4 A B C | exact fl5 A B | exact fl6 A B C | exact fl7 A B C | exact fl8 A)).mono ?_
  rintro e w9 ⟨rfl, s9, hb⟩
  clear h91 h92 HB Ma Mb Mc T1 T2 T3 T4 T5 T6
  have HB := Lib.hid hb; clear hb
  have Ma := Lib.hid (KA.out _ HB.out.m); have Mb := Lib.hid (KB.out _ HB.out.m); have Mc := Lib.hid (KC.out _ HB.out.m)
  have T1 := Lib.hid (fmeans_one s9); have T2 := T1; have T3 := T1; have T4 := T1; have T5 := T1; have T6 := T1
  have h91 := cell_of_one HB.out.cp.cs; have h92 := cell_of_one HB.out.cp.cd
  go_wp2_with fail
  with_reducible refine (jLess hV (by assumption) (by decide) (by first | assumption | exact Lib.hid (fmeans_one _)) (by first | assumption | exact Lib.hid (fmeans_one _))).mono ?_
  rintro e w9 ⟨s9, x9, rfl, hb, hk, hm⟩
  have Ma' := Lib.hid (hk _ _ Ma.out)
  have Mb' := Lib.hid (hk _ _ Mb.out)
  have Mc' := Lib.hid (hk _ _ Mc.out)
  have T1' := Lib.hid (hk _ _ T1.out)
  have T2' := Lib.hid (hk _ _ T2.out)
  have T3' := Lib.hid (hk _ _ T3.out)
  have T4' := Lib.hid (hk _ _ T4.out)
  have T5' := Lib.hid (hk _ _ T5.out)
  have HB' := Lib.hid hb; have T0' := Lib.hid hm
  clear h91 h92 hb hk hm HB Ma Mb Mc T1 T2 T3 T4 T5 T6
  have Ma := Ma'; clear Ma'; have Mb := Mb'; clear Mb'; have Mc := Mc'; clear Mc'
  have T6 := T5'; have T5 := T4'; have T4 := T3'; have T3 := T2'; have T2 := T1'; have T1 := T0'; have HB := HB'; clear T0' T1' T2' T3' T4' T5' HB'
  have h91 := cell_of_one HB.out.cp.cs; have h92 := cell_of_one HB.out.cp.cd
  go_wp2_with fail
  with_reducible refine (jAnd hV (by assumption) (by decide) (by first | assumption | exact Lib.hid (fmeans_one _)) (by first | assumption | exact Lib.hid (fmeans_one _))).mono ?_
  rintro e w9 ⟨s9, x9, rfl, hb, hk, hm⟩
  have Ma' := Lib.hid (hk _ _ Ma.out)
  have Mb' := Lib.hid (hk _ _ Mb.out)
  have Mc' := Lib.hid (hk _ _ Mc.out)
  have T1' := Lib.hid (hk _ _ T1.out)
  have T2' := Lib.hid (hk _ _ T2.out)
  have T3' := Lib.hid (hk _ _ T3.out)
  have T4' := Lib.hid (hk _ _ T4.out)
  have T5' := Lib.hid (hk _ _ T5.out)
  have HB' := Lib.hid hb; have T0' := Lib.hid hm
  clear h91 h92 hb hk hm HB Ma Mb Mc T1 T2 T3 T4 T5 T6
  have Ma := Ma'; clear Ma'; have Mb := Mb'; clear Mb'; have Mc := Mc'; clear Mc'
  have T6 := T5'; have T5 := T4'; have T4 := T3'; have T3 := T2'; have T2 := T1'; have T1 := T0'; have HB := HB'; clear T0' T1' T2' T3' T4' T5' HB'
  have h91 := cell_of_one HB.out.cp.cs; have h92 := cell_of_one HB.out.cp.cd
  go_wp2_with fail
  with_reducible refine (jOr hV (by assumption) (by decide) (by first | assumption | exact Lib.hid (fmeans_one _)) (by first | assumption | exact Lib.hid (fmeans_one _))).mono ?_
  rintro e w9 ⟨s9, x9, rfl, hb, hk, hm⟩
  have Ma' := Lib.hid (hk _ _ Ma.out)
  have Mb' := Lib.hid (hk _ _ Mb.out)
  have Mc' := Lib.hid (hk _ _ Mc.out)
  have T1' := Lib.hid (hk _ _ T1.out)
  have T2' := Lib.hid (hk _ _ T2.out)
  have T3' := Lib.hid (hk _ _ T3.out)
  have T4' := Lib.hid (hk _ _ T4.out)
  have T5' := Lib.hid (hk _ _ T5.out)
  have HB' := Lib.hid hb; have T0' := Lib.hid hm
  clear h91 h92 hb hk hm HB Ma Mb Mc T1 T2 T3 T4 T5 T6
  have Ma := Ma'; clear Ma'; have Mb := Mb'; clear Mb'; have Mc := Mc'; clear Mc'
  have T6 := T5'; have T5 := T4'; have T4 := T3'; have T3 := T2'; have T2 := T1'; have T1 := T0'; have HB := HB'; clear T0' T1' T2' T3' T4' T5' HB'
  have h91 := cell_of_one HB.out.cp.cs; have h92 := cell_of_one HB.out.cp.cd
  go_wp2_with fail
  with_reducible refine (jThen (by assumption) (by assumption) (by assumption) (by first | exact fl1 A B | exact fl2 A B | exact fl3 A B | exact fl4 A B C | exact fl5 A B | exact fl6 A B C | exact fl7 A B C | exact fl8 A)).mono ?_
  rintro e w9 ⟨rfl, s9, hb⟩
  clear h91 h92 HB Ma Mb Mc T1 T2 T3 T4 T5 T6
  have HB := Lib.hid hb; clear hb
  have Ma := Lib.hid (KA.out _ HB.out.m); have Mb := Lib.hid (KB.out _ HB.out.m); have Mc := Lib.hid (KC.out _ HB.out.m)
  have T1 := Lib.hid (fmeans_one s9); have T2 := T1; have T3 := T1; have T4 := T1; have T5 := T1; have T6 := T1
  have h91 := cell_of_one HB.out.cp.cs; have h92 := cell_of_one HB.out.cp.cd
  go_wp2_with fail
  with_reducible refine (jOr hV (by assumption) (by decide) (by first | assumption | exact Lib.hid (fmeans_one _)) (by first | assumption | exact Lib.hid (fmeans_one _))).mono ?_
  rintro e w9 ⟨s9, x9, rfl, hb, hk, hm⟩
  have Ma' := Lib.hid (hk _ _ Ma.out)
  have Mb' := Lib.hid (hk _ _ Mb.out)
  have Mc' := Lib.hid (hk _ _ Mc.out)
  have T1' := Lib.hid (hk _ _ T1.out)
  have T2' := Lib.hid (hk _ _ T2.out)
  have T3' := Lib.hid (hk _ _ T3.out)
  have T4' := Lib.hid (hk _ _ T4.out)
  have T5' := Lib.hid (hk _ _ T5.out)
  have HB' := Lib.hid hb; have T0' := Lib.hid hm
  clear h91 h92 hb hk hm HB Ma Mb Mc T1 T2 T3 T4 T5 T6
  have Ma := Ma'; clear Ma'; have Mb := Mb'; clear Mb'; have Mc := Mc'; clear Mc'
  have T6 := T5'; have T5 := T4'; have T4 := T3'; have T3 := T2'; have T2 := T1'; have T1 := T0'; have HB := HB'; clear T0' T1' T2' T3' T4' T5' HB'
  have h91 := cell_of_one HB.out.cp.cs; have h92 := cell_of_one HB.out.cp.cd
  go_wp2_with fail
  with_reducible refine (jOr hV (by assumption) (by decide) (by first | assumption | exact Lib.hid (fmeans_one _)) (by first | assumption | exact Lib.hid (fmeans_one _))).mono ?_
  rintro e w9 ⟨s9, x9, rfl, hb, hk, hm⟩
  have Ma' := Lib.hid (hk _ _ Ma.out)
  have Mb' := Lib.hid (hk _ _ Mb.out)
  have Mc' := Lib.hid (hk _ _ Mc.out)
  have T1' := Lib.hid (hk _ _ T1.out)
  have T2' := Lib.hid (hk _ _ T2.out)
  have T3' := Lib.hid (hk _ _ T3.out)
  have T4' := Lib.hid (hk _ _ T4.out)
  have T5' := Lib.hid (hk _ _ T5.out)
  have HB' := Lib.hid hb; have T0' := Lib.hid hm
  clear h91 h92 hb hk hm HB Ma Mb Mc T1 T2 T3 T4 T5 T6
  have Ma := Ma'; clear Ma'; have Mb := Mb'; clear Mb'; have Mc := Mc'; clear Mc'
  have T6 := T5'; have T5 := T4'; have T4 := T3'; have T3 := T2'; have T2 := T1'; have T1 := T0'; have HB := HB'; clear T0' T1' T2' T3' T4' T5' HB'
  have h91 := cell_of_one HB.out.cp.cs; have h92 := cell_of_one HB.out.cp.cd
  go_wp2_with fail
  with_reducible refine (jThen (by assumption) (by assumption) (by assumption) (by first | exact fl1 A B | exact fl2 A B | exact fl3 A B | exact fl4 A B C | exact fl5 A B | exact fl6 A B C | exact fl7 A B C | exact fl8 A)).mono ?_
  rintro e w9 ⟨rfl, s9, hb⟩
  clear h91 h92 HB Ma Mb Mc T1 T2 T3 T4 T5 T6
  have HB := Lib.hid hb; clear hb
  have Ma := Lib.hid (KA.out _ HB.out.m); have Mb := Lib.hid (KB.out _ HB.out.m); have Mc := Lib.hid (KC.out _ HB.out.m)
  have T1 := Lib.hid (fmeans_one s9); have T2 := T1; have T3 := T1; have T4 := T1; have T5 := T1; have T6 := T1
  have h91 := cell_of_one HB.out.cp.cs; have h92 := cell_of_one HB.out.cp.cd
  go_wp2_with fail
  with_reducible refine (jOr hV (by assumption) (by decide) (by first | assumption | exact Lib.hid (fmeans_one _)) (by first | assumption | exact Lib.hid (fmeans_one _))).mono ?_
  rintro e w9 ⟨s9, x9, rfl, hb, hk, hm⟩
  have Ma' := Lib.hid (hk _ _ Ma.out)
  have Mb' := Lib.hid (hk _ _ Mb.out)
  have Mc' := Lib.hid (hk _ _ Mc.out)
  have T1' := Lib.hid (hk _ _ T1.out)
  have T2' := Lib.hid (hk _ _ T2.out)
  have T3' := Lib.hid (hk _ _ T3.out)
  have T4' := Lib.hid (hk _ _ T4.out)
  have T5' := Lib.hid (hk _ _ T5.out)
  have HB' := Lib.hid hb; have T0' := Lib.hid hm
  clear h91 h92 hb hk hm HB Ma Mb Mc T1 T2 T3 T4 T5 T6
  have Ma := Ma'; clear Ma'; have Mb := Mb'; clear Mb'; have Mc := Mc'; clear Mc'
  have T6 := T5'; have T5 := T4'; have T4 := T3'; have T3 := T2'; have T2 := T1'; have T1 := T0'; have HB := HB'; clear T0' T1' T2' T3' T4' T5' HB'
  have h91 := cell_of_one HB.out.cp.cs; have h92 := cell_of_one HB.out.cp.cd
  go_wp2_with fail
  with_reducible refine (jAnd hV (by assumption) (by decide) (by first | assumption | exact Lib.hid (fmeans_one _)) (by first | assumption | exact Lib.hid (fmeans_one _))).mono ?_
  rintro e w9 ⟨s9, x9, rfl, hb, hk, hm⟩
  have Ma' := Lib.hid (hk _ _ Ma.out)
  have Mb' := Lib.hid (hk _ _ Mb.out)
  have Mc' := Lib.hid (hk _ _ Mc.out)
  have T1' := Lib.hid (hk _ _ T1.out)
  have T2' := Lib.hid (hk _ _ T2.out)
  have T3' := Lib.hid (hk _ _ T3.out)
  have T4' := Lib.hid (hk _ _ T4.out)
  have T5' := Lib.hid (hk _ _ T5.out)
  have HB' := Lib.hid hb; have T0' := Lib.hid hm
  clear h91 h92 hb hk hm HB Ma Mb Mc T1 T2 T3 T4 T5 T6
  have Ma := Ma'; clear Ma'; have Mb := Mb'; clear Mb'; have Mc := Mc'; clear Mc'
  have T6 := T5'; have T5 := T4'; have T4 := T3'; have T3 := T2'; have T2 := T1'; have T1 := T0'; have HB := HB'; clear T0' T1' T2' T3' T4' T5' HB'
  have h91 := cell_of_one HB.out.cp.cs; have h92 := cell_of_one HB.out.cp.cd
  go_wp2_with fail
  with_reducible refine (jAnd hV (by assumption) (by decide) (by first | assumption | exact Lib.hid (fmeans_one _)) (by first | assumption | exact Lib.hid (fmeans_one _))).mono ?_
  rintro e w9 ⟨s9, x9, rfl, hb, hk, hm⟩
  have Ma' := Lib.hid (hk _ _ Ma.out)
  have Mb' := Lib.hid (hk _ _ Mb.out)
  have Mc' := Lib.hid (hk _ _ Mc.out)
  have T1' := Lib.hid (hk _ _ T1.out)
  have T2' := Lib.hid (hk _ _ T2.out)
  have T3' := Lib.hid (hk _ _ T3.out)
  have T4' := Lib.hid (hk _ _ T4.out)
  have T5' := Lib.hid (hk _ _ T5.out)
  have HB' := Lib.hid hb; have T0' := Lib.hid hm
  clear h91 h92 hb hk hm HB Ma Mb Mc T1 T2 T3 T4 T5 T6
  have Ma := Ma'; clear Ma'; have Mb := Mb'; clear Mb'; have Mc := Mc'; clear Mc'
  have T6 := T5'; have T5 := T4'; have T4 := T3'; have T3 := T2'; have T2 := T1'; have T1 := T0'; have HB := HB'; clear T0' T1' T2' T3' T4' T5' HB'
  have h91 := cell_of_one HB.out.cp.cs; have h92 := cell_of_one HB.out.cp.cd
  go_wp2_with fail
  with_reducible refine (jAnd hV (by assumption) (by decide) (by first | assumption | exact Lib.hid (fmeans_one _)) (by first | assumption | exact Lib.hid (fmeans_one _))).mono ?_
  rintro e w9 ⟨s9, x9, rfl, hb, hk, hm⟩
  have Ma' := Lib.hid (hk _ _ Ma.out)
  have Mb' := Lib.hid (hk _ _ Mb.out)
  have Mc' := Lib.hid (hk _ _ Mc.out)
  have T1' := Lib.hid (hk _ _ T1.out)
  have T2' := Lib.hid (hk _ _ T2.out)
  have T3' := Lib.hid (hk _ _ T3.out)
  have T4' := Lib.hid (hk _ _ T4.out)
  have T5' := Lib.hid (hk _ _ T5.out)
  have HB' := Lib.hid hb; have T0' := Lib.hid hm
  clear h91 h92 hb hk hm HB Ma Mb Mc T1 T2 T3 T4 T5 T6
  have Ma := Ma'; clear Ma'; have Mb := Mb'; clear Mb'; have Mc := Mc'; clear Mc'
  have T6 := T5'; have T5 := T4'; have T4 := T3'; have T3 := T2'; have T2 := T1'; have T1 := T0'; have HB := HB'; clear T0' T1' T2' T3' T4' T5' HB'
  have h91 := cell_of_one HB.out.cp.cs; have h92 := cell_of_one HB.out.cp.cd
  go_wp2_with fail
  with_reducible refine (jOr hV (by assumption) (by decide) (by first | assumption | exact Lib.hid (fmeans_one _)) (by first | assumption | exact Lib.hid (fmeans_one _))).mono ?_
  rintro e w9 ⟨s9, x9, rfl, hb, hk, hm⟩
  have Ma' := Lib.hid (hk _ _ Ma.out)
  have Mb' := Lib.hid (hk _ _ Mb.out)
  have Mc' := Lib.hid (hk _ _ Mc.out)
  have T1' := Lib.hid (hk _ _ T1.out)
  have T2' := Lib.hid (hk _ _ T2.out)
  have T3' := Lib.hid (hk _ _ T3.out)
  have T4' := Lib.hid (hk _ _ T4.out)
  have T5' := Lib.hid (hk _ _ T5.out)
  have HB' := Lib.hid hb; have T0' := Lib.hid hm
  clear h91 h92 hb hk hm HB Ma Mb Mc T1 T2 T3 T4 T5 T6
  have Ma := Ma'; clear Ma'; have Mb := Mb'; clear Mb'; have Mc := Mc'; clear Mc'
  have T6 := T5'; have T5 := T4'; have T4 := T3'; have T3 := T2'; have T2 := T1'; have T1 := T0'; have HB := HB'; clear T0' T1' T2' T3' T4' T5' HB'
  have h91 := cell_of_one HB.out.cp.cs; have h92 := cell_of_one HB.out.cp.cd
  go_wp2_with fail
  with_reducible refine (jThen (by assumption) (by assumption) (by assumption) (by first | exact fl1 A B | exact fl2 A B | exact fl3 A B | exact fl4 A B C | exact fl5 A B | exact fl6 A B C | exact fl7 A B C | exact fl8 A)).mono ?_
  rintro e w9 ⟨rfl, s9, hb⟩
  clear h91 h92 HB Ma Mb Mc T1 T2 T3 T4 T5 T6
  have HB := Lib.hid hb; clear hb
  have Ma := Lib.hid (KA.out _ HB.out.m); have Mb := Lib.hid (KB.out _ HB.out.m); have Mc := Lib.hid (KC.out _ HB.out.m)
  have T1 := Lib.hid (fmeans_one s9); have T2 := T1; have T3 := T1; have T4 := T1; have T5 := T1; have T6 := T1
  have h91 := cell_of_one HB.out.cp.cs; have h92 := cell_of_one HB.out.cp.cd
  go_wp2_with fail
  with_reducible refine (jJoin hV (by assumption) (by decide) (by first | assumption | exact Lib.hid (fmeans_one _)) (by first | assumption | exact Lib.hid (fmeans_one _))).mono ?_
  rintro e w9 ⟨s9, x9, rfl, hb, hk, hm⟩
  have Ma' := Lib.hid (hk _ _ Ma.out)
  have Mb' := Lib.hid (hk _ _ Mb.out)
  have Mc' := Lib.hid (hk _ _ Mc.out)
  have T1' := Lib.hid (hk _ _ T1.out)
  have T2' := Lib.hid (hk _ _ T2.out)
  have T3' := Lib.hid (hk _ _ T3.out)
  have T4' := Lib.hid (hk _ _ T4.out)
  have T5' := Lib.hid (hk _ _ T5.out)
  have HB' := Lib.hid hb; have T0' := Lib.hid hm
  clear h91 h92 hb hk hm HB Ma Mb Mc T1 T2 T3 T4 T5 T6
  have Ma := Ma'; clear Ma'; have Mb := Mb'; clear Mb'; have Mc := Mc'; clear Mc'
  have T6 := T5'; have T5 := T4'; have T4 := T3'; have T3 := T2'; have T2 := T1'; have T1 := T0'; have HB := HB'; clear T0' T1' T2' T3' T4' T5' HB'
  have h91 := cell_of_one HB.out.cp.cs; have h92 := cell_of_one HB.out.cp.cd
  go_wp2_with fail
  with_reducible refine (jJoin hV (by assumption) (by decide) (by first | assumption | exact Lib.hid (fmeans_one _)) (by first | assumption | exact Lib.hid (fmeans_one _))).mono ?_
  rintro e w9 ⟨s9, x9, rfl, hb, hk, hm⟩
  have Ma' := Lib.hid (hk _ _ Ma.out)
  have Mb' := Lib.hid (hk _ _ Mb.out)
  have Mc' := Lib.hid (hk _ _ Mc.out)
  have T1' := Lib.hid (hk _ _ T1.out)
  have T2' := Lib.hid (hk _ _ T2.out)
  have T3' := Lib.hid (hk _ _ T3.out)
  have T4' := Lib.hid (hk _ _ T4.out)
  have T5' := Lib.hid (hk _ _ T5.out)
  have HB' := Lib.hid hb; have T0' := Lib.hid hm
  clear h91 h92 hb hk hm HB Ma Mb Mc T1 T2 T3 T4 T5 T6
  have Ma := Ma'; clear Ma'; have Mb := Mb'; clear Mb'; have Mc := Mc'; clear Mc'
  have T6 := T5'; have T5 := T4'; have T4 := T3'; have T3 := T2'; have T2 := T1'; have T1 := T0'; have HB := HB'; clear T0' T1' T2' T3' T4' T5' HB'
  have h91 := cell_of_one HB.out.cp.cs; have h92 := cell_of_one HB.out.cp.cd
  go_wp2_with fail
  with_reducible refine (jThen (by assumption) (by assumption) (by assumption) (by first | exact fl1 A B | exact fl2 A B | exact fl3 A B | exact fl4 A B C | exact fl5 A B | exact fl6 A B C | exact fl7 A B C | exact fl8 A)).mono ?_
  rintro e w9 ⟨rfl, s9, hb⟩
  clear h91 h92 HB Ma Mb Mc T1 T2 T3 T4 T5 T6
  have HB := Lib.hid hb; clear hb
  have Ma := Lib.hid (KA.out _ HB.out.m); have Mb := Lib.hid (KB.out _ HB.out.m); have Mc := Lib.hid (KC.out _ HB.out.m)
  have T1 := Lib.hid (fmeans_one s9); have T2 := T1; have T3 := T1; have T4 := T1; have T5 := T1; have T6 := T1
  have h91 := cell_of_one HB.out.cp.cs; have h92 := cell_of_one HB.out.cp.cd
  go_wp2_with fail
  with_reducible refine (jJoin hV (by assumption) (by decide) (by first | assumption | exact Lib.hid (fmeans_one _)) (by first | assumption | exact Lib.hid (fmeans_one _))).mono ?_
  rintro e w9 ⟨s9, x9, rfl, hb, hk, hm⟩
  have Ma' := Lib.hid (hk _ _ Ma.out)
  have Mb' := Lib.hid (hk _ _ Mb.out)
  have Mc' := Lib.hid (hk _ _ Mc.out)
  have T1' := Lib.hid (hk _ _ T1.out)
  have T2' := Lib.hid (hk _ _ T2.out)
  have T3' := Lib.hid (hk _ _ T3.out)
  have T4' := Lib.hid (hk _ _ T4.out)
  have T5' := Lib.hid (hk _ _ T5.out)
  have HB' := Lib.hid hb; have T0' := Lib.hid hm
  clear h91 h92 hb hk hm HB Ma Mb Mc T1 T2 T3 T4 T5 T6
  have Ma := Ma'; clear Ma'; have Mb := Mb'; clear Mb'; have Mc := Mc'; clear Mc'
  have T6 := T5'; have T5 := T4'; have T4 := T3'; have T3 := T2'; have T2 := T1'; have T1 := T0'; have HB := HB'; clear T0' T1' T2' T3' T4' T5' HB'
  have h91 := cell_of_one HB.out.cp.cs; have h92 := cell_of_one HB.out.cp.cd
  go_wp2_with fail
  with_reducible refine (jJoin hV (by assumption) (by decide) (by first | assumption | exact Lib.hid (fmeans_one _)) (by first | assumption | exact Lib.hid (fmeans_one _))).mono ?_
  rintro e w9 ⟨s9, x9, rfl, hb, hk, hm⟩
  have Ma' := Lib.hid (hk _ _ Ma.out)
  have Mb' := Lib.hid (hk _ _ Mb.out)
  have Mc' := Lib.hid (hk _ _ Mc.out)
  have T1' := Lib.hid (hk _ _ T1.out)
  have T2' := Lib.hid (hk _ _ T2.out)
  have T3' := Lib.hid (hk _ _ T3.out)
  have T4' := Lib.hid (hk _ _ T4.out)
  have T5' := Lib.hid (hk _ _ T5.out)
  have HB' := Lib.hid hb; have T0' := Lib.hid hm
  clear h91 h92 hb hk hm HB Ma Mb Mc T1 T2 T3 T4 T5 T6
  have Ma := Ma'; clear Ma'; have Mb := Mb'; clear Mb'; have Mc := Mc'; clear Mc'
  have T6 := T5'; have T5 := T4'; have T4 := T3'; have T3 := T2'; have T2 := T1'; have T1 := T0'; have HB := HB'; clear T0' T1' T2' T3' T4' T5' HB'
  have h91 := cell_of_one HB.out.cp.cs; have h92 := cell_of_one HB.out.cp.cd
  go_wp2_with fail
  with_reducible refine (jJoin hV (by assumption) (by decide) (by first | assumption | exact Lib.hid (fmeans_one _)) (by first | assumption | exact Lib.hid (fmeans_one _))).mono ?_
  rintro e w9 ⟨s9, x9, rfl, hb, hk, hm⟩
  have Ma' := Lib.hid (hk _ _ Ma.out)
  have Mb' := Lib.hid (hk _ _ Mb.out)
  have Mc' := Lib.hid (hk _ _ Mc.out)
  have T1' := Lib.hid (hk _ _ T1.out)
  have T2' := Lib.hid (hk _ _ T2.out)
  have T3' := Lib.hid (hk _ _ T3.out)
  have T4' := Lib.hid (hk _ _ T4.out)
  have T5' := Lib.hid (hk _ _ T5.out)
  have HB' := Lib.hid hb; have T0' := Lib.hid hm
  clear h91 h92 hb hk hm HB Ma Mb Mc T1 T2 T3 T4 T5 T6
  have Ma := Ma'; clear Ma'; have Mb := Mb'; clear Mb'; have Mc := Mc'; clear Mc'
  have T6 := T5'; have T5 := T4'; have T4 := T3'; have T3 := T2'; have T2 := T1'; have T1 := T0'; have HB := HB'; clear T0' T1' T2' T3' T4' T5' HB'
  have h91 := cell_of_one HB.out.cp.cs; have h92 := cell_of_one HB.out.cp.cd
  go_wp2_with fail
  with_reducible refine (jJoin hV (by assumption) (by decide) (by first | assumption | exact Lib.hid (fmeans_one _)) (by first | assumption | exact Lib.hid (fmeans_one _))).mono ?_
  rintro e w9 ⟨s9, x9, rfl, hb, hk, hm⟩
  have Ma' := Lib.hid (hk _ _ Ma.out)
  have Mb' := Lib.hid (hk _ _ Mb.out)
  have Mc' := Lib.hid (hk _ _ Mc.out)
  have T1' := Lib.hid (hk _ _ T1.out)
  have T2' := Lib.hid (hk _ _ T2.out)
  have T3' := Lib.hid (hk _ _ T3.out)
  have T4' := Lib.hid (hk _ _ T4.out)
  have T5' := Lib.hid (hk _ _ T5.out)
  have HB' := Lib.hid hb; have T0' := Lib.hid hm
  clear h91 h92 hb hk hm HB Ma Mb Mc T1 T2 T3 T4 T5 T6
  have Ma := Ma'; clear Ma'; have Mb := Mb'; clear Mb'; have Mc := Mc'; clear Mc'
  have T6 := T5'; have T5 := T4'; have T4 := T3'; have T3 := T2'; have T2 := T1'; have T1 := T0'; have HB := HB'; clear T0' T1' T2' T3' T4' T5' HB'
  have h91 := cell_of_one HB.out.cp.cs; have h92 := cell_of_one HB.out.cp.cd
  go_wp2_with fail
  with_reducible refine (jThen (by assumption) (by assumption) (by assumption) (by first | exact fl1 A B | exact fl2 A B | exact fl3 A B | exact fl4 A B C | exact fl5 A B | exact fl6 A B C | exact fl7 A B C | exact fl8 A)).mono ?_
  rintro e w9 ⟨rfl, s9, hb⟩
  clear h91 h92 HB Ma Mb Mc T1 T2 T3 T4 T5 T6
  have HB := Lib.hid hb; clear hb
  have Ma := Lib.hid (KA.out _ HB.out.m); have Mb := Lib.hid (KB.out _ HB.out.m); have Mc := Lib.hid (KC.out _ HB.out.m)
  have T1 := Lib.hid (fmeans_one s9); have T2 := T1; have T3 := T1; have T4 := T1; have T5 := T1; have T6 := T1
  have h91 := cell_of_one HB.out.cp.cs; have h92 := cell_of_one HB.out.cp.cd
  go_wp2_with fail
  with_reducible refine (jOr hV (by assumption) (by decide) (by first | assumption | exact Lib.hid (fmeans_one _)) (by first | assumption | exact Lib.hid (fmeans_one _))).mono ?_
  rintro e w9 ⟨s9, x9, rfl, hb, hk, hm⟩
  have Ma' := Lib.hid (hk _ _ Ma.out)
  have Mb' := Lib.hid (hk _ _ Mb.out)
  have Mc' := Lib.hid (hk _ _ Mc.out)
  have T1' := Lib.hid (hk _ _ T1.out)
  have T2' := Lib.hid (hk _ _ T2.out)
  have T3' := Lib.hid (hk _ _ T3.out)
  have T4' := Lib.hid (hk _ _ T4.out)
  have T5' := Lib.hid (hk _ _ T5.out)
  have HB' := Lib.hid hb; have T0' := Lib.hid hm
  clear h91 h92 hb hk hm HB Ma Mb Mc T1 T2 T3 T4 T5 T6
  have Ma := Ma'; clear Ma'; have Mb := Mb'; clear Mb'; have Mc := Mc'; clear Mc'
  have T6 := T5'; have T5 := T4'; have T4 := T3'; have T3 := T2'; have T2 := T1'; have T1 := T0'; have HB := HB'; clear T0' T1' T2' T3' T4' T5' HB'
  have h91 := cell_of_one HB.out.cp.cs; have h92 := cell_of_one HB.out.cp.cd
  go_wp2_with fail
  with_reducible refine (jJoin hV (by assumption) (by decide) (by first | assumption | exact Lib.hid (fmeans_one _)) (by first | assumption | exact Lib.hid (fmeans_one _))).mono ?_
  rintro e w9 ⟨s9, x9, rfl, hb, hk, hm⟩
  have Ma' := Lib.hid (hk _ _ Ma.out)
  have Mb' := Lib.hid (hk _ _ Mb.out)
  have Mc' := Lib.hid (hk _ _ Mc.out)
  have T1' := Lib.hid (hk _ _ T1.out)
  have T2' := Lib.hid (hk _ _ T2.out)
  have T3' := Lib.hid (hk _ _ T3.out)
  have T4' := Lib.hid (hk _ _ T4.out)
  have T5' := Lib.hid (hk _ _ T5.out)
  have HB' := Lib.hid hb; have T0' := Lib.hid hm
  clear h91 h92 hb hk hm HB Ma Mb Mc T1 T2 T3 T4 T5 T6
  have Ma := Ma'; clear Ma'; have Mb := Mb'; clear Mb'; have Mc := Mc'; clear Mc'
  have T6 := T5'; have T5 := T4'; have T4 := T3'; have T3 := T2'; have T2 := T1'; have T1 := T0'; have HB := HB'; clear T0' T1' T2' T3' T4' T5' HB'
  have h91 := cell_of_one HB.out.cp.cs; have h92 := cell_of_one HB.out.cp.cd
  go_wp2_with fail
  with_reducible refine (jJoin hV (by assumption) (by decide) (by first | assumption | exact Lib.hid (fmeans_one _)) (by first | assumption | exact Lib.hid (fmeans_one _))).mono ?_
  rintro e w9 ⟨s9, x9, rfl, hb, hk, hm⟩
  have Ma' := Lib.hid (hk _ _ Ma.out)
  have Mb' := Lib.hid (hk _ _ Mb.out)
  have Mc' := Lib.hid (hk _ _ Mc.out)
  have T1' := Lib.hid (hk _ _ T1.out)
  have T2' := Lib.hid (hk _ _ T2.out)
  have T3' := Lib.hid (hk _ _ T3.out)
  have T4' := Lib.hid (hk _ _ T4.out)
  have T5' := Lib.hid (hk _ _ T5.out)
  have HB' := Lib.hid hb; have T0' := Lib.hid hm
  clear h91 h92 hb hk hm HB Ma Mb Mc T1 T2 T3 T4 T5 T6
  have Ma := Ma'; clear Ma'; have Mb := Mb'; clear Mb'; have Mc := Mc'; clear Mc'
  have T6 := T5'; have T5 := T4'; have T4 := T3'; have T3 := T2'; have T2 := T1'; have T1 := T0'; have HB := HB'; clear T0' T1' T2' T3' T4' T5' HB'
  have h91 := cell_of_one HB.out.cp.cs; have h92 := cell_of_one HB.out.cp.cd
  go_wp2_with fail
  with_reducible refine (jJoin hV (by assumption) (by decide) (by first | assumption | exact Lib.hid (fmeans_one _)) (by first | assumption | exact Lib.hid (fmeans_one _))).mono ?_
  rintro e w9 ⟨s9, x9, rfl, hb, hk, hm⟩
  have Ma' := Lib.hid (hk _ _ Ma.out)
  have Mb' := Lib.hid (hk _ _ Mb.out)
  have Mc' := Lib.hid (hk _ _ Mc.out)
  have T1' := Lib.hid (hk _ _ T1.out)
  have T2' := Lib.hid (hk _ _ T2.out)
  have T3' := Lib.hid (hk _ _ T3.out)
  have T4' := Lib.hid (hk _ _ T4.out)
  have T5' := Lib.hid (hk _ _ T5.out)
  have HB' := Lib.hid hb; have T0' := Lib.hid hm
  clear h91 h92 hb hk hm HB Ma Mb Mc T1 T2 T3 T4 T5 T6
  have Ma := Ma'; clear Ma'; have Mb := Mb'; clear Mb'; have Mc := Mc'; clear Mc'
  have T6 := T5'; have T5 := T4'; have T4 := T3'; have T3 := T2'; have T2 := T1'; have T1 := T0'; have HB := HB'; clear T0' T1' T2' T3' T4' T5' HB'
  have h91 := cell_of_one HB.out.cp.cs; have h92 := cell_of_one HB.out.cp.cd
  go_wp2_with fail
  with_reducible refine (jOr hV (by assumption) (by decide) (by first | assumption | exact Lib.hid (fmeans_one _)) (by first | assumption | exact Lib.hid (fmeans_one _))).mono ?_
  rintro e w9 ⟨s9, x9, rfl, hb, hk, hm⟩
  have Ma' := Lib.hid (hk _ _ Ma.out)
  have Mb' := Lib.hid (hk _ _ Mb.out)
  have Mc' := Lib.hid (hk _ _ Mc.out)
  have T1' := Lib.hid (hk _ _ T1.out)
  have T2' := Lib.hid (hk _ _ T2.out)
  have T3' := Lib.hid (hk _ _ T3.out)
  have T4' := Lib.hid (hk _ _ T4.out)
  have T5' := Lib.hid (hk _ _ T5.out)
  have HB' := Lib.hid hb; have T0' := Lib.hid hm
  clear h91 h92 hb hk hm HB Ma Mb Mc T1 T2 T3 T4 T5 T6
  have Ma := Ma'; clear Ma'; have Mb := Mb'; clear Mb'; have Mc := Mc'; clear Mc'
  have T6 := T5'; have T5 := T4'; have T4 := T3'; have T3 := T2'; have T2 := T1'; have T1 := T0'; have HB := HB'; clear T0' T1' T2' T3' T4' T5' HB'
  have h91 := cell_of_one HB.out.cp.cs; have h92 := cell_of_one HB.out.cp.cd
  go_wp2_with fail
  with_reducible refine (jThen (by assumption) (by assumption) (by assumption) (by first | exact fl1 A B | exact fl2 A B | exact fl3 A B | exact fl4 A B C | exact fl5 A B | exact fl6 A B C | exact fl7 A B C | exact fl8 A)).mono ?_
  rintro e w9 ⟨rfl, s9, hb⟩
  clear h91 h92 HB Ma Mb Mc T1 T2 T3 T4 T5 T6
  have HB := Lib.hid hb; clear hb
  have Ma := Lib.hid (KA.out _ HB.out.m); have Mb := Lib.hid (KB.out _ HB.out.m); have Mc := Lib.hid (KC.out _ HB.out.m)
  have T1 := Lib.hid (fmeans_one s9); have T2 := T1; have T3 := T1; have T4 := T1; have T5 := T1; have T6 := T1
  have h91 := cell_of_one HB.out.cp.cs; have h92 := cell_of_one HB.out.cp.cd
  go_wp2_with fail
  with_reducible refine (jJoin hV (by assumption) (by decide) (by first | assumption | exact Lib.hid (fmeans_one _)) (by first | assumption | exact Lib.hid (fmeans_one _))).mono ?_
  rintro e w9 ⟨s9, x9, rfl, hb, hk, hm⟩
  have Ma' := Lib.hid (hk _ _ Ma.out)
  have Mb' := Lib.hid (hk _ _ Mb.out)
  have Mc' := Lib.hid (hk _ _ Mc.out)
  have T1' := Lib.hid (hk _ _ T1.out)
  have T2' := Lib.hid (hk _ _ T2.out)
  have T3' := Lib.hid (hk _ _ T3.out)
  have T4' := Lib.hid (hk _ _ T4.out)
  have T5' := Lib.hid (hk _ _ T5.out)
  have HB' := Lib.hid hb; have T0' := Lib.hid hm
  clear h91 h92 hb hk hm HB Ma Mb Mc T1 T2 T3 T4 T5 T6
  have Ma := Ma'; clear Ma'; have Mb := Mb'; clear Mb'; have Mc := Mc'; clear Mc'
  have T6 := T5'; have T5 := T4'; have T4 := T3'; have T3 := T2'; have T2 := T1'; have T1 := T0'; have HB := HB'; clear T0' T1' T2' T3' T4' T5' HB'
  have h91 := cell_of_one HB.out.cp.cs; have h92 := cell_of_one HB.out.cp.cd
  go_wp2_with fail
  with_reducible refine (jThen (by assumption) (by assumption) (by assumption) (by first | exact fl1 A B | exact fl2 A B | exact fl3 A B | exact fl4 A B C | exact fl5 A B | exact fl6 A B C | exact fl7 A B C | exact fl8 A)).mono ?_
  rintro e w9 ⟨rfl, s9, hb⟩
  clear h91 h92 HB Ma Mb Mc T1 T2 T3 T4 T5 T6
  have HB := Lib.hid hb; clear hb
  have Ma := Lib.hid (KA.out _ HB.out.m); have Mb := Lib.hid (KB.out _ HB.out.m); have Mc := Lib.hid (KC.out _ HB.out.m)
  have T1 := Lib.hid (fmeans_one s9); have T2 := T1; have T3 := T1; have T4 := T1; have T5 := T1; have T6 := T1
  have h91 := cell_of_one HB.out.cp.cs; have h92 := cell_of_one HB.out.cp.cd
  go_wp2_with fail
  go_ret
  exact ⟨rfl, Hb1.out.trans (HB.out.f.only.below Hb1.out.size Hnew.out)⟩
end Go.Proofs.Ytmlnfbageoabnaa
