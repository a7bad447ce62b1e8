/- The walk of BddCounts. -/
import Derived.Test.YtmlnfbageoabnaaCount
import Derived.Test.YtmlnfbageoabnaaNatCmp
import Derived.Test.YtmlnfbageoabnaaBooleM
import Derived.Test.YtmlnfbageoabnaaSpaceF
import Derived.BigQuiet
namespace Go.Proofs.Ytmlnfbageoabnaa
open Go.RowKit
set_option linter.unusedVariables false

theorem first_run4 (V : Nat) (l : List Stp) (h1 : 1 ≤ V) (h2 : V ≤ 6) (h3 : l.length ≤ 25) : FOk V (funsX V l ⟨List.replicate 4000 none, noQ⟩ [0, 1]).1 (funsX V l ⟨List.replicate 4000 none, noQ⟩ [0, 1]).2 ∧
    (funsX V l ⟨List.replicate 4000 none, noQ⟩ [0, 1]).1.c.length = 4000 ∧ cnt (funsX V l ⟨List.replicate 4000 none, noQ⟩ [0, 1]).1.c ≤ 3200 ∧ (funsX V l ⟨List.replicate 4000 none, noQ⟩ [0, 1]).2.length = l.length + 2 := by
  have f : FOk V ⟨List.replicate 4000 none, noQ⟩ [0, 1] := ⟨SOk.none (COk.empty V 4000), fun h hh => by
    rcases List.mem_cons.1 hh with rfl | hh
    · exact hasM_zero _
    · rw [List.mem_singleton.1 hh]; exact hasM_one _, by simp⟩
  have hc0 : cnt (List.replicate 4000 none : Cells) = 0 := by unfold cnt; rw [List.countP_replicate]; simp
  have hp : 2 ^ V ≤ 2 ^ 6 := Nat.pow_le_pow_right (by decide) h2
  have hm : l.length * (2 * 2 ^ V) ≤ 25 * (2 * 2 ^ 6) := Nat.mul_le_mul h3 (by omega)
  obtain ⟨_, a, b, c, d⟩ := run_ok h1 (by omega) l _ _ f (by dsimp only; rw [hc0, List.length_replicate]; omega)
  dsimp only at b c d
  rw [hc0] at c
  rw [List.length_replicate] at b
  exact ⟨a, b, by omega, by rw [d]; simp; omega⟩
theorem owns_cells2 {w : World} {base e g n cap : Nat} {xs : List Int} (h : w.ownsRow base e 1 (.slice (some ⟨g, 0, none⟩) n cap) xs.length (xs.map (Value.int .i64))) (hp : 0 < xs.length) : ∀ (i : Nat) (hi : i < xs.length), w.cell? ⟨g, i, none⟩ = some (.int .i64 xs[i]) := by
  obtain ⟨g', c', e', hr⟩ := owns_at h hp
  cases e'
  exact hr

/-- Of how many values. -/
def numS (V : Nat) (D : Fn1) : Nat := sumS V V D (fun _ => false)
theorem numS_le (V : Nat) (hV : V ≤ 24) (D : Fn1) : numS V D ≤ 2 ^ 24 := Nat.le_trans (sumS_le _ _ _) (Nat.pow_le_pow_right (by decide) hV)
theorem numS_congr {V : Nat} {D D' : Fn1} (h : ∀ val, D val = D' val) : numS V D = numS V D' := sumS_congr _ _ _ _ (fun val' _ => h val')
theorem numS_both (V : Nat) (A B : Fn1) : numS V (fun val => A val || B val) + numS V (fun val => A val && B val) = numS V A + numS V B :=
  sumS_add _ _ _ _ (fun val => by cases A val <;> cases B val <;> rfl) _ _
theorem numS_not (V : Nat) (A : Fn1) : numS V A + numS V (fun val => !A val) = 2 ^ V := sumS_not _ _ (fun val => by cases A val <;> rfl) _ _

set_option maxRecDepth 100000 in
set_option maxHeartbeats 2000000 in
/-- The closure that counts. -/
theorem cN_any (V : Nat) (hV : V ≤ 24) (x : Int) (w : World) (s : Sb) (st : Sp) {bs : Nat} {D : Fn1} (hs : IsSpace w s V st) (so : SOk V st) (hb : w.heap[bs]? = some (.cells #[.pointer (some ⟨s.ps, 0, none⟩)] 46 (0, 0))) (m : Means st x D) :
    Calls Try.prog 42 #[.int .i64 x, .pointer (some ⟨bs, 0, none⟩)] w fun e w' => ∃ v, e = .returned v ∧ IsNat w' v (numS V D) ∧ Below w.heap.size w w' := by
  have c1 := cell_of_one hb
  have l1 := lt_of_block hb
  have hb0 : Below w.heap.size w (w.alloc (.cells #[.slice none 0 0] 70)) := (Below.refl _ _).alloc (Nat.le_refl _) _
  have hq := Count_any V hV x _ s st (hs.below hb0) so.cells m.has
  have e : sumS V V (den st.c x) (fun _ => false) = numS V D := numS_congr m.den
  rw [e] at hq
  have Hq := Lib.hid hq; have Hb0 := Lib.hid hb0; clear hq hs so hb m e hb0
  go_enter Try.func42, Try.ntmps42
  go_wp2_with fail
  refine Hq.out.mono ?_
  rintro e w1 ⟨v, rfl, hn, hb1⟩
  obtain ⟨a9, c9, rfl⟩ := hn.shape
  have hr : Res w w1 70 (.slice none 0 0) := res_of (heap_at rfl) Hb0.out hb1
  have k1 := hr.cell; have k2 := hr.free; have k3 := hr.lt
  have k4 : ((w1.setCell ⟨w.heap.size, 0, none⟩ (.slice a9 (limbsOf (numS V D)).length c9)).alloc (.cells #[.slice a9 (limbsOf (numS V D)).length c9] 70)).cell? ⟨w.heap.size, 0, none⟩ = some (.slice a9 (limbsOf (numS V D)).length c9) := cell_of_one (heap_up (one_setCell hr.blk))
  have Hr := Lib.hid hr; have Hn := Lib.hid hn; clear hr hn hb1 Hq Hb0
  go_wp2_with fail
  have hb9 : Below (w1.setCell ⟨w.heap.size, 0, none⟩ (.slice a9 (limbsOf (numS V D)).length c9)).heap.size (w1.setCell ⟨w.heap.size, 0, none⟩ (.slice a9 (limbsOf (numS V D)).length c9)) ((w1.setCell ⟨w.heap.size, 0, none⟩ (.slice a9 (limbsOf (numS V D)).length c9)).alloc (.cells #[.slice a9 (limbsOf (numS V D)).length c9] 70)) := (Below.refl _ _).alloc (Nat.le_refl _) _
  exact bodyPost_ret (v := .agg #[.slice a9 (limbsOf (numS V D)).length c9]) (by simp [results, Try.results42, go_sem, k4]) rfl ⟨_, rfl, (Hn.out.setRes Hr.out.blk _).below hb9, (Hr.out.set _).trans (hb9.mono (Hr.out.set _).size)⟩

set_option maxRecDepth 100000 in
set_option maxHeartbeats 8000000 in
theorem bcounts_any (vars iv kv : Int) (vl : Value) (l : List Stp) (w : World) (hst : IsSteps w vl l) :
    Calls Try.prog 7 #[.int .i64 vars, vl, .int .i64 iv, .int .i64 kv] w fun e w' => e = .returned (.bool true) ∧ Below w.heap.size w w' := by
  have hmf : ∀ (fn : Fn) (first cap : Array Value) (w : World), (Instr.makeFunc fn first cap).run Try.prog w = .ok (.func fn first cap) w := fun _ _ _ _ => rfl
  by_cases hno : vars < 1 ∨ 6 < vars ∨ 25 < l.length
  · have Hn := Lib.hid (space_no vars vl l w hst hno)
    clear hno hst
    go_enter Try.func7, Try.ntmps7
    go_wp2_with fail
    refine Hn.out.mono ?_
    rintro e w1 ⟨rfl, rfl⟩
    go_wp2_with fail
    go_ret
    exact ⟨rfl, (Below.refl _ _).alloc (Nat.le_refl _) _⟩
  obtain ⟨V, rfl⟩ : ∃ V : Nat, vars = V := ⟨vars.toNat, by omega⟩
  have h1 : 1 ≤ V := by omega
  have hV : V ≤ 6 := by omega
  have h3 : l.length ≤ 25 := by omega
  have Hsp := Lib.hid (space_ok V vl l w hst h1 hV h3)
  clear hno hst
  go_enter Try.func7, Try.ntmps7
  go_wp2_with fail
  refine Hsp.out.mono ?_
  rintro e w2 ⟨s, va, w1, rfl, hb1, hm, hp, hfs⟩
  obtain ⟨fo, fl, fc, fn⟩ := first_run4 V l h1 hV h3
  generalize (funsX V l ⟨List.replicate 4000 none, noQ⟩ [0, 1]).1 = st at hfs fo fl fc
  generalize (funsX V l ⟨List.replicate 4000 none, noQ⟩ [0, 1]).2 = out at hfs fo fn
  obtain ⟨g, cap, rfl, hrow0⟩ := owns_at hfs.own (by omega)
  clear hrow0
  have hlt := fun k (hk : s.mem k) => hfs.sp.lt hk
  have hbb : Below w2.heap.size w2 (w2.alloc (.cells #[.pointer (some ⟨s.ps, 0, none⟩)] 46)) := (Below.refl _ _).alloc (Nat.le_refl _) _
  have hfs2 := hfs.grow hbb
  have hbs : (w2.alloc (.cells #[.pointer (some ⟨s.ps, 0, none⟩)] 46)).heap[w2.heap.size]? = some (.cells #[.pointer (some ⟨s.ps, 0, none⟩)] 46 (0, 0)) := heap_at rfl
  have Hfo := Lib.hid fo; have Hfl := Lib.hid fl; have Hfc := Lib.hid fc; have Hfn := Lib.hid fn; have Hb1 := Lib.hid hb1; have Hm := Lib.hid hm; have Hlt := Lib.hid hlt; have Hfs := Lib.hid hfs2; have Hbs := Lib.hid hbs
  clear hfs hfs2 fo fl fc fn hb1 hm hp hlt Hsp hbs hbb
  go_wp2_with fail
  refine (truth_any _).mono ?_
  rintro e w3 ⟨rfl, hb3⟩
  have hfs3 := Hfs.out.grow hb3
  have hbs3 := (hb3.block _ (lt_of_block Hbs.out)).trans Hbs.out
  have nbs : ¬ s.mem w2.heap.size := fun hk => by have := Hlt.out _ hk; omega
  obtain ⟨bs, ebs⟩ : ∃ b, b = w2.heap.size := ⟨_, rfl⟩
  rw [← ebs] at hbs3 nbs ⊢
  clear Hfs Hbs hb3 Hlt ebs
  clear w2
  have hrow := owns_cells2 hfs3.own (by have := Hfn.out; omega)
  have hpos : 0 < out.length := by have := Hfn.out; omega
  have hno : out.length ≤ 1000000 := by have := Hfn.out; omega
  have l1 := pickN_lt iv hpos
  have l2 := pickN_lt kv hpos
  have r1 := hrow _ l1
  have r2 := hrow _ l2
  have m1 := Hfo.out.has _ (List.getElem_mem l1)
  have m2 := Hfo.out.has _ (List.getElem_mem l2)
  have p1 := fun w' => (pick_any iv out.length w' hpos hno).mono fun e w'' h => And.intro h.1 h.2.symm
  have p2 := fun w' => (pick_any kv out.length w' hpos hno).mono fun e w'' h => And.intro h.1 h.2.symm
  generalize out[pickN iv out.length] = a at r1 m1
  generalize out[pickN kv out.length] = b at r2 m2
  have j1 : ((pickN iv out.length : Nat) : Int) < out.length := by exact_mod_cast l1
  have j2 : ((pickN kv out.length : Nat) : Int) < out.length := by exact_mod_cast l2
  clear hrow l1 l2 hpos hno
  generalize pickN iv out.length = q1 at r1 j1 p1
  generalize pickN kv out.length = q2 at r2 j2 p2
  have csx := cell_of_one hbs3
  have hle : (out.length : Int) ≤ 27 := by have := Hfn.out; omega
  have pw : 2 ^ (V : Int).toNat ≤ 64 := by
    have : 2 ^ V ≤ 2 ^ 6 := Nat.pow_le_pow_right (by decide) hV
    simpa using this
  -- what is made: or, and, not
  have so := Hfo.out.sok
  have mA := means_self m1; have mB := means_self m2
  have hroom : cnt st.c ≤ 3200 ∧ st.c.length = 4000 := ⟨Hfc.out, Hfl.out⟩
  have oOr := iteX_ok (show (V : Int) ≤ 24 by omega) so m1 (hasM_one _) m2 (by omega)
  have qOr := fun w' hs' => Or_any V (by omega) a b w' s st hs' so m1 m2 (by omega)
  obtain ⟨R1, e1⟩ : ∃ R, R = iteX st a 1 b := ⟨_, rfl⟩
  rw [← e1] at oOr qOr
  have c1 := oOr.cnt; have n1 := oOr.ext.len
  have mA1 := oOr.up.means so mA; have mB1 := oOr.up.means so mB
  have oAnd := iteX_ok (show (V : Int) ≤ 24 by omega) oOr.sok mA1.has mB1.has (hasM_zero _) (by omega)
  have qAnd := fun w' hs' => And_any V (by omega) a b w' s R1.1 hs' oOr.sok mA1.has mB1.has (by omega)
  obtain ⟨R2, e2⟩ : ∃ R, R = iteX R1.1 a b 0 := ⟨_, rfl⟩
  rw [← e2] at oAnd qAnd
  have c2 := oAnd.cnt; have n2 := oAnd.ext.len
  have mA2 := oAnd.up.means oOr.sok mA1; have mB2 := oAnd.up.means oOr.sok mB1; have mO2 := oAnd.up.means oOr.sok oOr.means
  have oNot := iteX_ok (show (V : Int) ≤ 24 by omega) oAnd.sok mA2.has (hasM_zero _) (hasM_one _) (by omega)
  have qNot := fun w' hs' => Not_any V (by omega) a w' s R2.1 hs' oAnd.sok mA2.has (by omega)
  obtain ⟨R3, e3⟩ : ∃ R, R = iteX R2.1 a 0 1 := ⟨_, rfl⟩
  rw [← e3] at oNot qNot
  have mA3 := oNot.up.means oAnd.sok mA2; have mB3 := oNot.up.means oAnd.sok mB2; have mO3 := oNot.up.means oAnd.sok mO2; have mN3 := oNot.up.means oAnd.sok oAnd.means
  have so3 := oNot.sok
  have mO : Means R3.1 R1.2.1 (fun val => den st.c a val || den st.c b val) := ⟨mO3.has, fun val => (mO3.den val).trans (by rw [den_one]; cases den st.c a val <;> simp)⟩
  have mD : Means R3.1 R2.2.1 (fun val => den st.c a val && den st.c b val) := ⟨mN3.has, fun val => (mN3.den val).trans (by rw [mA1.den, mB1.den, den_zero]; cases den st.c a val <;> simp)⟩
  have mN : Means R3.1 R3.2.1 (fun val => !den st.c a val) := ⟨oNot.has, fun val => (oNot.den val).trans (by rw [mA2.den, den_zero, den_one]; cases den st.c a val <;> rfl)⟩
  have E1 := Lib.hid oOr.err; have E2 := Lib.hid oAnd.err; have E3 := Lib.hid oNot.err
  have QOr := Lib.hid qOr; have QAnd := Lib.hid qAnd; have QNot := Lib.hid qNot; have MA := Lib.hid mA3; have MB := Lib.hid mB3; have MO := Lib.hid mO; have MD := Lib.hid mD; have MN := Lib.hid mN; have So := Lib.hid so3
  have P1 := Lib.hid p1; have P2 := Lib.hid p2; have Hfs := Lib.hid hfs3; have Hbs := Lib.hid hbs3; have Nbs := Lib.hid nbs
  clear so mA mB m1 m2 hroom oOr qOr e1 c1 n1 mA1 mB1 oAnd qAnd e2 c2 n2 mA2 mB2 mO2 oNot qNot e3 mA3 mB3 mO3 mN3 so3 mO mD mN p1 p2 hfs3 hbs3 nbs pw
  go_upto_region 6 with fail
  go_quiet (first
    | (go_at_call_of 13 (Value.int IntKind.i64 iv); exact Calls.quiet_of_same (P1.out _))
    | (go_at_call_of 13 (Value.int IntKind.i64 kv); exact Calls.quiet_of_same (P2.out _)))
  have hb4 : Below w3.heap.size w3 (w3.drewN nq) := below_drewN (Below.refl _ _) nq
  have hfs4 := Hfs.out.grow hb4
  have hbs4 := (hb4.block _ (lt_of_block Hbs.out)).trans Hbs.out
  clear Hfs Hbs r1 r2 j1 j2 P1 P2 csx hle hb4
  generalize w3.drewN nq = w4 at hfs4 hbs4 ⊢
  clear w3 nq
  have csx := cell_of_one hbs4
  have lb := lt_of_block hbs4
  have Hfs := Lib.hid hfs4; have Hbs := Lib.hid hbs4; clear hfs4 hbs4
  have Hq := Lib.hid (QOr.out w4 Hfs.out.sp)
  go_wp2_with fail
  refine Hq.out.mono ?_
  rintro e w5 ⟨rfl, hs5, ho5⟩
  rw [E1.out]
  simp only [errV, if_true]
  have hfs5 := Hfs.out.step ho5 hs5
  have hbs5 := (ho5.block _ (lt_of_block Hbs.out) Nbs.out).trans Hbs.out
  clear Hfs Hbs Hq hs5 ho5 csx lb
  have csx := cell_of_one hbs5
  have lb := lt_of_block hbs5
  have Hfs := Lib.hid hfs5; have Hbs := Lib.hid hbs5; clear hfs5 hbs5
  have Hq := Lib.hid (QAnd.out w5 Hfs.out.sp)
  go_wp2_with fail
  refine Hq.out.mono ?_
  rintro e w6 ⟨rfl, hs5, ho5⟩
  rw [E2.out]
  simp only [errV, if_true]
  have hfs5 := Hfs.out.step ho5 hs5
  have hbs5 := (ho5.block _ (lt_of_block Hbs.out) Nbs.out).trans Hbs.out
  clear Hfs Hbs Hq hs5 ho5 csx lb
  have csx := cell_of_one hbs5
  have lb := lt_of_block hbs5
  have Hfs := Lib.hid hfs5; have Hbs := Lib.hid hbs5; clear hfs5 hbs5
  have Hq := Lib.hid (QNot.out w6 Hfs.out.sp)
  go_wp2_with fail
  refine Hq.out.mono ?_
  rintro e w7 ⟨rfl, hs5, ho5⟩
  rw [E3.out]
  simp only [errV, if_true]
  have hfs5 := Hfs.out.step ho5 hs5
  have hbs5 := (ho5.block _ (lt_of_block Hbs.out) Nbs.out).trans Hbs.out
  clear Hfs Hbs Hq hs5 ho5 csx lb
  have Hfs := Lib.hid hfs5; have Hbs := Lib.hid hbs5; clear hfs5 hbs5
  -- what is counted
  have d1 := numS_both V (den st.c a) (den st.c b); have d2 := numS_not V (den st.c a)
  have q1 := short24 (numS_le V (by omega) (fun val => den st.c a val || den st.c b val)); have q2 := short24 (numS_le V (by omega) (fun val => den st.c a val && den st.c b val)); have q3 := short24 (numS_le V (by omega) (den st.c a)); have q4 := short24 (numS_le V (by omega) (den st.c b)); have q5 := short24 (numS_le V (by omega) (fun val => !den st.c a val))
  have Kn : ∀ (D : Fn1) (n : Nat), n = numS V D → ∀ (x : Int) (w' : World), FSt w1 w' s V R3.1 (.slice (some ⟨g, 0, none⟩) out.length cap) out → w'.heap[bs]? = some (.cells #[.pointer (some ⟨s.ps, 0, none⟩)] 46 (0, 0)) → Means R3.1 x D →
      Calls Try.prog 42 #[.int .i64 x, .pointer (some ⟨bs, 0, none⟩)] w' fun e w'' => ∃ v, e = .returned v ∧ IsNat w'' v n ∧ Below w'.heap.size w' w'' := fun D n en x w' hf hb m => by rw [en]; exact cN_any V (by omega) x w' s R3.1 hf.sp So.out hb m
  obtain ⟨n1, en1⟩ : ∃ n, n = numS V (fun val => den st.c a val || den st.c b val) := ⟨_, rfl⟩
  obtain ⟨n2, en2⟩ : ∃ n, n = numS V (fun val => den st.c a val && den st.c b val) := ⟨_, rfl⟩
  obtain ⟨n3, en3⟩ : ∃ n, n = numS V (den st.c a) := ⟨_, rfl⟩
  obtain ⟨n4, en4⟩ : ∃ n, n = numS V (den st.c b) := ⟨_, rfl⟩
  obtain ⟨n5, en5⟩ : ∃ n, n = numS V (fun val => !den st.c a val) := ⟨_, rfl⟩
  rw [← en1, ← en2, ← en3, ← en4] at d1
  rw [← en3, ← en5] at d2
  rw [← en1] at q1; rw [← en2] at q2; rw [← en3] at q3; rw [← en4] at q4; rw [← en5] at q5
  have C1 := Lib.hid (fun w' hf hb => Kn _ n1 en1 R1.2.1 w' hf hb MO.out); have C2 := Lib.hid (fun w' hf hb => Kn _ n2 en2 R2.2.1 w' hf hb MD.out); have C3 := Lib.hid (fun w' hf hb => Kn _ n3 en3 a w' hf hb MA.out); have C4 := Lib.hid (fun w' hf hb => Kn _ n4 en4 b w' hf hb MB.out); have C5 := Lib.hid (fun w' hf hb => Kn _ n5 en5 R3.2.1 w' hf hb MN.out)
  have D1 := Lib.hid d1; have D2 := Lib.hid d2; have S1 := Lib.hid q1; have S2 := Lib.hid q2; have S3 := Lib.hid q3; have S4 := Lib.hid q4; have S5 := Lib.hid q5
  clear d1 d2 q1 q2 q3 q4 q5 Kn en1 en2 en3 en4 en5 MO MD MA MB MN So
  have Hq := Lib.hid (C1.out w7 Hfs.out Hbs.out)
  go_wp2_with fail
  with_reducible refine Hq.out.mono ?_
  rintro e w8 ⟨v1, rfl, hn, hb⟩
  have hf := Hfs.out.grow hb; have hbx := (hb.block _ (lt_of_block Hbs.out)).trans Hbs.out
  clear Hfs Hbs Hq; have Hfs := Lib.hid hf; have Hbs := Lib.hid hbx; clear hf hbx
  obtain ⟨av1, cv1, rfl⟩ := hn.shape
  have Nv1 := Lib.hid hn; clear hn hb
  have Hq := Lib.hid (C2.out w8 Hfs.out Hbs.out)
  go_wp2_with fail
  with_reducible refine Hq.out.mono ?_
  rintro e w9 ⟨v2, rfl, hn, hb⟩
  have hf := Hfs.out.grow hb; have hbx := (hb.block _ (lt_of_block Hbs.out)).trans Hbs.out
  have Xv1 := Lib.hid (Nv1.out.below hb); clear Nv1; have Nv1 := Xv1; clear Xv1
  clear Hfs Hbs Hq; have Hfs := Lib.hid hf; have Hbs := Lib.hid hbx; clear hf hbx
  obtain ⟨av2, cv2, rfl⟩ := hn.shape
  have Nv2 := Lib.hid hn; clear hn hb
  have Hq := Lib.hid (Add_any (n1) (n2) _ _ w9 Nv1.out Nv2.out S1.out S2.out)
  go_wp2_with fail
  with_reducible refine Hq.out.mono ?_
  rintro e w10 ⟨v3, rfl, hn, hb⟩
  have hf := Hfs.out.grow hb; have hbx := (hb.block _ (lt_of_block Hbs.out)).trans Hbs.out
  have Xv1 := Lib.hid (Nv1.out.below hb); clear Nv1; have Nv1 := Xv1; clear Xv1
  have Xv2 := Lib.hid (Nv2.out.below hb); clear Nv2; have Nv2 := Xv2; clear Xv2
  clear Hfs Hbs Hq; have Hfs := Lib.hid hf; have Hbs := Lib.hid hbx; clear hf hbx
  obtain ⟨av3, cv3, rfl⟩ := hn.shape
  have Nv3 := Lib.hid hn; clear hn hb
  clear Nv1
  clear Nv2
  have Hq := Lib.hid (C3.out w10 Hfs.out Hbs.out)
  go_wp2_with fail
  with_reducible refine Hq.out.mono ?_
  rintro e w11 ⟨v4, rfl, hn, hb⟩
  have hf := Hfs.out.grow hb; have hbx := (hb.block _ (lt_of_block Hbs.out)).trans Hbs.out
  have Xv3 := Lib.hid (Nv3.out.below hb); clear Nv3; have Nv3 := Xv3; clear Xv3
  clear Hfs Hbs Hq; have Hfs := Lib.hid hf; have Hbs := Lib.hid hbx; clear hf hbx
  obtain ⟨av4, cv4, rfl⟩ := hn.shape
  have Nv4 := Lib.hid hn; clear hn hb
  have Hq := Lib.hid (C4.out w11 Hfs.out Hbs.out)
  go_wp2_with fail
  with_reducible refine Hq.out.mono ?_
  rintro e w12 ⟨v5, rfl, hn, hb⟩
  have hf := Hfs.out.grow hb; have hbx := (hb.block _ (lt_of_block Hbs.out)).trans Hbs.out
  have Xv3 := Lib.hid (Nv3.out.below hb); clear Nv3; have Nv3 := Xv3; clear Xv3
  have Xv4 := Lib.hid (Nv4.out.below hb); clear Nv4; have Nv4 := Xv4; clear Xv4
  clear Hfs Hbs Hq; have Hfs := Lib.hid hf; have Hbs := Lib.hid hbx; clear hf hbx
  obtain ⟨av5, cv5, rfl⟩ := hn.shape
  have Nv5 := Lib.hid hn; clear hn hb
  have Hq := Lib.hid (Add_any (n3) (n4) _ _ w12 Nv4.out Nv5.out S3.out S4.out)
  go_wp2_with fail
  with_reducible refine Hq.out.mono ?_
  rintro e w13 ⟨v6, rfl, hn, hb⟩
  have hf := Hfs.out.grow hb; have hbx := (hb.block _ (lt_of_block Hbs.out)).trans Hbs.out
  have Xv3 := Lib.hid (Nv3.out.below hb); clear Nv3; have Nv3 := Xv3; clear Xv3
  have Xv4 := Lib.hid (Nv4.out.below hb); clear Nv4; have Nv4 := Xv4; clear Xv4
  have Xv5 := Lib.hid (Nv5.out.below hb); clear Nv5; have Nv5 := Xv5; clear Xv5
  clear Hfs Hbs Hq; have Hfs := Lib.hid hf; have Hbs := Lib.hid hbx; clear hf hbx
  obtain ⟨av6, cv6, rfl⟩ := hn.shape
  have Nv6 := Lib.hid hn; clear hn hb
  clear Nv4
  clear Nv5
  have hc := Cmp_any (n1 + n2) (n3 + n4) _ _ w13 Nv3.out Nv6.out
  rw [show cmpN (n1 + n2) (n3 + n4) = 0 from (by rw [D1.out]; unfold cmpN; rw [if_neg (by omega), if_neg (by omega)])] at hc
  have Hq := Lib.hid hc; clear hc
  go_wp2_with fail
  with_reducible refine Hq.out.mono ?_
  rintro e w14 ⟨rfl, hb⟩
  have hf := Hfs.out.grow hb; have hbx := (hb.block _ (lt_of_block Hbs.out)).trans Hbs.out
  have Xv3 := Lib.hid (Nv3.out.below hb); clear Nv3; have Nv3 := Xv3; clear Xv3
  have Xv6 := Lib.hid (Nv6.out.below hb); clear Nv6; have Nv6 := Xv6; clear Xv6
  clear Hfs Hbs Hq; have Hfs := Lib.hid hf; have Hbs := Lib.hid hbx; clear hf hbx
  clear hb
  clear Nv3 Nv6
  have Hq := Lib.hid (C3.out w14 Hfs.out Hbs.out)
  go_wp2_with fail
  with_reducible refine Hq.out.mono ?_
  rintro e w15 ⟨v7, rfl, hn, hb⟩
  have hf := Hfs.out.grow hb; have hbx := (hb.block _ (lt_of_block Hbs.out)).trans Hbs.out
  clear Hfs Hbs Hq; have Hfs := Lib.hid hf; have Hbs := Lib.hid hbx; clear hf hbx
  obtain ⟨av7, cv7, rfl⟩ := hn.shape
  have Nv7 := Lib.hid hn; clear hn hb
  have Hq := Lib.hid (C5.out w15 Hfs.out Hbs.out)
  go_wp2_with fail
  with_reducible refine Hq.out.mono ?_
  rintro e w16 ⟨v8, rfl, hn, hb⟩
  have hf := Hfs.out.grow hb; have hbx := (hb.block _ (lt_of_block Hbs.out)).trans Hbs.out
  have Xv7 := Lib.hid (Nv7.out.below hb); clear Nv7; have Nv7 := Xv7; clear Xv7
  clear Hfs Hbs Hq; have Hfs := Lib.hid hf; have Hbs := Lib.hid hbx; clear hf hbx
  obtain ⟨av8, cv8, rfl⟩ := hn.shape
  have Nv8 := Lib.hid hn; clear hn hb
  have Hq := Lib.hid (Add_any (n3) (n5) _ _ w16 Nv7.out Nv8.out S3.out S5.out)
  go_wp2_with fail
  with_reducible refine Hq.out.mono ?_
  rintro e w17 ⟨v9, rfl, hn, hb⟩
  have hf := Hfs.out.grow hb; have hbx := (hb.block _ (lt_of_block Hbs.out)).trans Hbs.out
  have Xv7 := Lib.hid (Nv7.out.below hb); clear Nv7; have Nv7 := Xv7; clear Xv7
  have Xv8 := Lib.hid (Nv8.out.below hb); clear Nv8; have Nv8 := Xv8; clear Xv8
  clear Hfs Hbs Hq; have Hfs := Lib.hid hf; have Hbs := Lib.hid hbx; clear hf hbx
  obtain ⟨av9, cv9, rfl⟩ := hn.shape
  have Nv9 := Lib.hid hn; clear hn hb
  clear Nv7
  clear Nv8
  have hof := Of_any 1 w17 (by decide)
  rw [show ((1 : Nat) : Int) = 1 from rfl] at hof
  have Hq := Lib.hid hof; clear hof
  go_wp2_with fail
  with_reducible refine Hq.out.mono ?_
  rintro e w18 ⟨v10, rfl, hn, hb⟩
  have hf := Hfs.out.grow hb; have hbx := (hb.block _ (lt_of_block Hbs.out)).trans Hbs.out
  have Xv9 := Lib.hid (Nv9.out.below hb); clear Nv9; have Nv9 := Xv9; clear Xv9
  clear Hfs Hbs Hq; have Hfs := Lib.hid hf; have Hbs := Lib.hid hbx; clear hf hbx
  obtain ⟨av10, cv10, rfl⟩ := hn.shape
  have Nv10 := Lib.hid hn; clear hn hb
  have hdb := Double_any 1 V _ w18 Nv10.out (by omega) (short24 (by have : 2 ^ V ≤ 2 ^ 24 := Nat.pow_le_pow_right (by decide) (by omega); omega))
  rw [Nat.one_mul] at hdb
  have Hq := Lib.hid hdb; clear hdb
  go_wp2_with fail
  with_reducible refine Hq.out.mono ?_
  rintro e w19 ⟨v11, rfl, hn, hb⟩
  have hf := Hfs.out.grow hb; have hbx := (hb.block _ (lt_of_block Hbs.out)).trans Hbs.out
  have Xv9 := Lib.hid (Nv9.out.below hb); clear Nv9; have Nv9 := Xv9; clear Xv9
  have Xv10 := Lib.hid (Nv10.out.below hb); clear Nv10; have Nv10 := Xv10; clear Xv10
  clear Hfs Hbs Hq; have Hfs := Lib.hid hf; have Hbs := Lib.hid hbx; clear hf hbx
  obtain ⟨av11, cv11, rfl⟩ := hn.shape
  have Nv11 := Lib.hid hn; clear hn hb
  clear Nv10
  have hc := Cmp_any (n3 + n5) (2 ^ V) _ _ w19 Nv9.out Nv11.out
  rw [show cmpN (n3 + n5) (2 ^ V) = 0 from (by rw [D2.out]; unfold cmpN; rw [if_neg (by omega), if_neg (by omega)])] at hc
  have Hq := Lib.hid hc; clear hc
  go_wp2_with fail
  with_reducible refine Hq.out.mono ?_
  rintro e w20 ⟨rfl, hb⟩
  have hf := Hfs.out.grow hb; have hbx := (hb.block _ (lt_of_block Hbs.out)).trans Hbs.out
  have Xv9 := Lib.hid (Nv9.out.below hb); clear Nv9; have Nv9 := Xv9; clear Xv9
  have Xv11 := Lib.hid (Nv11.out.below hb); clear Nv11; have Nv11 := Xv11; clear Xv11
  clear Hfs Hbs Hq; have Hfs := Lib.hid hf; have Hbs := Lib.hid hbx; clear hf hbx
  clear hb
  clear Nv9 Nv11
  go_wp2_with fail
  go_ret
  exact ⟨rfl, Hb1.out.trans (Hfs.out.only.below Hb1.out.size Hm.out)⟩
end Go.Proofs.Ytmlnfbageoabnaa
