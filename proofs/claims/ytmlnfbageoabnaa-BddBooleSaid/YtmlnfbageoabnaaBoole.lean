/- The walk of BddBoole (printed by gen_boole.py). -/
import Derived.Test.YtmlnfbageoabnaaBooleK
import Derived.Test.YtmlnfbageoabnaaShanM
import Derived.BigQuiet
import Derived.Test.YtmlnfbageoabnaaSched
import Derived.Laws.EntriesVeiled
namespace Go.Proofs.Ytmlnfbageoabnaa
open Go.RowKit
set_option linter.unusedVariables false

theorem first_run2 (V : Nat) (l : List Stp) (h1 : 1 ≤ V) (h2 : V ≤ 6) (h3 : l.length ≤ 25) : FOk V (funsX V l ⟨List.replicate 4000 none, noQ⟩ [0, 1]).1 (funsX V l ⟨List.replicate 4000 none, noQ⟩ [0, 1]).2 ∧
    (funsX V l ⟨List.replicate 4000 none, noQ⟩ [0, 1]).1.c.length = 4000 ∧ cnt (funsX V l ⟨List.replicate 4000 none, noQ⟩ [0, 1]).1.c ≤ 3200 ∧ (funsX V l ⟨List.replicate 4000 none, noQ⟩ [0, 1]).2.length = l.length + 2 := by
  have f : FOk V ⟨List.replicate 4000 none, noQ⟩ [0, 1] := ⟨SOk.none (COk.empty V 4000), fun h hh => by
    rcases List.mem_cons.1 hh with rfl | hh
    · exact hasM_zero _
    · rw [List.mem_singleton.1 hh]; exact hasM_one _, by simp⟩
  have hc0 : cnt (List.replicate 4000 none : Cells) = 0 := by unfold cnt; rw [List.countP_replicate]; simp
  have hp : 2 ^ V ≤ 2 ^ 6 := Nat.pow_le_pow_right (by decide) h2
  have hm : l.length * (2 * 2 ^ V) ≤ 25 * (2 * 2 ^ 6) := Nat.mul_le_mul h3 (by omega)
  obtain ⟨_, a, b, c, d⟩ := run_ok h1 (by omega) l _ _ f (by dsimp only; rw [hc0, List.length_replicate]; omega)
  dsimp only at b c d
  rw [hc0] at c
  rw [List.length_replicate] at b
  exact ⟨a, b, by omega, by rw [d]; simp; omega⟩

theorem BI.alloc {w1 wr : World} {s : Sb} {V : Nat} {st : Sp} {vh : Value} {h : List Int} {D0 : Int → Fn1} {bs bh bb bd n : Nat} (b : BI w1 wr s V st vh h D0 bs bh bb bd n) (o : Obj) : BI w1 (wr.alloc o) s V st vh h D0 bs bh bb bd n :=
  have hb : Below wr.heap.size wr (wr.alloc o) := (Below.refl _ _).alloc (Nat.le_refl _) _
  ⟨b.f.grow hb, b.c.below hb, b.sok, b.len, b.cnt, b.m, b.base, b.hl⟩
theorem BI.drew {w1 wr : World} {s : Sb} {V : Nat} {st : Sp} {vh : Value} {h : List Int} {D0 : Int → Fn1} {bs bh bb bd n : Nat} (b : BI w1 wr s V st vh h D0 bs bh bb bd n) : BI w1 wr.drew s V st vh h D0 bs bh bb bd n :=
  have hb : Below wr.heap.size wr wr.drew := (Below.refl _ _).drew
  ⟨b.f.grow hb, b.c.below hb, b.sok, b.len, b.cnt, b.m, b.base, b.hl⟩
theorem bl1 (A B C : Fn1) (val : Int → Bool) : (!(A val && B val)) = (!A val || !B val) := by cases A val <;> cases B val <;> rfl
theorem bl2 (A B C : Fn1) (val : Int → Bool) : (!(!A val)) = A val := by cases A val <;> rfl
theorem bl3 (A B C : Fn1) (val : Int → Bool) : (A val && (B val || C val)) = ((A val && B val) || (A val && C val)) := by cases A val <;> cases B val <;> cases C val <;> rfl
theorem bl4 (A B C : Fn1) (val : Int → Bool) : (A val || (A val && B val)) = A val := by cases A val <;> cases B val <;> rfl
theorem bl5 (A B C : Fn1) (val : Int → Bool) : (A val != B val) = ((A val && !B val) || (!A val && B val)) := by cases A val <;> cases B val <;> rfl
theorem bl6 (A B C : Fn1) (val : Int → Bool) : (A val && !A val) = false := by cases A val <;> rfl
theorem bl7 (A B C : Fn1) (val : Int → Bool) : (A val && (B val && C val)) = (A val && (B val && C val)) := rfl
section
variable {w1 wr : World} {s : Sb} {V : Nat} {st : Sp} {vh : Value} {h : List Int} {D0 : Int → Fn1} {bs bh bb bd n : Nat}
theorem jNot (hV : V ≤ 6) (b : Hid (BI w1 wr s V st vh h D0 bs bh bb bd n)) (hn : n ≤ 3900) {a : Int} {A : Fn1} (ma : Hid (Means st a A)) :
    Calls Try.prog 37 #[.int .i64 a, .pointer (some ⟨bd, 0, none⟩), .pointer (some ⟨bs, 0, none⟩)] wr (KPost w1 s V st vh h D0 bs bh bb bd (n + 64) (fun val => !A val) (fun x => .returned (.int .i64 x))) := kNot hV b.out hn ma.out
theorem jAnd (hV : V ≤ 6) (b : Hid (BI w1 wr s V st vh h D0 bs bh bb bd n)) (hn : n ≤ 3900) {a c : Int} {A C : Fn1} (ma : Hid (Means st a A)) (mc : Hid (Means st c C)) :
    Calls Try.prog 35 #[.int .i64 a, .int .i64 c, .pointer (some ⟨bd, 0, none⟩), .pointer (some ⟨bs, 0, none⟩)] wr (KPost w1 s V st vh h D0 bs bh bb bd (n + 64) (fun val => A val && C val) (fun x => .returned (.int .i64 x))) := kAnd hV b.out hn ma.out mc.out
theorem jOr (hV : V ≤ 6) (b : Hid (BI w1 wr s V st vh h D0 bs bh bb bd n)) (hn : n ≤ 3900) {a c : Int} {A C : Fn1} (ma : Hid (Means st a A)) (mc : Hid (Means st c C)) :
    Calls Try.prog 36 #[.int .i64 a, .int .i64 c, .pointer (some ⟨bd, 0, none⟩), .pointer (some ⟨bs, 0, none⟩)] wr (KPost w1 s V st vh h D0 bs bh bb bd (n + 64) (fun val => A val || C val) (fun x => .returned (.int .i64 x))) := kOr hV b.out hn ma.out mc.out
theorem jXor (hV : V ≤ 6) (b : Hid (BI w1 wr s V st vh h D0 bs bh bb bd n)) (hn : n ≤ 3800) {a c : Int} {A C : Fn1} (ma : Hid (Means st a A)) (mc : Hid (Means st c C)) :
    Calls Try.prog 40 #[.pointer (some ⟨s.ps, 0, none⟩), .int .i64 a, .int .i64 c] wr (KPost w1 s V st vh h D0 bs bh bb bd (n + 128) (fun val => A val != C val) (fun x => .returned (.tuple #[.int .i64 x, .nilIface]))) := kXor hV b.out hn ma.out mc.out
/-- then, of two handles that mean the same. -/
theorem jThen (hV : V ≤ 6) (b : Hid (BI w1 wr s V st vh h D0 bs bh bb bd n)) {x y : Int} {X Y : Fn1} (mx : Hid (Means st x X)) (my : Hid (Means st y Y)) (e : ∀ val, X val = Y val) :
    Calls Try.prog 39 #[.int .i64 x, .int .i64 y, .pointer (some ⟨bs, 0, none⟩), .pointer (some ⟨bh, 0, none⟩), .pointer (some ⟨bb, 0, none⟩)] wr fun e w' => e = .returned (.bool true) ∧ ∃ st', BI w1 w' s V st' vh h D0 bs bh bb bd 3200 := by
  rw [show x = y from Means.same b.out.sok mx.out my.out e]
  exact kThen b.out
end
theorem ints3 (w : World) (a b c : Int) {s : Sb} {V : Int} {st : Sp} (hs : IsSpace w s V st) : ∀ w', Only s.mem (w.alloc (.cells #[.int .i64 a, .int .i64 b, .int .i64 c] 3)) w' → IsInts w' (.slice (some ⟨w.heap.size, 0, none⟩) 3 3) [a, b, c] := fun w' ho =>
  isInts_row [a, b, c] ((ho.block _ (by simp) (fun h => by have := hs.lt h; omega)).trans (heap_at rfl)) rfl rfl (Nat.le_refl _) (by decide) (by simp)

theorem owns_cells {w : World} {base e g n cap : Nat} {xs : List Int} (h : w.ownsRow base e 1 (.slice (some ⟨g, 0, none⟩) n cap) xs.length (xs.map (Value.int .i64))) (hp : 0 < xs.length) : ∀ (i : Nat) (hi : i < xs.length), w.cell? ⟨g, i, none⟩ = some (.int .i64 xs[i]) := by
  obtain ⟨g', c', e', hr⟩ := owns_at h hp
  cases e'
  exact hr
set_option maxRecDepth 100000 in
set_option maxHeartbeats 16000000 in
theorem boole_any (vars iv kv jv : Int) (vl : Value) (l : List Stp) (w : World) (hst : IsSteps w vl l) :
    Calls Try.prog 6 #[.int .i64 vars, vl, .int .i64 iv, .int .i64 kv, .int .i64 jv] w fun e w' => e = .returned (.bool true) ∧ Below w.heap.size w w' := by
  have hmf : ∀ (fn : Fn) (first cap : Array Value) (w : World), (Instr.makeFunc fn first cap).run Try.prog w = .ok (.func fn first cap) w := fun _ _ _ _ => rfl
  by_cases hno : vars < 1 ∨ 6 < vars ∨ 25 < l.length
  · have Hn := Lib.hid (space_no vars vl l w hst hno)
    clear hno hst
    go_enter Try.func6, Try.ntmps6
    go_wp2_with fail
    refine Hn.out.mono ?_
    rintro e w1 ⟨rfl, rfl⟩
    go_wp2_with fail
    go_ret
    exact ⟨rfl, ((Below.refl _ _).alloc (Nat.le_refl _) _).alloc (by simp) _⟩
  obtain ⟨V, rfl⟩ : ∃ V : Nat, vars = V := ⟨vars.toNat, by omega⟩
  have h1 : 1 ≤ V := by omega
  have hV : V ≤ 6 := by omega
  have h3 : l.length ≤ 25 := by omega
  have Hsp := Lib.hid (space_ok V vl l w hst h1 hV h3)
  clear hno hst
  go_enter Try.func6, Try.ntmps6
  go_wp2_with fail
  refine Hsp.out.mono ?_
  rintro e w2 ⟨s, va, w1, rfl, hb1, hm, hp, hfs⟩
  obtain ⟨fo, fl, fc, fn⟩ := first_run2 V l h1 hV h3
  generalize (funsX V l ⟨List.replicate 4000 none, noQ⟩ [0, 1]).1 = st at hfs fo fl fc
  generalize (funsX V l ⟨List.replicate 4000 none, noQ⟩ [0, 1]).2 = out at hfs fo fn
  obtain ⟨g, cap, rfl, hrow0⟩ := owns_at hfs.own (by omega)
  clear hrow0
  have hlt := fun k (hk : s.mem k) => hfs.sp.lt hk
  have hbb : Below w2.heap.size w2 ((w2.alloc (.cells #[.pointer (some ⟨s.ps, 0, none⟩)] 46)).alloc (.cells #[.slice (some ⟨g, 0, none⟩) out.length cap] 22)) := ((Below.refl _ _).alloc (Nat.le_refl _) _).alloc (by simp) _
  have hfs2 := hfs.grow hbb
  have hbs : ((w2.alloc (.cells #[.pointer (some ⟨s.ps, 0, none⟩)] 46)).alloc (.cells #[.slice (some ⟨g, 0, none⟩) out.length cap] 22)).heap[w2.heap.size]? = some (.cells #[.pointer (some ⟨s.ps, 0, none⟩)] 46 (0, 0)) := heap_up (heap_at rfl)
  have hbh : ((w2.alloc (.cells #[.pointer (some ⟨s.ps, 0, none⟩)] 46)).alloc (.cells #[.slice (some ⟨g, 0, none⟩) out.length cap] 22)).heap[w2.heap.size + 1]? = some (.cells #[.slice (some ⟨g, 0, none⟩) out.length cap] 22 (0, 0)) := heap_at (by simp)
  have Hfo := Lib.hid fo; have Hfl := Lib.hid fl; have Hfc := Lib.hid fc; have Hfn := Lib.hid fn; have Hb1 := Lib.hid hb1; have Hm := Lib.hid hm; have Hlt := Lib.hid hlt; have Hfs := Lib.hid hfs2; have Hbs := Lib.hid hbs; have Hbh := Lib.hid hbh
  clear hfs hfs2 fo fl fc fn hb1 hm hp hlt Hsp hbs hbh hbb
  go_wp2_with fail
  refine (truth_any _).mono ?_
  rintro e w3 ⟨rfl, hb3⟩
  have hfs3 := Hfs.out.grow hb3
  have hbs3 := (hb3.block _ (lt_of_block Hbs.out)).trans Hbs.out
  have hbh3 := (hb3.block _ (lt_of_block Hbh.out)).trans Hbh.out
  have nbs : ¬ s.mem w2.heap.size := fun hk => by have := Hlt.out _ hk; omega
  have nbh : ¬ s.mem (w2.heap.size + 1) := fun hk => by have := Hlt.out _ hk; omega
  obtain ⟨bh, ebh⟩ : ∃ b, b = w2.heap.size + 1 := ⟨_, rfl⟩
  obtain ⟨bs, ebs⟩ : ∃ b, b = w2.heap.size := ⟨_, rfl⟩
  rw [← ebh] at hbh3 nbh ⊢
  rw [← ebs] at hbs3 nbs ⊢
  clear Hfs Hbs Hbh hb3 Hlt ebh ebs
  clear w2
  have hrow := owns_cells hfs3.own (by have := Hfn.out; omega)
  have hpos : 0 < out.length := by have := Hfn.out; omega
  have hno : out.length ≤ 1000000 := by have := Hfn.out; omega
  have l1 := pickN_lt iv hpos
  have l2 := pickN_lt kv hpos
  have l3 := pickN_lt jv hpos
  have r1 := hrow _ l1
  have r2 := hrow _ l2
  have r3 := hrow _ l3
  have m1 := List.getElem_mem l1
  have m2 := List.getElem_mem l2
  have m3 := List.getElem_mem l3
  have p1 := fun w' => (pick_any iv out.length w' hpos hno).mono fun e w'' h => And.intro h.1 h.2.symm
  have p2 := fun w' => (pick_any kv out.length w' hpos hno).mono fun e w'' h => And.intro h.1 h.2.symm
  have p3 := fun w' => (pick_any jv out.length w' hpos hno).mono fun e w'' h => And.intro h.1 h.2.symm
  generalize out[pickN iv out.length] = a at r1 m1
  generalize out[pickN kv out.length] = b at r2 m2
  generalize out[pickN jv out.length] = c at r3 m3
  have j1 : ((pickN iv out.length : Nat) : Int) < out.length := by exact_mod_cast l1
  have j2 : ((pickN kv out.length : Nat) : Int) < out.length := by exact_mod_cast l2
  have j3 : ((pickN jv out.length : Nat) : Int) < out.length := by exact_mod_cast l3
  clear hrow l1 l2 l3 hpos hno
  generalize pickN iv out.length = q1 at r1 j1 p1
  generalize pickN kv out.length = q2 at r2 j2 p2
  generalize pickN jv out.length = q3 at r3 j3 p3
  have chh := cell_of_one hbh3
  have HA := Lib.hid m1; have HBm := Lib.hid m2; have HC := Lib.hid m3; have P1 := Lib.hid p1; have P2 := Lib.hid p2; have P3 := Lib.hid p3; have Hfs := Lib.hid hfs3; have Hbs := Lib.hid hbs3; have Hbh := Lib.hid hbh3; have Nbs := Lib.hid nbs; have Nbh := Lib.hid nbh
  have hle : (out.length : Int) ≤ 27 := by have := Hfn.out; omega
  clear m1 m2 m3 p1 p2 p3 hfs3 hbs3 hbh3 nbs nbh
  have csx := cell_of_one Hbs.out
  go_upto_region 6 with fail
  go_quiet (first
    | (go_at_call_of 13 (Value.int IntKind.i64 iv); exact Calls.quiet_of_same (P1.out _))
    | (go_at_call_of 13 (Value.int IntKind.i64 kv); exact Calls.quiet_of_same (P2.out _))
    | (go_at_call_of 13 (Value.int IntKind.i64 jv); exact Calls.quiet_of_same (P3.out _)))
  have hb4 : Below w3.heap.size w3 (w3.drewN nq) := below_drewN (Below.refl _ _) nq
  have hfs4 := Hfs.out.grow hb4
  have hbs4 := (hb4.block _ (lt_of_block Hbs.out)).trans Hbs.out
  have hbh4 := (hb4.block _ (lt_of_block Hbh.out)).trans Hbh.out
  clear Hfs Hbs Hbh r1 r2 r3 j1 j2 j3 P1 P2 P3 chh csx hle hb4
  generalize w3.drewN nq = w4 at hfs4 hbs4 hbh4 ⊢
  clear w3 nq
  have hB : BI w1 ((w4.alloc (.cells #[.bool false] 4)).alloc (.cells #[.func (.func 34) #[] #[.pointer (some ⟨w4.heap.size, 0, none⟩)]] 63)) s V st (.slice (some ⟨g, 0, none⟩) out.length cap) out (fun y => den st.c y) bs bh w4.heap.size (w4.heap.size + 1) 3200 := by
    have hb5 : Below w4.heap.size w4 ((w4.alloc (.cells #[.bool false] 4)).alloc (.cells #[.func (.func 34) #[] #[.pointer (some ⟨w4.heap.size, 0, none⟩)]] 63)) := ((Below.refl _ _).alloc (Nat.le_refl _) _).alloc (by simp) _
    refine ⟨hfs4.grow hb5, ⟨(hb5.block _ (lt_of_block hbs4)).trans hbs4, (hb5.block _ (lt_of_block hbh4)).trans hbh4, heap_up (heap_at rfl), heap_at (by simp), Nbs.out, Nbh.out, fun hk => ?_, fun hk => ?_⟩, Hfo.out.sok, Hfl.out, Hfc.out, fun y hy => means_self (Hfo.out.has y hy), ⟨st, Hfo.out.sok, Hfc.out, Ext.refl _, Hfo.out.has⟩, by have := Hfn.out; omega⟩
    · have := hfs4.sp.lt hk; omega
    · have := hfs4.sp.lt hk; omega
  have HB0 := Lib.hid hB; clear hB hfs4 hbs4 hbh4 Nbs Nbh Hfo Hfl Hfc Hfn
  go_upto_region 13 with fail
  obtain ⟨bd, ebd⟩ : ∃ b, b = w4.heap.size + 1 := ⟨_, rfl⟩
  obtain ⟨bb, ebb⟩ : ∃ b, b = w4.heap.size := ⟨_, rfl⟩
  have hB := HB0.out
  clear HB0
  rw [← ebd] at hB ⊢
  rw [← ebb] at hB ⊢
  clear ebd ebb
  generalize ((w4.alloc (.cells #[.bool false] 4)).alloc (.cells #[.func (.func 34) #[] #[.pointer (some ⟨bb, 0, none⟩)]] 63)) = w5 at hB ⊢
  clear w4
  have h91 := cell_of_one hB.c.cs; have h92 := cell_of_one hB.c.cd
  have HB := Lib.hid hB.drew; clear hB
  obtain ⟨A, eA⟩ : ∃ A, A = den st.c a := ⟨_, rfl⟩
  obtain ⟨B, eB⟩ : ∃ B, B = den st.c b := ⟨_, rfl⟩
  obtain ⟨C, eC⟩ : ∃ C, C = den st.c c := ⟨_, rfl⟩
  have Ka : ∀ st', (∀ y ∈ out, Means st' y (den st.c y)) → Means st' a A := fun st' h => by rw [eA]; exact h _ HA.out
  have Kb : ∀ st', (∀ y ∈ out, Means st' y (den st.c y)) → Means st' b B := fun st' h => by rw [eB]; exact h _ HBm.out
  have Kc : ∀ st', (∀ y ∈ out, Means st' y (den st.c y)) → Means st' c C := fun st' h => by rw [eC]; exact h _ HC.out
  have KA := Lib.hid Ka; have KB := Lib.hid Kb; have KC := Lib.hid Kc
  clear Ka Kb Kc eA eB eC
  have Ma := Lib.hid (KA.out _ HB.out.m); have Mb := Lib.hid (KB.out _ HB.out.m); have Mc := Lib.hid (KC.out _ HB.out.m)
  have T1 := Lib.hid (means_zero st); have T2 := T1; have T3 := T1; have T4 := T1; have T5 := T1; have T6 := T1
  simp only [List.append_eq, List.cons_append, List.nil_append]
  refine region_sched (S := fun w' => w'.cell? ⟨bs, 0, none⟩ = some (.pointer (some ⟨s.ps, 0, none⟩)) ∧ w'.cell? ⟨bd, 0, none⟩ = some (.func (.func 34) #[] #[.pointer (some ⟨bb, 0, none⟩)]))
    [(0, true), (1, true), (2, true), (3, true), (4, true), (7, true), (8, true), (9, true), (11, true), (12, true), (5, false), (6, false), (10, false), (13, false), (14, false), (15, false), (16, true), (17, true), (18, true), (19, true), (20, true), (23, true), (21, false), (22, false), (24, false), (25, true), (26, true), (27, true), (28, true), (29, true), (30, true), (31, true), (32, true), (35, true), (36, true), (37, true), (38, true), (40, true), (41, true), (42, true), (33, false), (34, false), (39, false), (43, false), (44, false), (45, false), (46, true), (47, true), (48, true), (49, true), (50, true), (51, true), (52, true), (53, true), (56, true), (54, false), (55, false), (57, false), (58, true), (59, true), (60, true), (61, true), (62, true), (63, true), (64, true), (69, true), (70, true), (71, true), (72, true), (73, true), (76, true), (77, true), (78, true), (80, true), (65, false), (66, true), (67, true), (68, false), (74, false), (75, false), (79, false), (81, false), (82, false), (83, false), (84, true), (85, true), (86, true), (87, true), (88, true), (89, true), (90, true), (91, false), (92, false), (93, false), (94, true), (95, true), (96, true), (97, true), (98, true), (99, true), (100, true), (101, true), (107, true), (108, true), (109, true), (110, true), (111, true), (102, false), (103, false), (104, true), (105, true), (106, false), (112, false), (113, false), (114, false), (115, true), (116, true)] (by kernel_rfl) (by kernel_rfl) (by kernel_rfl) (by kernel_rfl) (by simp) (fun _ _ _ d _ h => by cases d <;> exact h) ⟨cell_of_one HB.out.c.cs, cell_of_one HB.out.c.cd⟩ ?_
  clear h91 h92
  have h91 := cell_of_one HB.out.c.cs; have h92 := cell_of_one HB.out.c.cd
  refine sched_take (o := { dst := some 64, op := Op.move (Operand.tmp 22), type := 65, pos := "diagrams.go:204", after := #[], guard := none }) (v := ?_) rfl rfl ?hy ?_
  case hy => (intro w' hSw; (try dsimp only at hSw); go_simp; try with_reducible rfl)
  try simp only [Act.put, List.setIfInBounds_toArray, List.set_cons_zero, List.set_cons_succ]
  refine sched_take (o := { dst := some 65, op := Op.move (Operand.tmp 21), type := 64, pos := "diagrams.go:204", after := #[], guard := none }) (v := ?_) rfl rfl ?hy ?_
  case hy => (intro w' hSw; (try dsimp only at hSw); go_simp; try with_reducible rfl)
  try simp only [Act.put, List.setIfInBounds_toArray, List.set_cons_zero, List.set_cons_succ]
  refine sched_take (o := { dst := some 66, op := Op.move (Operand.tmp 19), type := 30, pos := "diagrams.go:204", after := #[], guard := none }) (v := ?_) rfl rfl ?hy ?_
  case hy => (intro w' hSw; (try dsimp only at hSw); go_simp; try with_reducible rfl)
  try simp only [Act.put, List.setIfInBounds_toArray, List.set_cons_zero, List.set_cons_succ]
  refine sched_take (o := { dst := some 67, op := Op.move (Operand.tmp 14), type := 3, pos := "diagrams.go:204", after := #[], guard := none }) (v := ?_) rfl rfl ?hy ?_
  case hy => (intro w' hSw; (try dsimp only at hSw); go_simp; try with_reducible rfl)
  try simp only [Act.put, List.setIfInBounds_toArray, List.set_cons_zero, List.set_cons_succ]
  refine sched_take (o := { dst := some 68, op := Op.move (Operand.tmp 15), type := 3, pos := "diagrams.go:204", after := #[], guard := none }) (v := ?_) rfl rfl ?hy ?_
  case hy => (intro w' hSw; (try dsimp only at hSw); go_simp; try with_reducible rfl)
  try simp only [Act.put, List.setIfInBounds_toArray, List.set_cons_zero, List.set_cons_succ]
  refine sched_take (o := { dst := some 71, op := Op.move (Operand.tmp 20), type := 30, pos := "diagrams.go:204", after := #[], guard := none }) (v := ?_) rfl rfl ?hy ?_
  case hy => (intro w' hSw; (try dsimp only at hSw); go_simp; try with_reducible rfl)
  try simp only [Act.put, List.setIfInBounds_toArray, List.set_cons_zero, List.set_cons_succ]
  refine sched_take (o := { dst := some 72, op := Op.move (Operand.tmp 21), type := 64, pos := "diagrams.go:204", after := #[], guard := none }) (v := ?_) rfl rfl ?hy ?_
  case hy => (intro w' hSw; (try dsimp only at hSw); go_simp; try with_reducible rfl)
  try simp only [Act.put, List.setIfInBounds_toArray, List.set_cons_zero, List.set_cons_succ]
  refine sched_take (o := { dst := some 73, op := Op.move (Operand.tmp 14), type := 3, pos := "diagrams.go:204", after := #[], guard := none }) (v := ?_) rfl rfl ?hy ?_
  case hy => (intro w' hSw; (try dsimp only at hSw); go_simp; try with_reducible rfl)
  try simp only [Act.put, List.setIfInBounds_toArray, List.set_cons_zero, List.set_cons_succ]
  refine sched_take (o := { dst := some 75, op := Op.move (Operand.tmp 21), type := 64, pos := "diagrams.go:204", after := #[], guard := none }) (v := ?_) rfl rfl ?hy ?_
  case hy => (intro w' hSw; (try dsimp only at hSw); go_simp; try with_reducible rfl)
  try simp only [Act.put, List.setIfInBounds_toArray, List.set_cons_zero, List.set_cons_succ]
  refine sched_take (o := { dst := some 76, op := Op.move (Operand.tmp 15), type := 3, pos := "diagrams.go:204", after := #[], guard := none }) (v := ?_) rfl rfl ?hy ?_
  case hy => (intro w' hSw; (try dsimp only at hSw); go_simp; try with_reducible rfl)
  try simp only [Act.put, List.setIfInBounds_toArray, List.set_cons_zero, List.set_cons_succ]
  refine sched_sole (o := { dst := some 69, op := Op.call { callee := Callee.value (Operand.tmp 66), args := #[Operand.tmp 67, Operand.tmp 68], argTypes := #[3, 3] }, type := 3, pos := "diagrams.go:204", after := #[{ on := 2, ground := Ground.data }, { on := 3, ground := Ground.data }, { on := 4, ground := Ground.data }], guard := none }) rfl (fun K hK => ?_)
  go_simp
  with_reducible refine (jAnd hV (by assumption) (by decide) (by assumption) (by assumption)).mono ?_
  rintro e w9 ⟨s9, x9, rfl, hb, hk, hm⟩
  have Ma' := Lib.hid (hk _ _ Ma.out)
  have Mb' := Lib.hid (hk _ _ Mb.out)
  have Mc' := Lib.hid (hk _ _ Mc.out)
  have T1' := Lib.hid (hk _ _ T1.out)
  have T2' := Lib.hid (hk _ _ T2.out)
  have T3' := Lib.hid (hk _ _ T3.out)
  have T4' := Lib.hid (hk _ _ T4.out)
  have T5' := Lib.hid (hk _ _ T5.out)
  have HB' := Lib.hid hb; have T0' := Lib.hid hm
  clear h91 h92 hb hk hm HB Ma Mb Mc T1 T2 T3 T4 T5 T6
  have Ma := Ma'; clear Ma'; have Mb := Mb'; clear Mb'; have Mc := Mc'; clear Mc'
  have T6 := T5'; have T5 := T4'; have T4 := T3'; have T3 := T2'; have T2 := T1'; have T1 := T0'; have HB := HB'; clear T0' T1' T2' T3' T4' T5' HB'
  have h91 := cell_of_one HB.out.c.cs; have h92 := cell_of_one HB.out.c.cd
  try dsimp only
  refine hK.out _ _ ⟨h91, h92⟩ ?_
  clear hK K
  try simp only [Act.put, List.setIfInBounds_toArray, List.set_cons_zero, List.set_cons_succ]
  refine sched_sole (o := { dst := some 70, op := Op.call { callee := Callee.value (Operand.tmp 65), args := #[Operand.tmp 69], argTypes := #[3] }, type := 3, pos := "diagrams.go:204", after := #[{ on := 1, ground := Ground.data }, { on := 5, ground := Ground.data }, { on := 5, ground := Ground.chain }], guard := none }) rfl (fun K hK => ?_)
  go_simp
  with_reducible refine (jNot hV (by assumption) (by decide) (by assumption)).mono ?_
  rintro e w9 ⟨s9, x9, rfl, hb, hk, hm⟩
  have Ma' := Lib.hid (hk _ _ Ma.out)
  have Mb' := Lib.hid (hk _ _ Mb.out)
  have Mc' := Lib.hid (hk _ _ Mc.out)
  have T1' := Lib.hid (hk _ _ T1.out)
  have T2' := Lib.hid (hk _ _ T2.out)
  have T3' := Lib.hid (hk _ _ T3.out)
  have T4' := Lib.hid (hk _ _ T4.out)
  have T5' := Lib.hid (hk _ _ T5.out)
  have HB' := Lib.hid hb; have T0' := Lib.hid hm
  clear h91 h92 hb hk hm HB Ma Mb Mc T1 T2 T3 T4 T5 T6
  have Ma := Ma'; clear Ma'; have Mb := Mb'; clear Mb'; have Mc := Mc'; clear Mc'
  have T6 := T5'; have T5 := T4'; have T4 := T3'; have T3 := T2'; have T2 := T1'; have T1 := T0'; have HB := HB'; clear T0' T1' T2' T3' T4' T5' HB'
  have h91 := cell_of_one HB.out.c.cs; have h92 := cell_of_one HB.out.c.cd
  try dsimp only
  refine hK.out _ _ ⟨h91, h92⟩ ?_
  clear hK K
  try simp only [Act.put, List.setIfInBounds_toArray, List.set_cons_zero, List.set_cons_succ]
  refine sched_sole (o := { dst := some 74, op := Op.call { callee := Callee.value (Operand.tmp 72), args := #[Operand.tmp 73], argTypes := #[3] }, type := 3, pos := "diagrams.go:204", after := #[{ on := 8, ground := Ground.data }, { on := 9, ground := Ground.data }, { on := 6, ground := Ground.chain }], guard := none }) rfl (fun K hK => ?_)
  go_simp
  with_reducible refine (jNot hV (by assumption) (by decide) (by assumption)).mono ?_
  rintro e w9 ⟨s9, x9, rfl, hb, hk, hm⟩
  have Ma' := Lib.hid (hk _ _ Ma.out)
  have Mb' := Lib.hid (hk _ _ Mb.out)
  have Mc' := Lib.hid (hk _ _ Mc.out)
  have T1' := Lib.hid (hk _ _ T1.out)
  have T2' := Lib.hid (hk _ _ T2.out)
  have T3' := Lib.hid (hk _ _ T3.out)
  have T4' := Lib.hid (hk _ _ T4.out)
  have T5' := Lib.hid (hk _ _ T5.out)
  have HB' := Lib.hid hb; have T0' := Lib.hid hm
  clear h91 h92 hb hk hm HB Ma Mb Mc T1 T2 T3 T4 T5 T6
  have Ma := Ma'; clear Ma'; have Mb := Mb'; clear Mb'; have Mc := Mc'; clear Mc'
  have T6 := T5'; have T5 := T4'; have T4 := T3'; have T3 := T2'; have T2 := T1'; have T1 := T0'; have HB := HB'; clear T0' T1' T2' T3' T4' T5' HB'
  have h91 := cell_of_one HB.out.c.cs; have h92 := cell_of_one HB.out.c.cd
  try dsimp only
  refine hK.out _ _ ⟨h91, h92⟩ ?_
  clear hK K
  try simp only [Act.put, List.setIfInBounds_toArray, List.set_cons_zero, List.set_cons_succ]
  refine sched_sole (o := { dst := some 77, op := Op.call { callee := Callee.value (Operand.tmp 75), args := #[Operand.tmp 76], argTypes := #[3] }, type := 3, pos := "diagrams.go:204", after := #[{ on := 11, ground := Ground.data }, { on := 12, ground := Ground.data }, { on := 10, ground := Ground.chain }], guard := none }) rfl (fun K hK => ?_)
  go_simp
  with_reducible refine (jNot hV (by assumption) (by decide) (by assumption)).mono ?_
  rintro e w9 ⟨s9, x9, rfl, hb, hk, hm⟩
  have Ma' := Lib.hid (hk _ _ Ma.out)
  have Mb' := Lib.hid (hk _ _ Mb.out)
  have Mc' := Lib.hid (hk _ _ Mc.out)
  have T1' := Lib.hid (hk _ _ T1.out)
  have T2' := Lib.hid (hk _ _ T2.out)
  have T3' := Lib.hid (hk _ _ T3.out)
  have T4' := Lib.hid (hk _ _ T4.out)
  have T5' := Lib.hid (hk _ _ T5.out)
  have HB' := Lib.hid hb; have T0' := Lib.hid hm
  clear h91 h92 hb hk hm HB Ma Mb Mc T1 T2 T3 T4 T5 T6
  have Ma := Ma'; clear Ma'; have Mb := Mb'; clear Mb'; have Mc := Mc'; clear Mc'
  have T6 := T5'; have T5 := T4'; have T4 := T3'; have T3 := T2'; have T2 := T1'; have T1 := T0'; have HB := HB'; clear T0' T1' T2' T3' T4' T5' HB'
  have h91 := cell_of_one HB.out.c.cs; have h92 := cell_of_one HB.out.c.cd
  try dsimp only
  refine hK.out _ _ ⟨h91, h92⟩ ?_
  clear hK K
  try simp only [Act.put, List.setIfInBounds_toArray, List.set_cons_zero, List.set_cons_succ]
  refine sched_sole (o := { dst := some 78, op := Op.call { callee := Callee.value (Operand.tmp 71), args := #[Operand.tmp 74, Operand.tmp 77], argTypes := #[3, 3] }, type := 3, pos := "diagrams.go:204", after := #[{ on := 7, ground := Ground.data }, { on := 10, ground := Ground.data }, { on := 13, ground := Ground.data }, { on := 13, ground := Ground.chain }], guard := none }) rfl (fun K hK => ?_)
  go_simp
  with_reducible refine (jOr hV (by assumption) (by decide) (by assumption) (by assumption)).mono ?_
  rintro e w9 ⟨s9, x9, rfl, hb, hk, hm⟩
  have Ma' := Lib.hid (hk _ _ Ma.out)
  have Mb' := Lib.hid (hk _ _ Mb.out)
  have Mc' := Lib.hid (hk _ _ Mc.out)
  have T1' := Lib.hid (hk _ _ T1.out)
  have T2' := Lib.hid (hk _ _ T2.out)
  have T3' := Lib.hid (hk _ _ T3.out)
  have T4' := Lib.hid (hk _ _ T4.out)
  have T5' := Lib.hid (hk _ _ T5.out)
  have HB' := Lib.hid hb; have T0' := Lib.hid hm
  clear h91 h92 hb hk hm HB Ma Mb Mc T1 T2 T3 T4 T5 T6
  have Ma := Ma'; clear Ma'; have Mb := Mb'; clear Mb'; have Mc := Mc'; clear Mc'
  have T6 := T5'; have T5 := T4'; have T4 := T3'; have T3 := T2'; have T2 := T1'; have T1 := T0'; have HB := HB'; clear T0' T1' T2' T3' T4' T5' HB'
  have h91 := cell_of_one HB.out.c.cs; have h92 := cell_of_one HB.out.c.cd
  try dsimp only
  refine hK.out _ _ ⟨h91, h92⟩ ?_
  clear hK K
  try simp only [Act.put, List.setIfInBounds_toArray, List.set_cons_zero, List.set_cons_succ]
  refine sched_sole (o := { dst := some 79, op := Op.call { callee := Callee.value (Operand.tmp 64), args := #[Operand.tmp 70, Operand.tmp 78], argTypes := #[3, 3] }, type := 4, pos := "diagrams.go:204", after := #[{ on := 0, ground := Ground.data }, { on := 6, ground := Ground.data }, { on := 14, ground := Ground.data }, { on := 14, ground := Ground.chain }], guard := none }) rfl (fun K hK => ?_)
  go_simp
  with_reducible refine (jThen hV (by assumption) (by assumption) (by assumption) (by first | exact bl1 A B C | exact bl2 A B C | exact bl3 A B C | exact bl4 A B C | exact bl5 A B C | exact bl6 A B C | exact bl7 A B C)).mono ?_
  rintro e w9 ⟨rfl, s9, hb⟩
  clear h91 h92 HB Ma Mb Mc T1 T2 T3 T4 T5 T6
  have HB := Lib.hid hb; clear hb
  have Ma := Lib.hid (KA.out _ HB.out.m); have Mb := Lib.hid (KB.out _ HB.out.m); have Mc := Lib.hid (KC.out _ HB.out.m)
  have T1 := Lib.hid (means_zero s9); have T2 := T1; have T3 := T1; have T4 := T1; have T5 := T1; have T6 := T1
  have h91 := cell_of_one HB.out.c.cs; have h92 := cell_of_one HB.out.c.cd
  try dsimp only
  refine hK.out _ _ ⟨h91, h92⟩ ?_
  clear hK K
  try simp only [Act.put, List.setIfInBounds_toArray, List.set_cons_zero, List.set_cons_succ]
  refine sched_take (o := { dst := some 80, op := Op.move (Operand.tmp 79), type := 4, pos := "diagrams.go:204", after := #[{ on := 15, ground := Ground.data }, { on := 15, ground := Ground.chain }], guard := none }) (v := ?_) rfl rfl ?hy ?_
  case hy => (intro w' hSw; (try dsimp only at hSw); go_simp; try with_reducible rfl)
  try simp only [Act.put, List.setIfInBounds_toArray, List.set_cons_zero, List.set_cons_succ]
  refine sched_take (o := { dst := some 81, op := Op.move (Operand.tmp 22), type := 65, pos := "diagrams.go:204", after := #[{ on := 16, ground := Ground.guard }], guard := some (16, true) }) (v := ?_) rfl rfl ?hy ?_
  case hy => (intro w' hSw; (try dsimp only at hSw); go_simp; try with_reducible rfl)
  try simp only [Act.put, List.setIfInBounds_toArray, List.set_cons_zero, List.set_cons_succ]
  refine sched_take (o := { dst := some 82, op := Op.move (Operand.tmp 21), type := 64, pos := "diagrams.go:204", after := #[{ on := 16, ground := Ground.guard }], guard := some (16, true) }) (v := ?_) rfl rfl ?hy ?_
  case hy => (intro w' hSw; (try dsimp only at hSw); go_simp; try with_reducible rfl)
  try simp only [Act.put, List.setIfInBounds_toArray, List.set_cons_zero, List.set_cons_succ]
  refine sched_take (o := { dst := some 83, op := Op.move (Operand.tmp 21), type := 64, pos := "diagrams.go:204", after := #[{ on := 16, ground := Ground.guard }], guard := some (16, true) }) (v := ?_) rfl rfl ?hy ?_
  case hy => (intro w' hSw; (try dsimp only at hSw); go_simp; try with_reducible rfl)
  try simp only [Act.put, List.setIfInBounds_toArray, List.set_cons_zero, List.set_cons_succ]
  refine sched_take (o := { dst := some 84, op := Op.move (Operand.tmp 14), type := 3, pos := "diagrams.go:204", after := #[{ on := 16, ground := Ground.guard }], guard := some (16, true) }) (v := ?_) rfl rfl ?hy ?_
  case hy => (intro w' hSw; (try dsimp only at hSw); go_simp; try with_reducible rfl)
  try simp only [Act.put, List.setIfInBounds_toArray, List.set_cons_zero, List.set_cons_succ]
  refine sched_take (o := { dst := some 87, op := Op.move (Operand.tmp 14), type := 3, pos := "diagrams.go:204", after := #[{ on := 16, ground := Ground.guard }], guard := some (16, true) }) (v := ?_) rfl rfl ?hy ?_
  case hy => (intro w' hSw; (try dsimp only at hSw); go_simp; try with_reducible rfl)
  try simp only [Act.put, List.setIfInBounds_toArray, List.set_cons_zero, List.set_cons_succ]
  refine sched_sole (o := { dst := some 85, op := Op.call { callee := Callee.value (Operand.tmp 83), args := #[Operand.tmp 84], argTypes := #[3] }, type := 3, pos := "diagrams.go:204", after := #[{ on := 19, ground := Ground.data }, { on := 20, ground := Ground.data }, { on := 16, ground := Ground.chain }, { on := 16, ground := Ground.guard }], guard := some (16, true) }) rfl (fun K hK => ?_)
  go_simp
  with_reducible refine (jNot hV (by assumption) (by decide) (by assumption)).mono ?_
  rintro e w9 ⟨s9, x9, rfl, hb, hk, hm⟩
  have Ma' := Lib.hid (hk _ _ Ma.out)
  have Mb' := Lib.hid (hk _ _ Mb.out)
  have Mc' := Lib.hid (hk _ _ Mc.out)
  have T1' := Lib.hid (hk _ _ T1.out)
  have T2' := Lib.hid (hk _ _ T2.out)
  have T3' := Lib.hid (hk _ _ T3.out)
  have T4' := Lib.hid (hk _ _ T4.out)
  have T5' := Lib.hid (hk _ _ T5.out)
  have HB' := Lib.hid hb; have T0' := Lib.hid hm
  clear h91 h92 hb hk hm HB Ma Mb Mc T1 T2 T3 T4 T5 T6
  have Ma := Ma'; clear Ma'; have Mb := Mb'; clear Mb'; have Mc := Mc'; clear Mc'
  have T6 := T5'; have T5 := T4'; have T4 := T3'; have T3 := T2'; have T2 := T1'; have T1 := T0'; have HB := HB'; clear T0' T1' T2' T3' T4' T5' HB'
  have h91 := cell_of_one HB.out.c.cs; have h92 := cell_of_one HB.out.c.cd
  try dsimp only
  refine hK.out _ _ ⟨h91, h92⟩ ?_
  clear hK K
  try simp only [Act.put, List.setIfInBounds_toArray, List.set_cons_zero, List.set_cons_succ]
  refine sched_sole (o := { dst := some 86, op := Op.call { callee := Callee.value (Operand.tmp 82), args := #[Operand.tmp 85], argTypes := #[3] }, type := 3, pos := "diagrams.go:204", after := #[{ on := 18, ground := Ground.data }, { on := 21, ground := Ground.data }, { on := 21, ground := Ground.chain }, { on := 16, ground := Ground.guard }], guard := some (16, true) }) rfl (fun K hK => ?_)
  go_simp
  with_reducible refine (jNot hV (by assumption) (by decide) (by assumption)).mono ?_
  rintro e w9 ⟨s9, x9, rfl, hb, hk, hm⟩
  have Ma' := Lib.hid (hk _ _ Ma.out)
  have Mb' := Lib.hid (hk _ _ Mb.out)
  have Mc' := Lib.hid (hk _ _ Mc.out)
  have T1' := Lib.hid (hk _ _ T1.out)
  have T2' := Lib.hid (hk _ _ T2.out)
  have T3' := Lib.hid (hk _ _ T3.out)
  have T4' := Lib.hid (hk _ _ T4.out)
  have T5' := Lib.hid (hk _ _ T5.out)
  have HB' := Lib.hid hb; have T0' := Lib.hid hm
  clear h91 h92 hb hk hm HB Ma Mb Mc T1 T2 T3 T4 T5 T6
  have Ma := Ma'; clear Ma'; have Mb := Mb'; clear Mb'; have Mc := Mc'; clear Mc'
  have T6 := T5'; have T5 := T4'; have T4 := T3'; have T3 := T2'; have T2 := T1'; have T1 := T0'; have HB := HB'; clear T0' T1' T2' T3' T4' T5' HB'
  have h91 := cell_of_one HB.out.c.cs; have h92 := cell_of_one HB.out.c.cd
  try dsimp only
  refine hK.out _ _ ⟨h91, h92⟩ ?_
  clear hK K
  try simp only [Act.put, List.setIfInBounds_toArray, List.set_cons_zero, List.set_cons_succ]
  refine sched_sole (o := { dst := some 88, op := Op.call { callee := Callee.value (Operand.tmp 81), args := #[Operand.tmp 86, Operand.tmp 87], argTypes := #[3, 3] }, type := 4, pos := "diagrams.go:204", after := #[{ on := 17, ground := Ground.data }, { on := 22, ground := Ground.data }, { on := 23, ground := Ground.data }, { on := 22, ground := Ground.chain }, { on := 16, ground := Ground.guard }], guard := some (16, true) }) rfl (fun K hK => ?_)
  go_simp
  with_reducible refine (jThen hV (by assumption) (by assumption) (by assumption) (by first | exact bl1 A B C | exact bl2 A B C | exact bl3 A B C | exact bl4 A B C | exact bl5 A B C | exact bl6 A B C | exact bl7 A B C)).mono ?_
  rintro e w9 ⟨rfl, s9, hb⟩
  clear h91 h92 HB Ma Mb Mc T1 T2 T3 T4 T5 T6
  have HB := Lib.hid hb; clear hb
  have Ma := Lib.hid (KA.out _ HB.out.m); have Mb := Lib.hid (KB.out _ HB.out.m); have Mc := Lib.hid (KC.out _ HB.out.m)
  have T1 := Lib.hid (means_zero s9); have T2 := T1; have T3 := T1; have T4 := T1; have T5 := T1; have T6 := T1
  have h91 := cell_of_one HB.out.c.cs; have h92 := cell_of_one HB.out.c.cd
  try dsimp only
  refine hK.out _ _ ⟨h91, h92⟩ ?_
  clear hK K
  try simp only [Act.put, List.setIfInBounds_toArray, List.set_cons_zero, List.set_cons_succ]
  refine sched_take (o := { dst := some 89, op := Op.pick (Operand.tmp 80) (Operand.tmp 88) (Operand.const (Value.bool false)), type := 4, pos := "diagrams.go:204", after := #[{ on := 16, ground := Ground.data }, { on := 24, ground := Ground.data }], guard := none }) (v := ?_) rfl rfl ?hy ?_
  case hy => (intro w' hSw; (try dsimp only at hSw); go_simp; try with_reducible rfl)
  try simp only [Act.put, List.setIfInBounds_toArray, List.set_cons_zero, List.set_cons_succ]
  refine sched_take (o := { dst := some 90, op := Op.move (Operand.tmp 89), type := 4, pos := "diagrams.go:204", after := #[{ on := 25, ground := Ground.data }, { on := 24, ground := Ground.chain }], guard := none }) (v := ?_) rfl rfl ?hy ?_
  case hy => (intro w' hSw; (try dsimp only at hSw); go_simp; try with_reducible rfl)
  try simp only [Act.put, List.setIfInBounds_toArray, List.set_cons_zero, List.set_cons_succ]
  refine sched_take (o := { dst := some 91, op := Op.move (Operand.tmp 22), type := 65, pos := "diagrams.go:204", after := #[{ on := 26, ground := Ground.guard }], guard := some (26, true) }) (v := ?_) rfl rfl ?hy ?_
  case hy => (intro w' hSw; (try dsimp only at hSw); go_simp; try with_reducible rfl)
  try simp only [Act.put, List.setIfInBounds_toArray, List.set_cons_zero, List.set_cons_succ]
  refine sched_take (o := { dst := some 92, op := Op.move (Operand.tmp 19), type := 30, pos := "diagrams.go:204", after := #[{ on := 26, ground := Ground.guard }], guard := some (26, true) }) (v := ?_) rfl rfl ?hy ?_
  case hy => (intro w' hSw; (try dsimp only at hSw); go_simp; try with_reducible rfl)
  try simp only [Act.put, List.setIfInBounds_toArray, List.set_cons_zero, List.set_cons_succ]
  refine sched_take (o := { dst := some 93, op := Op.move (Operand.tmp 14), type := 3, pos := "diagrams.go:204", after := #[{ on := 26, ground := Ground.guard }], guard := some (26, true) }) (v := ?_) rfl rfl ?hy ?_
  case hy => (intro w' hSw; (try dsimp only at hSw); go_simp; try with_reducible rfl)
  try simp only [Act.put, List.setIfInBounds_toArray, List.set_cons_zero, List.set_cons_succ]
  refine sched_take (o := { dst := some 94, op := Op.move (Operand.tmp 20), type := 30, pos := "diagrams.go:204", after := #[{ on := 26, ground := Ground.guard }], guard := some (26, true) }) (v := ?_) rfl rfl ?hy ?_
  case hy => (intro w' hSw; (try dsimp only at hSw); go_simp; try with_reducible rfl)
  try simp only [Act.put, List.setIfInBounds_toArray, List.set_cons_zero, List.set_cons_succ]
  refine sched_take (o := { dst := some 95, op := Op.move (Operand.tmp 15), type := 3, pos := "diagrams.go:204", after := #[{ on := 26, ground := Ground.guard }], guard := some (26, true) }) (v := ?_) rfl rfl ?hy ?_
  case hy => (intro w' hSw; (try dsimp only at hSw); go_simp; try with_reducible rfl)
  try simp only [Act.put, List.setIfInBounds_toArray, List.set_cons_zero, List.set_cons_succ]
  refine sched_take (o := { dst := some 96, op := Op.move (Operand.tmp 16), type := 3, pos := "diagrams.go:204", after := #[{ on := 26, ground := Ground.guard }], guard := some (26, true) }) (v := ?_) rfl rfl ?hy ?_
  case hy => (intro w' hSw; (try dsimp only at hSw); go_simp; try with_reducible rfl)
  try simp only [Act.put, List.setIfInBounds_toArray, List.set_cons_zero, List.set_cons_succ]
  refine sched_take (o := { dst := some 99, op := Op.move (Operand.tmp 20), type := 30, pos := "diagrams.go:204", after := #[{ on := 26, ground := Ground.guard }], guard := some (26, true) }) (v := ?_) rfl rfl ?hy ?_
  case hy => (intro w' hSw; (try dsimp only at hSw); go_simp; try with_reducible rfl)
  try simp only [Act.put, List.setIfInBounds_toArray, List.set_cons_zero, List.set_cons_succ]
  refine sched_take (o := { dst := some 100, op := Op.move (Operand.tmp 19), type := 30, pos := "diagrams.go:204", after := #[{ on := 26, ground := Ground.guard }], guard := some (26, true) }) (v := ?_) rfl rfl ?hy ?_
  case hy => (intro w' hSw; (try dsimp only at hSw); go_simp; try with_reducible rfl)
  try simp only [Act.put, List.setIfInBounds_toArray, List.set_cons_zero, List.set_cons_succ]
  refine sched_take (o := { dst := some 101, op := Op.move (Operand.tmp 14), type := 3, pos := "diagrams.go:204", after := #[{ on := 26, ground := Ground.guard }], guard := some (26, true) }) (v := ?_) rfl rfl ?hy ?_
  case hy => (intro w' hSw; (try dsimp only at hSw); go_simp; try with_reducible rfl)
  try simp only [Act.put, List.setIfInBounds_toArray, List.set_cons_zero, List.set_cons_succ]
  refine sched_take (o := { dst := some 102, op := Op.move (Operand.tmp 15), type := 3, pos := "diagrams.go:204", after := #[{ on := 26, ground := Ground.guard }], guard := some (26, true) }) (v := ?_) rfl rfl ?hy ?_
  case hy => (intro w' hSw; (try dsimp only at hSw); go_simp; try with_reducible rfl)
  try simp only [Act.put, List.setIfInBounds_toArray, List.set_cons_zero, List.set_cons_succ]
  refine sched_take (o := { dst := some 104, op := Op.move (Operand.tmp 19), type := 30, pos := "diagrams.go:204", after := #[{ on := 26, ground := Ground.guard }], guard := some (26, true) }) (v := ?_) rfl rfl ?hy ?_
  case hy => (intro w' hSw; (try dsimp only at hSw); go_simp; try with_reducible rfl)
  try simp only [Act.put, List.setIfInBounds_toArray, List.set_cons_zero, List.set_cons_succ]
  refine sched_take (o := { dst := some 105, op := Op.move (Operand.tmp 14), type := 3, pos := "diagrams.go:204", after := #[{ on := 26, ground := Ground.guard }], guard := some (26, true) }) (v := ?_) rfl rfl ?hy ?_
  case hy => (intro w' hSw; (try dsimp only at hSw); go_simp; try with_reducible rfl)
  try simp only [Act.put, List.setIfInBounds_toArray, List.set_cons_zero, List.set_cons_succ]
  refine sched_take (o := { dst := some 106, op := Op.move (Operand.tmp 16), type := 3, pos := "diagrams.go:204", after := #[{ on := 26, ground := Ground.guard }], guard := some (26, true) }) (v := ?_) rfl rfl ?hy ?_
  case hy => (intro w' hSw; (try dsimp only at hSw); go_simp; try with_reducible rfl)
  try simp only [Act.put, List.setIfInBounds_toArray, List.set_cons_zero, List.set_cons_succ]
  refine sched_sole (o := { dst := some 97, op := Op.call { callee := Callee.value (Operand.tmp 94), args := #[Operand.tmp 95, Operand.tmp 96], argTypes := #[3, 3] }, type := 3, pos := "diagrams.go:204", after := #[{ on := 30, ground := Ground.data }, { on := 31, ground := Ground.data }, { on := 32, ground := Ground.data }, { on := 26, ground := Ground.chain }, { on := 26, ground := Ground.guard }], guard := some (26, true) }) rfl (fun K hK => ?_)
  go_simp
  with_reducible refine (jOr hV (by assumption) (by decide) (by assumption) (by assumption)).mono ?_
  rintro e w9 ⟨s9, x9, rfl, hb, hk, hm⟩
  have Ma' := Lib.hid (hk _ _ Ma.out)
  have Mb' := Lib.hid (hk _ _ Mb.out)
  have Mc' := Lib.hid (hk _ _ Mc.out)
  have T1' := Lib.hid (hk _ _ T1.out)
  have T2' := Lib.hid (hk _ _ T2.out)
  have T3' := Lib.hid (hk _ _ T3.out)
  have T4' := Lib.hid (hk _ _ T4.out)
  have T5' := Lib.hid (hk _ _ T5.out)
  have HB' := Lib.hid hb; have T0' := Lib.hid hm
  clear h91 h92 hb hk hm HB Ma Mb Mc T1 T2 T3 T4 T5 T6
  have Ma := Ma'; clear Ma'; have Mb := Mb'; clear Mb'; have Mc := Mc'; clear Mc'
  have T6 := T5'; have T5 := T4'; have T4 := T3'; have T3 := T2'; have T2 := T1'; have T1 := T0'; have HB := HB'; clear T0' T1' T2' T3' T4' T5' HB'
  have h91 := cell_of_one HB.out.c.cs; have h92 := cell_of_one HB.out.c.cd
  try dsimp only
  refine hK.out _ _ ⟨h91, h92⟩ ?_
  clear hK K
  try simp only [Act.put, List.setIfInBounds_toArray, List.set_cons_zero, List.set_cons_succ]
  refine sched_sole (o := { dst := some 98, op := Op.call { callee := Callee.value (Operand.tmp 92), args := #[Operand.tmp 93, Operand.tmp 97], argTypes := #[3, 3] }, type := 3, pos := "diagrams.go:204", after := #[{ on := 28, ground := Ground.data }, { on := 29, ground := Ground.data }, { on := 33, ground := Ground.data }, { on := 33, ground := Ground.chain }, { on := 26, ground := Ground.guard }], guard := some (26, true) }) rfl (fun K hK => ?_)
  go_simp
  with_reducible refine (jAnd hV (by assumption) (by decide) (by assumption) (by assumption)).mono ?_
  rintro e w9 ⟨s9, x9, rfl, hb, hk, hm⟩
  have Ma' := Lib.hid (hk _ _ Ma.out)
  have Mb' := Lib.hid (hk _ _ Mb.out)
  have Mc' := Lib.hid (hk _ _ Mc.out)
  have T1' := Lib.hid (hk _ _ T1.out)
  have T2' := Lib.hid (hk _ _ T2.out)
  have T3' := Lib.hid (hk _ _ T3.out)
  have T4' := Lib.hid (hk _ _ T4.out)
  have T5' := Lib.hid (hk _ _ T5.out)
  have HB' := Lib.hid hb; have T0' := Lib.hid hm
  clear h91 h92 hb hk hm HB Ma Mb Mc T1 T2 T3 T4 T5 T6
  have Ma := Ma'; clear Ma'; have Mb := Mb'; clear Mb'; have Mc := Mc'; clear Mc'
  have T6 := T5'; have T5 := T4'; have T4 := T3'; have T3 := T2'; have T2 := T1'; have T1 := T0'; have HB := HB'; clear T0' T1' T2' T3' T4' T5' HB'
  have h91 := cell_of_one HB.out.c.cs; have h92 := cell_of_one HB.out.c.cd
  try dsimp only
  refine hK.out _ _ ⟨h91, h92⟩ ?_
  clear hK K
  try simp only [Act.put, List.setIfInBounds_toArray, List.set_cons_zero, List.set_cons_succ]
  refine sched_sole (o := { dst := some 103, op := Op.call { callee := Callee.value (Operand.tmp 100), args := #[Operand.tmp 101, Operand.tmp 102], argTypes := #[3, 3] }, type := 3, pos := "diagrams.go:204", after := #[{ on := 36, ground := Ground.data }, { on := 37, ground := Ground.data }, { on := 38, ground := Ground.data }, { on := 34, ground := Ground.chain }, { on := 26, ground := Ground.guard }], guard := some (26, true) }) rfl (fun K hK => ?_)
  go_simp
  with_reducible refine (jAnd hV (by assumption) (by decide) (by assumption) (by assumption)).mono ?_
  rintro e w9 ⟨s9, x9, rfl, hb, hk, hm⟩
  have Ma' := Lib.hid (hk _ _ Ma.out)
  have Mb' := Lib.hid (hk _ _ Mb.out)
  have Mc' := Lib.hid (hk _ _ Mc.out)
  have T1' := Lib.hid (hk _ _ T1.out)
  have T2' := Lib.hid (hk _ _ T2.out)
  have T3' := Lib.hid (hk _ _ T3.out)
  have T4' := Lib.hid (hk _ _ T4.out)
  have T5' := Lib.hid (hk _ _ T5.out)
  have HB' := Lib.hid hb; have T0' := Lib.hid hm
  clear h91 h92 hb hk hm HB Ma Mb Mc T1 T2 T3 T4 T5 T6
  have Ma := Ma'; clear Ma'; have Mb := Mb'; clear Mb'; have Mc := Mc'; clear Mc'
  have T6 := T5'; have T5 := T4'; have T4 := T3'; have T3 := T2'; have T2 := T1'; have T1 := T0'; have HB := HB'; clear T0' T1' T2' T3' T4' T5' HB'
  have h91 := cell_of_one HB.out.c.cs; have h92 := cell_of_one HB.out.c.cd
  try dsimp only
  refine hK.out _ _ ⟨h91, h92⟩ ?_
  clear hK K
  try simp only [Act.put, List.setIfInBounds_toArray, List.set_cons_zero, List.set_cons_succ]
  refine sched_sole (o := { dst := some 107, op := Op.call { callee := Callee.value (Operand.tmp 104), args := #[Operand.tmp 105, Operand.tmp 106], argTypes := #[3, 3] }, type := 3, pos := "diagrams.go:204", after := #[{ on := 40, ground := Ground.data }, { on := 41, ground := Ground.data }, { on := 42, ground := Ground.data }, { on := 39, ground := Ground.chain }, { on := 26, ground := Ground.guard }], guard := some (26, true) }) rfl (fun K hK => ?_)
  go_simp
  with_reducible refine (jAnd hV (by assumption) (by decide) (by assumption) (by assumption)).mono ?_
  rintro e w9 ⟨s9, x9, rfl, hb, hk, hm⟩
  have Ma' := Lib.hid (hk _ _ Ma.out)
  have Mb' := Lib.hid (hk _ _ Mb.out)
  have Mc' := Lib.hid (hk _ _ Mc.out)
  have T1' := Lib.hid (hk _ _ T1.out)
  have T2' := Lib.hid (hk _ _ T2.out)
  have T3' := Lib.hid (hk _ _ T3.out)
  have T4' := Lib.hid (hk _ _ T4.out)
  have T5' := Lib.hid (hk _ _ T5.out)
  have HB' := Lib.hid hb; have T0' := Lib.hid hm
  clear h91 h92 hb hk hm HB Ma Mb Mc T1 T2 T3 T4 T5 T6
  have Ma := Ma'; clear Ma'; have Mb := Mb'; clear Mb'; have Mc := Mc'; clear Mc'
  have T6 := T5'; have T5 := T4'; have T4 := T3'; have T3 := T2'; have T2 := T1'; have T1 := T0'; have HB := HB'; clear T0' T1' T2' T3' T4' T5' HB'
  have h91 := cell_of_one HB.out.c.cs; have h92 := cell_of_one HB.out.c.cd
  try dsimp only
  refine hK.out _ _ ⟨h91, h92⟩ ?_
  clear hK K
  try simp only [Act.put, List.setIfInBounds_toArray, List.set_cons_zero, List.set_cons_succ]
  refine sched_sole (o := { dst := some 108, op := Op.call { callee := Callee.value (Operand.tmp 99), args := #[Operand.tmp 103, Operand.tmp 107], argTypes := #[3, 3] }, type := 3, pos := "diagrams.go:204", after := #[{ on := 35, ground := Ground.data }, { on := 39, ground := Ground.data }, { on := 43, ground := Ground.data }, { on := 43, ground := Ground.chain }, { on := 26, ground := Ground.guard }], guard := some (26, true) }) rfl (fun K hK => ?_)
  go_simp
  with_reducible refine (jOr hV (by assumption) (by decide) (by assumption) (by assumption)).mono ?_
  rintro e w9 ⟨s9, x9, rfl, hb, hk, hm⟩
  have Ma' := Lib.hid (hk _ _ Ma.out)
  have Mb' := Lib.hid (hk _ _ Mb.out)
  have Mc' := Lib.hid (hk _ _ Mc.out)
  have T1' := Lib.hid (hk _ _ T1.out)
  have T2' := Lib.hid (hk _ _ T2.out)
  have T3' := Lib.hid (hk _ _ T3.out)
  have T4' := Lib.hid (hk _ _ T4.out)
  have T5' := Lib.hid (hk _ _ T5.out)
  have HB' := Lib.hid hb; have T0' := Lib.hid hm
  clear h91 h92 hb hk hm HB Ma Mb Mc T1 T2 T3 T4 T5 T6
  have Ma := Ma'; clear Ma'; have Mb := Mb'; clear Mb'; have Mc := Mc'; clear Mc'
  have T6 := T5'; have T5 := T4'; have T4 := T3'; have T3 := T2'; have T2 := T1'; have T1 := T0'; have HB := HB'; clear T0' T1' T2' T3' T4' T5' HB'
  have h91 := cell_of_one HB.out.c.cs; have h92 := cell_of_one HB.out.c.cd
  try dsimp only
  refine hK.out _ _ ⟨h91, h92⟩ ?_
  clear hK K
  try simp only [Act.put, List.setIfInBounds_toArray, List.set_cons_zero, List.set_cons_succ]
  refine sched_sole (o := { dst := some 109, op := Op.call { callee := Callee.value (Operand.tmp 91), args := #[Operand.tmp 98, Operand.tmp 108], argTypes := #[3, 3] }, type := 4, pos := "diagrams.go:204", after := #[{ on := 27, ground := Ground.data }, { on := 34, ground := Ground.data }, { on := 44, ground := Ground.data }, { on := 44, ground := Ground.chain }, { on := 26, ground := Ground.guard }], guard := some (26, true) }) rfl (fun K hK => ?_)
  go_simp
  with_reducible refine (jThen hV (by assumption) (by assumption) (by assumption) (by first | exact bl1 A B C | exact bl2 A B C | exact bl3 A B C | exact bl4 A B C | exact bl5 A B C | exact bl6 A B C | exact bl7 A B C)).mono ?_
  rintro e w9 ⟨rfl, s9, hb⟩
  clear h91 h92 HB Ma Mb Mc T1 T2 T3 T4 T5 T6
  have HB := Lib.hid hb; clear hb
  have Ma := Lib.hid (KA.out _ HB.out.m); have Mb := Lib.hid (KB.out _ HB.out.m); have Mc := Lib.hid (KC.out _ HB.out.m)
  have T1 := Lib.hid (means_zero s9); have T2 := T1; have T3 := T1; have T4 := T1; have T5 := T1; have T6 := T1
  have h91 := cell_of_one HB.out.c.cs; have h92 := cell_of_one HB.out.c.cd
  try dsimp only
  refine hK.out _ _ ⟨h91, h92⟩ ?_
  clear hK K
  try simp only [Act.put, List.setIfInBounds_toArray, List.set_cons_zero, List.set_cons_succ]
  refine sched_take (o := { dst := some 110, op := Op.pick (Operand.tmp 90) (Operand.tmp 109) (Operand.const (Value.bool false)), type := 4, pos := "diagrams.go:204", after := #[{ on := 26, ground := Ground.data }, { on := 45, ground := Ground.data }], guard := none }) (v := ?_) rfl rfl ?hy ?_
  case hy => (intro w' hSw; (try dsimp only at hSw); go_simp; try with_reducible rfl)
  try simp only [Act.put, List.setIfInBounds_toArray, List.set_cons_zero, List.set_cons_succ]
  refine sched_take (o := { dst := some 111, op := Op.move (Operand.tmp 110), type := 4, pos := "diagrams.go:204", after := #[{ on := 46, ground := Ground.data }, { on := 45, ground := Ground.chain }], guard := none }) (v := ?_) rfl rfl ?hy ?_
  case hy => (intro w' hSw; (try dsimp only at hSw); go_simp; try with_reducible rfl)
  try simp only [Act.put, List.setIfInBounds_toArray, List.set_cons_zero, List.set_cons_succ]
  refine sched_take (o := { dst := some 112, op := Op.move (Operand.tmp 22), type := 65, pos := "diagrams.go:204", after := #[{ on := 47, ground := Ground.guard }], guard := some (47, true) }) (v := ?_) rfl rfl ?hy ?_
  case hy => (intro w' hSw; (try dsimp only at hSw); go_simp; try with_reducible rfl)
  try simp only [Act.put, List.setIfInBounds_toArray, List.set_cons_zero, List.set_cons_succ]
  refine sched_take (o := { dst := some 113, op := Op.move (Operand.tmp 20), type := 30, pos := "diagrams.go:204", after := #[{ on := 47, ground := Ground.guard }], guard := some (47, true) }) (v := ?_) rfl rfl ?hy ?_
  case hy => (intro w' hSw; (try dsimp only at hSw); go_simp; try with_reducible rfl)
  try simp only [Act.put, List.setIfInBounds_toArray, List.set_cons_zero, List.set_cons_succ]
  refine sched_take (o := { dst := some 114, op := Op.move (Operand.tmp 14), type := 3, pos := "diagrams.go:204", after := #[{ on := 47, ground := Ground.guard }], guard := some (47, true) }) (v := ?_) rfl rfl ?hy ?_
  case hy => (intro w' hSw; (try dsimp only at hSw); go_simp; try with_reducible rfl)
  try simp only [Act.put, List.setIfInBounds_toArray, List.set_cons_zero, List.set_cons_succ]
  refine sched_take (o := { dst := some 115, op := Op.move (Operand.tmp 19), type := 30, pos := "diagrams.go:204", after := #[{ on := 47, ground := Ground.guard }], guard := some (47, true) }) (v := ?_) rfl rfl ?hy ?_
  case hy => (intro w' hSw; (try dsimp only at hSw); go_simp; try with_reducible rfl)
  try simp only [Act.put, List.setIfInBounds_toArray, List.set_cons_zero, List.set_cons_succ]
  refine sched_take (o := { dst := some 116, op := Op.move (Operand.tmp 14), type := 3, pos := "diagrams.go:204", after := #[{ on := 47, ground := Ground.guard }], guard := some (47, true) }) (v := ?_) rfl rfl ?hy ?_
  case hy => (intro w' hSw; (try dsimp only at hSw); go_simp; try with_reducible rfl)
  try simp only [Act.put, List.setIfInBounds_toArray, List.set_cons_zero, List.set_cons_succ]
  refine sched_take (o := { dst := some 117, op := Op.move (Operand.tmp 15), type := 3, pos := "diagrams.go:204", after := #[{ on := 47, ground := Ground.guard }], guard := some (47, true) }) (v := ?_) rfl rfl ?hy ?_
  case hy => (intro w' hSw; (try dsimp only at hSw); go_simp; try with_reducible rfl)
  try simp only [Act.put, List.setIfInBounds_toArray, List.set_cons_zero, List.set_cons_succ]
  refine sched_take (o := { dst := some 120, op := Op.move (Operand.tmp 14), type := 3, pos := "diagrams.go:204", after := #[{ on := 47, ground := Ground.guard }], guard := some (47, true) }) (v := ?_) rfl rfl ?hy ?_
  case hy => (intro w' hSw; (try dsimp only at hSw); go_simp; try with_reducible rfl)
  try simp only [Act.put, List.setIfInBounds_toArray, List.set_cons_zero, List.set_cons_succ]
  refine sched_sole (o := { dst := some 118, op := Op.call { callee := Callee.value (Operand.tmp 115), args := #[Operand.tmp 116, Operand.tmp 117], argTypes := #[3, 3] }, type := 3, pos := "diagrams.go:204", after := #[{ on := 51, ground := Ground.data }, { on := 52, ground := Ground.data }, { on := 53, ground := Ground.data }, { on := 47, ground := Ground.chain }, { on := 47, ground := Ground.guard }], guard := some (47, true) }) rfl (fun K hK => ?_)
  go_simp
  with_reducible refine (jAnd hV (by assumption) (by decide) (by assumption) (by assumption)).mono ?_
  rintro e w9 ⟨s9, x9, rfl, hb, hk, hm⟩
  have Ma' := Lib.hid (hk _ _ Ma.out)
  have Mb' := Lib.hid (hk _ _ Mb.out)
  have Mc' := Lib.hid (hk _ _ Mc.out)
  have T1' := Lib.hid (hk _ _ T1.out)
  have T2' := Lib.hid (hk _ _ T2.out)
  have T3' := Lib.hid (hk _ _ T3.out)
  have T4' := Lib.hid (hk _ _ T4.out)
  have T5' := Lib.hid (hk _ _ T5.out)
  have HB' := Lib.hid hb; have T0' := Lib.hid hm
  clear h91 h92 hb hk hm HB Ma Mb Mc T1 T2 T3 T4 T5 T6
  have Ma := Ma'; clear Ma'; have Mb := Mb'; clear Mb'; have Mc := Mc'; clear Mc'
  have T6 := T5'; have T5 := T4'; have T4 := T3'; have T3 := T2'; have T2 := T1'; have T1 := T0'; have HB := HB'; clear T0' T1' T2' T3' T4' T5' HB'
  have h91 := cell_of_one HB.out.c.cs; have h92 := cell_of_one HB.out.c.cd
  try dsimp only
  refine hK.out _ _ ⟨h91, h92⟩ ?_
  clear hK K
  try simp only [Act.put, List.setIfInBounds_toArray, List.set_cons_zero, List.set_cons_succ]
  refine sched_sole (o := { dst := some 119, op := Op.call { callee := Callee.value (Operand.tmp 113), args := #[Operand.tmp 114, Operand.tmp 118], argTypes := #[3, 3] }, type := 3, pos := "diagrams.go:204", after := #[{ on := 49, ground := Ground.data }, { on := 50, ground := Ground.data }, { on := 54, ground := Ground.data }, { on := 54, ground := Ground.chain }, { on := 47, ground := Ground.guard }], guard := some (47, true) }) rfl (fun K hK => ?_)
  go_simp
  with_reducible refine (jOr hV (by assumption) (by decide) (by assumption) (by assumption)).mono ?_
  rintro e w9 ⟨s9, x9, rfl, hb, hk, hm⟩
  have Ma' := Lib.hid (hk _ _ Ma.out)
  have Mb' := Lib.hid (hk _ _ Mb.out)
  have Mc' := Lib.hid (hk _ _ Mc.out)
  have T1' := Lib.hid (hk _ _ T1.out)
  have T2' := Lib.hid (hk _ _ T2.out)
  have T3' := Lib.hid (hk _ _ T3.out)
  have T4' := Lib.hid (hk _ _ T4.out)
  have T5' := Lib.hid (hk _ _ T5.out)
  have HB' := Lib.hid hb; have T0' := Lib.hid hm
  clear h91 h92 hb hk hm HB Ma Mb Mc T1 T2 T3 T4 T5 T6
  have Ma := Ma'; clear Ma'; have Mb := Mb'; clear Mb'; have Mc := Mc'; clear Mc'
  have T6 := T5'; have T5 := T4'; have T4 := T3'; have T3 := T2'; have T2 := T1'; have T1 := T0'; have HB := HB'; clear T0' T1' T2' T3' T4' T5' HB'
  have h91 := cell_of_one HB.out.c.cs; have h92 := cell_of_one HB.out.c.cd
  try dsimp only
  refine hK.out _ _ ⟨h91, h92⟩ ?_
  clear hK K
  try simp only [Act.put, List.setIfInBounds_toArray, List.set_cons_zero, List.set_cons_succ]
  refine sched_sole (o := { dst := some 121, op := Op.call { callee := Callee.value (Operand.tmp 112), args := #[Operand.tmp 119, Operand.tmp 120], argTypes := #[3, 3] }, type := 4, pos := "diagrams.go:204", after := #[{ on := 48, ground := Ground.data }, { on := 55, ground := Ground.data }, { on := 56, ground := Ground.data }, { on := 55, ground := Ground.chain }, { on := 47, ground := Ground.guard }], guard := some (47, true) }) rfl (fun K hK => ?_)
  go_simp
  with_reducible refine (jThen hV (by assumption) (by assumption) (by assumption) (by first | exact bl1 A B C | exact bl2 A B C | exact bl3 A B C | exact bl4 A B C | exact bl5 A B C | exact bl6 A B C | exact bl7 A B C)).mono ?_
  rintro e w9 ⟨rfl, s9, hb⟩
  clear h91 h92 HB Ma Mb Mc T1 T2 T3 T4 T5 T6
  have HB := Lib.hid hb; clear hb
  have Ma := Lib.hid (KA.out _ HB.out.m); have Mb := Lib.hid (KB.out _ HB.out.m); have Mc := Lib.hid (KC.out _ HB.out.m)
  have T1 := Lib.hid (means_zero s9); have T2 := T1; have T3 := T1; have T4 := T1; have T5 := T1; have T6 := T1
  have h91 := cell_of_one HB.out.c.cs; have h92 := cell_of_one HB.out.c.cd
  try dsimp only
  refine hK.out _ _ ⟨h91, h92⟩ ?_
  clear hK K
  try simp only [Act.put, List.setIfInBounds_toArray, List.set_cons_zero, List.set_cons_succ]
  refine sched_take (o := { dst := some 122, op := Op.pick (Operand.tmp 111) (Operand.tmp 121) (Operand.const (Value.bool false)), type := 4, pos := "diagrams.go:204", after := #[{ on := 47, ground := Ground.data }, { on := 57, ground := Ground.data }], guard := none }) (v := ?_) rfl rfl ?hy ?_
  case hy => (intro w' hSw; (try dsimp only at hSw); go_simp; try with_reducible rfl)
  try simp only [Act.put, List.setIfInBounds_toArray, List.set_cons_zero, List.set_cons_succ]
  refine sched_take (o := { dst := some 123, op := Op.move (Operand.tmp 122), type := 4, pos := "diagrams.go:204", after := #[{ on := 58, ground := Ground.data }, { on := 57, ground := Ground.chain }], guard := none }) (v := ?_) rfl rfl ?hy ?_
  case hy => (intro w' hSw; (try dsimp only at hSw); go_simp; try with_reducible rfl)
  try simp only [Act.put, List.setIfInBounds_toArray, List.set_cons_zero, List.set_cons_succ]
  refine sched_take (o := { dst := some 124, op := Op.move (Operand.tmp 22), type := 65, pos := "diagrams.go:204", after := #[{ on := 59, ground := Ground.guard }], guard := some (59, true) }) (v := ?_) rfl rfl ?hy ?_
  case hy => (intro w' hSw; (try dsimp only at hSw); go_simp; try with_reducible rfl)
  try simp only [Act.put, List.setIfInBounds_toArray, List.set_cons_zero, List.set_cons_succ]
  refine sched_take (o := { dst := some 125, op := Op.load 63 (Operand.tmp 18), type := 63, pos := "diagrams.go:204", after := #[{ on := 59, ground := Ground.guard }], guard := some (59, true) }) (v := ?_) rfl rfl ?hy ?_
  case hy => (intro w' hSw; (try dsimp only at hSw); go_simp; try with_reducible rfl)
  try simp only [Act.put, List.setIfInBounds_toArray, List.set_cons_zero, List.set_cons_succ]
  refine sched_take (o := { dst := some 126, op := Op.load 46 (Operand.tmp 11), type := 46, pos := "diagrams.go:204", after := #[{ on := 59, ground := Ground.guard }], guard := some (59, true) }) (v := ?_) rfl rfl ?hy ?_
  case hy => (intro w' hSw; (try dsimp only at hSw); go_simp; try with_reducible rfl)
  try simp only [Act.put, List.setIfInBounds_toArray, List.set_cons_zero, List.set_cons_succ]
  refine sched_take (o := { dst := some 127, op := Op.move (Operand.tmp 14), type := 3, pos := "diagrams.go:204", after := #[{ on := 59, ground := Ground.guard }], guard := some (59, true) }) (v := ?_) rfl rfl ?hy ?_
  case hy => (intro w' hSw; (try dsimp only at hSw); go_simp; try with_reducible rfl)
  try simp only [Act.put, List.setIfInBounds_toArray, List.set_cons_zero, List.set_cons_succ]
  refine sched_take (o := { dst := some 128, op := Op.move (Operand.tmp 15), type := 3, pos := "diagrams.go:204", after := #[{ on := 59, ground := Ground.guard }], guard := some (59, true) }) (v := ?_) rfl rfl ?hy ?_
  case hy => (intro w' hSw; (try dsimp only at hSw); go_simp; try with_reducible rfl)
  try simp only [Act.put, List.setIfInBounds_toArray, List.set_cons_zero, List.set_cons_succ]
  refine sched_take (o := { dst := some 133, op := Op.move (Operand.tmp 20), type := 30, pos := "diagrams.go:204", after := #[{ on := 59, ground := Ground.guard }], guard := some (59, true) }) (v := ?_) rfl rfl ?hy ?_
  case hy => (intro w' hSw; (try dsimp only at hSw); go_simp; try with_reducible rfl)
  try simp only [Act.put, List.setIfInBounds_toArray, List.set_cons_zero, List.set_cons_succ]
  refine sched_take (o := { dst := some 134, op := Op.move (Operand.tmp 19), type := 30, pos := "diagrams.go:204", after := #[{ on := 59, ground := Ground.guard }], guard := some (59, true) }) (v := ?_) rfl rfl ?hy ?_
  case hy => (intro w' hSw; (try dsimp only at hSw); go_simp; try with_reducible rfl)
  try simp only [Act.put, List.setIfInBounds_toArray, List.set_cons_zero, List.set_cons_succ]
  refine sched_take (o := { dst := some 135, op := Op.move (Operand.tmp 14), type := 3, pos := "diagrams.go:204", after := #[{ on := 59, ground := Ground.guard }], guard := some (59, true) }) (v := ?_) rfl rfl ?hy ?_
  case hy => (intro w' hSw; (try dsimp only at hSw); go_simp; try with_reducible rfl)
  try simp only [Act.put, List.setIfInBounds_toArray, List.set_cons_zero, List.set_cons_succ]
  refine sched_take (o := { dst := some 136, op := Op.move (Operand.tmp 21), type := 64, pos := "diagrams.go:204", after := #[{ on := 59, ground := Ground.guard }], guard := some (59, true) }) (v := ?_) rfl rfl ?hy ?_
  case hy => (intro w' hSw; (try dsimp only at hSw); go_simp; try with_reducible rfl)
  try simp only [Act.put, List.setIfInBounds_toArray, List.set_cons_zero, List.set_cons_succ]
  refine sched_take (o := { dst := some 137, op := Op.move (Operand.tmp 15), type := 3, pos := "diagrams.go:204", after := #[{ on := 59, ground := Ground.guard }], guard := some (59, true) }) (v := ?_) rfl rfl ?hy ?_
  case hy => (intro w' hSw; (try dsimp only at hSw); go_simp; try with_reducible rfl)
  try simp only [Act.put, List.setIfInBounds_toArray, List.set_cons_zero, List.set_cons_succ]
  refine sched_take (o := { dst := some 140, op := Op.move (Operand.tmp 19), type := 30, pos := "diagrams.go:204", after := #[{ on := 59, ground := Ground.guard }], guard := some (59, true) }) (v := ?_) rfl rfl ?hy ?_
  case hy => (intro w' hSw; (try dsimp only at hSw); go_simp; try with_reducible rfl)
  try simp only [Act.put, List.setIfInBounds_toArray, List.set_cons_zero, List.set_cons_succ]
  refine sched_take (o := { dst := some 141, op := Op.move (Operand.tmp 21), type := 64, pos := "diagrams.go:204", after := #[{ on := 59, ground := Ground.guard }], guard := some (59, true) }) (v := ?_) rfl rfl ?hy ?_
  case hy => (intro w' hSw; (try dsimp only at hSw); go_simp; try with_reducible rfl)
  try simp only [Act.put, List.setIfInBounds_toArray, List.set_cons_zero, List.set_cons_succ]
  refine sched_take (o := { dst := some 142, op := Op.move (Operand.tmp 14), type := 3, pos := "diagrams.go:204", after := #[{ on := 59, ground := Ground.guard }], guard := some (59, true) }) (v := ?_) rfl rfl ?hy ?_
  case hy => (intro w' hSw; (try dsimp only at hSw); go_simp; try with_reducible rfl)
  try simp only [Act.put, List.setIfInBounds_toArray, List.set_cons_zero, List.set_cons_succ]
  refine sched_take (o := { dst := some 144, op := Op.move (Operand.tmp 15), type := 3, pos := "diagrams.go:204", after := #[{ on := 59, ground := Ground.guard }], guard := some (59, true) }) (v := ?_) rfl rfl ?hy ?_
  case hy => (intro w' hSw; (try dsimp only at hSw); go_simp; try with_reducible rfl)
  try simp only [Act.put, List.setIfInBounds_toArray, List.set_cons_zero, List.set_cons_succ]
  refine sched_sole (o := { dst := some 129, op := Op.call { callee := Callee.value (Operand.func 40), args := #[Operand.tmp 126, Operand.tmp 127, Operand.tmp 128], argTypes := #[46, 3, 3] }, type := 33, pos := "diagrams.go:204", after := #[{ on := 62, ground := Ground.data }, { on := 63, ground := Ground.data }, { on := 64, ground := Ground.data }, { on := 59, ground := Ground.chain }, { on := 59, ground := Ground.guard }], guard := some (59, true) }) rfl (fun K hK => ?_)
  go_simp
  with_reducible refine (jXor hV (by assumption) (by decide) (by assumption) (by assumption)).mono ?_
  rintro e w9 ⟨s9, x9, rfl, hb, hk, hm⟩
  have Ma' := Lib.hid (hk _ _ Ma.out)
  have Mb' := Lib.hid (hk _ _ Mb.out)
  have Mc' := Lib.hid (hk _ _ Mc.out)
  have T1' := Lib.hid (hk _ _ T1.out)
  have T2' := Lib.hid (hk _ _ T2.out)
  have T3' := Lib.hid (hk _ _ T3.out)
  have T4' := Lib.hid (hk _ _ T4.out)
  have T5' := Lib.hid (hk _ _ T5.out)
  have HB' := Lib.hid hb; have T0' := Lib.hid hm
  clear h91 h92 hb hk hm HB Ma Mb Mc T1 T2 T3 T4 T5 T6
  have Ma := Ma'; clear Ma'; have Mb := Mb'; clear Mb'; have Mc := Mc'; clear Mc'
  have T6 := T5'; have T5 := T4'; have T4 := T3'; have T3 := T2'; have T2 := T1'; have T1 := T0'; have HB := HB'; clear T0' T1' T2' T3' T4' T5' HB'
  have h91 := cell_of_one HB.out.c.cs; have h92 := cell_of_one HB.out.c.cd
  try dsimp only
  refine hK.out _ _ ⟨h91, h92⟩ ?_
  clear hK K
  try simp only [Act.put, List.setIfInBounds_toArray, List.set_cons_zero, List.set_cons_succ]
  refine sched_take (o := { dst := some 130, op := Op.extract (Operand.tmp 129) 0, type := 3, pos := "diagrams.go:204", after := #[{ on := 65, ground := Ground.data }, { on := 59, ground := Ground.guard }], guard := some (59, true) }) (v := ?_) rfl rfl ?hy ?_
  case hy => (intro w' hSw; (try dsimp only at hSw); go_simp; try with_reducible rfl)
  try simp only [Act.put, List.setIfInBounds_toArray, List.set_cons_zero, List.set_cons_succ]
  refine sched_take (o := { dst := some 131, op := Op.extract (Operand.tmp 129) 1, type := 25, pos := "diagrams.go:204", after := #[{ on := 65, ground := Ground.data }, { on := 59, ground := Ground.guard }], guard := some (59, true) }) (v := ?_) rfl rfl ?hy ?_
  case hy => (intro w' hSw; (try dsimp only at hSw); go_simp; try with_reducible rfl)
  try simp only [Act.put, List.setIfInBounds_toArray, List.set_cons_zero, List.set_cons_succ]
  refine sched_sole (o := { dst := some 132, op := Op.call { callee := Callee.value (Operand.tmp 125), args := #[Operand.tmp 130, Operand.tmp 131], argTypes := #[3, 25] }, type := 3, pos := "diagrams.go:204", after := #[{ on := 61, ground := Ground.data }, { on := 66, ground := Ground.data }, { on := 67, ground := Ground.data }, { on := 65, ground := Ground.chain }, { on := 59, ground := Ground.guard }], guard := some (59, true) }) rfl (fun K hK => ?_)
  go_simp
  with_reducible refine (do_any _ _ _ HB.out.c.cb).mono ?_
  rintro e w10 ⟨rfl, rfl⟩
  try dsimp only
  refine hK.out _ _ ⟨h91, h92⟩ ?_
  clear hK K
  try simp only [Act.put, List.setIfInBounds_toArray, List.set_cons_zero, List.set_cons_succ]
  refine sched_sole (o := { dst := some 138, op := Op.call { callee := Callee.value (Operand.tmp 136), args := #[Operand.tmp 137], argTypes := #[3] }, type := 3, pos := "diagrams.go:204", after := #[{ on := 72, ground := Ground.data }, { on := 73, ground := Ground.data }, { on := 68, ground := Ground.chain }, { on := 59, ground := Ground.guard }], guard := some (59, true) }) rfl (fun K hK => ?_)
  go_simp
  with_reducible refine (jNot hV (by assumption) (by decide) (by assumption)).mono ?_
  rintro e w9 ⟨s9, x9, rfl, hb, hk, hm⟩
  have Ma' := Lib.hid (hk _ _ Ma.out)
  have Mb' := Lib.hid (hk _ _ Mb.out)
  have Mc' := Lib.hid (hk _ _ Mc.out)
  have T1' := Lib.hid (hk _ _ T1.out)
  have T2' := Lib.hid (hk _ _ T2.out)
  have T3' := Lib.hid (hk _ _ T3.out)
  have T4' := Lib.hid (hk _ _ T4.out)
  have T5' := Lib.hid (hk _ _ T5.out)
  have HB' := Lib.hid hb; have T0' := Lib.hid hm
  clear h91 h92 hb hk hm HB Ma Mb Mc T1 T2 T3 T4 T5 T6
  have Ma := Ma'; clear Ma'; have Mb := Mb'; clear Mb'; have Mc := Mc'; clear Mc'
  have T6 := T5'; have T5 := T4'; have T4 := T3'; have T3 := T2'; have T2 := T1'; have T1 := T0'; have HB := HB'; clear T0' T1' T2' T3' T4' T5' HB'
  have h91 := cell_of_one HB.out.c.cs; have h92 := cell_of_one HB.out.c.cd
  try dsimp only
  refine hK.out _ _ ⟨h91, h92⟩ ?_
  clear hK K
  try simp only [Act.put, List.setIfInBounds_toArray, List.set_cons_zero, List.set_cons_succ]
  refine sched_sole (o := { dst := some 139, op := Op.call { callee := Callee.value (Operand.tmp 134), args := #[Operand.tmp 135, Operand.tmp 138], argTypes := #[3, 3] }, type := 3, pos := "diagrams.go:204", after := #[{ on := 70, ground := Ground.data }, { on := 71, ground := Ground.data }, { on := 74, ground := Ground.data }, { on := 74, ground := Ground.chain }, { on := 59, ground := Ground.guard }], guard := some (59, true) }) rfl (fun K hK => ?_)
  go_simp
  with_reducible refine (jAnd hV (by assumption) (by decide) (by assumption) (by assumption)).mono ?_
  rintro e w9 ⟨s9, x9, rfl, hb, hk, hm⟩
  have Ma' := Lib.hid (hk _ _ Ma.out)
  have Mb' := Lib.hid (hk _ _ Mb.out)
  have Mc' := Lib.hid (hk _ _ Mc.out)
  have T1' := Lib.hid (hk _ _ T1.out)
  have T2' := Lib.hid (hk _ _ T2.out)
  have T3' := Lib.hid (hk _ _ T3.out)
  have T4' := Lib.hid (hk _ _ T4.out)
  have T5' := Lib.hid (hk _ _ T5.out)
  have HB' := Lib.hid hb; have T0' := Lib.hid hm
  clear h91 h92 hb hk hm HB Ma Mb Mc T1 T2 T3 T4 T5 T6
  have Ma := Ma'; clear Ma'; have Mb := Mb'; clear Mb'; have Mc := Mc'; clear Mc'
  have T6 := T5'; have T5 := T4'; have T4 := T3'; have T3 := T2'; have T2 := T1'; have T1 := T0'; have HB := HB'; clear T0' T1' T2' T3' T4' T5' HB'
  have h91 := cell_of_one HB.out.c.cs; have h92 := cell_of_one HB.out.c.cd
  try dsimp only
  refine hK.out _ _ ⟨h91, h92⟩ ?_
  clear hK K
  try simp only [Act.put, List.setIfInBounds_toArray, List.set_cons_zero, List.set_cons_succ]
  refine sched_sole (o := { dst := some 143, op := Op.call { callee := Callee.value (Operand.tmp 141), args := #[Operand.tmp 142], argTypes := #[3] }, type := 3, pos := "diagrams.go:204", after := #[{ on := 77, ground := Ground.data }, { on := 78, ground := Ground.data }, { on := 75, ground := Ground.chain }, { on := 59, ground := Ground.guard }], guard := some (59, true) }) rfl (fun K hK => ?_)
  go_simp
  with_reducible refine (jNot hV (by assumption) (by decide) (by assumption)).mono ?_
  rintro e w9 ⟨s9, x9, rfl, hb, hk, hm⟩
  have Ma' := Lib.hid (hk _ _ Ma.out)
  have Mb' := Lib.hid (hk _ _ Mb.out)
  have Mc' := Lib.hid (hk _ _ Mc.out)
  have T1' := Lib.hid (hk _ _ T1.out)
  have T2' := Lib.hid (hk _ _ T2.out)
  have T3' := Lib.hid (hk _ _ T3.out)
  have T4' := Lib.hid (hk _ _ T4.out)
  have T5' := Lib.hid (hk _ _ T5.out)
  have HB' := Lib.hid hb; have T0' := Lib.hid hm
  clear h91 h92 hb hk hm HB Ma Mb Mc T1 T2 T3 T4 T5 T6
  have Ma := Ma'; clear Ma'; have Mb := Mb'; clear Mb'; have Mc := Mc'; clear Mc'
  have T6 := T5'; have T5 := T4'; have T4 := T3'; have T3 := T2'; have T2 := T1'; have T1 := T0'; have HB := HB'; clear T0' T1' T2' T3' T4' T5' HB'
  have h91 := cell_of_one HB.out.c.cs; have h92 := cell_of_one HB.out.c.cd
  try dsimp only
  refine hK.out _ _ ⟨h91, h92⟩ ?_
  clear hK K
  try simp only [Act.put, List.setIfInBounds_toArray, List.set_cons_zero, List.set_cons_succ]
  refine sched_sole (o := { dst := some 145, op := Op.call { callee := Callee.value (Operand.tmp 140), args := #[Operand.tmp 143, Operand.tmp 144], argTypes := #[3, 3] }, type := 3, pos := "diagrams.go:204", after := #[{ on := 76, ground := Ground.data }, { on := 79, ground := Ground.data }, { on := 80, ground := Ground.data }, { on := 79, ground := Ground.chain }, { on := 59, ground := Ground.guard }], guard := some (59, true) }) rfl (fun K hK => ?_)
  go_simp
  with_reducible refine (jAnd hV (by assumption) (by decide) (by assumption) (by assumption)).mono ?_
  rintro e w9 ⟨s9, x9, rfl, hb, hk, hm⟩
  have Ma' := Lib.hid (hk _ _ Ma.out)
  have Mb' := Lib.hid (hk _ _ Mb.out)
  have Mc' := Lib.hid (hk _ _ Mc.out)
  have T1' := Lib.hid (hk _ _ T1.out)
  have T2' := Lib.hid (hk _ _ T2.out)
  have T3' := Lib.hid (hk _ _ T3.out)
  have T4' := Lib.hid (hk _ _ T4.out)
  have T5' := Lib.hid (hk _ _ T5.out)
  have HB' := Lib.hid hb; have T0' := Lib.hid hm
  clear h91 h92 hb hk hm HB Ma Mb Mc T1 T2 T3 T4 T5 T6
  have Ma := Ma'; clear Ma'; have Mb := Mb'; clear Mb'; have Mc := Mc'; clear Mc'
  have T6 := T5'; have T5 := T4'; have T4 := T3'; have T3 := T2'; have T2 := T1'; have T1 := T0'; have HB := HB'; clear T0' T1' T2' T3' T4' T5' HB'
  have h91 := cell_of_one HB.out.c.cs; have h92 := cell_of_one HB.out.c.cd
  try dsimp only
  refine hK.out _ _ ⟨h91, h92⟩ ?_
  clear hK K
  try simp only [Act.put, List.setIfInBounds_toArray, List.set_cons_zero, List.set_cons_succ]
  refine sched_sole (o := { dst := some 146, op := Op.call { callee := Callee.value (Operand.tmp 133), args := #[Operand.tmp 139, Operand.tmp 145], argTypes := #[3, 3] }, type := 3, pos := "diagrams.go:204", after := #[{ on := 69, ground := Ground.data }, { on := 75, ground := Ground.data }, { on := 81, ground := Ground.data }, { on := 81, ground := Ground.chain }, { on := 59, ground := Ground.guard }], guard := some (59, true) }) rfl (fun K hK => ?_)
  go_simp
  with_reducible refine (jOr hV (by assumption) (by decide) (by assumption) (by assumption)).mono ?_
  rintro e w9 ⟨s9, x9, rfl, hb, hk, hm⟩
  have Ma' := Lib.hid (hk _ _ Ma.out)
  have Mb' := Lib.hid (hk _ _ Mb.out)
  have Mc' := Lib.hid (hk _ _ Mc.out)
  have T1' := Lib.hid (hk _ _ T1.out)
  have T2' := Lib.hid (hk _ _ T2.out)
  have T3' := Lib.hid (hk _ _ T3.out)
  have T4' := Lib.hid (hk _ _ T4.out)
  have T5' := Lib.hid (hk _ _ T5.out)
  have HB' := Lib.hid hb; have T0' := Lib.hid hm
  clear h91 h92 hb hk hm HB Ma Mb Mc T1 T2 T3 T4 T5 T6
  have Ma := Ma'; clear Ma'; have Mb := Mb'; clear Mb'; have Mc := Mc'; clear Mc'
  have T6 := T5'; have T5 := T4'; have T4 := T3'; have T3 := T2'; have T2 := T1'; have T1 := T0'; have HB := HB'; clear T0' T1' T2' T3' T4' T5' HB'
  have h91 := cell_of_one HB.out.c.cs; have h92 := cell_of_one HB.out.c.cd
  try dsimp only
  refine hK.out _ _ ⟨h91, h92⟩ ?_
  clear hK K
  try simp only [Act.put, List.setIfInBounds_toArray, List.set_cons_zero, List.set_cons_succ]
  refine sched_sole (o := { dst := some 147, op := Op.call { callee := Callee.value (Operand.tmp 124), args := #[Operand.tmp 132, Operand.tmp 146], argTypes := #[3, 3] }, type := 4, pos := "diagrams.go:204", after := #[{ on := 60, ground := Ground.data }, { on := 68, ground := Ground.data }, { on := 82, ground := Ground.data }, { on := 82, ground := Ground.chain }, { on := 59, ground := Ground.guard }], guard := some (59, true) }) rfl (fun K hK => ?_)
  go_simp
  with_reducible refine (jThen hV (by assumption) (by assumption) (by assumption) (by first | exact bl1 A B C | exact bl2 A B C | exact bl3 A B C | exact bl4 A B C | exact bl5 A B C | exact bl6 A B C | exact bl7 A B C)).mono ?_
  rintro e w9 ⟨rfl, s9, hb⟩
  clear h91 h92 HB Ma Mb Mc T1 T2 T3 T4 T5 T6
  have HB := Lib.hid hb; clear hb
  have Ma := Lib.hid (KA.out _ HB.out.m); have Mb := Lib.hid (KB.out _ HB.out.m); have Mc := Lib.hid (KC.out _ HB.out.m)
  have T1 := Lib.hid (means_zero s9); have T2 := T1; have T3 := T1; have T4 := T1; have T5 := T1; have T6 := T1
  have h91 := cell_of_one HB.out.c.cs; have h92 := cell_of_one HB.out.c.cd
  try dsimp only
  refine hK.out _ _ ⟨h91, h92⟩ ?_
  clear hK K
  try simp only [Act.put, List.setIfInBounds_toArray, List.set_cons_zero, List.set_cons_succ]
  refine sched_take (o := { dst := some 148, op := Op.pick (Operand.tmp 123) (Operand.tmp 147) (Operand.const (Value.bool false)), type := 4, pos := "diagrams.go:204", after := #[{ on := 59, ground := Ground.data }, { on := 83, ground := Ground.data }], guard := none }) (v := ?_) rfl rfl ?hy ?_
  case hy => (intro w' hSw; (try dsimp only at hSw); go_simp; try with_reducible rfl)
  try simp only [Act.put, List.setIfInBounds_toArray, List.set_cons_zero, List.set_cons_succ]
  refine sched_take (o := { dst := some 149, op := Op.move (Operand.tmp 148), type := 4, pos := "diagrams.go:204", after := #[{ on := 84, ground := Ground.data }, { on := 83, ground := Ground.chain }], guard := none }) (v := ?_) rfl rfl ?hy ?_
  case hy => (intro w' hSw; (try dsimp only at hSw); go_simp; try with_reducible rfl)
  try simp only [Act.put, List.setIfInBounds_toArray, List.set_cons_zero, List.set_cons_succ]
  refine sched_take (o := { dst := some 150, op := Op.move (Operand.tmp 22), type := 65, pos := "diagrams.go:204", after := #[{ on := 85, ground := Ground.guard }], guard := some (85, true) }) (v := ?_) rfl rfl ?hy ?_
  case hy => (intro w' hSw; (try dsimp only at hSw); go_simp; try with_reducible rfl)
  try simp only [Act.put, List.setIfInBounds_toArray, List.set_cons_zero, List.set_cons_succ]
  refine sched_take (o := { dst := some 151, op := Op.move (Operand.tmp 19), type := 30, pos := "diagrams.go:204", after := #[{ on := 85, ground := Ground.guard }], guard := some (85, true) }) (v := ?_) rfl rfl ?hy ?_
  case hy => (intro w' hSw; (try dsimp only at hSw); go_simp; try with_reducible rfl)
  try simp only [Act.put, List.setIfInBounds_toArray, List.set_cons_zero, List.set_cons_succ]
  refine sched_take (o := { dst := some 152, op := Op.move (Operand.tmp 14), type := 3, pos := "diagrams.go:204", after := #[{ on := 85, ground := Ground.guard }], guard := some (85, true) }) (v := ?_) rfl rfl ?hy ?_
  case hy => (intro w' hSw; (try dsimp only at hSw); go_simp; try with_reducible rfl)
  try simp only [Act.put, List.setIfInBounds_toArray, List.set_cons_zero, List.set_cons_succ]
  refine sched_take (o := { dst := some 153, op := Op.move (Operand.tmp 21), type := 64, pos := "diagrams.go:204", after := #[{ on := 85, ground := Ground.guard }], guard := some (85, true) }) (v := ?_) rfl rfl ?hy ?_
  case hy => (intro w' hSw; (try dsimp only at hSw); go_simp; try with_reducible rfl)
  try simp only [Act.put, List.setIfInBounds_toArray, List.set_cons_zero, List.set_cons_succ]
  refine sched_take (o := { dst := some 154, op := Op.move (Operand.tmp 14), type := 3, pos := "diagrams.go:204", after := #[{ on := 85, ground := Ground.guard }], guard := some (85, true) }) (v := ?_) rfl rfl ?hy ?_
  case hy => (intro w' hSw; (try dsimp only at hSw); go_simp; try with_reducible rfl)
  try simp only [Act.put, List.setIfInBounds_toArray, List.set_cons_zero, List.set_cons_succ]
  refine sched_sole (o := { dst := some 155, op := Op.call { callee := Callee.value (Operand.tmp 153), args := #[Operand.tmp 154], argTypes := #[3] }, type := 3, pos := "diagrams.go:204", after := #[{ on := 89, ground := Ground.data }, { on := 90, ground := Ground.data }, { on := 85, ground := Ground.chain }, { on := 85, ground := Ground.guard }], guard := some (85, true) }) rfl (fun K hK => ?_)
  go_simp
  with_reducible refine (jNot hV (by assumption) (by decide) (by assumption)).mono ?_
  rintro e w9 ⟨s9, x9, rfl, hb, hk, hm⟩
  have Ma' := Lib.hid (hk _ _ Ma.out)
  have Mb' := Lib.hid (hk _ _ Mb.out)
  have Mc' := Lib.hid (hk _ _ Mc.out)
  have T1' := Lib.hid (hk _ _ T1.out)
  have T2' := Lib.hid (hk _ _ T2.out)
  have T3' := Lib.hid (hk _ _ T3.out)
  have T4' := Lib.hid (hk _ _ T4.out)
  have T5' := Lib.hid (hk _ _ T5.out)
  have HB' := Lib.hid hb; have T0' := Lib.hid hm
  clear h91 h92 hb hk hm HB Ma Mb Mc T1 T2 T3 T4 T5 T6
  have Ma := Ma'; clear Ma'; have Mb := Mb'; clear Mb'; have Mc := Mc'; clear Mc'
  have T6 := T5'; have T5 := T4'; have T4 := T3'; have T3 := T2'; have T2 := T1'; have T1 := T0'; have HB := HB'; clear T0' T1' T2' T3' T4' T5' HB'
  have h91 := cell_of_one HB.out.c.cs; have h92 := cell_of_one HB.out.c.cd
  try dsimp only
  refine hK.out _ _ ⟨h91, h92⟩ ?_
  clear hK K
  try simp only [Act.put, List.setIfInBounds_toArray, List.set_cons_zero, List.set_cons_succ]
  refine sched_sole (o := { dst := some 156, op := Op.call { callee := Callee.value (Operand.tmp 151), args := #[Operand.tmp 152, Operand.tmp 155], argTypes := #[3, 3] }, type := 3, pos := "diagrams.go:204", after := #[{ on := 87, ground := Ground.data }, { on := 88, ground := Ground.data }, { on := 91, ground := Ground.data }, { on := 91, ground := Ground.chain }, { on := 85, ground := Ground.guard }], guard := some (85, true) }) rfl (fun K hK => ?_)
  go_simp
  with_reducible refine (jAnd hV (by assumption) (by decide) (by assumption) (by assumption)).mono ?_
  rintro e w9 ⟨s9, x9, rfl, hb, hk, hm⟩
  have Ma' := Lib.hid (hk _ _ Ma.out)
  have Mb' := Lib.hid (hk _ _ Mb.out)
  have Mc' := Lib.hid (hk _ _ Mc.out)
  have T1' := Lib.hid (hk _ _ T1.out)
  have T2' := Lib.hid (hk _ _ T2.out)
  have T3' := Lib.hid (hk _ _ T3.out)
  have T4' := Lib.hid (hk _ _ T4.out)
  have T5' := Lib.hid (hk _ _ T5.out)
  have HB' := Lib.hid hb; have T0' := Lib.hid hm
  clear h91 h92 hb hk hm HB Ma Mb Mc T1 T2 T3 T4 T5 T6
  have Ma := Ma'; clear Ma'; have Mb := Mb'; clear Mb'; have Mc := Mc'; clear Mc'
  have T6 := T5'; have T5 := T4'; have T4 := T3'; have T3 := T2'; have T2 := T1'; have T1 := T0'; have HB := HB'; clear T0' T1' T2' T3' T4' T5' HB'
  have h91 := cell_of_one HB.out.c.cs; have h92 := cell_of_one HB.out.c.cd
  try dsimp only
  refine hK.out _ _ ⟨h91, h92⟩ ?_
  clear hK K
  try simp only [Act.put, List.setIfInBounds_toArray, List.set_cons_zero, List.set_cons_succ]
  refine sched_sole (o := { dst := some 157, op := Op.call { callee := Callee.value (Operand.tmp 150), args := #[Operand.tmp 156, Operand.const (Value.int IntKind.i64 0)], argTypes := #[3, 3] }, type := 4, pos := "diagrams.go:204", after := #[{ on := 86, ground := Ground.data }, { on := 92, ground := Ground.data }, { on := 92, ground := Ground.chain }, { on := 85, ground := Ground.guard }], guard := some (85, true) }) rfl (fun K hK => ?_)
  go_simp
  with_reducible refine (jThen hV (by assumption) (by assumption) (by assumption) (by first | exact bl1 A B C | exact bl2 A B C | exact bl3 A B C | exact bl4 A B C | exact bl5 A B C | exact bl6 A B C | exact bl7 A B C)).mono ?_
  rintro e w9 ⟨rfl, s9, hb⟩
  clear h91 h92 HB Ma Mb Mc T1 T2 T3 T4 T5 T6
  have HB := Lib.hid hb; clear hb
  have Ma := Lib.hid (KA.out _ HB.out.m); have Mb := Lib.hid (KB.out _ HB.out.m); have Mc := Lib.hid (KC.out _ HB.out.m)
  have T1 := Lib.hid (means_zero s9); have T2 := T1; have T3 := T1; have T4 := T1; have T5 := T1; have T6 := T1
  have h91 := cell_of_one HB.out.c.cs; have h92 := cell_of_one HB.out.c.cd
  try dsimp only
  refine hK.out _ _ ⟨h91, h92⟩ ?_
  clear hK K
  try simp only [Act.put, List.setIfInBounds_toArray, List.set_cons_zero, List.set_cons_succ]
  refine sched_take (o := { dst := some 158, op := Op.pick (Operand.tmp 149) (Operand.tmp 157) (Operand.const (Value.bool false)), type := 4, pos := "diagrams.go:204", after := #[{ on := 85, ground := Ground.data }, { on := 93, ground := Ground.data }], guard := none }) (v := ?_) rfl rfl ?hy ?_
  case hy => (intro w' hSw; (try dsimp only at hSw); go_simp; try with_reducible rfl)
  try simp only [Act.put, List.setIfInBounds_toArray, List.set_cons_zero, List.set_cons_succ]
  refine sched_take (o := { dst := some 159, op := Op.move (Operand.tmp 158), type := 4, pos := "diagrams.go:204", after := #[{ on := 94, ground := Ground.data }, { on := 93, ground := Ground.chain }], guard := none }) (v := ?_) rfl rfl ?hy ?_
  case hy => (intro w' hSw; (try dsimp only at hSw); go_simp; try with_reducible rfl)
  try simp only [Act.put, List.setIfInBounds_toArray, List.set_cons_zero, List.set_cons_succ]
  refine sched_take (o := { dst := some 160, op := Op.move (Operand.tmp 22), type := 65, pos := "diagrams.go:204", after := #[{ on := 95, ground := Ground.guard }], guard := some (95, true) }) (v := ?_) rfl rfl ?hy ?_
  case hy => (intro w' hSw; (try dsimp only at hSw); go_simp; try with_reducible rfl)
  try simp only [Act.put, List.setIfInBounds_toArray, List.set_cons_zero, List.set_cons_succ]
  refine sched_take (o := { dst := some 161, op := Op.load 63 (Operand.tmp 18), type := 63, pos := "diagrams.go:204", after := #[{ on := 95, ground := Ground.guard }], guard := some (95, true) }) (v := ?_) rfl rfl ?hy ?_
  case hy => (intro w' hSw; (try dsimp only at hSw); go_simp; try with_reducible rfl)
  try simp only [Act.put, List.setIfInBounds_toArray, List.set_cons_zero, List.set_cons_succ]
  refine sched_take (o := { dst := some 162, op := Op.load 46 (Operand.tmp 11), type := 46, pos := "diagrams.go:204", after := #[{ on := 95, ground := Ground.guard }], guard := some (95, true) }) (v := ?_) rfl rfl ?hy ?_
  case hy => (intro w' hSw; (try dsimp only at hSw); go_simp; try with_reducible rfl)
  try simp only [Act.put, List.setIfInBounds_toArray, List.set_cons_zero, List.set_cons_succ]
  refine sched_take (o := { dst := some 163, op := Op.move (Operand.tmp 14), type := 3, pos := "diagrams.go:204", after := #[{ on := 95, ground := Ground.guard }], guard := some (95, true) }) (v := ?_) rfl rfl ?hy ?_
  case hy => (intro w' hSw; (try dsimp only at hSw); go_simp; try with_reducible rfl)
  try simp only [Act.put, List.setIfInBounds_toArray, List.set_cons_zero, List.set_cons_succ]
  refine sched_take (o := { dst := some 164, op := Op.move (Operand.tmp 15), type := 3, pos := "diagrams.go:204", after := #[{ on := 95, ground := Ground.guard }], guard := some (95, true) }) (v := ?_) rfl rfl ?hy ?_
  case hy => (intro w' hSw; (try dsimp only at hSw); go_simp; try with_reducible rfl)
  try simp only [Act.put, List.setIfInBounds_toArray, List.set_cons_zero, List.set_cons_succ]
  refine sched_take (o := { dst := some 165, op := Op.move (Operand.tmp 16), type := 3, pos := "diagrams.go:204", after := #[{ on := 95, ground := Ground.guard }], guard := some (95, true) }) (v := ?_) rfl rfl ?hy ?_
  case hy => (intro w' hSw; (try dsimp only at hSw); go_simp; try with_reducible rfl)
  try simp only [Act.put, List.setIfInBounds_toArray, List.set_cons_zero, List.set_cons_succ]
  refine sched_take (o := { dst := some 171, op := Op.move (Operand.tmp 19), type := 30, pos := "diagrams.go:204", after := #[{ on := 95, ground := Ground.guard }], guard := some (95, true) }) (v := ?_) rfl rfl ?hy ?_
  case hy => (intro w' hSw; (try dsimp only at hSw); go_simp; try with_reducible rfl)
  try simp only [Act.put, List.setIfInBounds_toArray, List.set_cons_zero, List.set_cons_succ]
  refine sched_take (o := { dst := some 172, op := Op.move (Operand.tmp 14), type := 3, pos := "diagrams.go:204", after := #[{ on := 95, ground := Ground.guard }], guard := some (95, true) }) (v := ?_) rfl rfl ?hy ?_
  case hy => (intro w' hSw; (try dsimp only at hSw); go_simp; try with_reducible rfl)
  try simp only [Act.put, List.setIfInBounds_toArray, List.set_cons_zero, List.set_cons_succ]
  refine sched_take (o := { dst := some 173, op := Op.move (Operand.tmp 19), type := 30, pos := "diagrams.go:204", after := #[{ on := 95, ground := Ground.guard }], guard := some (95, true) }) (v := ?_) rfl rfl ?hy ?_
  case hy => (intro w' hSw; (try dsimp only at hSw); go_simp; try with_reducible rfl)
  try simp only [Act.put, List.setIfInBounds_toArray, List.set_cons_zero, List.set_cons_succ]
  refine sched_take (o := { dst := some 174, op := Op.move (Operand.tmp 15), type := 3, pos := "diagrams.go:204", after := #[{ on := 95, ground := Ground.guard }], guard := some (95, true) }) (v := ?_) rfl rfl ?hy ?_
  case hy => (intro w' hSw; (try dsimp only at hSw); go_simp; try with_reducible rfl)
  try simp only [Act.put, List.setIfInBounds_toArray, List.set_cons_zero, List.set_cons_succ]
  refine sched_take (o := { dst := some 175, op := Op.move (Operand.tmp 16), type := 3, pos := "diagrams.go:204", after := #[{ on := 95, ground := Ground.guard }], guard := some (95, true) }) (v := ?_) rfl rfl ?hy ?_
  case hy => (intro w' hSw; (try dsimp only at hSw); go_simp; try with_reducible rfl)
  try simp only [Act.put, List.setIfInBounds_toArray, List.set_cons_zero, List.set_cons_succ]
  refine sched_sole (o := { dst := some 166, op := Op.buildSlice 22 3 #[(0, Operand.tmp 163), (1, Operand.tmp 164), (2, Operand.tmp 165)], type := 22, pos := "diagrams.go:204", after := #[{ on := 99, ground := Ground.data }, { on := 100, ground := Ground.data }, { on := 101, ground := Ground.data }, { on := 95, ground := Ground.guard }], guard := some (95, true) }) rfl (fun K hK => ?_)
  go_simp
  have HB' := Lib.hid (HB.out.alloc (.cells #[.int .i64 a, .int .i64 b, .int .i64 c] 3))
  have HINT := Lib.hid (ints3 _ a b c HB.out.f.sp)
  clear h91 h92 HB
  have HB := HB'; clear HB'
  have h91 := cell_of_one HB.out.c.cs; have h92 := cell_of_one HB.out.c.cd
  refine hK.out _ _ ⟨h91, h92⟩ ?_
  clear hK K
  try simp only [Act.put, List.setIfInBounds_toArray, List.set_cons_zero, List.set_cons_succ]
  refine sched_sole (o := { dst := some 167, op := Op.call { callee := Callee.value (Operand.func 41), args := #[Operand.tmp 162, Operand.tmp 166], argTypes := #[46, 22] }, type := 33, pos := "diagrams.go:204", after := #[{ on := 98, ground := Ground.data }, { on := 102, ground := Ground.data }, { on := 95, ground := Ground.chain }, { on := 95, ground := Ground.guard }], guard := some (95, true) }) rfl (fun K hK => ?_)
  go_simp
  with_reducible refine (kAll hV HB.out (by decide) Ma.out Mb.out Mc.out HINT.out).mono ?_
  clear HINT
  rintro e w9 ⟨s9, x9, rfl, hb, hk, hm⟩
  have Ma' := Lib.hid (hk _ _ Ma.out)
  have Mb' := Lib.hid (hk _ _ Mb.out)
  have Mc' := Lib.hid (hk _ _ Mc.out)
  have T1' := Lib.hid (hk _ _ T1.out)
  have T2' := Lib.hid (hk _ _ T2.out)
  have T3' := Lib.hid (hk _ _ T3.out)
  have T4' := Lib.hid (hk _ _ T4.out)
  have T5' := Lib.hid (hk _ _ T5.out)
  have HB' := Lib.hid hb; have T0' := Lib.hid hm
  clear h91 h92 hb hk hm HB Ma Mb Mc T1 T2 T3 T4 T5 T6
  have Ma := Ma'; clear Ma'; have Mb := Mb'; clear Mb'; have Mc := Mc'; clear Mc'
  have T6 := T5'; have T5 := T4'; have T4 := T3'; have T3 := T2'; have T2 := T1'; have T1 := T0'; have HB := HB'; clear T0' T1' T2' T3' T4' T5' HB'
  have h91 := cell_of_one HB.out.c.cs; have h92 := cell_of_one HB.out.c.cd
  try dsimp only
  refine hK.out _ _ ⟨h91, h92⟩ ?_
  clear hK K
  try simp only [Act.put, List.setIfInBounds_toArray, List.set_cons_zero, List.set_cons_succ]
  refine sched_take (o := { dst := some 168, op := Op.extract (Operand.tmp 167) 0, type := 3, pos := "diagrams.go:204", after := #[{ on := 103, ground := Ground.data }, { on := 95, ground := Ground.guard }], guard := some (95, true) }) (v := ?_) rfl rfl ?hy ?_
  case hy => (intro w' hSw; (try dsimp only at hSw); go_simp; try with_reducible rfl)
  try simp only [Act.put, List.setIfInBounds_toArray, List.set_cons_zero, List.set_cons_succ]
  refine sched_take (o := { dst := some 169, op := Op.extract (Operand.tmp 167) 1, type := 25, pos := "diagrams.go:204", after := #[{ on := 103, ground := Ground.data }, { on := 95, ground := Ground.guard }], guard := some (95, true) }) (v := ?_) rfl rfl ?hy ?_
  case hy => (intro w' hSw; (try dsimp only at hSw); go_simp; try with_reducible rfl)
  try simp only [Act.put, List.setIfInBounds_toArray, List.set_cons_zero, List.set_cons_succ]
  refine sched_sole (o := { dst := some 170, op := Op.call { callee := Callee.value (Operand.tmp 161), args := #[Operand.tmp 168, Operand.tmp 169], argTypes := #[3, 25] }, type := 3, pos := "diagrams.go:204", after := #[{ on := 97, ground := Ground.data }, { on := 104, ground := Ground.data }, { on := 105, ground := Ground.data }, { on := 103, ground := Ground.chain }, { on := 95, ground := Ground.guard }], guard := some (95, true) }) rfl (fun K hK => ?_)
  go_simp
  with_reducible refine (do_any _ _ _ HB.out.c.cb).mono ?_
  rintro e w10 ⟨rfl, rfl⟩
  try dsimp only
  refine hK.out _ _ ⟨h91, h92⟩ ?_
  clear hK K
  try simp only [Act.put, List.setIfInBounds_toArray, List.set_cons_zero, List.set_cons_succ]
  refine sched_sole (o := { dst := some 176, op := Op.call { callee := Callee.value (Operand.tmp 173), args := #[Operand.tmp 174, Operand.tmp 175], argTypes := #[3, 3] }, type := 3, pos := "diagrams.go:204", after := #[{ on := 109, ground := Ground.data }, { on := 110, ground := Ground.data }, { on := 111, ground := Ground.data }, { on := 106, ground := Ground.chain }, { on := 95, ground := Ground.guard }], guard := some (95, true) }) rfl (fun K hK => ?_)
  go_simp
  with_reducible refine (jAnd hV (by assumption) (by decide) (by assumption) (by assumption)).mono ?_
  rintro e w9 ⟨s9, x9, rfl, hb, hk, hm⟩
  have Ma' := Lib.hid (hk _ _ Ma.out)
  have Mb' := Lib.hid (hk _ _ Mb.out)
  have Mc' := Lib.hid (hk _ _ Mc.out)
  have T1' := Lib.hid (hk _ _ T1.out)
  have T2' := Lib.hid (hk _ _ T2.out)
  have T3' := Lib.hid (hk _ _ T3.out)
  have T4' := Lib.hid (hk _ _ T4.out)
  have T5' := Lib.hid (hk _ _ T5.out)
  have HB' := Lib.hid hb; have T0' := Lib.hid hm
  clear h91 h92 hb hk hm HB Ma Mb Mc T1 T2 T3 T4 T5 T6
  have Ma := Ma'; clear Ma'; have Mb := Mb'; clear Mb'; have Mc := Mc'; clear Mc'
  have T6 := T5'; have T5 := T4'; have T4 := T3'; have T3 := T2'; have T2 := T1'; have T1 := T0'; have HB := HB'; clear T0' T1' T2' T3' T4' T5' HB'
  have h91 := cell_of_one HB.out.c.cs; have h92 := cell_of_one HB.out.c.cd
  try dsimp only
  refine hK.out _ _ ⟨h91, h92⟩ ?_
  clear hK K
  try simp only [Act.put, List.setIfInBounds_toArray, List.set_cons_zero, List.set_cons_succ]
  refine sched_sole (o := { dst := some 177, op := Op.call { callee := Callee.value (Operand.tmp 171), args := #[Operand.tmp 172, Operand.tmp 176], argTypes := #[3, 3] }, type := 3, pos := "diagrams.go:204", after := #[{ on := 107, ground := Ground.data }, { on := 108, ground := Ground.data }, { on := 112, ground := Ground.data }, { on := 112, ground := Ground.chain }, { on := 95, ground := Ground.guard }], guard := some (95, true) }) rfl (fun K hK => ?_)
  go_simp
  with_reducible refine (jAnd hV (by assumption) (by decide) (by assumption) (by assumption)).mono ?_
  rintro e w9 ⟨s9, x9, rfl, hb, hk, hm⟩
  have Ma' := Lib.hid (hk _ _ Ma.out)
  have Mb' := Lib.hid (hk _ _ Mb.out)
  have Mc' := Lib.hid (hk _ _ Mc.out)
  have T1' := Lib.hid (hk _ _ T1.out)
  have T2' := Lib.hid (hk _ _ T2.out)
  have T3' := Lib.hid (hk _ _ T3.out)
  have T4' := Lib.hid (hk _ _ T4.out)
  have T5' := Lib.hid (hk _ _ T5.out)
  have HB' := Lib.hid hb; have T0' := Lib.hid hm
  clear h91 h92 hb hk hm HB Ma Mb Mc T1 T2 T3 T4 T5 T6
  have Ma := Ma'; clear Ma'; have Mb := Mb'; clear Mb'; have Mc := Mc'; clear Mc'
  have T6 := T5'; have T5 := T4'; have T4 := T3'; have T3 := T2'; have T2 := T1'; have T1 := T0'; have HB := HB'; clear T0' T1' T2' T3' T4' T5' HB'
  have h91 := cell_of_one HB.out.c.cs; have h92 := cell_of_one HB.out.c.cd
  try dsimp only
  refine hK.out _ _ ⟨h91, h92⟩ ?_
  clear hK K
  try simp only [Act.put, List.setIfInBounds_toArray, List.set_cons_zero, List.set_cons_succ]
  refine sched_sole (o := { dst := some 178, op := Op.call { callee := Callee.value (Operand.tmp 160), args := #[Operand.tmp 170, Operand.tmp 177], argTypes := #[3, 3] }, type := 4, pos := "diagrams.go:204", after := #[{ on := 96, ground := Ground.data }, { on := 106, ground := Ground.data }, { on := 113, ground := Ground.data }, { on := 113, ground := Ground.chain }, { on := 95, ground := Ground.guard }], guard := some (95, true) }) rfl (fun K hK => ?_)
  go_simp
  with_reducible refine (jThen hV (by assumption) (by assumption) (by assumption) (by first | exact bl1 A B C | exact bl2 A B C | exact bl3 A B C | exact bl4 A B C | exact bl5 A B C | exact bl6 A B C | exact bl7 A B C)).mono ?_
  rintro e w9 ⟨rfl, s9, hb⟩
  clear h91 h92 HB Ma Mb Mc T1 T2 T3 T4 T5 T6
  have HB := Lib.hid hb; clear hb
  have Ma := Lib.hid (KA.out _ HB.out.m); have Mb := Lib.hid (KB.out _ HB.out.m); have Mc := Lib.hid (KC.out _ HB.out.m)
  have T1 := Lib.hid (means_zero s9); have T2 := T1; have T3 := T1; have T4 := T1; have T5 := T1; have T6 := T1
  have h91 := cell_of_one HB.out.c.cs; have h92 := cell_of_one HB.out.c.cd
  try dsimp only
  refine hK.out _ _ ⟨h91, h92⟩ ?_
  clear hK K
  try simp only [Act.put, List.setIfInBounds_toArray, List.set_cons_zero, List.set_cons_succ]
  refine sched_take (o := { dst := some 179, op := Op.pick (Operand.tmp 159) (Operand.tmp 178) (Operand.const (Value.bool false)), type := 4, pos := "diagrams.go:204", after := #[{ on := 95, ground := Ground.data }, { on := 114, ground := Ground.data }], guard := none }) (v := ?_) rfl rfl ?hy ?_
  case hy => (intro w' hSw; (try dsimp only at hSw); go_simp; try with_reducible rfl)
  try simp only [Act.put, List.setIfInBounds_toArray, List.set_cons_zero, List.set_cons_succ]
  refine sched_take (o := { dst := some 10, op := Op.assign (Operand.tmp 179), type := 4, pos := "diagrams.go:204", after := ([{ on := 115, ground := Ground.data }, { on := 114, ground := Ground.chain }, { on := 0, ground := Ground.phase }, { on := 1, ground := Ground.phase }, { on := 2, ground := Ground.phase }, { on := 3, ground := Ground.phase }, { on := 4, ground := Ground.phase }, { on := 5, ground := Ground.phase }, { on := 6, ground := Ground.phase }, { on := 7, ground := Ground.phase }, { on := 8, ground := Ground.phase }, { on := 9, ground := Ground.phase }, { on := 10, ground := Ground.phase }, { on := 11, ground := Ground.phase }, { on := 12, ground := Ground.phase }, { on := 13, ground := Ground.phase }, { on := 14, ground := Ground.phase }, { on := 15, ground := Ground.phase }, { on := 16, ground := Ground.phase }, { on := 17, ground := Ground.phase }, { on := 18, ground := Ground.phase }, { on := 19, ground := Ground.phase }, { on := 20, ground := Ground.phase }, { on := 21, ground := Ground.phase }, { on := 22, ground := Ground.phase }, { on := 23, ground := Ground.phase }, { on := 24, ground := Ground.phase }, { on := 25, ground := Ground.phase }, { on := 26, ground := Ground.phase }, { on := 27, ground := Ground.phase }, { on := 28, ground := Ground.phase }, { on := 29, ground := Ground.phase }, { on := 30, ground := Ground.phase }, { on := 31, ground := Ground.phase }, { on := 32, ground := Ground.phase }, { on := 33, ground := Ground.phase }, { on := 34, ground := Ground.phase }, { on := 35, ground := Ground.phase }, { on := 36, ground := Ground.phase }, { on := 37, ground := Ground.phase }, { on := 38, ground := Ground.phase }, { on := 39, ground := Ground.phase }, { on := 40, ground := Ground.phase }, { on := 41, ground := Ground.phase }, { on := 42, ground := Ground.phase }, { on := 43, ground := Ground.phase }, { on := 44, ground := Ground.phase }, { on := 45, ground := Ground.phase }, { on := 46, ground := Ground.phase }, { on := 47, ground := Ground.phase }, { on := 48, ground := Ground.phase }, { on := 49, ground := Ground.phase }, { on := 50, ground := Ground.phase }, { on := 51, ground := Ground.phase }, { on := 52, ground := Ground.phase }, { on := 53, ground := Ground.phase }, { on := 54, ground := Ground.phase }, { on := 55, ground := Ground.phase }, { on := 56, ground := Ground.phase }].append [{ on := 57, ground := Ground.phase }, { on := 58, ground := Ground.phase }, { on := 59, ground := Ground.phase }, { on := 60, ground := Ground.phase }, { on := 61, ground := Ground.phase }, { on := 62, ground := Ground.phase }, { on := 63, ground := Ground.phase }, { on := 64, ground := Ground.phase }, { on := 65, ground := Ground.phase }, { on := 66, ground := Ground.phase }, { on := 67, ground := Ground.phase }, { on := 68, ground := Ground.phase }, { on := 69, ground := Ground.phase }, { on := 70, ground := Ground.phase }, { on := 71, ground := Ground.phase }, { on := 72, ground := Ground.phase }, { on := 73, ground := Ground.phase }, { on := 74, ground := Ground.phase }, { on := 75, ground := Ground.phase }, { on := 76, ground := Ground.phase }, { on := 77, ground := Ground.phase }, { on := 78, ground := Ground.phase }, { on := 79, ground := Ground.phase }, { on := 80, ground := Ground.phase }, { on := 81, ground := Ground.phase }, { on := 82, ground := Ground.phase }, { on := 83, ground := Ground.phase }, { on := 84, ground := Ground.phase }, { on := 85, ground := Ground.phase }, { on := 86, ground := Ground.phase }, { on := 87, ground := Ground.phase }, { on := 88, ground := Ground.phase }, { on := 89, ground := Ground.phase }, { on := 90, ground := Ground.phase }, { on := 91, ground := Ground.phase }, { on := 92, ground := Ground.phase }, { on := 93, ground := Ground.phase }, { on := 94, ground := Ground.phase }, { on := 95, ground := Ground.phase }, { on := 96, ground := Ground.phase }, { on := 97, ground := Ground.phase }, { on := 98, ground := Ground.phase }, { on := 99, ground := Ground.phase }, { on := 100, ground := Ground.phase }, { on := 101, ground := Ground.phase }, { on := 102, ground := Ground.phase }, { on := 103, ground := Ground.phase }, { on := 104, ground := Ground.phase }, { on := 105, ground := Ground.phase }, { on := 106, ground := Ground.phase }, { on := 107, ground := Ground.phase }, { on := 108, ground := Ground.phase }, { on := 109, ground := Ground.phase }, { on := 110, ground := Ground.phase }, { on := 111, ground := Ground.phase }, { on := 112, ground := Ground.phase }, { on := 113, ground := Ground.phase }, { on := 114, ground := Ground.phase }, { on := 115, ground := Ground.phase }]).toArray, guard := none }) (v := ?_) rfl rfl ?hy ?_
  case hy => (intro w' hSw; (try dsimp only at hSw); go_simp; try with_reducible rfl)
  try simp only [Act.put, List.setIfInBounds_toArray, List.set_cons_zero, List.set_cons_succ]
  refine sched_done ?_
  go_wp2_with fail
  go_ret
  exact ⟨rfl, Hb1.out.trans (HB.out.f.only.below Hb1.out.size Hm.out)⟩
end Go.Proofs.Ytmlnfbageoabnaa
