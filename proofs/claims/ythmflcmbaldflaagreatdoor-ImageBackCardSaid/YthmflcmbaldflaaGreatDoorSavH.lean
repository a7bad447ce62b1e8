/- Save's head: the drawn region, by facts. (Printed by gen_savr.py.) -/
import Derived.Test.YthmflcmbaldflaaGreatDoorSavC
namespace Go.Proofs.YthmflcmbaldflaaGreatDoor
open Go.RowKit
set_option linter.unusedVariables false

noncomputable def headOps : Array Oper := (Tryz.f7.body.bind (findR 8)).getD #[]
theorem headP0 : ∃ o, headOps[0]? = some o ∧ o.op = .load 23 (.tmp 2) ∧ o.dst = some 29 ∧ o.guard = none ∧ depsB o [] = true := opf (x := (.load 23 (.tmp 2), some 29, none)) (by kernel_rfl)
theorem headP1 : ∃ o, headOps[1]? = some o ∧ o.op = .call { callee := .value (.func 10), args := #[.tmp 29], argTypes := #[23] } ∧ o.dst = some 30 ∧ o.guard = none ∧ depsB o [0] = true := opf (x := (.call { callee := .value (.func 10), args := #[.tmp 29], argTypes := #[23] }, some 30, none)) (by kernel_rfl)
theorem headP2 : ∃ o, headOps[2]? = some o ∧ o.op = .call { callee := .value (.func 23), args := #[.tmp 30], argTypes := #[3] } ∧ o.dst = some 31 ∧ o.guard = none ∧ depsB o [1] = true := opf (x := (.call { callee := .value (.func 23), args := #[.tmp 30], argTypes := #[3] }, some 31, none)) (by kernel_rfl)
theorem headP3 : ∃ o, headOps[3]? = some o ∧ o.op = .binOp .add 9 (.const (.string ⟨#[115, 112, 97, 99, 101, 32]⟩)) (.tmp 31) 9 ∧ o.dst = some 32 ∧ o.guard = none ∧ depsB o [2] = true := opf (x := (.binOp .add 9 (.const (.string ⟨#[115, 112, 97, 99, 101, 32]⟩)) (.tmp 31) 9, some 32, none)) (by kernel_rfl)
theorem headP4 : ∃ o, headOps[4]? = some o ∧ o.op = .binOp .add 9 (.tmp 32) (.const (.string ⟨#[32]⟩)) 9 ∧ o.dst = some 33 ∧ o.guard = none ∧ depsB o [3] = true := opf (x := (.binOp .add 9 (.tmp 32) (.const (.string ⟨#[32]⟩)) 9, some 33, none)) (by kernel_rfl)
theorem headP5 : ∃ o, headOps[5]? = some o ∧ o.op = .load 60 (.tmp 6) ∧ o.dst = some 34 ∧ o.guard = none ∧ depsB o [] = true := opf (x := (.load 60 (.tmp 6), some 34, none)) (by kernel_rfl)
theorem headP6 : ∃ o, headOps[6]? = some o ∧ o.op = .call { callee := .builtin .len, args := #[.tmp 34], argTypes := #[60] } ∧ o.dst = some 35 ∧ o.guard = none ∧ depsB o [5] = true := opf (x := (.call { callee := .builtin .len, args := #[.tmp 34], argTypes := #[60] }, some 35, none)) (by kernel_rfl)
theorem headP7 : ∃ o, headOps[7]? = some o ∧ o.op = .binOp .sub 3 (.tmp 35) (.const (.int .i64 2)) 3 ∧ o.dst = some 36 ∧ o.guard = none ∧ depsB o [6] = true := opf (x := (.binOp .sub 3 (.tmp 35) (.const (.int .i64 2)) 3, some 36, none)) (by kernel_rfl)
theorem headP8 : ∃ o, headOps[8]? = some o ∧ o.op = .call { callee := .value (.func 23), args := #[.tmp 36], argTypes := #[3] } ∧ o.dst = some 37 ∧ o.guard = none ∧ depsB o [7] = true := opf (x := (.call { callee := .value (.func 23), args := #[.tmp 36], argTypes := #[3] }, some 37, none)) (by kernel_rfl)
theorem headP9 : ∃ o, headOps[9]? = some o ∧ o.op = .binOp .add 9 (.tmp 33) (.tmp 37) 9 ∧ o.dst = some 38 ∧ o.guard = none ∧ depsB o [4, 8] = true := opf (x := (.binOp .add 9 (.tmp 33) (.tmp 37) 9, some 38, none)) (by kernel_rfl)
theorem headP10 : ∃ o, headOps[10]? = some o ∧ o.op = .binOp .add 9 (.tmp 38) (.const (.string ⟨#[32]⟩)) 9 ∧ o.dst = some 39 ∧ o.guard = none ∧ depsB o [9] = true := opf (x := (.binOp .add 9 (.tmp 38) (.const (.string ⟨#[32]⟩)) 9, some 39, none)) (by kernel_rfl)
theorem headP11 : ∃ o, headOps[11]? = some o ∧ o.op = .load 60 (.tmp 6) ∧ o.dst = some 40 ∧ o.guard = none ∧ depsB o [] = true := opf (x := (.load 60 (.tmp 6), some 40, none)) (by kernel_rfl)
theorem headP12 : ∃ o, headOps[12]? = some o ∧ o.op = .move (.tmp 1) ∧ o.dst = some 41 ∧ o.guard = none ∧ depsB o [] = true := opf (x := (.move (.tmp 1), some 41, none)) (by kernel_rfl)
theorem headP13 : ∃ o, headOps[13]? = some o ∧ o.op = .lookup 60 (.tmp 40) (.tmp 41) false ∧ o.dst = some 42 ∧ o.guard = none ∧ depsB o [11, 12] = true := opf (x := (.lookup 60 (.tmp 40) (.tmp 41) false, some 42, none)) (by kernel_rfl)
theorem headP14 : ∃ o, headOps[14]? = some o ∧ o.op = .call { callee := .value (.func 23), args := #[.tmp 42], argTypes := #[3] } ∧ o.dst = some 43 ∧ o.guard = none ∧ depsB o [13] = true := opf (x := (.call { callee := .value (.func 23), args := #[.tmp 42], argTypes := #[3] }, some 43, none)) (by kernel_rfl)
theorem headP15 : ∃ o, headOps[15]? = some o ∧ o.op = .binOp .add 9 (.tmp 39) (.tmp 43) 9 ∧ o.dst = some 44 ∧ o.guard = none ∧ depsB o [10, 14] = true := opf (x := (.binOp .add 9 (.tmp 39) (.tmp 43) 9, some 44, none)) (by kernel_rfl)
theorem headP16 : ∃ o, headOps[16]? = some o ∧ o.op = .binOp .add 9 (.tmp 44) (.const (.string ⟨#[10]⟩)) 9 ∧ o.dst = some 45 ∧ o.guard = none ∧ depsB o [15] = true := opf (x := (.binOp .add 9 (.tmp 44) (.const (.string ⟨#[10]⟩)) 9, some 45, none)) (by kernel_rfl)
theorem headP17 : ∃ o, headOps[17]? = some o ∧ o.op = .assign (.tmp 45) ∧ o.dst = some 9 ∧ o.guard = none ∧ depsB o [16] = true := opf (x := (.assign (.tmp 45), some 9, none)) (by kernel_rfl)
theorem head_size : headOps.size = 18 := by kernel_rfl
theorem head_nv {l : Array Bool} (hs : l.size = headOps.size) : l.getD 1000 false = false := by
  rw [Array.getD_eq_getD_getElem?, Array.getElem?_eq_none (by rw [hs, head_size]; decide)]; rfl
theorem head_lat : laterB headOps = true := by kernel_rfl
theorem head_dstL : dstsL headOps = [29, 30, 31, 32, 33, 34, 35, 36, 37, 38, 39, 40, 41, 42, 43, 44, 45, 9] := by kernel_rfl
section
variable {Q : Exit → Act → World → Prop} {a0 : Act} {sb nb ps mb V : Nat} {h : Int} {ks : List Int} {W5 : World} {o : Oper}
/-- What the operations yield. -/
def headV (ps mb V : Nat) (h : Int) (ks : List Int) (i : Nat) : Value := match i with
  | 0 => .pointer (some ⟨ps, 0, none⟩)
  | 1 => .int .i64 (V : Int)
  | 2 => .string (bytB (dec V))
  | 3 => .string (bytB ([115, 112, 97, 99, 101, 32] ++ dec V))
  | 4 => .string (bytB (([115, 112, 97, 99, 101, 32] ++ dec V) ++ [32]))
  | 5 => .map (some mb)
  | 6 => .int .i64 (ks.length : Int)
  | 7 => .int .i64 ((ks.length - 2 : Nat) : Int)
  | 8 => .string (bytB (dec (ks.length - 2)))
  | 9 => .string (bytB ((([115, 112, 97, 99, 101, 32] ++ dec V) ++ [32]) ++ dec (ks.length - 2)))
  | 10 => .string (bytB (((([115, 112, 97, 99, 101, 32] ++ dec V) ++ [32]) ++ dec (ks.length - 2)) ++ [32]))
  | 11 => .map (some mb)
  | 12 => .int .i64 h
  | 13 => .int .i64 (numM ks h : Int)
  | 14 => .string (bytB (dec (numM ks h)))
  | 15 => .string (bytB ((((([115, 112, 97, 99, 101, 32] ++ dec V) ++ [32]) ++ dec (ks.length - 2)) ++ [32]) ++ dec (numM ks h)))
  | 16 => .string (bytB (((((([115, 112, 97, 99, 101, 32] ++ dec V) ++ [32]) ++ dec (ks.length - 2)) ++ [32]) ++ dec (numM ks h)) ++ [10]))
  | 17 => .string (bytB (((((([115, 112, 97, 99, 101, 32] ++ dec V) ++ [32]) ++ dec (ks.length - 2)) ++ [32]) ++ dec (numM ks h)) ++ [10]))
  | _ => undef
set_option maxHeartbeats 1000000 in
theorem headS0 (h2 : a0.tmps[2]? = some (.pointer (some ⟨sb, 0, none⟩))) (hc : ∀ W, Below W5.heap.size W5 W → W.cell? ⟨sb, 0, none⟩ = some (.pointer (some ⟨ps, 0, none⟩))) (ho : headOps[0]? = some o) : StepF Tryz.prog headOps Q a0 (fun _ => 1000) (fun _ W => Below W5.heap.size W5 W) (fun _ i v _ => i = 1000 ∨ v = headV ps mb V h ks i) 0 o := by
  obtain ⟨o', ho', hop, hdst, hg, hdep⟩ := headP0
  obtain rfl : o = o' := Option.some.inj (ho.symm.trans ho')
  intro l a w F hs h0 ha K hK
  have hd := depsB_at hdep ha
  have hsi : 0 < l.size := by rw [hs]; exact (Array.getElem?_eq_some_iff.1 ho).1
  have hb := F.base
  have t2 := F.old (d := 2) (by kernel_rfl) h2
  have q := hc w hb
  exact stepF_value hg (v := .pointer (some ⟨ps, 0, none⟩)) (w' := w) (by simp [go_sem, execOp, hop, t2, q]) hK hb (.inr rfl) (fun _ _ _ _ _ _ _ _ _ h => h)
set_option maxHeartbeats 1000000 in
theorem headS1 (hv : ∀ W, Below W5.heap.size W5 W → Calls Tryz.prog 10 #[.pointer (some ⟨ps, 0, none⟩)] W fun e w' => e = .returned (.int .i64 V) ∧ w' = W) (ho : headOps[1]? = some o) : StepF Tryz.prog headOps Q a0 (fun _ => 1000) (fun _ W => Below W5.heap.size W5 W) (fun _ i v _ => i = 1000 ∨ v = headV ps mb V h ks i) 1 o := by
  obtain ⟨o', ho', hop, hdst, hg, hdep⟩ := headP1
  obtain rfl : o = o' := Option.some.inj (ho.symm.trans ho')
  intro l a w F hs h0 ha K hK
  have hd := depsB_at hdep ha
  have hsi : 1 < l.size := by rw [hs]; exact (Array.getElem?_eq_some_iff.1 ho).1
  obtain ⟨o_ls, po_ls, _, pd_ls, _⟩ := headP0
  obtain ⟨v_ls, e_ls, t_ls, g_ls⟩ := F.at_ po_ls pd_ls (hd 0 (by simp)) (head_nv hs)
  obtain rfl : v_ls = .pointer (some ⟨ps, 0, none⟩) := g_ls.resolve_left (by decide)
  have hb := F.base
  have hc := hv w hb
  have hw : Region.wanted o (yielded headOps a.tmps) = true := by unfold Region.wanted; rw [hg]
  rw [if_pos hw]
  have hr : (execOp a.eval o).run Tryz.prog w = .ok (.enter 10 #[.pointer (some ⟨ps, 0, none⟩)]) w := by simp [go_sem, execOp, hop, t_ls]
  unfold Oper.wp
  rw [hr, Oper.upon_enter]
  refine hc.mono ?_
  rintro e w' ⟨rfl, rfl⟩
  exact hK _ w' hb (.inr rfl) (fun _ _ _ _ _ _ _ _ _ h => h)
set_option maxHeartbeats 1000000 in
theorem headS2 (hl : ∀ W, Below W5.heap.size W5 W → LaidR W) (hz : V ≤ 24) (ho : headOps[2]? = some o) : StepF Tryz.prog headOps Q a0 (fun _ => 1000) (fun _ W => Below W5.heap.size W5 W) (fun _ i v _ => i = 1000 ∨ v = headV ps mb V h ks i) 2 o := by
  obtain ⟨o', ho', hop, hdst, hg, hdep⟩ := headP2
  obtain rfl : o = o' := Option.some.inj (ho.symm.trans ho')
  intro l a w F hs h0 ha K hK
  have hd := depsB_at hdep ha
  have hsi : 2 < l.size := by rw [hs]; exact (Array.getElem?_eq_some_iff.1 ho).1
  obtain ⟨o_va, po_va, _, pd_va, _⟩ := headP1
  obtain ⟨v_va, e_va, t_va, g_va⟩ := F.at_ po_va pd_va (hd 1 (by simp)) (head_nv hs)
  obtain rfl : v_va = .int .i64 (V : Int) := g_va.resolve_left (by decide)
  have hb := F.base
  have hc := itoa_any ((V : Int)) w (by omega) (by omega) (hl w hb)
  have hw : Region.wanted o (yielded headOps a.tmps) = true := by unfold Region.wanted; rw [hg]
  rw [if_pos hw]
  have hr : (execOp a.eval o).run Tryz.prog w = .ok (.enter 23 #[.int .i64 ((V : Int))]) w := by simp [go_sem, execOp, hop, t_va]
  unfold Oper.wp
  rw [hr, Oper.upon_enter]
  refine hc.mono ?_
  rintro e w' ⟨rfl, hb'⟩
  rw [show Lib.itoa ((V : Int)) = dec (V) from itoa_dec _]
  exact hK _ w' (hb.trans (hb'.mono hb.size)) (.inr rfl) (fun _ _ _ _ _ _ _ _ _ h => h)
set_option maxHeartbeats 1000000 in
theorem headS3 (hD : (dec V).length ≤ 20 ∧ (dec (ks.length - 2)).length ≤ 20 ∧ (dec (numM ks h)).length ≤ 20) (ho : headOps[3]? = some o) : StepF Tryz.prog headOps Q a0 (fun _ => 1000) (fun _ W => Below W5.heap.size W5 W) (fun _ i v _ => i = 1000 ∨ v = headV ps mb V h ks i) 3 o := by
  obtain ⟨o', ho', hop, hdst, hg, hdep⟩ := headP3
  obtain rfl : o = o' := Option.some.inj (ho.symm.trans ho')
  intro l a w F hs h0 ha K hK
  have hd := depsB_at hdep ha
  have hsi : 3 < l.size := by rw [hs]; exact (Array.getElem?_eq_some_iff.1 ho).1
  obtain ⟨o_i0, po_i0, _, pd_i0, _⟩ := headP2
  obtain ⟨v_i0, e_i0, t_i0, g_i0⟩ := F.at_ po_i0 pd_i0 (hd 2 (by simp)) (head_nv hs)
  obtain rfl : v_i0 = .string (bytB (dec V)) := g_i0.resolve_left (by decide)
  have hb := F.base
  obtain ⟨hD0, hD1, hD2⟩ := hD
  exact stepF_value hg (v := .string (bytB ([115, 112, 97, 99, 101, 32] ++ dec V))) (w' := w) (by exact run_cat hop rfl e_i0 (by simp; omega)) hK hb (.inr rfl) (fun _ _ _ _ _ _ _ _ _ h => h)
set_option maxHeartbeats 1000000 in
theorem headS4 (hD : (dec V).length ≤ 20 ∧ (dec (ks.length - 2)).length ≤ 20 ∧ (dec (numM ks h)).length ≤ 20) (ho : headOps[4]? = some o) : StepF Tryz.prog headOps Q a0 (fun _ => 1000) (fun _ W => Below W5.heap.size W5 W) (fun _ i v _ => i = 1000 ∨ v = headV ps mb V h ks i) 4 o := by
  obtain ⟨o', ho', hop, hdst, hg, hdep⟩ := headP4
  obtain rfl : o = o' := Option.some.inj (ho.symm.trans ho')
  intro l a w F hs h0 ha K hK
  have hd := depsB_at hdep ha
  have hsi : 4 < l.size := by rw [hs]; exact (Array.getElem?_eq_some_iff.1 ho).1
  obtain ⟨o_s0, po_s0, _, pd_s0, _⟩ := headP3
  obtain ⟨v_s0, e_s0, t_s0, g_s0⟩ := F.at_ po_s0 pd_s0 (hd 3 (by simp)) (head_nv hs)
  obtain rfl : v_s0 = .string (bytB ([115, 112, 97, 99, 101, 32] ++ dec V)) := g_s0.resolve_left (by decide)
  have hb := F.base
  obtain ⟨hD0, hD1, hD2⟩ := hD
  exact stepF_value hg (v := .string (bytB (([115, 112, 97, 99, 101, 32] ++ dec V) ++ [32]))) (w' := w) (by exact run_cat hop e_s0 rfl (by simp; omega)) hK hb (.inr rfl) (fun _ _ _ _ _ _ _ _ _ h => h)
set_option maxHeartbeats 1000000 in
theorem headS5 (h6 : a0.tmps[6]? = some (.pointer (some ⟨nb, 0, none⟩))) (hm : ∀ W, Below W5.heap.size W5 W → W.cell? ⟨nb, 0, none⟩ = some (.map (some mb))) (ho : headOps[5]? = some o) : StepF Tryz.prog headOps Q a0 (fun _ => 1000) (fun _ W => Below W5.heap.size W5 W) (fun _ i v _ => i = 1000 ∨ v = headV ps mb V h ks i) 5 o := by
  obtain ⟨o', ho', hop, hdst, hg, hdep⟩ := headP5
  obtain rfl : o = o' := Option.some.inj (ho.symm.trans ho')
  intro l a w F hs h0 ha K hK
  have hd := depsB_at hdep ha
  have hsi : 5 < l.size := by rw [hs]; exact (Array.getElem?_eq_some_iff.1 ho).1
  have hb := F.base
  have t6 := F.old (d := 6) (by kernel_rfl) h6
  have q := hm w hb
  exact stepF_value hg (v := .map (some mb)) (w' := w) (by simp [go_sem, execOp, hop, t6, q]) hK hb (.inr rfl) (fun _ _ _ _ _ _ _ _ _ h => h)
set_option maxHeartbeats 1000000 in
theorem headS6 (hn : ∀ W, Below W5.heap.size W5 W → NumOf W mb ks) (ho : headOps[6]? = some o) : StepF Tryz.prog headOps Q a0 (fun _ => 1000) (fun _ W => Below W5.heap.size W5 W) (fun _ i v _ => i = 1000 ∨ v = headV ps mb V h ks i) 6 o := by
  obtain ⟨o', ho', hop, hdst, hg, hdep⟩ := headP6
  obtain rfl : o = o' := Option.some.inj (ho.symm.trans ho')
  intro l a w F hs h0 ha K hK
  have hd := depsB_at hdep ha
  have hsi : 6 < l.size := by rw [hs]; exact (Array.getElem?_eq_some_iff.1 ho).1
  obtain ⟨o_m1, po_m1, _, pd_m1, _⟩ := headP5
  obtain ⟨v_m1, e_m1, t_m1, g_m1⟩ := F.at_ po_m1 pd_m1 (hd 5 (by simp)) (head_nv hs)
  obtain rfl : v_m1 = .map (some mb) := g_m1.resolve_left (by decide)
  have hb := F.base
  obtain ⟨mq, ⟨es, clock, g1, g2, _⟩, hml, _⟩ := hn w hb
  have hsz : es.size = ks.length := by rw [← hml]; simpa using congrArg List.length g2
  have hr : (Builtin.len_ #[60] o.type #[.map (some mb)]).run Tryz.prog w = .ok (.int .i64 (ks.length : Int)) w := by
    simp [Builtin.len_, Sem.run_bind, run_underlying Tryz.underlying60, run_getObjM g1, goInt, hsz]
  exact stepF_value hg (v := .int .i64 (ks.length : Int)) (w' := w) (by simp [go_sem, execOp, hop, t_m1, hr]) hK hb (.inr rfl) (fun _ _ _ _ _ _ _ _ _ h => h)
set_option maxHeartbeats 1000000 in
theorem headS7 (hz2 : 2 ≤ ks.length ∧ ks.length ≤ 5000) (ho : headOps[7]? = some o) : StepF Tryz.prog headOps Q a0 (fun _ => 1000) (fun _ W => Below W5.heap.size W5 W) (fun _ i v _ => i = 1000 ∨ v = headV ps mb V h ks i) 7 o := by
  obtain ⟨o', ho', hop, hdst, hg, hdep⟩ := headP7
  obtain rfl : o = o' := Option.some.inj (ho.symm.trans ho')
  intro l a w F hs h0 ha K hK
  have hd := depsB_at hdep ha
  have hsi : 7 < l.size := by rw [hs]; exact (Array.getElem?_eq_some_iff.1 ho).1
  obtain ⟨o_ln, po_ln, _, pd_ln, _⟩ := headP6
  obtain ⟨v_ln, e_ln, t_ln, g_ln⟩ := F.at_ po_ln pd_ln (hd 6 (by simp)) (head_nv hs)
  obtain rfl : v_ln = .int .i64 (ks.length : Int) := g_ln.resolve_left (by decide)
  have hb := F.base
  have hwr : IntKind.i64.wrap ((ks.length : Int) - 2) = ((ks.length - 2 : Nat) : Int) := by simp only [IntKind.wrap_i64]; omega
  exact stepF_value hg (v := .int .i64 ((ks.length - 2 : Nat) : Int)) (w' := w) (by simp [go_sem, execOp, hop, t_ln, hwr]) hK hb (.inr rfl) (fun _ _ _ _ _ _ _ _ _ h => h)
set_option maxHeartbeats 1000000 in
theorem headS8 (hl : ∀ W, Below W5.heap.size W5 W → LaidR W) (hz2 : 2 ≤ ks.length ∧ ks.length ≤ 5000) (ho : headOps[8]? = some o) : StepF Tryz.prog headOps Q a0 (fun _ => 1000) (fun _ W => Below W5.heap.size W5 W) (fun _ i v _ => i = 1000 ∨ v = headV ps mb V h ks i) 8 o := by
  obtain ⟨o', ho', hop, hdst, hg, hdep⟩ := headP8
  obtain rfl : o = o' := Option.some.inj (ho.symm.trans ho')
  intro l a w F hs h0 ha K hK
  have hd := depsB_at hdep ha
  have hsi : 8 < l.size := by rw [hs]; exact (Array.getElem?_eq_some_iff.1 ho).1
  obtain ⟨o_sb, po_sb, _, pd_sb, _⟩ := headP7
  obtain ⟨v_sb, e_sb, t_sb, g_sb⟩ := F.at_ po_sb pd_sb (hd 7 (by simp)) (head_nv hs)
  obtain rfl : v_sb = .int .i64 ((ks.length - 2 : Nat) : Int) := g_sb.resolve_left (by decide)
  have hb := F.base
  have hc := itoa_any (((ks.length - 2 : Nat) : Int)) w (by omega) (by omega) (hl w hb)
  have hw : Region.wanted o (yielded headOps a.tmps) = true := by unfold Region.wanted; rw [hg]
  rw [if_pos hw]
  have hr : (execOp a.eval o).run Tryz.prog w = .ok (.enter 23 #[.int .i64 (((ks.length - 2 : Nat) : Int))]) w := by simp [go_sem, execOp, hop, t_sb]
  unfold Oper.wp
  rw [hr, Oper.upon_enter]
  refine hc.mono ?_
  rintro e w' ⟨rfl, hb'⟩
  rw [show Lib.itoa (((ks.length - 2 : Nat) : Int)) = dec (ks.length - 2) from itoa_dec _]
  exact hK _ w' (hb.trans (hb'.mono hb.size)) (.inr rfl) (fun _ _ _ _ _ _ _ _ _ h => h)
set_option maxHeartbeats 1000000 in
theorem headS9 (hD : (dec V).length ≤ 20 ∧ (dec (ks.length - 2)).length ≤ 20 ∧ (dec (numM ks h)).length ≤ 20) (ho : headOps[9]? = some o) : StepF Tryz.prog headOps Q a0 (fun _ => 1000) (fun _ W => Below W5.heap.size W5 W) (fun _ i v _ => i = 1000 ∨ v = headV ps mb V h ks i) 9 o := by
  obtain ⟨o', ho', hop, hdst, hg, hdep⟩ := headP9
  obtain rfl : o = o' := Option.some.inj (ho.symm.trans ho')
  intro l a w F hs h0 ha K hK
  have hd := depsB_at hdep ha
  have hsi : 9 < l.size := by rw [hs]; exact (Array.getElem?_eq_some_iff.1 ho).1
  obtain ⟨o_s1, po_s1, _, pd_s1, _⟩ := headP4
  obtain ⟨v_s1, e_s1, t_s1, g_s1⟩ := F.at_ po_s1 pd_s1 (hd 4 (by simp)) (head_nv hs)
  obtain rfl : v_s1 = .string (bytB (([115, 112, 97, 99, 101, 32] ++ dec V) ++ [32])) := g_s1.resolve_left (by decide)
  obtain ⟨o_i1, po_i1, _, pd_i1, _⟩ := headP8
  obtain ⟨v_i1, e_i1, t_i1, g_i1⟩ := F.at_ po_i1 pd_i1 (hd 8 (by simp)) (head_nv hs)
  obtain rfl : v_i1 = .string (bytB (dec (ks.length - 2))) := g_i1.resolve_left (by decide)
  have hb := F.base
  obtain ⟨hD0, hD1, hD2⟩ := hD
  exact stepF_value hg (v := .string (bytB ((([115, 112, 97, 99, 101, 32] ++ dec V) ++ [32]) ++ dec (ks.length - 2)))) (w' := w) (by exact run_cat hop e_s1 e_i1 (by simp; omega)) hK hb (.inr rfl) (fun _ _ _ _ _ _ _ _ _ h => h)
set_option maxHeartbeats 1000000 in
theorem headS10 (hD : (dec V).length ≤ 20 ∧ (dec (ks.length - 2)).length ≤ 20 ∧ (dec (numM ks h)).length ≤ 20) (ho : headOps[10]? = some o) : StepF Tryz.prog headOps Q a0 (fun _ => 1000) (fun _ W => Below W5.heap.size W5 W) (fun _ i v _ => i = 1000 ∨ v = headV ps mb V h ks i) 10 o := by
  obtain ⟨o', ho', hop, hdst, hg, hdep⟩ := headP10
  obtain rfl : o = o' := Option.some.inj (ho.symm.trans ho')
  intro l a w F hs h0 ha K hK
  have hd := depsB_at hdep ha
  have hsi : 10 < l.size := by rw [hs]; exact (Array.getElem?_eq_some_iff.1 ho).1
  obtain ⟨o_s2, po_s2, _, pd_s2, _⟩ := headP9
  obtain ⟨v_s2, e_s2, t_s2, g_s2⟩ := F.at_ po_s2 pd_s2 (hd 9 (by simp)) (head_nv hs)
  obtain rfl : v_s2 = .string (bytB ((([115, 112, 97, 99, 101, 32] ++ dec V) ++ [32]) ++ dec (ks.length - 2))) := g_s2.resolve_left (by decide)
  have hb := F.base
  obtain ⟨hD0, hD1, hD2⟩ := hD
  exact stepF_value hg (v := .string (bytB (((([115, 112, 97, 99, 101, 32] ++ dec V) ++ [32]) ++ dec (ks.length - 2)) ++ [32]))) (w' := w) (by exact run_cat hop e_s2 rfl (by simp; omega)) hK hb (.inr rfl) (fun _ _ _ _ _ _ _ _ _ h => h)
set_option maxHeartbeats 1000000 in
theorem headS11 (h6 : a0.tmps[6]? = some (.pointer (some ⟨nb, 0, none⟩))) (hm : ∀ W, Below W5.heap.size W5 W → W.cell? ⟨nb, 0, none⟩ = some (.map (some mb))) (ho : headOps[11]? = some o) : StepF Tryz.prog headOps Q a0 (fun _ => 1000) (fun _ W => Below W5.heap.size W5 W) (fun _ i v _ => i = 1000 ∨ v = headV ps mb V h ks i) 11 o := by
  obtain ⟨o', ho', hop, hdst, hg, hdep⟩ := headP11
  obtain rfl : o = o' := Option.some.inj (ho.symm.trans ho')
  intro l a w F hs h0 ha K hK
  have hd := depsB_at hdep ha
  have hsi : 11 < l.size := by rw [hs]; exact (Array.getElem?_eq_some_iff.1 ho).1
  have hb := F.base
  have t6 := F.old (d := 6) (by kernel_rfl) h6
  have q := hm w hb
  exact stepF_value hg (v := .map (some mb)) (w' := w) (by simp [go_sem, execOp, hop, t6, q]) hK hb (.inr rfl) (fun _ _ _ _ _ _ _ _ _ h => h)
set_option maxHeartbeats 1000000 in
theorem headS12 (h1 : a0.tmps[1]? = some (.int .i64 h)) (ho : headOps[12]? = some o) : StepF Tryz.prog headOps Q a0 (fun _ => 1000) (fun _ W => Below W5.heap.size W5 W) (fun _ i v _ => i = 1000 ∨ v = headV ps mb V h ks i) 12 o := by
  obtain ⟨o', ho', hop, hdst, hg, hdep⟩ := headP12
  obtain rfl : o = o' := Option.some.inj (ho.symm.trans ho')
  intro l a w F hs h0 ha K hK
  have hd := depsB_at hdep ha
  have hsi : 12 < l.size := by rw [hs]; exact (Array.getElem?_eq_some_iff.1 ho).1
  have hb := F.base
  have t1 := F.old (d := 1) (by kernel_rfl) h1
  exact stepF_value hg (v := .int .i64 h) (w' := w) (by simp [go_sem, execOp, hop, t1]) hK hb (.inr rfl) (fun _ _ _ _ _ _ _ _ _ h => h)
set_option maxHeartbeats 1000000 in
theorem headS13 (hn : ∀ W, Below W5.heap.size W5 W → NumOf W mb ks) (hk : h ∈ ks) (ho : headOps[13]? = some o) : StepF Tryz.prog headOps Q a0 (fun _ => 1000) (fun _ W => Below W5.heap.size W5 W) (fun _ i v _ => i = 1000 ∨ v = headV ps mb V h ks i) 13 o := by
  obtain ⟨o', ho', hop, hdst, hg, hdep⟩ := headP13
  obtain rfl : o = o' := Option.some.inj (ho.symm.trans ho')
  intro l a w F hs h0 ha K hK
  have hd := depsB_at hdep ha
  have hsi : 13 < l.size := by rw [hs]; exact (Array.getElem?_eq_some_iff.1 ho).1
  obtain ⟨o_m2, po_m2, _, pd_m2, _⟩ := headP11
  obtain ⟨v_m2, e_m2, t_m2, g_m2⟩ := F.at_ po_m2 pd_m2 (hd 11 (by simp)) (head_nv hs)
  obtain rfl : v_m2 = .map (some mb) := g_m2.resolve_left (by decide)
  obtain ⟨o_mv, po_mv, _, pd_mv, _⟩ := headP12
  obtain ⟨v_mv, e_mv, t_mv, g_mv⟩ := F.at_ po_mv pd_mv (hd 12 (by simp)) (head_nv hs)
  obtain rfl : v_mv = .int .i64 h := g_mv.resolve_left (by decide)
  have hb := F.base
  obtain ⟨mq, hq, _, hv⟩ := hn w hb
  have hrun := hq.lookup (P := Tryz.prog) (intKey Tryz.underlying3) Tryz.underlying60 (zeroInt _) (h) false
  rw [hv, if_pos hk] at hrun
  simp only [Option.getD_some] at hrun
  exact stepF_value hg (v := .int .i64 (numM ks h : Int)) (w' := w) (by simp [go_sem, execOp, hop, t_m2, t_mv, hrun]) hK hb (.inr rfl) (fun _ _ _ _ _ _ _ _ _ h => h)
set_option maxHeartbeats 1000000 in
theorem headS14 (hl : ∀ W, Below W5.heap.size W5 W → LaidR W) (hz3 : ks.length ≤ 5000) (hk : h ∈ ks) (ho : headOps[14]? = some o) : StepF Tryz.prog headOps Q a0 (fun _ => 1000) (fun _ W => Below W5.heap.size W5 W) (fun _ i v _ => i = 1000 ∨ v = headV ps mb V h ks i) 14 o := by
  obtain ⟨o', ho', hop, hdst, hg, hdep⟩ := headP14
  obtain rfl : o = o' := Option.some.inj (ho.symm.trans ho')
  intro l a w F hs h0 ha K hK
  have hd := depsB_at hdep ha
  have hsi : 14 < l.size := by rw [hs]; exact (Array.getElem?_eq_some_iff.1 ho).1
  obtain ⟨o_lk, po_lk, _, pd_lk, _⟩ := headP13
  obtain ⟨v_lk, e_lk, t_lk, g_lk⟩ := F.at_ po_lk pd_lk (hd 13 (by simp)) (head_nv hs)
  obtain rfl : v_lk = .int .i64 (numM ks h : Int) := g_lk.resolve_left (by decide)
  have hb := F.base
  have := numM_lt hk
  have hc := itoa_any ((numM ks h : Int)) w (by omega) (by omega) (hl w hb)
  have hw : Region.wanted o (yielded headOps a.tmps) = true := by unfold Region.wanted; rw [hg]
  rw [if_pos hw]
  have hr : (execOp a.eval o).run Tryz.prog w = .ok (.enter 23 #[.int .i64 ((numM ks h : Int))]) w := by simp [go_sem, execOp, hop, t_lk]
  unfold Oper.wp
  rw [hr, Oper.upon_enter]
  refine hc.mono ?_
  rintro e w' ⟨rfl, hb'⟩
  rw [show Lib.itoa ((numM ks h : Int)) = dec (numM ks h) from itoa_dec _]
  exact hK _ w' (hb.trans (hb'.mono hb.size)) (.inr rfl) (fun _ _ _ _ _ _ _ _ _ h => h)
set_option maxHeartbeats 1000000 in
theorem headS15 (hD : (dec V).length ≤ 20 ∧ (dec (ks.length - 2)).length ≤ 20 ∧ (dec (numM ks h)).length ≤ 20) (ho : headOps[15]? = some o) : StepF Tryz.prog headOps Q a0 (fun _ => 1000) (fun _ W => Below W5.heap.size W5 W) (fun _ i v _ => i = 1000 ∨ v = headV ps mb V h ks i) 15 o := by
  obtain ⟨o', ho', hop, hdst, hg, hdep⟩ := headP15
  obtain rfl : o = o' := Option.some.inj (ho.symm.trans ho')
  intro l a w F hs h0 ha K hK
  have hd := depsB_at hdep ha
  have hsi : 15 < l.size := by rw [hs]; exact (Array.getElem?_eq_some_iff.1 ho).1
  obtain ⟨o_s3, po_s3, _, pd_s3, _⟩ := headP10
  obtain ⟨v_s3, e_s3, t_s3, g_s3⟩ := F.at_ po_s3 pd_s3 (hd 10 (by simp)) (head_nv hs)
  obtain rfl : v_s3 = .string (bytB (((([115, 112, 97, 99, 101, 32] ++ dec V) ++ [32]) ++ dec (ks.length - 2)) ++ [32])) := g_s3.resolve_left (by decide)
  obtain ⟨o_i2, po_i2, _, pd_i2, _⟩ := headP14
  obtain ⟨v_i2, e_i2, t_i2, g_i2⟩ := F.at_ po_i2 pd_i2 (hd 14 (by simp)) (head_nv hs)
  obtain rfl : v_i2 = .string (bytB (dec (numM ks h))) := g_i2.resolve_left (by decide)
  have hb := F.base
  obtain ⟨hD0, hD1, hD2⟩ := hD
  exact stepF_value hg (v := .string (bytB ((((([115, 112, 97, 99, 101, 32] ++ dec V) ++ [32]) ++ dec (ks.length - 2)) ++ [32]) ++ dec (numM ks h)))) (w' := w) (by exact run_cat hop e_s3 e_i2 (by simp; omega)) hK hb (.inr rfl) (fun _ _ _ _ _ _ _ _ _ h => h)
set_option maxHeartbeats 1000000 in
theorem headS16 (hD : (dec V).length ≤ 20 ∧ (dec (ks.length - 2)).length ≤ 20 ∧ (dec (numM ks h)).length ≤ 20) (ho : headOps[16]? = some o) : StepF Tryz.prog headOps Q a0 (fun _ => 1000) (fun _ W => Below W5.heap.size W5 W) (fun _ i v _ => i = 1000 ∨ v = headV ps mb V h ks i) 16 o := by
  obtain ⟨o', ho', hop, hdst, hg, hdep⟩ := headP16
  obtain rfl : o = o' := Option.some.inj (ho.symm.trans ho')
  intro l a w F hs h0 ha K hK
  have hd := depsB_at hdep ha
  have hsi : 16 < l.size := by rw [hs]; exact (Array.getElem?_eq_some_iff.1 ho).1
  obtain ⟨o_s4, po_s4, _, pd_s4, _⟩ := headP15
  obtain ⟨v_s4, e_s4, t_s4, g_s4⟩ := F.at_ po_s4 pd_s4 (hd 15 (by simp)) (head_nv hs)
  obtain rfl : v_s4 = .string (bytB ((((([115, 112, 97, 99, 101, 32] ++ dec V) ++ [32]) ++ dec (ks.length - 2)) ++ [32]) ++ dec (numM ks h))) := g_s4.resolve_left (by decide)
  have hb := F.base
  obtain ⟨hD0, hD1, hD2⟩ := hD
  exact stepF_value hg (v := .string (bytB (((((([115, 112, 97, 99, 101, 32] ++ dec V) ++ [32]) ++ dec (ks.length - 2)) ++ [32]) ++ dec (numM ks h)) ++ [10]))) (w' := w) (by exact run_cat hop e_s4 rfl (by simp; omega)) hK hb (.inr rfl) (fun _ _ _ _ _ _ _ _ _ h => h)
set_option maxHeartbeats 1000000 in
theorem headS17 (ho : headOps[17]? = some o) : StepF Tryz.prog headOps Q a0 (fun _ => 1000) (fun _ W => Below W5.heap.size W5 W) (fun _ i v _ => i = 1000 ∨ v = headV ps mb V h ks i) 17 o := by
  obtain ⟨o', ho', hop, hdst, hg, hdep⟩ := headP17
  obtain rfl : o = o' := Option.some.inj (ho.symm.trans ho')
  intro l a w F hs h0 ha K hK
  have hd := depsB_at hdep ha
  have hsi : 17 < l.size := by rw [hs]; exact (Array.getElem?_eq_some_iff.1 ho).1
  obtain ⟨o_s5, po_s5, _, pd_s5, _⟩ := headP16
  obtain ⟨v_s5, e_s5, t_s5, g_s5⟩ := F.at_ po_s5 pd_s5 (hd 16 (by simp)) (head_nv hs)
  obtain rfl : v_s5 = .string (bytB (((((([115, 112, 97, 99, 101, 32] ++ dec V) ++ [32]) ++ dec (ks.length - 2)) ++ [32]) ++ dec (numM ks h)) ++ [10])) := g_s5.resolve_left (by decide)
  have hb := F.base
  exact stepF_value hg (v := .string (bytB (((((([115, 112, 97, 99, 101, 32] ++ dec V) ++ [32]) ++ dec (ks.length - 2)) ++ [32]) ++ dec (numM ks h)) ++ [10]))) (w' := w) (by simp [go_sem, execOp, hop, t_s5]) hK hb (.inr rfl) (fun _ _ _ _ _ _ _ _ _ h => h)
end
set_option maxRecDepth 100000 in
set_option maxHeartbeats 4000000 in
/-- The region. -/
theorem headR_any {u0 u3 u4 u5 u7 u8 u9 u10 u11 u12 u13 u14 u15 u16 u17 u18 u19 u20 u21 u22 u23 u24 u25 u26 u27 u28 u29 u30 u31 u32 u33 u34 u35 u36 u37 u38 u39 u40 u41 u42 u43 u44 u45 u46 u47 u48 u49 u50 u51 u52 u53 u54 u55 u56 : Value} {Q : Exit → Act → World → Prop} {sb nb ps mb V : Nat} {h : Int} {ks : List Int} {W5 : World}
    (hc : ∀ W, Below W5.heap.size W5 W → W.cell? ⟨sb, 0, none⟩ = some (.pointer (some ⟨ps, 0, none⟩))) (hm : ∀ W, Below W5.heap.size W5 W → W.cell? ⟨nb, 0, none⟩ = some (.map (some mb))) (hn : ∀ W, Below W5.heap.size W5 W → NumOf W mb ks) (hl : ∀ W, Below W5.heap.size W5 W → LaidR W) (hv : ∀ W, Below W5.heap.size W5 W → Calls Tryz.prog 10 #[.pointer (some ⟨ps, 0, none⟩)] W fun e w' => e = .returned (.int .i64 V) ∧ w' = W) (hz : V ≤ 24) (hz2 : 2 ≤ ks.length ∧ ks.length ≤ 5000) (hk : h ∈ ks)
    (hQ : ∀ (x29 x30 x31 x32 x33 x34 x35 x36 x37 x38 x39 x40 x41 x42 x43 x44 x45 : Value) (w' : World), Below W5.heap.size W5 w' → Q .normal ⟨#[u0, .int .i64 h, .pointer (some ⟨sb, 0, none⟩), u3, u4, u5, .pointer (some ⟨nb, 0, none⟩), u7, u8, .string (bytB (headM V (ks.length - 2) (numM ks h))), u10, u11, u12, u13, u14, u15, u16, u17, u18, u19, u20, u21, u22, u23, u24, u25, u26, u27, u28, x29, x30, x31, x32, x33, x34, x35, x36, x37, x38, x39, x40, x41, x42, x43, x44, x45, u46, u47, u48, u49, u50, u51, u52, u53, u54, u55, u56], []⟩ w') : (Code.region 8 headOps true).wp Tryz.prog Q ⟨#[u0, .int .i64 h, .pointer (some ⟨sb, 0, none⟩), u3, u4, u5, .pointer (some ⟨nb, 0, none⟩), u7, u8, u9, u10, u11, u12, u13, u14, u15, u16, u17, u18, u19, u20, u21, u22, u23, u24, u25, u26, u27, u28, u29, u30, u31, u32, u33, u34, u35, u36, u37, u38, u39, u40, u41, u42, u43, u44, u45, u46, u47, u48, u49, u50, u51, u52, u53, u54, u55, u56], []⟩ W5 := by
  obtain ⟨a0, ha0⟩ : ∃ a0 : Act, a0 = ⟨#[u0, .int .i64 h, .pointer (some ⟨sb, 0, none⟩), u3, u4, u5, .pointer (some ⟨nb, 0, none⟩), u7, u8, u9, u10, u11, u12, u13, u14, u15, u16, u17, u18, u19, u20, u21, u22, u23, u24, u25, u26, u27, u28, u29, u30, u31, u32, u33, u34, u35, u36, u37, u38, u39, u40, u41, u42, u43, u44, u45, u46, u47, u48, u49, u50, u51, u52, u53, u54, u55, u56], []⟩ := ⟨_, rfl⟩
  have h1 : a0.tmps[1]? = some (.int .i64 h) := by rw [ha0]; rfl
  have h2 : a0.tmps[2]? = some (.pointer (some ⟨sb, 0, none⟩)) := by rw [ha0]; rfl
  have h6 : a0.tmps[6]? = some (.pointer (some ⟨nb, 0, none⟩)) := by rw [ha0]; rfl
  have hsz : a0.tmps.size = 57 := by rw [ha0]; rfl
  have hnum := numM_lt hk
  have hD : (dec V).length ≤ 20 ∧ (dec (ks.length - 2)).length ≤ 20 ∧ (dec (numM ks h)).length ≤ 20 := ⟨dec_le (by omega), dec_le (by omega), dec_le (by omega)⟩
  rw [← ha0]
  have key : ∀ i, i < 18 → ∀ o, headOps[i]? = some o → StepF Tryz.prog headOps Q a0 (fun _ => 1000) (fun _ W => Below W5.heap.size W5 W) (fun _ i v _ => i = 1000 ∨ v = headV ps mb V h ks i) i o := fun i hi => match i, hi with
    | 0, _ => fun o ho => headS0 h2 hc ho
    | 1, _ => fun o ho => headS1 hv ho
    | 2, _ => fun o ho => headS2 hl hz ho
    | 3, _ => fun o ho => headS3 hD ho
    | 4, _ => fun o ho => headS4 hD ho
    | 5, _ => fun o ho => headS5 h6 hm ho
    | 6, _ => fun o ho => headS6 hn ho
    | 7, _ => fun o ho => headS7 hz2 ho
    | 8, _ => fun o ho => headS8 hl hz2 ho
    | 9, _ => fun o ho => headS9 hD ho
    | 10, _ => fun o ho => headS10 hD ho
    | 11, _ => fun o ho => headS11 h6 hm ho
    | 12, _ => fun o ho => headS12 h1 ho
    | 13, _ => fun o ho => headS13 hn hk ho
    | 14, _ => fun o ho => headS14 hl hz2.2 hk ho
    | 15, _ => fun o ho => headS15 hD ho
    | 16, _ => fun o ho => headS16 hD ho
    | 17, _ => fun o ho => headS17  ho
    | k + 18, h => absurd h (by omega)
  refine wp_region_facts (fun _ => 1000) (fun _ W => Below W5.heap.size W5 W) (fun _ i v _ => i = 1000 ∨ v = headV ps mb V h ks i) (by kernel_rfl) head_lat (by rw [hsz]; kernel_rfl) (Below.refl _ _).drew (allF_of fun i o ho => ?_) (fun l a w' hall hs F => ?_)
  · have ho' : headOps[i]? = some o := by simpa using ho
    have hi := (Array.getElem?_eq_some_iff.1 ho').1
    rw [head_size] at hi
    rw [Nat.zero_add]
    exact key i hi o ho'
  · obtain ⟨o1, q1, _, q2, _⟩ := headP17
    obtain ⟨v1, _, t1, g1⟩ := F.at_ q1 q2 (hall _ (by rw [head_size]; decide)) (head_nv hs)
    obtain rfl : v1 = .string (bytB (((((([115, 112, 97, 99, 101, 32] ++ dec V) ++ [32]) ++ dec (ks.length - 2)) ++ [32]) ++ dec (numM ks h)) ++ [10])) := g1.resolve_left (by decide)
    have k1 : a.tmps.getD 9 undef = .string (bytB (headM V (ks.length - 2) (numM ks h))) := by
      rw [Array.getD_eq_getD_getElem?, t1]
      unfold headM
      simp
    have fr := F.frame
    rw [head_dstL] at fr
    simp only [List.foldl, k1] at fr
    generalize a.tmps.getD 29 undef = x29 at fr
    generalize a.tmps.getD 30 undef = x30 at fr
    generalize a.tmps.getD 31 undef = x31 at fr
    generalize a.tmps.getD 32 undef = x32 at fr
    generalize a.tmps.getD 33 undef = x33 at fr
    generalize a.tmps.getD 34 undef = x34 at fr
    generalize a.tmps.getD 35 undef = x35 at fr
    generalize a.tmps.getD 36 undef = x36 at fr
    generalize a.tmps.getD 37 undef = x37 at fr
    generalize a.tmps.getD 38 undef = x38 at fr
    generalize a.tmps.getD 39 undef = x39 at fr
    generalize a.tmps.getD 40 undef = x40 at fr
    generalize a.tmps.getD 41 undef = x41 at fr
    generalize a.tmps.getD 42 undef = x42 at fr
    generalize a.tmps.getD 43 undef = x43 at fr
    generalize a.tmps.getD 44 undef = x44 at fr
    generalize a.tmps.getD 45 undef = x45 at fr
    rw [ha0] at fr
    simp only [Act.put, List.setIfInBounds_toArray, List.set_cons_zero, List.set_cons_succ] at fr
    rw [fr]
    exact hQ x29 x30 x31 x32 x33 x34 x35 x36 x37 x38 x39 x40 x41 x42 x43 x44 x45 w' F.base
end Go.Proofs.YthmflcmbaldflaaGreatDoor
