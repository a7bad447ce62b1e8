/- Save's walk: a node's line is written: the drawn region, by facts. (Printed by gen_savr.py.) -/
import Derived.Test.YthmflcmbaldflaaGreatDoorIpH
namespace Go.Proofs.YthmflcmbaldflaaGreatDoor
open Go.RowKit
set_option linter.unusedVariables false

theorem bytB_cat (l m : List UInt8) : (bytB l) ++ (bytB m) = bytB (l ++ m) := by
  apply ByteArray.ext
  rw [ByteArray.data_append]
  simp [bytB]
theorem run_cat {a : Act} {o : Oper} {w : World} {x y : Operand} {s t : List UInt8} (hop : o.op = .binOp .add 9 x y 9) (hx : a.eval x = .string (bytB s)) (hy : a.eval y = .string (bytB t)) (hl : s.length + t.length ≤ 1000000) :
    (execOp a.eval o).run Tryz.prog w = .ok (.value (.string (bytB (s ++ t)))) w := by
  have h1 : (bytB s).size = s.length := rfl
  have h2 : (bytB t).size = t.length := rfl
  have h3 : ¬ 9223372036854775807 < s.length + t.length := by omega
  simp only [execOp, hop, hx, hy]
  simp [go_sem, bytB_cat, h1, h2, h3]

noncomputable def walkOps : Array Oper := (Tryz.f20.body.bind (findR 6)).getD #[]
theorem walkP0 : ∃ o, walkOps[0]? = some o ∧ o.op = .fieldAddr 68 (.tmp 8) 0 ∧ o.dst = some 38 ∧ o.guard = none ∧ depsB o [] = true := opf (x := (.fieldAddr 68 (.tmp 8) 0, some 38, none)) (by kernel_rfl)
theorem walkP1 : ∃ o, walkOps[1]? = some o ∧ o.op = .load 3 (.tmp 38) ∧ o.dst = some 39 ∧ o.guard = none ∧ depsB o [0] = true := opf (x := (.load 3 (.tmp 38), some 39, none)) (by kernel_rfl)
theorem walkP2 : ∃ o, walkOps[2]? = some o ∧ o.op = .call { callee := .value (.func 23), args := #[.tmp 39], argTypes := #[3] } ∧ o.dst = some 40 ∧ o.guard = none ∧ depsB o [1] = true := opf (x := (.call { callee := .value (.func 23), args := #[.tmp 39], argTypes := #[3] }, some 40, none)) (by kernel_rfl)
theorem walkP3 : ∃ o, walkOps[3]? = some o ∧ o.op = .binOp .add 9 (.tmp 40) (.const (.string ⟨#[32]⟩)) 9 ∧ o.dst = some 41 ∧ o.guard = none ∧ depsB o [2] = true := opf (x := (.binOp .add 9 (.tmp 40) (.const (.string ⟨#[32]⟩)) 9, some 41, none)) (by kernel_rfl)
theorem walkP4 : ∃ o, walkOps[4]? = some o ∧ o.op = .load 60 (.tmp 1) ∧ o.dst = some 42 ∧ o.guard = none ∧ depsB o [] = true := opf (x := (.load 60 (.tmp 1), some 42, none)) (by kernel_rfl)
theorem walkP5 : ∃ o, walkOps[5]? = some o ∧ o.op = .fieldAddr 68 (.tmp 8) 1 ∧ o.dst = some 43 ∧ o.guard = none ∧ depsB o [] = true := opf (x := (.fieldAddr 68 (.tmp 8) 1, some 43, none)) (by kernel_rfl)
theorem walkP6 : ∃ o, walkOps[6]? = some o ∧ o.op = .load 3 (.tmp 43) ∧ o.dst = some 44 ∧ o.guard = none ∧ depsB o [5] = true := opf (x := (.load 3 (.tmp 43), some 44, none)) (by kernel_rfl)
theorem walkP7 : ∃ o, walkOps[7]? = some o ∧ o.op = .lookup 60 (.tmp 42) (.tmp 44) false ∧ o.dst = some 45 ∧ o.guard = none ∧ depsB o [4, 6] = true := opf (x := (.lookup 60 (.tmp 42) (.tmp 44) false, some 45, none)) (by kernel_rfl)
theorem walkP8 : ∃ o, walkOps[8]? = some o ∧ o.op = .call { callee := .value (.func 23), args := #[.tmp 45], argTypes := #[3] } ∧ o.dst = some 46 ∧ o.guard = none ∧ depsB o [7] = true := opf (x := (.call { callee := .value (.func 23), args := #[.tmp 45], argTypes := #[3] }, some 46, none)) (by kernel_rfl)
theorem walkP9 : ∃ o, walkOps[9]? = some o ∧ o.op = .binOp .add 9 (.tmp 41) (.tmp 46) 9 ∧ o.dst = some 47 ∧ o.guard = none ∧ depsB o [3, 8] = true := opf (x := (.binOp .add 9 (.tmp 41) (.tmp 46) 9, some 47, none)) (by kernel_rfl)
theorem walkP10 : ∃ o, walkOps[10]? = some o ∧ o.op = .binOp .add 9 (.tmp 47) (.const (.string ⟨#[32]⟩)) 9 ∧ o.dst = some 48 ∧ o.guard = none ∧ depsB o [9] = true := opf (x := (.binOp .add 9 (.tmp 47) (.const (.string ⟨#[32]⟩)) 9, some 48, none)) (by kernel_rfl)
theorem walkP11 : ∃ o, walkOps[11]? = some o ∧ o.op = .load 60 (.tmp 1) ∧ o.dst = some 49 ∧ o.guard = none ∧ depsB o [] = true := opf (x := (.load 60 (.tmp 1), some 49, none)) (by kernel_rfl)
theorem walkP12 : ∃ o, walkOps[12]? = some o ∧ o.op = .fieldAddr 68 (.tmp 8) 2 ∧ o.dst = some 50 ∧ o.guard = none ∧ depsB o [] = true := opf (x := (.fieldAddr 68 (.tmp 8) 2, some 50, none)) (by kernel_rfl)
theorem walkP13 : ∃ o, walkOps[13]? = some o ∧ o.op = .load 3 (.tmp 50) ∧ o.dst = some 51 ∧ o.guard = none ∧ depsB o [12] = true := opf (x := (.load 3 (.tmp 50), some 51, none)) (by kernel_rfl)
theorem walkP14 : ∃ o, walkOps[14]? = some o ∧ o.op = .lookup 60 (.tmp 49) (.tmp 51) false ∧ o.dst = some 52 ∧ o.guard = none ∧ depsB o [11, 13] = true := opf (x := (.lookup 60 (.tmp 49) (.tmp 51) false, some 52, none)) (by kernel_rfl)
theorem walkP15 : ∃ o, walkOps[15]? = some o ∧ o.op = .call { callee := .value (.func 23), args := #[.tmp 52], argTypes := #[3] } ∧ o.dst = some 53 ∧ o.guard = none ∧ depsB o [14] = true := opf (x := (.call { callee := .value (.func 23), args := #[.tmp 52], argTypes := #[3] }, some 53, none)) (by kernel_rfl)
theorem walkP16 : ∃ o, walkOps[16]? = some o ∧ o.op = .binOp .add 9 (.tmp 48) (.tmp 53) 9 ∧ o.dst = some 54 ∧ o.guard = none ∧ depsB o [10, 15] = true := opf (x := (.binOp .add 9 (.tmp 48) (.tmp 53) 9, some 54, none)) (by kernel_rfl)
theorem walkP17 : ∃ o, walkOps[17]? = some o ∧ o.op = .binOp .add 9 (.tmp 54) (.const (.string ⟨#[10]⟩)) 9 ∧ o.dst = some 55 ∧ o.guard = none ∧ depsB o [16] = true := opf (x := (.binOp .add 9 (.tmp 54) (.const (.string ⟨#[10]⟩)) 9, some 55, none)) (by kernel_rfl)
theorem walkP18 : ∃ o, walkOps[18]? = some o ∧ o.op = .call { callee := .value (.func 22), args := #[.tmp 4, .tmp 55], argTypes := #[64, 9] } ∧ o.dst = some 56 ∧ o.guard = none ∧ depsB o [17] = true := opf (x := (.call { callee := .value (.func 22), args := #[.tmp 4, .tmp 55], argTypes := #[64, 9] }, some 56, none)) (by kernel_rfl)
theorem walk_size : walkOps.size = 19 := by kernel_rfl
theorem walk_nv {l : Array Bool} (hs : l.size = walkOps.size) : l.getD 1000 false = false := by
  rw [Array.getD_eq_getD_getElem?, Array.getElem?_eq_none (by rw [hs, walk_size]; decide)]; rfl
theorem walk_lat : laterB walkOps = true := by kernel_rfl
theorem walk_dstL : dstsL walkOps = [38, 39, 40, 41, 42, 43, 44, 45, 46, 47, 48, 49, 50, 51, 52, 53, 54, 55, 56] := by kernel_rfl
section
variable {Q : Exit → Act → World → Prop} {a0 : Act} {R : World → Prop} {nb mb bb nd : Nat} {n : Nd} {ks : List Int} {W5 : World} {o : Oper}
/-- What the operations yield. -/
def walkV (mb nd : Nat) (n : Nd) (ks : List Int) (i : Nat) : Value := match i with
  | 0 => .pointer (some ⟨nd, 0, none⟩)
  | 1 => .int .i64 n.1
  | 2 => .string (bytB (dec n.1.toNat))
  | 3 => .string (bytB (dec n.1.toNat ++ [32]))
  | 4 => .map (some mb)
  | 5 => .pointer (some ⟨nd, 1, none⟩)
  | 6 => .int .i64 n.2.1
  | 7 => .int .i64 (numM ks n.2.1 : Int)
  | 8 => .string (bytB (dec (numM ks n.2.1)))
  | 9 => .string (bytB ((dec n.1.toNat ++ [32]) ++ dec (numM ks n.2.1)))
  | 10 => .string (bytB (((dec n.1.toNat ++ [32]) ++ dec (numM ks n.2.1)) ++ [32]))
  | 11 => .map (some mb)
  | 12 => .pointer (some ⟨nd, 2, none⟩)
  | 13 => .int .i64 n.2.2
  | 14 => .int .i64 (numM ks n.2.2 : Int)
  | 15 => .string (bytB (dec (numM ks n.2.2)))
  | 16 => .string (bytB ((((dec n.1.toNat ++ [32]) ++ dec (numM ks n.2.1)) ++ [32]) ++ dec (numM ks n.2.2)))
  | 17 => .string (bytB (((((dec n.1.toNat ++ [32]) ++ dec (numM ks n.2.1)) ++ [32]) ++ dec (numM ks n.2.2)) ++ [10]))
  | 18 => undef
  | _ => undef
set_option maxHeartbeats 1000000 in
theorem walkS0 (h8 : a0.tmps[8]? = some (.pointer (some ⟨nd, 0, none⟩))) (ho : walkOps[0]? = some o) : StepF Tryz.prog walkOps Q a0 (fun _ => 1000) (fun l W => (l.getD 18 false = false → Below W5.heap.size W5 W) ∧ (l.getD 18 false = true → R W)) (fun _ i v _ => i = 18 ∨ v = walkV mb nd n ks i) 0 o := by
  obtain ⟨o', ho', hop, hdst, hg, hdep⟩ := walkP0
  obtain rfl : o = o' := Option.some.inj (ho.symm.trans ho')
  intro l a w F hs h0 ha K hK
  have hd := depsB_at hdep ha
  have hsi : 0 < l.size := by rw [hs]; exact (Array.getElem?_eq_some_iff.1 ho).1
  have hno : l.getD 18 false = false := by
    cases e : l.getD 18 false with
    | false => rfl
    | true =>
      obtain ⟨ob18, qb18, _, _, _, db18⟩ := walkP18
      have cl17 := F.closed _ _ qb18 e _ db18 17 (by simp)
      obtain ⟨ob17, qb17, _, _, _, db17⟩ := walkP17
      have cl16 := F.closed _ _ qb17 cl17 _ db17 16 (by simp)
      obtain ⟨ob16, qb16, _, _, _, db16⟩ := walkP16
      have cl10 := F.closed _ _ qb16 cl16 _ db16 10 (by simp)
      obtain ⟨ob10, qb10, _, _, _, db10⟩ := walkP10
      have cl9 := F.closed _ _ qb10 cl10 _ db10 9 (by simp)
      obtain ⟨ob9, qb9, _, _, _, db9⟩ := walkP9
      have cl3 := F.closed _ _ qb9 cl9 _ db9 3 (by simp)
      obtain ⟨ob3, qb3, _, _, _, db3⟩ := walkP3
      have cl2 := F.closed _ _ qb3 cl3 _ db3 2 (by simp)
      obtain ⟨ob2, qb2, _, _, _, db2⟩ := walkP2
      have cl1 := F.closed _ _ qb2 cl2 _ db2 1 (by simp)
      obtain ⟨ob1, qb1, _, _, _, db1⟩ := walkP1
      have cl0 := F.closed _ _ qb1 cl1 _ db1 0 (by simp)
      rw [h0] at cl0; cases cl0
  have hb := F.base.1 hno
  have t8 := F.old (d := 8) (by kernel_rfl) h8
  exact stepF_value hg (v := .pointer (some ⟨nd, 0, none⟩)) (w' := w) (by simp [go_sem, execOp, hop, t8]) hK ⟨fun _ => hb, fun h => absurd h (by rw [setB_getD hsi, if_neg (by decide), hno]; decide)⟩ (.inr rfl) (fun _ _ _ _ _ _ _ _ _ h => h)
set_option maxHeartbeats 1000000 in
theorem walkS1 (hc : ∀ W, Below W5.heap.size W5 W → W.cell? ⟨nd, 0, none⟩ = some (.int .i64 n.1) ∧ W.cell? ⟨nd, 1, none⟩ = some (.int .i64 n.2.1) ∧ W.cell? ⟨nd, 2, none⟩ = some (.int .i64 n.2.2)) (ho : walkOps[1]? = some o) : StepF Tryz.prog walkOps Q a0 (fun _ => 1000) (fun l W => (l.getD 18 false = false → Below W5.heap.size W5 W) ∧ (l.getD 18 false = true → R W)) (fun _ i v _ => i = 18 ∨ v = walkV mb nd n ks i) 1 o := by
  obtain ⟨o', ho', hop, hdst, hg, hdep⟩ := walkP1
  obtain rfl : o = o' := Option.some.inj (ho.symm.trans ho')
  intro l a w F hs h0 ha K hK
  have hd := depsB_at hdep ha
  have hsi : 1 < l.size := by rw [hs]; exact (Array.getElem?_eq_some_iff.1 ho).1
  obtain ⟨o_f0, po_f0, _, pd_f0, _⟩ := walkP0
  obtain ⟨v_f0, e_f0, t_f0, g_f0⟩ := F.at_ po_f0 pd_f0 (hd 0 (by simp)) (walk_nv hs)
  obtain rfl : v_f0 = .pointer (some ⟨nd, 0, none⟩) := g_f0.resolve_left (by decide)
  have hno : l.getD 18 false = false := by
    cases e : l.getD 18 false with
    | false => rfl
    | true =>
      obtain ⟨ob18, qb18, _, _, _, db18⟩ := walkP18
      have cl17 := F.closed _ _ qb18 e _ db18 17 (by simp)
      obtain ⟨ob17, qb17, _, _, _, db17⟩ := walkP17
      have cl16 := F.closed _ _ qb17 cl17 _ db17 16 (by simp)
      obtain ⟨ob16, qb16, _, _, _, db16⟩ := walkP16
      have cl10 := F.closed _ _ qb16 cl16 _ db16 10 (by simp)
      obtain ⟨ob10, qb10, _, _, _, db10⟩ := walkP10
      have cl9 := F.closed _ _ qb10 cl10 _ db10 9 (by simp)
      obtain ⟨ob9, qb9, _, _, _, db9⟩ := walkP9
      have cl3 := F.closed _ _ qb9 cl9 _ db9 3 (by simp)
      obtain ⟨ob3, qb3, _, _, _, db3⟩ := walkP3
      have cl2 := F.closed _ _ qb3 cl3 _ db3 2 (by simp)
      obtain ⟨ob2, qb2, _, _, _, db2⟩ := walkP2
      have cl1 := F.closed _ _ qb2 cl2 _ db2 1 (by simp)
      rw [h0] at cl1; cases cl1
  have hb := F.base.1 hno
  obtain ⟨q0, q1, q2⟩ := hc w hb
  exact stepF_value hg (v := .int .i64 n.1) (w' := w) (by simp [go_sem, execOp, hop, t_f0, q0]) hK ⟨fun _ => hb, fun h => absurd h (by rw [setB_getD hsi, if_neg (by decide), hno]; decide)⟩ (.inr rfl) (fun _ _ _ _ _ _ _ _ _ h => h)
set_option maxHeartbeats 1000000 in
theorem walkS2 (hl : ∀ W, Below W5.heap.size W5 W → LaidR W) (hz : n.1 < 24 ∧ 0 ≤ n.1) (ho : walkOps[2]? = some o) : StepF Tryz.prog walkOps Q a0 (fun _ => 1000) (fun l W => (l.getD 18 false = false → Below W5.heap.size W5 W) ∧ (l.getD 18 false = true → R W)) (fun _ i v _ => i = 18 ∨ v = walkV mb nd n ks i) 2 o := by
  obtain ⟨o', ho', hop, hdst, hg, hdep⟩ := walkP2
  obtain rfl : o = o' := Option.some.inj (ho.symm.trans ho')
  intro l a w F hs h0 ha K hK
  have hd := depsB_at hdep ha
  have hsi : 2 < l.size := by rw [hs]; exact (Array.getElem?_eq_some_iff.1 ho).1
  obtain ⟨o_l0, po_l0, _, pd_l0, _⟩ := walkP1
  obtain ⟨v_l0, e_l0, t_l0, g_l0⟩ := F.at_ po_l0 pd_l0 (hd 1 (by simp)) (walk_nv hs)
  obtain rfl : v_l0 = .int .i64 n.1 := g_l0.resolve_left (by decide)
  have hno : l.getD 18 false = false := by
    cases e : l.getD 18 false with
    | false => rfl
    | true =>
      obtain ⟨ob18, qb18, _, _, _, db18⟩ := walkP18
      have cl17 := F.closed _ _ qb18 e _ db18 17 (by simp)
      obtain ⟨ob17, qb17, _, _, _, db17⟩ := walkP17
      have cl16 := F.closed _ _ qb17 cl17 _ db17 16 (by simp)
      obtain ⟨ob16, qb16, _, _, _, db16⟩ := walkP16
      have cl10 := F.closed _ _ qb16 cl16 _ db16 10 (by simp)
      obtain ⟨ob10, qb10, _, _, _, db10⟩ := walkP10
      have cl9 := F.closed _ _ qb10 cl10 _ db10 9 (by simp)
      obtain ⟨ob9, qb9, _, _, _, db9⟩ := walkP9
      have cl3 := F.closed _ _ qb9 cl9 _ db9 3 (by simp)
      obtain ⟨ob3, qb3, _, _, _, db3⟩ := walkP3
      have cl2 := F.closed _ _ qb3 cl3 _ db3 2 (by simp)
      rw [h0] at cl2; cases cl2
  have hb := F.base.1 hno
  have hc := itoa_any (n.1) w (by omega) (by omega) (hl w hb)
  have hw : Region.wanted o (yielded walkOps a.tmps) = true := by unfold Region.wanted; rw [hg]
  rw [if_pos hw]
  have hr : (execOp a.eval o).run Tryz.prog w = .ok (.enter 23 #[.int .i64 (n.1)]) w := by simp [go_sem, execOp, hop, t_l0]
  unfold Oper.wp
  rw [hr, Oper.upon_enter]
  refine hc.mono ?_
  rintro e w' ⟨rfl, hb'⟩
  rw [show Lib.itoa (n.1) = dec (n.1.toNat) from by rw [← itoa_dec, Int.toNat_of_nonneg hz.2]]
  exact hK _ w' ⟨fun _ => (hb.trans (hb'.mono hb.size)), fun h => absurd h (by rw [setB_getD hsi, if_neg (by decide), hno]; decide)⟩ (.inr rfl) (fun _ _ _ _ _ _ _ _ _ h => h)
set_option maxHeartbeats 1000000 in
theorem walkS3 (hD : (dec n.1.toNat).length ≤ 20 ∧ (dec (numM ks n.2.1)).length ≤ 20 ∧ (dec (numM ks n.2.2)).length ≤ 20) (ho : walkOps[3]? = some o) : StepF Tryz.prog walkOps Q a0 (fun _ => 1000) (fun l W => (l.getD 18 false = false → Below W5.heap.size W5 W) ∧ (l.getD 18 false = true → R W)) (fun _ i v _ => i = 18 ∨ v = walkV mb nd n ks i) 3 o := by
  obtain ⟨o', ho', hop, hdst, hg, hdep⟩ := walkP3
  obtain rfl : o = o' := Option.some.inj (ho.symm.trans ho')
  intro l a w F hs h0 ha K hK
  have hd := depsB_at hdep ha
  have hsi : 3 < l.size := by rw [hs]; exact (Array.getElem?_eq_some_iff.1 ho).1
  obtain ⟨o_i0, po_i0, _, pd_i0, _⟩ := walkP2
  obtain ⟨v_i0, e_i0, t_i0, g_i0⟩ := F.at_ po_i0 pd_i0 (hd 2 (by simp)) (walk_nv hs)
  obtain rfl : v_i0 = .string (bytB (dec n.1.toNat)) := g_i0.resolve_left (by decide)
  have hno : l.getD 18 false = false := by
    cases e : l.getD 18 false with
    | false => rfl
    | true =>
      obtain ⟨ob18, qb18, _, _, _, db18⟩ := walkP18
      have cl17 := F.closed _ _ qb18 e _ db18 17 (by simp)
      obtain ⟨ob17, qb17, _, _, _, db17⟩ := walkP17
      have cl16 := F.closed _ _ qb17 cl17 _ db17 16 (by simp)
      obtain ⟨ob16, qb16, _, _, _, db16⟩ := walkP16
      have cl10 := F.closed _ _ qb16 cl16 _ db16 10 (by simp)
      obtain ⟨ob10, qb10, _, _, _, db10⟩ := walkP10
      have cl9 := F.closed _ _ qb10 cl10 _ db10 9 (by simp)
      obtain ⟨ob9, qb9, _, _, _, db9⟩ := walkP9
      have cl3 := F.closed _ _ qb9 cl9 _ db9 3 (by simp)
      rw [h0] at cl3; cases cl3
  have hb := F.base.1 hno
  obtain ⟨hD0, hD1, hD2⟩ := hD
  exact stepF_value hg (v := .string (bytB (dec n.1.toNat ++ [32]))) (w' := w) (by exact run_cat hop e_i0 rfl (by simp; omega)) hK ⟨fun _ => hb, fun h => absurd h (by rw [setB_getD hsi, if_neg (by decide), hno]; decide)⟩ (.inr rfl) (fun _ _ _ _ _ _ _ _ _ h => h)
set_option maxHeartbeats 1000000 in
theorem walkS4 (h1 : a0.tmps[1]? = some (.pointer (some ⟨nb, 0, none⟩))) (hm : ∀ W, Below W5.heap.size W5 W → W.cell? ⟨nb, 0, none⟩ = some (.map (some mb))) (ho : walkOps[4]? = some o) : StepF Tryz.prog walkOps Q a0 (fun _ => 1000) (fun l W => (l.getD 18 false = false → Below W5.heap.size W5 W) ∧ (l.getD 18 false = true → R W)) (fun _ i v _ => i = 18 ∨ v = walkV mb nd n ks i) 4 o := by
  obtain ⟨o', ho', hop, hdst, hg, hdep⟩ := walkP4
  obtain rfl : o = o' := Option.some.inj (ho.symm.trans ho')
  intro l a w F hs h0 ha K hK
  have hd := depsB_at hdep ha
  have hsi : 4 < l.size := by rw [hs]; exact (Array.getElem?_eq_some_iff.1 ho).1
  have hno : l.getD 18 false = false := by
    cases e : l.getD 18 false with
    | false => rfl
    | true =>
      obtain ⟨ob18, qb18, _, _, _, db18⟩ := walkP18
      have cl17 := F.closed _ _ qb18 e _ db18 17 (by simp)
      obtain ⟨ob17, qb17, _, _, _, db17⟩ := walkP17
      have cl16 := F.closed _ _ qb17 cl17 _ db17 16 (by simp)
      obtain ⟨ob16, qb16, _, _, _, db16⟩ := walkP16
      have cl10 := F.closed _ _ qb16 cl16 _ db16 10 (by simp)
      obtain ⟨ob10, qb10, _, _, _, db10⟩ := walkP10
      have cl9 := F.closed _ _ qb10 cl10 _ db10 9 (by simp)
      obtain ⟨ob9, qb9, _, _, _, db9⟩ := walkP9
      have cl8 := F.closed _ _ qb9 cl9 _ db9 8 (by simp)
      obtain ⟨ob8, qb8, _, _, _, db8⟩ := walkP8
      have cl7 := F.closed _ _ qb8 cl8 _ db8 7 (by simp)
      obtain ⟨ob7, qb7, _, _, _, db7⟩ := walkP7
      have cl4 := F.closed _ _ qb7 cl7 _ db7 4 (by simp)
      rw [h0] at cl4; cases cl4
  have hb := F.base.1 hno
  have t1 := F.old (d := 1) (by kernel_rfl) h1
  have q := hm w hb
  exact stepF_value hg (v := .map (some mb)) (w' := w) (by simp [go_sem, execOp, hop, t1, q]) hK ⟨fun _ => hb, fun h => absurd h (by rw [setB_getD hsi, if_neg (by decide), hno]; decide)⟩ (.inr rfl) (fun _ _ _ _ _ _ _ _ _ h => h)
set_option maxHeartbeats 1000000 in
theorem walkS5 (h8 : a0.tmps[8]? = some (.pointer (some ⟨nd, 0, none⟩))) (ho : walkOps[5]? = some o) : StepF Tryz.prog walkOps Q a0 (fun _ => 1000) (fun l W => (l.getD 18 false = false → Below W5.heap.size W5 W) ∧ (l.getD 18 false = true → R W)) (fun _ i v _ => i = 18 ∨ v = walkV mb nd n ks i) 5 o := by
  obtain ⟨o', ho', hop, hdst, hg, hdep⟩ := walkP5
  obtain rfl : o = o' := Option.some.inj (ho.symm.trans ho')
  intro l a w F hs h0 ha K hK
  have hd := depsB_at hdep ha
  have hsi : 5 < l.size := by rw [hs]; exact (Array.getElem?_eq_some_iff.1 ho).1
  have hno : l.getD 18 false = false := by
    cases e : l.getD 18 false with
    | false => rfl
    | true =>
      obtain ⟨ob18, qb18, _, _, _, db18⟩ := walkP18
      have cl17 := F.closed _ _ qb18 e _ db18 17 (by simp)
      obtain ⟨ob17, qb17, _, _, _, db17⟩ := walkP17
      have cl16 := F.closed _ _ qb17 cl17 _ db17 16 (by simp)
      obtain ⟨ob16, qb16, _, _, _, db16⟩ := walkP16
      have cl10 := F.closed _ _ qb16 cl16 _ db16 10 (by simp)
      obtain ⟨ob10, qb10, _, _, _, db10⟩ := walkP10
      have cl9 := F.closed _ _ qb10 cl10 _ db10 9 (by simp)
      obtain ⟨ob9, qb9, _, _, _, db9⟩ := walkP9
      have cl8 := F.closed _ _ qb9 cl9 _ db9 8 (by simp)
      obtain ⟨ob8, qb8, _, _, _, db8⟩ := walkP8
      have cl7 := F.closed _ _ qb8 cl8 _ db8 7 (by simp)
      obtain ⟨ob7, qb7, _, _, _, db7⟩ := walkP7
      have cl6 := F.closed _ _ qb7 cl7 _ db7 6 (by simp)
      obtain ⟨ob6, qb6, _, _, _, db6⟩ := walkP6
      have cl5 := F.closed _ _ qb6 cl6 _ db6 5 (by simp)
      rw [h0] at cl5; cases cl5
  have hb := F.base.1 hno
  have t8 := F.old (d := 8) (by kernel_rfl) h8
  exact stepF_value hg (v := .pointer (some ⟨nd, 1, none⟩)) (w' := w) (by simp [go_sem, execOp, hop, t8]) hK ⟨fun _ => hb, fun h => absurd h (by rw [setB_getD hsi, if_neg (by decide), hno]; decide)⟩ (.inr rfl) (fun _ _ _ _ _ _ _ _ _ h => h)
set_option maxHeartbeats 1000000 in
theorem walkS6 (hc : ∀ W, Below W5.heap.size W5 W → W.cell? ⟨nd, 0, none⟩ = some (.int .i64 n.1) ∧ W.cell? ⟨nd, 1, none⟩ = some (.int .i64 n.2.1) ∧ W.cell? ⟨nd, 2, none⟩ = some (.int .i64 n.2.2)) (ho : walkOps[6]? = some o) : StepF Tryz.prog walkOps Q a0 (fun _ => 1000) (fun l W => (l.getD 18 false = false → Below W5.heap.size W5 W) ∧ (l.getD 18 false = true → R W)) (fun _ i v _ => i = 18 ∨ v = walkV mb nd n ks i) 6 o := by
  obtain ⟨o', ho', hop, hdst, hg, hdep⟩ := walkP6
  obtain rfl : o = o' := Option.some.inj (ho.symm.trans ho')
  intro l a w F hs h0 ha K hK
  have hd := depsB_at hdep ha
  have hsi : 6 < l.size := by rw [hs]; exact (Array.getElem?_eq_some_iff.1 ho).1
  obtain ⟨o_f1, po_f1, _, pd_f1, _⟩ := walkP5
  obtain ⟨v_f1, e_f1, t_f1, g_f1⟩ := F.at_ po_f1 pd_f1 (hd 5 (by simp)) (walk_nv hs)
  obtain rfl : v_f1 = .pointer (some ⟨nd, 1, none⟩) := g_f1.resolve_left (by decide)
  have hno : l.getD 18 false = false := by
    cases e : l.getD 18 false with
    | false => rfl
    | true =>
      obtain ⟨ob18, qb18, _, _, _, db18⟩ := walkP18
      have cl17 := F.closed _ _ qb18 e _ db18 17 (by simp)
      obtain ⟨ob17, qb17, _, _, _, db17⟩ := walkP17
      have cl16 := F.closed _ _ qb17 cl17 _ db17 16 (by simp)
      obtain ⟨ob16, qb16, _, _, _, db16⟩ := walkP16
      have cl10 := F.closed _ _ qb16 cl16 _ db16 10 (by simp)
      obtain ⟨ob10, qb10, _, _, _, db10⟩ := walkP10
      have cl9 := F.closed _ _ qb10 cl10 _ db10 9 (by simp)
      obtain ⟨ob9, qb9, _, _, _, db9⟩ := walkP9
      have cl8 := F.closed _ _ qb9 cl9 _ db9 8 (by simp)
      obtain ⟨ob8, qb8, _, _, _, db8⟩ := walkP8
      have cl7 := F.closed _ _ qb8 cl8 _ db8 7 (by simp)
      obtain ⟨ob7, qb7, _, _, _, db7⟩ := walkP7
      have cl6 := F.closed _ _ qb7 cl7 _ db7 6 (by simp)
      rw [h0] at cl6; cases cl6
  have hb := F.base.1 hno
  obtain ⟨q0, q1, q2⟩ := hc w hb
  exact stepF_value hg (v := .int .i64 n.2.1) (w' := w) (by simp [go_sem, execOp, hop, t_f1, q1]) hK ⟨fun _ => hb, fun h => absurd h (by rw [setB_getD hsi, if_neg (by decide), hno]; decide)⟩ (.inr rfl) (fun _ _ _ _ _ _ _ _ _ h => h)
set_option maxHeartbeats 1000000 in
theorem walkS7 (hn : ∀ W, Below W5.heap.size W5 W → NumOf W mb ks) (hk : n.2.1 ∈ ks) (ho : walkOps[7]? = some o) : StepF Tryz.prog walkOps Q a0 (fun _ => 1000) (fun l W => (l.getD 18 false = false → Below W5.heap.size W5 W) ∧ (l.getD 18 false = true → R W)) (fun _ i v _ => i = 18 ∨ v = walkV mb nd n ks i) 7 o := by
  obtain ⟨o', ho', hop, hdst, hg, hdep⟩ := walkP7
  obtain rfl : o = o' := Option.some.inj (ho.symm.trans ho')
  intro l a w F hs h0 ha K hK
  have hd := depsB_at hdep ha
  have hsi : 7 < l.size := by rw [hs]; exact (Array.getElem?_eq_some_iff.1 ho).1
  obtain ⟨o_m1, po_m1, _, pd_m1, _⟩ := walkP4
  obtain ⟨v_m1, e_m1, t_m1, g_m1⟩ := F.at_ po_m1 pd_m1 (hd 4 (by simp)) (walk_nv hs)
  obtain rfl : v_m1 = .map (some mb) := g_m1.resolve_left (by decide)
  obtain ⟨o_l1, po_l1, _, pd_l1, _⟩ := walkP6
  obtain ⟨v_l1, e_l1, t_l1, g_l1⟩ := F.at_ po_l1 pd_l1 (hd 6 (by simp)) (walk_nv hs)
  obtain rfl : v_l1 = .int .i64 n.2.1 := g_l1.resolve_left (by decide)
  have hno : l.getD 18 false = false := by
    cases e : l.getD 18 false with
    | false => rfl
    | true =>
      obtain ⟨ob18, qb18, _, _, _, db18⟩ := walkP18
      have cl17 := F.closed _ _ qb18 e _ db18 17 (by simp)
      obtain ⟨ob17, qb17, _, _, _, db17⟩ := walkP17
      have cl16 := F.closed _ _ qb17 cl17 _ db17 16 (by simp)
      obtain ⟨ob16, qb16, _, _, _, db16⟩ := walkP16
      have cl10 := F.closed _ _ qb16 cl16 _ db16 10 (by simp)
      obtain ⟨ob10, qb10, _, _, _, db10⟩ := walkP10
      have cl9 := F.closed _ _ qb10 cl10 _ db10 9 (by simp)
      obtain ⟨ob9, qb9, _, _, _, db9⟩ := walkP9
      have cl8 := F.closed _ _ qb9 cl9 _ db9 8 (by simp)
      obtain ⟨ob8, qb8, _, _, _, db8⟩ := walkP8
      have cl7 := F.closed _ _ qb8 cl8 _ db8 7 (by simp)
      rw [h0] at cl7; cases cl7
  have hb := F.base.1 hno
  obtain ⟨mq, hq, _, hv⟩ := hn w hb
  have hrun := hq.lookup (P := Tryz.prog) (intKey Tryz.underlying3) Tryz.underlying60 (zeroInt _) (n.2.1) false
  rw [hv, if_pos hk] at hrun
  simp only [Option.getD_some] at hrun
  exact stepF_value hg (v := .int .i64 (numM ks n.2.1 : Int)) (w' := w) (by simp [go_sem, execOp, hop, t_m1, t_l1, hrun]) hK ⟨fun _ => hb, fun h => absurd h (by rw [setB_getD hsi, if_neg (by decide), hno]; decide)⟩ (.inr rfl) (fun _ _ _ _ _ _ _ _ _ h => h)
set_option maxHeartbeats 1000000 in
theorem walkS8 (hl : ∀ W, Below W5.heap.size W5 W → LaidR W) (hz : ks.length ≤ 5000) (hk : n.2.1 ∈ ks) (ho : walkOps[8]? = some o) : StepF Tryz.prog walkOps Q a0 (fun _ => 1000) (fun l W => (l.getD 18 false = false → Below W5.heap.size W5 W) ∧ (l.getD 18 false = true → R W)) (fun _ i v _ => i = 18 ∨ v = walkV mb nd n ks i) 8 o := by
  obtain ⟨o', ho', hop, hdst, hg, hdep⟩ := walkP8
  obtain rfl : o = o' := Option.some.inj (ho.symm.trans ho')
  intro l a w F hs h0 ha K hK
  have hd := depsB_at hdep ha
  have hsi : 8 < l.size := by rw [hs]; exact (Array.getElem?_eq_some_iff.1 ho).1
  obtain ⟨o_k1, po_k1, _, pd_k1, _⟩ := walkP7
  obtain ⟨v_k1, e_k1, t_k1, g_k1⟩ := F.at_ po_k1 pd_k1 (hd 7 (by simp)) (walk_nv hs)
  obtain rfl : v_k1 = .int .i64 (numM ks n.2.1 : Int) := g_k1.resolve_left (by decide)
  have hno : l.getD 18 false = false := by
    cases e : l.getD 18 false with
    | false => rfl
    | true =>
      obtain ⟨ob18, qb18, _, _, _, db18⟩ := walkP18
      have cl17 := F.closed _ _ qb18 e _ db18 17 (by simp)
      obtain ⟨ob17, qb17, _, _, _, db17⟩ := walkP17
      have cl16 := F.closed _ _ qb17 cl17 _ db17 16 (by simp)
      obtain ⟨ob16, qb16, _, _, _, db16⟩ := walkP16
      have cl10 := F.closed _ _ qb16 cl16 _ db16 10 (by simp)
      obtain ⟨ob10, qb10, _, _, _, db10⟩ := walkP10
      have cl9 := F.closed _ _ qb10 cl10 _ db10 9 (by simp)
      obtain ⟨ob9, qb9, _, _, _, db9⟩ := walkP9
      have cl8 := F.closed _ _ qb9 cl9 _ db9 8 (by simp)
      rw [h0] at cl8; cases cl8
  have hb := F.base.1 hno
  have := numM_lt hk
  have hc := itoa_any ((numM ks n.2.1 : Int)) w (by omega) (by omega) (hl w hb)
  have hw : Region.wanted o (yielded walkOps a.tmps) = true := by unfold Region.wanted; rw [hg]
  rw [if_pos hw]
  have hr : (execOp a.eval o).run Tryz.prog w = .ok (.enter 23 #[.int .i64 ((numM ks n.2.1 : Int))]) w := by simp [go_sem, execOp, hop, t_k1]
  unfold Oper.wp
  rw [hr, Oper.upon_enter]
  refine hc.mono ?_
  rintro e w' ⟨rfl, hb'⟩
  rw [show Lib.itoa ((numM ks n.2.1 : Int)) = dec (numM ks n.2.1) from itoa_dec _]
  exact hK _ w' ⟨fun _ => (hb.trans (hb'.mono hb.size)), fun h => absurd h (by rw [setB_getD hsi, if_neg (by decide), hno]; decide)⟩ (.inr rfl) (fun _ _ _ _ _ _ _ _ _ h => h)
set_option maxHeartbeats 1000000 in
theorem walkS9 (hD : (dec n.1.toNat).length ≤ 20 ∧ (dec (numM ks n.2.1)).length ≤ 20 ∧ (dec (numM ks n.2.2)).length ≤ 20) (ho : walkOps[9]? = some o) : StepF Tryz.prog walkOps Q a0 (fun _ => 1000) (fun l W => (l.getD 18 false = false → Below W5.heap.size W5 W) ∧ (l.getD 18 false = true → R W)) (fun _ i v _ => i = 18 ∨ v = walkV mb nd n ks i) 9 o := by
  obtain ⟨o', ho', hop, hdst, hg, hdep⟩ := walkP9
  obtain rfl : o = o' := Option.some.inj (ho.symm.trans ho')
  intro l a w F hs h0 ha K hK
  have hd := depsB_at hdep ha
  have hsi : 9 < l.size := by rw [hs]; exact (Array.getElem?_eq_some_iff.1 ho).1
  obtain ⟨o_s0, po_s0, _, pd_s0, _⟩ := walkP3
  obtain ⟨v_s0, e_s0, t_s0, g_s0⟩ := F.at_ po_s0 pd_s0 (hd 3 (by simp)) (walk_nv hs)
  obtain rfl : v_s0 = .string (bytB (dec n.1.toNat ++ [32])) := g_s0.resolve_left (by decide)
  obtain ⟨o_i1, po_i1, _, pd_i1, _⟩ := walkP8
  obtain ⟨v_i1, e_i1, t_i1, g_i1⟩ := F.at_ po_i1 pd_i1 (hd 8 (by simp)) (walk_nv hs)
  obtain rfl : v_i1 = .string (bytB (dec (numM ks n.2.1))) := g_i1.resolve_left (by decide)
  have hno : l.getD 18 false = false := by
    cases e : l.getD 18 false with
    | false => rfl
    | true =>
      obtain ⟨ob18, qb18, _, _, _, db18⟩ := walkP18
      have cl17 := F.closed _ _ qb18 e _ db18 17 (by simp)
      obtain ⟨ob17, qb17, _, _, _, db17⟩ := walkP17
      have cl16 := F.closed _ _ qb17 cl17 _ db17 16 (by simp)
      obtain ⟨ob16, qb16, _, _, _, db16⟩ := walkP16
      have cl10 := F.closed _ _ qb16 cl16 _ db16 10 (by simp)
      obtain ⟨ob10, qb10, _, _, _, db10⟩ := walkP10
      have cl9 := F.closed _ _ qb10 cl10 _ db10 9 (by simp)
      rw [h0] at cl9; cases cl9
  have hb := F.base.1 hno
  obtain ⟨hD0, hD1, hD2⟩ := hD
  exact stepF_value hg (v := .string (bytB ((dec n.1.toNat ++ [32]) ++ dec (numM ks n.2.1)))) (w' := w) (by exact run_cat hop e_s0 e_i1 (by simp; omega)) hK ⟨fun _ => hb, fun h => absurd h (by rw [setB_getD hsi, if_neg (by decide), hno]; decide)⟩ (.inr rfl) (fun _ _ _ _ _ _ _ _ _ h => h)
set_option maxHeartbeats 1000000 in
theorem walkS10 (hD : (dec n.1.toNat).length ≤ 20 ∧ (dec (numM ks n.2.1)).length ≤ 20 ∧ (dec (numM ks n.2.2)).length ≤ 20) (ho : walkOps[10]? = some o) : StepF Tryz.prog walkOps Q a0 (fun _ => 1000) (fun l W => (l.getD 18 false = false → Below W5.heap.size W5 W) ∧ (l.getD 18 false = true → R W)) (fun _ i v _ => i = 18 ∨ v = walkV mb nd n ks i) 10 o := by
  obtain ⟨o', ho', hop, hdst, hg, hdep⟩ := walkP10
  obtain rfl : o = o' := Option.some.inj (ho.symm.trans ho')
  intro l a w F hs h0 ha K hK
  have hd := depsB_at hdep ha
  have hsi : 10 < l.size := by rw [hs]; exact (Array.getElem?_eq_some_iff.1 ho).1
  obtain ⟨o_s1, po_s1, _, pd_s1, _⟩ := walkP9
  obtain ⟨v_s1, e_s1, t_s1, g_s1⟩ := F.at_ po_s1 pd_s1 (hd 9 (by simp)) (walk_nv hs)
  obtain rfl : v_s1 = .string (bytB ((dec n.1.toNat ++ [32]) ++ dec (numM ks n.2.1))) := g_s1.resolve_left (by decide)
  have hno : l.getD 18 false = false := by
    cases e : l.getD 18 false with
    | false => rfl
    | true =>
      obtain ⟨ob18, qb18, _, _, _, db18⟩ := walkP18
      have cl17 := F.closed _ _ qb18 e _ db18 17 (by simp)
      obtain ⟨ob17, qb17, _, _, _, db17⟩ := walkP17
      have cl16 := F.closed _ _ qb17 cl17 _ db17 16 (by simp)
      obtain ⟨ob16, qb16, _, _, _, db16⟩ := walkP16
      have cl10 := F.closed _ _ qb16 cl16 _ db16 10 (by simp)
      rw [h0] at cl10; cases cl10
  have hb := F.base.1 hno
  obtain ⟨hD0, hD1, hD2⟩ := hD
  exact stepF_value hg (v := .string (bytB (((dec n.1.toNat ++ [32]) ++ dec (numM ks n.2.1)) ++ [32]))) (w' := w) (by exact run_cat hop e_s1 rfl (by simp; omega)) hK ⟨fun _ => hb, fun h => absurd h (by rw [setB_getD hsi, if_neg (by decide), hno]; decide)⟩ (.inr rfl) (fun _ _ _ _ _ _ _ _ _ h => h)
set_option maxHeartbeats 1000000 in
theorem walkS11 (h1 : a0.tmps[1]? = some (.pointer (some ⟨nb, 0, none⟩))) (hm : ∀ W, Below W5.heap.size W5 W → W.cell? ⟨nb, 0, none⟩ = some (.map (some mb))) (ho : walkOps[11]? = some o) : StepF Tryz.prog walkOps Q a0 (fun _ => 1000) (fun l W => (l.getD 18 false = false → Below W5.heap.size W5 W) ∧ (l.getD 18 false = true → R W)) (fun _ i v _ => i = 18 ∨ v = walkV mb nd n ks i) 11 o := by
  obtain ⟨o', ho', hop, hdst, hg, hdep⟩ := walkP11
  obtain rfl : o = o' := Option.some.inj (ho.symm.trans ho')
  intro l a w F hs h0 ha K hK
  have hd := depsB_at hdep ha
  have hsi : 11 < l.size := by rw [hs]; exact (Array.getElem?_eq_some_iff.1 ho).1
  have hno : l.getD 18 false = false := by
    cases e : l.getD 18 false with
    | false => rfl
    | true =>
      obtain ⟨ob18, qb18, _, _, _, db18⟩ := walkP18
      have cl17 := F.closed _ _ qb18 e _ db18 17 (by simp)
      obtain ⟨ob17, qb17, _, _, _, db17⟩ := walkP17
      have cl16 := F.closed _ _ qb17 cl17 _ db17 16 (by simp)
      obtain ⟨ob16, qb16, _, _, _, db16⟩ := walkP16
      have cl15 := F.closed _ _ qb16 cl16 _ db16 15 (by simp)
      obtain ⟨ob15, qb15, _, _, _, db15⟩ := walkP15
      have cl14 := F.closed _ _ qb15 cl15 _ db15 14 (by simp)
      obtain ⟨ob14, qb14, _, _, _, db14⟩ := walkP14
      have cl11 := F.closed _ _ qb14 cl14 _ db14 11 (by simp)
      rw [h0] at cl11; cases cl11
  have hb := F.base.1 hno
  have t1 := F.old (d := 1) (by kernel_rfl) h1
  have q := hm w hb
  exact stepF_value hg (v := .map (some mb)) (w' := w) (by simp [go_sem, execOp, hop, t1, q]) hK ⟨fun _ => hb, fun h => absurd h (by rw [setB_getD hsi, if_neg (by decide), hno]; decide)⟩ (.inr rfl) (fun _ _ _ _ _ _ _ _ _ h => h)
set_option maxHeartbeats 1000000 in
theorem walkS12 (h8 : a0.tmps[8]? = some (.pointer (some ⟨nd, 0, none⟩))) (ho : walkOps[12]? = some o) : StepF Tryz.prog walkOps Q a0 (fun _ => 1000) (fun l W => (l.getD 18 false = false → Below W5.heap.size W5 W) ∧ (l.getD 18 false = true → R W)) (fun _ i v _ => i = 18 ∨ v = walkV mb nd n ks i) 12 o := by
  obtain ⟨o', ho', hop, hdst, hg, hdep⟩ := walkP12
  obtain rfl : o = o' := Option.some.inj (ho.symm.trans ho')
  intro l a w F hs h0 ha K hK
  have hd := depsB_at hdep ha
  have hsi : 12 < l.size := by rw [hs]; exact (Array.getElem?_eq_some_iff.1 ho).1
  have hno : l.getD 18 false = false := by
    cases e : l.getD 18 false with
    | false => rfl
    | true =>
      obtain ⟨ob18, qb18, _, _, _, db18⟩ := walkP18
      have cl17 := F.closed _ _ qb18 e _ db18 17 (by simp)
      obtain ⟨ob17, qb17, _, _, _, db17⟩ := walkP17
      have cl16 := F.closed _ _ qb17 cl17 _ db17 16 (by simp)
      obtain ⟨ob16, qb16, _, _, _, db16⟩ := walkP16
      have cl15 := F.closed _ _ qb16 cl16 _ db16 15 (by simp)
      obtain ⟨ob15, qb15, _, _, _, db15⟩ := walkP15
      have cl14 := F.closed _ _ qb15 cl15 _ db15 14 (by simp)
      obtain ⟨ob14, qb14, _, _, _, db14⟩ := walkP14
      have cl13 := F.closed _ _ qb14 cl14 _ db14 13 (by simp)
      obtain ⟨ob13, qb13, _, _, _, db13⟩ := walkP13
      have cl12 := F.closed _ _ qb13 cl13 _ db13 12 (by simp)
      rw [h0] at cl12; cases cl12
  have hb := F.base.1 hno
  have t8 := F.old (d := 8) (by kernel_rfl) h8
  exact stepF_value hg (v := .pointer (some ⟨nd, 2, none⟩)) (w' := w) (by simp [go_sem, execOp, hop, t8]) hK ⟨fun _ => hb, fun h => absurd h (by rw [setB_getD hsi, if_neg (by decide), hno]; decide)⟩ (.inr rfl) (fun _ _ _ _ _ _ _ _ _ h => h)
set_option maxHeartbeats 1000000 in
theorem walkS13 (hc : ∀ W, Below W5.heap.size W5 W → W.cell? ⟨nd, 0, none⟩ = some (.int .i64 n.1) ∧ W.cell? ⟨nd, 1, none⟩ = some (.int .i64 n.2.1) ∧ W.cell? ⟨nd, 2, none⟩ = some (.int .i64 n.2.2)) (ho : walkOps[13]? = some o) : StepF Tryz.prog walkOps Q a0 (fun _ => 1000) (fun l W => (l.getD 18 false = false → Below W5.heap.size W5 W) ∧ (l.getD 18 false = true → R W)) (fun _ i v _ => i = 18 ∨ v = walkV mb nd n ks i) 13 o := by
  obtain ⟨o', ho', hop, hdst, hg, hdep⟩ := walkP13
  obtain rfl : o = o' := Option.some.inj (ho.symm.trans ho')
  intro l a w F hs h0 ha K hK
  have hd := depsB_at hdep ha
  have hsi : 13 < l.size := by rw [hs]; exact (Array.getElem?_eq_some_iff.1 ho).1
  obtain ⟨o_f2, po_f2, _, pd_f2, _⟩ := walkP12
  obtain ⟨v_f2, e_f2, t_f2, g_f2⟩ := F.at_ po_f2 pd_f2 (hd 12 (by simp)) (walk_nv hs)
  obtain rfl : v_f2 = .pointer (some ⟨nd, 2, none⟩) := g_f2.resolve_left (by decide)
  have hno : l.getD 18 false = false := by
    cases e : l.getD 18 false with
    | false => rfl
    | true =>
      obtain ⟨ob18, qb18, _, _, _, db18⟩ := walkP18
      have cl17 := F.closed _ _ qb18 e _ db18 17 (by simp)
      obtain ⟨ob17, qb17, _, _, _, db17⟩ := walkP17
      have cl16 := F.closed _ _ qb17 cl17 _ db17 16 (by simp)
      obtain ⟨ob16, qb16, _, _, _, db16⟩ := walkP16
      have cl15 := F.closed _ _ qb16 cl16 _ db16 15 (by simp)
      obtain ⟨ob15, qb15, _, _, _, db15⟩ := walkP15
      have cl14 := F.closed _ _ qb15 cl15 _ db15 14 (by simp)
      obtain ⟨ob14, qb14, _, _, _, db14⟩ := walkP14
      have cl13 := F.closed _ _ qb14 cl14 _ db14 13 (by simp)
      rw [h0] at cl13; cases cl13
  have hb := F.base.1 hno
  obtain ⟨q0, q1, q2⟩ := hc w hb
  exact stepF_value hg (v := .int .i64 n.2.2) (w' := w) (by simp [go_sem, execOp, hop, t_f2, q2]) hK ⟨fun _ => hb, fun h => absurd h (by rw [setB_getD hsi, if_neg (by decide), hno]; decide)⟩ (.inr rfl) (fun _ _ _ _ _ _ _ _ _ h => h)
set_option maxHeartbeats 1000000 in
theorem walkS14 (hn : ∀ W, Below W5.heap.size W5 W → NumOf W mb ks) (hk : n.2.2 ∈ ks) (ho : walkOps[14]? = some o) : StepF Tryz.prog walkOps Q a0 (fun _ => 1000) (fun l W => (l.getD 18 false = false → Below W5.heap.size W5 W) ∧ (l.getD 18 false = true → R W)) (fun _ i v _ => i = 18 ∨ v = walkV mb nd n ks i) 14 o := by
  obtain ⟨o', ho', hop, hdst, hg, hdep⟩ := walkP14
  obtain rfl : o = o' := Option.some.inj (ho.symm.trans ho')
  intro l a w F hs h0 ha K hK
  have hd := depsB_at hdep ha
  have hsi : 14 < l.size := by rw [hs]; exact (Array.getElem?_eq_some_iff.1 ho).1
  obtain ⟨o_m2, po_m2, _, pd_m2, _⟩ := walkP11
  obtain ⟨v_m2, e_m2, t_m2, g_m2⟩ := F.at_ po_m2 pd_m2 (hd 11 (by simp)) (walk_nv hs)
  obtain rfl : v_m2 = .map (some mb) := g_m2.resolve_left (by decide)
  obtain ⟨o_l2, po_l2, _, pd_l2, _⟩ := walkP13
  obtain ⟨v_l2, e_l2, t_l2, g_l2⟩ := F.at_ po_l2 pd_l2 (hd 13 (by simp)) (walk_nv hs)
  obtain rfl : v_l2 = .int .i64 n.2.2 := g_l2.resolve_left (by decide)
  have hno : l.getD 18 false = false := by
    cases e : l.getD 18 false with
    | false => rfl
    | true =>
      obtain ⟨ob18, qb18, _, _, _, db18⟩ := walkP18
      have cl17 := F.closed _ _ qb18 e _ db18 17 (by simp)
      obtain ⟨ob17, qb17, _, _, _, db17⟩ := walkP17
      have cl16 := F.closed _ _ qb17 cl17 _ db17 16 (by simp)
      obtain ⟨ob16, qb16, _, _, _, db16⟩ := walkP16
      have cl15 := F.closed _ _ qb16 cl16 _ db16 15 (by simp)
      obtain ⟨ob15, qb15, _, _, _, db15⟩ := walkP15
      have cl14 := F.closed _ _ qb15 cl15 _ db15 14 (by simp)
      rw [h0] at cl14; cases cl14
  have hb := F.base.1 hno
  obtain ⟨mq, hq, _, hv⟩ := hn w hb
  have hrun := hq.lookup (P := Tryz.prog) (intKey Tryz.underlying3) Tryz.underlying60 (zeroInt _) (n.2.2) false
  rw [hv, if_pos hk] at hrun
  simp only [Option.getD_some] at hrun
  exact stepF_value hg (v := .int .i64 (numM ks n.2.2 : Int)) (w' := w) (by simp [go_sem, execOp, hop, t_m2, t_l2, hrun]) hK ⟨fun _ => hb, fun h => absurd h (by rw [setB_getD hsi, if_neg (by decide), hno]; decide)⟩ (.inr rfl) (fun _ _ _ _ _ _ _ _ _ h => h)
set_option maxHeartbeats 1000000 in
theorem walkS15 (hl : ∀ W, Below W5.heap.size W5 W → LaidR W) (hz : ks.length ≤ 5000) (hk : n.2.2 ∈ ks) (ho : walkOps[15]? = some o) : StepF Tryz.prog walkOps Q a0 (fun _ => 1000) (fun l W => (l.getD 18 false = false → Below W5.heap.size W5 W) ∧ (l.getD 18 false = true → R W)) (fun _ i v _ => i = 18 ∨ v = walkV mb nd n ks i) 15 o := by
  obtain ⟨o', ho', hop, hdst, hg, hdep⟩ := walkP15
  obtain rfl : o = o' := Option.some.inj (ho.symm.trans ho')
  intro l a w F hs h0 ha K hK
  have hd := depsB_at hdep ha
  have hsi : 15 < l.size := by rw [hs]; exact (Array.getElem?_eq_some_iff.1 ho).1
  obtain ⟨o_k2, po_k2, _, pd_k2, _⟩ := walkP14
  obtain ⟨v_k2, e_k2, t_k2, g_k2⟩ := F.at_ po_k2 pd_k2 (hd 14 (by simp)) (walk_nv hs)
  obtain rfl : v_k2 = .int .i64 (numM ks n.2.2 : Int) := g_k2.resolve_left (by decide)
  have hno : l.getD 18 false = false := by
    cases e : l.getD 18 false with
    | false => rfl
    | true =>
      obtain ⟨ob18, qb18, _, _, _, db18⟩ := walkP18
      have cl17 := F.closed _ _ qb18 e _ db18 17 (by simp)
      obtain ⟨ob17, qb17, _, _, _, db17⟩ := walkP17
      have cl16 := F.closed _ _ qb17 cl17 _ db17 16 (by simp)
      obtain ⟨ob16, qb16, _, _, _, db16⟩ := walkP16
      have cl15 := F.closed _ _ qb16 cl16 _ db16 15 (by simp)
      rw [h0] at cl15; cases cl15
  have hb := F.base.1 hno
  have := numM_lt hk
  have hc := itoa_any ((numM ks n.2.2 : Int)) w (by omega) (by omega) (hl w hb)
  have hw : Region.wanted o (yielded walkOps a.tmps) = true := by unfold Region.wanted; rw [hg]
  rw [if_pos hw]
  have hr : (execOp a.eval o).run Tryz.prog w = .ok (.enter 23 #[.int .i64 ((numM ks n.2.2 : Int))]) w := by simp [go_sem, execOp, hop, t_k2]
  unfold Oper.wp
  rw [hr, Oper.upon_enter]
  refine hc.mono ?_
  rintro e w' ⟨rfl, hb'⟩
  rw [show Lib.itoa ((numM ks n.2.2 : Int)) = dec (numM ks n.2.2) from itoa_dec _]
  exact hK _ w' ⟨fun _ => (hb.trans (hb'.mono hb.size)), fun h => absurd h (by rw [setB_getD hsi, if_neg (by decide), hno]; decide)⟩ (.inr rfl) (fun _ _ _ _ _ _ _ _ _ h => h)
set_option maxHeartbeats 1000000 in
theorem walkS16 (hD : (dec n.1.toNat).length ≤ 20 ∧ (dec (numM ks n.2.1)).length ≤ 20 ∧ (dec (numM ks n.2.2)).length ≤ 20) (ho : walkOps[16]? = some o) : StepF Tryz.prog walkOps Q a0 (fun _ => 1000) (fun l W => (l.getD 18 false = false → Below W5.heap.size W5 W) ∧ (l.getD 18 false = true → R W)) (fun _ i v _ => i = 18 ∨ v = walkV mb nd n ks i) 16 o := by
  obtain ⟨o', ho', hop, hdst, hg, hdep⟩ := walkP16
  obtain rfl : o = o' := Option.some.inj (ho.symm.trans ho')
  intro l a w F hs h0 ha K hK
  have hd := depsB_at hdep ha
  have hsi : 16 < l.size := by rw [hs]; exact (Array.getElem?_eq_some_iff.1 ho).1
  obtain ⟨o_s2, po_s2, _, pd_s2, _⟩ := walkP10
  obtain ⟨v_s2, e_s2, t_s2, g_s2⟩ := F.at_ po_s2 pd_s2 (hd 10 (by simp)) (walk_nv hs)
  obtain rfl : v_s2 = .string (bytB (((dec n.1.toNat ++ [32]) ++ dec (numM ks n.2.1)) ++ [32])) := g_s2.resolve_left (by decide)
  obtain ⟨o_i2, po_i2, _, pd_i2, _⟩ := walkP15
  obtain ⟨v_i2, e_i2, t_i2, g_i2⟩ := F.at_ po_i2 pd_i2 (hd 15 (by simp)) (walk_nv hs)
  obtain rfl : v_i2 = .string (bytB (dec (numM ks n.2.2))) := g_i2.resolve_left (by decide)
  have hno : l.getD 18 false = false := by
    cases e : l.getD 18 false with
    | false => rfl
    | true =>
      obtain ⟨ob18, qb18, _, _, _, db18⟩ := walkP18
      have cl17 := F.closed _ _ qb18 e _ db18 17 (by simp)
      obtain ⟨ob17, qb17, _, _, _, db17⟩ := walkP17
      have cl16 := F.closed _ _ qb17 cl17 _ db17 16 (by simp)
      rw [h0] at cl16; cases cl16
  have hb := F.base.1 hno
  obtain ⟨hD0, hD1, hD2⟩ := hD
  exact stepF_value hg (v := .string (bytB ((((dec n.1.toNat ++ [32]) ++ dec (numM ks n.2.1)) ++ [32]) ++ dec (numM ks n.2.2)))) (w' := w) (by exact run_cat hop e_s2 e_i2 (by simp; omega)) hK ⟨fun _ => hb, fun h => absurd h (by rw [setB_getD hsi, if_neg (by decide), hno]; decide)⟩ (.inr rfl) (fun _ _ _ _ _ _ _ _ _ h => h)
set_option maxHeartbeats 1000000 in
theorem walkS17 (hD : (dec n.1.toNat).length ≤ 20 ∧ (dec (numM ks n.2.1)).length ≤ 20 ∧ (dec (numM ks n.2.2)).length ≤ 20) (ho : walkOps[17]? = some o) : StepF Tryz.prog walkOps Q a0 (fun _ => 1000) (fun l W => (l.getD 18 false = false → Below W5.heap.size W5 W) ∧ (l.getD 18 false = true → R W)) (fun _ i v _ => i = 18 ∨ v = walkV mb nd n ks i) 17 o := by
  obtain ⟨o', ho', hop, hdst, hg, hdep⟩ := walkP17
  obtain rfl : o = o' := Option.some.inj (ho.symm.trans ho')
  intro l a w F hs h0 ha K hK
  have hd := depsB_at hdep ha
  have hsi : 17 < l.size := by rw [hs]; exact (Array.getElem?_eq_some_iff.1 ho).1
  obtain ⟨o_s3, po_s3, _, pd_s3, _⟩ := walkP16
  obtain ⟨v_s3, e_s3, t_s3, g_s3⟩ := F.at_ po_s3 pd_s3 (hd 16 (by simp)) (walk_nv hs)
  obtain rfl : v_s3 = .string (bytB ((((dec n.1.toNat ++ [32]) ++ dec (numM ks n.2.1)) ++ [32]) ++ dec (numM ks n.2.2))) := g_s3.resolve_left (by decide)
  have hno : l.getD 18 false = false := by
    cases e : l.getD 18 false with
    | false => rfl
    | true =>
      obtain ⟨ob18, qb18, _, _, _, db18⟩ := walkP18
      have cl17 := F.closed _ _ qb18 e _ db18 17 (by simp)
      rw [h0] at cl17; cases cl17
  have hb := F.base.1 hno
  obtain ⟨hD0, hD1, hD2⟩ := hD
  exact stepF_value hg (v := .string (bytB (((((dec n.1.toNat ++ [32]) ++ dec (numM ks n.2.1)) ++ [32]) ++ dec (numM ks n.2.2)) ++ [10]))) (w' := w) (by exact run_cat hop e_s3 rfl (by simp; omega)) hK ⟨fun _ => hb, fun h => absurd h (by rw [setB_getD hsi, if_neg (by decide), hno]; decide)⟩ (.inr rfl) (fun _ _ _ _ _ _ _ _ _ h => h)
set_option maxHeartbeats 1000000 in
theorem walkS18 (h4 : a0.tmps[4]? = some (.pointer (some ⟨bb, 0, none⟩))) (hw : ∀ W, Below W5.heap.size W5 W → Calls Tryz.prog 22 #[.pointer (some ⟨bb, 0, none⟩), .string (bytB (((((dec n.1.toNat ++ [32]) ++ dec (numM ks n.2.1)) ++ [32]) ++ dec (numM ks n.2.2)) ++ [10]))] W fun e w' => ∃ v, e = .returned v ∧ R w') (ho : walkOps[18]? = some o) : StepF Tryz.prog walkOps Q a0 (fun _ => 1000) (fun l W => (l.getD 18 false = false → Below W5.heap.size W5 W) ∧ (l.getD 18 false = true → R W)) (fun _ i v _ => i = 18 ∨ v = walkV mb nd n ks i) 18 o := by
  obtain ⟨o', ho', hop, hdst, hg, hdep⟩ := walkP18
  obtain rfl : o = o' := Option.some.inj (ho.symm.trans ho')
  intro l a w F hs h0 ha K hK
  have hd := depsB_at hdep ha
  have hsi : 18 < l.size := by rw [hs]; exact (Array.getElem?_eq_some_iff.1 ho).1
  obtain ⟨o_s4, po_s4, _, pd_s4, _⟩ := walkP17
  obtain ⟨v_s4, e_s4, t_s4, g_s4⟩ := F.at_ po_s4 pd_s4 (hd 17 (by simp)) (walk_nv hs)
  obtain rfl : v_s4 = .string (bytB (((((dec n.1.toNat ++ [32]) ++ dec (numM ks n.2.1)) ++ [32]) ++ dec (numM ks n.2.2)) ++ [10])) := g_s4.resolve_left (by decide)
  have hno : l.getD 18 false = false := h0
  have hb := F.base.1 hno
  have t4 := F.old (d := 4) (by kernel_rfl) h4
  have hc := hw w hb
  have hw : Region.wanted o (yielded walkOps a.tmps) = true := by unfold Region.wanted; rw [hg]
  rw [if_pos hw]
  have hr : (execOp a.eval o).run Tryz.prog w = .ok (.enter 22 #[.pointer (some ⟨bb, 0, none⟩), .string (bytB (((((dec n.1.toNat ++ [32]) ++ dec (numM ks n.2.1)) ++ [32]) ++ dec (numM ks n.2.2)) ++ [10]))]) w := by simp [go_sem, execOp, hop, t4, t_s4]
  unfold Oper.wp
  rw [hr, Oper.upon_enter]
  refine hc.mono ?_
  rintro e w' ⟨v, rfl, hR⟩
  exact hK _ w' ⟨fun h => absurd h (by rw [setB_getD hsi, if_pos rfl]; decide), fun _ => hR⟩ (.inl rfl) (fun _ _ _ _ _ _ _ _ _ h => h)
end
/-- The region. -/
theorem walkR_any {Q : Exit → Act → World → Prop} {a0 : Act} {R : World → Prop} {nb mb bb nd : Nat} {n : Nd} {ks : List Int} {W5 : World} (hsz : a0.tmps.size = 57)
    (h1 : a0.tmps[1]? = some (.pointer (some ⟨nb, 0, none⟩))) (h4 : a0.tmps[4]? = some (.pointer (some ⟨bb, 0, none⟩))) (h8 : a0.tmps[8]? = some (.pointer (some ⟨nd, 0, none⟩)))
    (hc : ∀ W, Below W5.heap.size W5 W → W.cell? ⟨nd, 0, none⟩ = some (.int .i64 n.1) ∧ W.cell? ⟨nd, 1, none⟩ = some (.int .i64 n.2.1) ∧ W.cell? ⟨nd, 2, none⟩ = some (.int .i64 n.2.2)) (hm : ∀ W, Below W5.heap.size W5 W → W.cell? ⟨nb, 0, none⟩ = some (.map (some mb))) (hn : ∀ W, Below W5.heap.size W5 W → NumOf W mb ks) (hl : ∀ W, Below W5.heap.size W5 W → LaidR W) (hk1 : n.2.1 ∈ ks) (hk2 : n.2.2 ∈ ks) (hz : n.1 < 24 ∧ 0 ≤ n.1) (hz2 : ks.length ≤ 5000) (hD : (dec n.1.toNat).length ≤ 20 ∧ (dec (numM ks n.2.1)).length ≤ 20 ∧ (dec (numM ks n.2.2)).length ≤ 20)
    (hw : ∀ W, Below W5.heap.size W5 W → Calls Tryz.prog 22 #[.pointer (some ⟨bb, 0, none⟩), .string (bytB (((((dec n.1.toNat ++ [32]) ++ dec (numM ks n.2.1)) ++ [32]) ++ dec (numM ks n.2.2)) ++ [10]))] W fun e w' => ∃ v, e = .returned v ∧ R w')
    (hQ : ∀ a w', a.tmps.size = 57 → a.defers = a0.defers → R w' → Q .normal a w') : (Code.region 6 walkOps true).wp Tryz.prog Q a0 W5 := by
  have key : ∀ i, i < 19 → ∀ o, walkOps[i]? = some o → StepF Tryz.prog walkOps Q a0 (fun _ => 1000) (fun l W => (l.getD 18 false = false → Below W5.heap.size W5 W) ∧ (l.getD 18 false = true → R W)) (fun _ i v _ => i = 18 ∨ v = walkV mb nd n ks i) i o := fun i hi => match i, hi with
    | 0, _ => fun o ho => walkS0 h8 ho
    | 1, _ => fun o ho => walkS1 hc ho
    | 2, _ => fun o ho => walkS2 hl hz ho
    | 3, _ => fun o ho => walkS3 hD ho
    | 4, _ => fun o ho => walkS4 h1 hm ho
    | 5, _ => fun o ho => walkS5 h8 ho
    | 6, _ => fun o ho => walkS6 hc ho
    | 7, _ => fun o ho => walkS7 hn hk1 ho
    | 8, _ => fun o ho => walkS8 hl hz2 hk1 ho
    | 9, _ => fun o ho => walkS9 hD ho
    | 10, _ => fun o ho => walkS10 hD ho
    | 11, _ => fun o ho => walkS11 h1 hm ho
    | 12, _ => fun o ho => walkS12 h8 ho
    | 13, _ => fun o ho => walkS13 hc ho
    | 14, _ => fun o ho => walkS14 hn hk2 ho
    | 15, _ => fun o ho => walkS15 hl hz2 hk2 ho
    | 16, _ => fun o ho => walkS16 hD ho
    | 17, _ => fun o ho => walkS17 hD ho
    | 18, _ => fun o ho => walkS18 h4 hw ho
    | k + 19, h => absurd h (by omega)
  refine wp_region_facts (fun _ => 1000) (fun l W => (l.getD 18 false = false → Below W5.heap.size W5 W) ∧ (l.getD 18 false = true → R W)) (fun _ i v _ => i = 18 ∨ v = walkV mb nd n ks i) (by kernel_rfl) walk_lat (by rw [hsz]; kernel_rfl) ⟨fun _ => (Below.refl _ _).drew, fun h => absurd h (by rw [Array.getD_eq_getD_getElem?, Array.getElem?_replicate]; split <;> decide)⟩ (allF_of fun i o ho => ?_) (fun l a w' hall hs F => ?_)
  · have ho' : walkOps[i]? = some o := by simpa using ho
    have hi := (Array.getElem?_eq_some_iff.1 ho').1
    rw [walk_size] at hi
    rw [Nat.zero_add]
    exact key i hi o ho'
  · exact hQ a w' (by rw [F.size, hsz]) F.df (F.base.2 (hall 18 (by rw [walk_size]; decide)))
end Go.Proofs.YthmflcmbaldflaaGreatDoor
