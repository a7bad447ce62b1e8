/- The last region of solspacekeep.NatField, in one order. (Printed by gen_nflast.py.) -/
import Derived.Test.YtdeaficdfooegaaDoorTxt
import Derived.Test.YtdeaficdfooegaaDoorNatCounts
import Derived.Test.YtdeaficdfooegaaDoorNatBad
import Derived.Test.YtdeaficdfooegaaDoorNatSub
import Derived.Test.YtdeaficdfooegaaDoorNatDbl
import Derived.Test.YtdeaficdfooegaaDoorPick
namespace Go.Proofs.YtdeaficdfooegaaDoor
open Go.RowKit Go.Lib
set_option linter.unusedVariables false

theorem lt10_mul {a b i j : Nat} (ha : a < 10 ^ i) (hb : b < 10 ^ j) : a * b < 10 ^ (i + j) := by
  rw [Nat.pow_add]; exact Nat.mul_lt_mul'' ha hb
theorem lt10_add {a b i : Nat} (ha : a < 10 ^ i) (hb : b < 10 ^ i) : a + b < 10 ^ (i + 1) := by
  rw [Nat.pow_succ]; omega
theorem lt10_two {T : Nat} (hT : T < 200) : 2 ^ T < 10 ^ 100 := by
  have h1 : 2 ^ T ≤ 2 ^ 200 := Nat.pow_le_pow_right (by decide) (by omega)
  have h2 : (2 : Nat) ^ 200 < 10 ^ 100 := by decide
  omega
theorem AddS (a b : Nat) (va vb : Value) (w : World) (ha : IsNat w va a) (hb : IsNat w vb b) (sa : Sm a) (sb : Sm b) :
    Calls Tryd.prog 13 #[va, vb] w fun e w' => ∃ v, e = .returned v ∧ IsNat w' v (a + b) ∧ Below w.heap.size w w' := Add_any a b va vb w ha hb (small_limbs sa) (small_limbs sb)
theorem MulS (a b : Nat) (va vb : Value) (w : World) (ha : IsNat w va a) (hb : IsNat w vb b) (sa : Sm a) (sb : Sm b) :
    Calls Tryd.prog 16 #[va, vb] w fun e w' => ∃ v, e = .returned v ∧ IsNat w' v (a * b) ∧ Below w.heap.size w w' := Mul_any a b va vb w ha hb (small_limbs sa) (small_limbs sb)
theorem SubS (a b : Nat) (va vb : Value) (w : World) (ha : IsNat w va (a + b)) (hb : IsNat w vb b) (sa : Sm (a + b)) :
    Calls Tryd.prog 14 #[va, vb] w fun e w' => ∃ v, e = .returned (.tuple #[v, .nilIface]) ∧ IsNat w' v a ∧ Below w.heap.size w w' := by
  have h := Sub_any (a + b) b va vb w ha hb (Nat.le_add_left _ _) (small_limbs sa)
  rw [Nat.add_sub_cancel] at h; exact h
theorem SameS (a b : Nat) (va vb : Value) (w : World) (ha : IsNat w va a) (hb : IsNat w vb b) (e : a = b) (sa : Sm a) :
    Calls Tryd.prog 10 #[va, vb] w fun e w' => e = .returned (.bool true) ∧ Below w.heap.size w w' := by
  subst e; exact Same_any a va vb w ha hb sa
theorem DblS (a T : Nat) (va : Value) (w : World) (ha : IsNat w va a) (hT : T ≤ 1000) (sa : Sm (a * 2 ^ T)) :
    Calls Tryd.prog 17 #[va, .int .i64 T] w fun e w' => ∃ v, e = .returned v ∧ IsNat w' v (a * 2 ^ T) ∧ Below w.heap.size w w' := Double_any a T va w ha hT (small_limbs sa)
theorem good_lt {s : ByteArray} (h : goodD s.data.toList = true) (h100 : s.size ≤ 100) : valD s.data.toList < 10 ^ 100 := by
  unfold goodD at h
  simp only [Bool.and_eq_true, List.all_eq_true] at h
  have h1 := valD_lt s.data.toList h.1.2
  have h2 : (10 : Nat) ^ s.data.toList.length ≤ 10 ^ 100 := Nat.pow_le_pow_right (by decide) (by simpa using h100)
  exact Nat.lt_of_lt_of_le h1 h2
theorem bel_alloc {w : World} (o : Obj) : Below w.heap.size w (w.alloc o) := (Below.refl _ _).alloc (Nat.le_refl _) _
theorem BoxI.store {w wr : World} {b b9 : Nat} {s1 : Value} {n : Nat} {a : Option Addr} {k c : Nat} (h : BoxI w wr b s1 n) (hk : wr.heap[b9]? = some (.cells #[.slice a k c] 24 (0, 0))) (hne : b < b9) (hlo : w.heap.size ≤ b9) (u : Value) : BoxI w (wr.setCell ⟨b9, 0, none⟩ u) b s1 n :=
  ⟨h.below.setCell hlo u, (Below.heap_setCell _ _ _ _ (fun e => absurd e (by simp; omega))).trans h.b1, h.n1.setRes hk u⟩
theorem BoxI.fresh {w wr : World} {b9 : Nat} {n : Nat} {a a9 : Option Addr} {k c k9 c9 : Nat} (hb : Below w.heap.size w wr) (hk : wr.heap[b9]? = some (.cells #[.slice a k c] 24 (0, 0))) (hlo : w.heap.size ≤ b9) (hn : IsNat wr (.agg #[.slice a9 k9 c9]) n) : BoxI w (wr.setCell ⟨b9, 0, none⟩ (.slice a9 k9 c9)) b9 (.slice a9 k9 c9) n :=
  ⟨hb.setCell hlo _, one_setCell hk, hn.setRes hk _⟩
theorem IsNat.shape3 {w : World} {v : Value} {n : Nat} (h : IsNat w v n) : ∃ a k c, v = .agg #[.slice a k c] := by
  obtain ⟨a, c, e⟩ := h.shape; exact ⟨a, _, c, e⟩
structure FI (w wr : World) (b1 b2 b3 b4 : Nat) (s1 s2 s3 s4 : Value) (x y z : Nat) : Prop where
  k1 : BoxI w wr b1 s1 x
  k2 : BoxI w wr b2 s2 y
  k3 : BoxI w wr b3 s3 z
  k4 : BoxI w wr b4 s4 x
theorem FI.grow {w wr w2 : World} {b1 b2 b3 b4 : Nat} {s1 s2 s3 s4 : Value} {x y z : Nat} (h : FI w wr b1 b2 b3 b4 s1 s2 s3 s4 x y z) (hb : Below wr.heap.size wr w2) : FI w w2 b1 b2 b3 b4 s1 s2 s3 s4 x y z :=
  ⟨h.k1.grow hb, h.k2.grow hb, h.k3.grow hb, h.k4.grow hb⟩
/-- All numbers that come up are small. -/
structure Smalls (x y z T : Nat) : Prop where
  s_x : Sm x
  s_y : Sm y
  s_z : Sm z
  s_xy : Sm (x + y)
  s_yx : Sm (y + x)
  s_yz : Sm (y + z)
  s_xyz : Sm (x + y + z)
  s_x_yz : Sm (x + (y + z))
  s_mxy : Sm (x * y)
  s_myx : Sm (y * x)
  s_myz : Sm (y * z)
  s_mxz : Sm (x * z)
  s_mxyz : Sm (x * y * z)
  s_md : Sm (x * (y + z))
  s_xT : Sm (x * 2 ^ T)
  s_oT : Sm (1 * 2 ^ T)
theorem smalls {x y z T : Nat} (hx : x < 10 ^ 100) (hy : y < 10 ^ 100) (hz : z < 10 ^ 100) (hT : T < 200) : Smalls x y z T := by
  have ht := lt10_two hT
  have e1 : (10 : Nat) ^ (100 + 1) = 10 ^ 101 := rfl
  have hz1 : z < 10 ^ 101 := by rw [← e1, Nat.pow_succ]; omega
  have hx1 : x < 10 ^ 101 := by rw [← e1, Nat.pow_succ]; omega
  exact ⟨⟨_, by decide, hx⟩, ⟨_, by decide, hy⟩, ⟨_, by decide, hz⟩, ⟨_, by decide, lt10_add hx hy⟩, ⟨_, by decide, lt10_add hy hx⟩, ⟨_, by decide, lt10_add hy hz⟩, ⟨_, by decide, lt10_add (lt10_add hx hy) hz1⟩, ⟨_, by decide, lt10_add hx1 (lt10_add hy hz)⟩, ⟨_, by decide, lt10_mul hx hy⟩, ⟨_, by decide, lt10_mul hy hx⟩, ⟨_, by decide, lt10_mul hy hz⟩, ⟨_, by decide, lt10_mul hx hz⟩, ⟨_, by decide, lt10_mul (lt10_mul hx hy) hz⟩, ⟨_, by decide, lt10_mul hx (lt10_add hy hz)⟩, ⟨_, by decide, lt10_mul hx ht⟩, ⟨100, by decide, by rw [Nat.one_mul]; exact ht⟩⟩


def findR (n : Nat) : Code → Option (Array Oper)
  | .region k ops _ => if k = n then some ops else none
  | .seq a b => match findR n a with
    | some c => some c
    | none => findR n b
  | .block _ c => findR n c
  | .scope c => findR n c
  | .cond _ a b => match findR n a with
    | some c => some c
    | none => findR n b
  | .loop c => findR n c
  | _ => none
noncomputable def nfOps : Array Oper := (Tryd.f3.body.bind (findR 11)).getD #[]
theorem op_fact {ops : Array Oper} {i : Nat} {x : Op × Option Nat × Option (Nat × Bool)} (h : (ops[i]?).map (fun o => (o.op, o.dst, o.guard)) = some x) : ∃ o, ops[i]? = some o ∧ o.op = x.1 ∧ o.dst = x.2.1 ∧ o.guard = x.2.2 := by
  cases e : ops[i]? with
  | none => rw [e] at h; cases h
  | some o => rw [e] at h; simp only [Option.map_some, Option.some.injEq] at h; subst h; exact ⟨o, rfl, rfl, rfl, rfl⟩
def nfS (B1 B2 B3 B4 : Nat) (s1 s2 s3 s4 : Value) (w' : World) : Prop := w'.cell? ⟨B1, 0, none⟩ = some s1 ∧ w'.cell? ⟨B2, 0, none⟩ = some s2 ∧ w'.cell? ⟨B3, 0, none⟩ = some s3 ∧ w'.cell? ⟨B4, 0, none⟩ = some s4
theorem FI.S {w wr : World} {b1 b2 b3 b4 : Nat} {s1 s2 s3 s4 : Value} {x y z : Nat} (h : FI w wr b1 b2 b3 b4 s1 s2 s3 s4 x y z) : nfS b1 b2 b3 b4 s1 s2 s3 s4 wr := ⟨cell_of_one h.k1.b1, cell_of_one h.k2.b1, cell_of_one h.k3.b1, cell_of_one h.k4.b1⟩

theorem nfo0 : (nfOps[0]?).map (fun o => (o.op, o.dst, o.guard)) = some (.move (.tmp 15), some 71, none) := by kernel_rfl
theorem nfo1 : (nfOps[1]?).map (fun o => (o.op, o.dst, o.guard)) = some (.load 24 (.tmp 9), some 72, none) := by kernel_rfl
theorem nfo2 : (nfOps[2]?).map (fun o => (o.op, o.dst, o.guard)) = some (.load 24 (.tmp 11), some 73, none) := by kernel_rfl
theorem nfo3 : (nfOps[3]?).map (fun o => (o.op, o.dst, o.guard)) = some (.call { callee := .value (.func 13), args := #[.tmp 72, .tmp 73], argTypes := #[24, 24] }, some 74, none) := by kernel_rfl
theorem nfo4 : (nfOps[4]?).map (fun o => (o.op, o.dst, o.guard)) = some (.load 24 (.tmp 11), some 75, none) := by kernel_rfl
theorem nfo5 : (nfOps[5]?).map (fun o => (o.op, o.dst, o.guard)) = some (.load 24 (.tmp 9), some 76, none) := by kernel_rfl
theorem nfo6 : (nfOps[6]?).map (fun o => (o.op, o.dst, o.guard)) = some (.call { callee := .value (.func 13), args := #[.tmp 75, .tmp 76], argTypes := #[24, 24] }, some 77, none) := by kernel_rfl
theorem nfo7 : (nfOps[7]?).map (fun o => (o.op, o.dst, o.guard)) = some (.call { callee := .value (.tmp 71), args := #[.tmp 74, .tmp 77], argTypes := #[24, 24] }, some 78, none) := by kernel_rfl
theorem nfo8 : (nfOps[8]?).map (fun o => (o.op, o.dst, o.guard)) = some (.move (.tmp 78), some 79, none) := by kernel_rfl
theorem nfo9 : (nfOps[9]?).map (fun o => (o.op, o.dst, o.guard)) = some (.move (.tmp 15), some 80, some (8, true)) := by kernel_rfl
theorem nfo10 : (nfOps[10]?).map (fun o => (o.op, o.dst, o.guard)) = some (.load 24 (.tmp 9), some 81, some (8, true)) := by kernel_rfl
theorem nfo11 : (nfOps[11]?).map (fun o => (o.op, o.dst, o.guard)) = some (.load 24 (.tmp 11), some 82, some (8, true)) := by kernel_rfl
theorem nfo12 : (nfOps[12]?).map (fun o => (o.op, o.dst, o.guard)) = some (.call { callee := .value (.func 13), args := #[.tmp 81, .tmp 82], argTypes := #[24, 24] }, some 83, some (8, true)) := by kernel_rfl
theorem nfo13 : (nfOps[13]?).map (fun o => (o.op, o.dst, o.guard)) = some (.load 24 (.tmp 13), some 84, some (8, true)) := by kernel_rfl
theorem nfo14 : (nfOps[14]?).map (fun o => (o.op, o.dst, o.guard)) = some (.call { callee := .value (.func 13), args := #[.tmp 83, .tmp 84], argTypes := #[24, 24] }, some 85, some (8, true)) := by kernel_rfl
theorem nfo15 : (nfOps[15]?).map (fun o => (o.op, o.dst, o.guard)) = some (.load 24 (.tmp 9), some 86, some (8, true)) := by kernel_rfl
theorem nfo16 : (nfOps[16]?).map (fun o => (o.op, o.dst, o.guard)) = some (.load 24 (.tmp 11), some 87, some (8, true)) := by kernel_rfl
theorem nfo17 : (nfOps[17]?).map (fun o => (o.op, o.dst, o.guard)) = some (.load 24 (.tmp 13), some 88, some (8, true)) := by kernel_rfl
theorem nfo18 : (nfOps[18]?).map (fun o => (o.op, o.dst, o.guard)) = some (.call { callee := .value (.func 13), args := #[.tmp 87, .tmp 88], argTypes := #[24, 24] }, some 89, some (8, true)) := by kernel_rfl
theorem nfo19 : (nfOps[19]?).map (fun o => (o.op, o.dst, o.guard)) = some (.call { callee := .value (.func 13), args := #[.tmp 86, .tmp 89], argTypes := #[24, 24] }, some 90, some (8, true)) := by kernel_rfl
theorem nfo20 : (nfOps[20]?).map (fun o => (o.op, o.dst, o.guard)) = some (.call { callee := .value (.tmp 80), args := #[.tmp 85, .tmp 90], argTypes := #[24, 24] }, some 91, some (8, true)) := by kernel_rfl
theorem nfo21 : (nfOps[21]?).map (fun o => (o.op, o.dst, o.guard)) = some (.pick (.tmp 79) (.tmp 91) (.const (.bool false)), some 92, none) := by kernel_rfl
theorem nfo22 : (nfOps[22]?).map (fun o => (o.op, o.dst, o.guard)) = some (.move (.tmp 92), some 93, none) := by kernel_rfl
theorem nfo23 : (nfOps[23]?).map (fun o => (o.op, o.dst, o.guard)) = some (.move (.tmp 15), some 94, some (22, true)) := by kernel_rfl
theorem nfo24 : (nfOps[24]?).map (fun o => (o.op, o.dst, o.guard)) = some (.load 24 (.tmp 9), some 95, some (22, true)) := by kernel_rfl
theorem nfo25 : (nfOps[25]?).map (fun o => (o.op, o.dst, o.guard)) = some (.load 24 (.tmp 11), some 96, some (22, true)) := by kernel_rfl
theorem nfo26 : (nfOps[26]?).map (fun o => (o.op, o.dst, o.guard)) = some (.call { callee := .value (.func 16), args := #[.tmp 95, .tmp 96], argTypes := #[24, 24] }, some 97, some (22, true)) := by kernel_rfl
theorem nfo27 : (nfOps[27]?).map (fun o => (o.op, o.dst, o.guard)) = some (.load 24 (.tmp 11), some 98, some (22, true)) := by kernel_rfl
theorem nfo28 : (nfOps[28]?).map (fun o => (o.op, o.dst, o.guard)) = some (.load 24 (.tmp 9), some 99, some (22, true)) := by kernel_rfl
theorem nfo29 : (nfOps[29]?).map (fun o => (o.op, o.dst, o.guard)) = some (.call { callee := .value (.func 16), args := #[.tmp 98, .tmp 99], argTypes := #[24, 24] }, some 100, some (22, true)) := by kernel_rfl
theorem nfo30 : (nfOps[30]?).map (fun o => (o.op, o.dst, o.guard)) = some (.call { callee := .value (.tmp 94), args := #[.tmp 97, .tmp 100], argTypes := #[24, 24] }, some 101, some (22, true)) := by kernel_rfl
theorem nfo31 : (nfOps[31]?).map (fun o => (o.op, o.dst, o.guard)) = some (.pick (.tmp 93) (.tmp 101) (.const (.bool false)), some 102, none) := by kernel_rfl
theorem nfo32 : (nfOps[32]?).map (fun o => (o.op, o.dst, o.guard)) = some (.move (.tmp 102), some 103, none) := by kernel_rfl
theorem nfo33 : (nfOps[33]?).map (fun o => (o.op, o.dst, o.guard)) = some (.move (.tmp 15), some 104, some (32, true)) := by kernel_rfl
theorem nfo34 : (nfOps[34]?).map (fun o => (o.op, o.dst, o.guard)) = some (.load 24 (.tmp 9), some 105, some (32, true)) := by kernel_rfl
theorem nfo35 : (nfOps[35]?).map (fun o => (o.op, o.dst, o.guard)) = some (.load 24 (.tmp 11), some 106, some (32, true)) := by kernel_rfl
theorem nfo36 : (nfOps[36]?).map (fun o => (o.op, o.dst, o.guard)) = some (.call { callee := .value (.func 16), args := #[.tmp 105, .tmp 106], argTypes := #[24, 24] }, some 107, some (32, true)) := by kernel_rfl
theorem nfo37 : (nfOps[37]?).map (fun o => (o.op, o.dst, o.guard)) = some (.load 24 (.tmp 13), some 108, some (32, true)) := by kernel_rfl
theorem nfo38 : (nfOps[38]?).map (fun o => (o.op, o.dst, o.guard)) = some (.call { callee := .value (.func 16), args := #[.tmp 107, .tmp 108], argTypes := #[24, 24] }, some 109, some (32, true)) := by kernel_rfl
theorem nfo39 : (nfOps[39]?).map (fun o => (o.op, o.dst, o.guard)) = some (.load 24 (.tmp 9), some 110, some (32, true)) := by kernel_rfl
theorem nfo40 : (nfOps[40]?).map (fun o => (o.op, o.dst, o.guard)) = some (.load 24 (.tmp 11), some 111, some (32, true)) := by kernel_rfl
theorem nfo41 : (nfOps[41]?).map (fun o => (o.op, o.dst, o.guard)) = some (.load 24 (.tmp 13), some 112, some (32, true)) := by kernel_rfl
theorem nfo42 : (nfOps[42]?).map (fun o => (o.op, o.dst, o.guard)) = some (.call { callee := .value (.func 16), args := #[.tmp 111, .tmp 112], argTypes := #[24, 24] }, some 113, some (32, true)) := by kernel_rfl
theorem nfo43 : (nfOps[43]?).map (fun o => (o.op, o.dst, o.guard)) = some (.call { callee := .value (.func 16), args := #[.tmp 110, .tmp 113], argTypes := #[24, 24] }, some 114, some (32, true)) := by kernel_rfl
theorem nfo44 : (nfOps[44]?).map (fun o => (o.op, o.dst, o.guard)) = some (.call { callee := .value (.tmp 104), args := #[.tmp 109, .tmp 114], argTypes := #[24, 24] }, some 115, some (32, true)) := by kernel_rfl
theorem nfo45 : (nfOps[45]?).map (fun o => (o.op, o.dst, o.guard)) = some (.pick (.tmp 103) (.tmp 115) (.const (.bool false)), some 116, none) := by kernel_rfl
theorem nfo46 : (nfOps[46]?).map (fun o => (o.op, o.dst, o.guard)) = some (.move (.tmp 116), some 117, none) := by kernel_rfl
theorem nfo47 : (nfOps[47]?).map (fun o => (o.op, o.dst, o.guard)) = some (.move (.tmp 15), some 118, some (46, true)) := by kernel_rfl
theorem nfo48 : (nfOps[48]?).map (fun o => (o.op, o.dst, o.guard)) = some (.load 24 (.tmp 9), some 119, some (46, true)) := by kernel_rfl
theorem nfo49 : (nfOps[49]?).map (fun o => (o.op, o.dst, o.guard)) = some (.load 24 (.tmp 11), some 120, some (46, true)) := by kernel_rfl
theorem nfo50 : (nfOps[50]?).map (fun o => (o.op, o.dst, o.guard)) = some (.load 24 (.tmp 13), some 121, some (46, true)) := by kernel_rfl
theorem nfo51 : (nfOps[51]?).map (fun o => (o.op, o.dst, o.guard)) = some (.call { callee := .value (.func 13), args := #[.tmp 120, .tmp 121], argTypes := #[24, 24] }, some 122, some (46, true)) := by kernel_rfl
theorem nfo52 : (nfOps[52]?).map (fun o => (o.op, o.dst, o.guard)) = some (.call { callee := .value (.func 16), args := #[.tmp 119, .tmp 122], argTypes := #[24, 24] }, some 123, some (46, true)) := by kernel_rfl
theorem nfo53 : (nfOps[53]?).map (fun o => (o.op, o.dst, o.guard)) = some (.load 24 (.tmp 9), some 124, some (46, true)) := by kernel_rfl
theorem nfo54 : (nfOps[54]?).map (fun o => (o.op, o.dst, o.guard)) = some (.load 24 (.tmp 11), some 125, some (46, true)) := by kernel_rfl
theorem nfo55 : (nfOps[55]?).map (fun o => (o.op, o.dst, o.guard)) = some (.call { callee := .value (.func 16), args := #[.tmp 124, .tmp 125], argTypes := #[24, 24] }, some 126, some (46, true)) := by kernel_rfl
theorem nfo56 : (nfOps[56]?).map (fun o => (o.op, o.dst, o.guard)) = some (.load 24 (.tmp 9), some 127, some (46, true)) := by kernel_rfl
theorem nfo57 : (nfOps[57]?).map (fun o => (o.op, o.dst, o.guard)) = some (.load 24 (.tmp 13), some 128, some (46, true)) := by kernel_rfl
theorem nfo58 : (nfOps[58]?).map (fun o => (o.op, o.dst, o.guard)) = some (.call { callee := .value (.func 16), args := #[.tmp 127, .tmp 128], argTypes := #[24, 24] }, some 129, some (46, true)) := by kernel_rfl
theorem nfo59 : (nfOps[59]?).map (fun o => (o.op, o.dst, o.guard)) = some (.call { callee := .value (.func 13), args := #[.tmp 126, .tmp 129], argTypes := #[24, 24] }, some 130, some (46, true)) := by kernel_rfl
theorem nfo60 : (nfOps[60]?).map (fun o => (o.op, o.dst, o.guard)) = some (.call { callee := .value (.tmp 118), args := #[.tmp 123, .tmp 130], argTypes := #[24, 24] }, some 131, some (46, true)) := by kernel_rfl
theorem nfo61 : (nfOps[61]?).map (fun o => (o.op, o.dst, o.guard)) = some (.pick (.tmp 117) (.tmp 131) (.const (.bool false)), some 132, none) := by kernel_rfl
theorem nfo62 : (nfOps[62]?).map (fun o => (o.op, o.dst, o.guard)) = some (.move (.tmp 132), some 133, none) := by kernel_rfl
theorem nfo63 : (nfOps[63]?).map (fun o => (o.op, o.dst, o.guard)) = some (.move (.tmp 17), some 134, some (62, true)) := by kernel_rfl
theorem nfo64 : (nfOps[64]?).map (fun o => (o.op, o.dst, o.guard)) = some (.binOp .eql 26 (.tmp 134) (.const .nilIface) 26, some 135, some (62, true)) := by kernel_rfl
theorem nfo65 : (nfOps[65]?).map (fun o => (o.op, o.dst, o.guard)) = some (.pick (.tmp 133) (.tmp 135) (.const (.bool false)), some 136, none) := by kernel_rfl
theorem nfo66 : (nfOps[66]?).map (fun o => (o.op, o.dst, o.guard)) = some (.move (.tmp 136), some 137, none) := by kernel_rfl
theorem nfo67 : (nfOps[67]?).map (fun o => (o.op, o.dst, o.guard)) = some (.move (.tmp 15), some 138, some (66, true)) := by kernel_rfl
theorem nfo68 : (nfOps[68]?).map (fun o => (o.op, o.dst, o.guard)) = some (.load 24 (.tmp 16), some 139, some (66, true)) := by kernel_rfl
theorem nfo69 : (nfOps[69]?).map (fun o => (o.op, o.dst, o.guard)) = some (.load 24 (.tmp 9), some 140, some (66, true)) := by kernel_rfl
theorem nfo70 : (nfOps[70]?).map (fun o => (o.op, o.dst, o.guard)) = some (.call { callee := .value (.tmp 138), args := #[.tmp 139, .tmp 140], argTypes := #[24, 24] }, some 141, some (66, true)) := by kernel_rfl
theorem nfo71 : (nfOps[71]?).map (fun o => (o.op, o.dst, o.guard)) = some (.pick (.tmp 137) (.tmp 141) (.const (.bool false)), some 142, none) := by kernel_rfl
theorem nfo72 : (nfOps[72]?).map (fun o => (o.op, o.dst, o.guard)) = some (.move (.tmp 142), some 143, none) := by kernel_rfl
theorem nfo73 : (nfOps[73]?).map (fun o => (o.op, o.dst, o.guard)) = some (.move (.tmp 15), some 144, some (72, true)) := by kernel_rfl
theorem nfo74 : (nfOps[74]?).map (fun o => (o.op, o.dst, o.guard)) = some (.load 24 (.tmp 9), some 145, some (72, true)) := by kernel_rfl
theorem nfo75 : (nfOps[75]?).map (fun o => (o.op, o.dst, o.guard)) = some (.move (.tmp 3), some 146, some (72, true)) := by kernel_rfl
theorem nfo76 : (nfOps[76]?).map (fun o => (o.op, o.dst, o.guard)) = some (.call { callee := .value (.func 17), args := #[.tmp 145, .tmp 146], argTypes := #[24, 3] }, some 147, some (72, true)) := by kernel_rfl
theorem nfo77 : (nfOps[77]?).map (fun o => (o.op, o.dst, o.guard)) = some (.load 24 (.tmp 9), some 148, some (72, true)) := by kernel_rfl
theorem nfo78 : (nfOps[78]?).map (fun o => (o.op, o.dst, o.guard)) = some (.call { callee := .value (.func 18), args := #[.const (.int .i64 1)], argTypes := #[3] }, some 149, some (72, true)) := by kernel_rfl
theorem nfo79 : (nfOps[79]?).map (fun o => (o.op, o.dst, o.guard)) = some (.move (.tmp 3), some 150, some (72, true)) := by kernel_rfl
theorem nfo80 : (nfOps[80]?).map (fun o => (o.op, o.dst, o.guard)) = some (.call { callee := .value (.func 17), args := #[.tmp 149, .tmp 150], argTypes := #[24, 3] }, some 151, some (72, true)) := by kernel_rfl
theorem nfo81 : (nfOps[81]?).map (fun o => (o.op, o.dst, o.guard)) = some (.call { callee := .value (.func 16), args := #[.tmp 148, .tmp 151], argTypes := #[24, 24] }, some 152, some (72, true)) := by kernel_rfl
theorem nfo82 : (nfOps[82]?).map (fun o => (o.op, o.dst, o.guard)) = some (.call { callee := .value (.tmp 144), args := #[.tmp 147, .tmp 152], argTypes := #[24, 24] }, some 153, some (72, true)) := by kernel_rfl
theorem nfo83 : (nfOps[83]?).map (fun o => (o.op, o.dst, o.guard)) = some (.pick (.tmp 143) (.tmp 153) (.const (.bool false)), some 154, none) := by kernel_rfl
theorem nfo84 : (nfOps[84]?).map (fun o => (o.op, o.dst, o.guard)) = some (.assign (.tmp 154), some 8, none) := by kernel_rfl

noncomputable def nfL : List (Nat × Bool) := [(0, true), (1, true), (2, true), (4, true), (5, true), (3, false), (6, false), (7, false), (8, true), (9, true), (10, true), (11, true), (13, true), (15, true), (16, true), (17, true), (12, false), (14, false), (18, false), (19, false), (20, false), (21, true), (22, true), (23, true), (24, true), (25, true), (27, true), (28, true), (26, false), (29, false), (30, false), (31, true), (32, true), (33, true), (34, true), (35, true), (37, true), (39, true), (40, true), (41, true), (36, false), (38, false), (42, false), (43, false), (44, false), (45, true), (46, true), (47, true), (48, true), (49, true), (50, true), (53, true), (54, true), (56, true), (57, true), (51, false), (52, false), (55, false), (58, false), (59, false), (60, false), (61, true), (62, true), (63, true), (64, true), (65, true), (66, true), (67, true), (68, true), (69, true), (70, false), (71, true), (72, true), (73, true), (74, true), (75, true), (77, true), (79, true), (76, false), (78, false), (80, false), (81, false), (82, false), (83, true), (84, true)]
theorem nfL_ok : (Region.noSelect nfOps && txtOk .any nfOps nfL (Array.replicate nfOps.size false) && nfL.length == nfOps.size) = true := by kernel_rfl

set_option maxRecDepth 100000 in
set_option maxHeartbeats 16000000 in
theorem nf_last {x y z T : Nat} (sm : Smalls x y z T) (hT : T ≤ 1000) {B1 B2 B3 B4 n1 n2 n3 n4 c1 c2 c3 c4 : Nat} {A1 A2 A3 A4 : Option Addr} {w w0 : World} {a0 : Act} {Q : Exit → Act → World → Prop}
    (HF : FI w w0 B1 B2 B3 B4 (.slice A1 n1 c1) (.slice A2 n2 c2) (.slice A3 n3 c3) (.slice A4 n4 c4) x y z)
    (t9 : a0.tmps[9]? = some (.pointer (some ⟨B1, 0, none⟩))) (t11 : a0.tmps[11]? = some (.pointer (some ⟨B2, 0, none⟩))) (t13 : a0.tmps[13]? = some (.pointer (some ⟨B3, 0, none⟩))) (t16 : a0.tmps[16]? = some (.pointer (some ⟨B4, 0, none⟩))) (t15 : a0.tmps[15]? = some (.func (.func 10) #[] #[])) (t17 : a0.tmps[17]? = some (.nilIface)) (t3 : a0.tmps[3]? = some (.int .i64 (T : Nat))) (hsz : a0.tmps.size = 155) (hdf : a0.defers = [])
    (hQ : ∀ a' w', a'.tmps[8]? = some (.bool true) → a'.defers = [] → Below w.heap.size w w' → Q .normal a' w') :
    wpTxt Tryd.prog nfOps Q (nfS B1 B2 B3 B4 (.slice A1 n1 c1) (.slice A2 n2 c2) (.slice A3 n3 c3) (.slice A4 n4 c4)) nfL a0 w0 := by
  unfold nfL
  -- 0
  obtain ⟨o, ho, hop, hd, hg⟩ := op_fact nfo0
  refine txt_move ho hop hd (want_none hg) t15 (fun a1 u => ?_)
  have t71 := u.eq (by rw [hsz]; decide)
  replace hsz := u.size.trans hsz; replace hdf := u.df.trans hdf
  replace t3 := u.keep (by decide) t3
  replace t9 := u.keep (by decide) t9
  replace t11 := u.keep (by decide) t11
  replace t13 := u.keep (by decide) t13
  replace t15 := u.keep (by decide) t15
  replace t16 := u.keep (by decide) t16
  replace t17 := u.keep (by decide) t17
  clear u ho hop hd hg
  -- 1
  obtain ⟨o, ho, hop, hd, hg⟩ := op_fact nfo1
  refine txt_take ho hd (want_none hg) (fun w' hS => run_load24 hop t9 hS.1) (fun a2 u => ?_)
  have t72 := u.eq (by rw [hsz]; decide)
  replace hsz := u.size.trans hsz; replace hdf := u.df.trans hdf
  replace t3 := u.keep (by decide) t3
  replace t9 := u.keep (by decide) t9
  replace t11 := u.keep (by decide) t11
  replace t13 := u.keep (by decide) t13
  replace t15 := u.keep (by decide) t15
  replace t16 := u.keep (by decide) t16
  replace t17 := u.keep (by decide) t17
  replace t71 := u.keep (by decide) t71
  clear u ho hop hd hg
  -- 2
  obtain ⟨o, ho, hop, hd, hg⟩ := op_fact nfo2
  refine txt_take ho hd (want_none hg) (fun w' hS => run_load24 hop t11 hS.2.1) (fun a3 u => ?_)
  have t73 := u.eq (by rw [hsz]; decide)
  replace hsz := u.size.trans hsz; replace hdf := u.df.trans hdf
  replace t3 := u.keep (by decide) t3
  replace t9 := u.keep (by decide) t9
  replace t11 := u.keep (by decide) t11
  replace t13 := u.keep (by decide) t13
  replace t15 := u.keep (by decide) t15
  replace t16 := u.keep (by decide) t16
  replace t17 := u.keep (by decide) t17
  replace t71 := u.keep (by decide) t71
  replace t72 := u.keep (by decide) t72
  clear u ho hop hd hg
  -- 4
  obtain ⟨o, ho, hop, hd, hg⟩ := op_fact nfo4
  refine txt_take ho hd (want_none hg) (fun w' hS => run_load24 hop t11 hS.2.1) (fun a4 u => ?_)
  have t75 := u.eq (by rw [hsz]; decide)
  replace hsz := u.size.trans hsz; replace hdf := u.df.trans hdf
  replace t3 := u.keep (by decide) t3
  replace t9 := u.keep (by decide) t9
  replace t11 := u.keep (by decide) t11
  replace t13 := u.keep (by decide) t13
  replace t15 := u.keep (by decide) t15
  replace t16 := u.keep (by decide) t16
  replace t17 := u.keep (by decide) t17
  replace t71 := u.keep (by decide) t71
  replace t72 := u.keep (by decide) t72
  replace t73 := u.keep (by decide) t73
  clear u ho hop hd hg
  -- 5
  obtain ⟨o, ho, hop, hd, hg⟩ := op_fact nfo5
  refine txt_take ho hd (want_none hg) (fun w' hS => run_load24 hop t9 hS.1) (fun a5 u => ?_)
  have t76 := u.eq (by rw [hsz]; decide)
  replace hsz := u.size.trans hsz; replace hdf := u.df.trans hdf
  replace t3 := u.keep (by decide) t3
  replace t9 := u.keep (by decide) t9
  replace t11 := u.keep (by decide) t11
  replace t13 := u.keep (by decide) t13
  replace t15 := u.keep (by decide) t15
  replace t16 := u.keep (by decide) t16
  replace t17 := u.keep (by decide) t17
  replace t71 := u.keep (by decide) t71
  replace t72 := u.keep (by decide) t72
  replace t73 := u.keep (by decide) t73
  replace t75 := u.keep (by decide) t75
  clear u ho hop hd hg
  -- 3
  obtain ⟨o, ho, hop, hd, hg⟩ := op_fact nfo3
  refine txt_call ho hd (want_none hg) (run_call2 hop rfl t72 t73 (fun w => enters_of Tryd.func13 (by kernel_rfl) rfl _ w)) ?_
  refine (AddS _ _ _ _ _ HF.k1.n1 HF.k2.n1 sm.s_x sm.s_y).mono ?_
  rintro e w1 ⟨v74, rfl, hn, hb⟩
  replace HF := HF.grow hb
  have N74 := hn; clear hn
  clear hb
  refine ⟨_, rfl, HF.S, fun a6 u => ?_⟩
  have t74 := u.eq (by rw [hsz]; decide)
  replace hsz := u.size.trans hsz; replace hdf := u.df.trans hdf
  replace t3 := u.keep (by decide) t3
  replace t9 := u.keep (by decide) t9
  replace t11 := u.keep (by decide) t11
  replace t13 := u.keep (by decide) t13
  replace t15 := u.keep (by decide) t15
  replace t16 := u.keep (by decide) t16
  replace t17 := u.keep (by decide) t17
  replace t71 := u.keep (by decide) t71
  clear t72
  clear t73
  replace t75 := u.keep (by decide) t75
  replace t76 := u.keep (by decide) t76
  clear u ho hop hd hg
  -- 6
  obtain ⟨o, ho, hop, hd, hg⟩ := op_fact nfo6
  refine txt_call ho hd (want_none hg) (run_call2 hop rfl t75 t76 (fun w => enters_of Tryd.func13 (by kernel_rfl) rfl _ w)) ?_
  refine (AddS _ _ _ _ _ HF.k2.n1 HF.k1.n1 sm.s_y sm.s_x).mono ?_
  rintro e w2 ⟨v77, rfl, hn, hb⟩
  replace HF := HF.grow hb
  replace N74 := N74.below hb
  have N77 := hn; clear hn
  clear hb
  refine ⟨_, rfl, HF.S, fun a7 u => ?_⟩
  have t77 := u.eq (by rw [hsz]; decide)
  replace hsz := u.size.trans hsz; replace hdf := u.df.trans hdf
  replace t3 := u.keep (by decide) t3
  replace t9 := u.keep (by decide) t9
  replace t11 := u.keep (by decide) t11
  replace t13 := u.keep (by decide) t13
  replace t15 := u.keep (by decide) t15
  replace t16 := u.keep (by decide) t16
  replace t17 := u.keep (by decide) t17
  replace t71 := u.keep (by decide) t71
  replace t74 := u.keep (by decide) t74
  clear t75
  clear t76
  clear u ho hop hd hg
  -- 7
  obtain ⟨o, ho, hop, hd, hg⟩ := op_fact nfo7
  refine txt_call ho hd (want_none hg) (run_clo2 hop rfl t71 t74 t77 (fun w => enters_of Tryd.func10 (by kernel_rfl) rfl _ w)) ?_
  refine (SameS _ _ _ _ _ N74 N77 (Nat.add_comm _ _) sm.s_xy).mono ?_
  rintro e w3 ⟨rfl, hb⟩
  replace HF := HF.grow hb
  clear N74
  clear N77
  clear hb
  refine ⟨_, rfl, HF.S, fun a8 u => ?_⟩
  have t78 := u.eq (by rw [hsz]; decide)
  replace hsz := u.size.trans hsz; replace hdf := u.df.trans hdf
  replace t3 := u.keep (by decide) t3
  replace t9 := u.keep (by decide) t9
  replace t11 := u.keep (by decide) t11
  replace t13 := u.keep (by decide) t13
  replace t15 := u.keep (by decide) t15
  replace t16 := u.keep (by decide) t16
  replace t17 := u.keep (by decide) t17
  clear t71
  clear t74
  clear t77
  clear u ho hop hd hg
  -- 8
  obtain ⟨o, ho, hop, hd, hg⟩ := op_fact nfo8
  refine txt_move ho hop hd (want_none hg) t78 (fun a9 u => ?_)
  have t79 := u.eq (by rw [hsz]; decide)
  replace hsz := u.size.trans hsz; replace hdf := u.df.trans hdf
  replace t3 := u.keep (by decide) t3
  replace t9 := u.keep (by decide) t9
  replace t11 := u.keep (by decide) t11
  replace t13 := u.keep (by decide) t13
  replace t15 := u.keep (by decide) t15
  replace t16 := u.keep (by decide) t16
  replace t17 := u.keep (by decide) t17
  clear t78
  clear u ho hop hd hg
  -- 9
  obtain ⟨o, ho, hop, hd, hg⟩ := op_fact nfo9
  obtain ⟨og, hog, hopg, hdg, hgg⟩ := op_fact nfo8
  refine txt_move ho hop hd (want_some hg hog hdg t79) t15 (fun a10 u => ?_)
  have t80 := u.eq (by rw [hsz]; decide)
  replace hsz := u.size.trans hsz; replace hdf := u.df.trans hdf
  replace t3 := u.keep (by decide) t3
  replace t9 := u.keep (by decide) t9
  replace t11 := u.keep (by decide) t11
  replace t13 := u.keep (by decide) t13
  replace t15 := u.keep (by decide) t15
  replace t16 := u.keep (by decide) t16
  replace t17 := u.keep (by decide) t17
  replace t79 := u.keep (by decide) t79
  clear u ho hop hd hg hog hopg hdg hgg
  -- 10
  obtain ⟨o, ho, hop, hd, hg⟩ := op_fact nfo10
  obtain ⟨og, hog, hopg, hdg, hgg⟩ := op_fact nfo8
  refine txt_take ho hd (want_some hg hog hdg t79) (fun w' hS => run_load24 hop t9 hS.1) (fun a11 u => ?_)
  have t81 := u.eq (by rw [hsz]; decide)
  replace hsz := u.size.trans hsz; replace hdf := u.df.trans hdf
  replace t3 := u.keep (by decide) t3
  replace t9 := u.keep (by decide) t9
  replace t11 := u.keep (by decide) t11
  replace t13 := u.keep (by decide) t13
  replace t15 := u.keep (by decide) t15
  replace t16 := u.keep (by decide) t16
  replace t17 := u.keep (by decide) t17
  replace t79 := u.keep (by decide) t79
  replace t80 := u.keep (by decide) t80
  clear u ho hop hd hg hog hopg hdg hgg
  -- 11
  obtain ⟨o, ho, hop, hd, hg⟩ := op_fact nfo11
  obtain ⟨og, hog, hopg, hdg, hgg⟩ := op_fact nfo8
  refine txt_take ho hd (want_some hg hog hdg t79) (fun w' hS => run_load24 hop t11 hS.2.1) (fun a12 u => ?_)
  have t82 := u.eq (by rw [hsz]; decide)
  replace hsz := u.size.trans hsz; replace hdf := u.df.trans hdf
  replace t3 := u.keep (by decide) t3
  replace t9 := u.keep (by decide) t9
  replace t11 := u.keep (by decide) t11
  replace t13 := u.keep (by decide) t13
  replace t15 := u.keep (by decide) t15
  replace t16 := u.keep (by decide) t16
  replace t17 := u.keep (by decide) t17
  replace t79 := u.keep (by decide) t79
  replace t80 := u.keep (by decide) t80
  replace t81 := u.keep (by decide) t81
  clear u ho hop hd hg hog hopg hdg hgg
  -- 13
  obtain ⟨o, ho, hop, hd, hg⟩ := op_fact nfo13
  obtain ⟨og, hog, hopg, hdg, hgg⟩ := op_fact nfo8
  refine txt_take ho hd (want_some hg hog hdg t79) (fun w' hS => run_load24 hop t13 hS.2.2.1) (fun a13 u => ?_)
  have t84 := u.eq (by rw [hsz]; decide)
  replace hsz := u.size.trans hsz; replace hdf := u.df.trans hdf
  replace t3 := u.keep (by decide) t3
  replace t9 := u.keep (by decide) t9
  replace t11 := u.keep (by decide) t11
  replace t13 := u.keep (by decide) t13
  replace t15 := u.keep (by decide) t15
  replace t16 := u.keep (by decide) t16
  replace t17 := u.keep (by decide) t17
  replace t79 := u.keep (by decide) t79
  replace t80 := u.keep (by decide) t80
  replace t81 := u.keep (by decide) t81
  replace t82 := u.keep (by decide) t82
  clear u ho hop hd hg hog hopg hdg hgg
  -- 15
  obtain ⟨o, ho, hop, hd, hg⟩ := op_fact nfo15
  obtain ⟨og, hog, hopg, hdg, hgg⟩ := op_fact nfo8
  refine txt_take ho hd (want_some hg hog hdg t79) (fun w' hS => run_load24 hop t9 hS.1) (fun a14 u => ?_)
  have t86 := u.eq (by rw [hsz]; decide)
  replace hsz := u.size.trans hsz; replace hdf := u.df.trans hdf
  replace t3 := u.keep (by decide) t3
  replace t9 := u.keep (by decide) t9
  replace t11 := u.keep (by decide) t11
  replace t13 := u.keep (by decide) t13
  replace t15 := u.keep (by decide) t15
  replace t16 := u.keep (by decide) t16
  replace t17 := u.keep (by decide) t17
  replace t79 := u.keep (by decide) t79
  replace t80 := u.keep (by decide) t80
  replace t81 := u.keep (by decide) t81
  replace t82 := u.keep (by decide) t82
  replace t84 := u.keep (by decide) t84
  clear u ho hop hd hg hog hopg hdg hgg
  -- 16
  obtain ⟨o, ho, hop, hd, hg⟩ := op_fact nfo16
  obtain ⟨og, hog, hopg, hdg, hgg⟩ := op_fact nfo8
  refine txt_take ho hd (want_some hg hog hdg t79) (fun w' hS => run_load24 hop t11 hS.2.1) (fun a15 u => ?_)
  have t87 := u.eq (by rw [hsz]; decide)
  replace hsz := u.size.trans hsz; replace hdf := u.df.trans hdf
  replace t3 := u.keep (by decide) t3
  replace t9 := u.keep (by decide) t9
  replace t11 := u.keep (by decide) t11
  replace t13 := u.keep (by decide) t13
  replace t15 := u.keep (by decide) t15
  replace t16 := u.keep (by decide) t16
  replace t17 := u.keep (by decide) t17
  replace t79 := u.keep (by decide) t79
  replace t80 := u.keep (by decide) t80
  replace t81 := u.keep (by decide) t81
  replace t82 := u.keep (by decide) t82
  replace t84 := u.keep (by decide) t84
  replace t86 := u.keep (by decide) t86
  clear u ho hop hd hg hog hopg hdg hgg
  -- 17
  obtain ⟨o, ho, hop, hd, hg⟩ := op_fact nfo17
  obtain ⟨og, hog, hopg, hdg, hgg⟩ := op_fact nfo8
  refine txt_take ho hd (want_some hg hog hdg t79) (fun w' hS => run_load24 hop t13 hS.2.2.1) (fun a16 u => ?_)
  have t88 := u.eq (by rw [hsz]; decide)
  replace hsz := u.size.trans hsz; replace hdf := u.df.trans hdf
  replace t3 := u.keep (by decide) t3
  replace t9 := u.keep (by decide) t9
  replace t11 := u.keep (by decide) t11
  replace t13 := u.keep (by decide) t13
  replace t15 := u.keep (by decide) t15
  replace t16 := u.keep (by decide) t16
  replace t17 := u.keep (by decide) t17
  replace t79 := u.keep (by decide) t79
  replace t80 := u.keep (by decide) t80
  replace t81 := u.keep (by decide) t81
  replace t82 := u.keep (by decide) t82
  replace t84 := u.keep (by decide) t84
  replace t86 := u.keep (by decide) t86
  replace t87 := u.keep (by decide) t87
  clear u ho hop hd hg hog hopg hdg hgg
  -- 12
  obtain ⟨o, ho, hop, hd, hg⟩ := op_fact nfo12
  obtain ⟨og, hog, hopg, hdg, hgg⟩ := op_fact nfo8
  refine txt_call ho hd (want_some hg hog hdg t79) (run_call2 hop rfl t81 t82 (fun w => enters_of Tryd.func13 (by kernel_rfl) rfl _ w)) ?_
  refine (AddS _ _ _ _ _ HF.k1.n1 HF.k2.n1 sm.s_x sm.s_y).mono ?_
  rintro e w4 ⟨v83, rfl, hn, hb⟩
  replace HF := HF.grow hb
  have N83 := hn; clear hn
  clear hb
  refine ⟨_, rfl, HF.S, fun a17 u => ?_⟩
  have t83 := u.eq (by rw [hsz]; decide)
  replace hsz := u.size.trans hsz; replace hdf := u.df.trans hdf
  replace t3 := u.keep (by decide) t3
  replace t9 := u.keep (by decide) t9
  replace t11 := u.keep (by decide) t11
  replace t13 := u.keep (by decide) t13
  replace t15 := u.keep (by decide) t15
  replace t16 := u.keep (by decide) t16
  replace t17 := u.keep (by decide) t17
  replace t79 := u.keep (by decide) t79
  replace t80 := u.keep (by decide) t80
  clear t81
  clear t82
  replace t84 := u.keep (by decide) t84
  replace t86 := u.keep (by decide) t86
  replace t87 := u.keep (by decide) t87
  replace t88 := u.keep (by decide) t88
  clear u ho hop hd hg hog hopg hdg hgg
  -- 14
  obtain ⟨o, ho, hop, hd, hg⟩ := op_fact nfo14
  obtain ⟨og, hog, hopg, hdg, hgg⟩ := op_fact nfo8
  refine txt_call ho hd (want_some hg hog hdg t79) (run_call2 hop rfl t83 t84 (fun w => enters_of Tryd.func13 (by kernel_rfl) rfl _ w)) ?_
  refine (AddS _ _ _ _ _ N83 HF.k3.n1 sm.s_xy sm.s_z).mono ?_
  rintro e w5 ⟨v85, rfl, hn, hb⟩
  replace HF := HF.grow hb
  clear N83
  have N85 := hn; clear hn
  clear hb
  refine ⟨_, rfl, HF.S, fun a18 u => ?_⟩
  have t85 := u.eq (by rw [hsz]; decide)
  replace hsz := u.size.trans hsz; replace hdf := u.df.trans hdf
  replace t3 := u.keep (by decide) t3
  replace t9 := u.keep (by decide) t9
  replace t11 := u.keep (by decide) t11
  replace t13 := u.keep (by decide) t13
  replace t15 := u.keep (by decide) t15
  replace t16 := u.keep (by decide) t16
  replace t17 := u.keep (by decide) t17
  replace t79 := u.keep (by decide) t79
  replace t80 := u.keep (by decide) t80
  clear t83
  clear t84
  replace t86 := u.keep (by decide) t86
  replace t87 := u.keep (by decide) t87
  replace t88 := u.keep (by decide) t88
  clear u ho hop hd hg hog hopg hdg hgg
  -- 18
  obtain ⟨o, ho, hop, hd, hg⟩ := op_fact nfo18
  obtain ⟨og, hog, hopg, hdg, hgg⟩ := op_fact nfo8
  refine txt_call ho hd (want_some hg hog hdg t79) (run_call2 hop rfl t87 t88 (fun w => enters_of Tryd.func13 (by kernel_rfl) rfl _ w)) ?_
  refine (AddS _ _ _ _ _ HF.k2.n1 HF.k3.n1 sm.s_y sm.s_z).mono ?_
  rintro e w6 ⟨v89, rfl, hn, hb⟩
  replace HF := HF.grow hb
  replace N85 := N85.below hb
  have N89 := hn; clear hn
  clear hb
  refine ⟨_, rfl, HF.S, fun a19 u => ?_⟩
  have t89 := u.eq (by rw [hsz]; decide)
  replace hsz := u.size.trans hsz; replace hdf := u.df.trans hdf
  replace t3 := u.keep (by decide) t3
  replace t9 := u.keep (by decide) t9
  replace t11 := u.keep (by decide) t11
  replace t13 := u.keep (by decide) t13
  replace t15 := u.keep (by decide) t15
  replace t16 := u.keep (by decide) t16
  replace t17 := u.keep (by decide) t17
  replace t79 := u.keep (by decide) t79
  replace t80 := u.keep (by decide) t80
  replace t85 := u.keep (by decide) t85
  replace t86 := u.keep (by decide) t86
  clear t87
  clear t88
  clear u ho hop hd hg hog hopg hdg hgg
  -- 19
  obtain ⟨o, ho, hop, hd, hg⟩ := op_fact nfo19
  obtain ⟨og, hog, hopg, hdg, hgg⟩ := op_fact nfo8
  refine txt_call ho hd (want_some hg hog hdg t79) (run_call2 hop rfl t86 t89 (fun w => enters_of Tryd.func13 (by kernel_rfl) rfl _ w)) ?_
  refine (AddS _ _ _ _ _ HF.k1.n1 N89 sm.s_x sm.s_yz).mono ?_
  rintro e w7 ⟨v90, rfl, hn, hb⟩
  replace HF := HF.grow hb
  replace N85 := N85.below hb
  clear N89
  have N90 := hn; clear hn
  clear hb
  refine ⟨_, rfl, HF.S, fun a20 u => ?_⟩
  have t90 := u.eq (by rw [hsz]; decide)
  replace hsz := u.size.trans hsz; replace hdf := u.df.trans hdf
  replace t3 := u.keep (by decide) t3
  replace t9 := u.keep (by decide) t9
  replace t11 := u.keep (by decide) t11
  replace t13 := u.keep (by decide) t13
  replace t15 := u.keep (by decide) t15
  replace t16 := u.keep (by decide) t16
  replace t17 := u.keep (by decide) t17
  replace t79 := u.keep (by decide) t79
  replace t80 := u.keep (by decide) t80
  replace t85 := u.keep (by decide) t85
  clear t86
  clear t89
  clear u ho hop hd hg hog hopg hdg hgg
  -- 20
  obtain ⟨o, ho, hop, hd, hg⟩ := op_fact nfo20
  obtain ⟨og, hog, hopg, hdg, hgg⟩ := op_fact nfo8
  refine txt_call ho hd (want_some hg hog hdg t79) (run_clo2 hop rfl t80 t85 t90 (fun w => enters_of Tryd.func10 (by kernel_rfl) rfl _ w)) ?_
  refine (SameS _ _ _ _ _ N85 N90 (Nat.add_assoc _ _ _) sm.s_xyz).mono ?_
  rintro e w8 ⟨rfl, hb⟩
  replace HF := HF.grow hb
  clear N85
  clear N90
  clear hb
  refine ⟨_, rfl, HF.S, fun a21 u => ?_⟩
  have t91 := u.eq (by rw [hsz]; decide)
  replace hsz := u.size.trans hsz; replace hdf := u.df.trans hdf
  replace t3 := u.keep (by decide) t3
  replace t9 := u.keep (by decide) t9
  replace t11 := u.keep (by decide) t11
  replace t13 := u.keep (by decide) t13
  replace t15 := u.keep (by decide) t15
  replace t16 := u.keep (by decide) t16
  replace t17 := u.keep (by decide) t17
  replace t79 := u.keep (by decide) t79
  clear t80
  clear t85
  clear t90
  clear u ho hop hd hg hog hopg hdg hgg
  -- 21
  obtain ⟨o, ho, hop, hd, hg⟩ := op_fact nfo21
  refine txt_pick ho hop hd (want_none hg) t79 t91 (fun a22 u => ?_)
  have t92 := u.eq (by rw [hsz]; decide)
  replace hsz := u.size.trans hsz; replace hdf := u.df.trans hdf
  replace t3 := u.keep (by decide) t3
  replace t9 := u.keep (by decide) t9
  replace t11 := u.keep (by decide) t11
  replace t13 := u.keep (by decide) t13
  replace t15 := u.keep (by decide) t15
  replace t16 := u.keep (by decide) t16
  replace t17 := u.keep (by decide) t17
  clear t79
  clear t91
  clear u ho hop hd hg
  -- 22
  obtain ⟨o, ho, hop, hd, hg⟩ := op_fact nfo22
  refine txt_move ho hop hd (want_none hg) t92 (fun a23 u => ?_)
  have t93 := u.eq (by rw [hsz]; decide)
  replace hsz := u.size.trans hsz; replace hdf := u.df.trans hdf
  replace t3 := u.keep (by decide) t3
  replace t9 := u.keep (by decide) t9
  replace t11 := u.keep (by decide) t11
  replace t13 := u.keep (by decide) t13
  replace t15 := u.keep (by decide) t15
  replace t16 := u.keep (by decide) t16
  replace t17 := u.keep (by decide) t17
  clear t92
  clear u ho hop hd hg
  -- 23
  obtain ⟨o, ho, hop, hd, hg⟩ := op_fact nfo23
  obtain ⟨og, hog, hopg, hdg, hgg⟩ := op_fact nfo22
  refine txt_move ho hop hd (want_some hg hog hdg t93) t15 (fun a24 u => ?_)
  have t94 := u.eq (by rw [hsz]; decide)
  replace hsz := u.size.trans hsz; replace hdf := u.df.trans hdf
  replace t3 := u.keep (by decide) t3
  replace t9 := u.keep (by decide) t9
  replace t11 := u.keep (by decide) t11
  replace t13 := u.keep (by decide) t13
  replace t15 := u.keep (by decide) t15
  replace t16 := u.keep (by decide) t16
  replace t17 := u.keep (by decide) t17
  replace t93 := u.keep (by decide) t93
  clear u ho hop hd hg hog hopg hdg hgg
  -- 24
  obtain ⟨o, ho, hop, hd, hg⟩ := op_fact nfo24
  obtain ⟨og, hog, hopg, hdg, hgg⟩ := op_fact nfo22
  refine txt_take ho hd (want_some hg hog hdg t93) (fun w' hS => run_load24 hop t9 hS.1) (fun a25 u => ?_)
  have t95 := u.eq (by rw [hsz]; decide)
  replace hsz := u.size.trans hsz; replace hdf := u.df.trans hdf
  replace t3 := u.keep (by decide) t3
  replace t9 := u.keep (by decide) t9
  replace t11 := u.keep (by decide) t11
  replace t13 := u.keep (by decide) t13
  replace t15 := u.keep (by decide) t15
  replace t16 := u.keep (by decide) t16
  replace t17 := u.keep (by decide) t17
  replace t93 := u.keep (by decide) t93
  replace t94 := u.keep (by decide) t94
  clear u ho hop hd hg hog hopg hdg hgg
  -- 25
  obtain ⟨o, ho, hop, hd, hg⟩ := op_fact nfo25
  obtain ⟨og, hog, hopg, hdg, hgg⟩ := op_fact nfo22
  refine txt_take ho hd (want_some hg hog hdg t93) (fun w' hS => run_load24 hop t11 hS.2.1) (fun a26 u => ?_)
  have t96 := u.eq (by rw [hsz]; decide)
  replace hsz := u.size.trans hsz; replace hdf := u.df.trans hdf
  replace t3 := u.keep (by decide) t3
  replace t9 := u.keep (by decide) t9
  replace t11 := u.keep (by decide) t11
  replace t13 := u.keep (by decide) t13
  replace t15 := u.keep (by decide) t15
  replace t16 := u.keep (by decide) t16
  replace t17 := u.keep (by decide) t17
  replace t93 := u.keep (by decide) t93
  replace t94 := u.keep (by decide) t94
  replace t95 := u.keep (by decide) t95
  clear u ho hop hd hg hog hopg hdg hgg
  -- 27
  obtain ⟨o, ho, hop, hd, hg⟩ := op_fact nfo27
  obtain ⟨og, hog, hopg, hdg, hgg⟩ := op_fact nfo22
  refine txt_take ho hd (want_some hg hog hdg t93) (fun w' hS => run_load24 hop t11 hS.2.1) (fun a27 u => ?_)
  have t98 := u.eq (by rw [hsz]; decide)
  replace hsz := u.size.trans hsz; replace hdf := u.df.trans hdf
  replace t3 := u.keep (by decide) t3
  replace t9 := u.keep (by decide) t9
  replace t11 := u.keep (by decide) t11
  replace t13 := u.keep (by decide) t13
  replace t15 := u.keep (by decide) t15
  replace t16 := u.keep (by decide) t16
  replace t17 := u.keep (by decide) t17
  replace t93 := u.keep (by decide) t93
  replace t94 := u.keep (by decide) t94
  replace t95 := u.keep (by decide) t95
  replace t96 := u.keep (by decide) t96
  clear u ho hop hd hg hog hopg hdg hgg
  -- 28
  obtain ⟨o, ho, hop, hd, hg⟩ := op_fact nfo28
  obtain ⟨og, hog, hopg, hdg, hgg⟩ := op_fact nfo22
  refine txt_take ho hd (want_some hg hog hdg t93) (fun w' hS => run_load24 hop t9 hS.1) (fun a28 u => ?_)
  have t99 := u.eq (by rw [hsz]; decide)
  replace hsz := u.size.trans hsz; replace hdf := u.df.trans hdf
  replace t3 := u.keep (by decide) t3
  replace t9 := u.keep (by decide) t9
  replace t11 := u.keep (by decide) t11
  replace t13 := u.keep (by decide) t13
  replace t15 := u.keep (by decide) t15
  replace t16 := u.keep (by decide) t16
  replace t17 := u.keep (by decide) t17
  replace t93 := u.keep (by decide) t93
  replace t94 := u.keep (by decide) t94
  replace t95 := u.keep (by decide) t95
  replace t96 := u.keep (by decide) t96
  replace t98 := u.keep (by decide) t98
  clear u ho hop hd hg hog hopg hdg hgg
  -- 26
  obtain ⟨o, ho, hop, hd, hg⟩ := op_fact nfo26
  obtain ⟨og, hog, hopg, hdg, hgg⟩ := op_fact nfo22
  refine txt_call ho hd (want_some hg hog hdg t93) (run_call2 hop rfl t95 t96 (fun w => enters_of Tryd.func16 (by kernel_rfl) rfl _ w)) ?_
  refine (MulS _ _ _ _ _ HF.k1.n1 HF.k2.n1 sm.s_x sm.s_y).mono ?_
  rintro e w9 ⟨v97, rfl, hn, hb⟩
  replace HF := HF.grow hb
  have N97 := hn; clear hn
  clear hb
  refine ⟨_, rfl, HF.S, fun a29 u => ?_⟩
  have t97 := u.eq (by rw [hsz]; decide)
  replace hsz := u.size.trans hsz; replace hdf := u.df.trans hdf
  replace t3 := u.keep (by decide) t3
  replace t9 := u.keep (by decide) t9
  replace t11 := u.keep (by decide) t11
  replace t13 := u.keep (by decide) t13
  replace t15 := u.keep (by decide) t15
  replace t16 := u.keep (by decide) t16
  replace t17 := u.keep (by decide) t17
  replace t93 := u.keep (by decide) t93
  replace t94 := u.keep (by decide) t94
  clear t95
  clear t96
  replace t98 := u.keep (by decide) t98
  replace t99 := u.keep (by decide) t99
  clear u ho hop hd hg hog hopg hdg hgg
  -- 29
  obtain ⟨o, ho, hop, hd, hg⟩ := op_fact nfo29
  obtain ⟨og, hog, hopg, hdg, hgg⟩ := op_fact nfo22
  refine txt_call ho hd (want_some hg hog hdg t93) (run_call2 hop rfl t98 t99 (fun w => enters_of Tryd.func16 (by kernel_rfl) rfl _ w)) ?_
  refine (MulS _ _ _ _ _ HF.k2.n1 HF.k1.n1 sm.s_y sm.s_x).mono ?_
  rintro e w10 ⟨v100, rfl, hn, hb⟩
  replace HF := HF.grow hb
  replace N97 := N97.below hb
  have N100 := hn; clear hn
  clear hb
  refine ⟨_, rfl, HF.S, fun a30 u => ?_⟩
  have t100 := u.eq (by rw [hsz]; decide)
  replace hsz := u.size.trans hsz; replace hdf := u.df.trans hdf
  replace t3 := u.keep (by decide) t3
  replace t9 := u.keep (by decide) t9
  replace t11 := u.keep (by decide) t11
  replace t13 := u.keep (by decide) t13
  replace t15 := u.keep (by decide) t15
  replace t16 := u.keep (by decide) t16
  replace t17 := u.keep (by decide) t17
  replace t93 := u.keep (by decide) t93
  replace t94 := u.keep (by decide) t94
  replace t97 := u.keep (by decide) t97
  clear t98
  clear t99
  clear u ho hop hd hg hog hopg hdg hgg
  -- 30
  obtain ⟨o, ho, hop, hd, hg⟩ := op_fact nfo30
  obtain ⟨og, hog, hopg, hdg, hgg⟩ := op_fact nfo22
  refine txt_call ho hd (want_some hg hog hdg t93) (run_clo2 hop rfl t94 t97 t100 (fun w => enters_of Tryd.func10 (by kernel_rfl) rfl _ w)) ?_
  refine (SameS _ _ _ _ _ N97 N100 (Nat.mul_comm _ _) sm.s_mxy).mono ?_
  rintro e w11 ⟨rfl, hb⟩
  replace HF := HF.grow hb
  clear N97
  clear N100
  clear hb
  refine ⟨_, rfl, HF.S, fun a31 u => ?_⟩
  have t101 := u.eq (by rw [hsz]; decide)
  replace hsz := u.size.trans hsz; replace hdf := u.df.trans hdf
  replace t3 := u.keep (by decide) t3
  replace t9 := u.keep (by decide) t9
  replace t11 := u.keep (by decide) t11
  replace t13 := u.keep (by decide) t13
  replace t15 := u.keep (by decide) t15
  replace t16 := u.keep (by decide) t16
  replace t17 := u.keep (by decide) t17
  replace t93 := u.keep (by decide) t93
  clear t94
  clear t97
  clear t100
  clear u ho hop hd hg hog hopg hdg hgg
  -- 31
  obtain ⟨o, ho, hop, hd, hg⟩ := op_fact nfo31
  refine txt_pick ho hop hd (want_none hg) t93 t101 (fun a32 u => ?_)
  have t102 := u.eq (by rw [hsz]; decide)
  replace hsz := u.size.trans hsz; replace hdf := u.df.trans hdf
  replace t3 := u.keep (by decide) t3
  replace t9 := u.keep (by decide) t9
  replace t11 := u.keep (by decide) t11
  replace t13 := u.keep (by decide) t13
  replace t15 := u.keep (by decide) t15
  replace t16 := u.keep (by decide) t16
  replace t17 := u.keep (by decide) t17
  clear t93
  clear t101
  clear u ho hop hd hg
  -- 32
  obtain ⟨o, ho, hop, hd, hg⟩ := op_fact nfo32
  refine txt_move ho hop hd (want_none hg) t102 (fun a33 u => ?_)
  have t103 := u.eq (by rw [hsz]; decide)
  replace hsz := u.size.trans hsz; replace hdf := u.df.trans hdf
  replace t3 := u.keep (by decide) t3
  replace t9 := u.keep (by decide) t9
  replace t11 := u.keep (by decide) t11
  replace t13 := u.keep (by decide) t13
  replace t15 := u.keep (by decide) t15
  replace t16 := u.keep (by decide) t16
  replace t17 := u.keep (by decide) t17
  clear t102
  clear u ho hop hd hg
  -- 33
  obtain ⟨o, ho, hop, hd, hg⟩ := op_fact nfo33
  obtain ⟨og, hog, hopg, hdg, hgg⟩ := op_fact nfo32
  refine txt_move ho hop hd (want_some hg hog hdg t103) t15 (fun a34 u => ?_)
  have t104 := u.eq (by rw [hsz]; decide)
  replace hsz := u.size.trans hsz; replace hdf := u.df.trans hdf
  replace t3 := u.keep (by decide) t3
  replace t9 := u.keep (by decide) t9
  replace t11 := u.keep (by decide) t11
  replace t13 := u.keep (by decide) t13
  replace t15 := u.keep (by decide) t15
  replace t16 := u.keep (by decide) t16
  replace t17 := u.keep (by decide) t17
  replace t103 := u.keep (by decide) t103
  clear u ho hop hd hg hog hopg hdg hgg
  -- 34
  obtain ⟨o, ho, hop, hd, hg⟩ := op_fact nfo34
  obtain ⟨og, hog, hopg, hdg, hgg⟩ := op_fact nfo32
  refine txt_take ho hd (want_some hg hog hdg t103) (fun w' hS => run_load24 hop t9 hS.1) (fun a35 u => ?_)
  have t105 := u.eq (by rw [hsz]; decide)
  replace hsz := u.size.trans hsz; replace hdf := u.df.trans hdf
  replace t3 := u.keep (by decide) t3
  replace t9 := u.keep (by decide) t9
  replace t11 := u.keep (by decide) t11
  replace t13 := u.keep (by decide) t13
  replace t15 := u.keep (by decide) t15
  replace t16 := u.keep (by decide) t16
  replace t17 := u.keep (by decide) t17
  replace t103 := u.keep (by decide) t103
  replace t104 := u.keep (by decide) t104
  clear u ho hop hd hg hog hopg hdg hgg
  -- 35
  obtain ⟨o, ho, hop, hd, hg⟩ := op_fact nfo35
  obtain ⟨og, hog, hopg, hdg, hgg⟩ := op_fact nfo32
  refine txt_take ho hd (want_some hg hog hdg t103) (fun w' hS => run_load24 hop t11 hS.2.1) (fun a36 u => ?_)
  have t106 := u.eq (by rw [hsz]; decide)
  replace hsz := u.size.trans hsz; replace hdf := u.df.trans hdf
  replace t3 := u.keep (by decide) t3
  replace t9 := u.keep (by decide) t9
  replace t11 := u.keep (by decide) t11
  replace t13 := u.keep (by decide) t13
  replace t15 := u.keep (by decide) t15
  replace t16 := u.keep (by decide) t16
  replace t17 := u.keep (by decide) t17
  replace t103 := u.keep (by decide) t103
  replace t104 := u.keep (by decide) t104
  replace t105 := u.keep (by decide) t105
  clear u ho hop hd hg hog hopg hdg hgg
  -- 37
  obtain ⟨o, ho, hop, hd, hg⟩ := op_fact nfo37
  obtain ⟨og, hog, hopg, hdg, hgg⟩ := op_fact nfo32
  refine txt_take ho hd (want_some hg hog hdg t103) (fun w' hS => run_load24 hop t13 hS.2.2.1) (fun a37 u => ?_)
  have t108 := u.eq (by rw [hsz]; decide)
  replace hsz := u.size.trans hsz; replace hdf := u.df.trans hdf
  replace t3 := u.keep (by decide) t3
  replace t9 := u.keep (by decide) t9
  replace t11 := u.keep (by decide) t11
  replace t13 := u.keep (by decide) t13
  replace t15 := u.keep (by decide) t15
  replace t16 := u.keep (by decide) t16
  replace t17 := u.keep (by decide) t17
  replace t103 := u.keep (by decide) t103
  replace t104 := u.keep (by decide) t104
  replace t105 := u.keep (by decide) t105
  replace t106 := u.keep (by decide) t106
  clear u ho hop hd hg hog hopg hdg hgg
  -- 39
  obtain ⟨o, ho, hop, hd, hg⟩ := op_fact nfo39
  obtain ⟨og, hog, hopg, hdg, hgg⟩ := op_fact nfo32
  refine txt_take ho hd (want_some hg hog hdg t103) (fun w' hS => run_load24 hop t9 hS.1) (fun a38 u => ?_)
  have t110 := u.eq (by rw [hsz]; decide)
  replace hsz := u.size.trans hsz; replace hdf := u.df.trans hdf
  replace t3 := u.keep (by decide) t3
  replace t9 := u.keep (by decide) t9
  replace t11 := u.keep (by decide) t11
  replace t13 := u.keep (by decide) t13
  replace t15 := u.keep (by decide) t15
  replace t16 := u.keep (by decide) t16
  replace t17 := u.keep (by decide) t17
  replace t103 := u.keep (by decide) t103
  replace t104 := u.keep (by decide) t104
  replace t105 := u.keep (by decide) t105
  replace t106 := u.keep (by decide) t106
  replace t108 := u.keep (by decide) t108
  clear u ho hop hd hg hog hopg hdg hgg
  -- 40
  obtain ⟨o, ho, hop, hd, hg⟩ := op_fact nfo40
  obtain ⟨og, hog, hopg, hdg, hgg⟩ := op_fact nfo32
  refine txt_take ho hd (want_some hg hog hdg t103) (fun w' hS => run_load24 hop t11 hS.2.1) (fun a39 u => ?_)
  have t111 := u.eq (by rw [hsz]; decide)
  replace hsz := u.size.trans hsz; replace hdf := u.df.trans hdf
  replace t3 := u.keep (by decide) t3
  replace t9 := u.keep (by decide) t9
  replace t11 := u.keep (by decide) t11
  replace t13 := u.keep (by decide) t13
  replace t15 := u.keep (by decide) t15
  replace t16 := u.keep (by decide) t16
  replace t17 := u.keep (by decide) t17
  replace t103 := u.keep (by decide) t103
  replace t104 := u.keep (by decide) t104
  replace t105 := u.keep (by decide) t105
  replace t106 := u.keep (by decide) t106
  replace t108 := u.keep (by decide) t108
  replace t110 := u.keep (by decide) t110
  clear u ho hop hd hg hog hopg hdg hgg
  -- 41
  obtain ⟨o, ho, hop, hd, hg⟩ := op_fact nfo41
  obtain ⟨og, hog, hopg, hdg, hgg⟩ := op_fact nfo32
  refine txt_take ho hd (want_some hg hog hdg t103) (fun w' hS => run_load24 hop t13 hS.2.2.1) (fun a40 u => ?_)
  have t112 := u.eq (by rw [hsz]; decide)
  replace hsz := u.size.trans hsz; replace hdf := u.df.trans hdf
  replace t3 := u.keep (by decide) t3
  replace t9 := u.keep (by decide) t9
  replace t11 := u.keep (by decide) t11
  replace t13 := u.keep (by decide) t13
  replace t15 := u.keep (by decide) t15
  replace t16 := u.keep (by decide) t16
  replace t17 := u.keep (by decide) t17
  replace t103 := u.keep (by decide) t103
  replace t104 := u.keep (by decide) t104
  replace t105 := u.keep (by decide) t105
  replace t106 := u.keep (by decide) t106
  replace t108 := u.keep (by decide) t108
  replace t110 := u.keep (by decide) t110
  replace t111 := u.keep (by decide) t111
  clear u ho hop hd hg hog hopg hdg hgg
  -- 36
  obtain ⟨o, ho, hop, hd, hg⟩ := op_fact nfo36
  obtain ⟨og, hog, hopg, hdg, hgg⟩ := op_fact nfo32
  refine txt_call ho hd (want_some hg hog hdg t103) (run_call2 hop rfl t105 t106 (fun w => enters_of Tryd.func16 (by kernel_rfl) rfl _ w)) ?_
  refine (MulS _ _ _ _ _ HF.k1.n1 HF.k2.n1 sm.s_x sm.s_y).mono ?_
  rintro e w12 ⟨v107, rfl, hn, hb⟩
  replace HF := HF.grow hb
  have N107 := hn; clear hn
  clear hb
  refine ⟨_, rfl, HF.S, fun a41 u => ?_⟩
  have t107 := u.eq (by rw [hsz]; decide)
  replace hsz := u.size.trans hsz; replace hdf := u.df.trans hdf
  replace t3 := u.keep (by decide) t3
  replace t9 := u.keep (by decide) t9
  replace t11 := u.keep (by decide) t11
  replace t13 := u.keep (by decide) t13
  replace t15 := u.keep (by decide) t15
  replace t16 := u.keep (by decide) t16
  replace t17 := u.keep (by decide) t17
  replace t103 := u.keep (by decide) t103
  replace t104 := u.keep (by decide) t104
  clear t105
  clear t106
  replace t108 := u.keep (by decide) t108
  replace t110 := u.keep (by decide) t110
  replace t111 := u.keep (by decide) t111
  replace t112 := u.keep (by decide) t112
  clear u ho hop hd hg hog hopg hdg hgg
  -- 38
  obtain ⟨o, ho, hop, hd, hg⟩ := op_fact nfo38
  obtain ⟨og, hog, hopg, hdg, hgg⟩ := op_fact nfo32
  refine txt_call ho hd (want_some hg hog hdg t103) (run_call2 hop rfl t107 t108 (fun w => enters_of Tryd.func16 (by kernel_rfl) rfl _ w)) ?_
  refine (MulS _ _ _ _ _ N107 HF.k3.n1 sm.s_mxy sm.s_z).mono ?_
  rintro e w13 ⟨v109, rfl, hn, hb⟩
  replace HF := HF.grow hb
  clear N107
  have N109 := hn; clear hn
  clear hb
  refine ⟨_, rfl, HF.S, fun a42 u => ?_⟩
  have t109 := u.eq (by rw [hsz]; decide)
  replace hsz := u.size.trans hsz; replace hdf := u.df.trans hdf
  replace t3 := u.keep (by decide) t3
  replace t9 := u.keep (by decide) t9
  replace t11 := u.keep (by decide) t11
  replace t13 := u.keep (by decide) t13
  replace t15 := u.keep (by decide) t15
  replace t16 := u.keep (by decide) t16
  replace t17 := u.keep (by decide) t17
  replace t103 := u.keep (by decide) t103
  replace t104 := u.keep (by decide) t104
  clear t107
  clear t108
  replace t110 := u.keep (by decide) t110
  replace t111 := u.keep (by decide) t111
  replace t112 := u.keep (by decide) t112
  clear u ho hop hd hg hog hopg hdg hgg
  -- 42
  obtain ⟨o, ho, hop, hd, hg⟩ := op_fact nfo42
  obtain ⟨og, hog, hopg, hdg, hgg⟩ := op_fact nfo32
  refine txt_call ho hd (want_some hg hog hdg t103) (run_call2 hop rfl t111 t112 (fun w => enters_of Tryd.func16 (by kernel_rfl) rfl _ w)) ?_
  refine (MulS _ _ _ _ _ HF.k2.n1 HF.k3.n1 sm.s_y sm.s_z).mono ?_
  rintro e w14 ⟨v113, rfl, hn, hb⟩
  replace HF := HF.grow hb
  replace N109 := N109.below hb
  have N113 := hn; clear hn
  clear hb
  refine ⟨_, rfl, HF.S, fun a43 u => ?_⟩
  have t113 := u.eq (by rw [hsz]; decide)
  replace hsz := u.size.trans hsz; replace hdf := u.df.trans hdf
  replace t3 := u.keep (by decide) t3
  replace t9 := u.keep (by decide) t9
  replace t11 := u.keep (by decide) t11
  replace t13 := u.keep (by decide) t13
  replace t15 := u.keep (by decide) t15
  replace t16 := u.keep (by decide) t16
  replace t17 := u.keep (by decide) t17
  replace t103 := u.keep (by decide) t103
  replace t104 := u.keep (by decide) t104
  replace t109 := u.keep (by decide) t109
  replace t110 := u.keep (by decide) t110
  clear t111
  clear t112
  clear u ho hop hd hg hog hopg hdg hgg
  -- 43
  obtain ⟨o, ho, hop, hd, hg⟩ := op_fact nfo43
  obtain ⟨og, hog, hopg, hdg, hgg⟩ := op_fact nfo32
  refine txt_call ho hd (want_some hg hog hdg t103) (run_call2 hop rfl t110 t113 (fun w => enters_of Tryd.func16 (by kernel_rfl) rfl _ w)) ?_
  refine (MulS _ _ _ _ _ HF.k1.n1 N113 sm.s_x sm.s_myz).mono ?_
  rintro e w15 ⟨v114, rfl, hn, hb⟩
  replace HF := HF.grow hb
  replace N109 := N109.below hb
  clear N113
  have N114 := hn; clear hn
  clear hb
  refine ⟨_, rfl, HF.S, fun a44 u => ?_⟩
  have t114 := u.eq (by rw [hsz]; decide)
  replace hsz := u.size.trans hsz; replace hdf := u.df.trans hdf
  replace t3 := u.keep (by decide) t3
  replace t9 := u.keep (by decide) t9
  replace t11 := u.keep (by decide) t11
  replace t13 := u.keep (by decide) t13
  replace t15 := u.keep (by decide) t15
  replace t16 := u.keep (by decide) t16
  replace t17 := u.keep (by decide) t17
  replace t103 := u.keep (by decide) t103
  replace t104 := u.keep (by decide) t104
  replace t109 := u.keep (by decide) t109
  clear t110
  clear t113
  clear u ho hop hd hg hog hopg hdg hgg
  -- 44
  obtain ⟨o, ho, hop, hd, hg⟩ := op_fact nfo44
  obtain ⟨og, hog, hopg, hdg, hgg⟩ := op_fact nfo32
  refine txt_call ho hd (want_some hg hog hdg t103) (run_clo2 hop rfl t104 t109 t114 (fun w => enters_of Tryd.func10 (by kernel_rfl) rfl _ w)) ?_
  refine (SameS _ _ _ _ _ N109 N114 (Nat.mul_assoc _ _ _) sm.s_mxyz).mono ?_
  rintro e w16 ⟨rfl, hb⟩
  replace HF := HF.grow hb
  clear N109
  clear N114
  clear hb
  refine ⟨_, rfl, HF.S, fun a45 u => ?_⟩
  have t115 := u.eq (by rw [hsz]; decide)
  replace hsz := u.size.trans hsz; replace hdf := u.df.trans hdf
  replace t3 := u.keep (by decide) t3
  replace t9 := u.keep (by decide) t9
  replace t11 := u.keep (by decide) t11
  replace t13 := u.keep (by decide) t13
  replace t15 := u.keep (by decide) t15
  replace t16 := u.keep (by decide) t16
  replace t17 := u.keep (by decide) t17
  replace t103 := u.keep (by decide) t103
  clear t104
  clear t109
  clear t114
  clear u ho hop hd hg hog hopg hdg hgg
  -- 45
  obtain ⟨o, ho, hop, hd, hg⟩ := op_fact nfo45
  refine txt_pick ho hop hd (want_none hg) t103 t115 (fun a46 u => ?_)
  have t116 := u.eq (by rw [hsz]; decide)
  replace hsz := u.size.trans hsz; replace hdf := u.df.trans hdf
  replace t3 := u.keep (by decide) t3
  replace t9 := u.keep (by decide) t9
  replace t11 := u.keep (by decide) t11
  replace t13 := u.keep (by decide) t13
  replace t15 := u.keep (by decide) t15
  replace t16 := u.keep (by decide) t16
  replace t17 := u.keep (by decide) t17
  clear t103
  clear t115
  clear u ho hop hd hg
  -- 46
  obtain ⟨o, ho, hop, hd, hg⟩ := op_fact nfo46
  refine txt_move ho hop hd (want_none hg) t116 (fun a47 u => ?_)
  have t117 := u.eq (by rw [hsz]; decide)
  replace hsz := u.size.trans hsz; replace hdf := u.df.trans hdf
  replace t3 := u.keep (by decide) t3
  replace t9 := u.keep (by decide) t9
  replace t11 := u.keep (by decide) t11
  replace t13 := u.keep (by decide) t13
  replace t15 := u.keep (by decide) t15
  replace t16 := u.keep (by decide) t16
  replace t17 := u.keep (by decide) t17
  clear t116
  clear u ho hop hd hg
  -- 47
  obtain ⟨o, ho, hop, hd, hg⟩ := op_fact nfo47
  obtain ⟨og, hog, hopg, hdg, hgg⟩ := op_fact nfo46
  refine txt_move ho hop hd (want_some hg hog hdg t117) t15 (fun a48 u => ?_)
  have t118 := u.eq (by rw [hsz]; decide)
  replace hsz := u.size.trans hsz; replace hdf := u.df.trans hdf
  replace t3 := u.keep (by decide) t3
  replace t9 := u.keep (by decide) t9
  replace t11 := u.keep (by decide) t11
  replace t13 := u.keep (by decide) t13
  replace t15 := u.keep (by decide) t15
  replace t16 := u.keep (by decide) t16
  replace t17 := u.keep (by decide) t17
  replace t117 := u.keep (by decide) t117
  clear u ho hop hd hg hog hopg hdg hgg
  -- 48
  obtain ⟨o, ho, hop, hd, hg⟩ := op_fact nfo48
  obtain ⟨og, hog, hopg, hdg, hgg⟩ := op_fact nfo46
  refine txt_take ho hd (want_some hg hog hdg t117) (fun w' hS => run_load24 hop t9 hS.1) (fun a49 u => ?_)
  have t119 := u.eq (by rw [hsz]; decide)
  replace hsz := u.size.trans hsz; replace hdf := u.df.trans hdf
  replace t3 := u.keep (by decide) t3
  replace t9 := u.keep (by decide) t9
  replace t11 := u.keep (by decide) t11
  replace t13 := u.keep (by decide) t13
  replace t15 := u.keep (by decide) t15
  replace t16 := u.keep (by decide) t16
  replace t17 := u.keep (by decide) t17
  replace t117 := u.keep (by decide) t117
  replace t118 := u.keep (by decide) t118
  clear u ho hop hd hg hog hopg hdg hgg
  -- 49
  obtain ⟨o, ho, hop, hd, hg⟩ := op_fact nfo49
  obtain ⟨og, hog, hopg, hdg, hgg⟩ := op_fact nfo46
  refine txt_take ho hd (want_some hg hog hdg t117) (fun w' hS => run_load24 hop t11 hS.2.1) (fun a50 u => ?_)
  have t120 := u.eq (by rw [hsz]; decide)
  replace hsz := u.size.trans hsz; replace hdf := u.df.trans hdf
  replace t3 := u.keep (by decide) t3
  replace t9 := u.keep (by decide) t9
  replace t11 := u.keep (by decide) t11
  replace t13 := u.keep (by decide) t13
  replace t15 := u.keep (by decide) t15
  replace t16 := u.keep (by decide) t16
  replace t17 := u.keep (by decide) t17
  replace t117 := u.keep (by decide) t117
  replace t118 := u.keep (by decide) t118
  replace t119 := u.keep (by decide) t119
  clear u ho hop hd hg hog hopg hdg hgg
  -- 50
  obtain ⟨o, ho, hop, hd, hg⟩ := op_fact nfo50
  obtain ⟨og, hog, hopg, hdg, hgg⟩ := op_fact nfo46
  refine txt_take ho hd (want_some hg hog hdg t117) (fun w' hS => run_load24 hop t13 hS.2.2.1) (fun a51 u => ?_)
  have t121 := u.eq (by rw [hsz]; decide)
  replace hsz := u.size.trans hsz; replace hdf := u.df.trans hdf
  replace t3 := u.keep (by decide) t3
  replace t9 := u.keep (by decide) t9
  replace t11 := u.keep (by decide) t11
  replace t13 := u.keep (by decide) t13
  replace t15 := u.keep (by decide) t15
  replace t16 := u.keep (by decide) t16
  replace t17 := u.keep (by decide) t17
  replace t117 := u.keep (by decide) t117
  replace t118 := u.keep (by decide) t118
  replace t119 := u.keep (by decide) t119
  replace t120 := u.keep (by decide) t120
  clear u ho hop hd hg hog hopg hdg hgg
  -- 53
  obtain ⟨o, ho, hop, hd, hg⟩ := op_fact nfo53
  obtain ⟨og, hog, hopg, hdg, hgg⟩ := op_fact nfo46
  refine txt_take ho hd (want_some hg hog hdg t117) (fun w' hS => run_load24 hop t9 hS.1) (fun a52 u => ?_)
  have t124 := u.eq (by rw [hsz]; decide)
  replace hsz := u.size.trans hsz; replace hdf := u.df.trans hdf
  replace t3 := u.keep (by decide) t3
  replace t9 := u.keep (by decide) t9
  replace t11 := u.keep (by decide) t11
  replace t13 := u.keep (by decide) t13
  replace t15 := u.keep (by decide) t15
  replace t16 := u.keep (by decide) t16
  replace t17 := u.keep (by decide) t17
  replace t117 := u.keep (by decide) t117
  replace t118 := u.keep (by decide) t118
  replace t119 := u.keep (by decide) t119
  replace t120 := u.keep (by decide) t120
  replace t121 := u.keep (by decide) t121
  clear u ho hop hd hg hog hopg hdg hgg
  -- 54
  obtain ⟨o, ho, hop, hd, hg⟩ := op_fact nfo54
  obtain ⟨og, hog, hopg, hdg, hgg⟩ := op_fact nfo46
  refine txt_take ho hd (want_some hg hog hdg t117) (fun w' hS => run_load24 hop t11 hS.2.1) (fun a53 u => ?_)
  have t125 := u.eq (by rw [hsz]; decide)
  replace hsz := u.size.trans hsz; replace hdf := u.df.trans hdf
  replace t3 := u.keep (by decide) t3
  replace t9 := u.keep (by decide) t9
  clear t11
  replace t13 := u.keep (by decide) t13
  replace t15 := u.keep (by decide) t15
  replace t16 := u.keep (by decide) t16
  replace t17 := u.keep (by decide) t17
  replace t117 := u.keep (by decide) t117
  replace t118 := u.keep (by decide) t118
  replace t119 := u.keep (by decide) t119
  replace t120 := u.keep (by decide) t120
  replace t121 := u.keep (by decide) t121
  replace t124 := u.keep (by decide) t124
  clear u ho hop hd hg hog hopg hdg hgg
  -- 56
  obtain ⟨o, ho, hop, hd, hg⟩ := op_fact nfo56
  obtain ⟨og, hog, hopg, hdg, hgg⟩ := op_fact nfo46
  refine txt_take ho hd (want_some hg hog hdg t117) (fun w' hS => run_load24 hop t9 hS.1) (fun a54 u => ?_)
  have t127 := u.eq (by rw [hsz]; decide)
  replace hsz := u.size.trans hsz; replace hdf := u.df.trans hdf
  replace t3 := u.keep (by decide) t3
  replace t9 := u.keep (by decide) t9
  replace t13 := u.keep (by decide) t13
  replace t15 := u.keep (by decide) t15
  replace t16 := u.keep (by decide) t16
  replace t17 := u.keep (by decide) t17
  replace t117 := u.keep (by decide) t117
  replace t118 := u.keep (by decide) t118
  replace t119 := u.keep (by decide) t119
  replace t120 := u.keep (by decide) t120
  replace t121 := u.keep (by decide) t121
  replace t124 := u.keep (by decide) t124
  replace t125 := u.keep (by decide) t125
  clear u ho hop hd hg hog hopg hdg hgg
  -- 57
  obtain ⟨o, ho, hop, hd, hg⟩ := op_fact nfo57
  obtain ⟨og, hog, hopg, hdg, hgg⟩ := op_fact nfo46
  refine txt_take ho hd (want_some hg hog hdg t117) (fun w' hS => run_load24 hop t13 hS.2.2.1) (fun a55 u => ?_)
  have t128 := u.eq (by rw [hsz]; decide)
  replace hsz := u.size.trans hsz; replace hdf := u.df.trans hdf
  replace t3 := u.keep (by decide) t3
  replace t9 := u.keep (by decide) t9
  clear t13
  replace t15 := u.keep (by decide) t15
  replace t16 := u.keep (by decide) t16
  replace t17 := u.keep (by decide) t17
  replace t117 := u.keep (by decide) t117
  replace t118 := u.keep (by decide) t118
  replace t119 := u.keep (by decide) t119
  replace t120 := u.keep (by decide) t120
  replace t121 := u.keep (by decide) t121
  replace t124 := u.keep (by decide) t124
  replace t125 := u.keep (by decide) t125
  replace t127 := u.keep (by decide) t127
  clear u ho hop hd hg hog hopg hdg hgg
  -- 51
  obtain ⟨o, ho, hop, hd, hg⟩ := op_fact nfo51
  obtain ⟨og, hog, hopg, hdg, hgg⟩ := op_fact nfo46
  refine txt_call ho hd (want_some hg hog hdg t117) (run_call2 hop rfl t120 t121 (fun w => enters_of Tryd.func13 (by kernel_rfl) rfl _ w)) ?_
  refine (AddS _ _ _ _ _ HF.k2.n1 HF.k3.n1 sm.s_y sm.s_z).mono ?_
  rintro e w17 ⟨v122, rfl, hn, hb⟩
  replace HF := HF.grow hb
  have N122 := hn; clear hn
  clear hb
  refine ⟨_, rfl, HF.S, fun a56 u => ?_⟩
  have t122 := u.eq (by rw [hsz]; decide)
  replace hsz := u.size.trans hsz; replace hdf := u.df.trans hdf
  replace t3 := u.keep (by decide) t3
  replace t9 := u.keep (by decide) t9
  replace t15 := u.keep (by decide) t15
  replace t16 := u.keep (by decide) t16
  replace t17 := u.keep (by decide) t17
  replace t117 := u.keep (by decide) t117
  replace t118 := u.keep (by decide) t118
  replace t119 := u.keep (by decide) t119
  clear t120
  clear t121
  replace t124 := u.keep (by decide) t124
  replace t125 := u.keep (by decide) t125
  replace t127 := u.keep (by decide) t127
  replace t128 := u.keep (by decide) t128
  clear u ho hop hd hg hog hopg hdg hgg
  -- 52
  obtain ⟨o, ho, hop, hd, hg⟩ := op_fact nfo52
  obtain ⟨og, hog, hopg, hdg, hgg⟩ := op_fact nfo46
  refine txt_call ho hd (want_some hg hog hdg t117) (run_call2 hop rfl t119 t122 (fun w => enters_of Tryd.func16 (by kernel_rfl) rfl _ w)) ?_
  refine (MulS _ _ _ _ _ HF.k1.n1 N122 sm.s_x sm.s_yz).mono ?_
  rintro e w18 ⟨v123, rfl, hn, hb⟩
  replace HF := HF.grow hb
  clear N122
  have N123 := hn; clear hn
  clear hb
  refine ⟨_, rfl, HF.S, fun a57 u => ?_⟩
  have t123 := u.eq (by rw [hsz]; decide)
  replace hsz := u.size.trans hsz; replace hdf := u.df.trans hdf
  replace t3 := u.keep (by decide) t3
  replace t9 := u.keep (by decide) t9
  replace t15 := u.keep (by decide) t15
  replace t16 := u.keep (by decide) t16
  replace t17 := u.keep (by decide) t17
  replace t117 := u.keep (by decide) t117
  replace t118 := u.keep (by decide) t118
  clear t119
  clear t122
  replace t124 := u.keep (by decide) t124
  replace t125 := u.keep (by decide) t125
  replace t127 := u.keep (by decide) t127
  replace t128 := u.keep (by decide) t128
  clear u ho hop hd hg hog hopg hdg hgg
  -- 55
  obtain ⟨o, ho, hop, hd, hg⟩ := op_fact nfo55
  obtain ⟨og, hog, hopg, hdg, hgg⟩ := op_fact nfo46
  refine txt_call ho hd (want_some hg hog hdg t117) (run_call2 hop rfl t124 t125 (fun w => enters_of Tryd.func16 (by kernel_rfl) rfl _ w)) ?_
  refine (MulS _ _ _ _ _ HF.k1.n1 HF.k2.n1 sm.s_x sm.s_y).mono ?_
  rintro e w19 ⟨v126, rfl, hn, hb⟩
  replace HF := HF.grow hb
  replace N123 := N123.below hb
  have N126 := hn; clear hn
  clear hb
  refine ⟨_, rfl, HF.S, fun a58 u => ?_⟩
  have t126 := u.eq (by rw [hsz]; decide)
  replace hsz := u.size.trans hsz; replace hdf := u.df.trans hdf
  replace t3 := u.keep (by decide) t3
  replace t9 := u.keep (by decide) t9
  replace t15 := u.keep (by decide) t15
  replace t16 := u.keep (by decide) t16
  replace t17 := u.keep (by decide) t17
  replace t117 := u.keep (by decide) t117
  replace t118 := u.keep (by decide) t118
  replace t123 := u.keep (by decide) t123
  clear t124
  clear t125
  replace t127 := u.keep (by decide) t127
  replace t128 := u.keep (by decide) t128
  clear u ho hop hd hg hog hopg hdg hgg
  -- 58
  obtain ⟨o, ho, hop, hd, hg⟩ := op_fact nfo58
  obtain ⟨og, hog, hopg, hdg, hgg⟩ := op_fact nfo46
  refine txt_call ho hd (want_some hg hog hdg t117) (run_call2 hop rfl t127 t128 (fun w => enters_of Tryd.func16 (by kernel_rfl) rfl _ w)) ?_
  refine (MulS _ _ _ _ _ HF.k1.n1 HF.k3.n1 sm.s_x sm.s_z).mono ?_
  rintro e w20 ⟨v129, rfl, hn, hb⟩
  replace HF := HF.grow hb
  replace N123 := N123.below hb
  replace N126 := N126.below hb
  have N129 := hn; clear hn
  clear hb
  refine ⟨_, rfl, HF.S, fun a59 u => ?_⟩
  have t129 := u.eq (by rw [hsz]; decide)
  replace hsz := u.size.trans hsz; replace hdf := u.df.trans hdf
  replace t3 := u.keep (by decide) t3
  replace t9 := u.keep (by decide) t9
  replace t15 := u.keep (by decide) t15
  replace t16 := u.keep (by decide) t16
  replace t17 := u.keep (by decide) t17
  replace t117 := u.keep (by decide) t117
  replace t118 := u.keep (by decide) t118
  replace t123 := u.keep (by decide) t123
  replace t126 := u.keep (by decide) t126
  clear t127
  clear t128
  clear u ho hop hd hg hog hopg hdg hgg
  -- 59
  obtain ⟨o, ho, hop, hd, hg⟩ := op_fact nfo59
  obtain ⟨og, hog, hopg, hdg, hgg⟩ := op_fact nfo46
  refine txt_call ho hd (want_some hg hog hdg t117) (run_call2 hop rfl t126 t129 (fun w => enters_of Tryd.func13 (by kernel_rfl) rfl _ w)) ?_
  refine (AddS _ _ _ _ _ N126 N129 sm.s_mxy sm.s_mxz).mono ?_
  rintro e w21 ⟨v130, rfl, hn, hb⟩
  replace HF := HF.grow hb
  replace N123 := N123.below hb
  clear N126
  clear N129
  have N130 := hn; clear hn
  clear hb
  refine ⟨_, rfl, HF.S, fun a60 u => ?_⟩
  have t130 := u.eq (by rw [hsz]; decide)
  replace hsz := u.size.trans hsz; replace hdf := u.df.trans hdf
  replace t3 := u.keep (by decide) t3
  replace t9 := u.keep (by decide) t9
  replace t15 := u.keep (by decide) t15
  replace t16 := u.keep (by decide) t16
  replace t17 := u.keep (by decide) t17
  replace t117 := u.keep (by decide) t117
  replace t118 := u.keep (by decide) t118
  replace t123 := u.keep (by decide) t123
  clear t126
  clear t129
  clear u ho hop hd hg hog hopg hdg hgg
  -- 60
  obtain ⟨o, ho, hop, hd, hg⟩ := op_fact nfo60
  obtain ⟨og, hog, hopg, hdg, hgg⟩ := op_fact nfo46
  refine txt_call ho hd (want_some hg hog hdg t117) (run_clo2 hop rfl t118 t123 t130 (fun w => enters_of Tryd.func10 (by kernel_rfl) rfl _ w)) ?_
  refine (SameS _ _ _ _ _ N123 N130 (Nat.mul_add _ _ _) sm.s_md).mono ?_
  rintro e w22 ⟨rfl, hb⟩
  replace HF := HF.grow hb
  clear N123
  clear N130
  clear hb
  refine ⟨_, rfl, HF.S, fun a61 u => ?_⟩
  have t131 := u.eq (by rw [hsz]; decide)
  replace hsz := u.size.trans hsz; replace hdf := u.df.trans hdf
  replace t3 := u.keep (by decide) t3
  replace t9 := u.keep (by decide) t9
  replace t15 := u.keep (by decide) t15
  replace t16 := u.keep (by decide) t16
  replace t17 := u.keep (by decide) t17
  replace t117 := u.keep (by decide) t117
  clear t118
  clear t123
  clear t130
  clear u ho hop hd hg hog hopg hdg hgg
  -- 61
  obtain ⟨o, ho, hop, hd, hg⟩ := op_fact nfo61
  refine txt_pick ho hop hd (want_none hg) t117 t131 (fun a62 u => ?_)
  have t132 := u.eq (by rw [hsz]; decide)
  replace hsz := u.size.trans hsz; replace hdf := u.df.trans hdf
  replace t3 := u.keep (by decide) t3
  replace t9 := u.keep (by decide) t9
  replace t15 := u.keep (by decide) t15
  replace t16 := u.keep (by decide) t16
  replace t17 := u.keep (by decide) t17
  clear t117
  clear t131
  clear u ho hop hd hg
  -- 62
  obtain ⟨o, ho, hop, hd, hg⟩ := op_fact nfo62
  refine txt_move ho hop hd (want_none hg) t132 (fun a63 u => ?_)
  have t133 := u.eq (by rw [hsz]; decide)
  replace hsz := u.size.trans hsz; replace hdf := u.df.trans hdf
  replace t3 := u.keep (by decide) t3
  replace t9 := u.keep (by decide) t9
  replace t15 := u.keep (by decide) t15
  replace t16 := u.keep (by decide) t16
  replace t17 := u.keep (by decide) t17
  clear t132
  clear u ho hop hd hg
  -- 63
  obtain ⟨o, ho, hop, hd, hg⟩ := op_fact nfo63
  obtain ⟨og, hog, hopg, hdg, hgg⟩ := op_fact nfo62
  refine txt_move ho hop hd (want_some hg hog hdg t133) t17 (fun a64 u => ?_)
  have t134 := u.eq (by rw [hsz]; decide)
  replace hsz := u.size.trans hsz; replace hdf := u.df.trans hdf
  replace t3 := u.keep (by decide) t3
  replace t9 := u.keep (by decide) t9
  replace t15 := u.keep (by decide) t15
  replace t16 := u.keep (by decide) t16
  clear t17
  replace t133 := u.keep (by decide) t133
  clear u ho hop hd hg hog hopg hdg hgg
  -- 64
  obtain ⟨o, ho, hop, hd, hg⟩ := op_fact nfo64
  obtain ⟨og, hog, hopg, hdg, hgg⟩ := op_fact nfo62
  refine txt_take ho hd (want_some hg hog hdg t133) (fun w' hS => run_eqnil hop t134 (fun w => by kernel_rfl)) (fun a65 u => ?_)
  have t135 := u.eq (by rw [hsz]; decide)
  replace hsz := u.size.trans hsz; replace hdf := u.df.trans hdf
  replace t3 := u.keep (by decide) t3
  replace t9 := u.keep (by decide) t9
  replace t15 := u.keep (by decide) t15
  replace t16 := u.keep (by decide) t16
  replace t133 := u.keep (by decide) t133
  clear t134
  clear u ho hop hd hg hog hopg hdg hgg
  -- 65
  obtain ⟨o, ho, hop, hd, hg⟩ := op_fact nfo65
  refine txt_pick ho hop hd (want_none hg) t133 t135 (fun a66 u => ?_)
  have t136 := u.eq (by rw [hsz]; decide)
  replace hsz := u.size.trans hsz; replace hdf := u.df.trans hdf
  replace t3 := u.keep (by decide) t3
  replace t9 := u.keep (by decide) t9
  replace t15 := u.keep (by decide) t15
  replace t16 := u.keep (by decide) t16
  clear t133
  clear t135
  clear u ho hop hd hg
  -- 66
  obtain ⟨o, ho, hop, hd, hg⟩ := op_fact nfo66
  refine txt_move ho hop hd (want_none hg) t136 (fun a67 u => ?_)
  have t137 := u.eq (by rw [hsz]; decide)
  replace hsz := u.size.trans hsz; replace hdf := u.df.trans hdf
  replace t3 := u.keep (by decide) t3
  replace t9 := u.keep (by decide) t9
  replace t15 := u.keep (by decide) t15
  replace t16 := u.keep (by decide) t16
  clear t136
  clear u ho hop hd hg
  -- 67
  obtain ⟨o, ho, hop, hd, hg⟩ := op_fact nfo67
  obtain ⟨og, hog, hopg, hdg, hgg⟩ := op_fact nfo66
  refine txt_move ho hop hd (want_some hg hog hdg t137) t15 (fun a68 u => ?_)
  have t138 := u.eq (by rw [hsz]; decide)
  replace hsz := u.size.trans hsz; replace hdf := u.df.trans hdf
  replace t3 := u.keep (by decide) t3
  replace t9 := u.keep (by decide) t9
  replace t15 := u.keep (by decide) t15
  replace t16 := u.keep (by decide) t16
  replace t137 := u.keep (by decide) t137
  clear u ho hop hd hg hog hopg hdg hgg
  -- 68
  obtain ⟨o, ho, hop, hd, hg⟩ := op_fact nfo68
  obtain ⟨og, hog, hopg, hdg, hgg⟩ := op_fact nfo66
  refine txt_take ho hd (want_some hg hog hdg t137) (fun w' hS => run_load24 hop t16 hS.2.2.2) (fun a69 u => ?_)
  have t139 := u.eq (by rw [hsz]; decide)
  replace hsz := u.size.trans hsz; replace hdf := u.df.trans hdf
  replace t3 := u.keep (by decide) t3
  replace t9 := u.keep (by decide) t9
  replace t15 := u.keep (by decide) t15
  clear t16
  replace t137 := u.keep (by decide) t137
  replace t138 := u.keep (by decide) t138
  clear u ho hop hd hg hog hopg hdg hgg
  -- 69
  obtain ⟨o, ho, hop, hd, hg⟩ := op_fact nfo69
  obtain ⟨og, hog, hopg, hdg, hgg⟩ := op_fact nfo66
  refine txt_take ho hd (want_some hg hog hdg t137) (fun w' hS => run_load24 hop t9 hS.1) (fun a70 u => ?_)
  have t140 := u.eq (by rw [hsz]; decide)
  replace hsz := u.size.trans hsz; replace hdf := u.df.trans hdf
  replace t3 := u.keep (by decide) t3
  replace t9 := u.keep (by decide) t9
  replace t15 := u.keep (by decide) t15
  replace t137 := u.keep (by decide) t137
  replace t138 := u.keep (by decide) t138
  replace t139 := u.keep (by decide) t139
  clear u ho hop hd hg hog hopg hdg hgg
  -- 70
  obtain ⟨o, ho, hop, hd, hg⟩ := op_fact nfo70
  obtain ⟨og, hog, hopg, hdg, hgg⟩ := op_fact nfo66
  refine txt_call ho hd (want_some hg hog hdg t137) (run_clo2 hop rfl t138 t139 t140 (fun w => enters_of Tryd.func10 (by kernel_rfl) rfl _ w)) ?_
  refine (SameS _ _ _ _ _ HF.k4.n1 HF.k1.n1 (rfl) sm.s_x).mono ?_
  rintro e w23 ⟨rfl, hb⟩
  replace HF := HF.grow hb
  clear hb
  refine ⟨_, rfl, HF.S, fun a71 u => ?_⟩
  have t141 := u.eq (by rw [hsz]; decide)
  replace hsz := u.size.trans hsz; replace hdf := u.df.trans hdf
  replace t3 := u.keep (by decide) t3
  replace t9 := u.keep (by decide) t9
  replace t15 := u.keep (by decide) t15
  replace t137 := u.keep (by decide) t137
  clear t138
  clear t139
  clear t140
  clear u ho hop hd hg hog hopg hdg hgg
  -- 71
  obtain ⟨o, ho, hop, hd, hg⟩ := op_fact nfo71
  refine txt_pick ho hop hd (want_none hg) t137 t141 (fun a72 u => ?_)
  have t142 := u.eq (by rw [hsz]; decide)
  replace hsz := u.size.trans hsz; replace hdf := u.df.trans hdf
  replace t3 := u.keep (by decide) t3
  replace t9 := u.keep (by decide) t9
  replace t15 := u.keep (by decide) t15
  clear t137
  clear t141
  clear u ho hop hd hg
  -- 72
  obtain ⟨o, ho, hop, hd, hg⟩ := op_fact nfo72
  refine txt_move ho hop hd (want_none hg) t142 (fun a73 u => ?_)
  have t143 := u.eq (by rw [hsz]; decide)
  replace hsz := u.size.trans hsz; replace hdf := u.df.trans hdf
  replace t3 := u.keep (by decide) t3
  replace t9 := u.keep (by decide) t9
  replace t15 := u.keep (by decide) t15
  clear t142
  clear u ho hop hd hg
  -- 73
  obtain ⟨o, ho, hop, hd, hg⟩ := op_fact nfo73
  obtain ⟨og, hog, hopg, hdg, hgg⟩ := op_fact nfo72
  refine txt_move ho hop hd (want_some hg hog hdg t143) t15 (fun a74 u => ?_)
  have t144 := u.eq (by rw [hsz]; decide)
  replace hsz := u.size.trans hsz; replace hdf := u.df.trans hdf
  replace t3 := u.keep (by decide) t3
  replace t9 := u.keep (by decide) t9
  clear t15
  replace t143 := u.keep (by decide) t143
  clear u ho hop hd hg hog hopg hdg hgg
  -- 74
  obtain ⟨o, ho, hop, hd, hg⟩ := op_fact nfo74
  obtain ⟨og, hog, hopg, hdg, hgg⟩ := op_fact nfo72
  refine txt_take ho hd (want_some hg hog hdg t143) (fun w' hS => run_load24 hop t9 hS.1) (fun a75 u => ?_)
  have t145 := u.eq (by rw [hsz]; decide)
  replace hsz := u.size.trans hsz; replace hdf := u.df.trans hdf
  replace t3 := u.keep (by decide) t3
  replace t9 := u.keep (by decide) t9
  replace t143 := u.keep (by decide) t143
  replace t144 := u.keep (by decide) t144
  clear u ho hop hd hg hog hopg hdg hgg
  -- 75
  obtain ⟨o, ho, hop, hd, hg⟩ := op_fact nfo75
  obtain ⟨og, hog, hopg, hdg, hgg⟩ := op_fact nfo72
  refine txt_move ho hop hd (want_some hg hog hdg t143) t3 (fun a76 u => ?_)
  have t146 := u.eq (by rw [hsz]; decide)
  replace hsz := u.size.trans hsz; replace hdf := u.df.trans hdf
  replace t3 := u.keep (by decide) t3
  replace t9 := u.keep (by decide) t9
  replace t143 := u.keep (by decide) t143
  replace t144 := u.keep (by decide) t144
  replace t145 := u.keep (by decide) t145
  clear u ho hop hd hg hog hopg hdg hgg
  -- 77
  obtain ⟨o, ho, hop, hd, hg⟩ := op_fact nfo77
  obtain ⟨og, hog, hopg, hdg, hgg⟩ := op_fact nfo72
  refine txt_take ho hd (want_some hg hog hdg t143) (fun w' hS => run_load24 hop t9 hS.1) (fun a77 u => ?_)
  have t148 := u.eq (by rw [hsz]; decide)
  replace hsz := u.size.trans hsz; replace hdf := u.df.trans hdf
  replace t3 := u.keep (by decide) t3
  clear t9
  replace t143 := u.keep (by decide) t143
  replace t144 := u.keep (by decide) t144
  replace t145 := u.keep (by decide) t145
  replace t146 := u.keep (by decide) t146
  clear u ho hop hd hg hog hopg hdg hgg
  -- 79
  obtain ⟨o, ho, hop, hd, hg⟩ := op_fact nfo79
  obtain ⟨og, hog, hopg, hdg, hgg⟩ := op_fact nfo72
  refine txt_move ho hop hd (want_some hg hog hdg t143) t3 (fun a78 u => ?_)
  have t150 := u.eq (by rw [hsz]; decide)
  replace hsz := u.size.trans hsz; replace hdf := u.df.trans hdf
  clear t3
  replace t143 := u.keep (by decide) t143
  replace t144 := u.keep (by decide) t144
  replace t145 := u.keep (by decide) t145
  replace t146 := u.keep (by decide) t146
  replace t148 := u.keep (by decide) t148
  clear u ho hop hd hg hog hopg hdg hgg
  -- 76
  obtain ⟨o, ho, hop, hd, hg⟩ := op_fact nfo76
  obtain ⟨og, hog, hopg, hdg, hgg⟩ := op_fact nfo72
  refine txt_call ho hd (want_some hg hog hdg t143) (run_call2 hop rfl t145 t146 (fun w => enters_of Tryd.func17 (by kernel_rfl) rfl _ w)) ?_
  refine (DblS _ T _ _ HF.k1.n1 hT sm.s_xT).mono ?_
  rintro e w24 ⟨v147, rfl, hn, hb⟩
  replace HF := HF.grow hb
  have N147 := hn; clear hn
  clear hb
  refine ⟨_, rfl, HF.S, fun a79 u => ?_⟩
  have t147 := u.eq (by rw [hsz]; decide)
  replace hsz := u.size.trans hsz; replace hdf := u.df.trans hdf
  replace t143 := u.keep (by decide) t143
  replace t144 := u.keep (by decide) t144
  clear t145
  clear t146
  replace t148 := u.keep (by decide) t148
  replace t150 := u.keep (by decide) t150
  clear u ho hop hd hg hog hopg hdg hgg
  -- 78
  obtain ⟨o, ho, hop, hd, hg⟩ := op_fact nfo78
  obtain ⟨og, hog, hopg, hdg, hgg⟩ := op_fact nfo72
  refine txt_call ho hd (want_some hg hog hdg t143) (run_call1c hop rfl (fun w => enters_of Tryd.func18 (by kernel_rfl) rfl _ w)) ?_
  refine (Of_any 1 _ (by decide)).mono ?_
  rintro e w25 ⟨v149, rfl, hn, hb⟩
  replace HF := HF.grow hb
  replace N147 := N147.below hb
  have N149 := hn; clear hn
  clear hb
  refine ⟨_, rfl, HF.S, fun a80 u => ?_⟩
  have t149 := u.eq (by rw [hsz]; decide)
  replace hsz := u.size.trans hsz; replace hdf := u.df.trans hdf
  replace t143 := u.keep (by decide) t143
  replace t144 := u.keep (by decide) t144
  replace t147 := u.keep (by decide) t147
  replace t148 := u.keep (by decide) t148
  replace t150 := u.keep (by decide) t150
  clear u ho hop hd hg hog hopg hdg hgg
  -- 80
  obtain ⟨o, ho, hop, hd, hg⟩ := op_fact nfo80
  obtain ⟨og, hog, hopg, hdg, hgg⟩ := op_fact nfo72
  refine txt_call ho hd (want_some hg hog hdg t143) (run_call2 hop rfl t149 t150 (fun w => enters_of Tryd.func17 (by kernel_rfl) rfl _ w)) ?_
  refine (DblS _ T _ _ N149 hT sm.s_oT).mono ?_
  rintro e w26 ⟨v151, rfl, hn, hb⟩
  replace HF := HF.grow hb
  replace N147 := N147.below hb
  clear N149
  have N151 := hn; clear hn
  clear hb
  refine ⟨_, rfl, HF.S, fun a81 u => ?_⟩
  have t151 := u.eq (by rw [hsz]; decide)
  replace hsz := u.size.trans hsz; replace hdf := u.df.trans hdf
  replace t143 := u.keep (by decide) t143
  replace t144 := u.keep (by decide) t144
  replace t147 := u.keep (by decide) t147
  replace t148 := u.keep (by decide) t148
  clear t149
  clear t150
  clear u ho hop hd hg hog hopg hdg hgg
  -- 81
  obtain ⟨o, ho, hop, hd, hg⟩ := op_fact nfo81
  obtain ⟨og, hog, hopg, hdg, hgg⟩ := op_fact nfo72
  refine txt_call ho hd (want_some hg hog hdg t143) (run_call2 hop rfl t148 t151 (fun w => enters_of Tryd.func16 (by kernel_rfl) rfl _ w)) ?_
  refine (MulS _ _ _ _ _ HF.k1.n1 N151 sm.s_x sm.s_oT).mono ?_
  rintro e w27 ⟨v152, rfl, hn, hb⟩
  replace HF := HF.grow hb
  replace N147 := N147.below hb
  clear N151
  have N152 := hn; clear hn
  clear hb
  refine ⟨_, rfl, HF.S, fun a82 u => ?_⟩
  have t152 := u.eq (by rw [hsz]; decide)
  replace hsz := u.size.trans hsz; replace hdf := u.df.trans hdf
  replace t143 := u.keep (by decide) t143
  replace t144 := u.keep (by decide) t144
  replace t147 := u.keep (by decide) t147
  clear t148
  clear t151
  clear u ho hop hd hg hog hopg hdg hgg
  -- 82
  obtain ⟨o, ho, hop, hd, hg⟩ := op_fact nfo82
  obtain ⟨og, hog, hopg, hdg, hgg⟩ := op_fact nfo72
  refine txt_call ho hd (want_some hg hog hdg t143) (run_clo2 hop rfl t144 t147 t152 (fun w => enters_of Tryd.func10 (by kernel_rfl) rfl _ w)) ?_
  refine (SameS _ _ _ _ _ N147 N152 (by rw [Nat.one_mul]) sm.s_xT).mono ?_
  rintro e w28 ⟨rfl, hb⟩
  replace HF := HF.grow hb
  clear N147
  clear N152
  clear hb
  refine ⟨_, rfl, HF.S, fun a83 u => ?_⟩
  have t153 := u.eq (by rw [hsz]; decide)
  replace hsz := u.size.trans hsz; replace hdf := u.df.trans hdf
  replace t143 := u.keep (by decide) t143
  clear t144
  clear t147
  clear t152
  clear u ho hop hd hg hog hopg hdg hgg
  -- 83
  obtain ⟨o, ho, hop, hd, hg⟩ := op_fact nfo83
  refine txt_pick ho hop hd (want_none hg) t143 t153 (fun a84 u => ?_)
  have t154 := u.eq (by rw [hsz]; decide)
  replace hsz := u.size.trans hsz; replace hdf := u.df.trans hdf
  clear t143
  clear t153
  clear u ho hop hd hg
  -- 84
  obtain ⟨o, ho, hop, hd, hg⟩ := op_fact nfo84
  refine txt_assign ho hop hd (want_none hg) t154 (fun a85 u => ?_)
  have t8 := u.eq (by rw [hsz]; decide)
  replace hsz := u.size.trans hsz; replace hdf := u.df.trans hdf
  clear t154
  clear u ho hop hd hg
  exact hQ _ _ t8 hdf HF.k1.below
end Go.Proofs.YtdeaficdfooegaaDoor
