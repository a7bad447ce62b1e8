/- Plain laws for RangeOrders; the boxes. (Printed by gen_rorders.py.) -/
import Derived.Test.YtpnchjbdjcihfaaGreatDoorOrdW
namespace Go.Proofs.YtpnchjbdjcihfaaGreatDoor
open Go.RowKit
set_option linter.unusedVariables false

section
variable {a b c x y z C : Int} {l : List Spn}
theorem ord_lt (hr : OpR 2 a b c l) (hv : VerOk a b c) (hw : VerOk x y z) (hC : C = cmp3 x y z a b c) : decide (inL l (numV x y z)) = decide (C < 0) := by
  have h1 := (cmp3_num hw hv).1; have h2 := hr.2 (numV x y z); have h3 := numV_bd hw.a hw.b hw.c
  rw [if_neg (by decide)] at h2
  rw [Bool.eq_iff_iff, decide_eq_true_iff, decide_eq_true_iff, h2, hC, h1]
  unfold inS opSpan
  simp
  omega
theorem ord_ge (hr : OpR 5 a b c l) (hv : VerOk a b c) (hw : VerOk x y z) (hC : C = cmp3 x y z a b c) : decide (inL l (numV x y z)) = decide (0 ≤ C) := by
  have h1 := (cmp3_num hw hv).1; have h2 := hr.2 (numV x y z); have h3 := numV_bd hw.a hw.b hw.c
  rw [if_neg (by decide)] at h2
  rw [Bool.eq_iff_iff, decide_eq_true_iff, decide_eq_true_iff, h2, hC]
  unfold inS opSpan
  simp
  omega
theorem ord_le (hr : OpR 3 a b c l) (hv : VerOk a b c) (hw : VerOk x y z) (hC : C = cmp3 x y z a b c) : decide (inL l (numV x y z)) = decide (C ≤ 0) := by
  have h1 := (cmp3_num hw hv).2.2; have h2 := hr.2 (numV x y z); have h3 := numV_bd hw.a hw.b hw.c
  rw [if_neg (by decide)] at h2
  rw [Bool.eq_iff_iff, decide_eq_true_iff, decide_eq_true_iff, h2, hC]
  unfold inS opSpan
  simp
  omega
theorem ord_gt (hr : OpR 4 a b c l) (hv : VerOk a b c) (hw : VerOk x y z) (hC : C = cmp3 x y z a b c) : decide (inL l (numV x y z)) = decide (0 < C) := by
  have h1 := (cmp3_num hw hv).2.2; have h2 := hr.2 (numV x y z); have h3 := numV_bd hw.a hw.b hw.c
  rw [if_neg (by decide)] at h2
  rw [Bool.eq_iff_iff, decide_eq_true_iff, decide_eq_true_iff, h2, hC]
  unfold inS opSpan
  simp
  omega
theorem ord_eq (hr : OpR 0 a b c l) (hv : VerOk a b c) (hw : VerOk x y z) (hC : C = cmp3 x y z a b c) : decide (inL l (numV x y z)) = (C == 0) := by
  have h1 := (cmp3_num hw hv).2.1; have h2 := hr.2 (numV x y z); have h3 := numV_bd hw.a hw.b hw.c
  rw [if_neg (by decide)] at h2
  rw [Bool.eq_iff_iff, decide_eq_true_iff, beq_iff_eq, h2, hC]
  unfold inS opSpan
  simp
  omega
theorem ord_not {l4 l5 l6 : List Spn} (h4 : OpR 1 a b c l4) (h5 : OpR 0 a b c l5) (h6 : NotR l5 l6) : l4 = l6 :=
  Canon.ext h4.1 h6.1 (fun n => by rw [h4.2, h6.2, h5.2, if_pos rfl, if_neg (by decide)]; exact Iff.rfl)
theorem ord_part {lL l7 lF : List Spn} (hv : VerOk a b c) (hL : OpR 2 a b c lL) (h7 : NotR lL l7) (hF : OpR 5 a b c lF) : l7 = lF :=
  Canon.ext h7.1 hF.1 (fun n => by
    have h3 := numV_bd hv.a hv.b hv.c
    rw [h7.2, hL.2, hF.2, if_neg (by decide), if_neg (by decide)]
    unfold inS opSpan
    simp
    omega)
theorem ord_car (hv : VerOk a b c) (hr : OpR 6 a b c l) : decide (inL l (numV a b c)) = true := by
  have h2 := hr.2 (numV a b c); have h3 := caretV_bd hv.a hv.b hv.c
  rw [if_neg (by decide)] at h2
  rw [decide_eq_true_iff, h2]
  unfold inS opSpan
  simp
  omega
theorem ord_til (hv : VerOk a b c) (hr : OpR 7 a b c l) : decide (inL l (numV a b c)) = true := by
  have h2 := hr.2 (numV a b c); have h3 := tilde_bd hv.a hv.b hv.c
  rw [if_neg (by decide)] at h2
  rw [decide_eq_true_iff, h2]
  unfold inS opSpan
  simp
  omega
theorem ord_emp6 {lC lL l8 : List Spn} (hv : VerOk a b c) (h6 : OpR 6 a b c lC) (h2 : OpR 2 a b c lL) (h8 : AndR lC lL l8) : l8 = [] :=
  Canon.ext h8.1 Canon.nil (fun n => by
    rw [h8.2, h6.2, h2.2, if_neg (by decide), if_neg (by decide)]
    constructor
    · rintro ⟨q1, q2⟩
      unfold inS opSpan at q1 q2
      simp at q1 q2
      omega
    · exact fun q => absurd q (inL_nil n))
theorem ord_emp7 {lT lL l9 : List Spn} (hv : VerOk a b c) (h7 : OpR 7 a b c lT) (h2 : OpR 2 a b c lL) (h9 : AndR lT lL l9) : l9 = [] :=
  Canon.ext h9.1 Canon.nil (fun n => by
    rw [h9.2, h7.2, h2.2, if_neg (by decide), if_neg (by decide)]
    constructor
    · rintro ⟨q1, q2⟩
      unfold inS opSpan at q1 q2
      simp at q1 q2
      omega
    · exact fun q => absurd q (inL_nil n))
theorem ord_cw (hv : VerOk a b c) (hw : VerOk x y z) (hr : OpR 6 a b c l) (h : decide (inL l (numV x y z)) = true) : x = a := by
  rw [decide_eq_true_iff, hr.2, if_neg (by decide)] at h
  obtain ⟨⟨a1, a2⟩, ⟨b1, b2⟩, c1, c2⟩ := hv
  obtain ⟨⟨x1, x2⟩, ⟨y1, y2⟩, z1, z2⟩ := hw
  unfold inS opSpan at h
  simp at h
  unfold caretV numV at h
  split at h
  · omega
  · split at h <;> omega
theorem ord_tw (hv : VerOk a b c) (hw : VerOk x y z) (hr : OpR 7 a b c l) (h : decide (inL l (numV x y z)) = true) : x = a ∧ y = b := by
  rw [decide_eq_true_iff, hr.2, if_neg (by decide)] at h
  obtain ⟨⟨a1, a2⟩, ⟨b1, b2⟩, c1, c2⟩ := hv
  obtain ⟨⟨x1, x2⟩, ⟨y1, y2⟩, z1, z2⟩ := hw
  unfold inS opSpan at h
  simp at h
  unfold numV at h
  omega
theorem any_ver (h : VerOk a b c) : hasV [(0, pastV)] a b c = true := by
  rw [hasV_eq h, decide_eq_true_iff, inL_one]
  exact numV_bd h.a h.b h.c
theorem any_not (h : ¬ VerOk a b c) : hasV [(0, pastV)] a b c = false := by
  unfold hasV
  by_cases h1 : 0 ≤ a ∧ a ≤ 999
  · by_cases h2 : 0 ≤ b ∧ b ≤ 999
    · by_cases h3 : 0 ≤ c ∧ c ≤ 999
      · exact absurd ⟨h1, h2, h3⟩ h
      · have : inP c = false := by
          rcases Int.lt_or_le c 0 with q | q
          · exact inP_neg q
          · exact inP_big (by omega)
        rw [this]; simp
    · have : inP b = false := by
        rcases Int.lt_or_le b 0 with q | q
        · exact inP_neg q
        · exact inP_big (by omega)
      rw [this]; simp
  · have : inP a = false := by
      rcases Int.lt_or_le a 0 with q | q
      · exact inP_neg q
      · exact inP_big (by omega)
    rw [this]; simp
end
/-- The two versions in their boxes. -/
structure VB (n : Nat) (a b c x y z : Int) (w : World) : Prop where
  v : w.heap[n]? = some (.cells #[.int .i64 a, .int .i64 b, .int .i64 c] 35 (0, 0))
  w : w.heap[n + 1]? = some (.cells #[.int .i64 x, .int .i64 y, .int .i64 z] 35 (0, 0))
theorem VB.below {n : Nat} {a b c x y z : Int} {w w' : World} (h : VB n a b c x y z w) (hb : Below w.heap.size w w') : VB n a b c x y z w' := ⟨(hb.block _ (lt_of_block h.v)).trans h.v, (hb.block _ (lt_of_block h.w)).trans h.w⟩
theorem VB.S {n : Nat} {a b c x y z : Int} {w : World} (h : VB n a b c x y z w) : w.cell? ⟨n, 0, none⟩ = some (.int .i64 a) ∧ w.cell? ⟨n, 1, none⟩ = some (.int .i64 b) ∧ w.cell? ⟨n, 2, none⟩ = some (.int .i64 c) ∧
    w.cell? ⟨n + 1, 0, none⟩ = some (.int .i64 x) ∧ w.cell? ⟨n + 1, 1, none⟩ = some (.int .i64 y) ∧ w.cell? ⟨n + 1, 2, none⟩ = some (.int .i64 z) :=
  ⟨(cells3 h.v).1, (cells3 h.v).2.1, (cells3 h.v).2.2.1, (cells3 h.w).1, (cells3 h.w).2.1, (cells3 h.w).2.2.1⟩
/-- All boxes of the last statement. -/
structure OB (n q p : Nat) (a b c x y z : Int) (sv : ByteArray) (v1 v2 v3 v4 : Value) (w : World) : Prop where
  vb : VB n a b c x y z w
  t : w.heap[q]? = some (.cells #[.string sv] 9 (0, 0))
  b1 : w.heap[p]? = some (.cells #[v1] 24 (0, 0))
  b2 : w.heap[p + 1]? = some (.cells #[v2] 24 (0, 0))
  b3 : w.heap[p + 1 + 1]? = some (.cells #[v3] 24 (0, 0))
  b4 : w.heap[p + 1 + 1 + 1]? = some (.cells #[v4] 24 (0, 0))
theorem OB.below {n q p : Nat} {a b c x y z : Int} {sv : ByteArray} {v1 v2 v3 v4 : Value} {w w' : World} (h : OB n q p a b c x y z sv v1 v2 v3 v4 w) (hb : Below w.heap.size w w') : OB n q p a b c x y z sv v1 v2 v3 v4 w' :=
  ⟨h.vb.below hb, (hb.block _ (lt_of_block h.t)).trans h.t, (hb.block _ (lt_of_block h.b1)).trans h.b1, (hb.block _ (lt_of_block h.b2)).trans h.b2, (hb.block _ (lt_of_block h.b3)).trans h.b3, (hb.block _ (lt_of_block h.b4)).trans h.b4⟩
theorem OB.S {n q p : Nat} {a b c x y z : Int} {sv : ByteArray} {v1 v2 v3 v4 : Value} {w : World} (h : OB n q p a b c x y z sv v1 v2 v3 v4 w) : w.cell? ⟨n, 0, none⟩ = some (.int .i64 a) ∧ w.cell? ⟨n, 1, none⟩ = some (.int .i64 b) ∧ w.cell? ⟨n, 2, none⟩ = some (.int .i64 c) ∧
    w.cell? ⟨n + 1, 0, none⟩ = some (.int .i64 x) ∧ w.cell? ⟨n + 1, 1, none⟩ = some (.int .i64 y) ∧ w.cell? ⟨n + 1, 2, none⟩ = some (.int .i64 z) ∧
    w.cell? ⟨p, 0, none⟩ = some v1 ∧ w.cell? ⟨p + 1, 0, none⟩ = some v2 ∧ w.cell? ⟨p + 1 + 1, 0, none⟩ = some v3 ∧ w.cell? ⟨p + 1 + 1 + 1, 0, none⟩ = some v4 :=
  ⟨h.vb.S.1, h.vb.S.2.1, h.vb.S.2.2.1, h.vb.S.2.2.2.1, h.vb.S.2.2.2.2.1, h.vb.S.2.2.2.2.2, cell_of_one h.b1, cell_of_one h.b2, cell_of_one h.b3, cell_of_one h.b4⟩
theorem anyHas (v : Value) (l : List Spn) (a b c : Int) (w : World) (r : Bool) (hl : l = [(0, pastV)]) (hs : IsSp w v l) (e : hasV [(0, pastV)] a b c = r) : Calls Tryz.prog 14 #[.agg #[v], .agg #[.int .i64 a, .int .i64 b, .int .i64 c]] w fun e w' => e = .returned (.bool r) ∧ Below w.heap.size w w' := by
  have := has_any v l a b c w hs
  rwa [hl, e] at this
end Go.Proofs.YtpnchjbdjcihfaaGreatDoor
