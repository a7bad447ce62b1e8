/- Plain law: the k-th values of which a handle is true. No program in sight. -/
import Derived.Test.YtdeaficdfooegaaDoorCntM
namespace Go.Proofs.YtdeaficdfooegaaDoor
set_option linter.unusedVariables false

/-- The k-th values, where the last j of V variables are open. -/
def kthN (V : Int) : Nat → FnB → Nat → (Int → Bool) → (Int → Bool)
  | 0, D, k, val => val
  | j + 1, D, k, val =>
    if k < sumS V j D (setV val (V - (j + 1 : Nat)) false) then kthN V j D k (setV val (V - (j + 1 : Nat)) false)
    else kthN V j D (k - sumS V j D (setV val (V - (j + 1 : Nat)) false)) (setV val (V - (j + 1 : Nat)) true)
theorem kthN_lo {V : Int} {j : Nat} {D : FnB} {k : Nat} {val : Int → Bool} (h : k < sumS V j D (setV val (V - (j + 1 : Nat)) false)) :
    kthN V (j + 1) D k val = kthN V j D k (setV val (V - (j + 1 : Nat)) false) := by rw [kthN, if_pos h]
theorem kthN_hi {V : Int} {j : Nat} {D : FnB} {k : Nat} {val : Int → Bool} (h : ¬ k < sumS V j D (setV val (V - (j + 1 : Nat)) false)) :
    kthN V (j + 1) D k val = kthN V j D (k - sumS V j D (setV val (V - (j + 1 : Nat)) false)) (setV val (V - (j + 1 : Nat)) true) := by rw [kthN, if_neg h]
/-- What lies ahead stays. -/
theorem kthN_old {V : Int} (D : FnB) : ∀ (j k : Nat) (val : Int → Bool) (u : Int), u < V - j → kthN V j D k val u = val u
  | 0, k, val, u, h => rfl
  | j + 1, k, val, u, h => by
    have e : ∀ b, setV val (V - (j + 1 : Nat)) b u = val u := fun b => by unfold setV; rw [if_neg (by omega)]
    by_cases hk : k < sumS V j D (setV val (V - (j + 1 : Nat)) false)
    · rw [kthN_lo hk, kthN_old D j _ _ u (by omega), e]
    · rw [kthN_hi hk, kthN_old D j _ _ u (by omega), e]
/-- It is true. -/
theorem kthN_true {V : Int} (D : FnB) : ∀ (j k : Nat) (val : Int → Bool), k < sumS V j D val → D (kthN V j D k val) = true
  | 0, k, val, h => by
    unfold sumS oneIf at h
    split at h
    · assumption
    · omega
  | j + 1, k, val, h => by
    rw [sumS] at h
    by_cases hk : k < sumS V j D (setV val (V - (j + 1 : Nat)) false)
    · rw [kthN_lo hk]; exact kthN_true D j _ _ hk
    · rw [kthN_hi hk]; exact kthN_true D j _ _ (by omega)
/-- The next ones lie behind. -/
theorem kthN_next {V : Int} (D : FnB) : ∀ (j k : Nat) (val : Int → Bool), k + 1 < sumS V j D val →
    ∃ u : Int, V - j ≤ u ∧ u < V ∧ (∀ t, t < u → kthN V j D (k + 1) val t = kthN V j D k val t) ∧ kthN V j D (k + 1) val u = true ∧ kthN V j D k val u = false
  | 0, k, val, h => by
    have := sumS_le (V := V) 0 D val
    simp at this; omega
  | j + 1, k, val, h => by
    rw [sumS] at h
    by_cases h1 : k + 1 < sumS V j D (setV val (V - (j + 1 : Nat)) false)
    · obtain ⟨u, a1, a2, a3, a4, a5⟩ := kthN_next D j k _ h1
      rw [kthN_lo h1, kthN_lo (by omega)]
      exact ⟨u, by omega, a2, a3, a4, a5⟩
    · by_cases h0 : k < sumS V j D (setV val (V - (j + 1 : Nat)) false)
      · rw [kthN_hi h1, kthN_lo h0]
        refine ⟨V - (j + 1 : Nat), by omega, by omega, fun t ht => ?_, ?_, ?_⟩
        · rw [kthN_old D j _ _ t (by omega), kthN_old D j _ _ t (by omega)]
          unfold setV; rw [if_neg (by omega), if_neg (by omega)]
        · rw [kthN_old D j _ _ _ (by omega)]; simp [setV]
        · rw [kthN_old D j _ _ _ (by omega)]; simp [setV]
      · have e : k + 1 - sumS V j D (setV val (V - (j + 1 : Nat)) false) = (k - sumS V j D (setV val (V - (j + 1 : Nat)) false)) + 1 := by omega
        rw [kthN_hi h1, kthN_hi h0, e]
        obtain ⟨u, a1, a2, a3, a4, a5⟩ := kthN_next (V := V) D j (k - sumS V j D (setV val (V - (j + 1 : Nat)) false)) (setV val (V - (j + 1 : Nat)) true) (by omega)
        exact ⟨u, by omega, a2, a3, a4, a5⟩
theorem kthN_congr {V : Int} : ∀ (j : Nat) (D D' : FnB) (k : Nat) (val : Int → Bool), (∀ val', (∀ u, u < V - j → val' u = val u) → D val' = D' val') → kthN V j D k val = kthN V j D' k val
  | 0, D, D', k, val, h => rfl
  | j + 1, D, D', k, val, h => by
    have hq : ∀ b val', (∀ u, u < V - j → val' u = setV val (V - (j + 1 : Nat)) b u) → D val' = D' val' := fun b val' hv => h val' (fun u hu => by
      rw [hv u (by omega)]; unfold setV; rw [if_neg (by omega)])
    have e := sumS_congr (V := V) j D D' (setV val (V - (j + 1 : Nat)) false) (hq false)
    rw [kthN, kthN, e, kthN_congr j D D' k _ (hq false), kthN_congr j D D' _ _ (hq true)]

/-- It does not hang on what lies below 0. -/
theorem den_nonneg {c : Cells} (o : Ok c) {x y : Int → Bool} (h : ∀ u, 0 ≤ u → x u = y u) : ∀ g, den c g x = den c g y := by
  refine node_ind o (Q := fun g => den c g x = den c g y) (fun g e => ?_) (fun g n e i1 i2 => ?_)
  · rw [den_end e, den_end e]
  · rw [den_node o e, den_node o e, i1, i2, h n.1 (o.kids e).1]

/-- The values that a natural number's bits are. -/
def bitsN (x : Nat) : Int → Bool := fun u => decide (0 ≤ u) && x.testBit u.toNat
theorem bitsN_zero : bitsN 0 = fun _ => false := by funext u; simp [bitsN]
theorem bitsN_lo {x v : Nat} (h : x < 2 ^ v) : setV (bitsN x) v false = bitsN x := by
  funext u
  unfold setV
  by_cases e : u = v
  · subst e; rw [if_pos rfl]; simp [bitsN, Nat.testBit_lt_two_pow h]
  · rw [if_neg e]
theorem bitsN_hi {x v : Nat} (h : x < 2 ^ v) : setV (bitsN x) v true = bitsN (x + 2 ^ v) := by
  funext u
  unfold setV
  by_cases e : u = v
  · subst e; rw [if_pos rfl]
    have := Nat.testBit_two_pow_add_eq x v
    simp only [bitsN, Int.toNat_natCast]
    rw [Nat.add_comm, this, Nat.testBit_lt_two_pow h]; simp
  · rw [if_neg e]
    unfold bitsN
    by_cases h0 : 0 ≤ u
    · obtain ⟨k, rfl⟩ := Int.eq_ofNat_of_zero_le h0
      simp only [Int.toNat_natCast]
      have hk : k ≠ v := fun e' => e (by rw [e'])
      rw [decide_eq_true h0, Bool.true_and, Bool.true_and]
      rcases Nat.lt_or_gt_of_ne hk with h1 | h1
      · rw [Nat.add_comm, Nat.testBit_two_pow_add_gt h1]
      · rw [Nat.testBit_lt_two_pow (Nat.lt_of_lt_of_le h (Nat.pow_le_pow_right (by decide) (by omega))), Nat.testBit_lt_two_pow]
        have : 2 ^ (v + 1) ≤ 2 ^ k := Nat.pow_le_pow_right (by decide) h1
        rw [Nat.pow_succ] at this; omega
    · rw [decide_eq_false h0]; simp

/-- Where the walk through a diagram stands: u variables are told. -/
structure KAt (V : Nat) (c : Cells) (F : Int → Bool) (u : Nat) (h : Int) (k x : Nat) : Prop where
  has : hasM c h = true
  top : (u : Int) ≤ cutT V c h
  lt : k < sumS V (V - u) (den c h) (bitsN x)
  xlt : x < 2 ^ u
  fin : kthN V (V - u) (den c h) k (bitsN x) = F
theorem KAt.first {V : Nat} {c : Cells} {h : Int} {k : Nat} (o : Ok c) (hh : hasM c h = true) (hk : k < sumS V V (den c h) (fun _ => false)) :
    KAt V c (kthN V V (den c h) k (fun _ => false)) 0 h k 0 :=
  ⟨hh, by have := (o.top_pos h).1; unfold cutT; omega, by rw [bitsN_zero]; exact hk, by decide, by rw [bitsN_zero]; rfl⟩
/-- What is counted on the way that is false. -/
def lowN (V : Nat) (c : Cells) (u : Nat) (h : Int) : Nat := cntX V c (atM c h u).1 * 2 ^ (cutT V c (atM c h u).1 - u - 1).toNat
theorem at_den {c : Cells} (o : Ok c) {h : Int} {u : Int} (hu : u ≤ topM c h) (val : Int → Bool) : den c h (setV val u false) = den c (atM c h u).1 (setV val u false) ∧ den c h (setV val u true) = den c (atM c h u).2 (setV val u true) := by
  unfold atM
  cases g : getM c h with
  | none => exact ⟨rfl, rfl⟩
  | some n =>
    dsimp only
    by_cases e : n.1 = u
    · rw [if_pos e]; subst e
      exact ⟨by rw [den_node o g]; simp [setV], by rw [den_node o g]; simp [setV]⟩
    · rw [if_neg e]; exact ⟨rfl, rfl⟩
theorem KAt.step {V : Nat} (hV : V ≤ 24) {c : Cells} (co : COk V c) {F : Int → Bool} {u : Nat} {h : Int} {k x : Nat} (a : KAt V c F u h k x) (hu : u < V) :
    hasM c (atM c h u).1 = true ∧ hasM c (atM c h u).2 = true ∧ (u : Int) < cutT V c (atM c h u).1 ∧ lowN V c u h ≤ 2 ^ 24 ∧ k < 2 ^ 24 ∧
    (k < lowN V c u h → KAt V c F (u + 1) (atM c h u).1 k x) ∧ (¬ k < lowN V c u h → KAt V c F (u + 1) (atM c h u).2 (k - lowN V c u h) (x + 2 ^ u)) := by
  obtain ⟨ah, at', al, ax, af⟩ := a
  have ht : (u : Int) ≤ topM c h := by unfold cutT at at'; omega
  have A := atM_spec co.ok ah ht (by omega)
  have t1 := A.top1; have t2 := A.top2
  have c1 : (u : Int) < cutT V c (atM c h u).1 := by unfold cutT; omega
  have c2 : (u : Int) < cutT V c (atM c h u).2 := by unfold cutT; omega
  obtain ⟨j, hj⟩ : ∃ j, V - u = j + 1 := ⟨V - u - 1, by omega⟩
  have hj' : V - (u + 1) = j := by omega
  have hvu : (V : Int) - ((j + 1 : Nat) : Int) = u := by omega
  have hvj : (V : Int) - (j : Int) = u + 1 := by omega
  have e1 : sumS V j (den c h) (setV (bitsN x) u false) = lowN V c u h := by
    rw [sumS_congr j (den c h) (den c (atM c h u).1) _ (fun val' hv => ?_)]
    · rw [sum_cnt (by omega) co j _ _ A.has1 (by omega)]
      unfold lowN; congr 2; omega
    · have hq : val' = setV val' u false := by
        funext t; unfold setV; split
        · rename_i e; subst e; rw [hv _ (by omega)]; simp [setV]
        · rfl
      rw [hq]; exact (at_den co.ok ht val').1
  have hi : ∀ val', (∀ t, t < (V : Int) - j → val' t = setV (bitsN x) u true t) → den c h val' = den c (atM c h u).2 val' := fun val' hv => by
    have hq : val' = setV val' u true := by
      funext t; unfold setV; split
      · rename_i e; subst e; rw [hv _ (by omega)]; simp [setV]
      · rfl
    rw [hq]; exact (at_den co.ok ht val').2
  have lo : ∀ val', (∀ t, t < (V : Int) - j → val' t = setV (bitsN x) u false t) → den c h val' = den c (atM c h u).1 val' := fun val' hv => by
    have hq : val' = setV val' u false := by
      funext t; unfold setV; split
      · rename_i e; subst e; rw [hv _ (by omega)]; simp [setV]
      · rfl
    rw [hq]; exact (at_den co.ok ht val').1
  have hle : lowN V c u h ≤ 2 ^ 24 := by
    rw [← e1]; exact Nat.le_trans (sumS_le _ _ _) (Nat.pow_le_pow_right (by decide) (by omega))
  have hkl : k < 2 ^ 24 := Nat.lt_of_lt_of_le al (Nat.le_trans (sumS_le _ _ _) (Nat.pow_le_pow_right (by decide) (by omega)))
  rw [hj] at al af
  rw [sumS, hvu, e1] at al
  have xs : x < 2 ^ (u + 1) := by rw [Nat.pow_succ]; omega
  refine ⟨A.has1, A.has2, c1, hle, hkl, fun hk => ?_, fun hk => ?_⟩
  · refine ⟨A.has1, by omega, ?_, xs, ?_⟩
    · rw [hj']
      have := e1
      rw [sumS_congr j _ _ _ lo, bitsN_lo ax] at this
      omega
    · rw [hj', ← af, kthN_lo (by rw [hvu, e1]; exact hk), hvu, kthN_congr j _ _ _ _ lo, bitsN_lo ax]
  · refine ⟨A.has2, by omega, ?_, by rw [Nat.pow_succ]; omega, ?_⟩
    · rw [hj']
      rw [sumS_congr j _ _ (setV (bitsN x) u true) hi, bitsN_hi ax] at al
      omega
    · rw [hj', ← af, kthN_hi (by rw [hvu, e1]; exact hk), hvu, e1, kthN_congr j _ _ _ _ hi, bitsN_hi ax]
end Go.Proofs.YtdeaficdfooegaaDoor
