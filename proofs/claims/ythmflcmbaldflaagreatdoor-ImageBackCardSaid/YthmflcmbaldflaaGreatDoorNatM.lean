/- Plain law: natural numbers as limbs of 32 bits. No program in sight. -/
import Derived.Test.YthmflcmbaldflaaGreatDoorIpB
namespace Go.Proofs.YthmflcmbaldflaaGreatDoor
set_option linter.unusedVariables false

def B32 : Nat := 4294967296
def valL : List Nat → Nat
  | [] => 0
  | x :: xs => x + B32 * valL xs
def Limbs (xs : List Nat) : Prop := ∀ x ∈ xs, x < B32
/-- The limbs of a number, the lowest first; the highest is not 0. -/
def limbsOf (n : Nat) : List Nat := if h : n = 0 then [] else (n % B32) :: limbsOf (n / B32)
termination_by n
decreasing_by exact Nat.div_lt_self (Nat.pos_of_ne_zero h) (by decide)

theorem limbs_zero : limbsOf 0 = [] := by rw [limbsOf]; simp
theorem limbs_pos {n : Nat} (h : n ≠ 0) : limbsOf n = (n % B32) :: limbsOf (n / B32) := by rw [limbsOf]; simp [h]
theorem limbs_ind {Q : Nat → Prop} (h0 : Q 0) (h1 : ∀ n, n ≠ 0 → Q (n / B32) → Q n) (n : Nat) : Q n := by
  induction n using Nat.strongRecOn with
  | _ n ih =>
    by_cases h : n = 0
    · subst h; exact h0
    · exact h1 n h (ih _ (Nat.div_lt_self (Nat.pos_of_ne_zero h) (by decide)))
theorem val_limbs (n : Nat) : valL (limbsOf n) = n := by
  refine limbs_ind (Q := fun n => valL (limbsOf n) = n) (by rw [limbs_zero]; rfl) (fun n h ih => ?_) n
  rw [limbs_pos h, valL, ih]
  exact Nat.mod_add_div n B32
theorem limbs_lt (n : Nat) : Limbs (limbsOf n) := by
  refine limbs_ind (Q := fun n => Limbs (limbsOf n)) (by rw [limbs_zero]; intro x hx; cases hx) (fun n h ih => ?_) n
  rw [limbs_pos h]
  intro x hx
  rcases List.mem_cons.1 hx with rfl | hx
  · exact Nat.mod_lt _ (by decide)
  · exact ih x hx
theorem limbs_nil {n : Nat} (h : limbsOf n = []) : n = 0 := by
  by_cases e : n = 0
  · exact e
  · rw [limbs_pos e] at h; cases h
theorem limbs_last (n : Nat) : (limbsOf n).getLast? ≠ some 0 := by
  refine limbs_ind (Q := fun n => (limbsOf n).getLast? ≠ some 0) (by rw [limbs_zero]; simp) (fun n h ih => ?_) n
  rw [limbs_pos h]
  by_cases e : n / B32 = 0
  · rw [e, limbs_zero]
    have : n % B32 = n := Nat.mod_eq_of_lt (by unfold B32 at *; omega)
    simp [this, h]
  · intro hh
    cases hl : limbsOf (n / B32) with
    | nil => exact e (limbs_nil hl)
    | cons y ys => rw [hl] at hh ih; rw [List.getLast?_cons_cons] at hh; exact ih hh
theorem valL_lt : ∀ (xs : List Nat), Limbs xs → valL xs < B32 ^ xs.length
  | [], _ => by simp [valL]
  | x :: xs, h => by
    have h1 := valL_lt xs (fun y hy => h y (List.mem_cons_of_mem _ hy))
    have h2 := h x List.mem_cons_self
    rw [valL, List.length_cons, Nat.pow_succ, Nat.mul_comm (B32 ^ xs.length)]
    calc x + B32 * valL xs < B32 + B32 * valL xs := by omega
      _ = B32 * (valL xs + 1) := by rw [Nat.mul_add, Nat.mul_one]; omega
      _ ≤ B32 * B32 ^ xs.length := Nat.mul_le_mul_left _ h1
theorem limbs_val : ∀ (xs : List Nat), Limbs xs → xs.getLast? ≠ some 0 → limbsOf (valL xs) = xs
  | [], _, _ => limbs_zero
  | x :: xs, h, hl => by
    have hx := h x List.mem_cons_self
    have ht : xs.getLast? ≠ some 0 := by
      cases xs with
      | nil => simp
      | cons y ys => rw [List.getLast?_cons_cons] at hl; exact hl
    have ih := limbs_val xs (fun y hy => h y (List.mem_cons_of_mem _ hy)) ht
    have h1 : (x + B32 * valL xs) % B32 = x := by rw [Nat.add_mul_mod_self_left]; exact Nat.mod_eq_of_lt hx
    have h2 : (x + B32 * valL xs) / B32 = valL xs := by rw [Nat.add_mul_div_left _ _ (by decide), Nat.div_eq_of_lt hx]; omega
    have hne : x + B32 * valL xs ≠ 0 := by
      intro e
      have e1 : x = 0 := by omega
      have e2 : valL xs = 0 := by
        rcases Nat.eq_zero_or_pos (valL xs) with h3 | h3
        · exact h3
        · have := Nat.mul_pos (show 0 < B32 by decide) h3; omega
      rw [e2, limbs_zero] at ih
      subst ih
      subst e1
      exact hl rfl
    rw [valL, limbs_pos hne, h1, h2, ih]
/-- Zeros behind count for nothing. -/
def trimL (xs : List Nat) : List Nat := limbsOf (valL xs)
theorem valL_append : ∀ (xs ys : List Nat), valL (xs ++ ys) = valL xs + B32 ^ xs.length * valL ys
  | [], ys => by simp [valL]
  | x :: xs, ys => by
    rw [List.cons_append, valL, valL, valL_append xs ys, List.length_cons, Nat.pow_succ, Nat.mul_add, Nat.mul_comm (B32 ^ xs.length) B32, Nat.mul_assoc, Nat.add_assoc]
theorem trimL_zero (xs : List Nat) : trimL (xs ++ [0]) = trimL xs := by unfold trimL; rw [valL_append]; simp [valL]
theorem trimL_done {xs : List Nat} (h : Limbs xs) (hl : xs.getLast? ≠ some 0) : trimL xs = xs := limbs_val xs h hl
theorem limbs_le {n k : Nat} (h : n < B32 ^ k) : (limbsOf n).length ≤ k := by
  induction k generalizing n with
  | zero => have : n = 0 := by simpa using h
            subst this; rw [limbs_zero]; simp
  | succ k ih =>
    by_cases e : n = 0
    · subst e; rw [limbs_zero]; simp
    · rw [limbs_pos e, List.length_cons]
      refine Nat.succ_le_succ (ih ?_)
      rw [Nat.pow_succ] at h
      exact (Nat.div_lt_iff_lt_mul (by decide)).2 h
theorem limbs_ge {n : Nat} (h : n ≠ 0) : B32 ^ ((limbsOf n).length - 1) ≤ n := by
  have key := limbs_ind (Q := fun n => n ≠ 0 → B32 ^ ((limbsOf n).length - 1) ≤ n) (fun h => absurd rfl h) (fun n h ih _ => ?_) n h
  · exact key
  · rw [limbs_pos h, List.length_cons, Nat.add_sub_cancel]
    by_cases e : n / B32 = 0
    · rw [e, limbs_zero]; simp; omega
    · have h1 := ih e
      have h2 : 0 < (limbsOf (n / B32)).length := by
        rcases hh : limbsOf (n / B32) with _ | ⟨y, ys⟩
        · exact absurd (limbs_nil hh) e
        · simp
      obtain ⟨k, hk⟩ : ∃ k, (limbsOf (n / B32)).length = k + 1 := ⟨(limbsOf (n / B32)).length - 1, by omega⟩
      rw [hk] at h1 ⊢
      rw [Nat.pow_succ]
      rw [Nat.add_sub_cancel] at h1
      exact Nat.le_trans (Nat.mul_le_mul_right _ h1) (Nat.div_mul_le_self n B32)
theorem limbs_short {a b : Nat} (h : (limbsOf a).length < (limbsOf b).length) : a < b := by
  have hb : b ≠ 0 := by intro e; subst e; rw [limbs_zero] at h; simp at h
  have h1 := valL_lt _ (limbs_lt a)
  rw [val_limbs] at h1
  have h2 := limbs_ge hb
  have h3 : B32 ^ (limbsOf a).length ≤ B32 ^ ((limbsOf b).length - 1) := Nat.pow_le_pow_right (by decide) (by omega)
  omega
/-- The same above place i, and less there. -/
theorem valL_less {xs ys : List Nat} (hx : Limbs xs) (hy : Limbs ys) (hl : xs.length = ys.length) {i : Nat} (hi : i < xs.length) (he : xs.drop (i + 1) = ys.drop (i + 1)) (h : xs[i] < ys[i]'(by omega)) : valL xs < valL ys := by
  have hi2 : i < ys.length := by omega
  have ex : xs = xs.take i ++ xs[i] :: xs.drop (i + 1) := by rw [← List.drop_eq_getElem_cons hi, List.take_append_drop]
  have ey : ys = ys.take i ++ ys[i] :: ys.drop (i + 1) := by rw [← List.drop_eq_getElem_cons hi2, List.take_append_drop]
  have lx : (xs.take i).length = i := by rw [List.length_take]; omega
  have ly : (ys.take i).length = i := by rw [List.length_take]; omega
  have bx := valL_lt (xs.take i) (fun y hy => hx y (List.mem_of_mem_take hy))
  rw [lx] at bx
  have vx : valL xs = valL (xs.take i) + B32 ^ i * (xs[i] + B32 * valL (xs.drop (i + 1))) := by
    conv => lhs; rw [ex]
    rw [valL_append, lx, valL]
  have vy : valL ys = valL (ys.take i) + B32 ^ i * (ys[i] + B32 * valL (ys.drop (i + 1))) := by
    conv => lhs; rw [ey]
    rw [valL_append, ly, valL]
  rw [vx, vy, he]
  have h2 : B32 ^ i * (xs[i] + 1 + B32 * valL (ys.drop (i + 1))) ≤ B32 ^ i * (ys[i] + B32 * valL (ys.drop (i + 1))) := Nat.mul_le_mul_left _ (by omega)
  have h3 : B32 ^ i * (xs[i] + 1 + B32 * valL (ys.drop (i + 1))) = B32 ^ i * (xs[i] + B32 * valL (ys.drop (i + 1))) + B32 ^ i := by
    rw [show xs[i] + 1 + B32 * valL (ys.drop (i + 1)) = (xs[i] + B32 * valL (ys.drop (i + 1))) + 1 by omega, Nat.mul_add, Nat.mul_one]
  omega
theorem valL_take_succ {xs : List Nat} {i : Nat} (hi : i < xs.length) : valL (xs.take (i + 1)) = valL (xs.take i) + B32 ^ i * xs[i] := by
  rw [List.take_succ_eq_append_getElem hi, valL_append, List.length_take, Nat.min_eq_left (Nat.le_of_lt hi)]
  simp [valL]
end Go.Proofs.YthmflcmbaldflaaGreatDoor
