/- Contracts: count.Of, cmp.Compare, math/bits.Add32. -/
import Derived.Test.YthmflcmbaldflaaGreatDoorNat
namespace Go.Proofs.YthmflcmbaldflaaGreatDoor
open Go.RowKit
set_option linter.unusedVariables false

set_option maxHeartbeats 1000000 in
theorem Of_any (n : Nat) (w : World) (hn : n ≤ 9223372036854775807) :
    Calls Tryz.prog 57 #[.int .i64 n] w fun e w' => ∃ v, e = .returned v ∧ IsNat w' v n ∧ Below w.heap.size w w' := by
  have h0 : decide ((n : Int) < 0) = false := by simp
  go_enter Tryz.func57, Tryz.ntmps57
  go_wp2_with fail
  have hb : Below w.heap.size w ((w.alloc (.cells #[.slice none 0 0] 43)).alloc (.cells #[.int .u32 ((n : Int) % 4294967296), .int .u32 ((n : Int) / 4294967296)] 88)) := ((Below.refl _ _).alloc (Nat.le_refl _) _).alloc (by simp) _
  refine (nmade_any _ [n % B32, n / B32] _ (isLimbs_row _ (heap_at (by simp)) (by simp [B32]) rfl (Nat.le_refl _) (show 2 ≤ maxLen by decide) (fun x hx => ?_))).mono ?_
  · unfold B32 at hx ⊢; simp at hx; omega
  rintro e w1 ⟨v, rfl, hn1, hb1⟩
  have hv : valL [n % B32, n / B32] = n := by simp only [valL, Nat.mul_zero, Nat.add_zero]; exact Nat.mod_add_div n B32
  rw [hv] at hn1
  have hr : Res w w1 43 (.slice none 0 0) := res_of (heap_up (heap_at rfl)) hb hb1
  obtain ⟨a, c, rfl⟩ := hn1.shape
  have hcell := hr.cell; have hfz := hr.free; have hlt := hr.lt
  have Hn := Lib.hid hn1; have Hr := Lib.hid hr
  clear hn1 hb hb1 hv hr
  go_wp2_with fail
  exact bodyPost_ret (v := .agg #[.slice a (limbsOf n).length c]) (by simp [results, Tryz.results57, go_sem, hcell]) rfl ⟨_, rfl, Hn.out.setRes Hr.out.blk _, Hr.out.set _⟩

theorem nanI_any (a : Int) (w : World) : Calls Tryz.prog 61 #[.int .i64 a] w fun e w' => e = .returned (.bool false) ∧ w = w' := by
  have h1 : (a != a) = false := by simp
  go_enter Tryz.func61, Tryz.ntmps61
  go_wp2_with fail
  go_ret
  exact ⟨rfl, rfl⟩
set_option maxHeartbeats 1000000 in
theorem cmpInt_any (a b : Int) (w : World) : Calls Tryz.prog 35 #[.int .i64 a, .int .i64 b] w fun e w' => e = .returned (.int .i64 (if a < b then -1 else if b < a then 1 else 0)) ∧ w = w' := by
  rcases Int.lt_trichotomy a b with h | h | h
  · have h1 : decide (a < b) = true := by simpa using h
    rw [if_pos h]
    go_enter Tryz.func35, Tryz.ntmps35
    go_wp2_with fail
    refine (nanI_any _ _).mono ?_
    rintro e w' ⟨rfl, rfl⟩
    go_wp2_with fail
    refine (nanI_any _ _).mono ?_
    rintro e w' ⟨rfl, rfl⟩
    go_wp2_with fail
    go_ret
    exact ⟨rfl, rfl⟩
  · subst h
    have h1 : decide (a < a) = false := by simp
    rw [if_neg (by omega), if_neg (by omega)]
    go_enter Tryz.func35, Tryz.ntmps35
    go_wp2_with fail
    refine (nanI_any _ _).mono ?_
    rintro e w' ⟨rfl, rfl⟩
    go_wp2_with fail
    refine (nanI_any _ _).mono ?_
    rintro e w' ⟨rfl, rfl⟩
    go_wp2_with fail
    go_ret
    exact ⟨rfl, rfl⟩
  · have h1 : decide (b < a) = true := by simpa using h
    have h2 : decide (a < b) = false := by simp; omega
    rw [if_neg (by omega), if_pos h]
    go_enter Tryz.func35, Tryz.ntmps35
    go_wp2_with fail
    refine (nanI_any _ _).mono ?_
    rintro e w' ⟨rfl, rfl⟩
    go_wp2_with fail
    refine (nanI_any _ _).mono ?_
    rintro e w' ⟨rfl, rfl⟩
    go_wp2_with fail
    go_ret
    exact ⟨rfl, rfl⟩
theorem nanU_any (a : Int) (w : World) : Calls Tryz.prog 62 #[.int .u32 a] w fun e w' => e = .returned (.bool false) ∧ w = w' := by
  have h1 : (a != a) = false := by simp
  go_enter Tryz.func62, Tryz.ntmps62
  go_wp2_with fail
  go_ret
  exact ⟨rfl, rfl⟩
set_option maxHeartbeats 1000000 in
theorem cmpU_any (a b : Int) (w : World) : Calls Tryz.prog 36 #[.int .u32 a, .int .u32 b] w fun e w' => e = .returned (.int .i64 (if a < b then -1 else if b < a then 1 else 0)) ∧ w = w' := by
  rcases Int.lt_trichotomy a b with h | h | h
  · have h1 : decide (a < b) = true := by simpa using h
    rw [if_pos h]
    go_enter Tryz.func36, Tryz.ntmps36
    go_wp2_with fail
    refine (nanU_any _ _).mono ?_
    rintro e w' ⟨rfl, rfl⟩
    go_wp2_with fail
    refine (nanU_any _ _).mono ?_
    rintro e w' ⟨rfl, rfl⟩
    go_wp2_with fail
    go_ret
    exact ⟨rfl, rfl⟩
  · subst h
    have h1 : decide (a < a) = false := by simp
    rw [if_neg (by omega), if_neg (by omega)]
    go_enter Tryz.func36, Tryz.ntmps36
    go_wp2_with fail
    refine (nanU_any _ _).mono ?_
    rintro e w' ⟨rfl, rfl⟩
    go_wp2_with fail
    refine (nanU_any _ _).mono ?_
    rintro e w' ⟨rfl, rfl⟩
    go_wp2_with fail
    go_ret
    exact ⟨rfl, rfl⟩
  · have h1 : decide (b < a) = true := by simpa using h
    have h2 : decide (a < b) = false := by simp; omega
    rw [if_neg (by omega), if_pos h]
    go_enter Tryz.func36, Tryz.ntmps36
    go_wp2_with fail
    refine (nanU_any _ _).mono ?_
    rintro e w' ⟨rfl, rfl⟩
    go_wp2_with fail
    refine (nanU_any _ _).mono ?_
    rintro e w' ⟨rfl, rfl⟩
    go_wp2_with fail
    go_ret
    exact ⟨rfl, rfl⟩

set_option maxHeartbeats 1000000 in
theorem add32_any (x y c : Nat) (w : World) (hx : x < B32) (hy : y < B32) (hc : c ≤ 1) :
    Calls Tryz.prog 81 #[.int .u32 x, .int .u32 y, .int .u32 c] w fun e w' => e = .returned (.tuple #[.int .u32 ((x + y + c) % B32 : Nat), .int .u32 ((x + y + c) / B32 : Nat)]) ∧ w = w' := by
  unfold B32 at *
  go_enter Tryz.func81, Tryz.ntmps81
  go_wp2_with fail
  go_ret2
  exact ⟨rfl, rfl⟩
end Go.Proofs.YthmflcmbaldflaaGreatDoor
