/- Contract: (count.Nat).Cmp. -/
import Derived.Test.YthmflcmbaldflaaGreatDoorNatOps
import Derived.Deep.QuietTactic
import Derived.Test.YthmflcmbaldflaaGreatDoorIpC
namespace Go.Proofs.YthmflcmbaldflaaGreatDoor
open Go.RowKit
set_option linter.unusedVariables false

def cmpN (a b : Nat) : Int := if a < b then -1 else if b < a then 1 else 0

set_option maxRecDepth 100000 in
set_option maxHeartbeats 4000000 in
theorem Cmp_any (a b : Nat) (va vb : Value) (w : World) (ha : IsNat w va a) (hb : IsNat w vb b) :
    Calls Tryz.prog 14 #[va, vb] w fun e w' => e = .returned (.int .i64 (cmpN a b)) ∧ Below w.heap.size w w' := by
  obtain ⟨aa, ca, rfl⟩ := ha.shape
  obtain ⟨ab, cb, rfl⟩ := hb.shape
  have hA := ha.limbs; have hB := hb.limbs
  clear ha hb
  have ea := val_limbs a; have eb := val_limbs b
  have sa := limbs_short (a := a) (b := b); have sb := limbs_short (a := b) (b := a)
  generalize limbsOf a = xs at hA ea sa sb ⊢
  generalize limbsOf b = ys at hB eb sa sb ⊢
  obtain ⟨_, _, eA, hA1, hA2⟩ := hA.shape
  obtain ⟨_, _, eB, hB1, hB2⟩ := hB.shape
  cases eA; cases eB
  have hbl : Below w.heap.size w ((w.alloc (.cells #[.slice aa xs.length ca] 43)).alloc (.cells #[.slice ab ys.length cb] 43)) := ((Below.refl _ _).alloc (Nat.le_refl _) _).alloc (by simp) _
  have Ea := Lib.hid ea; have Eb := Lib.hid eb; have HA := Lib.hid hA; have HB := Lib.hid hB; have Hbl := Lib.hid hbl
  clear ea eb hA hB hbl
  rcases Nat.lt_trichotomy xs.length ys.length with h | h | h
  · have hc : cmpN a b = -1 := if_pos (sa h)
    rw [hc]
    have h1 : (((xs.length : Nat) : Int) != ((ys.length : Nat) : Int)) = true := by simp; omega
    have h2 : (((xs.length : Nat) : Int) == ((ys.length : Nat) : Int)) = false := by simp; omega
    clear sa sb hc
    have hq := cmpInt_any (xs.length : Int) (ys.length : Int)
    rw [if_pos (by omega)] at hq
    have Hq := Lib.hid hq; clear hq
    go_enter Tryz.func14, Tryz.ntmps14
    go_wp2_with fail
    refine (Hq.out _).mono ?_
    rintro e w' ⟨rfl, rfl⟩
    go_wp2_with fail
    go_ret
    exact ⟨rfl, Hbl.out⟩
  · have Sa := Lib.hid sa; clear sa sb
    have Hl := Lib.hid h; 
    rw [← h] at Hbl HB hB1 ⊢
    clear h
    have h1 : (((xs.length : Nat) : Int) != ((xs.length : Nat) : Int)) = false := by simp
    go_enter Tryz.func14, Tryz.ntmps14
    go_wp2_with fail
    obtain ⟨w2, ew⟩ : ∃ x, x = (w.alloc (.cells #[.slice aa xs.length ca] 43)).alloc (.cells #[.slice ab xs.length cb] 43) := ⟨_, rfl⟩
    have hHA := HA.out.below (Hbl.out)
    have hHB := HB.out.below (Hbl.out)
    have hba : w2.heap[w.heap.size]? = some (.cells #[.slice aa xs.length ca] 43 (0, 0)) := by rw [ew]; exact heap_up (heap_at rfl)
    have hbb : w2.heap[w.heap.size + 1]? = some (.cells #[.slice ab xs.length cb] 43 (0, 0)) := by rw [ew]; exact heap_at (by simp)
    have hbw := Hbl.out
    rw [← ew] at hHA hHB hbw ⊢
    clear Hbl HA HB ew
    have Hbw := Lib.hid hbw; have HA := Lib.hid hHA; have HB := Lib.hid hHB; have Hba := Lib.hid hba; have Hbb := Lib.hid hbb
    clear hbw hHA hHB hba hbb
    go_loopg [5] xs.length (fun gk i wr => ∃ k : Nat, k = gk ∧ k ≤ xs.length ∧ i = .int .i64 ((k : Int) - 1) ∧ Below w2.heap.size w2 wr ∧ xs.drop k = ys.drop k)
    case atStart => exact ⟨_, rfl, Nat.le_refl _, by go_num, Below.refl _ _, by rw [List.drop_length, List.drop_eq_nil_of_le (by have := Hl.out; omega)]⟩
    case round =>
      obtain ⟨k, rfl, hk, rfl, hb, hd⟩ := hrel
      have cA := cell_of_one ((hb.block _ (lt_of_block Hba.out)).trans Hba.out)
      have cB := cell_of_one ((hb.block _ (lt_of_block Hbb.out)).trans Hbb.out)
      have Hb := Lib.hid hb; have Hd := Lib.hid hd; clear hb hd
      rcases Nat.eq_zero_or_pos k with h0 | h0
      · subst h0
        rw [show (((0 : Nat) : Int) - 1) = -1 by omega]
        go_wp2_with fail
        go_ret
        have hc : cmpN a b = 0 := by
          have e1 : xs = ys := by have := Hd.out; simpa using this
          have : a = b := by rw [← Ea.out, ← Eb.out, e1]
          unfold cmpN; rw [if_neg (by omega), if_neg (by omega)]
        rw [hc]
        exact ⟨rfl, Hbw.out.trans (Hb.out.mono Hbw.out.size)⟩
      · obtain ⟨j, rfl⟩ : ∃ j, k = j + 1 := ⟨k - 1, by omega⟩
        rw [show (((j + 1 : Nat) : Int) - 1) = (j : Int) by omega]
        have hj : j < xs.length := by omega
        have hj2 : j < ys.length := by have := Hl.out; omega
        obtain ⟨b1, o1, rfl, lb1⟩ := HA.out.addr hj
        obtain ⟨b2, o2, rfl, lb2⟩ := HB.out.addr hj2
        have g1 := (HA.out.below Hb.out).get hj
        have g2 := (HB.out.below Hb.out).get hj2
        have less := fun h => valL_less HA.out.limbs HB.out.limbs Hl.out hj Hd.out h
        have more := fun h => valL_less HB.out.limbs HA.out.limbs Hl.out.symm hj2 Hd.out.symm h
        have hd2 : xs[j] = ys[j] → xs.drop j = ys.drop j := fun e => by rw [List.drop_eq_getElem_cons hj, List.drop_eq_getElem_cons hj2, e, Hd.out]
        rw [Ea.out, Eb.out] at less more
        generalize xs[j] = x at g1 less more hd2
        generalize ys[j] = y at g2 less more hd2
        have Less := Lib.hid less; have More := Lib.hid more; have Hd2 := Lib.hid hd2
        clear less more hd2
        have hji : (j : Int) < xs.length := by exact_mod_cast hj
        have hji2 : (j : Int) < ys.length := by exact_mod_cast hj2
        have hq := fun w' => (cmpU_any (x : Int) (y : Int) w').mono fun e w'' h => And.intro h.1 h.2.symm
        rcases Nat.lt_trichotomy x y with h | h | h
        · rw [if_pos (by omega)] at hq
          have hc : cmpN a b = -1 := if_pos (Less.out h)
          have Hq := Lib.hid hq; have Hc := Lib.hid hc; clear hq hc h
          go_wp2_with fail
          go_quiet ((go_at_call 36; exact Calls.quiet_of_same (Hq.out _)))
          go_wp2_with fail
          go_ret
          rw [Hc.out]
          exact ⟨rfl, below_drewA (Hbw.out.trans (Hb.out.mono Hbw.out.size)) _⟩
        · rw [if_neg (by omega), if_neg (by omega)] at hq
          have Hq := Lib.hid hq; have H := Lib.hid h; clear hq h
          go_wp2_with fail
          go_quiet ((go_at_call 36; exact Calls.quiet_of_same (Hq.out _)))
          go_wp2_with fail
          go_roundg j
          case measure => omega
          case rel => exact ⟨j, rfl, by omega, by go_num, below_drewA Hb.out _, Hd2.out H.out⟩
        · rw [if_neg (by omega), if_pos (by omega)] at hq
          have hc : cmpN a b = 1 := by have := More.out h; unfold cmpN; rw [if_neg (by omega), if_pos (by omega)]
          have Hq := Lib.hid hq; have Hc := Lib.hid hc; clear hq hc h
          go_wp2_with fail
          go_quiet ((go_at_call 36; exact Calls.quiet_of_same (Hq.out _)))
          go_wp2_with fail
          go_ret
          rw [Hc.out]
          exact ⟨rfl, below_drewA (Hbw.out.trans (Hb.out.mono Hbw.out.size)) _⟩
  · have hc : cmpN a b = 1 := by have := sb h; unfold cmpN; rw [if_neg (by omega), if_pos (by omega)]
    rw [hc]
    have h1 : (((xs.length : Nat) : Int) != ((ys.length : Nat) : Int)) = true := by simp; omega
    have h2 : (((xs.length : Nat) : Int) == ((ys.length : Nat) : Int)) = false := by simp; omega
    clear sa sb hc
    have hq := cmpInt_any (xs.length : Int) (ys.length : Int)
    rw [if_neg (by omega), if_pos (by omega)] at hq
    have Hq := Lib.hid hq; clear hq
    go_enter Tryz.func14, Tryz.ntmps14
    go_wp2_with fail
    refine (Hq.out _).mono ?_
    rintro e w' ⟨rfl, rfl⟩
    go_wp2_with fail
    go_ret
    exact ⟨rfl, Hbl.out⟩
end Go.Proofs.YthmflcmbaldflaaGreatDoor
