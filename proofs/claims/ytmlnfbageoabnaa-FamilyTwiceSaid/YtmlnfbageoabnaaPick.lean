/- Contracts: pick, sameInts, lies. -/
import Derived.Test.YtmlnfbageoabnaaSweep
namespace Go.Proofs.Ytmlnfbageoabnaa
open Go.RowKit
set_option linter.unusedVariables false

/-- pick, over an int (or uint) a and a length n. -/
def pickN (a : Int) (n : Nat) : Nat := (IntKind.u64.wrap a).toNat % n
theorem pickN_lt (a : Int) {n : Nat} (h : 0 < n) : pickN a n < n := Nat.mod_lt _ h
theorem pick_eq (a : Int) (n : Nat) (h0 : 0 < n) (h1 : n ≤ 1000000) : wrap64 ((IntKind.u64.wrap a).tmod n) = (pickN a n : Nat) := by
  have h := u64_nonneg a
  unfold pickN
  generalize IntKind.u64.wrap a = y at h
  obtain ⟨m, rfl⟩ := Int.eq_ofNat_of_zero_le h
  rw [Int.tmod_eq_emod_of_nonneg (by omega), Int.toNat_natCast, ← Int.natCast_emod]
  have := Nat.mod_lt m h0
  rw [IntWalk.wrap64_in _ ⟨by omega, by omega⟩]

theorem pick_any (a : Int) (n : Nat) (w : World) (h0 : 0 < n) (h1 : n ≤ 1000000) :
    Calls Try.prog 13 #[.int .i64 a, .int .i64 n] w fun e w' => e = .returned (.int .i64 (pickN a n)) ∧ w = w' := by
  have hp := pick_eq a n h0 h1
  have Hp := Lib.hid hp; clear hp
  go_enter Try.func13, Try.ntmps13
  go_wp2_with fail
  go_ret
  refine ⟨?_, rfl⟩
  rw [← Hp.out]
  rfl

set_option maxHeartbeats 1000000 in
theorem sameInts_any (va vb : Value) (xs ys : List Int) (w : World) (ha : IsInts w va xs) (hb : IsInts w vb ys) :
    Calls Try.prog 19 #[va, vb] w fun e w' => e = .returned (.bool (xs == ys)) ∧ Below w.heap.size w w' := by
  obtain ⟨a1, c1, rfl, hl1, hc1, hx1⟩ := ha.shape
  obtain ⟨a2, c2, rfl, hl2, hc2, hx2⟩ := hb.shape
  have Ha := Lib.hid ha; have Hb := Lib.hid hb; clear ha hb
  by_cases hlen : xs.length = ys.length
  · have hq : ((xs.length : Int) != (ys.length : Int)) = false := by simp [hlen]
    have hlq : (xs.length != ys.length) = false := by simp [hlen]
    have Hlen := Lib.hid hlen; clear hlen
    go_enter Try.func19, Try.ntmps19
    go_wp2_with fail
    go_loopg [5] xs.length (fun gk i wr => ∃ k : Nat, k ≤ xs.length ∧ gk = xs.length - k ∧ i = .int .i64 k ∧ Below w.heap.size w wr ∧ xs.take k = ys.take k)
    case atStart => exact ⟨0, Nat.zero_le _, rfl, rfl, Below.refl _ _, by simp⟩
    case round =>
      obtain ⟨k, hk, rfl, rfl, hbw, he⟩ := hrel
      have He := Lib.hid he; have Hbw := Lib.hid hbw; clear he hbw
      by_cases hlt : k < xs.length
      · have hlt2 : k < ys.length := by rw [← Hlen.out]; exact hlt
        obtain ⟨b1, o1, rfl, lb1⟩ := Ha.out.addr hlt
        obtain ⟨b2, o2, rfl, lb2⟩ := Hb.out.addr hlt2
        have g1 := (Ha.out.below Hbw.out).get hlt
        have g2 := (Hb.out.below Hbw.out).get hlt2
        obtain ⟨x, hx⟩ : ∃ x, x = xs[k] := ⟨_, rfl⟩
        obtain ⟨y, hy⟩ : ∃ y, y = ys[k] := ⟨_, rfl⟩
        rw [← hx] at g1
        rw [← hy] at g2
        have Hx := Lib.hid hx; have Hy := Lib.hid hy; clear hx hy
        have i1 : (k : Int) < (xs.length : Int) := by omega
        have i2 : (k : Int) < (ys.length : Int) := by omega
        by_cases hxy : x = y
        · have e0 : (x != y) = false := by simp [hxy]
          have Hxy := Lib.hid hxy; clear hxy
          go_wp2_with fail
          go_quiet (fail)
          go_wp2_with fail
          go_roundg (xs.length - (k + 1))
          case measure => omega
          case rel => exact ⟨k + 1, by omega, rfl, by go_num, below_drewN Hbw.out _, by rw [List.take_succ_eq_append_getElem hlt, List.take_succ_eq_append_getElem hlt2, He.out, ← Hx.out, ← Hy.out, Hxy.out]⟩
        · have e0 : (x != y) = true := by simpa using hxy
          have Hxy := Lib.hid hxy; clear hxy
          go_wp2_with fail
          go_quiet (fail)
          go_wp2_with fail
          go_ret
          refine ⟨?_, below_drewN Hbw.out _⟩
          have : (xs == ys) = false := by
            rw [beq_eq_false_iff_ne]
            rintro rfl
            exact Hxy.out (Hx.out.trans Hy.out.symm)
          rw [this]; rfl
      · obtain rfl : k = xs.length := by omega
        go_wp2_with fail
        go_ret
        refine ⟨?_, Hbw.out⟩
        have h1 := He.out
        rw [List.take_length, Hlen.out, List.take_length] at h1
        subst h1
        simp
  · have hq : ((xs.length : Int) != (ys.length : Int)) = true := by simp; omega
    have hlq : (xs.length != ys.length) = true := by simpa using hlen
    have he : (xs == ys) = false := by
      rw [beq_eq_false_iff_ne]
      rintro rfl
      exact hlen rfl
    rw [he]
    have Hlen := Lib.hid hlen; clear hlen he
    go_enter Try.func19, Try.ntmps19
    go_wp2_with fail
    go_ret
    exact ⟨rfl, Below.refl _ _⟩

theorem ok_empty (R : Nat) : Ok (List.replicate R none) := by
  have hat : ∀ k, Cells.at (List.replicate R none) k = none := fun k => by unfold Cells.at; simp only [List.getD_eq_getElem?_getD, List.getElem?_replicate]; split <;> rfl
  exact ⟨fun k n h => (by rw [hat] at h; cases h), fun k n h => (by rw [hat] at h; cases h), fun k n h => (by rw [hat] at h; cases h), fun j k n h => (by rw [hat] at h; cases h)⟩

theorem lies_mk : mkM (List.replicate 3 none) (2, 0, 1) = ([some (2, 0, 1), none, none], 2, 0) := by decide
theorem lies_mk2 : mkM [some (2, 0, 1), none, none] (2, 0, 1) = ([some (2, 0, 1), none, none], 2, 0) := by decide

set_option maxHeartbeats 1000000 in
theorem lies_any (w : World) : Calls Try.prog 12 #[] w fun e w' => e = .returned (.bool true) ∧ Below w.heap.size w w' := by
  go_enter Try.func12, Try.ntmps12
  go_wp2_with fail
  refine (new_any 3 w (by decide) (by decide)).mono ?_
  rintro e w1 ⟨⟨b, rfl, hR, ha, hm⟩, hb1⟩
  have Ha := Lib.hid ha; have Hm := Lib.hid hm; have Hb1 := Lib.hid hb1; have HR := Lib.hid hR
  clear ha hm hb1 hR
  go_wp2_with fail
  refine (make_any (2, 0, 1) w1 b _ Ha.out (by decide) (by decide)).mono ?_
  rintro e w2 ⟨rfl, ha2, ho2⟩
  rw [lies_mk] at ha2 ⊢
  have Ha2 := Lib.hid ha2; have Ho2 := Lib.hid ho2; clear ha2 ho2
  simp only [errV, if_true]
  go_wp2_with fail
  refine (make_any (2, 0, 1) w2 b _ Ha2.out (by decide) (by decide)).mono ?_
  rintro e w3 ⟨rfl, ha3, ho3⟩
  rw [lies_mk2] at ha3 ⊢
  have Ha3 := Lib.hid ha3; have Ho3 := Lib.hid ho3; clear ha3 ho3
  simp only [errV, if_true]
  go_wp2_with fail
  refine (len_any w3 b _ Ha3.out).mono ?_
  rintro e w4 ⟨rfl, rfl⟩
  have : cnt [some (2, 0, 1), none, none] = 1 := by decide
  rw [this]
  go_wp2_with fail
  go_ret
  exact ⟨rfl, Hb1.out.trans ((Ho2.out.trans Ho3.out).below Hb1.out.size Hm.out)⟩
end Go.Proofs.Ytmlnfbageoabnaa
