/- Contracts: slices.Equal at spans; Range.Same, Empty, Any. -/
import Derived.Test.YtpnchjbdjcihfaaGreatDoorNot
import Derived.Laws.StructEq
namespace Go.Proofs.YtpnchjbdjcihfaaGreatDoor
open Go.RowKit
set_option linter.unusedVariables false

set_option maxHeartbeats 1000000 in
theorem any_any (w : World) : Calls Tryz.prog 12 #[] w fun e w' => ∃ v, e = .returned (.agg #[v]) ∧ IsSp w' v [(0, pastV)] ∧ (∀ b, v.ownBlock = some b → w.heap.size ≤ b) ∧ Below w.heap.size w w' := by
  go_enter Tryz.func12, Tryz.ntmps12
  go_wp2_with fail
  refine bodyPost_ret (v := .agg #[.slice (some ⟨w.heap.size + 1, 0, none⟩) 1 1]) (by simp [results, Tryz.results12, go_sem]) rfl ⟨_, rfl, .inr ⟨w.heap.size + 1, 1, fun _ => (0, pastV), rfl, by decide, ⟨_, heap_at (by simp), Nat.le_refl _, rfl, fun k hk => ?_⟩, rfl⟩, fun b hb => (show w.heap.size ≤ b from (by have : w.heap.size + 1 = b := (by simpa [Value.ownBlock] using hb); omega)), ((Below.refl _ _).alloc (Nat.le_refl _) _).alloc (by simp) _⟩
  have : k = 0 := by simp at hk; exact hk
  subst this
  exact ⟨rfl, rfl⟩

set_option maxHeartbeats 1000000 in
theorem empty_any (v : Value) (l : List Spn) (w : World) (h : IsSp w v l) : Calls Tryz.prog 13 #[.agg #[v]] w fun e w' => e = .returned (.bool (decide (l = []))) ∧ Below w.heap.size w w' := by
  obtain ⟨a, c, rfl, hlc, hcm⟩ := h.shape
  have hd : decide (l = []) = ((l.length : Int) == 0) := by
    cases l with
    | nil => rfl
    | cons x r =>
      have : (((x :: r).length : Int) == 0) = false := by rw [beq_eq_false_iff_ne]; simp; omega
      rw [this]; simp
  rw [hd]
  have hal : Below w.heap.size w (w.alloc (.cells #[.slice a l.length c] 24)) := (Below.refl _ _).alloc (Nat.le_refl _) _
  have Hal := Lib.hid hal
  clear h hd hal
  go_enter Tryz.func13, Tryz.ntmps13
  go_wp2_with fail
  go_ret
  exact ⟨rfl, Hal.out⟩

set_option maxRecDepth 100000 in
set_option maxHeartbeats 4000000 in
theorem equalS_any (va vb : Value) (xs ys : List Spn) (w : World) (ha : IsSp w va xs) (hb : IsSp w vb ys) :
    Calls Tryz.prog 23 #[va, vb] w fun e w' => e = .returned (.bool (decide (xs = ys))) ∧ Below w.heap.size w w' := by
  obtain ⟨a1, c1, rfl, hl1, hc1⟩ := ha.shape
  obtain ⟨a2, c2, rfl, hl2, hc2⟩ := hb.shape
  have hm1 : xs.length ≤ 9223372036854775807 := Nat.le_trans hl1 hc1
  have hm2 : ys.length ≤ 9223372036854775807 := Nat.le_trans hl2 hc2
  have Ha := Lib.hid ha; have Hb := Lib.hid hb; clear ha hb
  by_cases hlen : xs.length = ys.length
  · have hq : ((xs.length : Int) != (ys.length : Int)) = false := by simp [hlen]
    have hlq : (xs.length != ys.length) = false := by simp [hlen]
    have Hlen := Lib.hid hlen; clear hlen
    generalize hres : decide (xs = ys) = res
    have Hres := Lib.hid hres; clear hres
    go_enter Tryz.func23, Tryz.ntmps23
    go_wp2_with fail
    go_loopg [13] xs.length (fun gk i wr => ∃ k : Nat, k ≤ xs.length ∧ gk = xs.length - k ∧ i = .int .i64 k ∧ Below w.heap.size w wr ∧ xs.take k = ys.take k)
    case atStart => exact ⟨0, Nat.zero_le _, rfl, rfl, Below.refl _ _, by simp⟩
    case round =>
      obtain ⟨k, hk, rfl, rfl, hbw, he⟩ := hrel
      have He := Lib.hid he; have Hbw := Lib.hid hbw; clear he hbw
      by_cases hlt : k < xs.length
      · have hlt2 : k < ys.length := by rw [← Hlen.out]; exact hlt
        obtain ⟨b1, rfl, lb1, g1, g2⟩ := (Ha.out.below Hbw.out).get hlt
        obtain ⟨b2, rfl, lb2, g3, g4⟩ := (Hb.out.below Hbw.out).get hlt2
        obtain ⟨x, hx⟩ : ∃ x, x = xs[k] := ⟨_, rfl⟩
        obtain ⟨y, hy⟩ : ∃ y, y = ys[k] := ⟨_, rfl⟩
        rw [← hx] at g1 g2
        rw [← hy] at g3 g4
        have Hx := Lib.hid hx; have Hy := Lib.hid hy; clear hx hy
        have i1 : (k : Int) < (xs.length : Int) := by omega
        have i2 : (k : Int) < (ys.length : Int) := by omega
        by_cases hxy : x = y
        · subst hxy
          go_wp2_with fail
          go_region
          go_wp2_with fail
          go_roundg (xs.length - (k + 1))
          case measure => omega
          case rel => exact ⟨k + 1, by omega, rfl, by go_num, Hbw.out.drew, by rw [List.take_succ_eq_append_getElem hlt, List.take_succ_eq_append_getElem hlt2, He.out, ← Hx.out, ← Hy.out]⟩
        · have hr : res = false := by
            rw [← Hres.out, decide_eq_false_iff_not]
            intro h
            subst h
            exact hxy (Hx.out.trans Hy.out.symm)
          subst hr
          by_cases h1 : x.1 = y.1
          · have h2 : ¬ x.2 = y.2 := fun h => hxy (Prod.ext h1 h)
            clear hxy
            go_wp2_with fail
            go_region
            go_wp2_with fail
            go_ret
            exact ⟨rfl, Hbw.out.drew⟩
          · clear hxy
            go_wp2_with fail
            go_region
            go_wp2_with fail
            go_ret
            exact ⟨rfl, Hbw.out.drew⟩
      · obtain rfl : k = xs.length := by omega
        have hr : res = true := by
          rw [← Hres.out, decide_eq_true_iff]
          have h1 := He.out
          rw [List.take_length, Hlen.out, List.take_length] at h1
          exact h1
        subst hr
        go_wp2_with fail
        go_ret
        exact ⟨rfl, Hbw.out⟩
  · have hq : ((xs.length : Int) != (ys.length : Int)) = true := by simp; omega
    have hlq : (xs.length != ys.length) = true := by simpa using hlen
    have hr : decide (xs = ys) = false := decide_eq_false (fun h => hlen (by rw [h]))
    rw [hr]
    have Hlen := Lib.hid hlen; clear hlen hr
    go_enter Tryz.func23, Tryz.ntmps23
    go_wp2_with fail
    go_ret
    exact ⟨rfl, Below.refl _ _⟩

set_option maxHeartbeats 1000000 in
theorem same_any (va vb : Value) (xs ys : List Spn) (w : World) (ha : IsSp w va xs) (hb : IsSp w vb ys) :
    Calls Tryz.prog 10 #[.agg #[va], .agg #[vb]] w fun e w' => e = .returned (.bool (decide (xs = ys))) ∧ Below w.heap.size w w' := by
  obtain ⟨a1, c1, rfl, _, _⟩ := ha.shape
  obtain ⟨a2, c2, rfl, _, _⟩ := hb.shape
  have hal : Below w.heap.size w ((w.alloc (.cells #[.slice a1 xs.length c1] 24)).alloc (.cells #[.slice a2 ys.length c2] 24)) := ((Below.refl _ _).alloc (Nat.le_refl _) _).alloc (by simp) _
  have He := Lib.hid (equalS_any _ _ xs ys _ (ha.below hal) (hb.below hal))
  have Hal := Lib.hid hal
  clear ha hb hal
  generalize decide (xs = ys) = res at He ⊢
  go_enter Tryz.func10, Tryz.ntmps10
  go_wp2_with fail
  refine He.out.mono ?_
  rintro e w1 ⟨rfl, hb1⟩
  have Hb1 := Lib.hid (Hal.out.trans (hb1.mono Hal.out.size))
  clear hb1 He
  go_wp2_with fail
  go_ret
  exact ⟨rfl, Hb1.out⟩
end Go.Proofs.YtpnchjbdjcihfaaGreatDoor
