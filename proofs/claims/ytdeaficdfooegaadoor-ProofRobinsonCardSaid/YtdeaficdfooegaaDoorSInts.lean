/- Contracts: sameInts, lies. -/
import Derived.Test.YtdeaficdfooegaaDoorPick
namespace Go.Proofs.YtdeaficdfooegaaDoor
open Go.RowKit
set_option linter.unusedVariables false

set_option maxHeartbeats 1000000 in
theorem sameInts_any (va vb : Value) (xs ys : List Int) (w : World) (ha : IsInts w va xs) (hb : IsInts w vb ys) :
    Calls Tryd.prog 30 #[va, vb] w fun e w' => e = .returned (.bool (xs == ys)) ∧ Below w.heap.size w w' := by
  obtain ⟨a1, c1, rfl, hl1, hc1, hx1⟩ := ha.shape
  obtain ⟨a2, c2, rfl, hl2, hc2, hx2⟩ := hb.shape
  have Ha := Lib.hid ha; have Hb := Lib.hid hb; clear ha hb
  by_cases hlen : xs.length = ys.length
  · have hq : ((xs.length : Int) != (ys.length : Int)) = false := by simp [hlen]
    have hlq : (xs.length != ys.length) = false := by simp [hlen]
    have Hlen := Lib.hid hlen; clear hlen
    go_enter Tryd.func30, Tryd.ntmps30
    go_wp2_with fail
    go_loopg [5] xs.length (fun gk i wr => ∃ k : Nat, k ≤ xs.length ∧ gk = xs.length - k ∧ i = .int .i64 k ∧ Below w.heap.size w wr ∧ xs.take k = ys.take k)
    case atStart => exact ⟨0, Nat.zero_le _, rfl, rfl, Below.refl _ _, by simp⟩
    case round =>
      obtain ⟨k, hk, rfl, rfl, hbw, he⟩ := hrel
      have He := Lib.hid he; have Hbw := Lib.hid hbw; clear he hbw
      by_cases hlt : k < xs.length
      · have hlt2 : k < ys.length := by rw [← Hlen.out]; exact hlt
        obtain ⟨b1, o1, rfl, lb1⟩ := Ha.out.addr hlt
        obtain ⟨b2, o2, rfl, lb2⟩ := Hb.out.addr hlt2
        have g1 := (Ha.out.below Hbw.out).get hlt
        have g2 := (Hb.out.below Hbw.out).get hlt2
        obtain ⟨x, hx⟩ : ∃ x, x = xs[k] := ⟨_, rfl⟩
        obtain ⟨y, hy⟩ : ∃ y, y = ys[k] := ⟨_, rfl⟩
        rw [← hx] at g1
        rw [← hy] at g2
        have Hx := Lib.hid hx; have Hy := Lib.hid hy; clear hx hy
        have i1 : (k : Int) < (xs.length : Int) := by omega
        have i2 : (k : Int) < (ys.length : Int) := by omega
        by_cases hxy : x = y
        · have e0 : (x != y) = false := by simp [hxy]
          have Hxy := Lib.hid hxy; clear hxy
          go_wp2_with fail
          go_quiet (fail)
          go_wp2_with fail
          go_roundg (xs.length - (k + 1))
          case measure => omega
          case rel => exact ⟨k + 1, by omega, rfl, by go_num, below_drewN Hbw.out _, by rw [List.take_succ_eq_append_getElem hlt, List.take_succ_eq_append_getElem hlt2, He.out, ← Hx.out, ← Hy.out, Hxy.out]⟩
        · have e0 : (x != y) = true := by simpa using hxy
          have Hxy := Lib.hid hxy; clear hxy
          go_wp2_with fail
          go_quiet (fail)
          go_wp2_with fail
          go_ret
          refine ⟨?_, below_drewN Hbw.out _⟩
          have : (xs == ys) = false := by
            rw [beq_eq_false_iff_ne]
            rintro rfl
            exact Hxy.out (Hx.out.trans Hy.out.symm)
          rw [this]; rfl
      · obtain rfl : k = xs.length := by omega
        go_wp2_with fail
        go_ret
        refine ⟨?_, Hbw.out⟩
        have h1 := He.out
        rw [List.take_length, Hlen.out, List.take_length] at h1
        subst h1
        simp
  · have hq : ((xs.length : Int) != (ys.length : Int)) = true := by simp; omega
    have hlq : (xs.length != ys.length) = true := by simpa using hlen
    have he : (xs == ys) = false := by
      rw [beq_eq_false_iff_ne]
      rintro rfl
      exact hlen rfl
    rw [he]
    have Hlen := Lib.hid hlen; clear hlen he
    go_enter Tryd.func30, Tryd.ntmps30
    go_wp2_with fail
    go_ret
    exact ⟨rfl, Below.refl _ _⟩

theorem ok_empty (R : Nat) : Ok (List.replicate R none) := by
  have hat : ∀ k, Cells.at (List.replicate R none) k = none := fun k => by unfold Cells.at; simp only [List.getD_eq_getElem?_getD, List.getElem?_replicate]; split <;> rfl
  exact ⟨fun k n h => (by rw [hat] at h; cases h), fun k n h => (by rw [hat] at h; cases h), fun k n h => (by rw [hat] at h; cases h), fun j k n h => (by rw [hat] at h; cases h)⟩

end Go.Proofs.YtdeaficdfooegaaDoor
