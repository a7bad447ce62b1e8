/- Contracts: slices.Concat of two rows of spans; Range.Or, Range.And. -/
import Derived.Test.YtheemhelioendaaGreatDoorConcat
namespace Go.Proofs.YtheemhelioendaaGreatDoor
open Go.RowKit
set_option linter.unusedVariables false

set_option maxRecDepth 100000 in
set_option maxHeartbeats 8000000 in
theorem concat_any (S : Nat) (va vb : Value) (xs ys : List Spn) (w : World) (hS : w.heap[S]? = some (.cells #[va, vb] 47 (0, 0))) (ha : IsSp w va xs) (hb : IsSp w vb ys) (hl : xs.length + ys.length ≤ 100000) :
    Calls Tryz.prog 146 #[.slice (some ⟨S, 0, none⟩) 2 2] w fun e w' => ∃ v f n, e = .returned v ∧ n = xs.length + ys.length ∧ OutR w' w.heap.size v n f ∧ spL n f = xs ++ ys ∧ Below w.heap.size w w' := by
  obtain ⟨a1, c1, rfl, hl1, hc1⟩ := ha.shape
  obtain ⟨a2, c2, rfl, hl2, hc2⟩ := hb.shape
  have d1 : w.cell? ⟨S, 0, none⟩ = some (.slice a1 xs.length c1) := by rw [cell_of_row _ _ _ _ _ _ hS]; rfl
  have d2 : w.cell? ⟨S, 1, none⟩ = some (.slice a2 ys.length c2) := by rw [cell_of_row _ _ _ _ _ _ hS]; rfl
  have hSl := lt_of_block hS
  have Ha := Lib.hid ha; have Hb := Lib.hid hb; have HS := Lib.hid hS
  clear ha hb hS
  go_enter Tryz.func146, Tryz.ntmps146
  go_wp2_with fail
  go_loopg [3, 11] 2 (fun gk sz i wr => ∃ k : Nat, k ≤ 2 ∧ gk = 2 - k ∧ i = .int .i64 k ∧ sz = .int .i64 (if k = 0 then 0 else if k = 1 then (xs.length : Int) else (xs.length : Int) + ys.length) ∧ w = wr)
  case atStart => exact ⟨0, by omega, rfl, rfl, rfl, rfl⟩
  case round =>
    obtain ⟨k, hk, rfl, rfl, rfl, rfl⟩ := hrel
    obtain rfl | rfl | rfl : k = 0 ∨ k = 1 ∨ k = 2 := by omega
    · have q0 : ¬ ((xs.length : Int) < 0) := by omega
      rw [if_pos rfl]
      go_wp2_with fail
      go_roundg 1
      case measure => omega
      case rel => exact ⟨1, by omega, rfl, rfl, by go_num, rfl⟩
    · have q0 : ¬ ((xs.length : Int) + (ys.length : Int) < 0) := by omega
      rw [if_neg (by omega), if_pos rfl]
      go_wp2_with fail
      go_roundg 0
      case measure => omega
      case rel => exact ⟨2, by omega, rfl, rfl, by go_num, rfl⟩
    · rw [if_neg (by omega), if_neg (by omega)]
      have hg := grow_any (xs.length + ys.length) w (by omega)
      rw [Int.natCast_add] at hg
      have Hg := Lib.hid hg
      clear hg
      go_wp2_with fail
      refine Hg.out.mono ?_
      rintro e w1 ⟨v1, rfl, ho1, hb1⟩
      obtain ⟨a0, c0, rfl⟩ := ho1.shape
      have Ho1 := Lib.hid ho1; have Hb1 := Lib.hid hb1
      clear ho1 hb1 Hg
      go_wp2_with fail
      go_loopg [6, 27] 2 (fun gk vo i wr => ∃ (k : Nat) (n : Nat) (f : Nat → Spn), k ≤ 2 ∧ gk = 2 - k ∧ i = .int .i64 k ∧ n = (if k = 0 then 0 else if k = 1 then xs.length else xs.length + ys.length) ∧ OutR wr w.heap.size vo n f ∧ spL n f = (if k = 0 then [] else if k = 1 then xs else xs ++ ys) ∧ Below w.heap.size w wr)
      case atStart => exact ⟨0, 0, _, by omega, rfl, rfl, rfl, Ho1.out, rfl, Hb1.out⟩
      case round =>
        clear Ho1 Hb1
        obtain ⟨k, n, f, hk, rfl, rfl, hn, hout, hsp, hbw⟩ := hrel
        obtain ⟨wo, rfl⟩ : ∃ y, y = wr := ⟨_, rfl⟩
        obtain ⟨ao, co, rfl⟩ := hout.shape
        have hS2 := (hbw.block S hSl).trans HS.out
        have d3 : wo.cell? ⟨S, 0, none⟩ = some (.slice a1 xs.length c1) := by rw [cell_of_row _ _ _ _ _ _ hS2]; rfl
        have d4 : wo.cell? ⟨S, 1, none⟩ = some (.slice a2 ys.length c2) := by rw [cell_of_row _ _ _ _ _ _ hS2]; rfl
        have hSl2 := lt_of_block hS2
        have sbw := hbw.size
        have Hout := Lib.hid hout; have Hbw := Lib.hid hbw; have Hsp := Lib.hid hsp; have Hn := Lib.hid hn
        have Hx := Lib.hid (Ha.out.below hbw); have Hy := Lib.hid (Hb.out.below hbw)
        clear hout hbw hsp hS2 hn
        obtain rfl | rfl | rfl : k = 0 ∨ k = 1 ∨ k = 2 := by omega
        · have hn0 : n = 0 := Hn.out
          subst hn0
          go_wp2_with (at_builtin; refine wpList_append_spans rfl (.tmp 31) (.tmp 32) rfl w.heap.size _ 0 f rfl Hout.out _ xs rfl Hx.out (by omega) sbw ?_; intro v9 w9 f9 ho9 hs9 hb9; have Ho9 := Lib.hid ho9; have Hs9 := Lib.hid hs9; have Hb9 := Lib.hid hb9; clear ho9 hs9 hb9)
          go_roundg 1
          case measure => omega
          case rel => exact ⟨1, _, _, by omega, rfl, by go_num, by simp, Ho9.out, by rw [Hs9.out]; simp [spL], Hbw.out.trans Hb9.out⟩
        · have hn0 : n = xs.length := Hn.out
          subst hn0
          go_wp2_with (at_builtin; refine wpList_append_spans rfl (.tmp 31) (.tmp 32) rfl w.heap.size _ xs.length f rfl Hout.out _ ys rfl Hy.out (by omega) sbw ?_; intro v9 w9 f9 ho9 hs9 hb9; have Ho9 := Lib.hid ho9; have Hs9 := Lib.hid hs9; have Hb9 := Lib.hid hb9; clear ho9 hs9 hb9)
          go_roundg 0
          case measure => omega
          case rel => exact ⟨2, _, _, by omega, rfl, by go_num, by simp, Ho9.out, by rw [Hs9.out, Hsp.out]; simp, Hbw.out.trans Hb9.out⟩
        · go_wp2_with fail
          go_ret
          exact ⟨_, f, n, rfl, Hn.out, Hout.out, Hsp.out, Hbw.out⟩
end Go.Proofs.YtheemhelioendaaGreatDoor
