/- Contracts: sameSets, sets, store. -/
import Derived.Test.YtmlnfbageoabnaaFamList
import Derived.Test.YtmlnfbageoabnaaFamF
namespace Go.Proofs.Ytmlnfbageoabnaa
open Go.RowKit
set_option linter.unusedVariables false

set_option maxHeartbeats 1000000 in
theorem sameSets_same (va vb : Value) (ys : List Nat) (w : World) (ha : IsU w va ys) (hb : IsU w vb ys) :
    Calls Try.prog 85 #[va, vb] w fun e w' => e = .returned (.bool true) ∧ Below w.heap.size w w' := by
  obtain ⟨a1, c1, rfl, hl1, hc1⟩ := ha.shape
  obtain ⟨a2, c2, rfl, hl2, hc2⟩ := hb.shape
  have hq : ((ys.length : Int) != (ys.length : Int)) = false := by simp
  have hlq : (ys.length != ys.length) = false := by simp
  have Ha := Lib.hid ha; have Hb := Lib.hid hb; clear ha hb
  go_enter Try.func85, Try.ntmps85
  go_wp2_with fail
  go_loopg [5] ys.length (fun gk i wr => ∃ k : Nat, k ≤ ys.length ∧ gk = ys.length - k ∧ i = .int .i64 k ∧ Below w.heap.size w wr)
  case atStart => exact ⟨0, Nat.zero_le _, rfl, rfl, Below.refl _ _⟩
  case round =>
    obtain ⟨k, hk, rfl, rfl, hbw⟩ := hrel
    have Hbw := Lib.hid hbw; clear hbw
    by_cases hlt : k < ys.length
    · obtain ⟨b1, rfl, lb1, g1⟩ := (Ha.out.below Hbw.out).addr hlt
      obtain ⟨b2, rfl, lb2, g2⟩ := (Hb.out.below Hbw.out).addr hlt
      have g1 := g1 k hlt
      have g2 := g2 k hlt
      obtain ⟨x, hx⟩ : ∃ x, x = ys[k] := ⟨_, rfl⟩
      rw [← hx] at g1 g2
      have i1 : (k : Int) < (ys.length : Int) := by omega
      have e0 : (x != x) = false := by simp
      clear hx
      go_wp2_with fail
      go_quiet (fail)
      go_wp2_with fail
      go_roundg (ys.length - (k + 1))
      case measure => omega
      case rel => exact ⟨k + 1, by omega, rfl, by go_num, below_drewN Hbw.out _⟩
    · obtain rfl : k = ys.length := by omega
      go_wp2_with fail
      go_ret
      exact ⟨rfl, Hbw.out⟩

theorem sorted_ext : ∀ (xs ys : List Nat), xs.Pairwise (· < ·) → ys.Pairwise (· < ·) → (∀ y, y ∈ xs ↔ y ∈ ys) → xs = ys
  | [], [], _, _, _ => rfl
  | [], y :: ys, _, _, h => absurd ((h y).2 (by simp)) (by simp)
  | x :: xs, [], _, _, h => absurd ((h x).1 (by simp)) (by simp)
  | x :: xs, y :: ys, hx, hy, h => by
    rw [List.pairwise_cons] at hx hy
    have hxy : x = y := by
      have h1 := (h x).1 (by simp)
      have h2 := (h y).2 (by simp)
      rcases List.mem_cons.1 h1 with e | h1
      · exact e
      · rcases List.mem_cons.1 h2 with e | h2
        · exact e.symm
        · have := hx.1 y h2; have := hy.1 x h1; omega
    subst hxy
    have : xs = ys := sorted_ext xs ys hx.2 hy.2 (fun z => by
      have hz := h z
      simp only [List.mem_cons] at hz
      constructor
      · intro hm
        rcases hz.1 (.inr hm) with e | hm'
        · subst e; have := hx.1 z hm; omega
        · exact hm'
      · intro hm
        rcases hz.2 (.inr hm) with e | hm'
        · subst e; have := hy.1 z hm; omega
        · exact hm')
    rw [this]

theorem small_set (m : Nat) (hm : m < 8) (hb : ∀ j, j < 3 → bitAt (m : Int) (j : Nat) = m.testBit j) (y : Nat) (hy : y < 8) : smN y = bitsFrom 3 0 (m : Int) ↔ y = m := by
  constructor
  · intro e
    refine Nat.eq_of_testBit_eq fun j => ?_
    by_cases hj : j < 3
    · have h := congrFun e (j : Int)
      rw [bitsFrom_at 3 0 m j (by omega) (by omega), hb j hj] at h
      rw [← h]; unfold smN; simp
    · have p : 8 ≤ 2 ^ j := by
        have := Nat.pow_le_pow_right (show 0 < 2 by decide) (show 3 ≤ j by omega)
        omega
      rw [Nat.testBit_lt_two_pow (show y < 2 ^ j by omega), Nat.testBit_lt_two_pow (show m < 2 ^ j by omega)]
  · rintro rfl
    funext u
    by_cases h0 : 0 ≤ u
    · obtain ⟨j, rfl⟩ : ∃ j : Nat, u = j := ⟨u.toNat, by omega⟩
      by_cases hj : j < 3
      · rw [bitsFrom_at 3 0 y j (by omega) (by omega), hb j hj]; unfold smN; simp
      · have p : 8 ≤ 2 ^ j := by
          have := Nat.pow_le_pow_right (show 0 < 2 by decide) (show 3 ≤ j by omega)
          omega
        unfold smN bitsFrom
        rw [decide_eq_false (show ¬ (j : Int) < 3 by omega), Int.toNat_natCast, Nat.testBit_lt_two_pow (show y < 2 ^ j by omega)]; simp
    · unfold smN bitsFrom; rw [decide_eq_false h0]; simp

theorem isU_row {w : World} {g e : Nat} {cur : Array Value} {fz : Nat × Nat} (xs : List Nat) (h : w.heap[g]? = some (.cells cur e fz)) (hc : cur.toList = xs.map (fun x : Nat => Value.int .u64 (x : Int))) {n c : Nat} (hn : n = xs.length) (hnc : n ≤ c) (hcm : c ≤ maxLen) : IsU w (.slice (some ⟨g, 0, none⟩) n c) xs := by
  subst hn
  refine ⟨_, g, c, rfl, fun _ => rfl, hnc, hcm, fun _ => (Array.getElem?_eq_some_iff.1 h).1, fun i hi => ?_⟩
  rw [cell_of_row w g i cur e fz h, ← Array.getElem?_toList, hc]
  simp [hi]

set_option maxHeartbeats 4000000 in
theorem sets_any (w : World) : Calls Try.prog 49 #[] w fun e w' => e = .returned (.bool true) ∧ Below w.heap.size w w' := by
  go_enter Try.func49, Try.ntmps49
  go_wp2_with fail
  refine (fnew_any 3 50 w (by decide) (by decide) (by decide) (by decide)).mono ?_
  rintro e w1 ⟨⟨s, rfl, hR, hs, hp, hm⟩, hb1⟩
  have zo : ZOk 3 (List.replicate 50 none) := ZOk.empty 3 50
  have hl0 : lows 3 (List.replicate 50 none) = 0 := by decide
  have hq := One_any (L := 3) (by decide) (by decide) (by decide) 5 w1 _ hs zo (by decide) (by rw [hl0]; decide)
  have Hq := Lib.hid hq; have Hm := Lib.hid hm; have Hb1 := Lib.hid hb1; have Hl0 := Lib.hid hl0
  clear hq hs hm hb1 hR hp zo hl0
  go_wp2_with fail
  refine Hq.out.mono ?_
  rintro e w2 ⟨c1, h1, rfl, hs2, ho2, ok1⟩
  have len1 : c1.length = 50 := ok1.ext.len.trans List.length_replicate
  have hc1 : lows 3 c1 ≤ 3 := by have := ok1.cnt; rw [Hl0.out] at this; exact this
  have hq2 := One_any (L := 3) (by decide) (by decide) (by decide) 2 w2 c1 hs2 ok1.zok (by decide) (by rw [len1]; have : hiB 3 3 = 0 := rfl; rw [this]; show lows 3 c1 + 3 + 0 < 50; omega)
  have Hq2 := Lib.hid hq2; have Ok1 := Lib.hid ok1; have Ho2 := Lib.hid ho2; have Len1 := Lib.hid len1; have Hc1 := Lib.hid hc1
  clear hq2 ok1 hs2 ho2 len1 hc1 Hq
  go_wp2_with fail
  refine Hq2.out.mono ?_
  rintro e w3 ⟨c2, h2, rfl, hs3, ho3, ok2⟩
  have len2 : c2.length = 50 := ok2.ext.len.trans Len1.out
  have hc2 : lows 3 c2 ≤ 6 := by have h1 := ok2.cnt; have h2 := Hc1.out; have h3 : (3 - 0 : Int).toNat = 3 := rfl; rw [h3] at h1; omega
  have t1 := topM_le ok2.zok.ok h1; have t2 := topM_le ok2.zok.ok h2
  have hco : Kd.or.cost ((3 : Int) - min (topM c2 h1) (topM c2 h2)).toNat ≤ 42 := Kd.or.cost_le (by omega)
  have hq3 := FOr_any (V := 3) (L := 3) (by decide) (by decide) h1 h2 w3 c2 hs3 ok2.zok (ok2.ext.has Ok1.out.has) ok2.has (by rw [len2]; have : hiB 3 3 = 0 := rfl; rw [this]; have := (Kd.or.cost_mono (show ((3 : Int) - min (topM c2 h1) (topM c2 h2)).toNat ≤ 3 by omega)); have h7 : Kd.or.cost 3 = 7 := rfl; omega)
  have hz3 : ∀ s, Kd.or.sem (Z c2 h1) (Z c2 h2) s ↔ (s = bitsFrom 3 0 (5 : Nat) ∨ s = bitsFrom 3 0 (2 : Nat)) := fun s => by
    simp only [Kd.sem]
    rw [Z_ext Ok1.out.zok.ok ok2.zok.ok ok2.ext h1 Ok1.out.has, Ok1.out.z, ok2.z]; rfl
  have Hq3 := Lib.hid hq3; have Hz3 := Lib.hid hz3; have Ho3 := Lib.hid ho3
  clear hq3 hz3 ho3 hs3 ok2 len2 hc2 t1 t2 hco Hq2
  go_wp2_with fail
  refine Hq3.out.mono ?_
  rintro e w4 ⟨c3, h3, rfl, hs4, ho4, ok3⟩
  have hq4 := FList_any (V := 3) (by decide) (by decide) h3 9 w4 s c3 hs4 ok3.zok ok3.has (by decide)
  have hz4 : ∀ y, y < 8 → (Z c3 h3 (smN y) ↔ y ∈ [2, 5]) := fun y hy => by
    rw [ok3.z, Hz3.out, small_set 5 (by decide) (by decide) y hy, small_set 2 (by decide) (by decide) y hy]
    simp; exact Or.comm
  have Hq4 := Lib.hid hq4; have Hz4 := Lib.hid hz4; have Ho4 := Lib.hid ho4
  clear hq4 hz4 ho4 hs4 ok3 Hq3
  go_wp2_with fail
  refine Hq4.out.mono ?_
  rintro e w5 ⟨v, ys, rfl, hu, hso, hmem, hlt, hb5⟩
  have hys : ys = [2, 5] := sorted_ext ys [2, 5] hso (by decide) (fun y => by
    by_cases hy : y < 8
    · rw [hmem]; exact Hz4.out y hy
    · constructor
      · intro h; have h8 : y < 8 := hlt y h; omega
      · intro h; simp at h; omega)
  subst hys
  obtain ⟨a5, c5, rfl, hn5, hm5⟩ := hu.shape
  have hbx : Below w5.heap.size w5 (w5.alloc (.cells #[.int .u64 2, .int .u64 5] 54)) := (Below.refl _ _).alloc (Nat.le_refl _) _
  have hq5 := sameSets_same _ (.slice (some ⟨w5.heap.size, 0, none⟩) 2 2) [2, 5] _ (hu.below hbx) (isU_row [2, 5] (heap_at rfl) rfl rfl (Nat.le_refl _) (by decide))
  have Hq5 := Lib.hid hq5; have Hb5 := Lib.hid hb5; have Hbx := Lib.hid hbx
  clear hq5 hb5 hbx hu hso hmem hlt hn5 hm5 Hq4
  go_wp2_with fail
  refine Hq5.out.mono ?_
  rintro e w6 ⟨rfl, hb6⟩
  have Hb6 := Lib.hid hb6; clear hb6 Hq5
  go_wp2_with fail
  go_ret
  have b4 : Below w.heap.size w w4 := (((Hb1.out.trans (Ho2.out.below Hb1.out.size Hm.out)).trans (Ho3.out.below (by have := Hb1.out.size; have := Ho2.out.size; omega) Hm.out))).trans (Ho4.out.below (by have := Hb1.out.size; have := Ho2.out.size; have := Ho3.out.size; omega) Hm.out)
  refine ⟨rfl, ((b4.trans (Hb5.out.mono b4.size)).trans (Hbx.out.mono ?_)).trans (Hb6.out.mono ?_)⟩
  all_goals (have := b4.size; have := Hb5.out.size; have := Hbx.out.size; omega)

set_option maxHeartbeats 1000000 in
theorem store_no (things : Int) (vl : Value) (l : List Stp) (w : World) (hst : IsSteps w vl l) (h : things < 0 ∨ 6 < things ∨ 20 < l.length) :
    Calls Try.prog 48 #[.int .i64 things, vl] w fun e w' => e = .returned (.tuple #[.pointer none, .slice none 0 0, .bool false]) ∧ w = w' := by
  obtain ⟨a, c, rfl, hl1, hl2⟩ := hst.shape
  clear hst
  by_cases h1 : things < 0
  · go_enter Try.func48, Try.ntmps48
    go_wp2_with fail
    go_ret3
    exact ⟨rfl, rfl⟩
  · have e1 : decide (things < 0) = false := by simpa using h1
    by_cases h2 : 6 < things
    · go_enter Try.func48, Try.ntmps48
      go_wp2_with fail
      go_ret3
      exact ⟨rfl, rfl⟩
    · have e2 : decide (6 < things) = false := by simpa using h2
      have h3 : 20 < l.length := by omega
      have h4 : (20 : Int) < (l.length : Int) := by omega
      go_enter Try.func48, Try.ntmps48
      go_wp2_with fail
      go_ret3
      exact ⟨rfl, rfl⟩

/-- What store leaves. -/
structure StoreOk (w w' : World) (s : Fb) (V : Nat) (va : Value) (c : Cells) (out : List Int) (n : Nat) : Prop where
  st : ∃ w1, ZSt w1 w' s V c va out ∧ Below w.heap.size w w1
  new : ∀ k, s.b.mem k → w.heap.size ≤ k
  ps : w.heap.size ≤ s.ps
  f : ZFOk V c out
  len : out.length = n + 2
  cl : c.length = 4000
  low : lows ((V : Int) - 3) c ≤ 42 * n
set_option maxHeartbeats 2000000 in
theorem store_ok (V : Nat) (vl : Value) (l : List Stp) (w : World) (hst : IsSteps w vl l) (h2 : V ≤ 6) (h3 : l.length ≤ 20) :
    Calls Try.prog 48 #[.int .i64 V, vl] w fun e w' => ∃ (s : Fb) (va : Value) (c : Cells) (out : List Int), e = .returned (.tuple #[.pointer (some ⟨s.ps, 0, none⟩), va, .bool true]) ∧ StoreOk w w' s V va c out l.length := by
  obtain ⟨a, c, rfl, hl1, hl2⟩ := hst.shape
  have e1 : decide ((V : Int) < 0) = false := by simp
  have e2 : decide (6 < (V : Int)) = false := by simp; omega
  have e3 : decide (20 < (l.length : Int)) = false := by simp; omega
  have hl0 : lows ((V : Int) - 3) (List.replicate 4000 none) = 0 := by unfold lows; rw [List.countP_replicate]; simp [isLow]
  have f : ZFOk V (List.replicate 4000 none) [0, 1] := ⟨ZOk.empty V 4000, fun h hh => by
    rcases List.mem_cons.1 hh with rfl | hh
    · exact hasM_zero _
    · rw [List.mem_singleton.1 hh]; exact hasM_one _, by simp⟩
  have Hst := Lib.hid hst; have Hf := Lib.hid f; have Hl0 := Lib.hid hl0
  clear hst f hl0
  go_enter Try.func48, Try.ntmps48
  go_wp2_with fail
  refine (fnew_any V 4000 w (by omega) (by omega) (by decide) (by decide)).mono ?_
  rintro e w1 ⟨⟨s, rfl, hR, hs, hp, hm⟩, hb1⟩
  have hfun := Families_any V h2 _ l w1 s _ hs Hf.out (fun w' ho => Hst.out.below (hb1.trans (ho.below hb1.size hm))) h3 (by rw [Hl0.out, List.length_replicate]; omega)
  have Hfun := Lib.hid hfun; have Hm := Lib.hid hm; have Hb1 := Lib.hid hb1; have Hp := Lib.hid hp
  clear hfun hm hb1 hs hR hp Hf
  go_wp2_with fail
  refine Hfun.out.mono ?_
  rintro e w2 ⟨va, c2, out, rfl, hz, hf, hl, hcl, hlow⟩
  have hso : StoreOk w w2 s V va c2 out l.length := ⟨⟨w1, hz, Hb1.out⟩, Hm.out, Hp.out, hf, hl, hcl.trans List.length_replicate, by rw [Hl0.out] at hlow; omega⟩
  have Hso := Lib.hid hso; clear hso hz hf hl hcl hlow
  go_wp2_with fail
  go_ret3
  exact ⟨s, va, c2, out, rfl, Hso.out⟩
end Go.Proofs.Ytmlnfbageoabnaa
