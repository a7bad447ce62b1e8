/- The walk of FamilyLeasts. -/
import Derived.Test.YtmlnfbageoabnaaFamIn
import Derived.Test.YtmlnfbageoabnaaFamK
import Derived.BigQuiet
namespace Go.Proofs.Ytmlnfbageoabnaa
open Go.RowKit
set_option linter.unusedVariables false

/-! ### Words and sets -/
theorem smN_at (y : Nat) (j : Nat) : smN y (j : Int) = y.testBit j := by unfold smN; simp
theorem smN_neg (y : Nat) {u : Int} (h : ¬ 0 ≤ u) : smN y u = false := by unfold smN; rw [decide_eq_false h]; rfl
theorem sub_smN {y x : Nat} : Sub (smN y) (smN x) ↔ ∀ j, y.testBit j = true → x.testBit j = true := by
  constructor
  · intro h j hj
    have := h (j : Int) (by rw [smN_at]; exact hj)
    rwa [smN_at] at this
  · intro h u hu
    by_cases h0 : 0 ≤ u
    · obtain ⟨j, rfl⟩ : ∃ j : Nat, u = j := ⟨u.toNat, by omega⟩
      rw [smN_at] at hu ⊢
      exact h j hu
    · rw [smN_neg y h0] at hu; cases hu
theorem smN_inj {y x : Nat} (h : smN y = smN x) : y = x := Nat.eq_of_testBit_eq fun j => by
  have := congrFun h (j : Int)
  rwa [smN_at, smN_at] at this
theorem bits_smN {V : Nat} (hV : V ≤ 24) {y : Nat} (hy : y < 2 ^ V) : bitsFrom V 0 (y : Int) = smN y := by
  have hp : 2 ^ V ≤ 2 ^ 24 := Nat.pow_le_pow_right (by decide) hV
  funext u
  by_cases h0 : 0 ≤ u
  · obtain ⟨j, rfl⟩ : ∃ j : Nat, u = j := ⟨u.toNat, by omega⟩
    by_cases hj : j < V
    · rw [bitsFrom_at _ _ _ _ h0 (by omega), smN_at, bitAt_nat y (by omega) j (by omega)]
    · rw [smN_at, Nat.testBit_lt_two_pow (Nat.lt_of_lt_of_le hy (Nat.pow_le_pow_right (by decide) (by omega)))]
      unfold bitsFrom; rw [decide_eq_false (show ¬ (j : Int) < V by omega)]; simp
  · rw [smN_neg y h0, bitsFrom_below _ _ _ _ (by omega)]
/-- The number of a set of the first m things. -/
def numS (s : St) : Nat → Nat
  | 0 => 0
  | m + 1 => numS s m ||| (if s (m : Int) = true then 2 ^ m else 0)
theorem numS_bit (s : St) : ∀ (m j : Nat), (numS s m).testBit j = (decide (j < m) && s (j : Int))
  | 0, j => by simp [numS]
  | m + 1, j => by
    rw [numS, Nat.testBit_or, numS_bit s m j]
    by_cases e : j = m
    · subst e
      cases h : s (j : Int) <;> simp [Nat.testBit_two_pow_self]
    · have h2 : (if s (m : Int) = true then 2 ^ m else 0).testBit j = false := by
        split
        · rw [Nat.testBit_two_pow]; simp; omega
        · simp
      rw [h2, Bool.or_false]
      by_cases h : j < m
      · rw [decide_eq_true h, decide_eq_true (show j < m + 1 by omega)]
      · rw [decide_eq_false h, decide_eq_false (show ¬ j < m + 1 by omega)]
theorem smN_of {s : St} (h : ∀ u, s u = true → 0 ≤ u ∧ u < 24) : smN (numS s 24) = s := by
  funext u
  by_cases h0 : 0 ≤ u
  · obtain ⟨j, rfl⟩ : ∃ j : Nat, u = j := ⟨u.toNat, by omega⟩
    rw [smN_at, numS_bit]
    by_cases hj : j < 24
    · rw [decide_eq_true hj]; simp
    · rw [decide_eq_false hj]
      cases e : s (j : Int)
      · rfl
      · have := (h _ e).2; omega
  · rw [smN_neg _ h0]
    cases e : s u
    · rfl
    · exact absurd (h _ e).1 h0

/-- What the law asks of the two lists. -/
structure LsFacts (V : Nat) (c : Cells) (f : Int) (ya yb : List Nat) : Prop where
  some : ∀ a ∈ ya, (yb.any fun b => bnot b a) = true
  apart : ∀ (i k : Nat) (hi : i < yb.length) (hk : k < yb.length), i ≠ k → bnot yb[i] yb[k] = false
  isin : ∀ b ∈ yb, Z c f (bitsFrom V 0 (b : Int)) ∧ (b : Int) / 2 ^ (V : Int).toNat = 0
theorem ls_facts {V : Nat} (hV : V ≤ 24) {c : Cells} {f : Int} {F : Fam} {ya yb : List Nat} (hF : Small F) (hz : ∀ s, Z c f s ↔ F s) (ha : ∀ y, y ∈ ya ↔ F (smN y)) (hb : ∀ y, y ∈ yb ↔ leastP F (smN y)) (la : ∀ y ∈ ya, y < 2 ^ V) (lb : ∀ y ∈ yb, y < 2 ^ V) (sb : yb.Pairwise (· < ·)) : LsFacts V c f ya yb := by
  have hp : 2 ^ V ≤ 2 ^ 24 := Nat.pow_le_pow_right (by decide) hV
  refine ⟨fun a haa => ?_, fun i k hi hk hne => ?_, fun b hbb => ⟨?_, ?_⟩⟩
  · obtain ⟨t, ht, hs⟩ := least_ex hF ((ha a).1 haa)
    have e := smN_of (hF t ht.1)
    rw [← e] at ht hs
    have hm := (hb _).2 ht
    refine List.any_eq_true.2 ⟨_, hm, (bnot_iff (by have := lb _ hm; omega) (by have := la _ haa; omega)).2 (sub_smN.1 hs)⟩
  · have h1 := lb _ (List.getElem_mem hi)
    have h2 := lb _ (List.getElem_mem hk)
    cases e : bnot yb[i] yb[k]
    · rfl
    · have h3 := sub_smN.2 ((bnot_iff (by omega) (by omega)).1 e)
      have h4 := (hb _).1 (List.getElem_mem hi)
      have h5 := (hb _).1 (List.getElem_mem hk)
      have h6 := smN_inj (h5.2 _ h4.1 h3)
      rw [List.pairwise_iff_getElem] at sb
      rcases Nat.lt_or_gt_of_ne hne with h7 | h7
      · have := sb i k hi hk h7; omega
      · have := sb k i hk hi h7; omega
  · rw [bits_smN hV (lb b hbb)]; exact (hz _).2 ((hb b).1 hbb).1
  · have h1 := lb b hbb
    have : ((2 : Int) ^ (V : Int).toNat) = ((2 ^ V : Nat) : Int) := by rw [Int.toNat_natCast]; simp
    rw [this]
    exact Int.ediv_eq_zero_of_lt (by omega) (by omega)

set_option maxRecDepth 100000 in
set_option maxHeartbeats 40000000 in
theorem leasts_any (vars : Int) (vl : Value) (l : List Stp) (w : World) (hst : IsSteps w vl l) :
    Calls Try.prog 9 #[.int .i64 vars, vl] w fun e w' => e = .returned (.bool true) ∧ Below w.heap.size w w' := by
  by_cases hno : vars < 0 ∨ 6 < vars ∨ 20 < l.length
  · have Hn := Lib.hid (store_no vars vl l w hst hno)
    clear hno hst
    go_enter Try.func9, Try.ntmps9
    go_wp2_with fail
    refine Hn.out.mono ?_
    rintro e w1 ⟨rfl, rfl⟩
    go_wp2_with fail
    go_ret
    exact ⟨rfl, Below.refl _ _⟩
  obtain ⟨V, rfl⟩ : ∃ V : Nat, vars = V := ⟨vars.toNat, by omega⟩
  have hV : V ≤ 6 := by omega
  have h3 : l.length ≤ 20 := by omega
  have Hsp := Lib.hid (store_ok V vl l w hst hV h3)
  clear hno hst
  go_enter Try.func9, Try.ntmps9
  go_wp2_with fail
  refine Hsp.out.mono ?_
  rintro e w2 ⟨s, va, c0, out, rfl, so⟩
  obtain ⟨w1, hfs, hb1⟩ := so.st
  have fn := so.len
  have hpos : out.length - 1 < out.length := by omega
  obtain ⟨g, cap, rfl, hrow⟩ := owns_at hfs.own (by omega)
  have hcell := hrow _ hpos
  have hf := so.f.has _ (List.getElem_mem hpos)
  generalize out[out.length - 1] = f at hcell hf
  have hz0 := so.f.zok; have hcl := so.cl; have hlw := so.low
  have hnew : ∀ k, s.b.mem k → w.heap.size ≤ k := so.new
  have hbase := hb1.size
  have Hb1 := Lib.hid hb1; have Hfs := Lib.hid hfs; have Hf := Lib.hid hf; have Hz0 := Lib.hid hz0; have Hcl := Lib.hid hcl; have Hlw := Lib.hid hlw; have Hnew := Lib.hid hnew; have Hcell := Lib.hid hcell
  clear hb1 hfs hf hz0 hcl hlw hnew hcell hrow so hbase
  go_wp2_with fail
  refine (sets_any w2).mono ?_
  rintro e w3 ⟨rfl, hb3⟩
  have hfs3 := Hfs.out.grow hb3
  have hcell3 : w3.cell? ⟨g, out.length - 1, none⟩ = some (.int .i64 f) := (hb3.cell (World.block_lt_of_cell? _ _ Hcell.out)).trans Hcell.out
  rw [show out.length - 1 = l.length + 1 by omega] at hcell3
  have hidx : wrap64 ((out.length : Int) - 1) = ((out.length - 1 : Nat) : Int) := by rw [IntWalk.wrap64_in _ ⟨by omega, by omega⟩]; omega
  have hr1 := room_l (V := V) hV Hz0.out (by have := Hcl.out; have := Hlw.out; omega) f
  have q1 := Least_any (V := V) (L := (V : Int) - 3) (by omega) (by omega) f w3 c0 hfs3.sp Hz0.out Hf.out hr1
  have Q1 := Lib.hid q1; have Hfs3 := Lib.hid hfs3; have Hb3 := Lib.hid hb3
  clear q1 hfs3 hb3 hr1 Hfs Hcell
  go_wp2_with fail
  refine Q1.out.mono ?_
  rintro e w4 ⟨c1, x, rfl, hs4, ho4, k1⟩
  have z1 := k1.sz hV Hz0.out
  have hr2 := room_l (V := V) (c := c1) hV k1.zok (by have := Hcl.out; have := Hlw.out; have := z1.cnt; have := z1.ext.len; omega) x
  have q2 := Least_any (V := V) (L := (V : Int) - 3) (by omega) (by omega) x w4 c1 hs4 k1.zok k1.has hr2
  have Q2 := Lib.hid q2; have K1 := Lib.hid k1; have Z1 := Lib.hid z1; have Hf4 := Lib.hid (Hfs3.out.step ho4 hs4)
  clear q2 k1 z1 hr2 hs4 ho4 hcell3 Q1
  go_wp2_with fail
  refine Q2.out.mono ?_
  rintro e w5 ⟨c2, y, rfl, hs5, ho5, k2⟩
  have hxy : y = x := canonZ_eq k2.zok.ok k2.zok.red k2.has (k2.ext.has K1.out.has) (fun s => by
    rw [k2.z, Z_ext K1.out.zok.ok k2.zok.ok k2.ext x K1.out.has, least_congr K1.out.z, least_twice, K1.out.z])
  subst hxy
  have hF := Z_small (V := (V : Int)) (by omega) Hz0.out f
  have hzf : ∀ s, Z c2 f s ↔ Z c0 f s := fun s => (Z_ext K1.out.zok.ok k2.zok.ok k2.ext f (K1.out.ext.has Hf.out) s).trans (Z_ext Hz0.out.ok K1.out.zok.ok K1.out.ext f Hf.out s)
  have hzy : ∀ s, Z c2 y s ↔ leastP (Z c0 f) s := fun s => (Z_ext K1.out.zok.ok k2.zok.ok k2.ext y K1.out.has s).trans (K1.out.z s)
  have hff : hasM c2 f = true := k2.ext.has (K1.out.ext.has Hf.out)
  have hp200 : ((2 ^ (V : Int).toNat : Nat) : Int) ≤ 200 := by
    have : 2 ^ V ≤ 2 ^ 6 := Nat.pow_le_pow_right (by decide) hV
    rw [Int.toNat_natCast]; omega
  have q3 := FList_any (V := V) (by omega) (by omega) f 200 w5 s c2 hs5 k2.zok hff hp200
  have Hf5 := Lib.hid (Hf4.out.step ho5 hs5)
  have Q3 := Lib.hid q3; have K2 := Lib.hid k2; have HF := Lib.hid hF; have Hzf := Lib.hid hzf; have Hzy := Lib.hid hzy; have Hff := Lib.hid hff; have Hp200 := Lib.hid hp200
  clear q3 k2 hF hzf hzy hff hp200 hs5 ho5 Q2 Hf4
  go_wp2_with fail
  refine Q3.out.mono ?_
  rintro e w6 ⟨vA, ya, rfl, hua, hsa, hma, hla, hb6⟩
  have Hf6 := Lib.hid (Hf5.out.grow hb6)
  have q4 := FList_any (V := V) (by omega) (by omega) y 200 w6 s c2 Hf6.out.sp K2.out.zok K2.out.has Hp200.out
  have Q4 := Lib.hid q4; have Hua := Lib.hid hua; have Hma := Lib.hid hma; have Hla := Lib.hid hla
  clear q4 hua hma hla hsa hb6 Q3 Hf5
  go_wp2_with fail
  refine Q4.out.mono ?_
  rintro e w7 ⟨vB, yb, rfl, hub, hsb, hmb, hlb, hb7⟩
  have Hf7 := Lib.hid (Hf6.out.grow hb7)
  have e7 : Below w.heap.size w w7 := Hb1.out.trans (Hf7.out.only.below Hb1.out.size (fun k hk => Hnew.out k hk))
  have hfa : LsFacts V c2 f ya yb := ls_facts (V := V) (by omega) HF.out Hzf.out (fun z => (Hma.out z).trans (Hzf.out _)) (fun z => (hmb z).trans (Hzy.out _)) (fun z hz => by have := Hla.out z hz; rwa [Int.toNat_natCast] at this) (fun z hz => by have := hlb z hz; rwa [Int.toNat_natCast] at this) hsb
  have hua7 := Hua.out.below hb7
  obtain ⟨aA, cA, rfl, hA1, hA2⟩ := hua7.shape
  obtain ⟨aB, cB, rfl, hB1, hB2⟩ := hub.shape
  have hyy : (y != y) = false := by simp
  have hs7 := Hf7.out.sp
  have Hs7 := Lib.hid hs7; have E7 := Lib.hid e7; have Hfa := Lib.hid hfa; have Hua7 := Lib.hid hua7; have Hub := Lib.hid hub
  clear hs7 e7 hfa hua7 hub hsb hmb hlb hb7 Q4 Hf6 Hf7 Hua Hma Hla Hzy Hzf HF Hp200 Hb1 Hnew Hb3 Hfs3 K1 Z1 Hcl Hlw Hz0 Hf fn hidx hpos
  go_wp2_with fail
  clear hyy
  go_loopg [17] ya.length (fun gk i wr => ∃ k : Nat, k ≤ ya.length ∧ gk = ya.length - k ∧ i = .int .i64 k ∧ Below w7.heap.size w7 wr)
  case atStart => exact ⟨0, Nat.zero_le _, rfl, rfl, Below.refl _ _⟩
  case round =>
    obtain ⟨k, hk, rfl, rfl, hbw⟩ := hrel
    obtain ⟨wo, hwo⟩ : ∃ wo : World, wo = wr := ⟨_, rfl⟩
    subst hwo
    have Hbw := Lib.hid hbw; clear hbw
    by_cases hlt : k < ya.length
    · obtain ⟨bA, rfl, lA, gA0⟩ := (Hua7.out.below Hbw.out).addr hlt
      have gA := gA0 k hlt
      clear gA0
      have hsome := Hfa.out.some _ (List.getElem_mem hlt)
      generalize ya[k] = x0 at gA hsome
      have GA := Lib.hid gA; have Hsome := Lib.hid hsome; clear gA hsome
      have iA : (k : Int) < (ya.length : Int) := by omega
      go_wp2_with fail
      go_loopg [18, 19] yb.length (fun gk sm i wx => ∃ j : Nat, j ≤ yb.length ∧ gk = yb.length - j ∧ sm = .bool ((yb.take j).any fun b => bnot b x0) ∧ i = .int .i64 j ∧ Below wo.heap.size wo wx)
      case atStart => exact ⟨0, Nat.zero_le _, rfl, by simp, rfl, Below.refl _ _⟩
      case round =>
        obtain ⟨j, hj, rfl, rfl, rfl, hbx⟩ := hrel
        have Hbx := Lib.hid hbx; clear hbx
        by_cases hjl : j < yb.length
        · obtain ⟨bB, rfl, lB, gB0⟩ := (Hub.out.below (Hbw.out.trans (Hbx.out.mono Hbw.out.size))).addr hjl
          have gB := gB0 j hjl
          clear gB0
          have gA := (Hbx.out.cell (p := ⟨bA, k, none⟩) lA).trans GA.out
          have htk : ((yb.take (j + 1)).any fun b => bnot b x0) = (((yb.take j).any fun b => bnot b x0) || bnot yb[j] x0) := by
            rw [List.take_succ_eq_append_getElem hjl, List.any_append]; simp
          obtain ⟨y0, hy0⟩ : ∃ y0, y0 = yb[j] := ⟨_, rfl⟩
          rw [← hy0] at gB htk
          clear hy0
          have Htk := Lib.hid htk; clear htk
          have iB : (j : Int) < (yb.length : Int) := by omega
          cases hq : (yb.take j).any fun b => bnot b x0
          · rw [hq] at Htk
            clear hq
            cases hbn : bnot y0 x0
            · have hbv : (bits .andNot .u64 (y0 : Int) (x0 : Int) == 0) = false := hbn
              rw [hbn] at Htk
              clear hbn
              go_wp2_with fail
              go_quiet (fail)
              clear hbv gA gB
              go_wp2_with fail
              go_roundg (yb.length - (j + 1))
              case measure => omega
              case rel => exact ⟨j + 1, by omega, rfl, by rw [Htk.out]; rfl, by go_num, below_drewN Hbx.out _⟩
            · have hbv : (bits .andNot .u64 (y0 : Int) (x0 : Int) == 0) = true := hbn
              rw [hbn] at Htk
              clear hbn
              go_wp2_with fail
              go_quiet (fail)
              clear hbv gA gB
              go_wp2_with fail
              go_roundg (yb.length - (j + 1))
              case measure => omega
              case rel => exact ⟨j + 1, by omega, rfl, by rw [Htk.out]; rfl, by go_num, below_drewN Hbx.out _⟩
          · rw [hq] at Htk
            clear hq
            rw [Bool.true_or] at Htk
            go_wp2_with fail
            go_quiet (fail)
            clear gA gB
            go_wp2_with fail
            go_roundg (yb.length - (j + 1))
            case measure => omega
            case rel => exact ⟨j + 1, by omega, rfl, by rw [Htk.out], by go_num, below_drewN Hbx.out _⟩
        · obtain rfl : j = yb.length := by omega
          rw [List.take_length, Hsome.out]
          go_wp2_with fail
          go_roundg (ya.length - (k + 1))
          case measure => omega
          case rel => exact ⟨k + 1, by omega, rfl, by go_num, Hbw.out.trans (Hbx.out.mono Hbw.out.size)⟩
    · obtain rfl : k = ya.length := by omega
      go_wp2_with fail
      go_loopg [20] yb.length (fun gk i wx => ∃ j : Nat, j ≤ yb.length ∧ gk = yb.length - j ∧ i = .int .i64 j ∧ Below w7.heap.size w7 wx)
      case atStart => exact ⟨0, Nat.zero_le _, rfl, rfl, Hbw.out⟩
      case round =>
        obtain ⟨i, hi, rfl, rfl, hbx⟩ := hrel
        obtain ⟨wq, hwq⟩ : ∃ wq : World, wq = wr := ⟨_, rfl⟩
        subst hwq
        have Hbx := Lib.hid hbx; clear hbx
        by_cases hil : i < yb.length
        · obtain ⟨bB, rfl, lB, gall⟩ := (Hub.out.below Hbx.out).addr hil
          have gB := gall i hil
          have hap := fun j (hj : j < yb.length) (hne : i ≠ j) => Hfa.out.apart i j hil hj hne
          obtain ⟨hin, hdv⟩ := Hfa.out.isin _ (List.getElem_mem hil)
          obtain ⟨b0, hb0⟩ : ∃ b0, b0 = yb[i] := ⟨_, rfl⟩
          rw [← hb0] at gB hin hdv
          have hap2 : ∀ j (hj : j < yb.length), i ≠ j → bnot b0 yb[j] = false := fun j hj hne => by rw [hb0]; exact hap j hj hne
          have Hap := Lib.hid hap2; have Hin := Lib.hid hin; have Hdv := Lib.hid hdv; have GB := Lib.hid gB; have Gall := Lib.hid gall
          clear hap hap2 hin hdv gB gall hb0
          have iB : (i : Int) < (yb.length : Int) := by omega
          go_wp2_with fail
          go_loopg [21] yb.length (fun gk m wx => ∃ j : Nat, j ≤ yb.length ∧ gk = yb.length - j ∧ m = .int .i64 j ∧ Below wq.heap.size wq wx)
          case atStart => exact ⟨0, Nat.zero_le _, rfl, rfl, Below.refl _ _⟩
          case round =>
            obtain ⟨j, hj, rfl, rfl, hby⟩ := hrel
            have gB := (hby.cell (p := ⟨bB, i, none⟩) lB).trans GB.out
            by_cases hjl : j < yb.length
            · have gJ := (hby.cell (p := ⟨bB, j, none⟩) lB).trans (Gall.out j hjl)
              have hap := Hap.out j hjl
              generalize yb[j] = y0 at gJ hap
              have iJ : (j : Int) < (yb.length : Int) := by omega
              have Hby := Lib.hid hby; clear hby
              by_cases hne : i = j
              · have n1 : ((i : Int) != (j : Int)) = false := by simp [hne]
                have n2 : (i != j) = false := by simp [hne]
                clear hap hne
                go_wp2_with fail
                go_quiet (fail)
                clear n1 n2 gB gJ
                go_wp2_with fail
                go_roundg (yb.length - (j + 1))
                case measure => omega
                case rel => exact ⟨j + 1, by omega, rfl, by go_num, below_drewN Hby.out _⟩
              · have hbn := hap hne
                have n1 : ((i : Int) != (j : Int)) = true := by simp; omega
                have n2 : (i != j) = true := by simp [hne]
                have hbv : (bits .andNot .u64 (b0 : Int) (y0 : Int) == 0) = false := hbn
                clear hap hne hbn
                go_wp2_with fail
                go_quiet (fail)
                clear n1 n2 gB gJ hbv
                go_wp2_with fail
                go_roundg (yb.length - (j + 1))
                case measure => omega
                case rel => exact ⟨j + 1, by omega, rfl, by go_num, below_drewN Hby.out _⟩
            · obtain rfl : j = yb.length := by omega
              have hsy := Hs7.out.below (Hbx.out.trans (hby.mono Hbx.out.size))
              have q := FIn_any (V := V) (by omega) (by omega) f (b0 : Int) _ c2 hsy K2.out.zok Hff.out Hdv.out Hin.out
              have Q := Lib.hid q; have Hby := Lib.hid hby; clear q hby hsy
              go_wp2_with fail
              refine Q.out.mono ?_
              rintro e w9 ⟨rfl, hb9⟩
              have Hb9 := Lib.hid hb9; clear hb9 gB
              go_wp2_with fail
              go_roundg (yb.length - (i + 1))
              case measure => omega
              case rel => exact ⟨i + 1, by omega, rfl, by go_num, Hbx.out.trans ((Hby.out.trans (Hb9.out.mono Hby.out.size)).mono Hbx.out.size)⟩
        · obtain rfl : i = yb.length := by omega
          go_wp2_with fail
          go_ret
          exact ⟨rfl, E7.out.trans (Hbx.out.mono E7.out.size)⟩
end Go.Proofs.Ytmlnfbageoabnaa
