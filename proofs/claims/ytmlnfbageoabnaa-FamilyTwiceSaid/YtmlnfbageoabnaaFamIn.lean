/- Contract: (*family.Store).In, of a set that is there; the bits of words: and-not, single bits. -/
import Derived.Test.YtmlnfbageoabnaaFamS
namespace Go.Proofs.Ytmlnfbageoabnaa
open Go.RowKit
set_option linter.unusedVariables false

theorem bitAt_nat (y : Nat) (hy : y < 18446744073709551616) (j : Nat) (hj : j < 64) : bitAt (y : Int) (j : Int) = y.testBit j := by
  unfold bitAt
  have e1 : min ((j : Int).toNat) 64 = j := by rw [Int.toNat_natCast]; omega
  have e2 : (y : Int) / 2 ^ j = ((y / 2 ^ j : Nat) : Int) := by simp
  rw [e1, e2, show (1 : Int) = ((1 : Nat) : Int) by rfl, bits_and_u64_nat _ _ (Nat.lt_of_le_of_lt (Nat.div_le_self _ _) hy) (by decide)]
  have h3 : y / 2 ^ j &&& 1 = (y / 2 ^ j) % 2 := Nat.and_one_is_mod _
  have h5 : y.testBit j = decide (y / 2 ^ j % 2 = 1) := Nat.testBit_eq_decide_div_mod_eq
  rw [h3, h5]
  rcases Nat.mod_two_eq_zero_or_one (y / 2 ^ j) with h4 | h4 <;> rw [h4] <;> rfl
/-- y has nothing that x has not. -/
def bnot (y x : Nat) : Bool := bits .andNot .u64 (y : Int) (x : Int) == 0
theorem bnot_iff {y x : Nat} (hy : y < 16777216) (hx : x < 16777216) : bnot y x = true ↔ ∀ j, y.testBit j = true → x.testBit j = true := by
  have h1 : BitVec.ofInt 64 (y : Int) = BitVec.ofNat 64 y := BitVec.ofInt_natCast _ _
  have h2 : BitVec.ofInt 64 (x : Int) = BitVec.ofNat 64 x := BitVec.ofInt_natCast _ _
  have h3 : bits .andNot .u64 (y : Int) (x : Int) = IntKind.u64.wrap ((BitVec.ofInt 64 (y : Int) &&& ~~~ BitVec.ofInt 64 (x : Int)).toNat : Int) := rfl
  unfold bnot
  rw [h3, h1, h2]
  have h4 : (BitVec.ofNat 64 y &&& ~~~ BitVec.ofNat 64 x).toNat < 2 ^ 64 := BitVec.isLt _
  have h5 : IntKind.u64.wrap ((BitVec.ofNat 64 y &&& ~~~ BitVec.ofNat 64 x).toNat : Int) = ((BitVec.ofNat 64 y &&& ~~~ BitVec.ofNat 64 x).toNat : Int) := by rw [IntKind.wrap_u64]; omega
  rw [h5]
  have h6 : (((BitVec.ofNat 64 y &&& ~~~ BitVec.ofNat 64 x).toNat : Int) == 0) = true ↔ BitVec.ofNat 64 y &&& ~~~ BitVec.ofNat 64 x = 0#64 := by
    rw [beq_iff_eq, ← BitVec.toNat_inj]
    simp
  rw [h6]
  constructor
  · intro h j hj
    have hj64 : j < 64 := by
      apply Classical.byContradiction
      intro hn
      have : 2 ^ 24 ≤ 2 ^ j := Nat.pow_le_pow_right (by decide) (by omega)
      rw [Nat.testBit_lt_two_pow (show y < 2 ^ j by omega)] at hj
      cases hj
    have h7 := congrArg (fun b : BitVec 64 => b.getLsbD j) h
    simp only [BitVec.getLsbD_and, BitVec.getLsbD_not, BitVec.getLsbD_ofNat, Nat.zero_testBit, decide_eq_true hj64, hj, Bool.true_and, Bool.and_false] at h7
    cases e : x.testBit j
    · rw [e] at h7; cases h7
    · rfl
  · intro h
    apply BitVec.eq_of_getLsbD_eq
    intro j hj64
    simp only [BitVec.getLsbD_and, BitVec.getLsbD_not, BitVec.getLsbD_ofNat, Nat.zero_testBit, decide_eq_true hj64, Bool.true_and]
    cases e : y.testBit j
    · rfl
    · rw [h j e]; rfl

theorem in_end {V : Int} {c : Cells} (o : ZOk V c) {y x : Int} (ht : V ≤ topM c y) (hz : Z c y (bitsFrom V V x)) : y = 1 := by
  cases g : getM c y with
  | none => exact ((Z_end g _).1 hz).1
  | some n =>
    rw [top_node g] at ht
    obtain ⟨k, _, h1, _⟩ := getM_some g
    have := o.vlt k n h1
    omega
theorem in_step {V : Int} {c : Cells} {y x k : Int} (A : AtZ c y k (atZ c y k)) (hk : k < V) (hz : Z c y (bitsFrom V k x)) :
    (bitAt x k = true → Z c (atZ c y k).2 (bitsFrom V (k + 1) x)) ∧ (bitAt x k = false → Z c (atZ c y k).1 (bitsFrom V (k + 1) x)) := by
  constructor
  · intro hb
    refine (A.z2 _).2 ⟨bitsFrom_below _ _ _ _ (by omega), ?_⟩
    have : setV (bitsFrom V (k + 1) x) k true = bitsFrom V k x := by
      funext u
      by_cases e : u = k
      · subst e; rw [setV_at, bitsFrom_at _ _ _ _ (Int.le_refl _) hk, hb]
      · rw [setV_ne _ _ e]
        unfold bitsFrom
        by_cases h1 : k ≤ u
        · rw [decide_eq_true h1, decide_eq_true (show k + 1 ≤ u by omega)]
        · rw [decide_eq_false h1, decide_eq_false (show ¬ k + 1 ≤ u by omega)]
    rw [this]; exact hz
  · intro hb
    rw [← bitsFrom_no hb]
    refine (A.z1 _).2 ⟨?_, hz⟩
    rw [bitsFrom_at _ _ _ _ (Int.le_refl _) hk, hb]

set_option maxHeartbeats 4000000 in
theorem FIn_any {V : Int} (hV0 : 0 ≤ V) (hV : V ≤ 24) {s : Fb} (h x : Int) (w : World) (c : Cells) (hs : IsStore w s V c) (zo : ZOk V c) (hh : hasM c h = true) (hx : x / 2 ^ V.toNat = 0) (hz : Z c h (bitsFrom V 0 x)) :
    Calls Try.prog 63 #[.pointer (some ⟨s.ps, 0, none⟩), .int .i64 h, .int .u64 x] w fun e w' => e = .returned (.tuple #[.bool true, .nilIface]) ∧ Below w.heap.size w w' := by
  have c1 := hs.s1
  have c0 := hs.s0
  have hx0 : (x / 2 ^ V.toNat != 0) = false := by rw [hx]; rfl
  have hha := has_any h w s.b c hs.ar (hs.le hh)
  rw [hh] at hha
  have ht := (topM_le zo.ok h).1
  have Hha := Lib.hid hha; have Hs := Lib.hid hs; have Hzo := Lib.hid zo; have Hh := Lib.hid hh; have Hz := Lib.hid hz; have Ht := Lib.hid ht
  clear hha hs zo hh hx hz ht
  go_enter Try.func63, Try.ntmps63
  go_wp2_with fail
  refine Hha.out.mono ?_
  rintro e w1 ⟨rfl, rfl⟩
  go_wp2_with fail
  clear hx0
  go_loopg [1, 31] V.toNat (fun gk a i wr => ∃ k y : Int, 0 ≤ k ∧ k ≤ V ∧ gk = (V - k).toNat ∧ a = .int .i64 y ∧ i = .int .i64 k ∧ Below w.heap.size w wr ∧ hasM c y = true ∧ k ≤ topM c y ∧ Z c y (bitsFrom V k x))
  case atStart => exact ⟨0, h, Int.le_refl _, hV0, by rw [Int.sub_zero], rfl, rfl, Below.refl _ _, Hh.out, Ht.out, Hz.out⟩
  case round =>
    clear c1 c0 Hha
    obtain ⟨k, y, hk0, hkV, rfl, rfl, rfl, hb, hy, hty, hzy⟩ := hrel
    have hsr := Hs.out.below hb
    by_cases hlt : k < V
    · have A := atZ_spec Hzo.out.ok hy hty (by omega)
      have hst := in_step A hlt hzy
      have hq := fat_any y k wr s V c hsr (hsr.le hy)
      generalize atZ c y k = R at A hst hq
      obtain ⟨lo, hi⟩ := R
      have a1 := A.has1; have a2 := A.has2; have a3 := A.top1; have a4 := A.top2
      dsimp only at hst hq a1 a2 a3 a4
      have Hq := Lib.hid hq; have Hb := Lib.hid hb; have A1 := Lib.hid a1; have A2 := Lib.hid a2; have A3 := Lib.hid a3; have A4 := Lib.hid a4; have Hst := Lib.hid hst
      clear hq hb a1 a2 a3 a4 hst A hsr hy hty hzy
      by_cases hbit : bitAt x k = true
      · have hb2 : (bits .and .u64 (x / 2 ^ min k.toNat 64) 1 == 1) = true := hbit
        have hb3 : (bits .and .u64 (x / 2 ^ k.toNat) 1 == 1) = true := by rw [Nat.min_eq_left (by omega)] at hb2; exact hb2
        have hn := Hst.out.1 hbit
        have Hn := Lib.hid hn; clear hn hbit Hst
        go_wp2_with fail
        refine Hq.out.mono ?_
        rintro e w2 ⟨rfl, hb4⟩
        have Hb4 := Lib.hid hb4; clear hb4
        go_wp2_with fail
        go_roundg (V - (k + 1)).toNat
        case measure => omega
        case rel => exact ⟨k + 1, hi, by omega, by omega, rfl, rfl, rfl, Hb.out.trans (Hb4.out.mono Hb.out.size), A2.out, by have := A4.out; omega, Hn.out⟩
      · have hbf : bitAt x k = false := by simpa using hbit
        have hb2 : (bits .and .u64 (x / 2 ^ min k.toNat 64) 1 == 1) = false := hbf
        have hb3 : (bits .and .u64 (x / 2 ^ k.toNat) 1 == 1) = false := by rw [Nat.min_eq_left (by omega)] at hb2; exact hb2
        have hn := Hst.out.2 hbf
        have Hn := Lib.hid hn; clear hn hbit hbf Hst
        go_wp2_with fail
        refine Hq.out.mono ?_
        rintro e w2 ⟨rfl, hb4⟩
        have Hb4 := Lib.hid hb4; clear hb4
        go_wp2_with fail
        go_roundg (V - (k + 1)).toNat
        case measure => omega
        case rel => exact ⟨k + 1, lo, by omega, by omega, rfl, rfl, rfl, Hb.out.trans (Hb4.out.mono Hb.out.size), A1.out, by have := A3.out; omega, Hn.out⟩
    · obtain rfl : k = V := by omega
      obtain rfl : y = 1 := in_end Hzo.out hty hzy
      have Hb := Lib.hid hb
      clear hb hsr hy hty hzy
      go_wp2_with fail
      go_ret2
      exact ⟨rfl, Hb.out⟩
end Go.Proofs.Ytmlnfbageoabnaa
