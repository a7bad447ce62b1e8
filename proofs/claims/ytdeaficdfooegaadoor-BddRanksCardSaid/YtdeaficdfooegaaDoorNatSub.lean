/- Contracts: math/bits.Sub32, (count.Nat).Sub. -/
import Derived.Test.YtdeaficdfooegaaDoorNatAdd
import Derived.Test.YtdeaficdfooegaaDoorNatCmp
namespace Go.Proofs.YtdeaficdfooegaaDoor
open Go.RowKit
set_option linter.unusedVariables false

theorem of_u32 (a : Nat) (ha : a < 4294967296) : (BitVec.ofInt 32 (a : Int)).toNat = a := by
  rw [BitVec.ofInt_natCast, BitVec.toNat_ofNat]; exact Nat.mod_eq_of_lt (by omega)
theorem and_u32 (a b : Nat) (ha : a < 4294967296) (hb : b < 4294967296) : bits .and .u32 (a : Int) (b : Int) = ((a &&& b : Nat) : Int) := by
  have hx : a &&& b < 2 ^ 32 := Nat.and_lt_two_pow _ (by omega)
  show IntKind.u32.wrap ((BitVec.ofInt 32 (a : Int) &&& BitVec.ofInt 32 (b : Int)).toNat : Int) = _
  rw [BitVec.toNat_and, of_u32 a ha, of_u32 b hb, IntKind.wrap_u32]
  omega
theorem or_u32 (a b : Nat) (ha : a < 4294967296) (hb : b < 4294967296) : bits .or .u32 (a : Int) (b : Int) = ((a ||| b : Nat) : Int) := by
  have hx : a ||| b < 2 ^ 32 := Nat.or_lt_two_pow (by omega) (by omega)
  show IntKind.u32.wrap ((BitVec.ofInt 32 (a : Int) ||| BitVec.ofInt 32 (b : Int)).toNat : Int) = _
  rw [BitVec.toNat_or, of_u32 a ha, of_u32 b hb, IntKind.wrap_u32]
  omega
theorem xor_u32 (a b : Nat) (ha : a < 4294967296) (hb : b < 4294967296) : bits .xor .u32 (a : Int) (b : Int) = ((a ^^^ b : Nat) : Int) := by
  have hx : a ^^^ b < 2 ^ 32 := Nat.xor_lt_two_pow (by omega) (by omega)
  show IntKind.u32.wrap ((BitVec.ofInt 32 (a : Int) ^^^ BitVec.ofInt 32 (b : Int)).toNat : Int) = _
  rw [BitVec.toNat_xor, of_u32 a ha, of_u32 b hb, IntKind.wrap_u32]
  omega
theorem top_u32 (a : Nat) (ha : a < 4294967296) : a.testBit 31 = decide (2147483648 ≤ a) := by
  rw [Nat.testBit_eq_decide_div_mod_eq]
  by_cases h : 2147483648 ≤ a
  · rw [decide_eq_true h]; simp; omega
  · rw [decide_eq_false h]; simp; omega
/-- What is taken over, by the top bits. -/
theorem borrow_top (x y c d : Nat) (hx : x < 4294967296) (hy : y < 4294967296) (hc : c ≤ 1) (hd : ((x : Int) - y - c) % 4294967296 = d) :
    bits .or .u32 (bits .and .u32 (bits .xor .u32 IntKind.u32.max x) y) (bits .and .u32 (bits .xor .u32 IntKind.u32.max (bits .xor .u32 x y)) ((x - y - c : Int) % 4294967296)) / 2147483648 = if x < y + c then 1 else 0 := by
  have hdl : d < 4294967296 := by omega
  have hM : IntKind.u32.max = ((4294967295 : Nat) : Int) := by decide
  have h1 : 4294967295 ^^^ x < 2 ^ 32 := Nat.xor_lt_two_pow (by decide) (by omega)
  have h2 : x ^^^ y < 2 ^ 32 := Nat.xor_lt_two_pow (by omega) (by omega)
  have h3 : 4294967295 ^^^ (x ^^^ y) < 2 ^ 32 := Nat.xor_lt_two_pow (by decide) h2
  have h4 : (4294967295 ^^^ x) &&& y < 2 ^ 32 := Nat.and_lt_two_pow _ (by omega)
  have h5 : (4294967295 ^^^ (x ^^^ y)) &&& d < 2 ^ 32 := Nat.and_lt_two_pow _ (by omega)
  have h6 : ((4294967295 ^^^ x) &&& y) ||| ((4294967295 ^^^ (x ^^^ y)) &&& d) < 2 ^ 32 := Nat.or_lt_two_pow h4 h5
  rw [hd, hM, xor_u32 _ _ (by decide) hx, and_u32 _ _ (by omega) hy, xor_u32 x y hx hy, xor_u32 _ _ (by decide) (by omega), and_u32 _ _ (by omega) hdl, or_u32 _ _ (by omega) (by omega)]
  have ht : (((4294967295 ^^^ x) &&& y) ||| ((4294967295 ^^^ (x ^^^ y)) &&& d)).testBit 31 = decide (x < y + c) := by
    have hb : (4294967295 : Nat).testBit 31 = true := by decide
    rw [Nat.testBit_or, Nat.testBit_and, Nat.testBit_and, Nat.testBit_xor, Nat.testBit_xor, Nat.testBit_xor, hb, top_u32 x hx, top_u32 y hy, top_u32 d hdl]
    by_cases a1 : 2147483648 ≤ x <;> by_cases a2 : 2147483648 ≤ y <;> by_cases a3 : 2147483648 ≤ d <;> simp only [a1, a2, a3, decide_true, decide_false, Bool.xor_true, Bool.xor_false, Bool.not_true, Bool.not_false, Bool.and_true, Bool.and_false, Bool.or_false, Bool.or_true] <;> symm <;> simp <;> omega
  rw [top_u32 _ (by omega)] at ht
  generalize ((4294967295 ^^^ x) &&& y) ||| ((4294967295 ^^^ (x ^^^ y)) &&& d) = z at h6 ht
  have ht2 : 2147483648 ≤ z ↔ x < y + c := by simpa using ht
  by_cases h : x < y + c
  · rw [if_pos h]; have := ht2.2 h; omega
  · rw [if_neg h]; have : ¬ 2147483648 ≤ z := fun h7 => h (ht2.1 h7); omega
theorem sub32_any (x y c : Nat) (w : World) (hx : x < B32) (hy : y < B32) (hc : c ≤ 1) :
    Calls Tryd.prog 45 #[.int .u32 x, .int .u32 y, .int .u32 c] w fun e w' => e = .returned (.tuple #[.int .u32 ((B32 + x - y - c) % B32 : Nat), .int .u32 ((if x < y + c then 1 else 0 : Nat) : Int)]) ∧ w = w' := by
  unfold B32 at *
  have hd : ((x : Int) - y - c) % 4294967296 = ((4294967296 + x - y - c) % 4294967296 : Nat) := by omega
  have hb := borrow_top x y c _ hx hy hc hd
  have hcast : (((if x < y + c then 1 else 0 : Nat)) : Int) = if x < y + c then 1 else 0 := by split <;> rfl
  rw [hcast, ← hd]
  rw [← hb]
  clear hd hb hcast
  go_enter Tryd.func45, Tryd.ntmps45
  go_wp2_with fail
  go_ret2
  exact ⟨rfl, rfl⟩

/-! ### Sub -/
theorem sub_digit {x y c : Nat} (hx : x < B32) (hy : y < B32) (hc : c ≤ 1) : (B32 + x - y - c) % B32 + y + c = x + B32 * (if x < y + c then 1 else 0) := by
  unfold B32 at *
  split <;> omega
theorem sub_step {xs ys outs : List Nat} {k c : Nat} (hl : outs.length = k) (hx : dig xs k < B32) (hy : dig ys k < B32) (hc : c ≤ 1) (inv : valL outs + valL (ys.take k) = valL (xs.take k) + B32 ^ k * c) :
    valL (outs ++ [(B32 + dig xs k - dig ys k - c) % B32]) + valL (ys.take (k + 1)) = valL (xs.take (k + 1)) + B32 ^ (k + 1) * (if dig xs k < dig ys k + c then 1 else 0) := by
  have h := sub_digit hx hy hc
  generalize (B32 + dig xs k - dig ys k - c) % B32 = r at h ⊢
  generalize (if dig xs k < dig ys k + c then 1 else 0) = c2 at h ⊢
  rw [take_dig, take_dig, valL_append, hl, valL, valL, Nat.mul_zero, Nat.add_zero, Nat.pow_succ]
  generalize B32 ^ k = P at inv ⊢
  have h2 : P * (r + dig ys k + c) = P * (dig xs k + B32 * c2) := by rw [h]
  rw [Nat.mul_add, Nat.mul_add, Nat.mul_add, ← Nat.mul_assoc] at h2
  omega
/-- Sub on its way. -/
structure SubI (W wr : World) (base : Nat) (v : Value) (k c : Nat) (outs xs ys : List Nat) : Prop where
  below : Below base W wr
  own : wr.ownsRow base 79 1 v outs.length (outs.map (fun x => Value.int .u32 (x : Nat)))
  len : outs.length = k
  lim : Limbs outs
  cl : c ≤ 1
  val : valL outs + valL (ys.take k) = valL (xs.take k) + B32 ^ k * c
theorem SubI.push {W wr w2 : World} {base : Nat} {v v' : Value} {k c : Nat} {outs xs ys : List Nat} (h : SubI W wr base v k c outs xs ys) (hx : Limbs xs) (hy : Limbs ys) (hbase : base ≤ wr.heap.size)
    (ho : w2.ownsRow base 79 1 v' (outs.length + 1) (outs.map (fun x => Value.int .u32 (x : Nat)) ++ [.int .u32 (((B32 + dig xs k - dig ys k - c) % B32 : Nat) : Int)])) (hg : (wr.alloc (.cells #[.int .u32 (((B32 + dig xs k - dig ys k - c) % B32 : Nat) : Int)] 79)).grownBy w2 v.ownBlock) :
    SubI W w2 base v' (k + 1) (if dig xs k < dig ys k + c then 1 else 0) (outs ++ [(B32 + dig xs k - dig ys k - c) % B32]) xs ys := by
  have hv : ∀ j, v.ownBlock = some j → base ≤ j := fun j hj => (h.own.lt j hj).1
  have hb : Below base (wr.alloc (.cells #[.int .u32 (((B32 + dig xs k - dig ys k - c) % B32 : Nat) : Int)] 79)) w2 := (Below.refl _ _).grown hg (by simp; omega) hv
  refine ⟨(h.below.alloc hbase _).trans hb, by simpa using ho, by simp [h.len], fun x hx' => ?_, by split <;> omega, sub_step h.len (dig_lt hx k) (dig_lt hy k) h.cl h.val⟩
  rcases List.mem_append.1 hx' with hx' | hx'
  · exact h.lim x hx'
  · rw [List.mem_singleton.1 hx']; exact Nat.mod_lt _ (by decide)
theorem sub_done {a b c n : Nat} {outs : List Nat} (hab : b ≤ a) (hl : outs.length = n) (hm : Limbs outs) (hc : c ≤ 1) (h : valL outs + b = a + B32 ^ n * c) : valL outs = a - b := by
  have h1 := valL_lt outs hm
  rw [hl] at h1
  have h2 : c = 0 ∨ c = 1 := by omega
  rcases h2 with rfl | rfl
  · omega
  · rw [Nat.mul_one] at h; omega

set_option maxRecDepth 100000 in
set_option maxHeartbeats 8000000 in
theorem Sub_any (a b : Nat) (va vb : Value) (w : World) (ha : IsNat w va a) (hb : IsNat w vb b) (hab : b ≤ a) (hmax : (limbsOf a).length ≤ 1000000) :
    Calls Tryd.prog 14 #[va, vb] w fun e w' => ∃ v, e = .returned (.tuple #[v, .nilIface]) ∧ IsNat w' v (a - b) ∧ Below w.heap.size w w' := by
  obtain ⟨i0, hi, hz0, hz1, hz2⟩ := info_parts infoU32
  have hbl : ∀ (o1 o2 o3 : Obj), Below w.heap.size w (((w.alloc o1).alloc o2).alloc o3) := fun o1 o2 o3 => (((Below.refl _ _).alloc (Nat.le_refl _) _).alloc (by simp) _).alloc (by simp only [alloc_size]; omega) _
  obtain ⟨aa, ca, rfl⟩ := ha.shape
  obtain ⟨ab, cb, rfl⟩ := hb.shape
  have hle2 : (limbsOf b).length ≤ (limbsOf a).length := by
    apply Classical.byContradiction
    intro hn
    have := limbs_short (a := a) (b := b) (by omega)
    omega
  have hcmp := fun w' (h1 : Below w.heap.size w w') => Cmp_any a b _ _ w' (ha.below h1) (hb.below h1)
  have hneg : decide (cmpN a b < 0) = false := by
    unfold cmpN
    rw [if_neg (by omega)]
    split <;> simp
  have hA := ha.limbs; have hB := hb.limbs
  clear ha hb
  have ea := val_limbs a; have eb := val_limbs b
  have Hcmp := Lib.hid hcmp; clear hcmp
  generalize limbsOf a = xs at hA ea hle2 hmax Hcmp ⊢
  generalize limbsOf b = ys at hB eb hle2 Hcmp ⊢
  obtain ⟨_, _, eA, hA1, hA2⟩ := hA.shape
  obtain ⟨_, _, eB, hB1, hB2⟩ := hB.shape
  cases eA; cases eB
  have hmk := make_u32 xs.length (by omega)
  have Ea := Lib.hid ea; have Eb := Lib.hid eb; have HA := Lib.hid hA; have HB := Lib.hid hB; have Hab := Lib.hid hab
  clear ea eb hA hB hab
  go_enter Tryd.func14, Tryd.ntmps14
  go_wp2_with fail
  refine (Hcmp.out _ (hbl _ _ _)).mono ?_
  rintro e w2 ⟨rfl, hb2⟩
  have hbw := (hbl (.cells #[.slice aa xs.length ca] 24) (.cells #[.slice ab ys.length cb] 24) (.cells #[.slice none 0 0] 24))
  have hsz : w.heap.size + 1 + 1 < w2.heap.size := by have := hb2.size; simp at this; omega
  have hsz0 : w.heap.size < w2.heap.size := by omega
  have hsz1 : w.heap.size + 1 < w2.heap.size := by omega
  have hba : w2.heap[w.heap.size]? = some (.cells #[.slice aa xs.length ca] 24 (0, 0)) := (hb2.block _ (by simp; omega)).trans (heap_up (heap_up (heap_at rfl)))
  have hbb : w2.heap[w.heap.size + 1]? = some (.cells #[.slice ab ys.length cb] 24 (0, 0)) := (hb2.block _ (by simp)).trans (heap_up (heap_at (by simp)))
  have hbr : w2.heap[w.heap.size + 1 + 1]? = some (.cells #[.slice none 0 0] 24 (0, 0)) := (hb2.block _ (by simp)).trans (heap_at (by simp))
  have hbl2 : Below w.heap.size w w2 := hbw.trans (hb2.mono hbw.size)
  have hHA := HA.out.below hbl2
  have hHB := HB.out.below hbl2
  have cA := cell_of_one hba; have cB := cell_of_one hbb
  have hown := World.ownsRow_made (base := w2.heap.size) (e := 79) (size := 1) w2 (madeCells #[.int .u32 0] xs.length) xs.length (Nat.le_refl _) (show xs.length ≤ maxLen by unfold maxLen; omega) (by rw [size_madeCells]; omega)
  have hst : SubI w2 (w2.alloc (.cells (madeCells #[.int .u32 0] xs.length) 79)) w2.heap.size (.slice (some ⟨w2.heap.size, 0, none⟩) 0 xs.length) 0 0 [] xs ys :=
    ⟨(Below.refl _ _).alloc (Nat.le_refl _) _, hown, rfl, (fun x hx => by cases hx), Nat.zero_le _, by simp [valL]⟩
  have HA2 := Lib.hid hHA; have HB2 := Lib.hid hHB; have Hbl := Lib.hid hbl2; have Hbb := Lib.hid hbb; have Hbr := Lib.hid hbr; have Hst := Lib.hid hst
  clear hHA hHB hbl2 hbb hbr hba hst hown HA HB hbl hb2 hbw Hcmp
  go_wp2_with fail
  clear cA cB hneg hmk
  go_loopg [6, 7, 24] xs.length (fun gk o cy i wr => ∃ (k c : Nat) (outs : List Nat), k ≤ xs.length ∧ gk = xs.length - k ∧ i = .int .i64 k ∧ cy = .int .u32 c ∧ SubI w2 wr w2.heap.size o k c outs xs ys)
  case atStart => exact ⟨0, 0, [], Nat.zero_le _, rfl, rfl, rfl, Hst.out⟩
  case round =>
    clear Hst
    obtain ⟨k, c, outs, hk, rfl, rfl, rfl, hI⟩ := hrel
    have hsw := hI.below.size
    have cB := cell_of_one ((hI.below.block _ (by omega)).trans Hbb.out)
    by_cases hlt : k < xs.length
    · obtain ⟨b1, o1, rfl, lb1⟩ := HA2.out.addr hlt
      have g1 := (HA2.out.below hI.below).get hlt
      have hx : xs[k] = dig xs k := by unfold dig; simp [hlt]
      rw [hx] at g1
      have bx := dig_lt HA2.out.limbs k
      have by_ := dig_lt HB2.out.limbs k
      have bc := hI.cl
      have hs := Nat.mod_lt (B32 + dig xs k - dig ys k - c) (show 0 < B32 by decide)
      have hq := fun w' => sub32_any (dig xs k) (dig ys k) c w' bx by_ bc
      have hpush := fun (w7 : World) (v' : Value) => hI.push (w2 := w7) (v' := v') HA2.out.limbs HB2.out.limbs hsw
      have hol := hI.len
      have hol2 : outs.length ≤ 1000000 := by omega
      have hown := hI.own.alloc (.cells #[.int .u32 (((B32 + dig xs k - dig ys k - c) % B32 : Nat) : Int)] 79)
      by_cases hy : k < ys.length
      · obtain ⟨b2, o2, rfl, lb2⟩ := HB2.out.addr hy
        have g2 := (HB2.out.below hI.below).get hy
        have hyy : ys[k] = dig ys k := by unfold dig; simp [hy]
        rw [hyy] at g2
        generalize dig xs k = x at g1 bx hs hq hpush hown
        generalize dig ys k = y at g2 by_ hs hq hpush hown
        have Hq := Lib.hid hq; have Hpush := Lib.hid hpush; have Hown := Lib.hid hown; have Hol := Lib.hid hol
        clear hq hpush hown hx hyy hI hol hs
        go_wp2_with fail
        refine (Hq.out _).mono ?_
        rintro e w' ⟨rfl, rfl⟩
        generalize (B32 + x - y - c) % B32 = r at Hpush Hown ⊢
        generalize (if x < y + c then 1 else 0 : Nat) = c2 at Hpush ⊢
        go_wp2_with (at_builtin; refine wpList_append_own _ rfl (.tmp 46) (.tmp 48) 22 rfl w2.heap.size 79 i0 (.int .u32 0) 1 4 Tryd.underlying22 hi hz0 hz1 hz2 rfl (by decide) _ _ _ rfl Hown.out ⟨wr.heap.size, 0, none⟩ 1 1 [.int .u32 (r : Int)] rfl rfl (cell_one_new _ _ _) (by intro u hu; rw [List.mem_singleton.1 hu]; rfl) (by simp only [maxLen]; omega) (by omega) (by simp; omega) ?_; intro v' w7 hown7 hgrow7 _; have Hf7 := Lib.hid (Hpush.out _ _ hown7 hgrow7); clear hown7 hgrow7)
        go_roundg (xs.length - (k + 1))
        case measure => omega
        case rel => exact ⟨k + 1, _, _, hlt, rfl, by go_num, rfl, Hf7.out⟩
      · have hy0 : dig ys k = 0 := by
          unfold dig; rw [List.getD_eq_getElem?_getD, List.getElem?_eq_none (by omega)]; rfl
        rw [hy0] at hq hpush hown hs
        generalize dig xs k = x at g1 bx hs hq hpush hown
        have Hq := Lib.hid hq; have Hpush := Lib.hid hpush; have Hown := Lib.hid hown; have Hol := Lib.hid hol
        clear hq hpush hown hx hy0 hI hol hs by_
        go_wp2_with fail
        refine (Hq.out _).mono ?_
        rintro e w' ⟨rfl, rfl⟩
        generalize (B32 + x - 0 - c) % B32 = r at Hpush Hown ⊢
        generalize (if x < 0 + c then 1 else 0 : Nat) = c2 at Hpush ⊢
        go_wp2_with (at_builtin; refine wpList_append_own _ rfl (.tmp 46) (.tmp 48) 22 rfl w2.heap.size 79 i0 (.int .u32 0) 1 4 Tryd.underlying22 hi hz0 hz1 hz2 rfl (by decide) _ _ _ rfl Hown.out ⟨wr.heap.size, 0, none⟩ 1 1 [.int .u32 (r : Int)] rfl rfl (cell_one_new _ _ _) (by intro u hu; rw [List.mem_singleton.1 hu]; rfl) (by simp only [maxLen]; omega) (by omega) (by simp; omega) ?_; intro v' w7 hown7 hgrow7 _; have Hf7 := Lib.hid (Hpush.out _ _ hown7 hgrow7); clear hown7 hgrow7)
        go_roundg (xs.length - (k + 1))
        case measure => omega
        case rel => exact ⟨k + 1, _, _, hlt, rfl, by go_num, rfl, Hf7.out⟩
    · have hk2 : k = xs.length := by omega
      have hval := hI.val
      rw [hk2, List.take_length, List.take_of_length_le hle2, Ea.out, Eb.out] at hval
      have hol : outs.length = xs.length := hI.len.trans hk2
      have hv2 : valL outs = a - b := sub_done Hab.out hol hI.lim hI.cl hval
      have hlimbs : IsLimbs wr _ outs := limbs_of_owns hI.own hI.lim
      have hbl3 := hI.below
      have hlt2 : ¬ (k : Int) < xs.length := by omega
      have Hlimbs := Lib.hid hlimbs; have Hv2 := Lib.hid hv2; have Hbl3 := Lib.hid hbl3
      clear hol hv2 hval hI hk2 hbl3 hlimbs
      go_wp2_with fail
      refine (made_any _ outs wr Hlimbs.out).mono ?_
      rintro e w8 ⟨v8, rfl, hn8, hb8⟩
      rw [Hv2.out] at hn8
      obtain ⟨a8, c8, rfl⟩ := hn8.shape
      have hblk : w8.heap[w.heap.size + 1 + 1]? = some (.cells #[.slice none 0 0] 24 (0, 0)) := (hb8.block _ (by omega)).trans ((Hbl3.out.block _ (by omega)).trans Hbr.out)
      have hcell := cell_of_one hblk; have hfz := free_of_one hblk; have hlt8 := lt_of_block hblk
      have Hn := Lib.hid hn8; have Hblk := Lib.hid hblk; have Hall := Lib.hid (Hbl.out.trans ((Hbl3.out.trans (hb8.mono hsw)).mono Hbl.out.size))
      clear hn8 hblk hb8 cB
      go_wp2_with fail
      exact bodyPost_ret (v := .tuple #[.agg #[.slice a8 (limbsOf (a - b)).length c8], .nilIface]) (by simp [results, Tryd.results14, go_sem, hcell]) rfl ⟨_, rfl, Hn.out.setRes Hblk.out _, Hall.out.setCell (by simp; omega) _⟩
end Go.Proofs.YtdeaficdfooegaaDoor
