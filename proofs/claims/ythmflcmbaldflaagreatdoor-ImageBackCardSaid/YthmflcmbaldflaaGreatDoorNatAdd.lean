/- Contract: (count.Nat).Add (printed by gen_add.py). -/
import Derived.Test.YthmflcmbaldflaaGreatDoorNatOps
import Derived.Deep.CutBlock
import Derived.Laws.MakeOwn
namespace Go.Proofs.YthmflcmbaldflaaGreatDoor
open Go.RowKit
set_option linter.unusedVariables false

theorem infoU32 : (Tryz.prog.info? 88).map (fun i => (i.zero, i.size, i.bytes)) = some (some (.int .u32 0), 1, 4) := by kernel_rfl
theorem limbs_of_owns {w : World} {base e : Nat} {v : Value} {n : Nat} {xs : List Nat} (h : w.ownsRow base e 1 v n (xs.map (fun x => Value.int .u32 (x : Nat)))) (hx : Limbs xs) : IsLimbs w v xs := by
  obtain ⟨h1, h2⟩ := h
  have hn : n = xs.length := by simp at h1; omega
  subst hn
  rcases h2 with ⟨rfl, h3⟩ | ⟨g, cap, cur, rfl, hg, hh, h3, h4, h5, h6⟩
  · have e : xs = [] := List.eq_nil_of_length_eq_zero h3
    subst e
    exact isLimbs_nil _
  · refine ⟨_, g, 0, cap, rfl, fun _ => rfl, h3, h4, fun i hi => ?_, fun _ => (Array.getElem?_eq_some_iff.1 hh).1, hx⟩
    rw [cell_of_row w g (0 + i) cur e (0, 0) hh, Nat.zero_add]
    have h7 : (cur.toList.take (xs.length * 1))[i]? = some (.int .u32 (xs[i] : Nat)) := by rw [h6]; simp [hi]
    rw [List.getElem?_take] at h7
    split at h7
    · simpa using h7
    · cases h7
theorem make_u32 (c : Nat) (h : c ≤ 2000001) (w : World) : (Instr.makeSlice 41 (.int .i64 0) (.int .i64 (c : Int))).run Tryz.prog w = .ok (.slice (some ⟨w.heap.size, 0, none⟩) 0 c) (w.alloc (.cells (madeCells #[.int .u32 0] c) 88)) := by
  obtain ⟨i, hi, hzz⟩ := Option.map_eq_some_iff.1 infoU32
  simp only [Prod.mk.injEq] at hzz
  obtain ⟨hz, hs, hb⟩ := hzz
  have := run_make (P := Tryz.prog) w 41 88 i _ Tryz.underlying41 hi hz .i64 .i64 0 c (Int.le_refl _) (by omega) (by rw [hb]; omega) (by omega)
  simpa [hs, Value.cells] using this

def dig (ys : List Nat) (k : Nat) : Nat := ys.getD k 0
theorem dig_lt {ys : List Nat} (h : Limbs ys) (k : Nat) : dig ys k < B32 := by
  unfold dig
  rw [List.getD_eq_getElem?_getD]
  cases e : ys[k]? with
  | none => simp [B32]
  | some y => exact h y (List.mem_of_getElem? e)
theorem take_dig (ys : List Nat) (k : Nat) : valL (ys.take (k + 1)) = valL (ys.take k) + B32 ^ k * dig ys k := by
  rcases Nat.lt_or_ge k ys.length with h | h
  · rw [valL_take_succ h]; unfold dig; simp [h]
  · rw [List.take_of_length_le (by omega), List.take_of_length_le h]
    unfold dig; rw [List.getD_eq_getElem?_getD, List.getElem?_eq_none h]; simp
theorem add_step {xs ys outs : List Nat} {k c : Nat} (hl : outs.length = k) (inv : valL outs + B32 ^ k * c = valL (xs.take k) + valL (ys.take k)) :
    valL (outs ++ [(dig xs k + dig ys k + c) % B32]) + B32 ^ (k + 1) * ((dig xs k + dig ys k + c) / B32) = valL (xs.take (k + 1)) + valL (ys.take (k + 1)) := by
  rw [take_dig, take_dig, valL_append, hl, valL, valL, Nat.mul_zero, Nat.add_zero, Nat.pow_succ, Nat.mul_assoc, Nat.add_assoc, ← Nat.mul_add, Nat.mod_add_div, Nat.mul_add, Nat.mul_add]
  omega
theorem carry_le {x y c : Nat} (hx : x < B32) (hy : y < B32) (hc : c ≤ 1) : (x + y + c) / B32 ≤ 1 := by
  have : x + y + c < 2 * B32 := by omega
  have := (Nat.div_lt_iff_lt_mul (show 0 < B32 by decide)).2 this
  omega

/-- Add on its way. -/
structure AddIN (W wr : World) (base : Nat) (v : Value) (k c : Nat) (outs xs ys : List Nat) : Prop where
  below : Below base W wr
  own : wr.ownsRow base 88 1 v outs.length (outs.map (fun x => Value.int .u32 (x : Nat)))
  len : outs.length = k
  lim : Limbs outs
  cl : c ≤ 1
  val : valL outs + B32 ^ k * c = valL (xs.take k) + valL (ys.take k)
theorem AddIN.push {W wr w2 : World} {base : Nat} {v v' : Value} {k c : Nat} {outs xs ys : List Nat} (h : AddIN W wr base v k c outs xs ys) (hx : Limbs xs) (hy : Limbs ys) (hbase : base ≤ wr.heap.size)
    (ho : w2.ownsRow base 88 1 v' (outs.length + 1) (outs.map (fun x => Value.int .u32 (x : Nat)) ++ [.int .u32 (((dig xs k + dig ys k + c) % B32 : Nat) : Int)])) (hg : (wr.alloc (.cells #[.int .u32 (((dig xs k + dig ys k + c) % B32 : Nat) : Int)] 88)).grownBy w2 v.ownBlock) :
    AddIN W w2 base v' (k + 1) ((dig xs k + dig ys k + c) / B32) (outs ++ [(dig xs k + dig ys k + c) % B32]) xs ys := by
  have hv : ∀ j, v.ownBlock = some j → base ≤ j := fun j hj => (h.own.lt j hj).1
  have hb : Below base (wr.alloc (.cells #[.int .u32 (((dig xs k + dig ys k + c) % B32 : Nat) : Int)] 88)) w2 := (Below.refl _ _).grown hg (by simp; omega) hv
  refine ⟨(h.below.alloc hbase _).trans hb, by simpa using ho, by simp [h.len], fun x hx' => ?_, carry_le (dig_lt hx k) (dig_lt hy k) h.cl, add_step h.len h.val⟩
  rcases List.mem_append.1 hx' with hx' | hx'
  · exact h.lim x hx'
  · rw [List.mem_singleton.1 hx']; exact Nat.mod_lt _ (by decide)

set_option maxRecDepth 100000 in
set_option maxHeartbeats 8000000 in
theorem Add_ge (a b : Nat) (va vb : Value) (w : World) (ha : IsNat w va a) (hb : IsNat w vb b) (hle : (limbsOf b).length ≤ (limbsOf a).length) (hmax : (limbsOf a).length ≤ 1000000) :
    Calls Tryz.prog 58 #[va, vb] w fun e w' => ∃ v, e = .returned v ∧ IsNat w' v (a + b) ∧ Below w.heap.size w w' := by
  obtain ⟨i0, hi, hz0, hz1, hz2⟩ := info_parts infoU32
  obtain ⟨aa, ca, rfl⟩ := ha.shape
  obtain ⟨ab, cb, rfl⟩ := hb.shape
  have hA := ha.limbs; have hB := hb.limbs
  clear ha hb
  have ea := val_limbs a; have eb := val_limbs b
  generalize limbsOf a = xs at hA ea hle hmax ⊢
  generalize limbsOf b = ys at hB eb hle ⊢
  obtain ⟨_, _, eA, hA1, hA2⟩ := hA.shape
  obtain ⟨_, _, eB, hB1, hB2⟩ := hB.shape
  cases eA; cases eB
  have hd0 : decide (xs.length < ys.length) = false := by simp; omega
  have hle2 : ys.length ≤ xs.length := by omega
  have hmk := make_u32 (xs.length + 1) (by omega)
  rw [show ((xs.length + 1 : Nat) : Int) = (xs.length : Int) + 1 by omega] at hmk
  have Ea := Lib.hid ea; have Eb := Lib.hid eb; have HA := Lib.hid hA; have HB := Lib.hid hB
  clear ea eb hA hB hle
  go_enter Tryz.func58, Tryz.ntmps58
  go_wp2_with fail
  have hbl : Below w.heap.size w (((w.alloc (.cells #[.slice aa xs.length ca] 43)).alloc (.cells #[.slice ab ys.length cb] 43)).alloc (.cells #[.slice none 0 0] 43)) := (((Below.refl _ _).alloc (Nat.le_refl _) _).alloc (by simp) _).alloc (by simp only [alloc_size]; omega) _
  obtain ⟨w2, ew⟩ : ∃ x, x = ((w.alloc (.cells #[.slice aa xs.length ca] 43)).alloc (.cells #[.slice ab ys.length cb] 43)).alloc (.cells #[.slice none 0 0] 43) := ⟨_, rfl⟩
  have hsz : w.heap.size + 1 + 1 + 1 = w2.heap.size := by rw [ew]; simp
  have hbb : w2.heap[w.heap.size + 1]? = some (.cells #[.slice ab ys.length cb] 43 (0, 0)) := by rw [ew]; exact heap_up (heap_at (by simp))
  have hbr : w2.heap[w.heap.size + 1 + 1]? = some (.cells #[.slice none 0 0] 43 (0, 0)) := by rw [ew]; exact heap_at (by simp)
  have hHA := HA.out.below hbl
  have hHB := HB.out.below hbl
  rw [hsz, ← ew]
  rw [← ew] at hHA hHB hbl
  have hown := World.ownsRow_made (base := w2.heap.size) (e := 88) (size := 1) w2 (madeCells #[.int .u32 0] (xs.length + 1)) (xs.length + 1) (Nat.le_refl _) (show xs.length + 1 ≤ maxLen by unfold maxLen; omega) (by rw [size_madeCells]; omega)
  clear ew HA HB hd0 hmk
  have hst : AddIN w2 (w2.alloc (.cells (madeCells #[.int .u32 0] (xs.length + 1)) 88)) w2.heap.size (.slice (some ⟨w2.heap.size, 0, none⟩) 0 (xs.length + 1)) 0 0 [] xs ys :=
    ⟨(Below.refl _ _).alloc (Nat.le_refl _) _, hown, rfl, (fun x hx => by cases hx), Nat.zero_le _, by simp [valL]⟩
  have hlr : w.heap.size + 1 + 1 < w2.heap.size := by omega
  have HA := Lib.hid hHA; have HB := Lib.hid hHB; have Hbl := Lib.hid hbl; have Hsz := Lib.hid hsz; have Hbb := Lib.hid hbb; have Hbr := Lib.hid hbr; have Hst := Lib.hid hst
  clear hHA hHB hbl hsz hbb hbr hst hown
  go_loopg [5, 6, 27] xs.length (fun gk o cy i wr => ∃ (k c : Nat) (outs : List Nat), k ≤ xs.length ∧ gk = xs.length - k ∧ i = .int .i64 k ∧ cy = .int .u32 c ∧ AddIN w2 wr w2.heap.size o k c outs xs ys)
  case atStart => exact ⟨0, 0, [], Nat.zero_le _, rfl, rfl, rfl, Hst.out⟩
  case round =>
    clear Hst
    obtain ⟨k, c, outs, hk, rfl, rfl, rfl, hI⟩ := hrel
    have hsw := hI.below.size
    have cB := cell_of_one ((hI.below.block _ (by omega)).trans Hbb.out)
    by_cases hlt : k < xs.length
    · obtain ⟨b1, o1, rfl, lb1⟩ := HA.out.addr hlt
      have g1 := (HA.out.below hI.below).get hlt
      have hx : xs[k] = dig xs k := by unfold dig; simp [hlt]
      rw [hx] at g1
      have bx := dig_lt HA.out.limbs k
      have by_ := dig_lt HB.out.limbs k
      have bc := hI.cl
      have hs := Nat.mod_lt (dig xs k + dig ys k + c) (show 0 < B32 by decide)
      have hq := fun w' => add32_any (dig xs k) (dig ys k) c w' bx by_ bc
      have hpush := fun (w7 : World) (v' : Value) => hI.push (w2 := w7) (v' := v') HA.out.limbs HB.out.limbs hsw
      have hol := hI.len
      have hol2 : outs.length ≤ 1000000 := by omega
      have hown := hI.own.alloc (.cells #[.int .u32 (((dig xs k + dig ys k + c) % B32 : Nat) : Int)] 88)
      by_cases hy : k < ys.length
      · obtain ⟨b2, o2, rfl, lb2⟩ := HB.out.addr hy
        have g2 := (HB.out.below hI.below).get hy
        have hyy : ys[k] = dig ys k := by unfold dig; simp [hy]
        rw [hyy] at g2
        generalize dig xs k = x at g1 bx hs hq hpush hown
        generalize dig ys k = y at g2 by_ hs hq hpush hown
        have Hq := Lib.hid hq; have Hpush := Lib.hid hpush; have Hown := Lib.hid hown; have Hol := Lib.hid hol
        clear hq hpush hown hx hyy hI hol hs
        go_wp2_with fail
        refine (Hq.out _).mono ?_
        rintro e w' ⟨rfl, rfl⟩
        generalize (x + y + c) % B32 = r at Hpush Hown ⊢
        generalize (x + y + c) / B32 = c2 at Hpush ⊢
        go_wp2_with (at_builtin; refine wpList_append_own _ rfl (.tmp 49) (.tmp 51) 41 rfl w2.heap.size 88 i0 (.int .u32 0) 1 4 Tryz.underlying41 hi hz0 hz1 hz2 rfl (by decide) _ _ _ rfl Hown.out ⟨wr.heap.size, 0, none⟩ 1 1 [.int .u32 (r : Int)] rfl rfl (cell_one_new _ _ _) (by intro u hu; rw [List.mem_singleton.1 hu]; rfl) (by simp only [maxLen]; omega) (by omega) (by simp; omega) ?_; intro v' w7 hown7 hgrow7 _; have Hf7 := Lib.hid (Hpush.out _ _ hown7 hgrow7); clear hown7 hgrow7)
        go_roundg (xs.length - (k + 1))
        case measure => omega
        case rel => exact ⟨k + 1, _, _, hlt, rfl, by go_num, rfl, Hf7.out⟩
      · have hy0 : dig ys k = 0 := by
          unfold dig; rw [List.getD_eq_getElem?_getD, List.getElem?_eq_none (by omega)]; rfl
        rw [hy0] at hq hpush hown hs
        generalize dig xs k = x at g1 bx hs hq hpush hown
        have Hq := Lib.hid hq; have Hpush := Lib.hid hpush; have Hown := Lib.hid hown; have Hol := Lib.hid hol
        clear hq hpush hown hx hy0 hI hol hs by_
        go_wp2_with fail
        refine (Hq.out _).mono ?_
        rintro e w' ⟨rfl, rfl⟩
        generalize (x + 0 + c) % B32 = r at Hpush Hown ⊢
        generalize (x + 0 + c) / B32 = c2 at Hpush ⊢
        go_wp2_with (at_builtin; refine wpList_append_own _ rfl (.tmp 49) (.tmp 51) 41 rfl w2.heap.size 88 i0 (.int .u32 0) 1 4 Tryz.underlying41 hi hz0 hz1 hz2 rfl (by decide) _ _ _ rfl Hown.out ⟨wr.heap.size, 0, none⟩ 1 1 [.int .u32 (r : Int)] rfl rfl (cell_one_new _ _ _) (by intro u hu; rw [List.mem_singleton.1 hu]; rfl) (by simp only [maxLen]; omega) (by omega) (by simp; omega) ?_; intro v' w7 hown7 hgrow7 _; have Hf7 := Lib.hid (Hpush.out _ _ hown7 hgrow7); clear hown7 hgrow7)
        go_roundg (xs.length - (k + 1))
        case measure => omega
        case rel => exact ⟨k + 1, _, _, hlt, rfl, by go_num, rfl, Hf7.out⟩
    · have hk2 : k = xs.length := by omega
      have hval := hI.val
      rw [hk2, List.take_length, List.take_of_length_le hle2, Ea.out, Eb.out] at hval
      have hol : outs.length = xs.length := hI.len.trans hk2
      have hol2 : outs.length ≤ 1000000 := by omega
      have hv2 : valL (outs ++ [c]) = a + b := by rw [valL_append, hol]; simpa [valL] using hval
      have hlim : Limbs (outs ++ [c]) := fun x hx' => by
        rcases List.mem_append.1 hx' with hx' | hx'
        · exact hI.lim x hx'
        · rw [List.mem_singleton.1 hx']; have := hI.cl; unfold B32; omega
      have hown := hI.own.alloc (.cells #[.int .u32 (c : Int)] 88)
      have hbl2 : Below w2.heap.size w2 (wr.alloc (.cells #[.int .u32 (c : Int)] 88)) := hI.below.alloc hsw _
      have hvb := fun j hj => (hI.own.lt j hj).1
      have hlt2 : ¬ (k : Int) < xs.length := by omega
      have Hown := Lib.hid hown; have Hol := Lib.hid hol; have Hlim := Lib.hid hlim; have Hv2 := Lib.hid hv2; have Hbl2 := Lib.hid hbl2; have Hvb := Lib.hid hvb
      clear hown hol hlim hv2 hval hI hk2 hbl2 hvb
      go_wp2_with (at_builtin; refine wpList_append_own _ rfl (.tmp 54) (.tmp 56) 41 rfl w2.heap.size 88 i0 (.int .u32 0) 1 4 Tryz.underlying41 hi hz0 hz1 hz2 rfl (by decide) _ _ _ rfl Hown.out ⟨wr.heap.size, 0, none⟩ 1 1 [.int .u32 (c : Int)] rfl rfl (cell_one_new _ _ _) (by intro u hu; rw [List.mem_singleton.1 hu]; rfl) (by simp only [maxLen]; omega) (by omega) (by simp; omega) ?_; intro v' w7 hown7 hgrow7 _; have Hown7 := Lib.hid hown7; have Hb7 := Lib.hid (Hbl2.out.trans ((Below.refl _ _).grown hgrow7 (by simp; omega) Hvb.out)); clear hown7 hgrow7)
      have hlimbs : IsLimbs w7 v' (outs ++ [c]) := limbs_of_owns (by simpa using Hown7.out) Hlim.out
      refine (nmade_any v' (outs ++ [c]) w7 hlimbs).mono ?_
      rintro e w8 ⟨v8, rfl, hn8, hb8⟩
      rw [Hv2.out] at hn8
      obtain ⟨a8, c8, rfl⟩ := hn8.shape
      have hs7 := Hb7.out.size
      have hblk : w8.heap[w.heap.size + 1 + 1]? = some (.cells #[.slice none 0 0] 43 (0, 0)) := (hb8.block _ (by omega)).trans ((Hb7.out.block _ (by omega)).trans Hbr.out)
      have hcell := cell_of_one hblk; have hfz := free_of_one hblk; have hlt8 := lt_of_block hblk
      have Hn := Lib.hid hn8; have Hblk := Lib.hid hblk; have Hall := Lib.hid (Hbl.out.trans ((Hb7.out.trans (hb8.mono hs7)).mono Hbl.out.size))
      clear hn8 hblk hb8 hlimbs Hown7 Hb7 cB
      go_wp2_with fail
      exact bodyPost_ret (v := .agg #[.slice a8 (limbsOf (a + b)).length c8]) (by simp [results, Tryz.results58, go_sem, hcell]) rfl ⟨_, rfl, Hn.out.setRes Hblk.out _, Hall.out.setCell (by simp; omega) _⟩

set_option maxRecDepth 100000 in
set_option maxHeartbeats 8000000 in
theorem Add_lt (a b : Nat) (va vb : Value) (w : World) (ha : IsNat w va a) (hb : IsNat w vb b) (hle : (limbsOf b).length < (limbsOf a).length) (hmax : (limbsOf a).length ≤ 1000000) :
    Calls Tryz.prog 58 #[vb, va] w fun e w' => ∃ v, e = .returned v ∧ IsNat w' v (a + b) ∧ Below w.heap.size w w' := by
  obtain ⟨i0, hi, hz0, hz1, hz2⟩ := info_parts infoU32
  obtain ⟨aa, ca, rfl⟩ := ha.shape
  obtain ⟨ab, cb, rfl⟩ := hb.shape
  have hA := ha.limbs; have hB := hb.limbs
  clear ha hb
  have ea := val_limbs a; have eb := val_limbs b
  generalize limbsOf a = xs at hA ea hle hmax ⊢
  generalize limbsOf b = ys at hB eb hle ⊢
  obtain ⟨_, _, eA, hA1, hA2⟩ := hA.shape
  obtain ⟨_, _, eB, hB1, hB2⟩ := hB.shape
  cases eA; cases eB
  have hd0 : decide (ys.length < xs.length) = true := by simpa using hle
  have hle2 : ys.length ≤ xs.length := by omega
  have hmk := make_u32 (xs.length + 1) (by omega)
  rw [show ((xs.length + 1 : Nat) : Int) = (xs.length : Int) + 1 by omega] at hmk
  have Ea := Lib.hid ea; have Eb := Lib.hid eb; have HA := Lib.hid hA; have HB := Lib.hid hB
  clear ea eb hA hB hle
  go_enter Tryz.func58, Tryz.ntmps58
  go_wp2_with fail
  have hbl : Below w.heap.size w (((w.alloc (.cells #[.slice aa xs.length ca] 43)).alloc (.cells #[.slice ab ys.length cb] 43)).alloc (.cells #[.slice none 0 0] 43)) := (((Below.refl _ _).alloc (Nat.le_refl _) _).alloc (by simp) _).alloc (by simp only [alloc_size]; omega) _
  obtain ⟨w2, ew⟩ : ∃ x, x = ((w.alloc (.cells #[.slice aa xs.length ca] 43)).alloc (.cells #[.slice ab ys.length cb] 43)).alloc (.cells #[.slice none 0 0] 43) := ⟨_, rfl⟩
  have hsz : w.heap.size + 1 + 1 + 1 = w2.heap.size := by rw [ew]; simp
  have hbb : w2.heap[w.heap.size + 1]? = some (.cells #[.slice ab ys.length cb] 43 (0, 0)) := by rw [ew]; exact heap_up (heap_at (by simp))
  have hbr : w2.heap[w.heap.size + 1 + 1]? = some (.cells #[.slice none 0 0] 43 (0, 0)) := by rw [ew]; exact heap_at (by simp)
  have hHA := HA.out.below hbl
  have hHB := HB.out.below hbl
  rw [hsz, ← ew]
  rw [← ew] at hHA hHB hbl
  have hown := World.ownsRow_made (base := w2.heap.size) (e := 88) (size := 1) w2 (madeCells #[.int .u32 0] (xs.length + 1)) (xs.length + 1) (Nat.le_refl _) (show xs.length + 1 ≤ maxLen by unfold maxLen; omega) (by rw [size_madeCells]; omega)
  clear ew HA HB hd0 hmk
  have hst : AddIN w2 (w2.alloc (.cells (madeCells #[.int .u32 0] (xs.length + 1)) 88)) w2.heap.size (.slice (some ⟨w2.heap.size, 0, none⟩) 0 (xs.length + 1)) 0 0 [] xs ys :=
    ⟨(Below.refl _ _).alloc (Nat.le_refl _) _, hown, rfl, (fun x hx => by cases hx), Nat.zero_le _, by simp [valL]⟩
  have hlr : w.heap.size + 1 + 1 < w2.heap.size := by omega
  have HA := Lib.hid hHA; have HB := Lib.hid hHB; have Hbl := Lib.hid hbl; have Hsz := Lib.hid hsz; have Hbb := Lib.hid hbb; have Hbr := Lib.hid hbr; have Hst := Lib.hid hst
  clear hHA hHB hbl hsz hbb hbr hst hown
  go_loopg [5, 6, 27] xs.length (fun gk o cy i wr => ∃ (k c : Nat) (outs : List Nat), k ≤ xs.length ∧ gk = xs.length - k ∧ i = .int .i64 k ∧ cy = .int .u32 c ∧ AddIN w2 wr w2.heap.size o k c outs xs ys)
  case atStart => exact ⟨0, 0, [], Nat.zero_le _, rfl, rfl, rfl, Hst.out⟩
  case round =>
    clear Hst
    obtain ⟨k, c, outs, hk, rfl, rfl, rfl, hI⟩ := hrel
    have hsw := hI.below.size
    have cB := cell_of_one ((hI.below.block _ (by omega)).trans Hbb.out)
    by_cases hlt : k < xs.length
    · obtain ⟨b1, o1, rfl, lb1⟩ := HA.out.addr hlt
      have g1 := (HA.out.below hI.below).get hlt
      have hx : xs[k] = dig xs k := by unfold dig; simp [hlt]
      rw [hx] at g1
      have bx := dig_lt HA.out.limbs k
      have by_ := dig_lt HB.out.limbs k
      have bc := hI.cl
      have hs := Nat.mod_lt (dig xs k + dig ys k + c) (show 0 < B32 by decide)
      have hq := fun w' => add32_any (dig xs k) (dig ys k) c w' bx by_ bc
      have hpush := fun (w7 : World) (v' : Value) => hI.push (w2 := w7) (v' := v') HA.out.limbs HB.out.limbs hsw
      have hol := hI.len
      have hol2 : outs.length ≤ 1000000 := by omega
      have hown := hI.own.alloc (.cells #[.int .u32 (((dig xs k + dig ys k + c) % B32 : Nat) : Int)] 88)
      by_cases hy : k < ys.length
      · obtain ⟨b2, o2, rfl, lb2⟩ := HB.out.addr hy
        have g2 := (HB.out.below hI.below).get hy
        have hyy : ys[k] = dig ys k := by unfold dig; simp [hy]
        rw [hyy] at g2
        generalize dig xs k = x at g1 bx hs hq hpush hown
        generalize dig ys k = y at g2 by_ hs hq hpush hown
        have Hq := Lib.hid hq; have Hpush := Lib.hid hpush; have Hown := Lib.hid hown; have Hol := Lib.hid hol
        clear hq hpush hown hx hyy hI hol hs
        go_wp2_with fail
        refine (Hq.out _).mono ?_
        rintro e w' ⟨rfl, rfl⟩
        generalize (x + y + c) % B32 = r at Hpush Hown ⊢
        generalize (x + y + c) / B32 = c2 at Hpush ⊢
        go_wp2_with (at_builtin; refine wpList_append_own _ rfl (.tmp 49) (.tmp 51) 41 rfl w2.heap.size 88 i0 (.int .u32 0) 1 4 Tryz.underlying41 hi hz0 hz1 hz2 rfl (by decide) _ _ _ rfl Hown.out ⟨wr.heap.size, 0, none⟩ 1 1 [.int .u32 (r : Int)] rfl rfl (cell_one_new _ _ _) (by intro u hu; rw [List.mem_singleton.1 hu]; rfl) (by simp only [maxLen]; omega) (by omega) (by simp; omega) ?_; intro v' w7 hown7 hgrow7 _; have Hf7 := Lib.hid (Hpush.out _ _ hown7 hgrow7); clear hown7 hgrow7)
        go_roundg (xs.length - (k + 1))
        case measure => omega
        case rel => exact ⟨k + 1, _, _, hlt, rfl, by go_num, rfl, Hf7.out⟩
      · have hy0 : dig ys k = 0 := by
          unfold dig; rw [List.getD_eq_getElem?_getD, List.getElem?_eq_none (by omega)]; rfl
        rw [hy0] at hq hpush hown hs
        generalize dig xs k = x at g1 bx hs hq hpush hown
        have Hq := Lib.hid hq; have Hpush := Lib.hid hpush; have Hown := Lib.hid hown; have Hol := Lib.hid hol
        clear hq hpush hown hx hy0 hI hol hs by_
        go_wp2_with fail
        refine (Hq.out _).mono ?_
        rintro e w' ⟨rfl, rfl⟩
        generalize (x + 0 + c) % B32 = r at Hpush Hown ⊢
        generalize (x + 0 + c) / B32 = c2 at Hpush ⊢
        go_wp2_with (at_builtin; refine wpList_append_own _ rfl (.tmp 49) (.tmp 51) 41 rfl w2.heap.size 88 i0 (.int .u32 0) 1 4 Tryz.underlying41 hi hz0 hz1 hz2 rfl (by decide) _ _ _ rfl Hown.out ⟨wr.heap.size, 0, none⟩ 1 1 [.int .u32 (r : Int)] rfl rfl (cell_one_new _ _ _) (by intro u hu; rw [List.mem_singleton.1 hu]; rfl) (by simp only [maxLen]; omega) (by omega) (by simp; omega) ?_; intro v' w7 hown7 hgrow7 _; have Hf7 := Lib.hid (Hpush.out _ _ hown7 hgrow7); clear hown7 hgrow7)
        go_roundg (xs.length - (k + 1))
        case measure => omega
        case rel => exact ⟨k + 1, _, _, hlt, rfl, by go_num, rfl, Hf7.out⟩
    · have hk2 : k = xs.length := by omega
      have hval := hI.val
      rw [hk2, List.take_length, List.take_of_length_le hle2, Ea.out, Eb.out] at hval
      have hol : outs.length = xs.length := hI.len.trans hk2
      have hol2 : outs.length ≤ 1000000 := by omega
      have hv2 : valL (outs ++ [c]) = a + b := by rw [valL_append, hol]; simpa [valL] using hval
      have hlim : Limbs (outs ++ [c]) := fun x hx' => by
        rcases List.mem_append.1 hx' with hx' | hx'
        · exact hI.lim x hx'
        · rw [List.mem_singleton.1 hx']; have := hI.cl; unfold B32; omega
      have hown := hI.own.alloc (.cells #[.int .u32 (c : Int)] 88)
      have hbl2 : Below w2.heap.size w2 (wr.alloc (.cells #[.int .u32 (c : Int)] 88)) := hI.below.alloc hsw _
      have hvb := fun j hj => (hI.own.lt j hj).1
      have hlt2 : ¬ (k : Int) < xs.length := by omega
      have Hown := Lib.hid hown; have Hol := Lib.hid hol; have Hlim := Lib.hid hlim; have Hv2 := Lib.hid hv2; have Hbl2 := Lib.hid hbl2; have Hvb := Lib.hid hvb
      clear hown hol hlim hv2 hval hI hk2 hbl2 hvb
      go_wp2_with (at_builtin; refine wpList_append_own _ rfl (.tmp 54) (.tmp 56) 41 rfl w2.heap.size 88 i0 (.int .u32 0) 1 4 Tryz.underlying41 hi hz0 hz1 hz2 rfl (by decide) _ _ _ rfl Hown.out ⟨wr.heap.size, 0, none⟩ 1 1 [.int .u32 (c : Int)] rfl rfl (cell_one_new _ _ _) (by intro u hu; rw [List.mem_singleton.1 hu]; rfl) (by simp only [maxLen]; omega) (by omega) (by simp; omega) ?_; intro v' w7 hown7 hgrow7 _; have Hown7 := Lib.hid hown7; have Hb7 := Lib.hid (Hbl2.out.trans ((Below.refl _ _).grown hgrow7 (by simp; omega) Hvb.out)); clear hown7 hgrow7)
      have hlimbs : IsLimbs w7 v' (outs ++ [c]) := limbs_of_owns (by simpa using Hown7.out) Hlim.out
      refine (nmade_any v' (outs ++ [c]) w7 hlimbs).mono ?_
      rintro e w8 ⟨v8, rfl, hn8, hb8⟩
      rw [Hv2.out] at hn8
      obtain ⟨a8, c8, rfl⟩ := hn8.shape
      have hs7 := Hb7.out.size
      have hblk : w8.heap[w.heap.size + 1 + 1]? = some (.cells #[.slice none 0 0] 43 (0, 0)) := (hb8.block _ (by omega)).trans ((Hb7.out.block _ (by omega)).trans Hbr.out)
      have hcell := cell_of_one hblk; have hfz := free_of_one hblk; have hlt8 := lt_of_block hblk
      have Hn := Lib.hid hn8; have Hblk := Lib.hid hblk; have Hall := Lib.hid (Hbl.out.trans ((Hb7.out.trans (hb8.mono hs7)).mono Hbl.out.size))
      clear hn8 hblk hb8 hlimbs Hown7 Hb7 cB
      go_wp2_with fail
      exact bodyPost_ret (v := .agg #[.slice a8 (limbsOf (a + b)).length c8]) (by simp [results, Tryz.results58, go_sem, hcell]) rfl ⟨_, rfl, Hn.out.setRes Hblk.out _, Hall.out.setCell (by simp; omega) _⟩
theorem Add_any (a b : Nat) (va vb : Value) (w : World) (ha : IsNat w va a) (hb : IsNat w vb b) (hla : (limbsOf a).length ≤ 1000000) (hlb : (limbsOf b).length ≤ 1000000) :
    Calls Tryz.prog 58 #[va, vb] w fun e w' => ∃ v, e = .returned v ∧ IsNat w' v (a + b) ∧ Below w.heap.size w w' := by
  rcases Nat.lt_or_ge (limbsOf a).length (limbsOf b).length with h | h
  · have q := Add_lt b a vb va w hb ha h hlb
    rwa [Nat.add_comm] at q
  · exact Add_ge a b va vb w ha hb h hla
end Go.Proofs.YthmflcmbaldflaaGreatDoor
