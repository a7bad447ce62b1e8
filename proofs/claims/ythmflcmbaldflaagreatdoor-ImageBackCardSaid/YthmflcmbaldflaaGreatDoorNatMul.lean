/- Contract: (count.Nat).Mul. -/
import Derived.Test.YthmflcmbaldflaaGreatDoorNatAdd
namespace Go.Proofs.YthmflcmbaldflaaGreatDoor
open Go.RowKit
set_option linter.unusedVariables false

theorem valL_set : ∀ (xs : List Nat) (j v : Nat), j < xs.length → valL (xs.set j v) + B32 ^ j * dig xs j = valL xs + B32 ^ j * v
  | [], j, v, h => absurd h (by simp)
  | x :: xs, 0, v, _ => by
    have : dig (x :: xs) 0 = x := rfl
    rw [this]
    simp only [List.set_cons_zero, valL, Nat.pow_zero, Nat.one_mul]; omega
  | x :: xs, j + 1, v, h => by
    have ih := valL_set xs j v (by simpa using h)
    have hd : dig (x :: xs) (j + 1) = dig xs j := by unfold dig; simp
    rw [hd]
    simp only [List.set_cons_succ, valL, Nat.pow_succ]
    have e : ∀ z, B32 ^ j * B32 * z = B32 * (B32 ^ j * z) := fun z => by rw [Nat.mul_comm (B32 ^ j) B32, Nat.mul_assoc]
    rw [e, e]
    have : B32 * (valL (xs.set j v) + B32 ^ j * dig xs j) = B32 * (valL xs + B32 ^ j * v) := by rw [ih]
    rw [Nat.mul_add, Nat.mul_add] at this
    omega
theorem mulVal {B i k x y o c r q vs vo XY Yk : Nat} (hs : vs + B ^ (i + k) * o = vo + B ^ (i + k) * r) (hv : vo + B ^ (i + k) * c = XY + B ^ i * (x * Yk)) (hm : r + B * q = x * y + o + c) :
    vs + B ^ (i + (k + 1)) * q = XY + B ^ i * (x * (Yk + B ^ k * y)) := by
  rw [Nat.mul_add, Nat.mul_add, ← Nat.add_assoc i k 1, Nat.pow_succ, Nat.mul_assoc]
  have h1 : B ^ (i + k) * r + B ^ (i + k) * (B * q) = B ^ (i + k) * (x * y) + B ^ (i + k) * o + B ^ (i + k) * c := by
    rw [← Nat.mul_add, hm, Nat.mul_add, Nat.mul_add]
  have h2 : B ^ i * (x * (B ^ k * y)) = B ^ (i + k) * (x * y) := by
    rw [Nat.pow_add, Nat.mul_assoc, Nat.mul_left_comm x]
  omega
theorem mulRow {B i x c vs vo Xi Y n : Nat} (hs : vs + B ^ (i + n) * 0 = vo + B ^ (i + n) * c) (hv : vo + B ^ (i + n) * c = Xi * Y + B ^ i * (x * Y)) : vs = (Xi + B ^ i * x) * Y := by
  rw [Nat.add_mul, Nat.mul_assoc]
  rw [Nat.mul_zero] at hs
  omega
theorem rowVal {a b B C x : Nat} {ys : List Nat} (h : a = b) : a + B * 0 = b + C * (x * valL (ys.take 0)) := by
  rw [List.take_zero, h]; simp [valL]
theorem limbs_set {xs : List Nat} (h : Limbs xs) {j v : Nat} (hv : v < B32) : Limbs (xs.set j v) := fun x hx => by
  rcases List.mem_or_eq_of_mem_set hx with hx | rfl
  · exact h x hx
  · exact hv
theorem valL_zeros : ∀ n, valL (List.replicate n 0) = 0
  | 0 => rfl
  | n + 1 => by rw [List.replicate_succ, valL, valL_zeros n]; rfl

/-- Mul on its way, at limb i of the one, k of the other. -/
structure MulM (outs xs ys : List Nat) (i k c : Nat) : Prop where
  len : outs.length = xs.length + ys.length
  lim : Limbs outs
  cl : c < B32
  zero : ∀ j, i + ys.length ≤ j → dig outs j = 0
  val : valL outs + B32 ^ (i + k) * c = valL (xs.take i) * valL ys + B32 ^ i * (dig xs i * valL (ys.take k))
theorem dig_set_ne {xs : List Nat} {i j v : Nat} (h : i ≠ j) : dig (xs.set i v) j = dig xs j := by
  unfold dig; rw [List.getD_eq_getElem?_getD, List.getElem?_set_ne h, List.getD_eq_getElem?_getD]
theorem dig_zeros (n j : Nat) : dig (List.replicate n 0) j = 0 := by
  unfold dig; rw [List.getD_eq_getElem?_getD, List.getElem?_replicate]; split <;> rfl
theorem mulM_start (xs ys : List Nat) : MulM (List.replicate (xs.length + ys.length) 0) xs ys 0 0 0 :=
  ⟨by simp, (fun x hx => by rw [List.eq_of_mem_replicate hx]; decide), by decide, fun j _ => dig_zeros _ _, by rw [valL_zeros]; simp [valL]⟩
theorem sq_lt : (B32 - 1) * B32 + (B32 - 1) < B32 * B32 := by unfold B32; omega
theorem nprod_le {x y o c : Nat} (a : x < B32) (b : y < B32) (d : o < B32) (e : c < B32) : x * y + o + c ≤ (B32 - 1) * B32 + (B32 - 1) := by
  have f : x * y ≤ (B32 - 1) * (B32 - 1) := Nat.mul_le_mul (by omega) (by omega)
  have g : (B32 - 1) * B32 = (B32 - 1) * (B32 - 1) + (B32 - 1) := by unfold B32; omega
  omega
theorem MulM.prod {outs xs ys : List Nat} {i k c : Nat} (h : MulM outs xs ys i k c) (hx : Limbs xs) (hy : Limbs ys) : dig xs i * dig ys k + dig outs (i + k) + c ≤ (B32 - 1) * B32 + (B32 - 1) :=
  nprod_le (dig_lt hx i) (dig_lt hy k) (dig_lt h.lim (i + k)) h.cl
theorem MulM.next {outs xs ys : List Nat} {i k c : Nat} (h : MulM outs xs ys i k c) (hx : Limbs xs) (hy : Limbs ys) (hi : i < xs.length) (hk : k < ys.length) :
    MulM (outs.set (i + k) ((dig xs i * dig ys k + dig outs (i + k) + c) % B32)) xs ys i (k + 1) ((dig xs i * dig ys k + dig outs (i + k) + c) / B32) := by
  have hj : i + k < outs.length := by rw [h.len]; omega
  have hs := valL_set outs (i + k) ((dig xs i * dig ys k + dig outs (i + k) + c) % B32) hj
  have hp := Nat.lt_of_le_of_lt (h.prod hx hy) sq_lt
  refine ⟨by simp [h.len], limbs_set h.lim (Nat.mod_lt _ (by decide)), (Nat.div_lt_iff_lt_mul (by decide)).2 hp, fun j hge => ?_, ?_⟩
  · rw [dig_set_ne (by omega)]; exact h.zero j hge
  · rw [take_dig ys k]
    exact mulVal hs h.val (Nat.mod_add_div _ _)
theorem MulM.row {outs xs ys : List Nat} {i c : Nat} (h : MulM outs xs ys i ys.length c) (hi : i < xs.length) : MulM (outs.set (i + ys.length) c) xs ys (i + 1) 0 0 := by
  have hj : i + ys.length < outs.length := by rw [h.len]; omega
  have hs := valL_set outs (i + ys.length) c hj
  rw [h.zero _ (Nat.le_refl _)] at hs
  refine ⟨by simp [h.len], limbs_set h.lim h.cl, by decide, fun j hge => ?_, ?_⟩
  · rw [dig_set_ne (by omega)]; exact h.zero j (by omega)
  · have hv := h.val
    rw [List.take_length] at hv
    have h2 := mulRow hs hv
    rw [← take_dig xs i] at h2
    exact rowVal h2
theorem MulM.done {outs xs ys : List Nat} (h : MulM outs xs ys xs.length 0 0) : valL outs = valL xs * valL ys := by
  have hv := h.val
  rw [List.take_length, List.take_zero] at hv
  simpa [valL] using hv

/-! ### The walk -/
theorem make_u32f (c : Nat) (h : c ≤ 2000001) (w : World) : (Instr.makeSlice 41 (.int .i64 (c : Int)) (.int .i64 (c : Int))).run Tryz.prog w = .ok (.slice (some ⟨w.heap.size, 0, none⟩) c c) (w.alloc (.cells (madeCells #[.int .u32 0] c) 88)) := by
  obtain ⟨i, hi, hzz⟩ := Option.map_eq_some_iff.1 infoU32
  simp only [Prod.mk.injEq] at hzz
  obtain ⟨hz, hs, hb⟩ := hzz
  have := run_make (P := Tryz.prog) w 41 88 i _ Tryz.underlying41 hi hz .i64 .i64 c c (by omega) (Int.le_refl _) (by rw [hb]; omega) (by omega)
  simpa [hs, Value.cells] using this

def u32s (outs : List Nat) : Array Value := (outs.map (fun x => Value.int .u32 (x : Nat))).toArray
theorem u64_in {z : Int} (h0 : 0 ≤ z) (h1 : z < 18446744073709551616) : IntKind.u64.wrap z = z := by
  simp only [IntKind.wrap, IntKind.signed, IntKind.bits]
  have h2 : (2 : Int) ^ 64 = 18446744073709551616 := by decide
  first
    | (rw [h2]; simp; omega)
    | (simp; omega)
theorem mul_wraps {x y o c : Nat} (h : x * y + o + c ≤ (B32 - 1) * B32 + (B32 - 1)) : IntKind.u64.wrap (IntKind.u64.wrap (IntKind.u64.wrap ((x : Int) * (y : Int)) + (o : Int)) + (c : Int)) = ((x * y + o + c : Nat) : Int) := by
  have e : (x : Int) * (y : Int) = ((x * y : Nat) : Int) := by simp
  rw [e]
  generalize x * y = p at *
  unfold B32 at h
  rw [u64_in (z := (p : Int)) (by omega) (by omega), u64_in (z := (p : Int) + o) (by omega) (by omega), u64_in (by omega) (by omega)]
  omega
/-- Mul on its way, in memory. -/
structure MulI (W wr : World) (g : Nat) (outs : List Nat) : Prop where
  below : Below g W wr
  row : wr.heap[g]? = some (.cells (u32s outs) 88 (0, 0))
theorem MulI.cell {W wr : World} {g : Nat} {outs : List Nat} (h : MulI W wr g outs) {j : Nat} (hj : j < outs.length) : wr.cell? ⟨g, j, none⟩ = some (.int .u32 (dig outs j : Nat)) := by
  rw [cell_of_row wr g j _ _ _ h.row]
  unfold u32s dig
  simp [hj]
theorem MulI.free {W wr : World} {g : Nat} {outs : List Nat} (h : MulI W wr g outs) (j : Nat) : wr.frozen? ⟨g, j, none⟩ = false := by
  simp [World.frozen?, h.row]
theorem MulI.set {W wr : World} {g : Nat} {outs : List Nat} (h : MulI W wr g outs) (j v : Nat) : MulI W (wr.setCell ⟨g, j, none⟩ (.int .u32 (v : Nat))) g (outs.set j v) := by
  refine ⟨h.below.setCell (Nat.le_refl _) _, ?_⟩
  have hlt := lt_of_block h.row
  have h' : wr.heap[g] = .cells (u32s outs) 88 (0, 0) := by simpa [Array.getElem?_eq_getElem hlt] using h.row
  show (wr.heap.modify g _)[g]? = _
  rw [Array.getElem?_eq_getElem (by simpa using hlt), Array.getElem_modify_self, h']
  simp [u32s, List.map_set]

set_option maxRecDepth 100000 in
set_option maxHeartbeats 8000000 in
theorem Mul_any (a b : Nat) (va vb : Value) (w : World) (ha : IsNat w va a) (hb : IsNat w vb b) (hla : (limbsOf a).length ≤ 1000000) (hlb : (limbsOf b).length ≤ 1000000) :
    Calls Tryz.prog 59 #[va, vb] w fun e w' => ∃ v, e = .returned v ∧ IsNat w' v (a * b) ∧ Below w.heap.size w w' := by
  obtain ⟨aa, ca, rfl⟩ := ha.shape
  obtain ⟨ab, cb, rfl⟩ := hb.shape
  have hA := ha.limbs; have hB := hb.limbs
  clear ha hb
  have ea := val_limbs a; have eb := val_limbs b
  generalize limbsOf a = xs at hA ea hla ⊢
  generalize limbsOf b = ys at hB eb hlb ⊢
  obtain ⟨_, _, eA, hA1, hA2⟩ := hA.shape
  obtain ⟨_, _, eB, hB1, hB2⟩ := hB.shape
  cases eA; cases eB
  have hmk := make_u32f (xs.length + ys.length) (by omega)
  rw [show ((xs.length + ys.length : Nat) : Int) = (xs.length : Int) + ys.length by omega] at hmk
  have Ea := Lib.hid ea; have Eb := Lib.hid eb; have HA := Lib.hid hA; have HB := Lib.hid hB
  clear ea eb hA hB
  go_enter Tryz.func59, Tryz.ntmps59
  go_wp2_with fail
  have hbl : Below w.heap.size w (((w.alloc (.cells #[.slice aa xs.length ca] 43)).alloc (.cells #[.slice ab ys.length cb] 43)).alloc (.cells #[.slice none 0 0] 43)) := (((Below.refl _ _).alloc (Nat.le_refl _) _).alloc (by simp) _).alloc (by simp only [alloc_size]; omega) _
  obtain ⟨w2, ew⟩ : ∃ x, x = ((w.alloc (.cells #[.slice aa xs.length ca] 43)).alloc (.cells #[.slice ab ys.length cb] 43)).alloc (.cells #[.slice none 0 0] 43) := ⟨_, rfl⟩
  have hsz : w.heap.size + 1 + 1 + 1 = w2.heap.size := by rw [ew]; simp
  have hbb : w2.heap[w.heap.size + 1]? = some (.cells #[.slice ab ys.length cb] 43 (0, 0)) := by rw [ew]; exact heap_up (heap_at (by simp))
  have hbr : w2.heap[w.heap.size + 1 + 1]? = some (.cells #[.slice none 0 0] 43 (0, 0)) := by rw [ew]; exact heap_at (by simp)
  have hHA := HA.out.below hbl
  have hHB := HB.out.below hbl
  rw [hsz, ← ew]
  rw [← ew] at hHA hHB hbl
  have hmd : madeCells #[.int .u32 0] (xs.length + ys.length) = u32s (List.replicate (xs.length + ys.length) 0) := by
    apply Array.toList_inj.1
    rw [toList_madeCells_one]; simp [u32s]
  rw [hmd]
  clear ew HA HB hmk hmd
  have hst : MulI w2 (w2.alloc (.cells (u32s (List.replicate (xs.length + ys.length) 0)) 88)) w2.heap.size (List.replicate (xs.length + ys.length) 0) := ⟨(Below.refl _ _).alloc (Nat.le_refl _) _, heap_at rfl⟩
  have hlr : w.heap.size + 1 + 1 < w2.heap.size := by omega
  have HA := Lib.hid hHA; have HB := Lib.hid hHB; have Hbl := Lib.hid hbl; have Hsz := Lib.hid hsz; have Hbb := Lib.hid hbb; have Hbr := Lib.hid hbr; have Hst := Lib.hid hst
  clear hHA hHB hbl hsz hbb hbr hst
  go_loopg [23] xs.length (fun gk i wr => ∃ (k : Nat) (outs : List Nat), k ≤ xs.length ∧ gk = xs.length - k ∧ i = .int .i64 k ∧ MulI w2 wr w2.heap.size outs ∧ MulM outs xs ys k 0 0)
  case atStart => exact ⟨0, _, Nat.zero_le _, rfl, rfl, Hst.out, mulM_start _ _⟩
  case round =>
    clear Hst
    obtain ⟨i, outs, hi, rfl, rfl, hI, hM⟩ := hrel
    obtain ⟨wo, rfl⟩ : ∃ wo : World, wo = wr := ⟨_, rfl⟩
    have hsw := hI.below.size
    have cB := cell_of_one ((hI.below.block _ (by omega)).trans Hbb.out)
    by_cases hlt : i < xs.length
    · obtain ⟨b1, o1, rfl, lb1⟩ := HA.out.addr hlt
      have g1 := (HA.out.below hI.below).get hlt
      have hx : xs[i] = dig xs i := by unfold dig; simp [hlt]
      rw [hx] at g1
      clear hx
      obtain ⟨x, ex⟩ : ∃ x, x = dig xs i := ⟨_, rfl⟩
      rw [← ex] at g1
      have Ex := Lib.hid ex; have HI := Lib.hid hI; have HM := Lib.hid hM
      clear ex hI hM
      go_wp2_with fail
      go_loopg [8, 31] ys.length (fun gk cy ki wr => ∃ (k c : Nat) (outs : List Nat), k ≤ ys.length ∧ gk = ys.length - k ∧ ki = .int .i64 k ∧ cy = .int .u64 c ∧ MulI w2 wr w2.heap.size outs ∧ MulM outs xs ys i k c)
      case atStart => exact ⟨0, 0, _, Nat.zero_le _, rfl, rfl, rfl, HI.out, HM.out⟩
      case round =>
        clear HI HM cB g1
        obtain ⟨k, c, outs, hk, rfl, rfl, rfl, hI, hM⟩ := hrel
        have cB := cell_of_one ((hI.below.block _ (by omega)).trans Hbb.out)
        have hsw := hI.below.size
        by_cases hlk : k < ys.length
        · obtain ⟨b2, o2, rfl, lb2⟩ := HB.out.addr hlk
          have g2 := (HB.out.below hI.below).get hlk
          have hyy : ys[k] = dig ys k := by unfold dig; simp [hlk]
          rw [hyy] at g2
          have hlo : i + k < outs.length := by rw [hM.len]; omega
          have go := hI.cell hlo
          have fo := hI.free (i + k)
          have hpr := hM.prod HA.out.limbs HB.out.limbs
          have hnx := hM.next HA.out.limbs HB.out.limbs hlt hlk
          have hsx := fun v => hI.set (i + k) v
          have bx := dig_lt HA.out.limbs i
          have by_ := dig_lt HB.out.limbs k
          have bo := dig_lt hM.lim (i + k)
          have bc := hM.cl
          rw [← Ex.out] at bx hpr hnx
          have hlo2 : ((i : Int) + k) < outs.length := by omega
          have hik : ((i : Int) + (k : Int)).toNat = i + k := by omega
          generalize dig ys k = y at g2 by_ hpr hnx
          generalize dig outs (i + k) = o at go bo hpr hnx
          have Hpr := Lib.hid hpr; have Hnx := Lib.hid hnx; have Hsx := Lib.hid hsx; have Hlen := Lib.hid hM.len
          clear hpr hnx hsx hM hI hyy hlo
          unfold B32 at bx by_ bo bc
          have hw := mul_wraps Hpr.out
          obtain ⟨t, et⟩ : ∃ t, t = x * y + o + c := ⟨_, rfl⟩
          rw [← et] at hw
          have hnx2 := Hnx.out
          rw [← et] at hnx2
          clear et Hpr Hnx
          have Hnx := Lib.hid hnx2; clear hnx2
          go_wp2_with fail
          have hset := Hsx.out (t % B32)
          go_roundg (ys.length - (k + 1))
          case measure => omega
          case rel => exact ⟨k + 1, t / B32, _, hlk, rfl, by go_num, rfl, hset, Hnx.out⟩
        · obtain rfl : k = ys.length := by omega
          have hr := hM.row hlt
          have hset := hI.set (i + ys.length) c
          have bc := hM.cl
          have hlo : i + ys.length < outs.length := by rw [hM.len]; omega
          have go := hI.cell hlo
          have fo := hI.free (i + ys.length)
          have hlo2 : ((i : Int) + ys.length) < outs.length := by omega
          have hik : ((i : Int) + (ys.length : Int)).toNat = i + ys.length := by omega
          generalize dig outs (i + ys.length) = o at go
          have Hr := Lib.hid hr; have Hset := Lib.hid hset; have Hlen := Lib.hid hM.len
          clear hr hset hM hI hlo
          unfold B32 at bc
          go_wp2_with fail
          go_roundg (xs.length - (i + 1))
          case measure => omega
          case rel => exact ⟨i + 1, _, hlt, rfl, by go_num, Hset.out, Hr.out⟩
    · obtain rfl : i = xs.length := by omega
      have hv := hM.done
      rw [Ea.out, Eb.out] at hv
      have hlimbs : IsLimbs wo (.slice (some ⟨w2.heap.size, 0, none⟩) (xs.length + ys.length) (xs.length + ys.length)) outs := isLimbs_row outs hI.row (by simp [u32s]) hM.len.symm (Nat.le_refl _) (by unfold maxLen; omega) hM.lim
      have Hl := Lib.hid hlimbs; have Hv := Lib.hid hv; have HI := Lib.hid hI
      clear hlimbs hv hI hM
      go_wp2_with fail
      refine (nmade_any _ outs _ Hl.out).mono ?_
      rintro e w8 ⟨v8, rfl, hn8, hb8⟩
      rw [Hv.out] at hn8
      obtain ⟨a8, c8, rfl⟩ := hn8.shape
      have hblk : w8.heap[w.heap.size + 1 + 1]? = some (.cells #[.slice none 0 0] 43 (0, 0)) := (hb8.block _ (by omega)).trans ((HI.out.below.block _ (by omega)).trans Hbr.out)
      have hcell := cell_of_one hblk; have hfz := free_of_one hblk; have hlt8 := lt_of_block hblk
      have Hn := Lib.hid hn8; have Hblk := Lib.hid hblk; have Hall := Lib.hid (Hbl.out.trans ((HI.out.below.trans (hb8.mono hsw)).mono Hbl.out.size))
      clear hn8 hblk hb8 cB
      go_wp2_with fail
      exact bodyPost_ret (v := .agg #[.slice a8 (limbsOf (a * b)).length c8]) (by simp [results, Tryz.results59, go_sem, hcell]) rfl ⟨_, rfl, Hn.out.setRes Hblk.out _, Hall.out.setCell (by simp; omega) _⟩
end Go.Proofs.YthmflcmbaldflaaGreatDoor
