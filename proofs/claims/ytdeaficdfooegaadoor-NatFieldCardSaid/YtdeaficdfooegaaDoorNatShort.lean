/- Contracts: math/bits.Div32, count.short. -/
import Derived.Test.YtdeaficdfooegaaDoorNatMul
import Derived.Laws.Bits64b
import Derived.Test.YtdeaficdfooegaaDoorAMem
import Derived.Deep.QuietTactic
namespace Go.Proofs.YtdeaficdfooegaaDoor
open Go.RowKit
set_option linter.unusedVariables false

theorem or_high (h l : Nat) (hl : l < 4294967296) (hh : h < 4294967296) : bits .or .u64 ((h : Int) * 4294967296) (l : Int) = ((h * 4294967296 + l : Nat) : Int) := by
  have e : ((h : Int) * 4294967296) = ((h * 4294967296 : Nat) : Int) := by simp
  rw [e, bits_or_u64_nat _ _ (by omega) (by omega)]
  have h2 := Nat.shiftLeft_add_eq_or_of_lt (show l < 2 ^ 32 by omega) h
  rw [Nat.shiftLeft_eq] at h2
  rw [show (4294967296 : Nat) = 2 ^ 32 by rfl, ← h2]
set_option maxHeartbeats 1000000 in
theorem div32_any (hi lo d : Nat) (w : World) (h1 : hi < d) (h2 : lo < B32) (h3 : d < B32) :
    Calls Tryd.prog 83 #[.int .u32 hi, .int .u32 lo, .int .u32 d] w fun e w' => e = .returned (.tuple #[.int .u32 ((hi * B32 + lo) / d : Nat), .int .u32 ((hi * B32 + lo) % d : Nat)]) ∧ Below w.heap.size w w' := by
  unfold B32 at *
  have e1 : ((d : Int) != 0) = true := by simp; omega
  have e2 : decide ((d : Int) ≤ (hi : Int)) = false := by simp; omega
  have e3 : decide (d ≤ hi) = false := by simp; omega
  have ho := or_high hi lo h2 (by omega)
  have Ho := Lib.hid ho; clear ho
  go_enter Tryd.func83, Tryd.ntmps83
  go_wp2_with fail
  rw [Ho.out]
  have hd : (hi * 4294967296 + lo) / d < 4294967296 := by
    have : hi * 4294967296 + lo < 4294967296 * d := by
      have : (hi + 1) * 4294967296 ≤ d * 4294967296 := Nat.mul_le_mul_right _ h1
      omega
    exact Nat.div_lt_of_lt_mul (by rw [Nat.mul_comm d]; exact this)
  have hm : (hi * 4294967296 + lo) % d < 4294967296 := by have := Nat.mod_lt (hi * 4294967296 + lo) (show 0 < d by omega); omega
  have hN : hi * 4294967296 + lo < 18446744073709551616 := by omega
  obtain ⟨N, hNe⟩ : ∃ N, N = hi * 4294967296 + lo := ⟨_, rfl⟩
  rw [← hNe] at hd hm hN ⊢
  have HNe := Lib.hid hNe; clear hNe
  have q1 : IntKind.u64.wrap ((N : Int) / (d : Int)) % 4294967296 = ((N / d : Nat) : Int) := by
    rw [← Int.natCast_ediv]
    generalize N / d = t at hd ⊢
    rw [IntKind.wrap_u64]; omega
  have q2 : (N : Int) % (d : Int) % 4294967296 = ((N % d : Nat) : Int) := by
    rw [← Int.natCast_emod]
    generalize N % d = t at hm ⊢
    omega
  have hd0 : (d : Int) ≠ 0 := by omega
  have Q1 := Lib.hid q1; have Q2 := Lib.hid q2
  clear q1 q2 Ho e1 e2 e3 hd hm hN
  go_quiet (fail)
  go_wp2_with fail
  go_ret2
  rw [Q1.out, Q2.out, ← HNe.out]
  exact ⟨rfl, below_drewN (Below.refl _ _) _⟩

/-- Division by one limb: quotient's limbs, and the rest. -/
def shortL (d : Nat) : List Nat → List Nat × Nat
  | [] => ([], 0)
  | x :: xs => (((shortL d xs).2 * B32 + x) / d :: (shortL d xs).1, ((shortL d xs).2 * B32 + x) % d)
theorem short_spec {d : Nat} (h0 : 0 < d) (hd : d < B32) : ∀ xs, Limbs xs → (shortL d xs).2 < d ∧ (shortL d xs).1.length = xs.length ∧ Limbs (shortL d xs).1 ∧ valL (shortL d xs).1 * d + (shortL d xs).2 = valL xs
  | [], _ => ⟨h0, rfl, fun x hx => (by cases hx), by simp [shortL, valL]⟩
  | x :: xs, h => by
    have hx := h x List.mem_cons_self
    obtain ⟨h1, h2, h3, h4⟩ := short_spec h0 hd xs (fun y hy => h y (List.mem_cons_of_mem _ hy))
    simp only [shortL]
    generalize (shortL d xs).1 = q at h2 h3 h4 ⊢
    generalize (shortL d xs).2 = r at h1 h4 ⊢
    refine ⟨Nat.mod_lt _ h0, by simp [h2], fun y hy => ?_, ?_⟩
    · rcases List.mem_cons.1 hy with rfl | hy
      · refine Nat.div_lt_of_lt_mul ?_
        have : (r + 1) * B32 ≤ d * B32 := Nat.mul_le_mul_right _ h1
        rw [Nat.add_mul, Nat.one_mul] at this
        omega
      · exact h3 y hy
    · rw [valL, valL, ← h4]
      have h5 := Nat.div_add_mod (r * B32 + x) d
      generalize (r * B32 + x) / d = a at h5 ⊢
      generalize (r * B32 + x) % d = b at h5 ⊢
      rw [Nat.add_mul, Nat.mul_add, Nat.mul_assoc, ← Nat.mul_assoc B32, Nat.mul_comm a d, Nat.mul_comm B32 r] 
      omega
theorem short_val {d : Nat} (h0 : 0 < d) (hd : d < B32) {xs : List Nat} (hx : Limbs xs) : valL (shortL d xs).1 = valL xs / d ∧ (shortL d xs).2 = valL xs % d := by
  obtain ⟨h1, _, _, h4⟩ := short_spec h0 hd xs hx
  rw [← h4, Nat.mul_comm]
  exact ⟨by rw [Nat.mul_add_div h0, Nat.div_eq_of_lt h1, Nat.add_zero], by rw [Nat.mul_add_mod, Nat.mod_eq_of_lt h1]⟩
theorem short_drop {d : Nat} {xs : List Nat} {j : Nat} (hj : j < xs.length) : shortL d (xs.drop j) = (((shortL d (xs.drop (j + 1))).2 * B32 + xs[j]) / d :: (shortL d (xs.drop (j + 1))).1, ((shortL d (xs.drop (j + 1))).2 * B32 + xs[j]) % d) := by
  rw [List.drop_eq_getElem_cons hj]; rfl
/-- short on its way: what lies in the new row from k on. -/
structure ShI (W wr : World) (g : Nat) (outs xs : List Nat) (d k r : Nat) : Prop where
  mem : MulI W wr g outs
  len : outs.length = xs.length
  at_ : outs.drop k = (shortL d (xs.drop k)).1
  rest : r = (shortL d (xs.drop k)).2
theorem ShI.next {W wr w2 : World} {g : Nat} {outs xs : List Nat} {d j r : Nat} (h : ShI W wr g outs xs d (j + 1) r) (hj : j < xs.length) (hw : MulI W w2 g (outs.set j ((r * B32 + xs[j]) / d))) : ShI W w2 g (outs.set j ((r * B32 + xs[j]) / d)) xs d j ((r * B32 + xs[j]) % d) := by
  have hl := h.len
  refine ⟨hw, by simp [hl], ?_, ?_⟩
  · rw [short_drop hj, ← h.rest, ← h.at_, List.drop_eq_getElem_cons (by simp; omega), List.drop_set_of_lt (by omega)]
    simp
  · rw [short_drop hj, ← h.rest]

set_option maxRecDepth 100000 in
set_option maxHeartbeats 8000000 in
theorem short_any (d : Nat) (vs : Value) (xs : List Nat) (w : World) (h : IsLimbs w vs xs) (h0 : 0 < d) (hd : d < B32) (hl : xs.length ≤ 1000000) :
    Calls Tryd.prog 41 #[vs, .int .u32 d] w fun e w' => e = .returned (.tuple #[.slice (some ⟨w.heap.size, 0, none⟩) xs.length xs.length, .int .u32 ((valL xs % d : Nat) : Int)]) ∧ IsLimbs w' (.slice (some ⟨w.heap.size, 0, none⟩) xs.length xs.length) (shortL d xs).1 ∧ Below w.heap.size w w' := by
  obtain ⟨av, cv, rfl, hl1, hl2⟩ := h.shape
  have hmk := make_u32f xs.length (by omega)
  have hsv := short_val h0 hd h.limbs
  have H := Lib.hid h; have Hsv := Lib.hid hsv
  have hmd : madeCells #[.int .u32 0] xs.length = u32s (List.replicate xs.length 0) := by
    apply Array.toList_inj.1
    rw [toList_madeCells_one]; simp [u32s]
  rw [hmd] at hmk
  have hm0 : MulI w (w.alloc (.cells (u32s (List.replicate xs.length 0)) 79)) w.heap.size (List.replicate xs.length 0) := ⟨(Below.refl _ _).alloc (Nat.le_refl _) _, heap_at rfl⟩
  have Hm0 := Lib.hid hm0
  clear h hm0 hsv hmd
  go_enter Tryd.func41, Tryd.ntmps41
  go_wp2_with fail
  clear hmk
  go_loopg [7, 8] xs.length (fun gk cy i wr => ∃ (k r : Nat) (outs : List Nat), k = gk ∧ k ≤ xs.length ∧ i = .int .i64 ((k : Int) - 1) ∧ cy = .int .u32 r ∧ ShI w wr w.heap.size outs xs d k r)
  case atStart => exact ⟨xs.length, 0, _, rfl, Nat.le_refl _, by go_num, rfl, Hm0.out, by simp, by simp [shortL], by simp [shortL]⟩
  case round =>
    clear Hm0
    obtain ⟨k, r, outs, rfl, hk, rfl, rfl, hI⟩ := hrel
    rcases Nat.eq_zero_or_pos k with hz | hz
    · subst hz
      rw [show (((0 : Nat) : Int) - 1) = -1 by omega]
      have ho : outs = (shortL d xs).1 := by have := hI.at_; simpa using this
      have hr : r = valL xs % d := by have := hI.rest; rw [List.drop_zero] at this; rw [this, Hsv.out.2]
      have hsp := short_spec h0 hd xs H.out.limbs
      have HI := Lib.hid hI; have Ho := Lib.hid ho; have Hr := Lib.hid hr; have Hsp := Lib.hid hsp
      clear hI ho hr hsp
      go_wp2_with fail
      go_ret2
      rw [← Hr.out]
      refine ⟨rfl, ?_, HI.out.mem.below⟩
      rw [← Ho.out]
      exact isLimbs_row outs HI.out.mem.row (by simp [u32s]) HI.out.len.symm (Nat.le_refl _) (by unfold maxLen; omega) (by rw [Ho.out]; exact Hsp.out.2.2.1)
    · obtain ⟨j, rfl⟩ : ∃ j, k = j + 1 := ⟨k - 1, by omega⟩
      rw [show (((j + 1 : Nat) : Int) - 1) = (j : Int) by omega]
      have hj : j < xs.length := by omega
      have hrd : r < d := by
        rw [hI.rest]
        exact (short_spec h0 hd (xs.drop (j + 1)) (fun x hx => H.out.limbs x (List.mem_of_mem_drop hx))).1
      obtain ⟨b1, o1, rfl, lb1⟩ := H.out.addr hj
      have g1 := (H.out.below hI.mem.below).get hj
      have hxj := H.out.limbs _ (List.getElem_mem hj)
      have hnx := fun w2 hw => hI.next (w2 := w2) hj hw
      generalize xs[j] = x at g1 hxj hnx
      have hq := div32_any r x d wr hrd hxj hd
      have hji : (j : Int) < xs.length := by exact_mod_cast hj
      have hol : j < outs.length := by rw [hI.len]; exact hj
      have HI := Lib.hid hI; have Hq := Lib.hid hq; have Hnx := Lib.hid hnx; have Hol := Lib.hid hol
      clear hI hq hnx hol hxj hrd
      go_wp2_with fail
      refine Hq.out.mono ?_
      rintro e w3 ⟨rfl, hb3⟩
      have hm3 : MulI w w3 w.heap.size outs := ⟨HI.out.mem.below.trans (hb3.mono HI.out.mem.below.size), (hb3.block _ (lt_of_block HI.out.mem.row)).trans HI.out.mem.row⟩
      have c3 := hm3.cell Hol.out
      have f3 := hm3.free j
      have hset := hm3.set j ((r * B32 + x) / d)
      have Hset := Lib.hid (Hnx.out _ hset)
      clear hm3 hset hb3 Hq
      go_wp2_with fail
      go_roundg j
      case measure => omega
      case rel => exact ⟨j, _, _, rfl, by omega, by go_num, rfl, Hset.out⟩
end Go.Proofs.YtdeaficdfooegaaDoor
