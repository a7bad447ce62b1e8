/- Contract: (count.Nat).Double. -/
import Derived.Test.YthmflcmbaldflaaGreatDoorNatMul
import Derived.Deep.RegionWith
namespace Go.Proofs.YthmflcmbaldflaaGreatDoor
open Go.RowKit
set_option linter.unusedVariables false

theorem limbs_mono {m n : Nat} (h : m ≤ n) : (limbsOf m).length ≤ (limbsOf n).length := by
  rcases Nat.lt_or_ge (limbsOf n).length (limbsOf m).length with h1 | h1
  · have := limbs_short h1; omega
  · exact h1
/-- Double on its way: the box's slice is a number. -/
structure DblI (w wr : World) (s : Value) (m : Nat) : Prop where
  below : Below w.heap.size w wr
  nat : IsNat wr (.agg #[s]) m
  box : wr.heap[w.heap.size]? = some (.cells #[s] 43 (0, 0))
  res : wr.heap[w.heap.size + 1]? = some (.cells #[.slice none 0 0] 43 (0, 0))

structure DblI9 (w wr : World) (s s9 : Value) (n : Nat) : Prop where
  below : Below w.heap.size w wr
  nat : IsNat wr (.agg #[s9]) n
  box : wr.heap[w.heap.size]? = some (.cells #[s] 43 (0, 0))
  res : wr.heap[w.heap.size + 1]? = some (.cells #[.slice none 0 0] 43 (0, 0))
theorem DblI9.set {w w9 : World} {a a9 : Option Addr} {n n9 c c9 k : Nat} (h : DblI9 w w9 (.slice a n c) (.slice a9 n9 c9) k) : DblI w (w9.setCell ⟨w.heap.size, 0, none⟩ (.slice a9 n9 c9)) (.slice a9 n9 c9) k :=
  ⟨h.below.setCell (Nat.le_refl _) _, h.nat.setRes h.box _, one_setCell h.box, by rw [Below.heap_setCell _ _ _ _ (by simp)]; exact h.res⟩
theorem limbs_pow (t : Nat) (h : t ≤ 31) : limbsOf (2 ^ t) = [2 ^ t] := by
  have h1 : 2 ^ t ≤ 2 ^ 31 := Nat.pow_le_pow_right (by decide) h
  have h2 := limbs_val [2 ^ t] (fun x hx => by rw [List.mem_singleton.1 hx]; unfold B32; omega) (by have := Nat.two_pow_pos t; simp)
  simpa [valL] using h2
theorem wrap_pow (t : Nat) (h : t ≤ 31) : IntKind.u32.wrap (2 ^ t) = ((2 ^ t : Nat) : Int) := by
  have h1 : 2 ^ t ≤ 2 ^ 31 := Nat.pow_le_pow_right (by decide) h
  rw [show ((2 : Int) ^ t) = ((2 ^ t : Nat) : Int) by simp]
  generalize 2 ^ t = p at *
  rw [IntWalk.u32_in _ ⟨by omega, by omega⟩]
theorem isNat_big {w : World} : IsNat (w.alloc (.cells #[.int .u32 2147483648] 88)).drew (.agg #[.slice (some ⟨w.heap.size, 0, none⟩) 1 1]) (2 ^ 31) := by
  refine ⟨_, rfl, ?_⟩
  rw [limbs_pow 31 (by decide)]
  exact isLimbs_row [2 ^ 31] (show (w.alloc _).heap[w.heap.size]? = _ from heap_at rfl) (by simp) rfl (Nat.le_refl _) (by decide) (fun x hx => by rw [List.mem_singleton.1 hx]; unfold B32; omega)
theorem isNat_pow {w : World} (t : Nat) (h : t ≤ 31) : IsNat (w.alloc (.cells #[.int .u32 (IntKind.u32.wrap (2 ^ t))] 88)).drew (.agg #[.slice (some ⟨w.heap.size, 0, none⟩) 1 1]) (2 ^ t) := by
  refine ⟨_, rfl, ?_⟩
  rw [limbs_pow t h, wrap_pow t h]
  exact isLimbs_row [2 ^ t] (show (w.alloc _).heap[w.heap.size]? = _ from heap_at rfl) (by simp) rfl (Nat.le_refl _) (by decide) (fun x hx => by
    have h1 : 2 ^ t ≤ 2 ^ 31 := Nat.pow_le_pow_right (by decide) h
    rw [List.mem_singleton.1 hx]; unfold B32; omega)
theorem pow_short (t : Nat) (h : t ≤ 31) : (limbsOf (2 ^ t)).length ≤ 1000000 := by rw [limbs_pow t h]; simp
theorem below_pow {w : World} (o : Obj) : Below w.heap.size w (w.alloc o).drew := ((Below.refl _ _).alloc (Nat.le_refl _) _).drew
theorem DblI.next9 {w wr w9 : World} {o : Obj} {s s9 : Value} {m n : Nat} (h : DblI w wr s m) (hb : Below (wr.alloc o).drew.heap.size (wr.alloc o).drew w9) (hn : IsNat w9 (.agg #[s9]) n) : DblI9 w w9 s s9 n := by
  have hb2 : Below wr.heap.size wr w9 := (below_pow o).trans (hb.mono (below_pow o).size)
  exact ⟨h.below.trans (hb2.mono h.below.size), hn, (hb2.block _ (lt_of_block h.box)).trans h.box, (hb2.block _ (lt_of_block h.res)).trans h.res⟩
set_option maxRecDepth 100000 in
set_option maxHeartbeats 8000000 in
theorem Double_any (a T : Nat) (va : Value) (w : World) (ha : IsNat w va a) (hT : T ≤ 1000) (hla : (limbsOf (a * 2 ^ T)).length ≤ 1000000) :
    Calls Tryz.prog 32 #[va, .int .i64 T] w fun e w' => ∃ v, e = .returned v ∧ IsNat w' v (a * 2 ^ T) ∧ Below w.heap.size w w' := by
  obtain ⟨aa, ca, rfl⟩ := ha.shape
  have hbl : Below w.heap.size w ((w.alloc (.cells #[.slice aa (limbsOf a).length ca] 43)).alloc (.cells #[.slice none 0 0] 43)) := ((Below.refl _ _).alloc (Nat.le_refl _) _).alloc (by simp) _
  have hst : DblI w ((w.alloc (.cells #[.slice aa (limbsOf a).length ca] 43)).alloc (.cells #[.slice none 0 0] 43)) (.slice aa (limbsOf a).length ca) a := ⟨hbl, ha.below hbl, heap_up (heap_at rfl), heap_at (by simp)⟩
  have Hst := Lib.hid hst; have Hla := Lib.hid hla
  clear ha hst hbl hla
  have hmin : min (T : Int) 1000 = T := by omega
  go_enter Tryz.func32, Tryz.ntmps32
  go_wp2_with fail
  go_loopg [1] T (fun gk i wr => ∃ (t m : Nat) (s : Value), t = gk ∧ t ≤ T ∧ i = .int .i64 t ∧ DblI w wr s m ∧ m * 2 ^ t = a * 2 ^ T)
  case atStart => exact ⟨T, a, _, rfl, Nat.le_refl _, by go_num, Hst.out, rfl⟩
  case round =>
    clear Hst hmin
    obtain ⟨t, m, s, rfl, ht, rfl, hI, hv⟩ := hrel
    rcases Nat.eq_zero_or_pos t with h0 | h0
    · subst h0
      obtain ⟨a8, c8, e8⟩ := hI.nat.shape
      cases e8
      have hm : m = a * 2 ^ T := by simpa using hv
      subst hm
      have c2 := cell_of_one hI.box
      have c4 := cell_of_one hI.res; have f4 := free_of_one hI.res; have l4 := lt_of_block hI.res
      have HI := Lib.hid hI
      clear hI hv
      go_wp2_with fail
      exact bodyPost_ret (v := .agg #[.slice a8 (limbsOf (a * 2 ^ T)).length c8]) (by simp [results, Tryz.results32, go_sem, c4]) rfl ⟨_, rfl, HI.out.nat.setRes HI.out.res _, HI.out.below.setCell (by simp) _⟩
    · obtain ⟨a8, c8, e8⟩ := hI.nat.shape
      cases e8
      have c2 := cell_of_one hI.box
      have f2 := free_of_one hI.box
      have HI := Lib.hid hI; have Hv := Lib.hid hv
      clear hI hv
      have hmm := limbs_mono (m := m) (n := a * 2 ^ T) (by rw [← Hv.out]; exact Nat.le_mul_of_pos_right _ (Nat.two_pow_pos t))
      have hlm : (limbsOf m).length ≤ 1000000 := Nat.le_trans hmm Hla.out
      clear hmm
      have Hlm := Lib.hid hlm; clear hlm
      have mulq := fun (n : Nat) (vb : Value) (w' : World) (hb : IsNat w' vb n) (hw : Below wr.heap.size wr w') (hl : (limbsOf n).length ≤ 1000000) => Mul_any m n (.agg #[.slice a8 (limbsOf m).length c8]) vb w' (HI.out.nat.below hw) hb Hlm.out hl
      have Mulq := Lib.hid mulq; clear mulq
      by_cases h31 : (t : Int) ≤ 31
      · have hm31 : min (t : Int) 31 = (t : Int) := by omega
        have l2 := lt_of_block HI.out.box
        have c2b : (wr.alloc (.cells #[.int .u32 (IntKind.u32.wrap (2 ^ t))] 88)).drew.cell? ⟨w.heap.size, 0, none⟩ = some (.slice a8 (limbsOf m).length c8) := cell_of_one (((below_pow _).block _ l2).trans HI.out.box)
        go_wp2_with fail
        go_region_with (go_at_call 59; refine (Mulq.out (2 ^ t) _ _ (isNat_pow (w := wr) t (by omega)) (below_pow (w := wr) _) (pow_short t (by omega))).mono ?_; rintro e w9 ⟨v9, rfl, hn9, hb9⟩; obtain ⟨a9, c9, rfl⟩ := hn9.shape; have hd9 := HI.out.next9 hb9 hn9; have h91 := cell_of_one hd9.box; have h92 := free_of_one hd9.box; have h93 := lt_of_block hd9.box; have H9 := Lib.hid hd9; clear hn9 hb9 hd9)
        all_goals
          go_wp2_with fail
          have H9s := Lib.hid H9.out.set
          go_roundg 0
          case measure => omega
          case rel => exact ⟨0, _, _, rfl, Nat.zero_le _, by go_num, H9s.out, by have := Hv.out; simpa using this⟩
      · have hm31 : min (t : Int) 31 = 31 := by omega
        have l2 := lt_of_block HI.out.box
        have h31' : ¬ ((t : Int) ≤ 31) := h31
        have c2b : (wr.alloc (.cells #[.int .u32 2147483648] 88)).drew.cell? ⟨w.heap.size, 0, none⟩ = some (.slice a8 (limbsOf m).length c8) := cell_of_one (((below_pow _).block _ l2).trans HI.out.box)
        go_wp2_with fail
        go_region_with (go_at_call 59; refine (Mulq.out (2 ^ 31) _ _ (isNat_big (w := wr)) (below_pow (w := wr) _) (pow_short 31 (by decide))).mono ?_; rintro e w9 ⟨v9, rfl, hn9, hb9⟩; obtain ⟨a9, c9, rfl⟩ := hn9.shape; have hd9 := HI.out.next9 hb9 hn9; have h91 := cell_of_one hd9.box; have h92 := free_of_one hd9.box; have h93 := lt_of_block hd9.box; have H9 := Lib.hid hd9; clear hn9 hb9 hd9)
        all_goals
          go_wp2_with fail
          have H9s := Lib.hid H9.out.set
          go_roundg (t - 31)
          case measure => omega
          case rel => exact ⟨t - 31, _, _, rfl, by omega, by go_num, H9s.out, by rw [← Hv.out, Nat.mul_assoc, ← Nat.pow_add, show 31 + (t - 31) = t by omega]⟩
end Go.Proofs.YthmflcmbaldflaaGreatDoor
