/- Natural numbers in memory; contracts: made, Of. -/
import Derived.Test.YthmflcmbaldflaaGreatDoorNatM
import Derived.Deep.CutBlock
import Derived.BigQuiet
import Derived.OneCell
namespace Go.Proofs.YthmflcmbaldflaaGreatDoor
open Go.RowKit
set_option linter.unusedVariables false

/-- A value is a slice of the limbs xs. -/
def IsLimbs (w : World) (v : Value) (xs : List Nat) : Prop :=
  ∃ a b o c, v = .slice a xs.length c ∧ (xs ≠ [] → a = some ⟨b, o, none⟩) ∧ xs.length ≤ c ∧ c ≤ maxLen ∧ (∀ i (h : i < xs.length), w.cell? ⟨b, o + i, none⟩ = some (.int .u32 (xs[i] : Nat))) ∧ (xs ≠ [] → b < w.heap.size) ∧ Limbs xs
/-- A value is a number. -/
def IsNat (w : World) (v : Value) (n : Nat) : Prop := ∃ s, v = .agg #[s] ∧ IsLimbs w s (limbsOf n)

section
variable {w w' : World} {v : Value} {xs : List Nat}
theorem IsLimbs.below (h : IsLimbs w v xs) (hb : Below w.heap.size w w') : IsLimbs w' v xs := by
  obtain ⟨a, b, o, c, h1, h2, h3, h4, h5, h6, h7⟩ := h
  exact ⟨a, b, o, c, h1, h2, h3, h4, fun i hi => by rw [hb.cell (h6 (by intro e; subst e; simp at hi))]; exact h5 i hi, fun e => Nat.lt_of_lt_of_le (h6 e) hb.size, h7⟩
theorem IsLimbs.shape (h : IsLimbs w v xs) : ∃ a c, v = .slice a xs.length c ∧ xs.length ≤ c ∧ c ≤ 9223372036854775807 := by
  obtain ⟨a, b, o, c, rfl, _, h3, h4, _⟩ := h
  exact ⟨a, c, rfl, h3, by unfold maxLen at h4; omega⟩
theorem IsLimbs.limbs (h : IsLimbs w v xs) : Limbs xs := by obtain ⟨_, _, _, _, _, _, _, _, _, _, h7⟩ := h; exact h7
theorem IsLimbs.addr {a : Option Addr} {n c : Nat} (h : IsLimbs w (.slice a n c) xs) {k : Nat} (hk : k < xs.length) : ∃ b o, a = some ⟨b, o, none⟩ ∧ b < w.heap.size := by
  obtain ⟨_, b, o, _, hh, h2, _, _, _, h6, _⟩ := h
  cases hh
  exact ⟨b, o, h2 (by intro e; subst e; simp at hk), h6 (by intro e; subst e; simp at hk)⟩
theorem IsLimbs.get {b o n c : Nat} (h : IsLimbs w (.slice (some ⟨b, o, none⟩) n c) xs) {k : Nat} (hk : k < xs.length) : w.cell? ⟨b, o + k, none⟩ = some (.int .u32 (xs[k] : Nat)) := by
  obtain ⟨_, b', o', _, hh, h2, _, _, h5, _⟩ := h
  cases hh
  cases h2 (by intro e; subst e; simp at hk)
  exact h5 k hk
theorem IsLimbs.take {a : Option Addr} {n c : Nat} (h : IsLimbs w (.slice a n c) xs) {k : Nat} (hk : k ≤ xs.length) : IsLimbs w (.slice a k c) (xs.take k) := by
  obtain ⟨a', b, o, c', hh, h2, h3, h4, h5, h6, h7⟩ := h
  cases hh
  have hl : (xs.take k).length = k := by rw [List.length_take]; omega
  have hne : xs.take k ≠ [] → xs ≠ [] := fun h e => h (by subst e; simp)
  refine ⟨a, b, o, c, by rw [hl], fun h => h2 (hne h), by rw [hl]; omega, h4, fun i hi => ?_, fun h => h6 (hne h), fun x hx => h7 x (List.mem_of_mem_take hx)⟩
  rw [h5 i (by rw [hl] at hi; omega)]; simp
theorem isLimbs_row {g e n c : Nat} {cur : Array Value} {fz : Nat × Nat} (xs : List Nat) (h : w.heap[g]? = some (.cells cur e fz)) (hc : cur.toList = xs.map (fun x => Value.int .u32 (x : Nat))) (hn : n = xs.length) (hnc : n ≤ c) (hcm : c ≤ maxLen) (hx : Limbs xs) :
    IsLimbs w (.slice (some ⟨g, 0, none⟩) n c) xs := by
  subst hn
  refine ⟨_, g, 0, c, rfl, fun _ => rfl, hnc, hcm, fun i hi => ?_, fun _ => (Array.getElem?_eq_some_iff.1 h).1, hx⟩
  rw [cell_of_row w g (0 + i) cur e fz h, Nat.zero_add, ← Array.getElem?_toList, hc]
  simp [hi]
theorem isLimbs_nil (w : World) : IsLimbs w (.slice none 0 0) [] := ⟨none, 0, 0, 0, rfl, fun h => absurd rfl h, Nat.le_refl _, Nat.zero_le _, fun i hi => absurd hi (by simp), fun h => absurd rfl h, fun x hx => by cases hx⟩
theorem IsNat.below {n : Nat} (h : IsNat w v n) (hb : Below w.heap.size w w') : IsNat w' v n := by
  obtain ⟨s, rfl, hs⟩ := h; exact ⟨s, rfl, hs.below hb⟩
theorem IsNat.shape {n : Nat} (h : IsNat w v n) : ∃ a c, v = .agg #[.slice a (limbsOf n).length c] := by
  obtain ⟨s, rfl, hs⟩ := h
  obtain ⟨a, c, rfl, _⟩ := hs.shape
  exact ⟨a, c, rfl⟩
theorem IsNat.limbs {n : Nat} {a : Option Addr} {k c : Nat} (h : IsNat w (.agg #[.slice a k c]) n) : IsLimbs w (.slice a k c) (limbsOf n) := by
  obtain ⟨s, e, hs⟩ := h
  cases e; exact hs
theorem isNat_zero (w : World) : IsNat w (.agg #[.slice none 0 0]) 0 := ⟨_, rfl, by rw [limbs_zero]; exact isLimbs_nil w⟩
end

/-! ### A result's cell -/
theorem cell_one_inv {w : World} {b : Nat} {x v : Value} {t : TypeId} {o : Nat} (h : w.heap[b]? = some (.cells #[x] t (0, 0))) (hc : w.cell? ⟨b, o, none⟩ = some v) : v = x := by
  rw [cell_of_row w b o _ _ _ h] at hc
  rcases Nat.eq_zero_or_pos o with h0 | h0
  · subst h0; simpa using hc.symm
  · rw [Array.getElem?_eq_none (by simp; omega)] at hc; cases hc
theorem IsLimbs.setRes {w : World} {v : Value} {xs : List Nat} {R : Nat} {a : Option Addr} {n c : Nat} {t : TypeId} (h : IsLimbs w v xs) (hR : w.heap[R]? = some (.cells #[.slice a n c] t (0, 0))) (u : Value) : IsLimbs (w.setCell ⟨R, 0, none⟩ u) v xs := by
  obtain ⟨a', b, o, c', h1, h2, h3, h4, h5, h6, h7⟩ := h
  refine ⟨a', b, o, c', h1, h2, h3, h4, fun i hi => ?_, fun e => by have := h6 e; simpa using this, h7⟩
  have h8 := h5 i hi
  have hb : b ≠ R := fun e => by subst e; have := cell_one_inv hR h8; cases this
  rw [World.cell?_setCell_other (h := fun e => hb (by have := congrArg Addr.block e; simpa using this.symm))]
  exact h8
theorem IsNat.setRes {w : World} {v : Value} {k : Nat} {R : Nat} {a : Option Addr} {n c : Nat} {t : TypeId} (h : IsNat w v k) (hR : w.heap[R]? = some (.cells #[.slice a n c] t (0, 0))) (u : Value) : IsNat (w.setCell ⟨R, 0, none⟩ u) v k := by
  obtain ⟨s, rfl, hs⟩ := h; exact ⟨s, rfl, hs.setRes hR u⟩
/-- A result's cell, behind calls that make memory. -/
structure Res (w w1 : World) (t : TypeId) (x : Value) : Prop where
  blk : w1.heap[w.heap.size]? = some (.cells #[x] t (0, 0))
  below : Below w.heap.size w w1
theorem res_of {w w0 w1 : World} {t : TypeId} {x : Value} (h0 : w0.heap[w.heap.size]? = some (.cells #[x] t (0, 0))) (hb0 : Below w.heap.size w w0) (hb1 : Below w0.heap.size w0 w1) : Res w w1 t x :=
  ⟨(hb1.block _ (lt_of_block h0)).trans h0, hb0.trans (hb1.mono hb0.size)⟩
theorem Res.cell {w w1 : World} {t : TypeId} {x : Value} (h : Res w w1 t x) : w1.cell? ⟨w.heap.size, 0, none⟩ = some x := cell_of_one h.blk
theorem Res.free {w w1 : World} {t : TypeId} {x : Value} (h : Res w w1 t x) : w1.frozen? ⟨w.heap.size, 0, none⟩ = false := free_of_one h.blk
theorem Res.lt {w w1 : World} {t : TypeId} {x : Value} (h : Res w w1 t x) : w.heap.size < w1.heap.size := lt_of_block h.blk
theorem Res.set {w w1 : World} {t : TypeId} {x : Value} (h : Res w w1 t x) (u : Value) : Below w.heap.size w (w1.setCell ⟨w.heap.size, 0, none⟩ u) := h.below.setCell (by simp) u
theorem Res.on {w w1 w2 : World} {t : TypeId} {x : Value} (h : Res w w1 t x) (hb : Below w1.heap.size w1 w2) : Res w w2 t x := ⟨(hb.block _ h.lt).trans h.blk, h.below.trans (hb.mono h.below.size)⟩

theorem trim_stop {xs : List Nat} {j : Nat} (hx : Limbs xs) (hj : j < xs.length) (h0 : xs[j] ≠ 0) : trimL (xs.take (j + 1)) = xs.take (j + 1) := by
  refine trimL_done (fun x hx' => hx x (List.mem_of_mem_take hx')) ?_
  rw [List.take_succ_eq_append_getElem hj, List.getLast?_concat]
  intro e; exact h0 (by simpa using e)
theorem trim_step {xs : List Nat} {j : Nat} (hj : j < xs.length) (h0 : xs[j] = 0) : trimL (xs.take (j + 1)) = trimL (xs.take j) := by
  rw [List.take_succ_eq_append_getElem hj, h0, trimL_zero]

set_option maxHeartbeats 2000000 in
theorem made_at (a : Option Addr) (c : Nat) (xs : List Nat) (w : World) (h : IsLimbs w (.slice a xs.length c) xs) :
    Calls Tryz.prog 80 #[.slice a xs.length c] w fun e w' => ∃ k, e = .returned (.agg #[.slice a k c]) ∧ IsNat w' (.agg #[.slice a k c]) (valL xs) ∧ Below w.heap.size w w' := by
  obtain ⟨_, _, hsh, h1, h2⟩ := h.shape
  cases hsh
  have hb : Below w.heap.size w (w.alloc (.cells #[.slice none 0 0] 43)) := (Below.refl _ _).alloc (Nat.le_refl _) _
  have hw := h.below hb
  have H := Lib.hid hw; have Hw := Lib.hid h; clear h hw hb
  go_enter Tryz.func80, Tryz.ntmps80
  go_wp2_with fail
  go_loopg [0] xs.length (fun gk v wr => ∃ k : Nat, k = gk ∧ wr = w.alloc (.cells #[.slice none 0 0] 43) ∧ k ≤ xs.length ∧ v = .slice a k c ∧ trimL (xs.take k) = trimL xs)
  case atStart => exact ⟨_, rfl, rfl, Nat.le_refl _, rfl, by rw [List.take_length]⟩
  case round =>
    obtain ⟨k, rfl, rfl, hk, rfl, ht⟩ := hrel
    have Ht := Lib.hid ht; clear ht
    rcases Nat.eq_zero_or_pos k with h0 | h0
    · subst h0
      have hd : decide ((0 : Int) < ((0 : Nat) : Int)) = false := by decide
      go_wp2_with fail
      refine bodyPost_ret (v := .agg #[.slice a ((0 : Nat) : Nat) c]) (by simp [results, Tryz.results80, go_sem]) rfl ⟨_, rfl, ⟨_, rfl, ?_⟩, (Below.refl _ _).alloc (Nat.le_refl _) _⟩
      have e : limbsOf (valL xs) = xs.take 0 := by have := Ht.out; rw [List.take_zero] at this ⊢; exact this.symm.trans limbs_zero
      rw [e]
      exact (Hw.out.take (Nat.zero_le _)).below ((Below.refl _ _).alloc (Nat.le_refl _) _)
    · obtain ⟨j, rfl⟩ : ∃ j, k = j + 1 := ⟨k - 1, by omega⟩
      have hj : j < xs.length := by omega
      obtain ⟨b, o, rfl, lb⟩ := H.out.addr hj
      have hc := H.out.get hj
      have hx := H.out.limbs _ (List.getElem_mem hj)
      have hst := trim_step hj
      have hso := trim_stop H.out.limbs hj
      generalize xs[j] = x at hc hx hst hso
      have Hst := Lib.hid hst; have Hso := Lib.hid hso; clear hst hso
      by_cases hx0 : x = 0
      · have H0 := Lib.hid (Hst.out hx0)
        clear Hst Hso
        subst hx0
        go_wp2_with fail
        go_roundg j
        case measure => omega
        case rel => exact ⟨j, rfl, rfl, by omega, by go_num, H0.out.symm.trans Ht.out⟩
      · have hne : ((x : Int) == 0) = false := by simpa using hx0
        have H0 := Lib.hid (Hso.out hx0)
        clear Hst Hso
        go_wp2_with fail
        refine bodyPost_ret (v := .agg #[.slice (some ⟨b, o, none⟩) (j + 1) c]) (by simp [results, Tryz.results80, go_sem]) rfl ⟨_, rfl, ⟨_, rfl, ?_⟩, (Below.refl _ _).alloc (Nat.le_refl _) _⟩
        have e : limbsOf (valL xs) = xs.take (j + 1) := Ht.out.symm.trans H0.out
        rw [e]
        exact (Hw.out.take hk).below ((Below.refl _ _).alloc (Nat.le_refl _) _)
theorem nmade_any (vs : Value) (xs : List Nat) (w : World) (h : IsLimbs w vs xs) :
    Calls Tryz.prog 80 #[vs] w fun e w' => ∃ v, e = .returned v ∧ IsNat w' v (valL xs) ∧ Below w.heap.size w w' := by
  obtain ⟨a, c, rfl, h1, h2⟩ := h.shape
  exact (made_at a c xs w h).mono fun e w' ⟨k, h1, h2, h3⟩ => ⟨_, h1, h2, h3⟩
end Go.Proofs.YthmflcmbaldflaaGreatDoor
