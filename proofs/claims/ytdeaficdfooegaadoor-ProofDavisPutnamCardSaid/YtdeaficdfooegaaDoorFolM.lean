/- Plain law: clauses that follow from others stay small. No program in sight. -/
import Derived.Test.YtdeaficdfooegaaDoorFormM
namespace Go.Proofs.YtdeaficdfooegaaDoor
set_option linter.unusedVariables false

def rkL (x : Int) : Nat := 2 * x.natAbs + (if x < 0 then 1 else 0)
theorem bef_rk {x y : Int} (h : befB x y = true) : rkL x < rkL y := by
  rw [befB_iff] at h
  unfold rkL
  split <;> split <;> omega
theorem risen_len {c : List Int} (h : Risen c) (hb : ∀ x ∈ c, -24 ≤ x ∧ x ≤ 24) : c.length ≤ 50 := by
  have key : ∀ i (hi : i < c.length), i ≤ rkL c[i] := by
    intro i
    induction i with
    | zero => intro _; exact Nat.zero_le _
    | succ i ih =>
      intro hi
      have h1 := ih (by omega)
      have h2 := bef_rk (List.pairwise_iff_getElem.1 h i (i + 1) (by omega) hi (by omega))
      omega
  rcases Nat.eq_zero_or_pos c.length with h0 | h0
  · omega
  · have h1 := key (c.length - 1) (by omega)
    have h2 := hb _ (List.getElem_mem (show c.length - 1 < c.length by omega))
    unfold rkL at h1
    split at h1 <;> omega
/-- Small clauses. -/
def Sm24 (c : List Int) : Prop := (∀ x ∈ c, -24 ≤ x ∧ x ≤ 24) ∧ c.length ≤ 50
theorem Sm24.res {a b : List Int} {v : Int} (ha : Sm24 a) (hb : Sm24 b) : Sm24 (formL (leftL a b v)) := by
  have h : ∀ x ∈ formL (leftL a b v), -24 ≤ x ∧ x ≤ 24 := fun x hx => by
    rcases mem_left.1 ((mem_form x).1 hx) with ⟨h, _⟩ | ⟨h, _⟩
    · exact ha.1 x h
    · exact hb.1 x h
  exact ⟨h, risen_len (form_risen _) h⟩
theorem Sm24.b1000 {c : List Int} (h : Sm24 c) : ∀ x ∈ c, -1000 ≤ x ∧ x ≤ 1000 := fun x hx => by have := h.1 x hx; omega
theorem allB_mem {vals : Nat} {l : List (List Int)} (h : allB vals l = true) {c : List Int} (hc : c ∈ l) : clB vals c = true := List.all_eq_true.1 h c hc
theorem allB_snoc {vals : Nat} {l : List (List Int)} {c : List Int} (h : allB vals l = true) (hc : clB vals c = true) : allB vals (l ++ [c]) = true := by
  unfold allB at *; rw [List.all_append, h]; simp [hc]
/-- What the loop keeps: all clauses are small, and hold wherever those told do. -/
structure FolI (l all : List (List Int)) (k : Nat) : Prop where
  len : all.length = l.length + k
  pre : all.take l.length = l
  small : ∀ c ∈ all, Sm24 c
  sound : ∀ vals, allB vals l = true → allB vals all = true
theorem FolI.zero {l : List (List Int)} (h : ∀ c ∈ l, Sm24 c) : FolI l l 0 := ⟨rfl, List.take_length, h, fun _ h => h⟩
theorem FolI.step {l all : List (List Int)} {k : Nat} (h : FolI l all k) {a b : List Int} (ha : a ∈ all) (hb : b ∈ all) {v : Int} (h0 : 0 ≤ v) : FolI l (all ++ [formL (leftL a b v)]) (k + 1) := by
  refine ⟨by rw [List.length_append, h.len]; simp; omega, ?_, fun c hc => ?_, fun vals hv => ?_⟩
  · rw [List.take_append_of_le_length (by rw [h.len]; omega)]; exact h.pre
  · rcases List.mem_append.1 hc with h1 | h1
    · exact h.small c h1
    · rw [List.mem_singleton.1 h1]; exact (h.small a ha).res (h.small b hb)
  · have hs := h.sound vals hv
    refine allB_snoc hs ?_
    rw [clB_form]
    exact left_holds (f := vals.testBit) h0 (allB_mem hs ha) (allB_mem hs hb)
theorem FolI.rest {l all : List (List Int)} {k : Nat} (h : FolI l all k) : (all.drop l.length).length = k ∧ (∀ c ∈ all.drop l.length, Sm24 c) ∧ ∀ vals, allB vals l = true → allB vals (all.drop l.length) = true := by
  refine ⟨by rw [List.length_drop, h.len]; omega, fun c hc => h.small c (List.mem_of_mem_drop hc), fun vals hv => ?_⟩
  have := h.sound vals hv
  unfold allB at *
  rw [List.all_eq_true] at *
  exact fun c hc => this c (List.mem_of_mem_drop hc)
end Go.Proofs.YtdeaficdfooegaaDoor
