/- Plans, plain: who needs whom; what an order is. -/
import Derived.Test.YtheemhelioendaaGreatDoorFitM
import Derived.Test.YtheemhelioendaaGreatDoorPkM
namespace Go.Proofs.YtheemhelioendaaGreatDoor
open Go.RowKit
set_option linter.unusedVariables false

/-- Those of an installation that item i needs by a line. -/
def leadN (items : List ItemM) (set i : Nat) (x : LineM) : List Nat := if x.kind = 2 ∧ numM items x.item = i ∧ set.testBit i = true then (amongM items x.other x.range).filter (fun k => set.testBit k && decide (k ≠ i)) else []
def leadsM (items : List ItemM) (set : Nat) (ls : List LineM) (i : Nat) : List Nat := ls.flatMap (leadN items set i)
theorem leadsM_snoc (items : List ItemM) (set : Nat) (ls : List LineM) (x : LineM) (i : Nat) : leadsM items set (ls ++ [x]) i = leadsM items set ls i ++ leadN items set i x := by
  unfold leadsM; rw [List.flatMap_append]; simp
theorem leadsM_take (items : List ItemM) (set : Nat) (ls : List LineM) (i k : Nat) (h : k < ls.length) : leadsM items set (ls.take (k + 1)) i = leadsM items set (ls.take k) i ++ leadN items set i ls[k] := by
  rw [List.take_succ_eq_append_getElem h, leadsM_snoc]
theorem leadN_len (items : List ItemM) (set i : Nat) (x : LineM) : (leadN items set i x).length ≤ items.length := by
  unfold leadN
  split
  · exact Nat.le_trans (List.length_filter_le _ _) (amongN_len _ _ _ _)
  · simp
theorem leadsM_len (items : List ItemM) (set i : Nat) : ∀ ls : List LineM, (leadsM items set ls i).length ≤ ls.length * items.length
  | [] => by simp [leadsM]
  | x :: l => by
    have h1 := leadsM_len items set i l
    have h2 := leadN_len items set i x
    unfold leadsM at h1 ⊢
    rw [List.flatMap_cons, List.length_append, List.length_cons, Nat.succ_mul]
    omega
theorem leadsM_mem {items : List ItemM} {set i k : Nat} {ls : List LineM} (h : k ∈ leadsM items set ls i) : k < items.length ∧ set.testBit k = true ∧ k ≠ i := by
  unfold leadsM at h
  obtain ⟨x, _, hk⟩ := List.mem_flatMap.1 h
  unfold leadN at hk
  split at hk
  · have := List.mem_filter.1 hk
    refine ⟨amongM_lt this.1, ?_⟩
    simpa using this.2
  · cases hk
/-- An order, as far as it is. -/
structure OrdPre (items : List ItemM) (set : Nat) (ls : List LineM) (l : List Nat) : Prop where
  inn : ∀ i ∈ l, i < items.length ∧ set.testBit i = true
  nodup : l.Nodup
  ready : ∀ j, (h : j < l.length) → ∀ k ∈ leadsM items set ls l[j], k ∈ l.take j
theorem OrdPre.nil (items : List ItemM) (set : Nat) (ls : List LineM) : OrdPre items set ls [] := ⟨fun i h => (by cases h), List.nodup_nil, fun j h => (by simp at h)⟩
theorem OrdPre.snoc {items : List ItemM} {set : Nat} {ls : List LineM} {l : List Nat} (h : OrdPre items set ls l) {i : Nat} (h1 : i < items.length) (h2 : set.testBit i = true) (h3 : i ∉ l) (h4 : ∀ k ∈ leadsM items set ls i, k ∈ l) : OrdPre items set ls (l ++ [i]) := by
  refine ⟨fun j hj => ?_, ?_, fun j hj k hk => ?_⟩
  · rcases List.mem_append.1 hj with q | q
    · exact h.inn j q
    · rw [List.mem_singleton.1 q]; exact ⟨h1, h2⟩
  · rw [List.nodup_append]
    refine ⟨h.nodup, by simp, fun a ha b hb e => ?_⟩
    rw [List.mem_singleton.1 hb] at e
    exact h3 (e ▸ ha)
  · by_cases e : j < l.length
    · rw [List.getElem_append_left e] at hk
      rw [List.take_append_of_le_length (Nat.le_of_lt e)]
      exact h.ready j e k hk
    · have e2 : j = l.length := by simp at hj; omega
      subst e2
      rw [List.getElem_append_right (Nat.le_refl _)] at hk
      simp only [Nat.sub_self, List.getElem_cons_zero] at hk
      rw [List.take_left]
      exact h4 k hk
theorem OrdPre.len {items : List ItemM} {set : Nat} {ls : List LineM} {l : List Nat} (h : OrdPre items set ls l) : l.length ≤ items.length := by
  have h2 : l.Nodup := h.nodup
  have : ∀ i ∈ l, i ∈ List.range items.length := fun i hi => List.mem_range.2 (h.inn i hi).1
  have := nodup_sub h2 this
  simpa using this
/-- The set of an order's items. -/
def bitsL (l : List Nat) : Nat := l.foldl (fun a i => a ||| 2 ^ i) 0
theorem bitsL_snoc (l : List Nat) (i : Nat) : bitsL (l ++ [i]) = bitsL l ||| 2 ^ i := by unfold bitsL; rw [List.foldl_append]; rfl
theorem foldl_test (k : Nat) : ∀ (l : List Nat) (a : Nat), (l.foldl (fun a i => a ||| 2 ^ i) a).testBit k = (a.testBit k || decide (k ∈ l))
  | [], a => by simp
  | i :: l, a => by
    rw [List.foldl_cons, foldl_test k l, Nat.testBit_or, Nat.testBit_two_pow, Bool.or_assoc]
    congr 1
    have e : (k ∈ i :: l) = (i = k ∨ k ∈ l) := propext (by rw [List.mem_cons]; exact ⟨fun h => h.imp Eq.symm id, fun h => h.imp Eq.symm id⟩)
    simp only [e, Bool.decide_or]
theorem bitsL_test (l : List Nat) (k : Nat) : (bitsL l).testBit k = decide (k ∈ l) := by
  unfold bitsL
  rw [foldl_test]; simp
theorem bitsL_lt {l : List Nat} {n : Nat} (h : ∀ i ∈ l, i < n) : bitsL l < 2 ^ n := Nat.lt_pow_two_of_testBit _ (fun i hi => by
  rw [bitsL_test, decide_eq_false]
  intro q
  have := h i q
  omega)
/-- The order is whole just if its set is the installation. -/
theorem bitsL_eq {l : List Nat} {set : Nat} : bitsL l = set ↔ ∀ k, set.testBit k = decide (k ∈ l) := by
  constructor
  · rintro rfl k; exact bitsL_test l k
  · intro h
    exact Nat.eq_of_testBit_eq (fun k => by rw [bitsL_test, h])
/-- May item i come next? -/
def readyB (items : List ItemM) (set : Nat) (ls : List LineM) (l : List Nat) (i : Nat) : Bool := set.testBit i && !decide (i ∈ l) && !(leadsM items set ls i).any (fun k => !decide (k ∈ l))
theorem readyB_true {items : List ItemM} {set : Nat} {ls : List LineM} {l : List Nat} {i : Nat} (h : readyB items set ls l i = true) : set.testBit i = true ∧ i ∉ l ∧ ∀ k ∈ leadsM items set ls i, k ∈ l := by
  unfold readyB at h
  simp only [Bool.and_eq_true, Bool.not_eq_true', decide_eq_false_iff_not] at h
  refine ⟨h.1.1, h.1.2, fun k hk => ?_⟩
  have := List.any_eq_false.1 h.2 k hk
  simpa using this
theorem readyB_false {items : List ItemM} {set : Nat} {ls : List LineM} {l : List Nat} {i : Nat} (h : readyB items set ls l i = false) (h1 : set.testBit i = true) (h2 : i ∉ l) : ∃ k ∈ leadsM items set ls i, k ∉ l := by
  unfold readyB at h
  rw [h1, decide_eq_false h2] at h
  simp only [Bool.not_false, Bool.true_and, Bool.not_eq_false', List.any_eq_true] at h
  obtain ⟨k, hk, e⟩ := h
  exact ⟨k, hk, by simpa using e⟩
/-- What Order says. -/
def Ordered (items : List ItemM) (set : Nat) (ls : List LineM) (l : List Nat) : Prop := OrdPre items set ls l ∧ bitsL l = set
/-- There is no way on. -/
def Cyclic (items : List ItemM) (set : Nat) (ls : List LineM) : Prop := ∃ l, OrdPre items set ls l ∧ bitsL l ≠ set ∧ ∀ i < items.length, readyB items set ls l i = false
end Go.Proofs.YtheemhelioendaaGreatDoor
