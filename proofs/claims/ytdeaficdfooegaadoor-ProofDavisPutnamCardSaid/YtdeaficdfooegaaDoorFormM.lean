/- Plain law: clauses in form, and what follows from two (Robinson). No program in sight. -/
import Derived.Test.YtdeaficdfooegaaDoorSpec
import Derived.Lib.SlicesCompact
namespace Go.Proofs.YtdeaficdfooegaaDoor
set_option linter.unusedVariables false

/-- How proof.Form's order parts two literals. -/
def befC (x y : Int) : Int := if max x (-x) = max y (-y) then y - x else max x (-x) - max y (-y)
def befB (x y : Int) : Bool := decide (befC x y < 0)
theorem befB_iff {x y : Int} : befB x y = true ↔ (max x (-x) < max y (-y) ∨ (max x (-x) = max y (-y) ∧ y < x)) := by
  unfold befB befC
  rw [decide_eq_true_iff]
  split <;> omega
theorem bef_irrefl (x : Int) : befB x x = false := by
  cases h : befB x x with
  | false => rfl
  | true => rw [befB_iff] at h; omega
theorem bef_trans {x y z : Int} (h1 : befB x y = true) (h2 : befB y z = true) : befB x z = true := by
  rw [befB_iff] at *; omega
theorem bef_total {x y : Int} (h1 : befB x y = false) (h2 : befB y x = false) : x = y := by
  have e1 : ¬ befB x y = true := by rw [h1]; simp
  have e2 : ¬ befB y x = true := by rw [h2]; simp
  rw [befB_iff] at e1 e2; omega
theorem bef_asymm {x y : Int} (h : befB x y = true) : befB y x = false := by
  cases g : befB y x with
  | false => rfl
  | true => rw [befB_iff] at *; omega
theorem bef_ntrans {x y z : Int} (h1 : befB x y = false) (h2 : befB y z = false) : befB x z = false := by
  cases g : befB x z with
  | false => rfl
  | true =>
    have e1 : ¬ befB x y = true := by rw [h1]; simp
    have e2 : ¬ befB y z = true := by rw [h2]; simp
    rw [befB_iff] at e1 e2 g; omega
/-- x stands no later than y. -/
def befLe (x y : Int) : Bool := !befB y x
theorem le_trans' {x y z : Int} (h1 : befLe x y = true) (h2 : befLe y z = true) : befLe x z = true := by
  unfold befLe at *; rw [Bool.not_eq_true'] at *; exact bef_ntrans h2 h1
theorem le_total' (x y : Int) : (befLe x y || befLe y x) = true := by
  unfold befLe
  cases h : befB y x with
  | false => rfl
  | true => rw [bef_asymm h]; rfl
theorem lt_of_le_ne {x y : Int} (h : befLe x y = true) (hne : x ≠ y) : befB x y = true := by
  cases g : befB x y with
  | true => rfl
  | false =>
    unfold befLe at h; rw [Bool.not_eq_true'] at h
    exact absurd (bef_total g h) hne
theorem lt_of_le_lt {x y z : Int} (h : befLe x y = true) (h2 : befB y z = true) : befB x z = true := by
  by_cases e : x = y
  · rw [e]; exact h2
  · exact bef_trans (lt_of_le_ne h e) h2

/-- In order, each once. -/
def Risen (c : List Int) : Prop := c.Pairwise (fun x y => befB x y = true)
theorem mem_compact {zs : List Int} (x : Int) : x ∈ Lib.compact zs ↔ x ∈ zs := by
  unfold Lib.compact Lib.compactUpTo
  rw [List.mem_map]
  constructor
  · rintro ⟨j, hj, rfl⟩
    rw [List.mem_filter, List.mem_range] at hj
    have : zs.toArray[j]! = zs[j]'hj.1 := by simp [getElem!_pos, hj.1]
    rw [this]; exact List.getElem_mem _
  · intro hx
    obtain ⟨j, hj, rfl⟩ := List.getElem_of_mem hx
    induction j with
    | zero => exact ⟨0, by rw [List.mem_filter, List.mem_range]; exact ⟨hj, Lib.keeps_lt_one _ 0 (by omega)⟩, by simp [getElem!_pos, hj]⟩
    | succ j ih =>
      by_cases e : zs.toArray[j + 1]! = zs.toArray[j]!
      · obtain ⟨i, hi, he⟩ := ih (by omega) (List.getElem_mem _)
        refine ⟨i, hi, he.trans ?_⟩
        have h1 : zs.toArray[j + 1]! = zs[j + 1]'hj := by simp [getElem!_pos, hj]
        have h2 : zs.toArray[j]! = zs[j]'(by omega) := by simp [getElem!_pos, show j < zs.length by omega]
        rw [← h1, ← h2, e]
      · exact ⟨j + 1, by rw [List.mem_filter, List.mem_range]; exact ⟨hj, Lib.keeps_pos e⟩, by simp [getElem!_pos, hj]⟩
theorem risen_compact {zs : List Int} (h : zs.Pairwise (fun x y => befLe x y = true)) : Risen (Lib.compact zs) := by
  unfold Risen Lib.compact Lib.compactUpTo
  rw [List.pairwise_map]
  refine List.Pairwise.imp_of_mem ?_ (List.Pairwise.filter _ List.pairwise_lt_range)
  intro i j hi hj hij
  rw [List.mem_filter, List.mem_range] at hi hj
  have hk : zs.toArray[j]! ≠ zs.toArray[j - 1]! := by
    have := hj.2
    unfold Lib.keeps at this
    rw [decide_eq_true_iff] at this
    rcases this with e | e
    · omega
    · exact e
  have ei : zs.toArray[i]! = zs[i]'hi.1 := by simp [getElem!_pos, hi.1]
  have ej : zs.toArray[j]! = zs[j]'hj.1 := by simp [getElem!_pos, hj.1]
  have ep : zs.toArray[j - 1]! = zs[j - 1]'(by omega) := by simp [getElem!_pos, show j - 1 < zs.length by omega]
  have hp := List.pairwise_iff_getElem.1 h
  have l2 : befB zs[j - 1] zs[j] = true := lt_of_le_ne (hp (j - 1) j (by omega) hj.1 (by omega)) (by rw [← ep, ← ej]; exact Ne.symm hk)
  rw [ei, ej]
  by_cases e : i = j - 1
  · subst e; exact l2
  · exact lt_of_le_lt (hp i (j - 1) (by omega) (by omega) (by omega)) l2
theorem compact_risen {zs : List Int} (h : Risen zs) : Lib.compact zs = zs := by
  refine Lib.compact_all zs (fun j hj => ?_)
  by_cases h0 : j = 0
  · subst h0; exact Lib.keeps_lt_one _ 0 (by omega)
  · refine Lib.keeps_pos ?_
    have e1 : zs.toArray[j]! = zs[j]'hj := by simp [getElem!_pos, hj]
    have e2 : zs.toArray[j - 1]! = zs[j - 1]'(by omega) := by simp [getElem!_pos, show j - 1 < zs.length by omega]
    have := List.pairwise_iff_getElem.1 h (j - 1) j (by omega) hj (by omega)
    rw [e1, e2]
    intro e
    rw [e, bef_irrefl] at this; cases this

/-- A clause in form: in order, each once. -/
def formL (xs : List Int) : List Int := Lib.compact (xs.mergeSort befLe)
theorem mem_form {xs : List Int} (x : Int) : x ∈ formL xs ↔ x ∈ xs := by unfold formL; rw [mem_compact, List.mem_mergeSort]
theorem sorted_form (xs : List Int) : (xs.mergeSort befLe).Pairwise (fun x y => befLe x y = true) :=
  List.pairwise_mergeSort (le := befLe) (fun _ _ _ h1 h2 => le_trans' h1 h2) (fun a b => le_total' a b) xs
theorem form_risen (xs : List Int) : Risen (formL xs) := risen_compact (sorted_form xs)
theorem Risen.le {xs : List Int} (h : Risen xs) : xs.Pairwise (fun x y => befLe x y = true) :=
  List.Pairwise.imp (fun hb => by unfold befLe; rw [bef_asymm hb]; rfl) h
theorem form_of_risen {xs : List Int} (h : Risen xs) : formL xs = xs := by
  unfold formL
  rw [List.mergeSort_of_pairwise h.le, compact_risen h]
theorem form_idem (xs : List Int) : formL (formL xs) = formL xs := form_of_risen (form_risen xs)
theorem form_len (xs : List Int) : (formL xs).length ≤ xs.length := by
  unfold formL Lib.compact Lib.compactUpTo
  rw [List.length_map]
  refine Nat.le_trans (List.length_filter_le _ _) ?_
  rw [List.length_range, List.length_mergeSort]; exact Nat.le_refl _
/-- Two neighbours are against each other. -/
def alwaysL (c : List Int) : Bool := (List.range (c.length - 1)).any (fun i => c.getD (i + 1) 0 == -c.getD i 0)
theorem always_iff {c : List Int} : alwaysL c = true ↔ ∃ i, ∃ h : i + 1 < c.length, c[i + 1] = -c[i] := by
  unfold alwaysL
  rw [List.any_eq_true]
  constructor
  · rintro ⟨i, hi, e⟩
    rw [List.mem_range] at hi
    rw [beq_iff_eq, getD_at _ _ (show i + 1 < c.length by omega), getD_at _ _ (show i < c.length by omega)] at e
    exact ⟨i, by omega, e⟩
  · rintro ⟨i, h, e⟩
    exact ⟨i, by rw [List.mem_range]; omega, by rw [beq_iff_eq, getD_at _ _ h, getD_at _ _ (show i < c.length by omega)]; exact e⟩
theorem always_mem {c : List Int} (h : alwaysL c = true) : ∃ x, x ∈ c ∧ -x ∈ c := by
  obtain ⟨i, hi, e⟩ := always_iff.1 h
  exact ⟨c[i], List.getElem_mem _, by rw [← e]; exact List.getElem_mem _⟩
/-- In a clause in form a literal and its opposite are neighbours. -/
theorem mem_always {c : List Int} (hr : Risen c) {x : Int} (h0 : x ≠ 0) (h1 : x ∈ c) (h2 : -x ∈ c) : alwaysL c = true := by
  have key : ∀ p : Int, 0 < p → p ∈ c → -p ∈ c → alwaysL c = true := by
    intro p hp m1 m2
    obtain ⟨i, hi, ei⟩ := List.getElem_of_mem m1
    obtain ⟨j, hj, ej⟩ := List.getElem_of_mem m2
    have hq := List.pairwise_iff_getElem.1 hr
    have hij : i < j := by
      rcases Nat.lt_trichotomy i j with h | h | h
      · exact h
      · subst h; omega
      · have := hq j i hj hi h
        rw [ei, ej, befB_iff] at this; omega
    refine always_iff.2 ⟨i, by omega, ?_⟩
    by_cases e : j = i + 1
    · subst e; rw [ej, ei]
    · have a1 := hq i (i + 1) hi (by omega) (by omega)
      have a2 := hq (i + 1) j (by omega) hj (by omega)
      rw [ei, befB_iff] at a1
      rw [ej, befB_iff] at a2
      omega
  by_cases hx : 0 < x
  · exact key x hx h1 h2
  · exact key (-x) (by omega) h2 (by rw [Int.neg_neg]; exact h1)

/-- A literal, of values told by a function. -/
def litF (f : Nat → Bool) (x : Int) : Bool := if 0 < x then f (x.toNat - 1) else decide (x < 0) && !f ((-x).toNat - 1)
theorem litF_bits (v : Nat) (x : Int) : litF v.testBit x = litB v x := rfl
def clF (f : Nat → Bool) (c : List Int) : Bool := c.any (litF f)
def allF (f : Nat → Bool) (l : List (List Int)) : Bool := l.all (clF f)
theorem clF_bits (v : Nat) (c : List Int) : clF v.testBit c = clB v c := rfl
theorem allF_bits (v : Nat) (l : List (List Int)) : allF v.testBit l = allB v l := rfl
theorem litF_neg {f : Nat → Bool} {x : Int} (h0 : x ≠ 0) : litF f (-x) = !litF f x := by
  unfold litF
  by_cases hx : 0 < x
  · have h1 : ¬ 0 < -x := by omega
    have h2 : -x < 0 := by omega
    rw [if_neg h1, if_pos hx, decide_eq_true h2, Int.neg_neg]; simp
  · have h1 : 0 < -x := by omega
    have h2 : x < 0 := by omega
    rw [if_pos h1, if_neg hx, decide_eq_true h2]; simp
theorem clF_mem {f : Nat → Bool} {c : List Int} : clF f c = true ↔ ∃ x ∈ c, litF f x = true := by unfold clF; rw [List.any_eq_true]
theorem clF_same {f : Nat → Bool} {c d : List Int} (h : ∀ x, x ∈ c ↔ x ∈ d) : clF f c = clF f d := by
  rw [Bool.eq_iff_iff, clF_mem, clF_mem]
  exact ⟨fun ⟨x, a, b⟩ => ⟨x, (h x).1 a, b⟩, fun ⟨x, a, b⟩ => ⟨x, (h x).2 a, b⟩⟩
theorem clF_form (f : Nat → Bool) (c : List Int) : clF f (formL c) = clF f c := clF_same mem_form
theorem clB_form (v : Nat) (c : List Int) : clB v (formL c) = clB v c := clF_form v.testBit c
theorem clF_taut {f : Nat → Bool} {c : List Int} (hz : ∀ x ∈ c, x ≠ 0) (h : alwaysL (formL c) = true) : clF f c = true := by
  obtain ⟨x, h1, h2⟩ := always_mem h
  rw [mem_form] at h1 h2
  rw [clF_mem]
  by_cases e : litF f x = true
  · exact ⟨x, h1, e⟩
  · exact ⟨-x, h2, by rw [litF_neg (hz x h1)]; simpa using e⟩

/-- What is left of two clauses. -/
def leftL (a b : List Int) (v : Int) : List Int := a.filter (fun x => !(x == v + 1)) ++ b.filter (fun x => !(x == -v - 1))
/-- Two clauses may be resolved. -/
def mayRes (a b : List Int) (v : Int) : Bool := decide (0 ≤ v) && decide (v < 24) && decide (v + 1 ∈ a) && decide (-v - 1 ∈ b)
/-- What follows from two clauses, in form; none: it holds always, or they aren't so. -/
def resL (a b : List Int) (v : Int) : Option (List Int) := if mayRes a b v && !alwaysL (formL (leftL a b v)) then some (formL (leftL a b v)) else none
theorem mem_left {a b : List Int} {v x : Int} : x ∈ leftL a b v ↔ (x ∈ a ∧ x ≠ v + 1) ∨ (x ∈ b ∧ x ≠ -v - 1) := by
  unfold leftL; simp [List.mem_append, List.mem_filter]
theorem left_len (a b : List Int) (v : Int) : (leftL a b v).length ≤ a.length + b.length := by
  unfold leftL
  rw [List.length_append]
  have h1 := List.length_filter_le (fun x => !(x == v + 1)) a
  have h2 := List.length_filter_le (fun x => !(x == -v - 1)) b
  omega
/-- Robinson: it holds wherever both do. -/
theorem left_holds {f : Nat → Bool} {a b : List Int} {v : Int} (h0 : 0 ≤ v) (ha : clF f a = true) (hb : clF f b = true) : clF f (leftL a b v) = true := by
  rw [clF_mem] at *
  obtain ⟨x, x1, x2⟩ := ha
  obtain ⟨y, y1, y2⟩ := hb
  by_cases e1 : x = v + 1
  · by_cases e2 : y = -v - 1
    · have : y = -x := by omega
      rw [this, litF_neg (by omega), x2] at y2; cases y2
    · exact ⟨y, mem_left.2 (.inr ⟨y1, e2⟩), y2⟩
  · exact ⟨x, mem_left.2 (.inl ⟨x1, e1⟩), x2⟩
theorem res_holds {f : Nat → Bool} {a b c : List Int} {v : Int} (h : resL a b v = some c) (ha : clF f a = true) (hb : clF f b = true) : clF f c = true := by
  unfold resL at h
  split at h
  · rename_i hm
    obtain rfl := Option.some.inj h
    rw [clF_form]
    unfold mayRes at hm
    simp only [Bool.and_eq_true, decide_eq_true_eq] at hm
    exact left_holds hm.1.1.1.1 ha hb
  · cases h
end Go.Proofs.YtdeaficdfooegaaDoor
