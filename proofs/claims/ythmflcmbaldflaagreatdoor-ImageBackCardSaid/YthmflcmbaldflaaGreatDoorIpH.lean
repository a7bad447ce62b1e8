/- Some texts in one: Facts, SavA, NumA, SavW, TxtG. -/
import Derived.Deep.RegionHeld3
import Derived.WalkKit
import Derived.Test.YthmflcmbaldflaaGreatDoorIpG
import Derived.Test.YthmflcmbaldflaaGreatDoorIpD
import Derived.Test.YthmflcmbaldflaaGreatDoorIpB
import Derived.Test.YthmflcmbaldflaaGreatDoorShelfA
import Derived.Test.YthmflcmbaldflaaGreatDoorShelfT
import Derived.Lib.AtoiErrMem
import Derived.Lib.SmallJoins
import Derived.Test.YthmflcmbaldflaaGreatDoorIpE
import Derived.Test.YthmflcmbaldflaaGreatDoorIpA
import Derived.Test.YthmflcmbaldflaaGreatDoorShelfW
import Derived.Shelf.Bytes.WriteStringKept
import Derived.Shelf.Bytes.Bytes
import Derived.Test.YthmflcmbaldflaaGreatDoorProg
namespace Go.Proofs.YthmflcmbaldflaaGreatDoor
open Go.RowKit
set_option linter.unusedVariables false

section
variable {P : Program} {ops : Array Oper} {Q : Exit → Act → World → Prop}
/-- Each operation waits for earlier ones alone. -/
def laterB (ops : Array Oper) : Bool := (List.range ops.size).all fun i => match ops[i]? with
  | some o => o.after.all fun e => !Region.binds .any e || decide (e.on < i)
  | none => true
theorem laterB_at (h : laterB ops = true) {i : Nat} {o : Oper} (ho : ops[i]? = some o) : ∀ e ∈ o.after, Region.binds .any e = true → e.on < i := by
  intro e he hb
  have hi := (Array.getElem?_eq_some_iff.1 ho).1
  unfold laterB at h
  have := List.all_eq_true.1 h i (List.mem_range.2 hi)
  rw [ho] at this
  simp only [Array.all_eq_true', Bool.or_eq_true, Bool.not_eq_true', decide_eq_true_eq] at this
  rcases this e he with h1 | h1
  · rw [hb] at h1; cases h1
  · exact h1
theorem ready_mem {l : Array Bool} {i : Nat} (h : i ∈ Region.ready .any ops l) : ∃ o, ops[i]? = some o ∧ l.getD i true = false ∧ ∀ e ∈ o.after, Region.binds .any e = true → l.getD e.on false = true := by
  unfold Region.ready at h
  rw [List.mem_filter] at h
  obtain ⟨h1, h2⟩ := h
  have hi := List.mem_range.1 h1
  refine ⟨ops[i], Array.getElem?_eq_getElem hi, ?_, ?_⟩
  · simp only [Bool.and_eq_true, Bool.not_eq_true'] at h2; exact h2.1
  · simp only [Bool.and_eq_true] at h2
    have h3 := h2.2
    rw [Array.getElem?_eq_getElem hi] at h3
    simp only [Option.map_some, Option.getD_some, Array.all_eq_true', Bool.or_eq_true, Bool.not_eq_true'] at h3
    intro e he hb
    rcases h3 e he with h4 | h4
    · rw [hb] at h4; cases h4
    · exact h4
theorem ready_nil (hl : laterB ops = true) {l : Array Bool} (hs : l.size = ops.size) (hr : Region.ready .any ops l = []) : ∀ i, i < ops.size → l.getD i true = true := by
  intro i
  induction i using Nat.strongRecOn with
  | _ i ih =>
    intro hi
    cases e : l.getD i true with
    | true => rfl
    | false =>
      exfalso
      have : i ∈ Region.ready .any ops l := by
        unfold Region.ready
        rw [List.mem_filter]
        refine ⟨List.mem_range.2 hi, ?_⟩
        rw [e, Array.getElem?_eq_getElem hi]
        simp only [Bool.not_false, Bool.true_and, Option.map_some, Option.getD_some, Array.all_eq_true', Bool.or_eq_true, Bool.not_eq_true']
        intro x hx
        cases hb : Region.binds .any x with
        | false => exact .inl rfl
        | true =>
        have hlt := laterB_at hl (Array.getElem?_eq_getElem hi) x hx hb
        have h2 := ih x.on hlt (by omega)
        refine .inr ?_
        rw [Array.getD_eq_getD_getElem?, Array.getElem?_eq_getElem (by omega)] at h2 ⊢
        exact h2
      rw [hr] at this
      cases this
def leftN (n : Nat) (l : Array Bool) : Nat := (List.range n).countP fun i => !l.getD i true
theorem leftN_set {n i : Nat} {l : Array Bool} (hi : i < n) (hs : l.size = n) (h0 : l.getD i true = false) : leftN n (l.setIfInBounds i true) + 1 = leftN n l := by
  have hg : ∀ j, (l.setIfInBounds i true).getD j true = if j = i then true else l.getD j true := by
    intro j
    rw [Array.getD_eq_getD_getElem?, Array.getElem?_setIfInBounds, Array.getD_eq_getD_getElem?]
    by_cases e : i = j
    · subst e; rw [if_pos rfl, if_pos rfl]; split <;> rfl
    · rw [if_neg e, if_neg (Ne.symm e)]
  unfold leftN
  have key : ∀ m, m ≤ n → (List.range m).countP (fun j => !(l.setIfInBounds i true).getD j true) + (if i < m then 1 else 0) = (List.range m).countP (fun j => !l.getD j true) := by
    intro m
    induction m with
    | zero => intro _; simp
    | succ m ih =>
      intro hm
      have := ih (by omega)
      rw [List.range_succ, List.countP_append, List.countP_append, List.countP_singleton, List.countP_singleton, hg]
      by_cases e : m = i
      · subst e
        rw [if_pos rfl, h0]
        simp at this ⊢
        omega
      · rw [if_neg e]
        have e2 : (if i < m + 1 then 1 else 0 : Nat) = if i < m then 1 else 0 := by
          by_cases h1 : i < m
          · rw [if_pos h1, if_pos (by omega)]
          · rw [if_neg h1, if_neg (by omega)]
        rw [e2]
        omega
  have := key n (Nat.le_refl _)
  rw [if_pos hi] at this
  exact this
theorem wpAny_inv (Inv : Array Bool → Act → World → Prop) (hl : laterB ops = true)
    (hstep : ∀ l a w i o, l.size = ops.size → ops[i]? = some o → l.getD i true = false → (∀ e ∈ o.after, Region.binds .any e = true → l.getD e.on false = true) → Inv l a w → wpOp P ops Q i (fun a' w' => Inv (l.setIfInBounds i true) a' w') a w)
    (hdone : ∀ l a w, l.size = ops.size → (∀ i, i < ops.size → l.getD i true = true) → Inv l a w → Q .normal a w) :
    ∀ (n : Nat) (l : Array Bool) (a : Act) (w : World), l.size = ops.size → leftN ops.size l ≤ n → Inv l a w → wpAny P .any ops Q n l a w
  | 0, l, a, w, hs, hn, hi => by
    have hall : ∀ i, i < ops.size → l.getD i true = true := by
      intro i hlt
      unfold leftN at hn
      have h0 : (List.range ops.size).countP (fun i => !l.getD i true) = 0 := by omega
      rw [List.countP_eq_zero] at h0
      have := h0 i (List.mem_range.2 hlt)
      simpa using this
    refine ⟨?_, hdone l a w hs hall hi⟩
    cases e : Region.ready .any ops l with
    | nil => rfl
    | cons i r =>
      obtain ⟨o, ho, h1, _⟩ := ready_mem (i := i) (l := l) (by rw [e]; exact List.mem_cons_self ..)
      rw [hall i (Array.getElem?_eq_some_iff.1 ho).1] at h1
      cases h1
  | n + 1, l, a, w, hs, hn, hi => by
    refine ⟨fun hr => hdone l a w hs (ready_nil hl hs hr) hi, fun i hr => ?_⟩
    obtain ⟨o, ho, h1, h2⟩ := ready_mem hr
    have hlt := (Array.getElem?_eq_some_iff.1 ho).1
    refine wpOp_mono (fun a' w' h3 => ?_) (hstep l a w i o hs ho h1 h2 hi)
    have := leftN_set hlt hs h1
    exact wpAny_inv Inv hl hstep hdone n _ a' w' (by simpa using hs) (by omega) h3
end

/-- Which operations an operation waits for. -/
def depsB (o : Oper) (ds : List Nat) : Bool := ds.all fun j => o.after.any fun e => Region.binds .any e && e.on == j
theorem depsB_at {o : Oper} {ds : List Nat} {l : Array Bool} (h : depsB o ds = true) (ha : ∀ e ∈ o.after, Region.binds .any e = true → l.getD e.on false = true) (j : Nat) (hj : j ∈ ds) : l.getD j false = true := by
  unfold depsB at h
  have := List.all_eq_true.1 h j hj
  obtain ⟨e, he, hb⟩ := Array.any_eq_true'.1 this
  simp only [Bool.and_eq_true, beq_iff_eq] at hb
  rw [← hb.2]
  exact ha e he hb.1
/-- What is so of a frame and a world when the operations l have come up. -/
structure Facts (ops : Array Oper) (a0 : Act) (till : Nat → Nat) (B : Array Bool → World → Prop) (G : Array Bool → Nat → Value → World → Prop) (l : Array Bool) (a : Act) (w : World) : Prop where
  base : B l w
  size : a.tmps.size = a0.tmps.size
  df : a.defers = a0.defers
  keep : ∀ j, (∀ i o, ops[i]? = some o → o.dst = some j → l.getD i false = false) → a.tmps[j]? = a0.tmps[j]?
  closed : ∀ i o, ops[i]? = some o → l.getD i false = true → ∀ ds, depsB o ds = true → ∀ j ∈ ds, l.getD j false = true
  fact : ∀ i o, ops[i]? = some o → l.getD i false = true → l.getD (till i) false = false → ∃ v, (∀ d, o.dst = some d → a.tmps[d]? = some v) ∧ G l i v w
/-- No two operations write one slot; the slots are there. -/
def dstsB (ops : Array Oper) (n : Nat) : Bool := decide ((ops.toList.filterMap (·.dst)).Nodup) && (ops.toList.filterMap (·.dst)).all (fun d => decide (d < n))
theorem nodup_fm {α : Type} {f : α → Option Nat} : ∀ {l : List α}, (l.filterMap f).Nodup → ∀ (i j : Nat) (x y : α) (d : Nat), l[i]? = some x → l[j]? = some y → f x = some d → f y = some d → i = j
  | [], _, i, j, x, y, d, h, _, _, _ => by simp at h
  | z :: l, hn, i, j, x, y, d, hx, hy, fx, fy => by
    have hn' : (l.filterMap f).Nodup := by
      rw [List.filterMap_cons] at hn
      split at hn
      · exact hn
      · exact (List.nodup_cons.1 hn).2
    have hz : ∀ (k : Nat) (u : α), l[k]? = some u → f u = some d → f z ≠ some d := by
      intro k u hu fu fz
      rw [List.filterMap_cons, fz] at hn
      exact (List.nodup_cons.1 hn).1 (List.mem_filterMap.2 ⟨u, List.mem_of_getElem? hu, fu⟩)
    cases i with
    | zero =>
      cases j with
      | zero => rfl
      | succ j =>
        simp only [List.getElem?_cons_zero, Option.some.injEq] at hx
        subst hx
        exact absurd fx (hz j y (by simpa using hy) fy)
    | succ i =>
      cases j with
      | zero =>
        simp only [List.getElem?_cons_zero, Option.some.injEq] at hy
        subst hy
        exact absurd fy (hz i x (by simpa using hx) fx)
      | succ j =>
        rw [nodup_fm hn' i j x y d (by simpa using hx) (by simpa using hy) fx fy]
section
variable {P : Program} {ops : Array Oper} {Q : Exit → Act → World → Prop} {a0 : Act} {till : Nat → Nat} {B : Array Bool → World → Prop} {G : Array Bool → Nat → Value → World → Prop}
theorem dstsB_at {n : Nat} (h : dstsB ops n = true) {i j : Nat} {o oj : Oper} {d : Nat} (ho : ops[i]? = some o) (hj : ops[j]? = some oj) (e1 : o.dst = some d) (e2 : oj.dst = some d) : i = j := by
  unfold dstsB at h
  simp only [Bool.and_eq_true, decide_eq_true_eq] at h
  exact nodup_fm h.1 i j o oj d (by simpa using ho) (by simpa using hj) e1 e2
theorem dstsB_lt {n : Nat} (h : dstsB ops n = true) {i : Nat} {o : Oper} {d : Nat} (ho : ops[i]? = some o) (e1 : o.dst = some d) : d < n := by
  unfold dstsB at h
  simp only [Bool.and_eq_true, List.all_eq_true, decide_eq_true_eq] at h
  exact h.2 d (List.mem_filterMap.2 ⟨o, List.mem_of_getElem? (by simpa using ho : ops.toList[i]? = some o), e1⟩)
theorem setB_getD {l : Array Bool} {i j : Nat} (hi : i < l.size) : (l.setIfInBounds i true).getD j false = if j = i then true else l.getD j false := by
  rw [Array.getD_eq_getD_getElem?, Array.getElem?_setIfInBounds, Array.getD_eq_getD_getElem?]
  by_cases e : i = j
  · subst e; rw [if_pos rfl, if_pos rfl, if_pos hi]; rfl
  · rw [if_neg e, if_neg (Ne.symm e)]
/-- One operation more. -/
theorem Facts.step {l : Array Bool} {a : Act} {w w' : World} {i : Nat} {o : Oper} {v : Value} (hd : dstsB ops a0.tmps.size = true) (F : Facts ops a0 till B G l a w) (hs : l.size = ops.size) (ho : ops[i]? = some o) (ha : ∀ e ∈ o.after, Region.binds .any e = true → l.getD e.on false = true) (hB : B (l.setIfInBounds i true) w') (hG : G (l.setIfInBounds i true) i v w')
    (hoth : ∀ j oj u, j ≠ i → ops[j]? = some oj → l.getD j false = true → l.getD (till j) false = false → till j ≠ i → (∀ d, oj.dst = some d → a.tmps[d]? = some u) → G l j u w → G (l.setIfInBounds i true) j u w') : Facts ops a0 till B G (l.setIfInBounds i true) (a.put o.dst v) w' := by
  have hi := (Array.getElem?_eq_some_iff.1 ho).1
  have hsz : (a.put o.dst v).tmps.size = a.tmps.size := by
    cases o.dst <;> simp [Act.put]
  have hdf : (a.put o.dst v).defers = a.defers := by
    cases o.dst <;> simp [Act.put]
  have hne : ∀ k, o.dst ≠ some k → (a.put o.dst v).tmps[k]? = a.tmps[k]? := by
    intro k hk
    cases e : o.dst with
    | none => simp [Act.put]
    | some d =>
      rw [e] at hk
      simp only [Act.put]
      exact Array.getElem?_setIfInBounds_ne (fun h => hk (by rw [h]))
  refine ⟨hB, hsz.trans F.size, hdf.trans F.df, fun k hk => ?_, fun j oj hj h1 ds hds x hx => ?_, fun j oj hj h1 h2 => ?_⟩
  · rw [hne k (fun e => by
      have := hk i o ho e
      rw [setB_getD (by omega), if_pos rfl] at this
      cases this)]
    refine F.keep k (fun j oj hj e => ?_)
    have := hk j oj hj e
    rw [setB_getD (by omega)] at this
    split at this
    · cases this
    · exact this
  · rw [setB_getD (by omega)] at h1 ⊢
    split
    · rfl
    by_cases e : j = i
    · subst e
      rw [ho] at hj
      injection hj with hj
      subst hj
      exact depsB_at hds ha x hx
    · rw [if_neg e] at h1
      exact F.closed j oj hj h1 ds hds x hx
  · rw [setB_getD (by omega)] at h1 h2
    by_cases e : j = i
    · subst e
      rw [ho] at hj
      injection hj with hj
      subst hj
      refine ⟨v, fun d hd' => ?_, hG⟩
      rw [hd']
      simp only [Act.put]
      have := dstsB_lt hd ho hd'
      simp [F.size, this]
    · rw [if_neg e] at h1
      by_cases e2 : till j = i
      · rw [if_pos e2] at h2; cases h2
      · rw [if_neg e2] at h2
        obtain ⟨u, hu, hgu⟩ := F.fact j oj hj h1 h2
        refine ⟨u, fun d hd' => ?_, hoth j oj u e hj h1 h2 e2 hu hgu⟩
        rw [hne d (fun h => e (dstsB_at hd hj ho hd' h))]
        exact hu d hd'
/-- The step behind an operation, for the walk: a letter. -/
def AfterF (ops : Array Oper) (B : Array Bool → World → Prop) (G : Array Bool → Nat → Value → World → Prop) (till : Nat → Nat) (l : Array Bool) (i : Nat) (o : Oper) (a : Act) (w : World) (K : Act → World → Prop) : Prop :=
  ∀ v w', B (l.setIfInBounds i true) w' → G (l.setIfInBounds i true) i v w' → (∀ j oj u, j ≠ i → ops[j]? = some oj → l.getD j false = true → l.getD (till j) false = false → till j ≠ i → (∀ d, oj.dst = some d → a.tmps[d]? = some u) → G l j u w → G (l.setIfInBounds i true) j u w') → K (a.put o.dst v) w'
/-- What is to be shown of an operation. -/
def StepF (P : Program) (ops : Array Oper) (Q : Exit → Act → World → Prop) (a0 : Act) (till : Nat → Nat) (B : Array Bool → World → Prop) (G : Array Bool → Nat → Value → World → Prop) (i : Nat) (o : Oper) : Prop :=
  ∀ l a w, Facts ops a0 till B G l a w → l.size = ops.size → l.getD i false = false → (∀ e ∈ o.after, Region.binds .any e = true → l.getD e.on false = true) →
    ∀ K, AfterF ops B G till l i o a w K → if Region.wanted o (yielded ops a.tmps) = true then Oper.wp P o a w K Q else K (a.put o.dst undef) w
def AllF (St : Nat → Oper → Prop) : Nat → List Oper → Prop
  | _, [] => True
  | k, o :: r => St k o ∧ AllF St (k + 1) r
theorem AllF.get {St : Nat → Oper → Prop} : ∀ {k : Nat} {os : List Oper}, AllF St k os → ∀ i o, os[i]? = some o → St (k + i) o
  | k, [], _, i, o, h => by simp at h
  | k, x :: r, hh, 0, o, h => by
    simp only [List.getElem?_cons_zero, Option.some.injEq] at h
    subst h; exact hh.1
  | k, x :: r, hh, i + 1, o, h => by
    have := AllF.get hh.2 i o (by simpa using h)
    rwa [show k + (i + 1) = k + 1 + i by omega]
theorem wp_region_facts {id : Nat} {w : World} (till : Nat → Nat) (B : Array Bool → World → Prop) (G : Array Bool → Nat → Value → World → Prop) (hm : P.follows .mixedOrders = true) (hl : laterB ops = true) (hd : dstsB ops a0.tmps.size = true) (h0 : B (Array.replicate ops.size false) w.drew)
    (hstep : AllF (StepF P ops Q a0 till B G) 0 ops.toList)
    (hdone : ∀ l a w', (∀ i, i < ops.size → l.getD i false = true) → l.size = ops.size → Facts ops a0 till B G l a w' → Q .normal a w') : (Code.region id ops true).wp P Q a0 w := by
  refine wp_region_any hm ?_
  refine wpAny_inv (fun l a w => Facts ops a0 till B G l a w) hl ?_ ?_ _ _ _ _ (by simp) ?_ ?_
  · intro l a w i o hs ho h1 h2 F
    have hi := (Array.getElem?_eq_some_iff.1 ho).1
    have st := AllF.get hstep i o (by simpa using ho)
    rw [Nat.zero_add] at st
    have h3 : l.getD i false = false := by
      rw [Array.getD_eq_getD_getElem?, Array.getElem?_eq_getElem (by omega)] at h1 ⊢
      exact h1
    exact wpOp_step ho (fun K hK => st l a w F hs h3 h2 K (fun v w' hB hG hoth => hK _ _ (Facts.step hd F hs ho h2 hB hG hoth)))
  · intro l a w hs hall F
    refine hdone l a w (fun i hi => ?_) hs F
    have := hall i hi
    rw [Array.getD_eq_getD_getElem?, Array.getElem?_eq_getElem (by omega)] at this ⊢
    exact this
  · exact Nat.le_trans (List.countP_le_length) (by simp)
  · have h9 : ∀ i, (Array.replicate ops.size false).getD i false = true → False := fun i h1 => by
      rw [Array.getD_eq_getD_getElem?, Array.getElem?_replicate] at h1
      split at h1 <;> cases h1
    exact ⟨h0, rfl, rfl, fun j _ => rfl, fun i o ho h1 => (h9 i h1).elim, fun i o ho h1 _ => (h9 i h1).elim⟩
end
theorem opf {ops : Array Oper} {i : Nat} {x : Op × Option Nat × Option (Nat × Bool)} {ds : List Nat} (h : (ops[i]?).map (fun o => ((o.op, o.dst, o.guard), depsB o ds)) = some (x, true)) : ∃ o, ops[i]? = some o ∧ o.op = x.1 ∧ o.dst = x.2.1 ∧ o.guard = x.2.2 ∧ depsB o ds = true := by
  cases e : ops[i]? with
  | none => rw [e] at h; cases h
  | some o =>
    rw [e] at h
    simp only [Option.map_some, Option.some.injEq, Prod.mk.injEq] at h
    obtain ⟨h1, h2⟩ := h
    subst h1
    exact ⟨o, rfl, rfl, rfl, rfl, h2⟩
section
variable {P : Program} {ops : Array Oper} {Q : Exit → Act → World → Prop} {a0 : Act} {till : Nat → Nat} {B : Array Bool → World → Prop} {G : Array Bool → Nat → Value → World → Prop}
/-- The value of an operation that has come up. -/
theorem Facts.at_ {l : Array Bool} {a : Act} {w : World} (F : Facts ops a0 till B G l a w) {j d : Nat} {o : Oper} (ho : ops[j]? = some o) (hd : o.dst = some d) (h1 : l.getD j false = true) (h2 : l.getD (till j) false = false) : ∃ v, a.eval (.tmp d) = v ∧ a.tmps[d]? = some v ∧ G l j v w := by
  obtain ⟨v, hv, hg⟩ := F.fact j o ho h1 h2
  exact ⟨v, by simp [Act.eval, Array.getD_eq_getD_getElem?, hv d hd], hv d hd, hg⟩
def notDst (ops : Array Oper) (d : Nat) : Bool := ops.all fun o => o.dst != some d
/-- A slot that no operation writes. -/
theorem Facts.old {l : Array Bool} {a : Act} {w : World} (F : Facts ops a0 till B G l a w) {d : Nat} {v : Value} (hn : notDst ops d = true) (h0 : a0.tmps[d]? = some v) : a.tmps[d]? = some v := by
  have h := F.keep d (fun i o ho hd => by
    unfold notDst at hn
    simp only [Array.all_eq_true', bne_iff_ne] at hn
    exact absurd hd (hn o (Array.mem_of_getElem? ho)))
  exact h.trans h0
theorem stepF_value {i : Nat} {o : Oper} {l : Array Bool} {a : Act} {w w' : World} {v : Value} {K : Act → World → Prop} {E : Prop} (hg : o.guard = none) (hr : (execOp a.eval o).run P w = .ok (.value v) w') (hK : AfterF ops B G till l i o a w K) (hB : B (l.setIfInBounds i true) w') (hG : G (l.setIfInBounds i true) i v w')
    (hoth : ∀ j oj u, j ≠ i → ops[j]? = some oj → l.getD j false = true → l.getD (till j) false = false → till j ≠ i → (∀ d, oj.dst = some d → a.tmps[d]? = some u) → G l j u w → G (l.setIfInBounds i true) j u w') :
    if Region.wanted o (yielded ops a.tmps) = true then Oper.wp P o a w K Q else E := by
  have hw : Region.wanted o (yielded ops a.tmps) = true := by unfold Region.wanted; rw [hg]
  rw [if_pos hw]
  unfold Oper.wp
  rw [hr, Oper.upon_value]
  exact hK v w' hB hG hoth
theorem stepF_skip {i : Nat} {o : Oper} {l : Array Bool} {a : Act} {w w' : World} {K : Act → World → Prop} {E : Prop} (hg : o.guard = none) (hr : (execOp a.eval o).run P w = .ok .skip w') (hK : AfterF ops B G till l i o a w K) (hB : B (l.setIfInBounds i true) w') (hG : G (l.setIfInBounds i true) i undef w')
    (hoth : ∀ j oj u, j ≠ i → ops[j]? = some oj → l.getD j false = true → l.getD (till j) false = false → till j ≠ i → (∀ d, oj.dst = some d → a.tmps[d]? = some u) → G l j u w → G (l.setIfInBounds i true) j u w') :
    if Region.wanted o (yielded ops a.tmps) = true then Oper.wp P o a w K Q else E := by
  have hw : Region.wanted o (yielded ops a.tmps) = true := by unfold Region.wanted; rw [hg]
  rw [if_pos hw]
  unfold Oper.wp
  rw [hr, Oper.upon_skip]
  exact hK undef w' hB hG hoth
end
/-- Each of n things. -/
theorem all_upto {p : Nat → Prop} : ∀ {n : Nat}, (∀ i, i < n → p i) → ∀ i, i < n → p i := fun h => h
theorem allF_of {St : Nat → Oper → Prop} : ∀ {k : Nat} {os : List Oper}, (∀ i o, os[i]? = some o → St (k + i) o) → AllF St k os
  | k, [], _ => trivial
  | k, x :: r, h => ⟨h 0 x rfl, allF_of (fun i o ho => by
    have := h (i + 1) o (by simpa using ho)
    rwa [show k + (i + 1) = k + 1 + i by omega] at this)⟩
theorem foldl_put (x : Nat → Value) : ∀ (ds : List Nat) (a : Act), (ds.foldl (fun b d => b.put (some d) (x d)) a).tmps.size = a.tmps.size ∧ (ds.foldl (fun b d => b.put (some d) (x d)) a).defers = a.defers ∧
    ∀ j, (ds.foldl (fun b d => b.put (some d) (x d)) a).tmps[j]? = if j ∈ ds ∧ j < a.tmps.size then some (x j) else a.tmps[j]?
  | [], a => ⟨rfl, rfl, fun j => by simp⟩
  | d :: ds, a => by
    obtain ⟨h1, h2, h3⟩ := foldl_put x ds (a.put (some d) (x d))
    have hs : (a.put (some d) (x d)).tmps.size = a.tmps.size := by simp [Act.put]
    refine ⟨by rw [List.foldl_cons, h1, hs], by rw [List.foldl_cons, h2]; simp [Act.put], fun j => ?_⟩
    rw [List.foldl_cons, h3, hs]
    by_cases c1 : j ∈ ds ∧ j < a.tmps.size
    · rw [if_pos c1, if_pos ⟨List.mem_cons_of_mem _ c1.1, c1.2⟩]
    · rw [if_neg c1]
      simp only [Act.put]
      rw [Array.getElem?_setIfInBounds]
      by_cases c2 : d = j
      · subst c2
        rw [if_pos rfl]
        by_cases c3 : d < a.tmps.size
        · rw [if_pos c3, if_pos ⟨List.mem_cons_self .., c3⟩]
        · rw [if_neg c3, if_neg (fun h => c3 h.2), Array.getElem?_eq_none (by omega)]
      · rw [if_neg c2, if_neg (fun h => c1 ⟨by
          rcases List.mem_cons.1 h.1 with e | e
          · exact absurd e.symm c2
          · exact e, h.2⟩)]
/-- A frame that differs in some slots alone is the old one with these slots written. -/
theorem frame_puts {a a' : Act} (ds : List Nat) (hsz : a'.tmps.size = a.tmps.size) (hdf : a'.defers = a.defers) (hk : ∀ j, j ∉ ds → a'.tmps[j]? = a.tmps[j]?) : a' = ds.foldl (fun b d => b.put (some d) (a'.tmps.getD d undef)) a := by
  obtain ⟨h1, h2, h3⟩ := foldl_put (fun d => a'.tmps.getD d undef) ds a
  have ht : a'.tmps = (ds.foldl (fun b d => b.put (some d) (a'.tmps.getD d undef)) a).tmps := by
    refine Array.ext_getElem? fun j => ?_
    rw [h3]
    by_cases c : j ∈ ds ∧ j < a.tmps.size
    · rw [if_pos c, Array.getD_eq_getD_getElem?, Array.getElem?_eq_getElem (by omega)]; rfl
    · rw [if_neg c]
      by_cases c2 : j < a.tmps.size
      · exact hk j (fun h => c ⟨h, c2⟩)
      · rw [Array.getElem?_eq_none (by omega), Array.getElem?_eq_none (by omega)]
  cases a'
  simp only at ht hdf h2
  generalize List.foldl _ a ds = r at ht h2
  cases r
  simp only at ht h2
  rw [ht, hdf, h2]
/-- All slots that are written. -/
def dstsL (ops : Array Oper) : List Nat := ops.toList.filterMap (·.dst)
theorem Facts.frame {ops : Array Oper} {a0 : Act} {till : Nat → Nat} {B : Array Bool → World → Prop} {G : Array Bool → Nat → Value → World → Prop} {l : Array Bool} {a : Act} {w : World} (F : Facts ops a0 till B G l a w) : a = (dstsL ops).foldl (fun b d => b.put (some d) (a.tmps.getD d undef)) a0 :=
  frame_puts _ F.size F.df (fun j hj => F.keep j (fun i o ho hd => absurd (List.mem_filterMap.2 ⟨o, List.mem_of_getElem? (by simpa using ho : ops.toList[i]? = some o), hd⟩) hj))
end Go.Proofs.YthmflcmbaldflaaGreatDoor
namespace Go.Proofs.YthmflcmbaldflaaGreatDoor
open Go.RowKit
set_option linter.unusedVariables false

/-- A row of bytes lies at a block's beginning. -/
def IsBy (w : World) (g : Nat) (l : List UInt8) : Prop := ∀ i (h : i < l.length), w.cell? ⟨g, i, none⟩ = some (.int .u8 (l[i].toNat : Int))
theorem IsBy.below {w w' : World} {g : Nat} {l : List UInt8} (h : IsBy w g l) (hb : Below w.heap.size w w') : IsBy w' g l := fun i hi => (hb.cell (World.block_lt_of_cell? _ _ (h i hi))).trans (h i hi)
theorem sumL_take {l : List UInt8} {k : Nat} (h : k < l.length) : sumL (l.take (k + 1)) 19 = (41 * sumL (l.take k) 19 + l[k].toNat) % 9973 := by
  rw [List.take_succ_eq_append_getElem h, sumL_append]; rfl
set_option maxHeartbeats 1000000 in
theorem sum_any (g cap : Nat) (l : List UInt8) (w : World) (h : IsBy w g l) (hl : l.length ≤ 1000000) :
    Calls Tryz.prog 25 #[.slice (some ⟨g, 0, none⟩) l.length cap] w fun e w' => e = .returned (.int .i64 (sumM l)) ∧ w' = w := by
  have H := Lib.hid h; have Hl := Lib.hid hl; clear h
  go_enter Tryz.func25, Tryz.ntmps25
  go_wp2_with fail
  go_loopg [3, 8] l.length (fun gk n i wr => ∃ k : Nat, k ≤ l.length ∧ gk = l.length - k ∧ i = .int .i64 k ∧ n = .int .i64 (sumL (l.take k) 19) ∧ wr = w)
  case atStart => exact ⟨0, Nat.zero_le _, rfl, rfl, rfl, rfl⟩
  case round =>
    obtain ⟨k, hk, rfl, rfl, rfl, rfl⟩ := hrel
    by_cases hlt : k < l.length
    · have hc := H.out k hlt
      have hs := sumL_take hlt
      have hn := sumL_lt (l.take k) 19 (by decide)
      have hx := (l[k]).toNat_lt
      have Hs := Lib.hid hs; clear hs
      generalize sumL (l.take k) 19 = n at hn Hs
      generalize l[k].toNat = x at hc hx Hs
      have i1 : (k : Int) < (l.length : Int) := by omega
      have w1 : IntKind.i64.wrap (41 * (n : Int)) = 41 * (n : Int) := by simp only [IntKind.wrap_i64]; omega
      have w2 : IntKind.i64.wrap (x : Int) = (x : Int) := by simp only [IntKind.wrap_i64]; omega
      have w3 : IntKind.i64.wrap (41 * (n : Int) + (x : Int)) = 41 * (n : Int) + (x : Int) := by simp only [IntKind.wrap_i64]; omega
      have w4 : IntKind.i64.wrap ((41 * (n : Int) + (x : Int)).tmod 9973) = (((41 * n + x) % 9973 : Nat) : Int) := by
        rw [Int.tmod_eq_emod_of_nonneg (by omega)]; simp only [IntKind.wrap_i64]; omega
      go_wp2_with fail
      go_roundg (l.length - (k + 1))
      case measure => omega
      case rel => exact ⟨k + 1, by omega, rfl, by go_num, by rw [Hs.out]; first | rfl | (simp; done) | (simp; omega), rfl⟩
    · obtain rfl : k = l.length := by omega
      go_wp2_with fail
      go_ret
      refine ⟨?_, rfl⟩
      rw [List.take_length]; rfl
end Go.Proofs.YthmflcmbaldflaaGreatDoor
namespace Go.Proofs.YthmflcmbaldflaaGreatDoor
open Go.RowKit
set_option linter.unusedVariables false

/-- What the laid variables hold. -/
structure LaidR (w : World) : Prop where
  len : ∃ m : Int, w.cell? ⟨3, 0, none⟩ = some (.int .i64 m)
  syn : ∃ t v, w.cell? ⟨4, 0, none⟩ = some (.iface t v)
  rng : ∃ t v, w.cell? ⟨5, 0, none⟩ = some (.iface t v)
  tab : Lib.TabIs Tryz.prog w "internal/strconv.uint64pow10" .u64 Lib.pow10Tab
theorem LaidR.cells {w w' : World} {g : Nat} {v : Value} (h : w.cell? ⟨g, 0, none⟩ = some v) (hb : Below w.heap.size w w') : w'.cell? ⟨g, 0, none⟩ = some v := (hb.cell (World.block_lt_of_cell? _ _ h)).trans h
theorem hPow : Tryz.prog.globalNamed "internal/strconv.uint64pow10" = some 2 := by kernel_rfl
theorem tab_below {n : String} {g : Nat} {k : IntKind} {zs : List Int} {w w' : World} (hg : Tryz.prog.globalNamed n = some g) (h : Lib.TabIs Tryz.prog w n k zs) (hb : Below w.heap.size w w') : Lib.TabIs Tryz.prog w' n k zs := by
  unfold Lib.TabIs World.var? at h ⊢
  rw [hg, Option.bind_some] at h ⊢
  have hlt : g < w.heap.size := by
    rcases Nat.lt_or_ge g w.heap.size with h1 | h1
    · exact h1
    · rw [Array.getElem?_eq_none h1] at h; simp at h
  rw [hb.block g hlt]; exact h
theorem LaidR.below {w w' : World} (h : LaidR w) (hb : Below w.heap.size w w') : LaidR w' := by
  obtain ⟨⟨m, h1⟩, ⟨t, v, h2⟩, ⟨t', v', h3⟩, h4⟩ := h
  exact ⟨⟨m, LaidR.cells h1 hb⟩, ⟨t, v, LaidR.cells h2 hb⟩, ⟨t', v', LaidR.cells h3 hb⟩, tab_below hPow h4 hb⟩

def AtoiP (l : List UInt8) (w : World) (e : Ending) (w' : World) : Prop :=
  ∃ n er, e = .returned (.tuple #[.int .i64 n, er]) ∧ ((er = .nilIface ∧ Lib.atoiAll l = .ok n) ∨ ((∃ t v, er = .iface t v) ∧ ∀ k, Lib.atoiAll l ≠ .ok k)) ∧ Below w.heap.size w w'
theorem atoi_any (s : ByteArray) (w : World) (hs : s.size ≤ 1000000) (h : LaidR w) : Calls Tryz.prog 53 #[.string s] w (AtoiP s.data.toList w) := by
  obtain ⟨_, ⟨t, v, h2⟩, ⟨t', v', h3⟩, _⟩ := h
  cases ha : Lib.atoiAll s.data.toList
  · rename_i n
    refine Calls.mono (Any.strconv_Atoi_ok Tryz.lays172 s (by omega) n ha w) ?_
    rintro e w' ⟨rfl, hw⟩
    refine ⟨_, _, rfl, .inl ⟨rfl, ha⟩, ?_⟩
    rcases hw with rfl | ⟨t, rfl⟩
    · exact Below.refl _ _
    · exact Lib.bytesWorld_below _ _ _
  · refine Calls.mono (Any.strconv_Atoi_syntax Tryz.lays172 s (by omega) ha _ w h2 (.inr ⟨_, _, rfl⟩)) ?_
    rintro e w' ⟨N, rfl, _, _, hb⟩
    exact ⟨_, _, rfl, .inr ⟨⟨_, _, rfl⟩, fun k h => by rw [ha] at h; cases h⟩, hb⟩
  · refine Calls.mono (Any.strconv_Atoi_range Tryz.lays172 s (by omega) ha _ w h3 (.inr ⟨_, _, rfl⟩)) ?_
    rintro e w' ⟨N, rfl, _, _, hb⟩
    exact ⟨_, _, rfl, .inr ⟨⟨_, _, rfl⟩, fun k h => by rw [ha] at h; cases h⟩, hb⟩
theorem itoa_any (n : Int) (w : World) (h0 : -9223372036854775808 ≤ n) (h1 : n ≤ 9223372036854775807) (h : LaidR w) : Calls Tryz.prog 23 #[.int .i64 n] w fun e w' => e = .returned (.string ⟨(Lib.itoa n).toArray⟩) ∧ Below w.heap.size w w' := by
  refine Calls.mono (Any.strconv_Itoa Tryz.lays171 n h0 h1 w h.tab) ?_
  rintro e w' ⟨rfl, k, os, rfl⟩
  refine ⟨rfl, rfl, rfl, rfl, by simp [Sort.grow], fun j hj => ?_⟩
  show (w.heap ++ os)[j]? = _
  rw [Array.getElem?_append_left hj]
theorem infoStr : (Tryz.prog.info? 9).map (fun i => (i.zero, i.size, i.bytes)) = some (some (.string ByteArray.empty), 1, 16) := by kernel_rfl
theorem split_any (s sep : ByteArray) (w : World) (hs : s.size ≤ 1000000) (h1 : 1 ≤ sep.size) (h : LaidR w) : Calls Tryz.prog 26 #[.string s, .string sep] w fun e w' =>
    e = .returned (.slice (some ⟨w.heap.size, 0, none⟩) (Lib.countB s sep + 1) (Lib.countB s sep + 1)) ∧ w' = w.alloc (.cells ((Lib.splitB sep 0 (Lib.countB s sep) s).map Value.string).toArray 9) := by
  obtain ⟨⟨m, hm⟩, _⟩ := h
  exact Any.strings_Split Tryz.lays146 infoStr s sep m w (by omega) hm h1
end Go.Proofs.YthmflcmbaldflaaGreatDoor
namespace Go.Proofs.YthmflcmbaldflaaGreatDoor
open Go.RowKit
set_option linter.unusedVariables false

/-- The map holds the numbers. -/
def NumOf (w : World) (mb : Nat) (ks : List Int) : Prop := ∃ mq : List (Int × Value), MapOf w mb (Value.int .i64) mq ∧ mq.length = ks.length ∧ ∀ x, assoc mq x = if x ∈ ks then some (.int .i64 (numM ks x : Int)) else none
theorem NumOf.keep {w w' : World} {mb : Nat} {ks : List Int} (h : NumOf w mb ks) (hb : w'.heap[mb]? = w.heap[mb]?) : NumOf w' mb ks := by
  obtain ⟨mq, h1, h2⟩ := h; exact ⟨mq, h1.block_eq hb, h2⟩
theorem NumOf.lt {w : World} {mb : Nat} {ks : List Int} (h : NumOf w mb ks) : mb < w.heap.size := by obtain ⟨mq, h1, _⟩ := h; exact h1.lt
theorem NumOf.isMap {w : World} {mb : Nat} {ks : List Int} (h : NumOf w mb ks) : ∃ es clock, w.heap[mb]? = some (.map es clock) := by
  obtain ⟨mq, ⟨es, clock, h1, _⟩, _⟩ := h; exact ⟨es, clock, h1⟩
theorem num_put {mq : List (Int × Value)} {ks : List Int} {h : Int} (hl : mq.length = ks.length) (hm : ∀ x, assoc mq x = if x ∈ ks then some (.int .i64 (numM ks x : Int)) else none) (hh : h ∉ ks) :
    (putAssoc mq h (.int .i64 (ks.length : Int))).length = (ks ++ [h]).length ∧ ∀ x, assoc (putAssoc mq h (.int .i64 (ks.length : Int))) x = if x ∈ ks ++ [h] then some (.int .i64 (numM (ks ++ [h]) x : Int)) else none := by
  refine ⟨?_, fun x => ?_⟩
  · have h1 := hm h
    rw [if_neg hh] at h1
    unfold assoc at h1
    have h2 : assocIdx h mq = none := by
      cases e : assocIdx h mq with
      | none => rfl
      | some r => rw [e] at h1; cases h1
    unfold putAssoc
    rw [h2]
    simp [hl]
  · rw [assoc_put, hm]
    by_cases e : h = x
    · subst e; rw [if_pos rfl, if_pos (by simp), numM_new hh]
    · rw [if_neg e]
      by_cases e2 : x ∈ ks
      · rw [if_pos e2, if_pos (by simp [e2]), numM_app e2]
      · rw [if_neg e2, if_neg (by simp [e2, Ne.symm e])]
/-- A buffer stays where nothing that was there turns. -/
theorem isBuffer_below {T e : TypeId} {B b : Nat} {bs : List Value} {w w' : World} (h : Lib.IsBuffer T e B b bs w) (hb : Below w.heap.size w w') : Lib.IsBuffer T e B b bs w' := by
  have hl := h.lt
  obtain ⟨h1, v, lr, h2, h3, h4⟩ := h
  exact ⟨h1, v, lr, (hb.block _ hl).trans h2, ownsRow_below h3 hb, h4⟩
theorem isBuffer_other {T e : TypeId} {B b z : Nat} {bs : List Value} {w w' : World} {es : Array MapEntry} {cl : Nat} (h : Lib.IsBuffer T e B b bs w) (hz : w.heap[z]? = some (.map es cl)) (hk : ∀ k, k ≠ z → w'.heap[k]? = w.heap[k]?) : Lib.IsBuffer T e B b bs w' := by
  obtain ⟨h1, v, lr, h2, h3, h4⟩ := h
  refine ⟨h1, v, lr, (hk b (fun e => by subst e; rw [hz] at h2; cases h2)).trans h2, ⟨h3.1, ?_⟩, h4⟩
  rcases h3.2 with q | ⟨g, cap, cur, q1, q2, q3, q4⟩
  · exact .inl q
  · exact .inr ⟨g, cap, cur, q1, q2, (hk g (fun e => by subst e; rw [hz] at q3; cases q3)).trans q3, q4⟩
def cloW (nb sb kb bb : Nat) : Value := .func (.func 20) #[] #[.pointer (some ⟨nb, 0, none⟩), .pointer (some ⟨sb, 0, none⟩), .pointer (some ⟨kb, 0, none⟩), .pointer (some ⟨bb, 0, none⟩)]
/-- Save on its way. -/
structure SavI (w0 : World) (s : Sb) (nb mb sb kb bb : Nat) (c : Cells) (ks : List Int) (w : World) : Prop where
  bel : Below w0.heap.size w0 w
  hn : w.heap[nb]? = some (.cells #[.map (some mb)] 60 (0, 0))
  hs : w.heap[sb]? = some (.cells #[.pointer (some ⟨s.ps, 0, none⟩)] 23 (0, 0))
  hk : w.heap[kb]? = some (.cells #[cloW nb sb kb bb] 65 (0, 0))
  num : NumOf w mb ks
  buf : Lib.IsBuffer 64 5 w0.heap.size bb (Lib.byteCells (bodyM c ks)) w
  ge : w0.heap.size ≤ nb ∧ w0.heap.size ≤ mb ∧ w0.heap.size ≤ sb ∧ w0.heap.size ≤ kb
section
variable {w0 w w' : World} {s : Sb} {nb mb sb kb bb : Nat} {c : Cells} {ks : List Int}
theorem SavI.grow (h : SavI w0 s nb mb sb kb bb c ks w) (hb : Below w.heap.size w w') : SavI w0 s nb mb sb kb bb c ks w' := by
  have k : ∀ {b : Nat} {o : Obj}, w.heap[b]? = some o → w'.heap[b]? = some o := fun {b o} e => (hb.block b (Array.getElem?_eq_some_iff.1 e).1).trans e
  exact ⟨h.bel.trans (hb.mono h.bel.size), k h.hn, k h.hs, k h.hk, h.num.keep (hb.block _ h.num.lt), isBuffer_below h.buf hb, h.ge⟩
theorem SavI.put {o : Obj} (h : SavI w0 s nb mb sb kb bb c ks w) {x : Int} {n : Nd} (ko : KOk c ks) (hx : x ∉ ks) (hn : getM c x = some n) {mq : List (Int × Value)} (hl : mq.length = ks.length) (hm : ∀ x, assoc mq x = if x ∈ ks then some (.int .i64 (numM ks x : Int)) else none)
    (hob : MapOf (setObjW w mb o) mb (Value.int .i64) (putAssoc mq x (.int .i64 (ks.length : Int)))) :
    Below w0.heap.size w0 (setObjW w mb o) ∧ (setObjW w mb o).heap[nb]? = some (.cells #[.map (some mb)] 60 (0, 0)) ∧ (setObjW w mb o).heap[sb]? = some (.cells #[.pointer (some ⟨s.ps, 0, none⟩)] 23 (0, 0)) ∧ (setObjW w mb o).heap[kb]? = some (.cells #[cloW nb sb kb bb] 65 (0, 0)) ∧
      NumOf (setObjW w mb o) mb (ks ++ [x]) ∧ Lib.IsBuffer 64 5 w0.heap.size bb (Lib.byteCells (bodyM c ks)) (setObjW w mb o) := by
  obtain ⟨es, clock, hz⟩ := h.num.isMap
  have hk : ∀ k, k ≠ mb → (setObjW w mb o).heap[k]? = w.heap[k]? := fun k hk => setObjW_other o hk
  have k : ∀ {b : Nat} {cs : Array Value} {T : TypeId}, w.heap[b]? = some (.cells cs T (0, 0)) → (setObjW w mb o).heap[b]? = some (.cells cs T (0, 0)) := fun {b cs T} e => (hk b (fun q => by subst q; rw [hz] at e; cases e)).trans e
  obtain ⟨p1, p2⟩ := num_put hl hm hx
  exact ⟨h.bel.trans (setObjW_below o h.ge.2.1), k h.hn, k h.hs, k h.hk, ⟨_, hob, p1, p2⟩, isBuffer_other h.buf hz hk⟩
end
end Go.Proofs.YthmflcmbaldflaaGreatDoor
namespace Go.Proofs.YthmflcmbaldflaaGreatDoor
open Go.RowKit

section
variable {P : Program} {ops : Array Oper} {Q : Exit → Act → World → Prop} {S : World → Prop} {a : Act} {w : World} {o : Oper} {i d : Nat} {r : List (Nat × Bool)} {v : Value}

/-- The walk in the order told: (i, true): number i is taken first; (i, false): number i alone may come up. -/
def wpTxt (P : Program) (ops : Array Oper) (Q : Exit → Act → World → Prop) (S : World → Prop) : List (Nat × Bool) → Act → World → Prop
  | [], a, w => Q .normal a w
  | (i, true) :: r, a, w => ∃ o v, ops[i]? = some o ∧ YieldsIf P ops S o v a ∧ wpTxt P ops Q S r (a.put o.dst v) w
  | (i, false) :: r, a, w => wpOp P ops Q i (fun a' w' => S w' ∧ wpTxt P ops Q S r a' w') a w
/-- May the operations come up so? -/
def txtOk (md : Region.Mode) (ops : Array Oper) : List (Nat × Bool) → Array Bool → Bool
  | [], l => Region.ready md ops l == []
  | (i, true) :: r, l => Region.free md ops l i && (Region.ready md ops l).contains i && txtOk md ops r (l.setIfInBounds i true)
  | (i, false) :: r, l => Region.ready md ops l == [i] && txtOk md ops r (l.setIfInBounds i true)
theorem txt_any (hs : Region.noSelect ops = true) (hQ : ∀ c a d v w, Q (.panic c) (a.put d v) w → Q (.panic c) a w) : ∀ (L : List (Nat × Bool)) (l : Array Bool) (a : Act) (w : World),
    txtOk .any ops L l = true → S w → wpTxt P ops Q S L a w → wpAnyH P .any ops Q S L.length l a w
  | [], l, a, w, hk, _, h => by
    simp only [txtOk, beq_iff_eq] at hk
    exact wpAnyH_done hk h 0
  | (i, true) :: r, l, a, w, hk, hS, h => by
    simp only [txtOk, Bool.and_eq_true] at hk
    obtain ⟨o, v, ho, hy, h⟩ := h
    exact wpAnyH_take ho hs hk.1.1 hk.1.2 (fun c a w => hQ c a _ _ w) hy hS (txt_any hs hQ r _ _ _ hk.2 hS h)
  | (i, false) :: r, l, a, w, hk, hS, h => by
    simp only [txtOk, Bool.and_eq_true, beq_iff_eq] at hk
    refine wpAnyH_all hk.1 (by simp) (fun j hj => ?_)
    rw [List.mem_singleton.1 hj]
    exact wpOp_mono (fun a' w' ⟨h1, h2⟩ => ⟨h1, txt_any hs hQ r _ _ _ hk.2 h1 h2⟩) h
/-- The beginning. -/
theorem wp_region_txt (L : List (Nat × Bool)) {id : Nat} (hm : P.follows .mixedOrders = true) (hs : (Region.noSelect ops && txtOk .any ops L (Array.replicate ops.size false) && L.length == ops.size) = true)
    (hQ : ∀ c a d v w, Q (.panic c) (a.put d v) w → Q (.panic c) a w) (hS : S w.drew) (h : wpTxt P ops Q S L a w.drew) : (Code.region id ops true).wp P Q a w := by
  simp only [Bool.and_eq_true, beq_iff_eq] at hs
  refine wp_region_held_drew hm hS (fun _ => ?_)
  rw [← hs.2]
  rw [← hs.2] at hs
  exact txt_any hs.1.1 hQ L _ _ _ (by rw [hs.2]; rw [hs.2] at hs; exact hs.1.2) hS h

/-- A frame of which one slot was written. -/
structure Upd (a a' : Act) (d : Nat) (v : Value) : Prop where
  ne : ∀ j, j ≠ d → a'.tmps[j]? = a.tmps[j]?
  eq : d < a.tmps.size → a'.tmps[d]? = some v
  size : a'.tmps.size = a.tmps.size
  df : a'.defers = a.defers
theorem upd_put (a : Act) (d : Nat) (v : Value) : Upd a (a.put (some d) v) d v :=
  ⟨fun j hj => by simp only [Act.put]; exact Array.getElem?_setIfInBounds_ne (Ne.symm hj), fun h => by simp only [Act.put]; simp [h], by simp [Act.put], by simp [Act.put]⟩
theorem Upd.keep {a' : Act} {u x : Value} {j : Nat} (h : Upd a a' d u) (hne : j ≠ d) (hx : a.tmps[j]? = some x) : a'.tmps[j]? = some x := (h.ne j hne).trans hx
theorem eval_of {j : Nat} {x : Value} (h : a.tmps[j]? = some x) : a.eval (.tmp j) = x := by
  simp [Act.eval, Array.getD_eq_getD_getElem?, h]

theorem want_none (hg : o.guard = none) : Region.wanted o (yielded ops a.tmps) = true := by unfold Region.wanted; rw [hg]
theorem want_some {og : Oper} {g dg : Nat} {b : Bool} (hg : o.guard = some (g, b)) (ho : ops[g]? = some og) (hd : og.dst = some dg) (ht : a.tmps[dg]? = some (.bool b)) : Region.wanted o (yielded ops a.tmps) = true := by
  unfold Region.wanted; rw [hg]; simp [yielded, ho, hd, ht]

theorem txt_take (ho : ops[i]? = some o) (hd : o.dst = some d) (hw : Region.wanted o (yielded ops a.tmps) = true) (hy : ∀ w, S w → (execOp a.eval o).run P w = .ok (.value v) w) (h : ∀ a', Upd a a' d v → wpTxt P ops Q S r a' w) : wpTxt P ops Q S ((i, true) :: r) a w :=
  ⟨o, v, ho, Or.inl ⟨hw, hy⟩, by rw [hd]; exact h _ (upd_put _ _ _)⟩
theorem txt_move {s : Nat} (ho : ops[i]? = some o) (hop : o.op = .move (.tmp s)) (hd : o.dst = some d) (hw : Region.wanted o (yielded ops a.tmps) = true) (hs : a.tmps[s]? = some v) (h : ∀ a', Upd a a' d v → wpTxt P ops Q S r a' w) : wpTxt P ops Q S ((i, true) :: r) a w :=
  txt_take ho hd hw (fun w _ => by simp [go_sem, execOp, hop, hs]) h
theorem txt_assign {s : Nat} (ho : ops[i]? = some o) (hop : o.op = .assign (.tmp s)) (hd : o.dst = some d) (hw : Region.wanted o (yielded ops a.tmps) = true) (hs : a.tmps[s]? = some v) (h : ∀ a', Upd a a' d v → wpTxt P ops Q S r a' w) : wpTxt P ops Q S ((i, true) :: r) a w :=
  txt_take ho hd hw (fun w _ => by simp [go_sem, execOp, hop, hs]) h
theorem txt_pick {g s : Nat} {c : Operand} (ho : ops[i]? = some o) (hop : o.op = .pick (.tmp g) (.tmp s) c) (hd : o.dst = some d) (hw : Region.wanted o (yielded ops a.tmps) = true) (hg : a.tmps[g]? = some (.bool true)) (hs : a.tmps[s]? = some v) (h : ∀ a', Upd a a' d v → wpTxt P ops Q S r a' w) : wpTxt P ops Q S ((i, true) :: r) a w :=
  txt_take ho hd hw (fun w _ => by simp [go_sem, execOp, hop, hs, hg]) h
theorem txt_call {f : FuncId} {args : Array Value} (ho : ops[i]? = some o) (hd : o.dst = some d) (hw : Region.wanted o (yielded ops a.tmps) = true) (hr : ∀ w, (execOp a.eval o).run P w = .ok (.enter f args) w)
    (hc : Calls P f args w fun e w' => ∃ v, e = .returned v ∧ S w' ∧ ∀ a', Upd a a' d v → wpTxt P ops Q S r a' w') : wpTxt P ops Q S ((i, false) :: r) a w := by
  unfold wpTxt wpOp
  simp only [ho, hw, if_true]
  left
  unfold Oper.wp
  rw [hr w, Oper.upon_enter]
  refine hc.mono ?_
  rintro e w' ⟨v, rfl, h1, h2⟩
  exact ⟨h1, by rw [hd]; exact h2 _ (upd_put _ _ _)⟩
end

section
variable {P : Program} {ops : Array Oper} {Q : Exit → Act → World → Prop} {S : World → Prop} {a : Act} {w : World} {o : Oper} {i d : Nat} {r : List (Nat × Bool)} {v : Value}
theorem want_no {og : Oper} {g dg : Nat} {b : Bool} (hg : o.guard = some (g, b)) (ho : ops[g]? = some og) (hd : og.dst = some dg) (ht : a.tmps[dg]? = some (.bool (!b))) : Region.wanted o (yielded ops a.tmps) = false := by
  unfold Region.wanted; rw [hg]; cases b <;> simp [yielded, ho, hd, ht]
theorem want_undef {og : Oper} {g dg : Nat} {b : Bool} (hg : o.guard = some (g, b)) (ho : ops[g]? = some og) (hd : og.dst = some dg) (ht : a.tmps[dg]? = some undef) : Region.wanted o (yielded ops a.tmps) = false := by
  unfold Region.wanted; rw [hg]; cases b <;> simp [yielded, ho, hd, ht, undef]
theorem txt_skip (ho : ops[i]? = some o) (hd : o.dst = some d) (hw : Region.wanted o (yielded ops a.tmps) = false) (h : ∀ a', Upd a a' d undef → wpTxt P ops Q S r a' w) : wpTxt P ops Q S ((i, true) :: r) a w :=
  ⟨o, undef, ho, Or.inr ⟨hw, rfl⟩, by rw [hd]; exact h _ (upd_put _ _ _)⟩
theorem txt_pickv {g : Nat} {x y : Operand} {bb : Bool} (ho : ops[i]? = some o) (hop : o.op = .pick (.tmp g) x y) (hd : o.dst = some d) (hw : Region.wanted o (yielded ops a.tmps) = true) (hg : a.tmps[g]? = some (.bool bb)) (hv : (if bb then a.eval x else a.eval y) = v) (h : ∀ a', Upd a a' d v → wpTxt P ops Q S r a' w) : wpTxt P ops Q S ((i, true) :: r) a w :=
  txt_take ho hd hw (fun w _ => by
    subst hv
    cases bb <;> simp [go_sem, execOp, hop, hg]) h
end
/-- The operations of a region. -/
def findR (n : Nat) : Code → Option (Array Oper)
  | .region k ops _ => if k = n then some ops else none
  | .seq a b => match findR n a with
    | some c => some c
    | none => findR n b
  | .block _ c => findR n c
  | .scope c => findR n c
  | .cond _ a b => match findR n a with
    | some c => some c
    | none => findR n b
  | .loop c => findR n c
  | _ => none
theorem op_fact {ops : Array Oper} {i : Nat} {x : Op × Option Nat × Option (Nat × Bool)} (h : (ops[i]?).map (fun o => (o.op, o.dst, o.guard)) = some x) : ∃ o, ops[i]? = some o ∧ o.op = x.1 ∧ o.dst = x.2.1 ∧ o.guard = x.2.2 := by
  cases e : ops[i]? with
  | none => rw [e] at h; cases h
  | some o => rw [e] at h; simp only [Option.map_some, Option.some.injEq] at h; subst h; exact ⟨o, rfl, rfl, rfl, rfl⟩
end Go.Proofs.YthmflcmbaldflaaGreatDoor
