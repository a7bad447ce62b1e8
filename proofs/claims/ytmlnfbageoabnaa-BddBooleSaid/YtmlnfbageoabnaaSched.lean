/- A region that draws its order, walked by one schedule that is checked once: what is pure in the class S of worlds is taken first, every other operation stands alone. -/
import Derived.Test.YtmlnfbageoabnaaHeap
import Derived.OrdersHeld
import Derived.Deep.RegionHeld3
namespace Go.Proofs.Ytmlnfbageoabnaa
open Go
set_option linter.unusedVariables false

def waits (m : Nat) (o : Oper) : Bool := o.after.toList.any fun e => Region.binds .any e && !m.testBit e.on
def takeOK (A : Array Oper) (L : List (Oper × Nat)) (m i : Nat) (oi : Oper) : Bool :=
  L.all fun p => p.2 == i || (m.testBit p.2 || (p.1.after.toList.any (fun e => Region.binds .any e && e.on == i) || oi.apart A p.1))
def soleOK (L : List (Oper × Nat)) (m i : Nat) : Bool := L.all fun p => p.2 == i || (m.testBit p.2 || waits m p.1)
def schedOK (A : Array Oper) (L : List (Oper × Nat)) : List (Nat × Bool) → Nat → Bool
  | [], m => L.all fun p => m.testBit p.2
  | (i, t) :: rest, m => match A[i]? with
    | none => false
    | some oi => !m.testBit i && !waits m oi && (bif t then takeOK A L m i oi else soleOK L m i) && schedOK A L rest (m ||| 2 ^ i)

section
variable {P : Program} {A : Array Oper} {Q : Exit → Act → World → Prop} {S : World → Prop}
/-- The walk by a schedule. -/
def wpSched (P : Program) (A : Array Oper) (Q : Exit → Act → World → Prop) (S : World → Prop) : List (Nat × Bool) → Act → World → Prop
  | [], a, w => Q .normal a w
  | (i, true) :: rest, a, w => ∃ (oi : Oper) (v : Value), A[i]? = some oi ∧ YieldsIf P A S oi v a ∧ wpSched P A Q S rest (a.put oi.dst v) w
  | (i, false) :: rest, a, w => wpOp P A Q i (fun a' w' => S w' ∧ wpSched P A Q S rest a' w') a w

structure Bits (listed : Array Bool) (n m : Nat) : Prop where
  size : listed.size = n
  bit : ∀ j, j < n → listed.getD j false = m.testBit j
theorem Bits.getT {listed : Array Bool} {n m j : Nat} (h : Bits listed n m) (hj : j < n) : listed.getD j true = m.testBit j := by
  rw [← h.bit j hj]
  simp [Array.getD, h.size, hj]
theorem Bits.set {listed : Array Bool} {n m i : Nat} (h : Bits listed n m) : Bits (listed.setIfInBounds i true) n (m ||| 2 ^ i) := by
  refine ⟨by simp [h.size], fun j hj => ?_⟩
  rw [Nat.testBit_or, Nat.testBit_two_pow]
  by_cases e : i = j
  · subst e
    simp [Array.getD, h.size, hj]
  · rw [getD_set_ne false e, h.bit j hj]; simp [e]

theorem mem_idx {j : Nat} {o : Oper} (h : A[j]? = some o) : (o, j) ∈ A.toList.zipIdx := by
  rw [List.mem_zipIdx_iff_getElem?]; simpa using h
theorem waits_false {m : Nat} {o : Oper} (h : waits m o = false) : ∀ e ∈ o.after, Region.binds .any e = true → m.testBit e.on = true := by
  intro e he hb
  unfold waits at h
  rw [List.any_eq_false] at h
  have := h e (by simpa using he)
  simpa [hb] using this
theorem edge_lt {o : Oper} {n : Nat} (hn : ∀ o ∈ A, ∀ e ∈ o.after, e.on < n) {j : Nat} (hj : A[j]? = some o) : ∀ e ∈ o.after, e.on < n := hn o (Array.mem_of_getElem? hj)

theorem sched_sound (hs : Region.noSelect A = true) (hQ : ∀ c (a : Act) w d v, Q (.panic c) (a.put d v) w → Q (.panic c) a w) (hon : ∀ o ∈ A, ∀ e ∈ o.after, e.on < A.size) :
    ∀ (sched : List (Nat × Bool)) (m : Nat) (listed : Array Bool) (fuel : Nat) (a : Act) (w : World), Bits listed A.size m → schedOK A A.toList.zipIdx sched m = true → sched.length ≤ fuel → S w → wpSched P A Q S sched a w → wpAnyH P .any A Q S fuel listed a w
  | [], m, listed, fuel, a, w, hb, hok, hf, hS, h => by
    refine wpAnyH_done ?_ h fuel
    rw [List.eq_nil_iff_forall_not_mem]
    intro j hj
    obtain ⟨h1, o, ho, _⟩ := mem_ready.1 hj
    have hlt : j < A.size := (Array.getElem?_eq_some_iff.1 ho).1
    rw [hb.getT hlt] at h1
    have := List.all_eq_true.1 hok (o, j) (mem_idx ho)
    rw [h1] at this; cases this
  | (i, t) :: rest, m, listed, fuel, a, w, hb, hok, hf, hS, h => by
    unfold schedOK at hok
    cases ho : A[i]? with
    | none => rw [ho] at hok; cases hok
    | some oi =>
      rw [ho] at hok
      simp only [Bool.and_eq_true, Bool.not_eq_true'] at hok
      obtain ⟨⟨⟨k1, k2⟩, k3⟩, k4⟩ := hok
      have hlt : i < A.size := (Array.getElem?_eq_some_iff.1 ho).1
      have hr : i ∈ Region.ready .any A listed := mem_ready.2 ⟨by rw [hb.getT hlt]; exact k1, oi, ho, fun e he hbd => by rw [hb.bit _ (edge_lt hon ho e he)]; exact waits_false k2 e he hbd⟩
      obtain ⟨fuel, rfl⟩ : ∃ f, fuel = f + 1 := ⟨fuel - 1, by simp at hf; omega⟩
      have hf' : rest.length ≤ fuel := by simpa using hf
      cases t with
      | true =>
        obtain ⟨oi', v, ho', hy, hrest⟩ := h
        rw [ho] at ho'
        cases ho'
        refine wpAnyH_first ho (Region.noSelect_spec hs) (fun c a w => hQ c a w oi.dst v) fuel listed a w (fun j oj hj hne hun hno => ?_) hr hy hS (sched_sound hs hQ hon rest _ _ fuel _ _ hb.set k4 hf' hS hrest)
        have h5 := List.all_eq_true.1 k3 (oj, j) (mem_idx hj)
        rw [hb.getT (Array.getElem?_eq_some_iff.1 hj).1] at hun
        simp only [Bool.or_eq_true, beq_iff_eq, hun, Bool.false_eq_true, false_or, List.any_eq_true, Bool.and_eq_true] at h5
        rcases h5 with h5 | ⟨e, he, hbd, hon'⟩ | h5
        · exact absurd h5 hne
        · exact absurd hon' (hno e (by simpa using he) hbd)
        · exact h5
      | false =>
        refine ⟨(fun h0 => by rw [h0] at hr; cases hr), fun j hj => ?_⟩
        have hji : j = i := by
          obtain ⟨h1, oj, hoj, hall⟩ := mem_ready.1 hj
          have hltj : j < A.size := (Array.getElem?_eq_some_iff.1 hoj).1
          rw [hb.getT hltj] at h1
          have h5 := List.all_eq_true.1 k3 (oj, j) (mem_idx hoj)
          simp only [Bool.or_eq_true, beq_iff_eq, h1, Bool.false_eq_true, false_or] at h5
          rcases h5 with h5 | h5
          · exact h5
          · unfold waits at h5
            obtain ⟨e, he, h6⟩ := List.any_eq_true.1 h5
            simp only [Bool.and_eq_true, Bool.not_eq_true'] at h6
            have he' : e ∈ oj.after := by simpa using he
            have := hall e he' h6.1
            rw [hb.bit _ (edge_lt hon hoj e he'), h6.2] at this; cases this
        subst hji
        exact wpOp_mono (fun a' w' h' => ⟨h'.1, sched_sound hs hQ hon rest _ _ fuel _ _ hb.set k4 hf' h'.1 h'.2⟩) h

theorem region_sched {id : Nat} {a : Act} {w : World} (sched : List (Nat × Bool)) (hm : P.follows .mixedOrders = true) (hs : Region.noSelect A = true) (hon : A.toList.all (fun o => o.after.toList.all fun e => decide (e.on < A.size)) = true)
    (hok : schedOK A A.toList.zipIdx sched 0 = true) (hl : sched.length ≤ A.size) (hQ : ∀ c (a : Act) w d v, Q (.panic c) (a.put d v) w → Q (.panic c) a w) (hS : S w.drew) (h : wpSched P A Q S sched a w.drew) :
    (Code.region id A true).wp P Q a w := by
  refine wp_region_held_drew (S := S) hm hS (fun _ => ?_)
  refine sched_sound hs hQ (fun o ho e he => ?_) sched 0 _ _ _ _ ⟨by simp, fun j hj => ?_⟩ hok hl hS h
  · have h1 := List.all_eq_true.1 hon o (by simpa using ho)
    have h2 := List.all_eq_true.1 h1 e (by simpa using he)
    simpa using h2
  · simp [Array.getD, hj]

/-- The way back into the schedule, kept from the walk. -/
theorem sched_sole {i : Nat} {rest : List (Nat × Bool)} {o : Oper} {a : Act} {w : World} (ho : A[i]? = some o)
    (h : ∀ K' : Act → World → Prop, Shut (∀ a w, S w → wpSched P A Q S rest a w → K' a w) → if Region.wanted o (yielded A a.tmps) = true then Oper.wp P o a w K' Q else K' (a.put o.dst undef) w) : wpSched P A Q S ((i, false) :: rest) a w :=
  wpOp_step ho (fun K' hK => h K' (fun a w hS hW => hK a w ⟨hS, hW⟩))
theorem sched_take {i : Nat} {rest : List (Nat × Bool)} {o : Oper} {v : Value} {a : Act} {w : World} (ho : A[i]? = some o) (hw : Region.wanted o (yielded A a.tmps) = true) (hy : ∀ w, S w → (execOp a.eval o).run P w = .ok (.value v) w)
    (h : wpSched P A Q S rest (a.put o.dst v) w) : wpSched P A Q S ((i, true) :: rest) a w := ⟨o, v, ho, .inl ⟨hw, hy⟩, h⟩
theorem sched_done {a : Act} {w : World} (h : Q .normal a w) : wpSched P A Q S [] a w := h
end
end Go.Proofs.Ytmlnfbageoabnaa
