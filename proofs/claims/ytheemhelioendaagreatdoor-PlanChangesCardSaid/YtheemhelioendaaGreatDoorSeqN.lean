/- XSeqL's law for a range whose iterator hands over several values at once. -/
import Derived.Test.YtheemhelioendaaGreatDoorPkC
namespace Go.Proofs.YtheemhelioendaaGreatDoor
open Go.RowKit
set_option linter.unusedVariables false

/-- An iterator that hands over just these, in this order; it reads the blocks of keep, and changes those of q. -/
def IterN {α : Type} (P : Program) (gf : Nat) (lb : Array Value) (enc : α → Array Value) (xs : List α) (keep q : Nat → Prop) (w0 : World) : Prop :=
  ∀ (n l : Nat) (J : Nat → World → Prop) (Jx : World → Prop) (W : World), SameOn keep w0 W →
    (∀ k A B, J k A → Kept q A B → J k B) →
    (∀ k (hk : k < xs.length) W1, J k W1 → YieldAt Fence.wide (n - 1) P l (enc xs[k]) W1 fun e W' =>
      (e = .returned (.bool true) ∧ J (k + 1) W' ∧ SameOn keep W1 W') ∨ (e = .returned (.bool false) ∧ Jx W')) →
    J 0 W →
    CallsIn Fence.wide n P gf (#[.func (.yield l) #[] #[]] ++ lb) W fun e W' => (∃ v, e = .returned v) ∧ (J xs.length W' ∨ Jx W')

theorem wpIn_iterN {α : Type} {n : Nat} {P : Program} {g : Operand} {ps : Array Tmp} {assign body : Code} {Q : Exit → Act → World → Prop} {a : Act} {w : World} {gf : Nat} {lb : Array Value}
    (hg : a.eval g = .func (.func gf) #[] lb) (eg : ∀ args w, (callFunc gf args).run P w = .ok (.enter gf args) w)
    {enc : α → Array Value} {xs : List α} {keep q : Nat → Prop} (hit : IterN P gf lb enc xs keep q w) (hps : ∀ x, ps.size = (enc x).size)
    (hkeep : ∀ j, keep j → j < w.heap.size) (hq : ∀ j, q j → j < w.heap.size)
    (I : Nat → World → Prop) (Ix : World → Prop)
    (hI : ∀ k A B p, I k A → (∀ j, p j → q j ∨ w.heap.size ≤ j ∧ ∃ r, A.heap[j]? = some (.loop r)) → Kept p A B → I k B)
    (hIx : ∀ A B p, Ix A → (∀ j, p j → w.heap.size ≤ j ∧ ∃ r, A.heap[j]? = some (.loop r)) → Kept p A B → Ix B)
    (h0 : I 0 w)
    (hround : ∀ (l D k : Nat) (hk : k < xs.length) (W : World), w.heap.size ≤ l → w.heap.size ≤ D → I k W → (∃ r, W.heap[l]? = some (.loop r)) → W.heap[D]? = some (.deferred (some [])) →
      assign.wpIn (Fence.wide.inRound l) (n - 1 - 1) P (Exit.then (fun a' W' => W' = W ∧ ∀ W2, I k W2 → (∃ r, W2.heap[l]? = some (.loop r)) → W2.heap[D]? = some (.deferred (some [])) →
        body.wpIn (Fence.wide.inRound l) (n - 1 - 1) P (BodyP keep l D I Ix k W2) a' W2) (fun _ _ _ => False)) { tmps := (ps.zip (enc xs[k])).foldl (fun t (p, v) => t.setIfInBounds p v) a.tmps, defers := [] } W)
    (hdone : ∀ (D : Nat) (W : World), w.heap.size ≤ D → I xs.length W → W.heap[D]? = some (.deferred (some [])) → Q .normal { a with defers := { target := .collected D, args := #[] } :: a.defers } W)
    (hstop : ∀ (D : Nat) (W : World), w.heap.size ≤ D → Ix W → W.heap[D]? = some (.deferred (some [])) → Q .ret { a with defers := { target := .collected D, args := #[] } :: a.defers } W) :
    (Code.rangeFunc g ps assign body).wpIn Fence.wide n P Q a w := by
  refine wpIn_rangeFunc fun fn hfn => ?_
  obtain ⟨rec, hrec⟩ : ∃ rec : LoopState → Option Code → Loop, rec = fun st pe => { state := st, pending := pe, fn, tmps := a.tmps, params := ps, assign, body, defers := w.heap.size } := ⟨_, rfl⟩
  let D := w.heap.size
  let l := w.heap.size + 1
  let W1 := (w.alloc (.deferred (some []))).alloc (.loop (rec .ready none))
  have hz1 : W1.heap.size = w.heap.size + 2 := by show ((w.alloc _).alloc _).heap.size = _; simp
  have hL1 : W1.heap[l]? = some (.loop (rec .ready none)) := by
    have := World.alloc_heap_new (w.alloc (.deferred (some []))) (.loop (rec .ready none)); rwa [World.size_alloc] at this
  have hD1 : W1.heap[D]? = some (.deferred (some [])) := (Below.heap_alloc _ _ _ (by show w.heap.size < _; simp)).trans (World.alloc_heap_new w _)
  have hk1 : ∀ p, Kept p w W1 := fun p => (Kept.alloc p w _).trans (Kept.alloc p _ _)
  have hI1 : I 0 W1 := hI 0 w W1 (fun _ => False) h0 (fun _ h => h.elim) (hk1 _)
  -- the invariant that the iterator carries
  refine ⟨l, [{ target := .collected D, args := #[] }], W1, { target := .fn (.func gf) lb, args := #[.func (.yield l) #[] #[]] }, W1, gf, #[.func (.yield l) #[] #[]] ++ lb, W1, ?_, ?_, fun f' hf' => trivial, ?_, fun h => by simp [Fence.wide] at h, ?_⟩
  · rw [show W1 = (w.alloc (.deferred (some []))).alloc (.loop (rec .ready none)) from rfl, hrec]; exact run_enterLoop_outer _ _ _ _ _
  · simp only [resolve, hg]
    simp [go_sem]
  · simp [invoke, go_sem, eg]
  refine (hit (n - 1) l (fun k W => I k W ∧ W.heap[l]? = some (.loop (rec .ready none)) ∧ W.heap[D]? = some (.deferred (some [])))
    (fun W => Ix W ∧ W.heap[l]? = some (.loop (rec .done (some .ret))) ∧ W.heap[D]? = some (.deferred (some []))) W1 (.of_kept (hk1 (fun _ => False)) (fun k hk => ⟨hkeep k hk, fun h => h⟩)) ?_ ?_ ⟨hI1, hL1, hD1⟩).mono ?_
  · rintro k A B ⟨h1, h2, h3⟩ hK
    refine ⟨hI k A B q h1 (fun j hj => .inl hj) hK, (hK.block l (Array.getElem?_eq_some_iff.1 h2).1 (fun h => ?_)).trans h2, (hK.block D (Array.getElem?_eq_some_iff.1 h3).1 (fun h => ?_)).trans h3⟩
    · exact absurd (hq l h) (by show ¬ (w.heap.size + 1 < w.heap.size); omega)
    · exact absurd (hq D h) (Nat.lt_irrefl _)
  · rintro k hk W ⟨h1, h2, h3⟩
    have hy := run_yield (P := P) (args := enc xs[k]) h2 (by rw [hrec]; exact (hps _).symm)
    rw [hrec] at hy
    have hlw : w.heap.size ≤ l := by show w.heap.size ≤ w.heap.size + 1; omega
    refine ⟨fn, _, assign, body, hy, roundIn_of_wpIn hfn (wpIn_mono (hround l D k hk W hlw (Nat.le_refl _) h1 ⟨_, h2⟩ h3) ?_)⟩
    intro e0 a0 w0 hp0
    cases e0 with
    | exit id => exact hp0.elim
    | goto t => exact hp0.elim
    | ret => exact hp0.elim
    | panic ch => exact hp0.elim
    | outgrown => exact hp0.elim
    | normal =>
    obtain ⟨rfl, hbody⟩ := hp0
    refine ⟨_, run_beginRound h2 (by rw [hrec]), ?_⟩
    let W2 := w0.putObj l (.loop { rec .ready none with state := .busy })
    have e2 : W2.heap[l]? = some (.loop { rec .ready none with state := .busy }) := World.putObj_heap_same (Array.getElem?_eq_some_iff.1 h2).1
    have e3 : W2.heap[D]? = some (.deferred (some [])) := (World.putObj_heap_other (by show w.heap.size ≠ w.heap.size + 1; omega)).trans h3
    have i2 : I k W2 := hI k w0 W2 (· = l) h1 (fun j hj => .inr (by subst hj; exact ⟨hlw, _, h2⟩)) (Kept.put w0 l _ rfl)
    refine wpIn_mono (hbody W2 i2 ⟨_, e2⟩ e3) ?_
    rintro e a3 W3 hp
    have fin : ∀ (jump : Option Code), SameOn (fun j => keep j ∨ j = l ∨ j = D) W2 W3 →
        (Instr.endRound l jump).run P W3 = .ok (.bool jump.isNone) (W3.putObj l (.loop (rec (if jump.isNone then .ready else .done) jump))) ∧ W3.heap[l]? = some (.loop { rec .ready none with state := .busy }) ∧
        (W3.putObj l (.loop (rec (if jump.isNone then .ready else .done) jump))).heap[l]? = some (.loop (rec (if jump.isNone then .ready else .done) jump)) ∧
        (W3.putObj l (.loop (rec (if jump.isNone then .ready else .done) jump))).heap[D]? = some (.deferred (some [])) := fun jump hs => by
      have q2 := (hs.block l (.inr (.inl rfl))).trans e2
      have q3 := (hs.block D (.inr (.inr rfl))).trans e3
      have hr := run_endRound (P := P) jump q2
      rw [hrec] at hr ⊢
      exact ⟨hr, by rw [hrec] at q2; exact q2, World.putObj_heap_same (Array.getElem?_eq_some_iff.1 q2).1, (World.putObj_heap_other (by show w.heap.size ≠ w.heap.size + 1; omega)).trans q3⟩
    cases e with
    | normal =>
      obtain ⟨hs, hi⟩ := hp
      obtain ⟨r1, r2, r3, r4⟩ := fin none hs
      refine ⟨_, _, r1, .inl ⟨rfl, ⟨hI _ W3 _ (· = l) hi (fun j hj => .inr (by subst hj; exact ⟨hlw, _, r2⟩)) (Kept.put W3 l _ rfl), r3, r4⟩, ?_⟩⟩
      have hne : ∀ j, keep j → j ≠ l := fun j hj e => by have := hkeep j hj; rw [e] at this; exact absurd this (by show ¬ (w.heap.size + 1 < w.heap.size); omega)
      refine ⟨by have := hs.size; simpa [W2] using this, fun j hj => ?_⟩
      exact ((World.putObj_heap_other (hne j hj)).trans (hs.block j (.inl hj))).trans (World.putObj_heap_other (hne j hj))
    | ret =>
      obtain ⟨hs, hi⟩ := hp
      obtain ⟨r1, r2, r3, r4⟩ := fin (some .ret) hs
      exact ⟨_, _, r1, .inr ⟨rfl, hIx W3 _ (· = l) hi (fun j hj => by subst hj; exact ⟨hlw, _, r2⟩) (Kept.put W3 l _ rfl), r3, r4⟩⟩
    | exit id => exact hp.elim
    | goto t => exact hp.elim
    | panic ch => exact hp.elim
    | outgrown => exact hp.elim
  · rintro e W2 ⟨⟨v, rfl⟩, (⟨hi, h2, h3⟩ | ⟨hi, h2, h3⟩)⟩
    · refine ⟨none, _, by have := run_endLoop (P := P) h2 (by rw [hrec]; simp); rw [hrec] at this; exact this, hdone D _ (Nat.le_refl _) (hI _ W2 _ (· = l) hi (fun j hj => .inr (by subst hj; exact ⟨by show w.heap.size ≤ w.heap.size + 1; omega, _, h2⟩)) (Kept.put W2 l _ rfl)) ((World.putObj_heap_other (by show w.heap.size ≠ w.heap.size + 1; omega)).trans h3)⟩
    · exact ⟨some .ret, _, by have := run_endLoop (P := P) h2 (by rw [hrec]; simp); rw [hrec] at this; exact this, wpIn_ret (hstop D _ (Nat.le_refl _) (hIx W2 _ (· = l) hi (fun j hj => by subst hj; exact ⟨by show w.heap.size ≤ w.heap.size + 1; omega, _, h2⟩) (Kept.put W2 l _ rfl)) ((World.putObj_heap_other (by show w.heap.size ≠ w.heap.size + 1; omega)).trans h3))⟩
end Go.Proofs.YtheemhelioendaaGreatDoor
