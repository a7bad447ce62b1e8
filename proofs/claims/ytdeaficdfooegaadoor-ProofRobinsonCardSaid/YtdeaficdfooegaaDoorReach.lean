/- Plain law: what handles lead to. -/
import Derived.Test.YtdeaficdfooegaaDoorTab
namespace Go.Proofs.YtdeaficdfooegaaDoor
set_option linter.unusedVariables false

/-- What the handles lead to (nodes by number: the handle less 2), over the nodes that are used. -/
def Rch (nodes : Nat → Nd) (U : Nat → Prop) (start : List Int) (k : Nat) : Prop :=
  ∀ Q : Nat → Prop, (∀ k : Nat, U k → ((k : Int) + 2) ∈ start → Q k) → (∀ k k' : Nat, Q k → U k' → (nodes k).2.1 = (k' : Int) + 2 → Q k') → (∀ k k' : Nat, Q k → U k' → (nodes k).2.2 = (k' : Int) + 2 → Q k') → Q k

section
variable {nodes : Nat → Nd} {U : Nat → Prop} {s0 : List Int}
theorem Rch.start (k : Nat) (hu : U k) (hm : ((k : Int) + 2) ∈ s0) : Rch nodes U s0 k := fun _ h _ _ => h k hu hm
theorem Rch.low (k k' : Nat) (h : Rch nodes U s0 k) (hu : U k') (e : (nodes k).2.1 = (k' : Int) + 2) : Rch nodes U s0 k' := fun Q h1 h2 h3 => h2 k k' (h Q h1 h2 h3) hu e
theorem Rch.high (k k' : Nat) (h : Rch nodes U s0 k) (hu : U k') (e : (nodes k).2.2 = (k' : Int) + 2) : Rch nodes U s0 k' := fun Q h1 h2 h3 => h3 k k' (h Q h1 h2 h3) hu e
theorem Rch.ind {Q : Nat → Prop} (h1 : ∀ k : Nat, U k → ((k : Int) + 2) ∈ s0 → Q k) (h2 : ∀ k k' : Nat, Rch nodes U s0 k → Q k → U k' → (nodes k).2.1 = (k' : Int) + 2 → Q k')
    (h3 : ∀ k k' : Nat, Rch nodes U s0 k → Q k → U k' → (nodes k).2.2 = (k' : Int) + 2 → Q k') {k : Nat} (h : Rch nodes U s0 k) : Q k :=
  (h (fun k => Rch nodes U s0 k ∧ Q k) (fun k hu hm => ⟨Rch.start k hu hm, h1 k hu hm⟩) (fun k k' ⟨hr, hq⟩ hu e => ⟨Rch.low k k' hr hu e, h2 k k' hr hq hu e⟩) (fun k k' ⟨hr, hq⟩ hu e => ⟨Rch.high k k' hr hu e, h3 k k' hr hq hu e⟩)).2
end

theorem Rch.used {nodes : Nat → Nd} {U : Nat → Prop} {start : List Int} {k : Nat} (h : Rch nodes U start k) : U k :=
  h U (fun _ h _ => h) (fun _ _ _ h _ => h) (fun _ _ _ h _ => h)

/-- What the search keeps. -/
structure RInv (nodes : Nat → Nd) (U : Nat → Prop) (start : List Int) (seen : Nat → Prop) (todo : List Int) : Prop where
  sound : ∀ k, seen k → Rch nodes U start k
  todos : ∀ x ∈ todo, ∀ k : Nat, x = (k : Int) + 2 → U k → Rch nodes U start k
  starts : ∀ x ∈ start, ∀ k : Nat, x = (k : Int) + 2 → U k → seen k ∨ x ∈ todo
  lows : ∀ k, seen k → ∀ k' : Nat, (nodes k).2.1 = (k' : Int) + 2 → U k' → seen k' ∨ (nodes k).2.1 ∈ todo
  highs : ∀ k, seen k → ∀ k' : Nat, (nodes k).2.2 = (k' : Int) + 2 → U k' → seen k' ∨ (nodes k).2.2 ∈ todo

theorem rinv_start (nodes : Nat → Nd) (U : Nat → Prop) (start : List Int) : RInv nodes U start (fun _ => False) start :=
  ⟨fun _ h => h.elim, fun x hx k e hu => .start k hu (e ▸ hx), fun x hx _ _ _ => .inr hx, fun _ h => h.elim, fun _ h => h.elim⟩

/-- A handle that is an end, free or seen is passed over. -/
theorem RInv.skip {nodes : Nat → Nd} {U : Nat → Prop} {start : List Int} {seen : Nat → Prop} {todo : List Int} {x : Int} (r : RInv nodes U start seen (todo ++ [x])) (hx : ∀ k : Nat, x = (k : Int) + 2 → U k → seen k) : RInv nodes U start seen todo := by
  have key : ∀ y, y ∈ todo ++ [x] → ∀ k : Nat, y = (k : Int) + 2 → U k → seen k ∨ y ∈ todo := by
    intro y hy k e hu
    rcases List.mem_append.1 hy with h | h
    · exact .inr h
    · obtain rfl : y = x := by simpa using h
      exact .inl (hx k e hu)
  refine ⟨r.sound, fun y hy => r.todos y (List.mem_append_left _ hy), fun y hy k e hu => ?_, fun k hk k' e hu => ?_, fun k hk k' e hu => ?_⟩
  · exact (r.starts y hy k e hu).elim .inl (fun h => key y h k e hu)
  · exact (r.lows k hk k' e hu).elim .inl (fun h => key _ h k' e hu)
  · exact (r.highs k hk k' e hu).elim .inl (fun h => key _ h k' e hu)

/-- A node is seen. -/
theorem RInv.see {nodes : Nat → Nd} {U : Nat → Prop} {start : List Int} {seen : Nat → Prop} {todo : List Int} {k0 : Nat} (r : RInv nodes U start seen (todo ++ [(k0 : Int) + 2])) (hu0 : U k0) :
    RInv nodes U start (fun k => seen k ∨ k = k0) (todo ++ [(nodes k0).2.1, (nodes k0).2.2]) := by
  have h0 : Rch nodes U start k0 := r.todos _ (by simp) k0 rfl hu0
  have key : ∀ y, y ∈ todo ++ [(k0 : Int) + 2] → ∀ k : Nat, y = (k : Int) + 2 → (seen k ∨ k = k0) ∨ y ∈ todo ++ [(nodes k0).2.1, (nodes k0).2.2] := by
    intro y hy k e
    rcases List.mem_append.1 hy with h | h
    · exact .inr (List.mem_append_left _ h)
    · have h1 : y = (k0 : Int) + 2 := by simpa using h
      exact .inl (.inr (by omega))
  refine ⟨fun k hk => hk.elim (r.sound k) (fun e => e ▸ h0), fun y hy k e hu => ?_, fun y hy k e hu => ?_, fun k hk k' e hu => ?_, fun k hk k' e hu => ?_⟩
  · rcases List.mem_append.1 hy with h | h
    · exact r.todos y (List.mem_append_left _ h) k e hu
    · simp at h
      rcases h with rfl | rfl
      · exact .low k0 k h0 hu e
      · exact .high k0 k h0 hu e
  · exact (r.starts y hy k e hu).elim (fun h => .inl (.inl h)) (fun h => key y h k e)
  · rcases hk with hk | rfl
    · exact (r.lows k hk k' e hu).elim (fun h => .inl (.inl h)) (fun h => key _ h k' e)
    · exact .inr (by simp)
  · rcases hk with hk | rfl
    · exact (r.highs k hk k' e hu).elim (fun h => .inl (.inl h)) (fun h => key _ h k' e)
    · exact .inr (by simp)

theorem RInv.done {nodes : Nat → Nd} {U : Nat → Prop} {start : List Int} {seen : Nat → Prop} (r : RInv nodes U start seen []) (k : Nat) : seen k ↔ Rch nodes U start k :=
  ⟨r.sound k, Rch.ind (Q := seen) (fun k hu hm => (r.starts _ hm k rfl hu).elim id (fun h => by cases h)) (fun k k' _ ih hu e => (r.lows k ih k' e hu).elim id (fun h => by cases h))
    (fun k k' _ ih hu e => (r.highs k ih k' e hu).elim id (fun h => by cases h))⟩

/-- What is reached hangs on what is used alone. -/
theorem rch_congr {nodes nodes' : Nat → Nd} {U U' : Nat → Prop} {start : List Int} (hU : ∀ k, U k → U' k) (hn : ∀ k, U k → nodes' k = nodes k) {k : Nat} (h : Rch nodes U start k) : Rch nodes' U' start k :=
  Rch.ind (Q := Rch nodes' U' start) (fun k hu hm => .start k (hU k hu) hm) (fun k k' h1 ih hu e => .low k k' ih (hU k' hu) (by rw [hn k h1.used]; exact e)) (fun k k' h1 ih hu e => .high k k' ih (hU k' hu) (by rw [hn k h1.used]; exact e)) h
end Go.Proofs.YtdeaficdfooegaaDoor
