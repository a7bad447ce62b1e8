/- Plain law: the arena's table, by open addressing. -/
namespace Go.Proofs.YtdeaficdfooegaaDoor
set_option linter.unusedVariables false

/-- A node: variable, low, high. -/
abbrev Nd := Int × Int × Int

/-- The table holds just the nodes of S: h n is where node n's walk begins. -/
structure TabOK (h : Nd → Nat) (nodes : Nat → Nd) (S : Nat → Prop) (tab : List Int) : Prop where
  ent : ∀ i, i < tab.length → tab.getD i 0 ≠ 0 → ∃ k : Nat, S k ∧ tab.getD i 0 = (k : Int) + 2
  once : ∀ i j, i < tab.length → j < tab.length → tab.getD i 0 ≠ 0 → tab.getD i 0 = tab.getD j 0 → i = j
  look : ∀ k, S k → ∃ j, j < tab.length ∧ tab.getD ((h (nodes k) + j) % tab.length) 0 = (k : Int) + 2 ∧ ∀ j', j' < j → tab.getD ((h (nodes k) + j') % tab.length) 0 ≠ 0
  uniq : ∀ k k', S k → S k' → nodes k = nodes k' → k = k'

/-- Where the walk stops. -/
def Stops (nodes : Nat → Nd) (tab : List Int) (n : Nd) (i : Nat) : Prop := tab.getD i 0 = 0 ∨ ∃ k : Nat, tab.getD i 0 = (k : Int) + 2 ∧ nodes k = n

/-- What place tells. -/
structure Placed (h : Nd → Nat) (nodes : Nat → Nd) (tab : List Int) (n : Nd) (i : Nat) : Prop where
  lt : i < tab.length
  stops : Stops nodes tab n i
  walk : ∃ j, j < tab.length ∧ i = (h n + j) % tab.length ∧ ∀ j', j' < j → ¬ Stops nodes tab n ((h n + j') % tab.length)

theorem getD_set {tab : List Int} {i j : Nat} {v : Int} (hi : i < tab.length) : (tab.set i v).getD j 0 = if j = i then v else tab.getD j 0 := by
  rw [List.getD_eq_getElem?_getD, List.getElem?_set, List.getD_eq_getElem?_getD]
  by_cases e : i = j
  · subst e; simp [hi]
  · rw [if_neg e, if_neg (fun e2 => e e2.symm)]

theorem Placed.found {h : Nd → Nat} {nodes : Nat → Nd} {S : Nat → Prop} {tab : List Int} {n : Nd} {i : Nat} (t : TabOK h nodes S tab) (p : Placed h nodes tab n i) (h0 : tab.getD i 0 ≠ 0) :
    ∃ k : Nat, S k ∧ nodes k = n ∧ tab.getD i 0 = (k : Int) + 2 := by
  rcases p.stops with h1 | ⟨k, h1, h2⟩
  · exact absurd h1 h0
  · obtain ⟨k', hk', e⟩ := t.ent i p.lt h0
    have : k = k' := by omega
    subst this
    exact ⟨k, hk', h2, h1⟩

theorem Placed.free {h : Nd → Nat} {nodes : Nat → Nd} {S : Nat → Prop} {tab : List Int} {n : Nd} {i : Nat} (t : TabOK h nodes S tab) (p : Placed h nodes tab n i) (h0 : tab.getD i 0 = 0) : ∀ k, S k → nodes k ≠ n := by
  intro k hk e
  obtain ⟨j, hj, hjs, hj'⟩ := t.look k hk
  rw [e] at hjs hj'
  obtain ⟨j0, hj0, hi, hw⟩ := p.walk
  rcases Nat.lt_trichotomy j0 j with h1 | h1 | h1
  · exact hj' j0 h1 (by rw [← hi]; exact h0)
  · subst h1
    rw [← hi, h0] at hjs; omega
  · exact hw j h1 (.inr ⟨k, hjs, e⟩)

/-- A node is laid down where its walk ended. -/
theorem TabOK.insert {h : Nd → Nat} {nodes nodes' : Nat → Nd} {S : Nat → Prop} {tab : List Int} {n : Nd} {i k : Nat} (t : TabOK h nodes S tab) (p : Placed h nodes tab n i) (h0 : tab.getD i 0 = 0) (hk : ¬ S k)
    (hn : ∀ k', S k' → nodes' k' = nodes k') (hnk : nodes' k = n) : TabOK h nodes' (fun x => S x ∨ x = k) (tab.set i ((k : Int) + 2)) := by
  have hlt := p.lt
  have hfree := p.free t h0
  have notk : ∀ j, j < tab.length → tab.getD j 0 ≠ (k : Int) + 2 := by
    intro j hj e
    obtain ⟨k', hk', e'⟩ := t.ent j hj (by omega)
    have : k' = k := by omega
    exact hk (this ▸ hk')
  have hpos : 0 < tab.length := by omega
  refine ⟨fun j hj hne => ?_, fun a b ha hb hne he => ?_, fun x hx => ?_, fun x y hx hy e => ?_⟩
  · rw [List.length_set] at hj
    rw [getD_set hlt] at hne ⊢
    by_cases e : j = i
    · rw [if_pos e]; exact ⟨k, .inr rfl, rfl⟩
    · rw [if_neg e] at hne ⊢
      obtain ⟨k', h1, h2⟩ := t.ent j hj hne
      exact ⟨k', .inl h1, h2⟩
  · rw [List.length_set] at ha hb
    rw [getD_set hlt] at hne he
    rw [getD_set hlt] at he
    by_cases e1 : a = i
    · by_cases e2 : b = i
      · rw [e1, e2]
      · rw [if_pos e1, if_neg e2] at he
        exact absurd he.symm (notk b hb)
    · by_cases e2 : b = i
      · rw [if_neg e1, if_pos e2] at he
        exact absurd he (notk a ha)
      · rw [if_neg e1] at hne
        rw [if_neg e1, if_neg e2] at he
        exact t.once a b ha hb hne he
  · rw [List.length_set]
    rcases hx with hx | rfl
    · rw [hn x hx]
      obtain ⟨j, hj, h1, h2⟩ := t.look x hx
      refine ⟨j, hj, ?_, fun j' hj' => ?_⟩
      · rw [getD_set hlt, if_neg (fun e => by rw [e, h0] at h1; omega)]; exact h1
      · rw [getD_set hlt]
        split
        · omega
        · exact h2 j' hj'
    · rw [hnk]
      obtain ⟨j, hj, hi, hw⟩ := p.walk
      refine ⟨j, hj, ?_, fun j' hj' => ?_⟩
      · rw [getD_set hlt, if_pos hi.symm]
      · rw [getD_set hlt]
        split
        · omega
        · intro e; exact hw j' hj' (.inl e)
  · rcases hx with hx | rfl <;> rcases hy with hy | rfl
    · rw [hn x hx, hn y hy] at e; exact t.uniq x y hx hy e
    · rw [hn x hx, hnk] at e; exact absurd e (hfree x hx)
    · rw [hn y hy, hnk] at e; exact absurd e.symm (hfree y hy)
    · rfl

/-- An empty table. -/
theorem tabOK_empty (h : Nd → Nat) (nodes : Nat → Nd) (n : Nat) : TabOK h nodes (fun _ => False) (List.replicate n 0) := by
  have h0 : ∀ i, (List.replicate n (0 : Int)).getD i 0 = 0 := fun i => by
    rw [List.getD_eq_getElem?_getD, List.getElem?_replicate]; split <;> rfl
  exact ⟨fun i _ hne => absurd (h0 i) hne, fun i j _ _ hne => absurd (h0 i) hne, fun k hk => hk.elim, fun k _ hk => hk.elim⟩

theorem TabOK.congr {h : Nd → Nat} {nodes nodes' : Nat → Nd} {S S' : Nat → Prop} {tab : List Int} (t : TabOK h nodes S tab) (hs : ∀ k, S k ↔ S' k) (hn : ∀ k, S k → nodes' k = nodes k) : TabOK h nodes' S' tab :=
  ⟨fun i hi hne => let ⟨k, h1, h2⟩ := t.ent i hi hne; ⟨k, (hs k).1 h1, h2⟩, t.once, fun k hk => by rw [hn k ((hs k).2 hk)]; exact t.look k ((hs k).2 hk),
    fun k k' hk hk' e => t.uniq k k' ((hs k).2 hk) ((hs k').2 hk') (by rw [← hn k ((hs k).2 hk), ← hn k' ((hs k').2 hk')]; exact e)⟩

theorem nodup_bound : ∀ (B : Nat) (xs : List Nat), xs.Nodup → (∀ x ∈ xs, x < B) → xs.length ≤ B
  | 0, xs, _, h => by
    cases xs with
    | nil => simp
    | cons x _ => exact absurd (h x (by simp)) (Nat.not_lt_zero _)
  | B + 1, xs, hd, h => by
    have h1 := nodup_bound B (xs.erase B) (hd.erase B) (fun x hx => by
      have h2 := h x (List.mem_of_mem_erase hx)
      have h3 : x ≠ B := fun e => by subst e; exact (List.Nodup.not_mem_erase hd) hx
      omega)
    have h4 : xs.length ≤ (xs.erase B).length + 1 := by rw [List.length_erase]; split <;> omega
    omega

/-- There is a free cell. -/
theorem TabOK.hole {h : Nd → Nat} {nodes : Nat → Nd} {S : Nat → Prop} {tab : List Int} (t : TabOK h nodes S tab) {R : Nat} (hS : ∀ k, S k → k < R) (hR : R < tab.length) : ∃ i, i < tab.length ∧ tab.getD i 0 = 0 := by
  refine Classical.byContradiction fun hno => ?_
  have hall : ∀ i, i < tab.length → ∃ k : Nat, S k ∧ tab.getD i 0 = (k : Int) + 2 := fun i hi => t.ent i hi (fun e => hno ⟨i, hi, e⟩)
  have h1 : ((List.range tab.length).map fun i => (tab.getD i 0 - 2).toNat).Nodup := by
    rw [List.Nodup, List.pairwise_map]
    refine List.Pairwise.imp_of_mem (fun {a b} ha hb hne e => hne ?_) (List.nodup_range (n := tab.length))
    rw [List.mem_range] at ha hb
    obtain ⟨k, _, h2⟩ := hall a ha
    obtain ⟨k', _, h3⟩ := hall b hb
    exact t.once a b ha hb (by omega) (by omega)
  have h2 := nodup_bound R _ h1 (fun x hx => by
    obtain ⟨i, hi, rfl⟩ := List.mem_map.1 hx
    obtain ⟨k, h3, h4⟩ := hall i (List.mem_range.1 hi)
    have := hS k h3
    omega)
  simp at h2
  omega

/-- The walk comes by every cell. -/
theorem TabOK.stop {h : Nd → Nat} {nodes : Nat → Nd} {S : Nat → Prop} {tab : List Int} (t : TabOK h nodes S tab) {R : Nat} (hS : ∀ k, S k → k < R) (hR : R < tab.length) (n : Nd) (hn : h n < tab.length) : ∃ j, j < tab.length ∧ Stops nodes tab n ((h n + j) % tab.length) := by
  obtain ⟨i, hi, h0⟩ := t.hole hS hR
  rcases Nat.lt_or_ge i (h n) with h1 | h1
  · refine ⟨i + tab.length - h n, by omega, .inl ?_⟩
    rw [show h n + (i + tab.length - h n) = i + tab.length by omega, Nat.add_mod_right, Nat.mod_eq_of_lt hi]
    exact h0
  · refine ⟨i - h n, by omega, .inl ?_⟩
    rw [show h n + (i - h n) = i by omega, Nat.mod_eq_of_lt hi]
    exact h0
end Go.Proofs.YtdeaficdfooegaaDoor
