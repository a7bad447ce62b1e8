/- Some texts in one: Tab, Reach, ArM, BddM, IteM, SetM, IteG. -/
namespace Go.Proofs.YthmflcmbaldflaaGreatDoor
set_option linter.unusedVariables false

/-- A node: variable, low, high. -/
abbrev Nd := Int × Int × Int

/-- The table holds just the nodes of S: h n is where node n's walk begins. -/
structure TabOK (h : Nd → Nat) (nodes : Nat → Nd) (S : Nat → Prop) (tab : List Int) : Prop where
  ent : ∀ i, i < tab.length → tab.getD i 0 ≠ 0 → ∃ k : Nat, S k ∧ tab.getD i 0 = (k : Int) + 2
  once : ∀ i j, i < tab.length → j < tab.length → tab.getD i 0 ≠ 0 → tab.getD i 0 = tab.getD j 0 → i = j
  look : ∀ k, S k → ∃ j, j < tab.length ∧ tab.getD ((h (nodes k) + j) % tab.length) 0 = (k : Int) + 2 ∧ ∀ j', j' < j → tab.getD ((h (nodes k) + j') % tab.length) 0 ≠ 0
  uniq : ∀ k k', S k → S k' → nodes k = nodes k' → k = k'

/-- Where the walk stops. -/
def Stops (nodes : Nat → Nd) (tab : List Int) (n : Nd) (i : Nat) : Prop := tab.getD i 0 = 0 ∨ ∃ k : Nat, tab.getD i 0 = (k : Int) + 2 ∧ nodes k = n

/-- What place tells. -/
structure Placed (h : Nd → Nat) (nodes : Nat → Nd) (tab : List Int) (n : Nd) (i : Nat) : Prop where
  lt : i < tab.length
  stops : Stops nodes tab n i
  walk : ∃ j, j < tab.length ∧ i = (h n + j) % tab.length ∧ ∀ j', j' < j → ¬ Stops nodes tab n ((h n + j') % tab.length)

theorem getD_set {tab : List Int} {i j : Nat} {v : Int} (hi : i < tab.length) : (tab.set i v).getD j 0 = if j = i then v else tab.getD j 0 := by
  rw [List.getD_eq_getElem?_getD, List.getElem?_set, List.getD_eq_getElem?_getD]
  by_cases e : i = j
  · subst e; simp [hi]
  · rw [if_neg e, if_neg (fun e2 => e e2.symm)]

theorem Placed.found {h : Nd → Nat} {nodes : Nat → Nd} {S : Nat → Prop} {tab : List Int} {n : Nd} {i : Nat} (t : TabOK h nodes S tab) (p : Placed h nodes tab n i) (h0 : tab.getD i 0 ≠ 0) :
    ∃ k : Nat, S k ∧ nodes k = n ∧ tab.getD i 0 = (k : Int) + 2 := by
  rcases p.stops with h1 | ⟨k, h1, h2⟩
  · exact absurd h1 h0
  · obtain ⟨k', hk', e⟩ := t.ent i p.lt h0
    have : k = k' := by omega
    subst this
    exact ⟨k, hk', h2, h1⟩

theorem Placed.free {h : Nd → Nat} {nodes : Nat → Nd} {S : Nat → Prop} {tab : List Int} {n : Nd} {i : Nat} (t : TabOK h nodes S tab) (p : Placed h nodes tab n i) (h0 : tab.getD i 0 = 0) : ∀ k, S k → nodes k ≠ n := by
  intro k hk e
  obtain ⟨j, hj, hjs, hj'⟩ := t.look k hk
  rw [e] at hjs hj'
  obtain ⟨j0, hj0, hi, hw⟩ := p.walk
  rcases Nat.lt_trichotomy j0 j with h1 | h1 | h1
  · exact hj' j0 h1 (by rw [← hi]; exact h0)
  · subst h1
    rw [← hi, h0] at hjs; omega
  · exact hw j h1 (.inr ⟨k, hjs, e⟩)

/-- A node is laid down where its walk ended. -/
theorem TabOK.insert {h : Nd → Nat} {nodes nodes' : Nat → Nd} {S : Nat → Prop} {tab : List Int} {n : Nd} {i k : Nat} (t : TabOK h nodes S tab) (p : Placed h nodes tab n i) (h0 : tab.getD i 0 = 0) (hk : ¬ S k)
    (hn : ∀ k', S k' → nodes' k' = nodes k') (hnk : nodes' k = n) : TabOK h nodes' (fun x => S x ∨ x = k) (tab.set i ((k : Int) + 2)) := by
  have hlt := p.lt
  have hfree := p.free t h0
  have notk : ∀ j, j < tab.length → tab.getD j 0 ≠ (k : Int) + 2 := by
    intro j hj e
    obtain ⟨k', hk', e'⟩ := t.ent j hj (by omega)
    have : k' = k := by omega
    exact hk (this ▸ hk')
  have hpos : 0 < tab.length := by omega
  refine ⟨fun j hj hne => ?_, fun a b ha hb hne he => ?_, fun x hx => ?_, fun x y hx hy e => ?_⟩
  · rw [List.length_set] at hj
    rw [getD_set hlt] at hne ⊢
    by_cases e : j = i
    · rw [if_pos e]; exact ⟨k, .inr rfl, rfl⟩
    · rw [if_neg e] at hne ⊢
      obtain ⟨k', h1, h2⟩ := t.ent j hj hne
      exact ⟨k', .inl h1, h2⟩
  · rw [List.length_set] at ha hb
    rw [getD_set hlt] at hne he
    rw [getD_set hlt] at he
    by_cases e1 : a = i
    · by_cases e2 : b = i
      · rw [e1, e2]
      · rw [if_pos e1, if_neg e2] at he
        exact absurd he.symm (notk b hb)
    · by_cases e2 : b = i
      · rw [if_neg e1, if_pos e2] at he
        exact absurd he (notk a ha)
      · rw [if_neg e1] at hne
        rw [if_neg e1, if_neg e2] at he
        exact t.once a b ha hb hne he
  · rw [List.length_set]
    rcases hx with hx | rfl
    · rw [hn x hx]
      obtain ⟨j, hj, h1, h2⟩ := t.look x hx
      refine ⟨j, hj, ?_, fun j' hj' => ?_⟩
      · rw [getD_set hlt, if_neg (fun e => by rw [e, h0] at h1; omega)]; exact h1
      · rw [getD_set hlt]
        split
        · omega
        · exact h2 j' hj'
    · rw [hnk]
      obtain ⟨j, hj, hi, hw⟩ := p.walk
      refine ⟨j, hj, ?_, fun j' hj' => ?_⟩
      · rw [getD_set hlt, if_pos hi.symm]
      · rw [getD_set hlt]
        split
        · omega
        · intro e; exact hw j' hj' (.inl e)
  · rcases hx with hx | rfl <;> rcases hy with hy | rfl
    · rw [hn x hx, hn y hy] at e; exact t.uniq x y hx hy e
    · rw [hn x hx, hnk] at e; exact absurd e (hfree x hx)
    · rw [hn y hy, hnk] at e; exact absurd e.symm (hfree y hy)
    · rfl

/-- An empty table. -/
theorem tabOK_empty (h : Nd → Nat) (nodes : Nat → Nd) (n : Nat) : TabOK h nodes (fun _ => False) (List.replicate n 0) := by
  have h0 : ∀ i, (List.replicate n (0 : Int)).getD i 0 = 0 := fun i => by
    rw [List.getD_eq_getElem?_getD, List.getElem?_replicate]; split <;> rfl
  exact ⟨fun i _ hne => absurd (h0 i) hne, fun i j _ _ hne => absurd (h0 i) hne, fun k hk => hk.elim, fun k _ hk => hk.elim⟩

theorem TabOK.congr {h : Nd → Nat} {nodes nodes' : Nat → Nd} {S S' : Nat → Prop} {tab : List Int} (t : TabOK h nodes S tab) (hs : ∀ k, S k ↔ S' k) (hn : ∀ k, S k → nodes' k = nodes k) : TabOK h nodes' S' tab :=
  ⟨fun i hi hne => let ⟨k, h1, h2⟩ := t.ent i hi hne; ⟨k, (hs k).1 h1, h2⟩, t.once, fun k hk => by rw [hn k ((hs k).2 hk)]; exact t.look k ((hs k).2 hk),
    fun k k' hk hk' e => t.uniq k k' ((hs k).2 hk) ((hs k').2 hk') (by rw [← hn k ((hs k).2 hk), ← hn k' ((hs k').2 hk')]; exact e)⟩

theorem nodup_bound : ∀ (B : Nat) (xs : List Nat), xs.Nodup → (∀ x ∈ xs, x < B) → xs.length ≤ B
  | 0, xs, _, h => by
    cases xs with
    | nil => simp
    | cons x _ => exact absurd (h x (by simp)) (Nat.not_lt_zero _)
  | B + 1, xs, hd, h => by
    have h1 := nodup_bound B (xs.erase B) (hd.erase B) (fun x hx => by
      have h2 := h x (List.mem_of_mem_erase hx)
      have h3 : x ≠ B := fun e => by subst e; exact (List.Nodup.not_mem_erase hd) hx
      omega)
    have h4 : xs.length ≤ (xs.erase B).length + 1 := by rw [List.length_erase]; split <;> omega
    omega

/-- There is a free cell. -/
theorem TabOK.hole {h : Nd → Nat} {nodes : Nat → Nd} {S : Nat → Prop} {tab : List Int} (t : TabOK h nodes S tab) {R : Nat} (hS : ∀ k, S k → k < R) (hR : R < tab.length) : ∃ i, i < tab.length ∧ tab.getD i 0 = 0 := by
  refine Classical.byContradiction fun hno => ?_
  have hall : ∀ i, i < tab.length → ∃ k : Nat, S k ∧ tab.getD i 0 = (k : Int) + 2 := fun i hi => t.ent i hi (fun e => hno ⟨i, hi, e⟩)
  have h1 : ((List.range tab.length).map fun i => (tab.getD i 0 - 2).toNat).Nodup := by
    rw [List.Nodup, List.pairwise_map]
    refine List.Pairwise.imp_of_mem (fun {a b} ha hb hne e => hne ?_) (List.nodup_range (n := tab.length))
    rw [List.mem_range] at ha hb
    obtain ⟨k, _, h2⟩ := hall a ha
    obtain ⟨k', _, h3⟩ := hall b hb
    exact t.once a b ha hb (by omega) (by omega)
  have h2 := nodup_bound R _ h1 (fun x hx => by
    obtain ⟨i, hi, rfl⟩ := List.mem_map.1 hx
    obtain ⟨k, h3, h4⟩ := hall i (List.mem_range.1 hi)
    have := hS k h3
    omega)
  simp at h2
  omega

/-- The walk comes by every cell. -/
theorem TabOK.stop {h : Nd → Nat} {nodes : Nat → Nd} {S : Nat → Prop} {tab : List Int} (t : TabOK h nodes S tab) {R : Nat} (hS : ∀ k, S k → k < R) (hR : R < tab.length) (n : Nd) (hn : h n < tab.length) : ∃ j, j < tab.length ∧ Stops nodes tab n ((h n + j) % tab.length) := by
  obtain ⟨i, hi, h0⟩ := t.hole hS hR
  rcases Nat.lt_or_ge i (h n) with h1 | h1
  · refine ⟨i + tab.length - h n, by omega, .inl ?_⟩
    rw [show h n + (i + tab.length - h n) = i + tab.length by omega, Nat.add_mod_right, Nat.mod_eq_of_lt hi]
    exact h0
  · refine ⟨i - h n, by omega, .inl ?_⟩
    rw [show h n + (i - h n) = i by omega, Nat.mod_eq_of_lt hi]
    exact h0
end Go.Proofs.YthmflcmbaldflaaGreatDoor
namespace Go.Proofs.YthmflcmbaldflaaGreatDoor
set_option linter.unusedVariables false

/-- What the handles lead to (nodes by number: the handle less 2), over the nodes that are used. -/
def Rch (nodes : Nat → Nd) (U : Nat → Prop) (start : List Int) (k : Nat) : Prop :=
  ∀ Q : Nat → Prop, (∀ k : Nat, U k → ((k : Int) + 2) ∈ start → Q k) → (∀ k k' : Nat, Q k → U k' → (nodes k).2.1 = (k' : Int) + 2 → Q k') → (∀ k k' : Nat, Q k → U k' → (nodes k).2.2 = (k' : Int) + 2 → Q k') → Q k

section
variable {nodes : Nat → Nd} {U : Nat → Prop} {s0 : List Int}
theorem Rch.start (k : Nat) (hu : U k) (hm : ((k : Int) + 2) ∈ s0) : Rch nodes U s0 k := fun _ h _ _ => h k hu hm
theorem Rch.low (k k' : Nat) (h : Rch nodes U s0 k) (hu : U k') (e : (nodes k).2.1 = (k' : Int) + 2) : Rch nodes U s0 k' := fun Q h1 h2 h3 => h2 k k' (h Q h1 h2 h3) hu e
theorem Rch.high (k k' : Nat) (h : Rch nodes U s0 k) (hu : U k') (e : (nodes k).2.2 = (k' : Int) + 2) : Rch nodes U s0 k' := fun Q h1 h2 h3 => h3 k k' (h Q h1 h2 h3) hu e
theorem Rch.ind {Q : Nat → Prop} (h1 : ∀ k : Nat, U k → ((k : Int) + 2) ∈ s0 → Q k) (h2 : ∀ k k' : Nat, Rch nodes U s0 k → Q k → U k' → (nodes k).2.1 = (k' : Int) + 2 → Q k')
    (h3 : ∀ k k' : Nat, Rch nodes U s0 k → Q k → U k' → (nodes k).2.2 = (k' : Int) + 2 → Q k') {k : Nat} (h : Rch nodes U s0 k) : Q k :=
  (h (fun k => Rch nodes U s0 k ∧ Q k) (fun k hu hm => ⟨Rch.start k hu hm, h1 k hu hm⟩) (fun k k' ⟨hr, hq⟩ hu e => ⟨Rch.low k k' hr hu e, h2 k k' hr hq hu e⟩) (fun k k' ⟨hr, hq⟩ hu e => ⟨Rch.high k k' hr hu e, h3 k k' hr hq hu e⟩)).2
end

theorem Rch.used {nodes : Nat → Nd} {U : Nat → Prop} {start : List Int} {k : Nat} (h : Rch nodes U start k) : U k :=
  h U (fun _ h _ => h) (fun _ _ _ h _ => h) (fun _ _ _ h _ => h)

/-- What the search keeps. -/
structure RInv (nodes : Nat → Nd) (U : Nat → Prop) (start : List Int) (seen : Nat → Prop) (todo : List Int) : Prop where
  sound : ∀ k, seen k → Rch nodes U start k
  todos : ∀ x ∈ todo, ∀ k : Nat, x = (k : Int) + 2 → U k → Rch nodes U start k
  starts : ∀ x ∈ start, ∀ k : Nat, x = (k : Int) + 2 → U k → seen k ∨ x ∈ todo
  lows : ∀ k, seen k → ∀ k' : Nat, (nodes k).2.1 = (k' : Int) + 2 → U k' → seen k' ∨ (nodes k).2.1 ∈ todo
  highs : ∀ k, seen k → ∀ k' : Nat, (nodes k).2.2 = (k' : Int) + 2 → U k' → seen k' ∨ (nodes k).2.2 ∈ todo

theorem rinv_start (nodes : Nat → Nd) (U : Nat → Prop) (start : List Int) : RInv nodes U start (fun _ => False) start :=
  ⟨fun _ h => h.elim, fun x hx k e hu => .start k hu (e ▸ hx), fun x hx _ _ _ => .inr hx, fun _ h => h.elim, fun _ h => h.elim⟩

/-- A handle that is an end, free or seen is passed over. -/
theorem RInv.skip {nodes : Nat → Nd} {U : Nat → Prop} {start : List Int} {seen : Nat → Prop} {todo : List Int} {x : Int} (r : RInv nodes U start seen (todo ++ [x])) (hx : ∀ k : Nat, x = (k : Int) + 2 → U k → seen k) : RInv nodes U start seen todo := by
  have key : ∀ y, y ∈ todo ++ [x] → ∀ k : Nat, y = (k : Int) + 2 → U k → seen k ∨ y ∈ todo := by
    intro y hy k e hu
    rcases List.mem_append.1 hy with h | h
    · exact .inr h
    · obtain rfl : y = x := by simpa using h
      exact .inl (hx k e hu)
  refine ⟨r.sound, fun y hy => r.todos y (List.mem_append_left _ hy), fun y hy k e hu => ?_, fun k hk k' e hu => ?_, fun k hk k' e hu => ?_⟩
  · exact (r.starts y hy k e hu).elim .inl (fun h => key y h k e hu)
  · exact (r.lows k hk k' e hu).elim .inl (fun h => key _ h k' e hu)
  · exact (r.highs k hk k' e hu).elim .inl (fun h => key _ h k' e hu)

/-- A node is seen. -/
theorem RInv.see {nodes : Nat → Nd} {U : Nat → Prop} {start : List Int} {seen : Nat → Prop} {todo : List Int} {k0 : Nat} (r : RInv nodes U start seen (todo ++ [(k0 : Int) + 2])) (hu0 : U k0) :
    RInv nodes U start (fun k => seen k ∨ k = k0) (todo ++ [(nodes k0).2.1, (nodes k0).2.2]) := by
  have h0 : Rch nodes U start k0 := r.todos _ (by simp) k0 rfl hu0
  have key : ∀ y, y ∈ todo ++ [(k0 : Int) + 2] → ∀ k : Nat, y = (k : Int) + 2 → (seen k ∨ k = k0) ∨ y ∈ todo ++ [(nodes k0).2.1, (nodes k0).2.2] := by
    intro y hy k e
    rcases List.mem_append.1 hy with h | h
    · exact .inr (List.mem_append_left _ h)
    · have h1 : y = (k0 : Int) + 2 := by simpa using h
      exact .inl (.inr (by omega))
  refine ⟨fun k hk => hk.elim (r.sound k) (fun e => e ▸ h0), fun y hy k e hu => ?_, fun y hy k e hu => ?_, fun k hk k' e hu => ?_, fun k hk k' e hu => ?_⟩
  · rcases List.mem_append.1 hy with h | h
    · exact r.todos y (List.mem_append_left _ h) k e hu
    · simp at h
      rcases h with rfl | rfl
      · exact .low k0 k h0 hu e
      · exact .high k0 k h0 hu e
  · exact (r.starts y hy k e hu).elim (fun h => .inl (.inl h)) (fun h => key y h k e)
  · rcases hk with hk | rfl
    · exact (r.lows k hk k' e hu).elim (fun h => .inl (.inl h)) (fun h => key _ h k' e)
    · exact .inr (by simp)
  · rcases hk with hk | rfl
    · exact (r.highs k hk k' e hu).elim (fun h => .inl (.inl h)) (fun h => key _ h k' e)
    · exact .inr (by simp)

theorem RInv.done {nodes : Nat → Nd} {U : Nat → Prop} {start : List Int} {seen : Nat → Prop} (r : RInv nodes U start seen []) (k : Nat) : seen k ↔ Rch nodes U start k :=
  ⟨r.sound k, Rch.ind (Q := seen) (fun k hu hm => (r.starts _ hm k rfl hu).elim id (fun h => by cases h)) (fun k k' _ ih hu e => (r.lows k ih k' e hu).elim id (fun h => by cases h))
    (fun k k' _ ih hu e => (r.highs k ih k' e hu).elim id (fun h => by cases h))⟩

/-- What is reached hangs on what is used alone. -/
theorem rch_congr {nodes nodes' : Nat → Nd} {U U' : Nat → Prop} {start : List Int} (hU : ∀ k, U k → U' k) (hn : ∀ k, U k → nodes' k = nodes k) {k : Nat} (h : Rch nodes U start k) : Rch nodes' U' start k :=
  Rch.ind (Q := Rch nodes' U' start) (fun k hu hm => .start k (hU k hu) hm) (fun k k' h1 ih hu e => .low k k' ih (hU k' hu) (by rw [hn k h1.used]; exact e)) (fun k k' h1 ih hu e => .high k k' ih (hU k' hu) (by rw [hn k h1.used]; exact e)) h
end Go.Proofs.YthmflcmbaldflaaGreatDoor
namespace Go.Proofs.YthmflcmbaldflaaGreatDoor
set_option linter.unusedVariables false

/-- What lies under the handles k + 2. -/
abbrev Cells := List (Option Nd)

def Cells.at (c : Cells) (k : Nat) : Option Nd := c.getD k none
def getM (c : Cells) (h : Int) : Option Nd := if h < 2 then none else c.at (h - 2).toNat
def hasM (c : Cells) (h : Int) : Bool := h == 0 || h == 1 || (getM c h).isSome
def topM (c : Cells) (h : Int) : Int := match getM c h with | some n => n.1 | none => 24
def cnt (c : Cells) : Nat := c.countP (·.isSome)
/-- Where a node lies; where there is room. -/
def findM (c : Cells) (n : Nd) : Option Nat := c.findIdx? (· == some n)
def freeM (c : Cells) : Option Nat := c.findIdx? (· == none)
/-- What is wrong with a node (0: nothing). -/
def badM (c : Cells) (n : Nd) : Nat :=
  if n.1 < 0 ∨ 24 ≤ n.1 then 2 else if hasM c n.2.1 = false ∨ hasM c n.2.2 = false then 7 else if topM c n.2.1 ≤ n.1 ∨ topM c n.2.2 ≤ n.1 then 10 else 0
/-- Make: what is then there, the handle, the error. -/
def mkM (c : Cells) (n : Nd) : Cells × Int × Nat :=
  if badM c n ≠ 0 then (c, 0, badM c n) else
    match findM c n with
    | some k => (c, (k : Int) + 2, 0)
    | none => match freeM c with
      | some k => (c.set k (some n), (k : Int) + 2, 0)
      | none => (c, 0, 12)

theorem at_lt {c : Cells} {k : Nat} {n : Nd} (h : c.at k = some n) : k < c.length := by
  unfold Cells.at at h
  rcases Nat.lt_or_ge k c.length with h1 | h1
  · exact h1
  · rw [List.getD_eq_getElem?_getD, List.getElem?_eq_none h1] at h; cases h
theorem at_get {c : Cells} {k : Nat} (h : k < c.length) : c.at k = c[k] := by unfold Cells.at; simp [h]
theorem at_ge {c : Cells} {k : Nat} (h : c.length ≤ k) : c.at k = none := by
  unfold Cells.at; rw [List.getD_eq_getElem?_getD, List.getElem?_eq_none h]; rfl
theorem at_set {c : Cells} {k : Nat} (o : Option Nd) (h : k < c.length) (j : Nat) : Cells.at (c.set k o) j = if j = k then o else c.at j := by
  unfold Cells.at
  rw [List.getD_eq_getElem?_getD, List.getElem?_set, List.getD_eq_getElem?_getD]
  by_cases e : k = j
  · subst e; simp [h]
  · rw [if_neg e, if_neg (fun e2 => e e2.symm)]

theorem getM_node {c : Cells} (k : Nat) : getM c ((k : Int) + 2) = c.at k := by
  unfold getM
  rw [if_neg (by omega), show ((k : Int) + 2 - 2).toNat = k by omega]
theorem getM_some {c : Cells} {h : Int} {n : Nd} (e : getM c h = some n) : ∃ k : Nat, h = (k : Int) + 2 ∧ c.at k = some n ∧ k < c.length := by
  unfold getM at e
  split at e
  · cases e
  · exact ⟨(h - 2).toNat, by omega, e, at_lt e⟩
theorem hasM_cases {c : Cells} {h : Int} (e : hasM c h = true) : h = 0 ∨ h = 1 ∨ ∃ (k : Nat) (n : Nd), h = (k : Int) + 2 ∧ c.at k = some n ∧ k < c.length := by
  unfold hasM at e
  simp only [Bool.or_eq_true, beq_iff_eq, Option.isSome_iff_exists] at e
  rcases e with (h0 | h1) | ⟨n, h2⟩
  · exact .inl h0
  · exact .inr (.inl h1)
  · obtain ⟨k, h3, h4, h5⟩ := getM_some h2
    exact .inr (.inr ⟨k, n, h3, h4, h5⟩)
theorem hasM_node {c : Cells} {k : Nat} {n : Nd} (h : c.at k = some n) : hasM c ((k : Int) + 2) = true := by
  unfold hasM; rw [getM_node, h]; simp
theorem hasM_zero (c : Cells) : hasM c 0 = true := by simp [hasM]
theorem hasM_one (c : Cells) : hasM c 1 = true := by simp [hasM]
theorem hasM_nonneg {c : Cells} {h : Int} (e : hasM c h = true) : 0 ≤ h := by
  rcases hasM_cases e with h | h | ⟨k, _, h, _⟩ <;> omega
theorem hasM_le {c : Cells} {h : Int} (e : hasM c h = true) : h ≤ c.length + 1 := by
  rcases hasM_cases e with h | h | ⟨k, _, h, _, _⟩ <;> omega

theorem findM_some {c : Cells} {n : Nd} {k : Nat} (h : findM c n = some k) : c.at k = some n := by
  unfold findM at h
  rw [List.findIdx?_eq_some_iff_getElem] at h
  obtain ⟨h1, h2, _⟩ := h
  rw [at_get h1]; simpa using h2
theorem findM_none {c : Cells} {n : Nd} (h : findM c n = none) (k : Nat) : c.at k ≠ some n := by
  intro e
  have h1 := at_lt e
  unfold findM at h
  rw [List.findIdx?_eq_none_iff] at h
  have h2 := h _ (List.getElem_mem h1)
  rw [at_get h1] at e
  rw [e] at h2
  simp at h2
theorem findM_at {c : Cells} {n : Nd} {k : Nat} (hu : ∀ j, c.at j = some n → j = k) (h : c.at k = some n) : findM c n = some k := by
  cases e : findM c n with
  | none => exact absurd h (findM_none e k)
  | some j => rw [hu j (findM_some e)]
theorem freeM_some {c : Cells} {k : Nat} (h : freeM c = some k) : k < c.length ∧ c.at k = none ∧ ∀ j, j < k → (c.at j).isSome = true := by
  unfold freeM at h
  rw [List.findIdx?_eq_some_iff_getElem] at h
  obtain ⟨h1, h2, h3⟩ := h
  refine ⟨h1, by rw [at_get h1]; simpa using h2, fun j hj => ?_⟩
  have h4 := h3 j hj
  rw [at_get (by omega)]
  simpa [Option.isSome_iff_ne_none] using h4
theorem freeM_none {c : Cells} (h : freeM c = none) (k : Nat) (hk : k < c.length) : (c.at k).isSome = true := by
  unfold freeM at h
  rw [List.findIdx?_eq_none_iff] at h
  have h2 := h _ (List.getElem_mem hk)
  rw [at_get hk]
  simpa [Option.isSome_iff_ne_none] using h2
theorem freeM_at {c : Cells} {k : Nat} (h : k < c.length) (h0 : c.at k = none) (hl : ∀ j, j < k → (c.at j).isSome = true) : freeM c = some k := by
  unfold freeM
  rw [List.findIdx?_eq_some_iff_getElem]
  refine ⟨h, by rw [at_get h] at h0; simp [h0], fun j hj => ?_⟩
  have h1 := hl j hj
  rw [at_get (by omega)] at h1
  simpa [Option.isSome_iff_ne_none] using h1
theorem freeM_full {c : Cells} (h : ∀ k, k < c.length → (c.at k).isSome = true) : freeM c = none := by
  cases e : freeM c with
  | none => rfl
  | some k => obtain ⟨h1, h2, _⟩ := freeM_some e; have := h k h1; rw [h2] at this; cases this

theorem cnt_set {c : Cells} {k : Nat} {n : Nd} (h : k < c.length) (h0 : c.at k = none) : cnt (c.set k (some n)) = cnt c + 1 := by
  unfold cnt
  rw [at_get h] at h0
  rw [List.countP_set h, h0]
  simp
theorem cnt_le (c : Cells) : cnt c ≤ c.length := List.countP_le_length
theorem cnt_full {c : Cells} (h : freeM c = none) : cnt c = c.length := by
  unfold cnt
  rw [List.countP_eq_length]
  intro o ho
  obtain ⟨k, hk, rfl⟩ := List.getElem_of_mem ho
  have := freeM_none h k hk
  rwa [at_get hk] at this

/-- An arena in order. -/
structure Ok (c : Cells) : Prop where
  var : ∀ k n, c.at k = some n → 0 ≤ n.1 ∧ n.1 < 24
  low : ∀ k n, c.at k = some n → hasM c n.2.1 = true ∧ n.1 < topM c n.2.1
  high : ∀ k n, c.at k = some n → hasM c n.2.2 = true ∧ n.1 < topM c n.2.2
  uniq : ∀ j k n, c.at j = some n → c.at k = some n → j = k

/-- What was there is there still. -/
structure Ext (c c' : Cells) : Prop where
  len : c'.length = c.length
  old : ∀ k n, c.at k = some n → c'.at k = some n

theorem Ext.refl (c : Cells) : Ext c c := ⟨rfl, fun _ _ h => h⟩
theorem Ext.trans {a b c : Cells} (h : Ext a b) (g : Ext b c) : Ext a c := ⟨g.len.trans h.len, fun k n e => g.old k n (h.old k n e)⟩
theorem Ext.get {c c' : Cells} (e : Ext c c') {h : Int} {n : Nd} (g : getM c h = some n) : getM c' h = some n := by
  obtain ⟨k, rfl, h1, _⟩ := getM_some g
  rw [getM_node]; exact e.old k n h1
theorem Ext.has {c c' : Cells} (e : Ext c c') {h : Int} (g : hasM c h = true) : hasM c' h = true := by
  rcases hasM_cases g with rfl | rfl | ⟨k, n, rfl, h1, _⟩
  · exact hasM_zero _
  · exact hasM_one _
  · exact hasM_node (e.old k n h1)
theorem getM_none_of_has {c : Cells} {h : Int} (g : hasM c h = true) (e : getM c h = none) : h = 0 ∨ h = 1 := by
  rcases hasM_cases g with h | h | ⟨k, n, rfl, h1, _⟩
  · exact .inl h
  · exact .inr h
  · rw [getM_node, h1] at e; cases e
theorem getM_end (c : Cells) {h : Int} (e : h = 0 ∨ h = 1) : getM c h = none := by
  unfold getM; rw [if_pos (by omega)]
theorem Ext.get_eq {c c' : Cells} (e : Ext c c') {h : Int} (g : hasM c h = true) : getM c' h = getM c h := by
  cases h1 : getM c h with
  | none => exact getM_end c' (getM_none_of_has g h1)
  | some n => exact e.get h1
theorem Ext.top {c c' : Cells} (e : Ext c c') {h : Int} (g : hasM c h = true) : topM c' h = topM c h := by
  unfold topM; rw [e.get_eq g]
theorem topM_le {c : Cells} (o : Ok c) (h : Int) : 0 ≤ topM c h ∧ topM c h ≤ 24 := by
  unfold topM
  cases e : getM c h with
  | none => simp
  | some n => obtain ⟨k, _, h1, _⟩ := getM_some e; have := o.var k n h1; simp; omega

theorem badM_ok {c : Cells} {n : Nd} (h : badM c n = 0) : 0 ≤ n.1 ∧ n.1 < 24 ∧ hasM c n.2.1 = true ∧ hasM c n.2.2 = true ∧ n.1 < topM c n.2.1 ∧ n.1 < topM c n.2.2 := by
  unfold badM at h
  split at h
  · cases h
  · split at h
    · cases h
    · split at h
      · cases h
      · rename_i h1 h2 h3
        simp only [not_or, Bool.not_eq_false, Int.not_le, Int.not_lt] at h1 h2 h3
        exact ⟨h1.1, h1.2, h2.1, h2.2, h3.1, h3.2⟩
theorem badM_zero {c : Cells} {n : Nd} (h1 : 0 ≤ n.1) (h2 : n.1 < 24) (h3 : hasM c n.2.1 = true) (h4 : hasM c n.2.2 = true) (h5 : n.1 < topM c n.2.1) (h6 : n.1 < topM c n.2.2) : badM c n = 0 := by
  unfold badM
  rw [if_neg (by omega), if_neg (by simp [h3, h4]), if_neg (by omega)]

theorem ext_set {c : Cells} {k : Nat} {n : Nd} (h : k < c.length) (h0 : c.at k = none) : Ext c (c.set k (some n)) :=
  ⟨by simp, fun j m e => by
    rw [at_set _ h]
    split
    · rename_i e2; subst e2; rw [h0] at e; cases e
    · exact e⟩
/-- What Make leaves. -/
theorem mkM_ext (c : Cells) (n : Nd) : Ext c (mkM c n).1 := by
  unfold mkM
  split
  · exact Ext.refl c
  · split
    · exact Ext.refl c
    · split
      · rename_i k h; exact ext_set (freeM_some h).1 (freeM_some h).2.1
      · exact Ext.refl c
theorem ok_set {c : Cells} {k : Nat} {n : Nd} (o : Ok c) (hb : badM c n = 0) (hf : findM c n = none) (h : k < c.length) (h0 : c.at k = none) : Ok (c.set k (some n)) := by
  have e := ext_set (n := n) h h0
  obtain ⟨b1, b2, b3, b4, b5, b6⟩ := badM_ok hb
  have key : ∀ j m, Cells.at (c.set k (some n)) j = some m → (j = k ∧ m = n) ∨ c.at j = some m := by
    intro j m hj
    rw [at_set _ h] at hj
    split at hj
    · rename_i e1; exact .inl ⟨e1, by cases hj; rfl⟩
    · exact .inr hj
  refine ⟨fun j m hj => ?_, fun j m hj => ?_, fun j m hj => ?_, fun i j m hi hj => ?_⟩
  · rcases key j m hj with ⟨_, rfl⟩ | h1
    · exact ⟨b1, b2⟩
    · exact o.var j m h1
  · rcases key j m hj with ⟨_, rfl⟩ | h1
    · exact ⟨e.has b3, by rw [e.top b3]; exact b5⟩
    · have := o.low j m h1; exact ⟨e.has this.1, by rw [e.top this.1]; exact this.2⟩
  · rcases key j m hj with ⟨_, rfl⟩ | h1
    · exact ⟨e.has b4, by rw [e.top b4]; exact b6⟩
    · have := o.high j m h1; exact ⟨e.has this.1, by rw [e.top this.1]; exact this.2⟩
  · rcases key i m hi with ⟨h1, h2⟩ | h1 <;> rcases key j m hj with ⟨h3, h4⟩ | h3
    · rw [h1, h3]
    · subst h2; exact absurd h3 (findM_none hf j)
    · subst h4; exact absurd h1 (findM_none hf i)
    · exact o.uniq i j m h1 h3
theorem mkM_ok {c : Cells} (o : Ok c) (n : Nd) : Ok (mkM c n).1 := by
  unfold mkM
  split
  · exact o
  · rename_i hb
    split
    · exact o
    · rename_i hf
      split
      · rename_i k h; exact ok_set o (by simpa using hb) hf (freeM_some h).1 (freeM_some h).2.1
      · exact o
theorem mkM_cnt (c : Cells) (n : Nd) : cnt (mkM c n).1 ≤ cnt c + 1 := by
  unfold mkM
  split
  · simp
  · split
    · simp
    · split
      · rename_i k h; rw [cnt_set (freeM_some h).1 (freeM_some h).2.1]; exact Nat.le_refl _
      · simp
/-- No error: the node lies under the handle. -/
theorem mkM_get {c : Cells} {n : Nd} (h : (mkM c n).2.2 = 0) : getM (mkM c n).1 (mkM c n).2.1 = some n := by
  unfold mkM at h ⊢
  split
  · rename_i hb; rw [if_pos hb] at h; exact absurd h hb
  · split
    · rename_i k hk; rw [getM_node]; exact findM_some hk
    · rename_i hb _ hf
      split
      · rename_i k hk; rw [getM_node, at_set _ (freeM_some hk).1]; simp
      · rename_i hk; rw [if_neg hb, hf] at h; simp [hk] at h
/-- There is room: no error, where the node is not bad. -/
theorem mkM_room {c : Cells} {n : Nd} (hb : badM c n = 0) (hr : cnt c < c.length) : (mkM c n).2.2 = 0 := by
  unfold mkM
  rw [if_neg (by simp [hb])]
  split
  · rfl
  · split
    · rfl
    · rename_i h; have := cnt_full h; omega
/-- A node that is there is not made again. -/
theorem mkM_there {c : Cells} (o : Ok c) {k : Nat} {n : Nd} (h : c.at k = some n) : mkM c n = (c, (k : Int) + 2, 0) := by
  unfold mkM
  have h1 := o.var k n h
  have h2 := o.low k n h
  have h3 := o.high k n h
  rw [if_neg (by simp [badM_zero h1.1 h1.2 h2.1 h3.1 h2.2 h3.2]), findM_at (fun j hj => o.uniq j k n hj h) h]

/-- What handles lead to. -/
def RchC (c : Cells) (start : List Int) (k : Nat) : Prop := Rch (fun k => (c.at k).getD (0, 0, 0)) (fun k => (c.at k).isSome = true) start k
open Classical in
noncomputable def reachM (c : Cells) (start : List Int) : List Int := ((List.range c.length).filter fun k => decide (RchC c start k)).map fun k : Nat => (k : Int) + 2
open Classical in
noncomputable def sweepM (c : Cells) (start : List Int) : Cells := (List.range c.length).map fun k => if RchC c start k then c.at k else none

theorem sweepM_len (c : Cells) (s : List Int) : (sweepM c s).length = c.length := by simp [sweepM]
open Classical in
theorem sweepM_at (c : Cells) (s : List Int) (k : Nat) : (sweepM c s).at k = if RchC c s k then c.at k else none := by
  rcases Nat.lt_or_ge k c.length with h | h
  · rw [at_get (by rw [sweepM_len]; exact h)]; simp [sweepM]
  · rw [at_ge (by rw [sweepM_len]; exact h), at_ge h]; simp
theorem sweepM_some {c : Cells} {s : List Int} {k : Nat} {n : Nd} : (sweepM c s).at k = some n ↔ RchC c s k ∧ c.at k = some n := by
  rw [sweepM_at]; split <;> simp [*]
theorem RchC.used {c : Cells} {s : List Int} {k : Nat} (h : RchC c s k) : ∃ n, c.at k = some n := by
  have := Rch.used h
  exact Option.isSome_iff_exists.1 this
theorem RchC.start {c : Cells} {s : List Int} {k : Nat} {n : Nd} (h : c.at k = some n) (hm : ((k : Int) + 2) ∈ s) : RchC c s k := Rch.start k (by simp [h]) hm
theorem RchC.low {c : Cells} {s : List Int} {k k' : Nat} {n n' : Nd} (h : RchC c s k) (hn : c.at k = some n) (hn' : c.at k' = some n') (e : n.2.1 = (k' : Int) + 2) : RchC c s k' :=
  Rch.low k k' h (by simp [hn']) (by simp [hn, e])
theorem RchC.high {c : Cells} {s : List Int} {k k' : Nat} {n n' : Nd} (h : RchC c s k) (hn : c.at k = some n) (hn' : c.at k' = some n') (e : n.2.2 = (k' : Int) + 2) : RchC c s k' :=
  Rch.high k k' h (by simp [hn']) (by simp [hn, e])
/-- What a kept handle's node leads to is kept. -/
theorem sweepM_has {c : Cells} {s : List Int} {h : Int} (g : hasM c h = true) (hk : ∀ k : Nat, h = (k : Int) + 2 → RchC c s k) : hasM (sweepM c s) h = true := by
  rcases hasM_cases g with rfl | rfl | ⟨k, n, rfl, h1, _⟩
  · exact hasM_zero _
  · exact hasM_one _
  · exact hasM_node (sweepM_some.2 ⟨hk k rfl, h1⟩)
theorem sweepM_top {c : Cells} {s : List Int} {h : Int} (hk : ∀ k : Nat, h = (k : Int) + 2 → RchC c s k) : topM (sweepM c s) h = topM c h := by
  unfold topM
  rcases Int.lt_or_le h 2 with h1 | h1
  · unfold getM; rw [if_pos h1, if_pos h1]
  · obtain ⟨k, rfl⟩ : ∃ k : Nat, h = (k : Int) + 2 := ⟨(h - 2).toNat, by omega⟩
    rw [getM_node, getM_node, sweepM_at, if_pos (hk k rfl)]
theorem sweepM_ok {c : Cells} (o : Ok c) (s : List Int) : Ok (sweepM c s) := by
  refine ⟨fun k n h => o.var k n (sweepM_some.1 h).2, fun k n h => ?_, fun k n h => ?_, fun j k n h h' => o.uniq j k n (sweepM_some.1 h).2 (sweepM_some.1 h').2⟩
  · obtain ⟨h1, h2⟩ := sweepM_some.1 h
    have h3 := o.low k n h2
    have h4 : ∀ k' : Nat, n.2.1 = (k' : Int) + 2 → RchC c s k' := fun k' e => by
      rcases hasM_cases h3.1 with e2 | e2 | ⟨k2, n2, e2, h5, _⟩
      · omega
      · omega
      · obtain rfl : k2 = k' := by omega
        exact h1.low h2 h5 e
    exact ⟨sweepM_has h3.1 h4, by rw [sweepM_top h4]; exact h3.2⟩
  · obtain ⟨h1, h2⟩ := sweepM_some.1 h
    have h3 := o.high k n h2
    have h4 : ∀ k' : Nat, n.2.2 = (k' : Int) + 2 → RchC c s k' := fun k' e => by
      rcases hasM_cases h3.1 with e2 | e2 | ⟨k2, n2, e2, h5, _⟩
      · omega
      · omega
      · obtain rfl : k2 = k' := by omega
        exact h1.high h2 h5 e
    exact ⟨sweepM_has h3.1 h4, by rw [sweepM_top h4]; exact h3.2⟩
theorem mem_reachM {c : Cells} {s : List Int} {h : Int} : h ∈ reachM c s ↔ ∃ k : Nat, h = (k : Int) + 2 ∧ RchC c s k := by
  classical
  unfold reachM
  simp only [List.mem_map, List.mem_filter, List.mem_range, decide_eq_true_eq]
  constructor
  · rintro ⟨k, ⟨_, h2⟩, rfl⟩; exact ⟨k, rfl, h2⟩
  · rintro ⟨k, rfl, h2⟩
    obtain ⟨n, hn⟩ := h2.used
    exact ⟨k, ⟨at_lt hn, h2⟩, rfl⟩
theorem reachM_len_le (c : Cells) (s : List Int) : (reachM c s).length ≤ c.length := by
  classical
  unfold reachM
  rw [List.length_map]
  exact Nat.le_trans (List.length_filter_le _ _) (by simp)
theorem cnt_range (c : Cells) : cnt c = ((List.range c.length).filter fun k => (c.at k).isSome).length := by
  unfold cnt
  rw [List.countP_eq_length_filter]
  have : c = (List.range c.length).map fun k => c.at k := by
    apply List.ext_getElem
    · simp
    · intro i h1 h2; simp [at_get h1]
  conv => lhs; rw [this]
  rw [List.filter_map, List.length_map]
  rfl
theorem cnt_sweepM (c : Cells) (s : List Int) : cnt (sweepM c s) = (reachM c s).length := by
  classical
  rw [cnt_range, sweepM_len]
  unfold reachM
  rw [List.length_map]
  congr 1
  apply List.filter_congr
  intro k _
  rw [sweepM_at]
  split
  · rename_i h; obtain ⟨n, hn⟩ := h.used; simp [hn, h]
  · rename_i h; simp [h]
theorem rchC_again {c : Cells} {s : List Int} (k : Nat) : RchC (sweepM c s) s k ↔ RchC c s k := by
  refine ⟨fun h => ?_, fun h => ?_⟩
  · obtain ⟨n, hn⟩ := h.used
    exact (sweepM_some.1 hn).1
  · have key : ∀ j, RchC c s j → ∃ n, c.at j = some n ∧ (sweepM c s).at j = some n := fun j hj => by
      obtain ⟨n, hn⟩ := hj.used; exact ⟨n, hn, sweepM_some.2 ⟨hj, hn⟩⟩
    refine Rch.ind (Q := fun k => RchC (sweepM c s) s k) (fun k hu hm => ?_) (fun k k' h1 ih hu e => ?_) (fun k k' h1 ih hu e => ?_) h
    · obtain ⟨n, hn⟩ := Option.isSome_iff_exists.1 hu
      exact RchC.start (sweepM_some.2 ⟨.start hn hm, hn⟩) hm
    · obtain ⟨n, hn, hs⟩ := key k h1
      obtain ⟨n', hn'⟩ := Option.isSome_iff_exists.1 hu
      simp only [hn, Option.getD_some] at e
      exact RchC.low ih hs (sweepM_some.2 ⟨RchC.low h1 hn hn' e, hn'⟩) e
    · obtain ⟨n, hn, hs⟩ := key k h1
      obtain ⟨n', hn'⟩ := Option.isSome_iff_exists.1 hu
      simp only [hn, Option.getD_some] at e
      exact RchC.high ih hs (sweepM_some.2 ⟨RchC.high h1 hn hn' e, hn'⟩) e
theorem reachM_again (c : Cells) (s : List Int) : reachM (sweepM c s) s = reachM c s := by
  classical
  unfold reachM
  rw [sweepM_len]
  congr 1
  apply List.filter_congr
  intro k _
  simp only [rchC_again]
end Go.Proofs.YthmflcmbaldflaaGreatDoor
namespace Go.Proofs.YthmflcmbaldflaaGreatDoor
set_option linter.unusedVariables false

/-- What a handle is true of (fuel: the variables rise). -/
def denF : Nat → Cells → Int → (Int → Bool) → Bool
  | 0, _, _, _ => false
  | f + 1, c, h, val => match getM c h with
    | none => h == 1
    | some n => if val n.1 then denF f c n.2.2 val else denF f c n.2.1 val
theorem denF_none {f : Nat} {c : Cells} {h : Int} (e : getM c h = none) (val : Int → Bool) : denF (f + 1) c h val = (h == 1) := by simp only [denF, e]
theorem denF_some {f : Nat} {c : Cells} {h : Int} {n : Nd} (e : getM c h = some n) (val : Int → Bool) : denF (f + 1) c h val = if val n.1 then denF f c n.2.2 val else denF f c n.2.1 val := by simp only [denF, e]
def den (c : Cells) (h : Int) (val : Int → Bool) : Bool := denF 25 c h val
def setV (val : Int → Bool) (v : Int) (b : Bool) : Int → Bool := fun u => if u = v then b else val u

theorem top_node {c : Cells} {h : Int} {n : Nd} (g : getM c h = some n) : topM c h = n.1 := by unfold topM; rw [g]
theorem top_end {c : Cells} {h : Int} (g : getM c h = none) : topM c h = 24 := by unfold topM; rw [g]
theorem Ok.kids {c : Cells} (o : Ok c) {h : Int} {n : Nd} (g : getM c h = some n) :
    0 ≤ n.1 ∧ n.1 < 24 ∧ hasM c n.2.1 = true ∧ hasM c n.2.2 = true ∧ n.1 < topM c n.2.1 ∧ n.1 < topM c n.2.2 := by
  obtain ⟨k, rfl, h1, _⟩ := getM_some g
  exact ⟨(o.var k n h1).1, (o.var k n h1).2, (o.low k n h1).1, (o.high k n h1).1, (o.low k n h1).2, (o.high k n h1).2⟩
theorem has_of_get {c : Cells} {h : Int} {n : Nd} (g : getM c h = some n) : hasM c h = true := by unfold hasM; rw [g]; simp

theorem denF_more {c : Cells} (o : Ok c) (val : Int → Bool) : ∀ (f g : Nat) (h : Int), (24 - topM c h).toNat < f → f ≤ g → denF f c h val = denF g c h val
  | 0, _, _, h1, _ => absurd h1 (Nat.not_lt_zero _)
  | f + 1, 0, _, _, h2 => absurd h2 (by omega)
  | f + 1, g + 1, h, h1, h2 => by
    cases e : getM c h with
    | none => rw [denF_none e, denF_none e]
    | some n =>
      obtain ⟨k1, k2, _, _, k3, k4⟩ := o.kids e
      rw [top_node e] at h1
      rw [denF_some e, denF_some e, denF_more o val f g n.2.1 (by omega) (by omega), denF_more o val f g n.2.2 (by omega) (by omega)]
theorem den_node {c : Cells} (o : Ok c) {h : Int} {n : Nd} (e : getM c h = some n) (val : Int → Bool) : den c h val = if val n.1 then den c n.2.2 val else den c n.2.1 val := by
  obtain ⟨k1, k2, _, _, k3, k4⟩ := o.kids e
  show denF (24 + 1) c h val = if val n.1 then denF 25 c n.2.2 val else denF 25 c n.2.1 val
  rw [denF_some e, denF_more o val 24 25 n.2.1 (by omega) (by omega), denF_more o val 24 25 n.2.2 (by omega) (by omega)]
theorem den_end {c : Cells} {h : Int} (e : getM c h = none) (val : Int → Bool) : den c h val = (h == 1) := denF_none (f := 24) e val
theorem den_zero (c : Cells) (val : Int → Bool) : den c 0 val = false := by rw [den_end (getM_end c (.inl rfl))]; rfl
theorem den_one (c : Cells) (val : Int → Bool) : den c 1 val = true := by rw [den_end (getM_end c (.inr rfl))]; rfl

/-- Induction over what a handle leads to. -/
theorem node_ind {c : Cells} (o : Ok c) {Q : Int → Prop} (h0 : ∀ h, getM c h = none → Q h) (h1 : ∀ h n, getM c h = some n → Q n.2.1 → Q n.2.2 → Q h) : ∀ h, Q h := by
  have key : ∀ (f : Nat) (h : Int), (24 - topM c h).toNat < f → Q h := by
    intro f
    induction f with
    | zero => intro h hf; exact absurd hf (Nat.not_lt_zero _)
    | succ f ih =>
      intro h hf
      cases e : getM c h with
      | none => exact h0 h e
      | some n =>
        obtain ⟨k1, k2, _, _, k3, k4⟩ := o.kids e
        rw [top_node e] at hf
        exact h1 h n e (ih _ (by omega)) (ih _ (by omega))
  exact fun h => key _ h (Nat.lt_succ_self _)

theorem den_ext {c c' : Cells} (o : Ok c) (o' : Ok c') (e : Ext c c') (val : Int → Bool) : ∀ h, hasM c h = true → den c' h val = den c h val := by
  refine node_ind o (Q := fun h => hasM c h = true → den c' h val = den c h val) (fun h g hh => ?_) (fun h n g ih1 ih2 hh => ?_)
  · rw [den_end g, den_end ((e.get_eq hh).trans g)]
  · obtain ⟨_, _, k1, k2, _, _⟩ := o.kids g
    rw [den_node o g, den_node o' (e.get g), ih1 k1, ih2 k2]
/-- It does not hang on a variable ahead of its top. -/
theorem den_free {c : Cells} (o : Ok c) {v : Int} (b : Bool) (val : Int → Bool) : ∀ h, v < topM c h → den c h (setV val v b) = den c h val := by
  refine node_ind o (Q := fun h => v < topM c h → den c h (setV val v b) = den c h val) (fun h g hv => ?_) (fun h n g ih1 ih2 hv => ?_)
  · rw [den_end g, den_end g]
  · obtain ⟨_, _, k1, k2, k3, k4⟩ := o.kids g
    rw [top_node g] at hv
    rw [den_node o g, den_node o g, ih1 (by omega), ih2 (by omega)]
    have : setV val v b n.1 = val n.1 := by unfold setV; rw [if_neg (by omega)]
    rw [this]
theorem den_high {c : Cells} (o : Ok c) {h : Int} {n : Nd} (g : getM c h = some n) (val : Int → Bool) : den c h (setV val n.1 true) = den c n.2.2 val := by
  obtain ⟨_, _, k1, k2, k3, k4⟩ := o.kids g
  rw [den_node o g, den_free o true val n.2.2 k4]
  simp [setV]
theorem den_low {c : Cells} (o : Ok c) {h : Int} {n : Nd} (g : getM c h = some n) (val : Int → Bool) : den c h (setV val n.1 false) = den c n.2.1 val := by
  obtain ⟨_, _, k1, k2, k3, k4⟩ := o.kids g
  rw [den_node o g, den_free o false val n.2.1 k3]
  simp [setV]

/-- No node leads to the same either way. -/
def Red (c : Cells) : Prop := ∀ k n, c.at k = some n → n.2.1 ≠ n.2.2

/-- THE SAME FUNCTION IS THE SAME HANDLE. -/
theorem canon {c : Cells} (o : Ok c) (r : Red c) : ∀ (f : Nat) (h h' : Int), (24 - topM c h).toNat < f → (24 - topM c h').toNat < f → hasM c h = true → hasM c h' = true → (∀ val, den c h val = den c h' val) → h = h'
  | 0, _, _, h1, _, _, _, _ => absurd h1 (Nat.not_lt_zero _)
  | f + 1, h, h', hf, hf', hh, hh', he => by
    have node_case : ∀ {x x' : Int} {n : Nd}, getM c x = some n → n.1 < topM c x' → (24 - topM c x).toNat < f + 1 → (∀ val, den c x val = den c x' val) → False := by
      intro x x' n g hlt hx hd
      obtain ⟨k, rfl, hk, _⟩ := getM_some g
      obtain ⟨b1, b2, k1, k2, k3, k4⟩ := o.kids g
      rw [top_node g] at hx
      refine r k n hk (canon o r f n.2.1 n.2.2 (by omega) (by omega) k1 k2 (fun val => ?_))
      rw [← den_low o g val, ← den_high o g val, hd, hd, den_free o _ _ _ hlt, den_free o _ _ _ hlt]
    cases g : getM c h with
    | none =>
      cases g' : getM c h' with
      | none =>
        have h2 := he (fun _ => true)
        rw [den_end g, den_end g'] at h2
        rcases getM_none_of_has hh g with rfl | rfl <;> rcases getM_none_of_has hh' g' with rfl | rfl
        · rfl
        · exact absurd h2 (by decide)
        · exact absurd h2 (by decide)
        · rfl
      | some n' => exact (node_case g' (by rw [top_end g]; exact (o.kids g').2.1) hf' (fun val => (he val).symm)).elim
    | some n =>
      cases g' : getM c h' with
      | none => exact (node_case g (by rw [top_end g']; exact (o.kids g).2.1) hf he).elim
      | some n' =>
        rcases Int.lt_trichotomy n.1 n'.1 with h3 | h3 | h3
        · exact (node_case g (by rw [top_node g']; exact h3) hf he).elim
        · obtain ⟨b1, b2, k1, k2, k3, k4⟩ := o.kids g
          obtain ⟨b1', b2', k1', k2', k3', k4'⟩ := o.kids g'
          rw [top_node g] at hf
          rw [top_node g'] at hf'
          have e1 := canon o r f n.2.1 n'.2.1 (by omega) (by omega) k1 k1' (fun val => by rw [← den_low o g val, ← den_low o g' val, h3]; exact he _)
          have e2 := canon o r f n.2.2 n'.2.2 (by omega) (by omega) k2 k2' (fun val => by rw [← den_high o g val, ← den_high o g' val, h3]; exact he _)
          obtain ⟨k, rfl, hk, _⟩ := getM_some g
          obtain ⟨k', rfl, hk', _⟩ := getM_some g'
          have : n = n' := by
            obtain ⟨a, b, d⟩ := n
            obtain ⟨a', b', d'⟩ := n'
            simp only at h3 e1 e2
            rw [h3, e1, e2]
          subst this
          rw [o.uniq k k' n hk hk']
        · exact (node_case g' (by rw [top_node g]; exact h3) hf' (fun val => (he val).symm)).elim
theorem canon_eq {c : Cells} (o : Ok c) (r : Red c) {h h' : Int} (hh : hasM c h = true) (hh' : hasM c h' = true) (he : ∀ val, den c h val = den c h' val) : h = h' :=
  canon o r ((24 - topM c h).toNat + (24 - topM c h').toNat + 1) h h' (by omega) (by omega) hh hh' he

/-- node. -/
def nodeM (c : Cells) (v low high : Int) : Cells × Int × Nat := if low = high then (c, low, 0) else mkM c (v, low, high)
/-- at. -/
def atM (c : Cells) (h v : Int) : Int × Int := match getM c h with
  | some n => if n.1 = v then (n.2.1, n.2.2) else (h, h)
  | none => (h, h)

/-- A space: what its arena holds, and its cache. -/
structure Sp where
  c : Cells
  q : Int × Int × Int → Option Int
def putQ (q : Int × Int × Int → Option Int) (k : Int × Int × Int) (h : Int) : Int × Int × Int → Option Int := fun k' => if k = k' then some h else q k'
def min3 (a b c : Int) : Int := min (min a b) c

def hitM (s : Sp) (k : Int × Int × Int) : Option Int := match s.q k with
  | some h => if hasM s.c h then some h else none
  | none => none
def iteM : Nat → Sp → Int → Int → Int → Sp × Int × Nat
  | 0, s, _, _, _ => (s, 0, 99)
  | f + 1, s, a, b, c =>
    if a = 1 ∨ b = c then (s, b, 0) else if a = 0 then (s, c, 0) else
    match hitM s (a, b, c) with
    | some h => (s, h, 0)
    | none =>
      let v := min3 (topM s.c a) (topM s.c b) (topM s.c c)
      let r1 := iteM f s (atM s.c a v).1 (atM s.c b v).1 (atM s.c c v).1
      if r1.2.2 ≠ 0 then (r1.1, 0, r1.2.2) else
      let r2 := iteM f r1.1 (atM s.c a v).2 (atM s.c b v).2 (atM s.c c v).2
      if r2.2.2 ≠ 0 then (r2.1, 0, r2.2.2) else
      let r3 := nodeM r2.1.c v r1.2.1 r2.2.1
      (⟨r3.1, if r3.2.2 = 0 then putQ r2.1.q (a, b, c) r3.2.1 else r2.1.q⟩, r3.2.1, r3.2.2)

theorem nodeM_ext (c : Cells) (v l h : Int) : Ext c (nodeM c v l h).1 := by
  unfold nodeM; split
  · exact Ext.refl c
  · exact mkM_ext c _
theorem nodeM_ok {c : Cells} (o : Ok c) (v l h : Int) : Ok (nodeM c v l h).1 := by
  unfold nodeM; split
  · exact o
  · exact mkM_ok o _
theorem iteM_ext : ∀ (f : Nat) (s : Sp) (a b c : Int), Ext s.c (iteM f s a b c).1.c ∧ (Ok s.c → Ok (iteM f s a b c).1.c)
  | 0, s, _, _, _ => ⟨Ext.refl _, id⟩
  | f + 1, s, a, b, c => by
    unfold iteM
    split
    · exact ⟨Ext.refl _, id⟩
    · split
      · exact ⟨Ext.refl _, id⟩
      · split
        · exact ⟨Ext.refl _, id⟩
        · have i1 := iteM_ext f s (atM s.c a (min3 (topM s.c a) (topM s.c b) (topM s.c c))).1 (atM s.c b (min3 (topM s.c a) (topM s.c b) (topM s.c c))).1 (atM s.c c (min3 (topM s.c a) (topM s.c b) (topM s.c c))).1
          simp only
          split
          · exact i1
          · have i2 := iteM_ext f (iteM f s (atM s.c a (min3 (topM s.c a) (topM s.c b) (topM s.c c))).1 (atM s.c b (min3 (topM s.c a) (topM s.c b) (topM s.c c))).1 (atM s.c c (min3 (topM s.c a) (topM s.c b) (topM s.c c))).1).1 (atM s.c a (min3 (topM s.c a) (topM s.c b) (topM s.c c))).2 (atM s.c b (min3 (topM s.c a) (topM s.c b) (topM s.c c))).2 (atM s.c c (min3 (topM s.c a) (topM s.c b) (topM s.c c))).2
            split
            · exact ⟨i1.1.trans i2.1, fun o => i2.2 (i1.2 o)⟩
            · exact ⟨(i1.1.trans i2.1).trans (nodeM_ext _ _ _ _), fun o => nodeM_ok (i2.2 (i1.2 o)) _ _ _⟩
end Go.Proofs.YthmflcmbaldflaaGreatDoor
namespace Go.Proofs.YthmflcmbaldflaaGreatDoor
set_option linter.unusedVariables false

/-- A space in order, over V variables. -/
structure SOk (V : Int) (s : Sp) : Prop where
  ok : Ok s.c
  red : Red s.c
  vlt : ∀ k n, s.c.at k = some n → n.1 < V
  mem : ∀ a b c h, s.q (a, b, c) = some h → hasM s.c a = true ∧ hasM s.c b = true ∧ hasM s.c c = true ∧ hasM s.c h = true ∧ (∀ val, den s.c h val = if den s.c a val then den s.c b val else den s.c c val) ∧ min3 (topM s.c a) (topM s.c b) (topM s.c c) ≤ topM s.c h

theorem Ok.top_pos {c : Cells} (o : Ok c) (h : Int) : 0 ≤ topM c h ∧ topM c h ≤ 24 := topM_le o h

structure NodeOk (c : Cells) (v l h : Int) (r : Cells × Int × Nat) : Prop where
  err : r.2.2 = 0
  ext : Ext c r.1
  ok : Ok r.1
  red : Red r.1
  has : hasM r.1 r.2.1 = true
  den : ∀ val, den r.1 r.2.1 val = if val v then den c h val else den c l val
  top : v ≤ topM r.1 r.2.1
  cnt : cnt r.1 ≤ cnt c + 1
  old : ∀ k n, r.1.at k = some n → c.at k = some n ∨ n = (v, l, h)

theorem nodeM_spec {c : Cells} (o : Ok c) (rd : Red c) {v l h : Int} (v0 : 0 ≤ v) (v1 : v < 24) (hl : hasM c l = true) (hh : hasM c h = true) (tl : v < topM c l) (th : v < topM c h) (hr : cnt c < c.length) : NodeOk c v l h (nodeM c v l h) := by
  by_cases e : l = h
  · subst e
    have hn : nodeM c v l l = (c, l, 0) := by unfold nodeM; rw [if_pos rfl]
    rw [hn]
    exact ⟨rfl, Ext.refl c, o, rd, hl, fun val => by simp, by dsimp only; omega, by simp, fun k n h => .inl h⟩
  · have hn : nodeM c v l h = mkM c (v, l, h) := by unfold nodeM; rw [if_neg e]
    have hb : badM c (v, l, h) = 0 := badM_zero v0 v1 hl hh tl th
    have he := mkM_room hb hr
    have hext := mkM_ext c (v, l, h)
    have hok := mkM_ok o (v, l, h)
    have hg := mkM_get he
    have hold : ∀ k n, (mkM c (v, l, h)).1.at k = some n → c.at k = some n ∨ n = (v, l, h) := by
      intro k n hk
      unfold mkM at hk
      rw [if_neg (by simp [hb])] at hk
      split at hk
      · exact .inl hk
      · split at hk
        · rename_i j hj
          rw [at_set _ (freeM_some hj).1] at hk
          split at hk
          · cases hk; exact .inr rfl
          · exact .inl hk
        · exact .inl hk
    rw [hn]
    refine ⟨he, hext, hok, fun k n hk => ?_, has_of_get hg, fun val => ?_, ?_, mkM_cnt c _, hold⟩
    · rcases hold k n hk with h1 | rfl
      · exact rd k n h1
      · exact e
    · rw [den_node hok hg, den_ext o hok hext val l hl, den_ext o hok hext val h hh]
    · rw [top_node hg]; exact Int.le_refl _

structure AtOk (c : Cells) (h v : Int) (r : Int × Int) : Prop where
  has1 : hasM c r.1 = true
  has2 : hasM c r.2 = true
  den1 : ∀ val, den c r.1 val = den c h (setV val v false)
  den2 : ∀ val, den c r.2 val = den c h (setV val v true)
  top1 : v < topM c r.1
  top2 : v < topM c r.2
theorem atM_spec {c : Cells} (o : Ok c) {h v : Int} (hh : hasM c h = true) (hv : v ≤ topM c h) (hv2 : v < 24) : AtOk c h v (atM c h v) := by
  unfold atM
  cases g : getM c h with
  | none =>
    have := top_end g
    exact ⟨hh, hh, fun val => by dsimp only; rw [den_end g, den_end g], fun val => by dsimp only; rw [den_end g, den_end g], by dsimp only; omega, by dsimp only; omega⟩
  | some n =>
    obtain ⟨b1, b2, k1, k2, k3, k4⟩ := o.kids g
    have ht := top_node g
    dsimp only
    split
    · rename_i e
      subst e
      exact ⟨k1, k2, fun val => (den_low o g val).symm, fun val => (den_high o g val).symm, k3, k4⟩
    · rename_i e
      have : v < topM c h := by omega
      exact ⟨hh, hh, fun val => (den_free o _ val h this).symm, fun val => (den_free o _ val h this).symm, this, this⟩

theorem setV_self (val : Int → Bool) (v : Int) : setV val v (val v) = val := by
  funext u; unfold setV; split
  · rename_i e; rw [e]
  · rfl

theorem two_pow_split {V v : Int} (h : v < V) : 2 ^ (V - v).toNat = 2 ^ (V - (v + 1)).toNat + 2 ^ (V - (v + 1)).toNat := by
  have : (V - v).toNat = (V - (v + 1)).toNat + 1 := by omega
  rw [this, Nat.pow_succ]; omega
theorem two_pow_le {a b : Nat} (h : a ≤ b) : 2 ^ a ≤ 2 ^ b := Nat.pow_le_pow_right (by decide) h
theorem two_pow_pos (a : Nat) : 1 ≤ 2 ^ a := Nat.one_le_two_pow

structure IteOk (V : Int) (s : Sp) (a b c : Int) (r : Sp × Int × Nat) : Prop where
  err : r.2.2 = 0
  sok : SOk V r.1
  ext : Ext s.c r.1.c
  has : hasM r.1.c r.2.1 = true
  den : ∀ val, den r.1.c r.2.1 val = if den s.c a val then den s.c b val else den s.c c val
  top : min3 (topM s.c a) (topM s.c b) (topM s.c c) ≤ topM r.1.c r.2.1
  cnt : cnt r.1.c + 1 ≤ cnt s.c + 2 ^ (V - min3 (topM s.c a) (topM s.c b) (topM s.c c)).toNat

theorem hitM_some {s : Sp} {k : Int × Int × Int} {h : Int} (e : hitM s k = some h) : s.q k = some h := by
  unfold hitM at e
  cases h1 : s.q k with
  | none => rw [h1] at e; cases e
  | some h' =>
    rw [h1] at e
    simp only at e
    split at e
    · exact e
    · cases e

theorem iteM_spec (V : Int) (hV : V ≤ 24) : ∀ (f : Nat) (s : Sp) (a b c : Int), SOk V s → hasM s.c a = true → hasM s.c b = true → hasM s.c c = true → (24 - min3 (topM s.c a) (topM s.c b) (topM s.c c)).toNat < f →
    cnt s.c + 2 ^ (V - min3 (topM s.c a) (topM s.c b) (topM s.c c)).toNat ≤ s.c.length + 1 → IteOk V s a b c (iteM f s a b c)
  | 0, _, _, _, _, _, _, _, _, hf, _ => absurd hf (Nat.not_lt_zero _)
  | f + 1, s, a, b, c, so, ha, hb, hc, hf, hr => by
    have ta := so.ok.top_pos a
    have tb := so.ok.top_pos b
    have tc := so.ok.top_pos c
    have p1 := two_pow_pos (V - min3 (topM s.c a) (topM s.c b) (topM s.c c)).toNat
    by_cases h1 : a = 1 ∨ b = c
    · have e : iteM (f + 1) s a b c = (s, b, 0) := by rw [iteM, if_pos h1]
      rw [e]
      refine ⟨rfl, so, Ext.refl _, hb, fun val => ?_, by unfold min3; dsimp only; omega, by dsimp only; omega⟩
      rcases h1 with rfl | rfl
      · simp [den_one]
      · simp
    · by_cases h0 : a = 0
      · have e : iteM (f + 1) s a b c = (s, c, 0) := by rw [iteM, if_neg h1, if_pos h0]
        rw [e]
        refine ⟨rfl, so, Ext.refl _, hc, fun val => ?_, by unfold min3; dsimp only; omega, by dsimp only; omega⟩
        subst h0; simp [den_zero]
      · cases hq : hitM s (a, b, c) with
        | some h =>
          have e : iteM (f + 1) s a b c = (s, h, 0) := by rw [iteM, if_neg h1, if_neg h0, hq]
          rw [e]
          obtain ⟨_, _, _, m1, m2, m3⟩ := so.mem a b c h (hitM_some hq)
          exact ⟨rfl, so, Ext.refl _, m1, m2, m3, by dsimp only; omega⟩
        | none =>
          obtain ⟨v, hv⟩ : ∃ v, v = min3 (topM s.c a) (topM s.c b) (topM s.c c) := ⟨_, rfl⟩
          have hva : v ≤ topM s.c a := by rw [hv]; unfold min3; omega
          have hvb : v ≤ topM s.c b := by rw [hv]; unfold min3; omega
          have hvc : v ≤ topM s.c c := by rw [hv]; unfold min3; omega
          have hv0 : 0 ≤ v := by rw [hv]; unfold min3; omega
          obtain ⟨n, g⟩ : ∃ n, getM s.c a = some n := by
            cases g : getM s.c a with
            | some n => exact ⟨n, rfl⟩
            | none =>
              rcases getM_none_of_has ha g with e | e
              · exact absurd e h0
              · exact absurd (.inl e) h1
          have hvV : v < V := by
            have h2 := top_node g
            obtain ⟨k, rfl, h3, _⟩ := getM_some g
            have := so.vlt k n h3
            omega
          have A := atM_spec so.ok ha hva (by omega)
          have B := atM_spec so.ok hb hvb (by omega)
          have C := atM_spec so.ok hc hvc (by omega)
          have m1 : v + 1 ≤ min3 (topM s.c (atM s.c a v).1) (topM s.c (atM s.c b v).1) (topM s.c (atM s.c c v).1) := by have := A.top1; have := B.top1; have := C.top1; unfold min3; omega
          have w1 := two_pow_le (show (V - min3 (topM s.c (atM s.c a v).1) (topM s.c (atM s.c b v).1) (topM s.c (atM s.c c v).1)).toNat ≤ (V - (v + 1)).toNat by omega)
          have sp := two_pow_split hvV
          have p2 := two_pow_pos (V - (v + 1)).toNat
          rw [← hv] at hr hf
          have r1 := iteM_spec V hV f s (atM s.c a v).1 (atM s.c b v).1 (atM s.c c v).1 so A.has1 B.has1 C.has1 (by omega) (by omega)
          have e : iteM (f + 1) s a b c = (let r1 := iteM f s (atM s.c a v).1 (atM s.c b v).1 (atM s.c c v).1
              if r1.2.2 ≠ 0 then (r1.1, 0, r1.2.2) else
              let r2 := iteM f r1.1 (atM s.c a v).2 (atM s.c b v).2 (atM s.c c v).2
              if r2.2.2 ≠ 0 then (r2.1, 0, r2.2.2) else
              let r3 := nodeM r2.1.c v r1.2.1 r2.2.1
              (⟨r3.1, if r3.2.2 = 0 then putQ r2.1.q (a, b, c) r3.2.1 else r2.1.q⟩, r3.2.1, r3.2.2)) := by rw [iteM, if_neg h1, if_neg h0, hq, hv]
          rw [e]
          generalize iteM f s (atM s.c a v).1 (atM s.c b v).1 (atM s.c c v).1 = R1 at r1 ⊢
          have E1 := r1.ext
          have c1 := r1.cnt
          have ht2 : ∀ {x : Int}, hasM s.c x = true → topM R1.1.c x = topM s.c x := fun hx => E1.top hx
          have m2 : v + 1 ≤ min3 (topM R1.1.c (atM s.c a v).2) (topM R1.1.c (atM s.c b v).2) (topM R1.1.c (atM s.c c v).2) := by
            rw [ht2 A.has2, ht2 B.has2, ht2 C.has2]; have := A.top2; have := B.top2; have := C.top2; unfold min3; omega
          have w2 := two_pow_le (show (V - min3 (topM R1.1.c (atM s.c a v).2) (topM R1.1.c (atM s.c b v).2) (topM R1.1.c (atM s.c c v).2)).toNat ≤ (V - (v + 1)).toNat by omega)
          have L1 := E1.len
          have r2 := iteM_spec V hV f R1.1 (atM s.c a v).2 (atM s.c b v).2 (atM s.c c v).2 r1.sok (E1.has A.has2) (E1.has B.has2) (E1.has C.has2) (by omega) (by omega)
          have er1 : ¬ (R1.2.2 ≠ 0) := by rw [r1.err]; simp
          simp only [if_neg er1]
          generalize iteM f R1.1 (atM s.c a v).2 (atM s.c b v).2 (atM s.c c v).2 = R2 at r2 ⊢
          have E2 := r2.ext
          have c2 := r2.cnt
          have L2 := E2.len
          have er2 : ¬ (R2.2.2 ≠ 0) := by rw [r2.err]; simp
          simp only [if_neg er2]
          have t1 : v < topM R2.1.c R1.2.1 := by rw [E2.top r1.has]; have := r1.top; omega
          have t2 : v < topM R2.1.c R2.2.1 := by have := r2.top; omega
          have r3 := nodeM_spec r2.sok.ok r2.sok.red hv0 (by omega) (E2.has r1.has) r2.has t1 t2 (by omega)
          generalize nodeM R2.1.c v R1.2.1 R2.2.1 = R3 at r3 ⊢
          have E3 := r3.ext
          have c3 := r3.cnt
          have E := (E1.trans E2).trans E3
          have hden : ∀ val, den R3.1 R3.2.1 val = if den s.c a val then den s.c b val else den s.c c val := by
            intro val
            rw [r3.den]
            cases hb' : val v
            · have hs : setV val v false = val := by rw [← hb']; exact setV_self val v
              simp only [Bool.false_eq_true, if_false]
              rw [den_ext r1.sok.ok r2.sok.ok E2 val _ r1.has, r1.den, A.den1, B.den1, C.den1, hs]
            · have hs : setV val v true = val := by rw [← hb']; exact setV_self val v
              simp only [if_true]
              rw [r2.den, den_ext so.ok r1.sok.ok E1 val _ A.has2, den_ext so.ok r1.sok.ok E1 val _ B.has2, den_ext so.ok r1.sok.ok E1 val _ C.has2, A.den2, B.den2, C.den2, hs]
          have D : ∀ {x : Int}, hasM s.c x = true → ∀ val, den R3.1 x val = den s.c x val := fun hx val => den_ext so.ok r3.ok E val _ hx
          rw [if_pos r3.err]
          refine ⟨r3.err, ⟨r3.ok, r3.red, fun k m hk => ?_, fun a' b' c' h' hm => ?_⟩, E, r3.has, hden, by rw [← hv]; exact r3.top, by rw [← hv]; dsimp only; omega⟩
          · rcases r3.old k m hk with h3 | rfl
            · exact r2.sok.vlt k m h3
            · exact hvV
          · unfold putQ at hm
            dsimp only at hm ⊢
            split at hm
            · rename_i e4
              simp only [Prod.mk.injEq] at e4
              obtain ⟨rfl, rfl, rfl⟩ := e4
              cases hm
              refine ⟨E.has ha, E.has hb, E.has hc, r3.has, fun val => ?_, ?_⟩
              · rw [D ha, D hb, D hc]; exact hden val
              · rw [E.top ha, E.top hb, E.top hc, ← hv]; exact r3.top
            · obtain ⟨n1, n2, n3, n4, n5, n6⟩ := r2.sok.mem a' b' c' h' hm
              have D2 : ∀ {x : Int}, hasM R2.1.c x = true → ∀ val, den R3.1 x val = den R2.1.c x val := fun hx val => den_ext r2.sok.ok r3.ok E3 val _ hx
              exact ⟨E3.has n1, E3.has n2, E3.has n3, E3.has n4, fun val => by rw [D2 n1, D2 n2, D2 n3, D2 n4]; exact n5 val, by rw [E3.top n1, E3.top n2, E3.top n3, E3.top n4]; exact n6⟩
end Go.Proofs.YthmflcmbaldflaaGreatDoor
namespace Go.Proofs.YthmflcmbaldflaaGreatDoor
set_option linter.unusedVariables false

/-- Nodes in order, over V variables. -/
structure COk (V : Int) (c : Cells) : Prop where
  ok : Ok c
  red : Red c
  vlt : ∀ k n, c.at k = some n → n.1 < V
theorem SOk.cells {V : Int} {s : Sp} (h : SOk V s) : COk V s.c := ⟨h.ok, h.red, h.vlt⟩
theorem SOk.more {V : Int} {c c' : Cells} {q : Int × Int × Int → Option Int} (h : SOk V ⟨c, q⟩) (e : Ext c c') (o : COk V c') : SOk V ⟨c', q⟩ := by
  refine ⟨o.ok, o.red, o.vlt, fun a b x y hm => ?_⟩
  obtain ⟨n1, n2, n3, n4, n5, n6⟩ := h.mem a b x y hm
  have D : ∀ {z : Int}, hasM c z = true → ∀ val, den c' z val = den c z val := fun hx val => den_ext h.ok o.ok e val _ hx
  exact ⟨e.has n1, e.has n2, e.has n3, e.has n4, fun val => by dsimp only; rw [D n1, D n2, D n3, D n4]; exact n5 val, by dsimp only at n6 ⊢; rw [e.top n1, e.top n2, e.top n3, e.top n4]; exact n6⟩
theorem SOk.none {V : Int} {c : Cells} (o : COk V c) : SOk V ⟨c, fun _ => none⟩ := ⟨o.ok, o.red, o.vlt, fun _ _ _ _ h => by cases h⟩
theorem COk.empty (V : Int) (R : Nat) : COk V (List.replicate R none) := by
  have hat : ∀ k, Cells.at (List.replicate R none) k = none := fun k => by unfold Cells.at; simp only [List.getD_eq_getElem?_getD, List.getElem?_replicate]; split <;> rfl
  exact ⟨⟨fun k n h => (by rw [hat] at h; cases h), fun k n h => (by rw [hat] at h; cases h), fun k n h => (by rw [hat] at h; cases h), fun j k n h => (by rw [hat] at h; cases h)⟩, fun k n h => (by rw [hat] at h; cases h), fun k n h => (by rw [hat] at h; cases h)⟩
theorem COk.sweep {V : Int} {c : Cells} (o : COk V c) (l : List Int) : COk V (sweepM c l) :=
  ⟨sweepM_ok o.ok l, fun k n h => o.red k n (sweepM_some.1 h).2, fun k n h => o.vlt k n (sweepM_some.1 h).2⟩

abbrev Done := Int → Option Int
def putD (d : Done) (h x : Int) : Done := fun k => if h = k then some x else d k
def setM : Nat → Cells → Done → Int → Int → Bool → Cells × Done × Int × Nat
  | 0, c, d, _, _, _ => (c, d, 0, 99)
  | f + 1, c, d, h, v, is =>
    match getM c h with
    | none => (c, d, h, 0)
    | some n =>
      if v < n.1 then (c, d, h, 0) else
      if n.1 = v then (c, d, if is then n.2.2 else n.2.1, 0) else
      match d h with
      | some x => (c, d, x, 0)
      | none =>
        let r1 := setM f c d n.2.1 v is
        if r1.2.2.2 ≠ 0 then (r1.1, r1.2.1, 0, r1.2.2.2) else
        let r2 := setM f r1.1 r1.2.1 n.2.2 v is
        if r2.2.2.2 ≠ 0 then (r2.1, r2.2.1, 0, r2.2.2.2) else
        let r3 := nodeM r2.1 n.1 r1.2.2.1 r2.2.2.1
        (r3.1, putD r2.2.1 h r3.2.1, r3.2.1, r3.2.2)

structure DOk (c : Cells) (d : Done) (v : Int) (is : Bool) : Prop where
  at_ : ∀ k x, d k = some x → hasM c k = true ∧ hasM c x = true ∧ (∀ val, den c x val = den c k (setV val v is)) ∧ topM c k ≤ topM c x
theorem DOk.ext {c c' : Cells} {d : Done} {v : Int} {is : Bool} (h : DOk c d v is) (o : Ok c) (o' : Ok c') (e : Ext c c') : DOk c' d v is :=
  ⟨fun k x hk => by
    obtain ⟨h1, h2, h3, h4⟩ := h.at_ k x hk
    exact ⟨e.has h1, e.has h2, fun val => by rw [den_ext o o' e val _ h2, den_ext o o' e _ _ h1]; exact h3 val, by rw [e.top h1, e.top h2]; exact h4⟩⟩

structure SetOk (V : Int) (c : Cells) (h v : Int) (is : Bool) (r : Cells × Done × Int × Nat) : Prop where
  err : r.2.2.2 = 0
  cok : COk V r.1
  ext : Ext c r.1
  dok : DOk r.1 r.2.1 v is
  has : hasM r.1 r.2.2.1 = true
  den : ∀ val, den r.1 r.2.2.1 val = den c h (setV val v is)
  top : topM c h ≤ topM r.1 r.2.2.1
  cnt : cnt r.1 + 1 ≤ cnt c + 2 ^ (V - topM c h).toNat
  cnt2 : v ≤ V → Go.Proofs.YthmflcmbaldflaaGreatDoor.cnt r.1 + 1 ≤ Go.Proofs.YthmflcmbaldflaaGreatDoor.cnt c + 2 ^ (v - topM c h).toNat

theorem setV_comm (val : Int → Bool) {v u : Int} (b : Bool) (h : u ≠ v) : setV val v b u = val u := by unfold setV; rw [if_neg h]

theorem setM_spec (V : Int) (hV : V ≤ 24) (v : Int) (is : Bool) : ∀ (f : Nat) (c : Cells) (d : Done) (h : Int), COk V c → DOk c d v is → hasM c h = true → (24 - topM c h).toNat < f → cnt c + 2 ^ (V - topM c h).toNat ≤ c.length + 1 → SetOk V c h v is (setM f c d h v is)
  | 0, _, _, _, _, _, _, hf, _ => absurd hf (Nat.not_lt_zero _)
  | f + 1, c, d, h, co, dk, hh, hf, hr => by
    have p1 := two_pow_pos (V - topM c h).toNat
    have p3 := two_pow_pos (v - topM c h).toNat
    cases g : getM c h with
    | none =>
      have e : setM (f + 1) c d h v is = (c, d, h, 0) := by rw [setM, g]
      rw [e]
      exact ⟨rfl, co, Ext.refl _, dk, hh, fun val => by dsimp only; rw [den_end g, den_end g], Int.le_refl _, by dsimp only; omega, fun _ => by dsimp only; omega⟩
    | some n =>
      obtain ⟨b1, b2, k1, k2, k3, k4⟩ := co.ok.kids g
      have ht := top_node g
      by_cases hv : v < n.1
      · have e : setM (f + 1) c d h v is = (c, d, h, 0) := by rw [setM, g]; simp only [if_pos hv]
        rw [e]
        exact ⟨rfl, co, Ext.refl _, dk, hh, fun val => (den_free co.ok _ val h (by rw [ht]; exact hv)).symm, Int.le_refl _, by dsimp only; omega, fun _ => by dsimp only; omega⟩
      · by_cases hq : n.1 = v
        · have e : setM (f + 1) c d h v is = (c, d, if is then n.2.2 else n.2.1, 0) := by rw [setM, g]; simp only [if_neg hv, if_pos hq]
          rw [e]
          subst hq
          cases is
          · exact ⟨rfl, co, Ext.refl _, dk, k1, fun val => (den_low co.ok g val).symm, by dsimp only; simp; omega, by dsimp only; omega, fun _ => by dsimp only; omega⟩
          · exact ⟨rfl, co, Ext.refl _, dk, k2, fun val => (den_high co.ok g val).symm, by dsimp only; simp; omega, by dsimp only; omega, fun _ => by dsimp only; omega⟩
        · cases hd : d h with
          | some x =>
            have e : setM (f + 1) c d h v is = (c, d, x, 0) := by rw [setM, g]; simp only [if_neg hv, if_neg hq, hd]
            rw [e]
            obtain ⟨_, d2, d3, d4⟩ := dk.at_ h x hd
            exact ⟨rfl, co, Ext.refl _, dk, d2, d3, d4, by dsimp only; omega, fun _ => by dsimp only; omega⟩
          | none =>
            have hnV : n.1 < V := by obtain ⟨k, rfl, h3, _⟩ := getM_some g; exact co.vlt k n h3
            rw [ht] at hr hf
            have sp := two_pow_split hnV
            have p2 := two_pow_pos (V - (n.1 + 1)).toNat
            have w1 := two_pow_le (show (V - topM c n.2.1).toNat ≤ (V - (n.1 + 1)).toNat by omega)
            have r1 := setM_spec V hV v is f c d n.2.1 co dk k1 (by omega) (by omega)
            have e : setM (f + 1) c d h v is = (let r1 := setM f c d n.2.1 v is
                if r1.2.2.2 ≠ 0 then (r1.1, r1.2.1, 0, r1.2.2.2) else
                let r2 := setM f r1.1 r1.2.1 n.2.2 v is
                if r2.2.2.2 ≠ 0 then (r2.1, r2.2.1, 0, r2.2.2.2) else
                let r3 := nodeM r2.1 n.1 r1.2.2.1 r2.2.2.1
                (r3.1, putD r2.2.1 h r3.2.1, r3.2.1, r3.2.2)) := by rw [setM, g]; simp only [if_neg hv, if_neg hq, hd]
            rw [e]
            generalize setM f c d n.2.1 v is = R1 at r1 ⊢
            have E1 := r1.ext
            have c1 := r1.cnt
            have L1 := E1.len
            have t2 : topM R1.1 n.2.2 = topM c n.2.2 := E1.top k2
            have w2 := two_pow_le (show (V - topM R1.1 n.2.2).toNat ≤ (V - (n.1 + 1)).toNat by omega)
            have r2 := setM_spec V hV v is f R1.1 R1.2.1 n.2.2 r1.cok r1.dok (E1.has k2) (by omega) (by omega)
            have er1 : ¬ (R1.2.2.2 ≠ 0) := by rw [r1.err]; simp
            simp only [if_neg er1]
            generalize setM f R1.1 R1.2.1 n.2.2 v is = R2 at r2 ⊢
            have E2 := r2.ext
            have c2 := r2.cnt
            have L2 := E2.len
            have er2 : ¬ (R2.2.2.2 ≠ 0) := by rw [r2.err]; simp
            simp only [if_neg er2]
            have u1 : n.1 < topM R2.1 R1.2.2.1 := by rw [E2.top r1.has]; have := r1.top; omega
            have u2 : n.1 < topM R2.1 R2.2.2.1 := by have := r2.top; omega
            have r3 := nodeM_spec r2.cok.ok r2.cok.red b1 b2 (E2.has r1.has) r2.has u1 u2 (by omega)
            generalize nodeM R2.1 n.1 R1.2.2.1 R2.2.2.1 = R3 at r3 ⊢
            have E3 := r3.ext
            have c3 := r3.cnt
            have E := (E1.trans E2).trans E3
            have hden : ∀ val, den R3.1 R3.2.1 val = den c h (setV val v is) := by
              intro val
              rw [r3.den, den_node co.ok g, setV_comm val is hq, den_ext r1.cok.ok r2.cok.ok E2 val _ r1.has, r1.den, r2.den, den_ext co.ok r1.cok.ok E1 _ _ k2]
            refine ⟨r3.err, ⟨r3.ok, r3.red, fun k m hk => ?_⟩, E, ⟨fun k x hk => ?_⟩, r3.has, hden, by rw [ht]; exact r3.top, by rw [ht]; dsimp only; omega, fun hvV => ?_⟩
            · rcases r3.old k m hk with h3 | rfl
              · exact r2.cok.vlt k m h3
              · exact hnV
            · dsimp only at hk
              unfold putD at hk
              split at hk
              · rename_i e4
                subst e4
                cases hk
                exact ⟨E.has hh, r3.has, fun val => by rw [den_ext co.ok r3.ok E _ _ hh]; exact hden val, by rw [E.top hh, ht]; exact r3.top⟩
              · exact (r2.dok.ext r2.cok.ok r3.ok E3).at_ k x hk
            · have q1 := r1.cnt2 hvV
              have q2 := r2.cnt2 hvV
              have sp2 := two_pow_split (show n.1 < v by omega)
              have x1 := two_pow_le (show (v - topM c n.2.1).toNat ≤ (v - (n.1 + 1)).toNat by omega)
              have x2 := two_pow_le (show (v - topM R1.1 n.2.2).toNat ≤ (v - (n.1 + 1)).toNat by omega)
              rw [ht]; dsimp only; omega
end Go.Proofs.YthmflcmbaldflaaGreatDoor
namespace Go.Proofs.YthmflcmbaldflaaGreatDoor
set_option linter.unusedVariables false

theorem SOk.hit {V : Int} {st : Sp} (so : SOk V st) (a b c : Int) : hitM st (a, b, c) = st.q (a, b, c) := by
  unfold hitM
  cases e : st.q (a, b, c) with
  | none => rfl
  | some h => simp only [(so.mem a b c h e).2.2.2.1, if_true]

/-- The ways of iteM, when there is room. -/
theorem iteM_go {V : Int} (hV : V ≤ 24) {f : Nat} {s : Sp} {a b c : Int} (so : SOk V s) (ha : hasM s.c a = true) (hb : hasM s.c b = true) (hc : hasM s.c c = true) (hf : (24 - min3 (topM s.c a) (topM s.c b) (topM s.c c)).toNat < f + 1)
    (hr : cnt s.c + 2 ^ (V - min3 (topM s.c a) (topM s.c b) (topM s.c c)).toNat ≤ s.c.length + 1) (h1 : ¬ (a = 1 ∨ b = c)) (h0 : ¬ a = 0) (hq : s.q (a, b, c) = none) {v : Int} (hv : v = min3 (topM s.c a) (topM s.c b) (topM s.c c)) :
    ∃ R1 R2 R3, R1 = iteM f s (atM s.c a v).1 (atM s.c b v).1 (atM s.c c v).1 ∧ R2 = iteM f R1.1 (atM s.c a v).2 (atM s.c b v).2 (atM s.c c v).2 ∧ R3 = nodeM R2.1.c v R1.2.1 R2.2.1 ∧
      iteM (f + 1) s a b c = (⟨R3.1, putQ R2.1.q (a, b, c) R3.2.1⟩, R3.2.1, 0) ∧ AtOk s.c a v (atM s.c a v) ∧ AtOk s.c b v (atM s.c b v) ∧ AtOk s.c c v (atM s.c c v) ∧ v < V ∧
      (24 - min3 (topM s.c (atM s.c a v).1) (topM s.c (atM s.c b v).1) (topM s.c (atM s.c c v).1)).toNat < f ∧ cnt s.c + 2 ^ (V - min3 (topM s.c (atM s.c a v).1) (topM s.c (atM s.c b v).1) (topM s.c (atM s.c c v).1)).toNat ≤ s.c.length + 1 ∧
      (24 - min3 (topM R1.1.c (atM s.c a v).2) (topM R1.1.c (atM s.c b v).2) (topM R1.1.c (atM s.c c v).2)).toNat < f ∧ cnt R1.1.c + 2 ^ (V - min3 (topM R1.1.c (atM s.c a v).2) (topM R1.1.c (atM s.c b v).2) (topM R1.1.c (atM s.c c v).2)).toNat ≤ R1.1.c.length + 1 ∧
      R1.2.2 = 0 ∧ R2.2.2 = 0 ∧ R3.2.2 = 0 ∧ SOk V R1.1 ∧ SOk V R2.1 ∧ Ext s.c R1.1.c ∧ Ext R1.1.c R2.1.c ∧ hasM R1.1.c R1.2.1 = true ∧ hasM R2.1.c R2.2.1 = true := by
  have ta := so.ok.top_pos a
  have tb := so.ok.top_pos b
  have tc := so.ok.top_pos c
  have hva : v ≤ topM s.c a := by rw [hv]; unfold min3; omega
  have hvb : v ≤ topM s.c b := by rw [hv]; unfold min3; omega
  have hvc : v ≤ topM s.c c := by rw [hv]; unfold min3; omega
  have hv0 : 0 ≤ v := by rw [hv]; unfold min3; omega
  obtain ⟨n, g⟩ : ∃ n, getM s.c a = some n := by
    cases g : getM s.c a with
    | some n => exact ⟨n, rfl⟩
    | none =>
      rcases getM_none_of_has ha g with e | e
      · exact absurd e h0
      · exact absurd (.inl e) h1
  have hvV : v < V := by
    have h2 := top_node g
    obtain ⟨k, rfl, h3, _⟩ := getM_some g
    have := so.vlt k n h3
    omega
  have A := atM_spec so.ok ha hva (by omega)
  have B := atM_spec so.ok hb hvb (by omega)
  have C := atM_spec so.ok hc hvc (by omega)
  have m1 : v + 1 ≤ min3 (topM s.c (atM s.c a v).1) (topM s.c (atM s.c b v).1) (topM s.c (atM s.c c v).1) := by have := A.top1; have := B.top1; have := C.top1; unfold min3; omega
  have w1 := two_pow_le (show (V - min3 (topM s.c (atM s.c a v).1) (topM s.c (atM s.c b v).1) (topM s.c (atM s.c c v).1)).toNat ≤ (V - (v + 1)).toNat by omega)
  have sp := two_pow_split hvV
  have p2 := two_pow_pos (V - (v + 1)).toNat
  rw [← hv] at hr hf
  have r1 := iteM_spec V hV f s (atM s.c a v).1 (atM s.c b v).1 (atM s.c c v).1 so A.has1 B.has1 C.has1 (by omega) (by omega)
  obtain ⟨R1, hR1⟩ : ∃ R, R = iteM f s (atM s.c a v).1 (atM s.c b v).1 (atM s.c c v).1 := ⟨_, rfl⟩
  rw [← hR1] at r1
  have E1 := r1.ext
  have c1 := r1.cnt
  have ht2 : ∀ {x : Int}, hasM s.c x = true → topM R1.1.c x = topM s.c x := fun hx => E1.top hx
  have m2 : v + 1 ≤ min3 (topM R1.1.c (atM s.c a v).2) (topM R1.1.c (atM s.c b v).2) (topM R1.1.c (atM s.c c v).2) := by
    rw [ht2 A.has2, ht2 B.has2, ht2 C.has2]; have := A.top2; have := B.top2; have := C.top2; unfold min3; omega
  have w2 := two_pow_le (show (V - min3 (topM R1.1.c (atM s.c a v).2) (topM R1.1.c (atM s.c b v).2) (topM R1.1.c (atM s.c c v).2)).toNat ≤ (V - (v + 1)).toNat by omega)
  have L1 := E1.len
  have r2 := iteM_spec V hV f R1.1 (atM s.c a v).2 (atM s.c b v).2 (atM s.c c v).2 r1.sok (E1.has A.has2) (E1.has B.has2) (E1.has C.has2) (by omega) (by omega)
  obtain ⟨R2, hR2⟩ : ∃ R, R = iteM f R1.1 (atM s.c a v).2 (atM s.c b v).2 (atM s.c c v).2 := ⟨_, rfl⟩
  rw [← hR2] at r2
  have E2 := r2.ext
  have c2 := r2.cnt
  have L2 := E2.len
  have t1 : v < topM R2.1.c R1.2.1 := by rw [E2.top r1.has]; have := r1.top; omega
  have t2 : v < topM R2.1.c R2.2.1 := by have := r2.top; omega
  have r3 := nodeM_spec r2.sok.ok r2.sok.red hv0 (by omega) (E2.has r1.has) r2.has t1 t2 (by omega)
  refine ⟨R1, R2, _, hR1, hR2, rfl, ?_, A, B, C, hvV, by omega, by omega, by omega, by omega, r1.err, r2.err, r3.err, r1.sok, r2.sok, E1, E2, r1.has, r2.has⟩
  have hh : hitM s (a, b, c) = none := by rw [so.hit]; exact hq
  rw [iteM, if_neg h1, if_neg h0, hh]
  simp only [← hv]
  rw [← hR1, if_neg (by rw [r1.err]; simp), ← hR2, if_neg (by rw [r2.err]; simp), r3.err]
  simp
end Go.Proofs.YthmflcmbaldflaaGreatDoor
