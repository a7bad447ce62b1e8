/- Plain model of an arena: what it holds, and what its methods make of it. No program in sight. -/
import Derived.Test.YtdeaficdfooegaaDoorReach
namespace Go.Proofs.YtdeaficdfooegaaDoor
set_option linter.unusedVariables false

/-- What lies under the handles k + 2. -/
abbrev Cells := List (Option Nd)

def Cells.at (c : Cells) (k : Nat) : Option Nd := c.getD k none
def getM (c : Cells) (h : Int) : Option Nd := if h < 2 then none else c.at (h - 2).toNat
def hasM (c : Cells) (h : Int) : Bool := h == 0 || h == 1 || (getM c h).isSome
def topM (c : Cells) (h : Int) : Int := match getM c h with | some n => n.1 | none => 24
def cnt (c : Cells) : Nat := c.countP (·.isSome)
/-- Where a node lies; where there is room. -/
def findM (c : Cells) (n : Nd) : Option Nat := c.findIdx? (· == some n)
def freeM (c : Cells) : Option Nat := c.findIdx? (· == none)
/-- What is wrong with a node (0: nothing). -/
def badM (c : Cells) (n : Nd) : Nat :=
  if n.1 < 0 ∨ 24 ≤ n.1 then 2 else if hasM c n.2.1 = false ∨ hasM c n.2.2 = false then 7 else if topM c n.2.1 ≤ n.1 ∨ topM c n.2.2 ≤ n.1 then 10 else 0
/-- Make: what is then there, the handle, the error. -/
def mkM (c : Cells) (n : Nd) : Cells × Int × Nat :=
  if badM c n ≠ 0 then (c, 0, badM c n) else
    match findM c n with
    | some k => (c, (k : Int) + 2, 0)
    | none => match freeM c with
      | some k => (c.set k (some n), (k : Int) + 2, 0)
      | none => (c, 0, 12)

theorem at_lt {c : Cells} {k : Nat} {n : Nd} (h : c.at k = some n) : k < c.length := by
  unfold Cells.at at h
  rcases Nat.lt_or_ge k c.length with h1 | h1
  · exact h1
  · rw [List.getD_eq_getElem?_getD, List.getElem?_eq_none h1] at h; cases h
theorem at_get {c : Cells} {k : Nat} (h : k < c.length) : c.at k = c[k] := by unfold Cells.at; simp [h]
theorem at_ge {c : Cells} {k : Nat} (h : c.length ≤ k) : c.at k = none := by
  unfold Cells.at; rw [List.getD_eq_getElem?_getD, List.getElem?_eq_none h]; rfl
theorem at_set {c : Cells} {k : Nat} (o : Option Nd) (h : k < c.length) (j : Nat) : Cells.at (c.set k o) j = if j = k then o else c.at j := by
  unfold Cells.at
  rw [List.getD_eq_getElem?_getD, List.getElem?_set, List.getD_eq_getElem?_getD]
  by_cases e : k = j
  · subst e; simp [h]
  · rw [if_neg e, if_neg (fun e2 => e e2.symm)]

theorem getM_node {c : Cells} (k : Nat) : getM c ((k : Int) + 2) = c.at k := by
  unfold getM
  rw [if_neg (by omega), show ((k : Int) + 2 - 2).toNat = k by omega]
theorem getM_some {c : Cells} {h : Int} {n : Nd} (e : getM c h = some n) : ∃ k : Nat, h = (k : Int) + 2 ∧ c.at k = some n ∧ k < c.length := by
  unfold getM at e
  split at e
  · cases e
  · exact ⟨(h - 2).toNat, by omega, e, at_lt e⟩
theorem hasM_cases {c : Cells} {h : Int} (e : hasM c h = true) : h = 0 ∨ h = 1 ∨ ∃ (k : Nat) (n : Nd), h = (k : Int) + 2 ∧ c.at k = some n ∧ k < c.length := by
  unfold hasM at e
  simp only [Bool.or_eq_true, beq_iff_eq, Option.isSome_iff_exists] at e
  rcases e with (h0 | h1) | ⟨n, h2⟩
  · exact .inl h0
  · exact .inr (.inl h1)
  · obtain ⟨k, h3, h4, h5⟩ := getM_some h2
    exact .inr (.inr ⟨k, n, h3, h4, h5⟩)
theorem hasM_node {c : Cells} {k : Nat} {n : Nd} (h : c.at k = some n) : hasM c ((k : Int) + 2) = true := by
  unfold hasM; rw [getM_node, h]; simp
theorem hasM_zero (c : Cells) : hasM c 0 = true := by simp [hasM]
theorem hasM_one (c : Cells) : hasM c 1 = true := by simp [hasM]
theorem hasM_nonneg {c : Cells} {h : Int} (e : hasM c h = true) : 0 ≤ h := by
  rcases hasM_cases e with h | h | ⟨k, _, h, _⟩ <;> omega
theorem hasM_le {c : Cells} {h : Int} (e : hasM c h = true) : h ≤ c.length + 1 := by
  rcases hasM_cases e with h | h | ⟨k, _, h, _, _⟩ <;> omega

theorem findM_some {c : Cells} {n : Nd} {k : Nat} (h : findM c n = some k) : c.at k = some n := by
  unfold findM at h
  rw [List.findIdx?_eq_some_iff_getElem] at h
  obtain ⟨h1, h2, _⟩ := h
  rw [at_get h1]; simpa using h2
theorem findM_none {c : Cells} {n : Nd} (h : findM c n = none) (k : Nat) : c.at k ≠ some n := by
  intro e
  have h1 := at_lt e
  unfold findM at h
  rw [List.findIdx?_eq_none_iff] at h
  have h2 := h _ (List.getElem_mem h1)
  rw [at_get h1] at e
  rw [e] at h2
  simp at h2
theorem findM_at {c : Cells} {n : Nd} {k : Nat} (hu : ∀ j, c.at j = some n → j = k) (h : c.at k = some n) : findM c n = some k := by
  cases e : findM c n with
  | none => exact absurd h (findM_none e k)
  | some j => rw [hu j (findM_some e)]
theorem freeM_some {c : Cells} {k : Nat} (h : freeM c = some k) : k < c.length ∧ c.at k = none ∧ ∀ j, j < k → (c.at j).isSome = true := by
  unfold freeM at h
  rw [List.findIdx?_eq_some_iff_getElem] at h
  obtain ⟨h1, h2, h3⟩ := h
  refine ⟨h1, by rw [at_get h1]; simpa using h2, fun j hj => ?_⟩
  have h4 := h3 j hj
  rw [at_get (by omega)]
  simpa [Option.isSome_iff_ne_none] using h4
theorem freeM_none {c : Cells} (h : freeM c = none) (k : Nat) (hk : k < c.length) : (c.at k).isSome = true := by
  unfold freeM at h
  rw [List.findIdx?_eq_none_iff] at h
  have h2 := h _ (List.getElem_mem hk)
  rw [at_get hk]
  simpa [Option.isSome_iff_ne_none] using h2
theorem freeM_at {c : Cells} {k : Nat} (h : k < c.length) (h0 : c.at k = none) (hl : ∀ j, j < k → (c.at j).isSome = true) : freeM c = some k := by
  unfold freeM
  rw [List.findIdx?_eq_some_iff_getElem]
  refine ⟨h, by rw [at_get h] at h0; simp [h0], fun j hj => ?_⟩
  have h1 := hl j hj
  rw [at_get (by omega)] at h1
  simpa [Option.isSome_iff_ne_none] using h1
theorem freeM_full {c : Cells} (h : ∀ k, k < c.length → (c.at k).isSome = true) : freeM c = none := by
  cases e : freeM c with
  | none => rfl
  | some k => obtain ⟨h1, h2, _⟩ := freeM_some e; have := h k h1; rw [h2] at this; cases this

theorem cnt_set {c : Cells} {k : Nat} {n : Nd} (h : k < c.length) (h0 : c.at k = none) : cnt (c.set k (some n)) = cnt c + 1 := by
  unfold cnt
  rw [at_get h] at h0
  rw [List.countP_set h, h0]
  simp
theorem cnt_le (c : Cells) : cnt c ≤ c.length := List.countP_le_length
theorem cnt_full {c : Cells} (h : freeM c = none) : cnt c = c.length := by
  unfold cnt
  rw [List.countP_eq_length]
  intro o ho
  obtain ⟨k, hk, rfl⟩ := List.getElem_of_mem ho
  have := freeM_none h k hk
  rwa [at_get hk] at this

/-- An arena in order. -/
structure Ok (c : Cells) : Prop where
  var : ∀ k n, c.at k = some n → 0 ≤ n.1 ∧ n.1 < 24
  low : ∀ k n, c.at k = some n → hasM c n.2.1 = true ∧ n.1 < topM c n.2.1
  high : ∀ k n, c.at k = some n → hasM c n.2.2 = true ∧ n.1 < topM c n.2.2
  uniq : ∀ j k n, c.at j = some n → c.at k = some n → j = k

/-- What was there is there still. -/
structure Ext (c c' : Cells) : Prop where
  len : c'.length = c.length
  old : ∀ k n, c.at k = some n → c'.at k = some n

theorem Ext.refl (c : Cells) : Ext c c := ⟨rfl, fun _ _ h => h⟩
theorem Ext.trans {a b c : Cells} (h : Ext a b) (g : Ext b c) : Ext a c := ⟨g.len.trans h.len, fun k n e => g.old k n (h.old k n e)⟩
theorem Ext.get {c c' : Cells} (e : Ext c c') {h : Int} {n : Nd} (g : getM c h = some n) : getM c' h = some n := by
  obtain ⟨k, rfl, h1, _⟩ := getM_some g
  rw [getM_node]; exact e.old k n h1
theorem Ext.has {c c' : Cells} (e : Ext c c') {h : Int} (g : hasM c h = true) : hasM c' h = true := by
  rcases hasM_cases g with rfl | rfl | ⟨k, n, rfl, h1, _⟩
  · exact hasM_zero _
  · exact hasM_one _
  · exact hasM_node (e.old k n h1)
theorem getM_none_of_has {c : Cells} {h : Int} (g : hasM c h = true) (e : getM c h = none) : h = 0 ∨ h = 1 := by
  rcases hasM_cases g with h | h | ⟨k, n, rfl, h1, _⟩
  · exact .inl h
  · exact .inr h
  · rw [getM_node, h1] at e; cases e
theorem getM_end (c : Cells) {h : Int} (e : h = 0 ∨ h = 1) : getM c h = none := by
  unfold getM; rw [if_pos (by omega)]
theorem Ext.get_eq {c c' : Cells} (e : Ext c c') {h : Int} (g : hasM c h = true) : getM c' h = getM c h := by
  cases h1 : getM c h with
  | none => exact getM_end c' (getM_none_of_has g h1)
  | some n => exact e.get h1
theorem Ext.top {c c' : Cells} (e : Ext c c') {h : Int} (g : hasM c h = true) : topM c' h = topM c h := by
  unfold topM; rw [e.get_eq g]
theorem topM_le {c : Cells} (o : Ok c) (h : Int) : 0 ≤ topM c h ∧ topM c h ≤ 24 := by
  unfold topM
  cases e : getM c h with
  | none => simp
  | some n => obtain ⟨k, _, h1, _⟩ := getM_some e; have := o.var k n h1; simp; omega

theorem badM_ok {c : Cells} {n : Nd} (h : badM c n = 0) : 0 ≤ n.1 ∧ n.1 < 24 ∧ hasM c n.2.1 = true ∧ hasM c n.2.2 = true ∧ n.1 < topM c n.2.1 ∧ n.1 < topM c n.2.2 := by
  unfold badM at h
  split at h
  · cases h
  · split at h
    · cases h
    · split at h
      · cases h
      · rename_i h1 h2 h3
        simp only [not_or, Bool.not_eq_false, Int.not_le, Int.not_lt] at h1 h2 h3
        exact ⟨h1.1, h1.2, h2.1, h2.2, h3.1, h3.2⟩
theorem badM_zero {c : Cells} {n : Nd} (h1 : 0 ≤ n.1) (h2 : n.1 < 24) (h3 : hasM c n.2.1 = true) (h4 : hasM c n.2.2 = true) (h5 : n.1 < topM c n.2.1) (h6 : n.1 < topM c n.2.2) : badM c n = 0 := by
  unfold badM
  rw [if_neg (by omega), if_neg (by simp [h3, h4]), if_neg (by omega)]

theorem ext_set {c : Cells} {k : Nat} {n : Nd} (h : k < c.length) (h0 : c.at k = none) : Ext c (c.set k (some n)) :=
  ⟨by simp, fun j m e => by
    rw [at_set _ h]
    split
    · rename_i e2; subst e2; rw [h0] at e; cases e
    · exact e⟩
/-- What Make leaves. -/
theorem mkM_ext (c : Cells) (n : Nd) : Ext c (mkM c n).1 := by
  unfold mkM
  split
  · exact Ext.refl c
  · split
    · exact Ext.refl c
    · split
      · rename_i k h; exact ext_set (freeM_some h).1 (freeM_some h).2.1
      · exact Ext.refl c
theorem ok_set {c : Cells} {k : Nat} {n : Nd} (o : Ok c) (hb : badM c n = 0) (hf : findM c n = none) (h : k < c.length) (h0 : c.at k = none) : Ok (c.set k (some n)) := by
  have e := ext_set (n := n) h h0
  obtain ⟨b1, b2, b3, b4, b5, b6⟩ := badM_ok hb
  have key : ∀ j m, Cells.at (c.set k (some n)) j = some m → (j = k ∧ m = n) ∨ c.at j = some m := by
    intro j m hj
    rw [at_set _ h] at hj
    split at hj
    · rename_i e1; exact .inl ⟨e1, by cases hj; rfl⟩
    · exact .inr hj
  refine ⟨fun j m hj => ?_, fun j m hj => ?_, fun j m hj => ?_, fun i j m hi hj => ?_⟩
  · rcases key j m hj with ⟨_, rfl⟩ | h1
    · exact ⟨b1, b2⟩
    · exact o.var j m h1
  · rcases key j m hj with ⟨_, rfl⟩ | h1
    · exact ⟨e.has b3, by rw [e.top b3]; exact b5⟩
    · have := o.low j m h1; exact ⟨e.has this.1, by rw [e.top this.1]; exact this.2⟩
  · rcases key j m hj with ⟨_, rfl⟩ | h1
    · exact ⟨e.has b4, by rw [e.top b4]; exact b6⟩
    · have := o.high j m h1; exact ⟨e.has this.1, by rw [e.top this.1]; exact this.2⟩
  · rcases key i m hi with ⟨h1, h2⟩ | h1 <;> rcases key j m hj with ⟨h3, h4⟩ | h3
    · rw [h1, h3]
    · subst h2; exact absurd h3 (findM_none hf j)
    · subst h4; exact absurd h1 (findM_none hf i)
    · exact o.uniq i j m h1 h3
theorem mkM_ok {c : Cells} (o : Ok c) (n : Nd) : Ok (mkM c n).1 := by
  unfold mkM
  split
  · exact o
  · rename_i hb
    split
    · exact o
    · rename_i hf
      split
      · rename_i k h; exact ok_set o (by simpa using hb) hf (freeM_some h).1 (freeM_some h).2.1
      · exact o
theorem mkM_cnt (c : Cells) (n : Nd) : cnt (mkM c n).1 ≤ cnt c + 1 := by
  unfold mkM
  split
  · simp
  · split
    · simp
    · split
      · rename_i k h; rw [cnt_set (freeM_some h).1 (freeM_some h).2.1]; exact Nat.le_refl _
      · simp
/-- No error: the node lies under the handle. -/
theorem mkM_get {c : Cells} {n : Nd} (h : (mkM c n).2.2 = 0) : getM (mkM c n).1 (mkM c n).2.1 = some n := by
  unfold mkM at h ⊢
  split
  · rename_i hb; rw [if_pos hb] at h; exact absurd h hb
  · split
    · rename_i k hk; rw [getM_node]; exact findM_some hk
    · rename_i hb _ hf
      split
      · rename_i k hk; rw [getM_node, at_set _ (freeM_some hk).1]; simp
      · rename_i hk; rw [if_neg hb, hf] at h; simp [hk] at h
/-- There is room: no error, where the node is not bad. -/
theorem mkM_room {c : Cells} {n : Nd} (hb : badM c n = 0) (hr : cnt c < c.length) : (mkM c n).2.2 = 0 := by
  unfold mkM
  rw [if_neg (by simp [hb])]
  split
  · rfl
  · split
    · rfl
    · rename_i h; have := cnt_full h; omega
/-- A node that is there is not made again. -/
theorem mkM_there {c : Cells} (o : Ok c) {k : Nat} {n : Nd} (h : c.at k = some n) : mkM c n = (c, (k : Int) + 2, 0) := by
  unfold mkM
  have h1 := o.var k n h
  have h2 := o.low k n h
  have h3 := o.high k n h
  rw [if_neg (by simp [badM_zero h1.1 h1.2 h2.1 h3.1 h2.2 h3.2]), findM_at (fun j hj => o.uniq j k n hj h) h]

/-- What handles lead to. -/
def RchC (c : Cells) (start : List Int) (k : Nat) : Prop := Rch (fun k => (c.at k).getD (0, 0, 0)) (fun k => (c.at k).isSome = true) start k
open Classical in
noncomputable def reachM (c : Cells) (start : List Int) : List Int := ((List.range c.length).filter fun k => decide (RchC c start k)).map fun k : Nat => (k : Int) + 2
open Classical in
noncomputable def sweepM (c : Cells) (start : List Int) : Cells := (List.range c.length).map fun k => if RchC c start k then c.at k else none

theorem sweepM_len (c : Cells) (s : List Int) : (sweepM c s).length = c.length := by simp [sweepM]
open Classical in
theorem sweepM_at (c : Cells) (s : List Int) (k : Nat) : (sweepM c s).at k = if RchC c s k then c.at k else none := by
  rcases Nat.lt_or_ge k c.length with h | h
  · rw [at_get (by rw [sweepM_len]; exact h)]; simp [sweepM]
  · rw [at_ge (by rw [sweepM_len]; exact h), at_ge h]; simp
theorem sweepM_some {c : Cells} {s : List Int} {k : Nat} {n : Nd} : (sweepM c s).at k = some n ↔ RchC c s k ∧ c.at k = some n := by
  rw [sweepM_at]; split <;> simp [*]
theorem RchC.used {c : Cells} {s : List Int} {k : Nat} (h : RchC c s k) : ∃ n, c.at k = some n := by
  have := Rch.used h
  exact Option.isSome_iff_exists.1 this
theorem RchC.start {c : Cells} {s : List Int} {k : Nat} {n : Nd} (h : c.at k = some n) (hm : ((k : Int) + 2) ∈ s) : RchC c s k := Rch.start k (by simp [h]) hm
theorem RchC.low {c : Cells} {s : List Int} {k k' : Nat} {n n' : Nd} (h : RchC c s k) (hn : c.at k = some n) (hn' : c.at k' = some n') (e : n.2.1 = (k' : Int) + 2) : RchC c s k' :=
  Rch.low k k' h (by simp [hn']) (by simp [hn, e])
theorem RchC.high {c : Cells} {s : List Int} {k k' : Nat} {n n' : Nd} (h : RchC c s k) (hn : c.at k = some n) (hn' : c.at k' = some n') (e : n.2.2 = (k' : Int) + 2) : RchC c s k' :=
  Rch.high k k' h (by simp [hn']) (by simp [hn, e])
/-- What a kept handle's node leads to is kept. -/
theorem sweepM_has {c : Cells} {s : List Int} {h : Int} (g : hasM c h = true) (hk : ∀ k : Nat, h = (k : Int) + 2 → RchC c s k) : hasM (sweepM c s) h = true := by
  rcases hasM_cases g with rfl | rfl | ⟨k, n, rfl, h1, _⟩
  · exact hasM_zero _
  · exact hasM_one _
  · exact hasM_node (sweepM_some.2 ⟨hk k rfl, h1⟩)
theorem sweepM_top {c : Cells} {s : List Int} {h : Int} (hk : ∀ k : Nat, h = (k : Int) + 2 → RchC c s k) : topM (sweepM c s) h = topM c h := by
  unfold topM
  rcases Int.lt_or_le h 2 with h1 | h1
  · unfold getM; rw [if_pos h1, if_pos h1]
  · obtain ⟨k, rfl⟩ : ∃ k : Nat, h = (k : Int) + 2 := ⟨(h - 2).toNat, by omega⟩
    rw [getM_node, getM_node, sweepM_at, if_pos (hk k rfl)]
theorem sweepM_ok {c : Cells} (o : Ok c) (s : List Int) : Ok (sweepM c s) := by
  refine ⟨fun k n h => o.var k n (sweepM_some.1 h).2, fun k n h => ?_, fun k n h => ?_, fun j k n h h' => o.uniq j k n (sweepM_some.1 h).2 (sweepM_some.1 h').2⟩
  · obtain ⟨h1, h2⟩ := sweepM_some.1 h
    have h3 := o.low k n h2
    have h4 : ∀ k' : Nat, n.2.1 = (k' : Int) + 2 → RchC c s k' := fun k' e => by
      rcases hasM_cases h3.1 with e2 | e2 | ⟨k2, n2, e2, h5, _⟩
      · omega
      · omega
      · obtain rfl : k2 = k' := by omega
        exact h1.low h2 h5 e
    exact ⟨sweepM_has h3.1 h4, by rw [sweepM_top h4]; exact h3.2⟩
  · obtain ⟨h1, h2⟩ := sweepM_some.1 h
    have h3 := o.high k n h2
    have h4 : ∀ k' : Nat, n.2.2 = (k' : Int) + 2 → RchC c s k' := fun k' e => by
      rcases hasM_cases h3.1 with e2 | e2 | ⟨k2, n2, e2, h5, _⟩
      · omega
      · omega
      · obtain rfl : k2 = k' := by omega
        exact h1.high h2 h5 e
    exact ⟨sweepM_has h3.1 h4, by rw [sweepM_top h4]; exact h3.2⟩
theorem mem_reachM {c : Cells} {s : List Int} {h : Int} : h ∈ reachM c s ↔ ∃ k : Nat, h = (k : Int) + 2 ∧ RchC c s k := by
  classical
  unfold reachM
  simp only [List.mem_map, List.mem_filter, List.mem_range, decide_eq_true_eq]
  constructor
  · rintro ⟨k, ⟨_, h2⟩, rfl⟩; exact ⟨k, rfl, h2⟩
  · rintro ⟨k, rfl, h2⟩
    obtain ⟨n, hn⟩ := h2.used
    exact ⟨k, ⟨at_lt hn, h2⟩, rfl⟩
theorem reachM_len_le (c : Cells) (s : List Int) : (reachM c s).length ≤ c.length := by
  classical
  unfold reachM
  rw [List.length_map]
  exact Nat.le_trans (List.length_filter_le _ _) (by simp)
theorem cnt_range (c : Cells) : cnt c = ((List.range c.length).filter fun k => (c.at k).isSome).length := by
  unfold cnt
  rw [List.countP_eq_length_filter]
  have : c = (List.range c.length).map fun k => c.at k := by
    apply List.ext_getElem
    · simp
    · intro i h1 h2; simp [at_get h1]
  conv => lhs; rw [this]
  rw [List.filter_map, List.length_map]
  rfl
theorem cnt_sweepM (c : Cells) (s : List Int) : cnt (sweepM c s) = (reachM c s).length := by
  classical
  rw [cnt_range, sweepM_len]
  unfold reachM
  rw [List.length_map]
  congr 1
  apply List.filter_congr
  intro k _
  rw [sweepM_at]
  split
  · rename_i h; obtain ⟨n, hn⟩ := h.used; simp [hn, h]
  · rename_i h; simp [h]
theorem rchC_again {c : Cells} {s : List Int} (k : Nat) : RchC (sweepM c s) s k ↔ RchC c s k := by
  refine ⟨fun h => ?_, fun h => ?_⟩
  · obtain ⟨n, hn⟩ := h.used
    exact (sweepM_some.1 hn).1
  · have key : ∀ j, RchC c s j → ∃ n, c.at j = some n ∧ (sweepM c s).at j = some n := fun j hj => by
      obtain ⟨n, hn⟩ := hj.used; exact ⟨n, hn, sweepM_some.2 ⟨hj, hn⟩⟩
    refine Rch.ind (Q := fun k => RchC (sweepM c s) s k) (fun k hu hm => ?_) (fun k k' h1 ih hu e => ?_) (fun k k' h1 ih hu e => ?_) h
    · obtain ⟨n, hn⟩ := Option.isSome_iff_exists.1 hu
      exact RchC.start (sweepM_some.2 ⟨.start hn hm, hn⟩) hm
    · obtain ⟨n, hn, hs⟩ := key k h1
      obtain ⟨n', hn'⟩ := Option.isSome_iff_exists.1 hu
      simp only [hn, Option.getD_some] at e
      exact RchC.low ih hs (sweepM_some.2 ⟨RchC.low h1 hn hn' e, hn'⟩) e
    · obtain ⟨n, hn, hs⟩ := key k h1
      obtain ⟨n', hn'⟩ := Option.isSome_iff_exists.1 hu
      simp only [hn, Option.getD_some] at e
      exact RchC.high ih hs (sweepM_some.2 ⟨RchC.high h1 hn hn' e, hn'⟩) e
theorem reachM_again (c : Cells) (s : List Int) : reachM (sweepM c s) s = reachM c s := by
  classical
  unfold reachM
  rw [sweepM_len]
  congr 1
  apply List.filter_congr
  intro k _
  simp only [rchC_again]
end Go.Proofs.YtdeaficdfooegaaDoor
