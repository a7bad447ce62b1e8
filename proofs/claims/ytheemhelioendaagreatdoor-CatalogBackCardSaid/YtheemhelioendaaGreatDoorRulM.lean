/- The rules of a catalog, plain; what keeps to a catalog. -/
import Derived.Test.YtheemhelioendaaGreatDoorCatM
import Derived.Test.YtheemhelioendaaGreatDoorSpec
namespace Go.Proofs.YtheemhelioendaaGreatDoor
open Go.RowKit
set_option linter.unusedVariables false

def itemAt (items : List ItemM) (i : Nat) : ItemM := items.getD i (ByteArray.empty, 0, 0, 0)
theorem itemAt_get {items : List ItemM} {i : Nat} (h : i < items.length) : itemAt items i = items[i] := by unfold itemAt; simp [h]
def fitI (nm : ByteArray) (r : List Spn) (x : ItemM) : Bool := decide (x.1 = nm) && hasV r x.2.1 x.2.2.1 x.2.2.2
/-- The numbers of a package's versions in a range. -/
def amongN (n : Nat) (items : List ItemM) (nm : ByteArray) (r : List Spn) : List Nat := (List.range n).filter fun i => fitI nm r (itemAt items i)
def amongM (items : List ItemM) (nm : ByteArray) (r : List Spn) : List Nat := amongN items.length items nm r
theorem amongN_succ (n : Nat) (items : List ItemM) (nm : ByteArray) (r : List Spn) : amongN (n + 1) items nm r = amongN n items nm r ++ if fitI nm r (itemAt items n) = true then [n] else [] := by
  unfold amongN
  rw [List.range_succ, List.filter_append]
  congr 1
  by_cases h : fitI nm r (itemAt items n) = true
  · rw [if_pos h]; exact List.filter_cons_of_pos h
  · rw [if_neg h]; exact List.filter_cons_of_neg h
theorem amongM_lt {items : List ItemM} {nm : ByteArray} {r : List Spn} {i : Nat} (h : i ∈ amongM items nm r) : i < items.length := List.mem_range.1 (List.mem_filter.1 h).1
theorem amongN_len (n : Nat) (items : List ItemM) (nm : ByteArray) (r : List Spn) : (amongN n items nm r).length ≤ n := by
  unfold amongN
  exact Nat.le_trans (List.length_filter_le _ _) (by simp)
/-- The number of an item (-1: there is none). -/
def numM (items : List ItemM) (it : ItemM) : Int := if items.any (fun x => decide (x = it)) = true then (items.findIdx (fun x => decide (x = it)) : Nat) else -1
theorem numM_hit {items : List ItemM} {it : ItemM} {k : Nat} (hk : k < items.length) (h : items[k] = it) (hlt : ∀ j, (hj : j < k) → items[j] ≠ it) : numM items it = k := by
  have ha : items.any (fun x => decide (x = it)) = true := List.any_eq_true.2 ⟨it, by rw [← h]; exact List.getElem_mem hk, by simp⟩
  unfold numM
  rw [if_pos ha]
  congr 1
  have h1 := List.findIdx_lt_length_of_exists (xs := items) (p := fun x => decide (x = it)) ⟨it, by rw [← h]; exact List.getElem_mem hk, by simp⟩
  have h2 := List.findIdx_getElem (w := h1)
  rcases Nat.lt_trichotomy (items.findIdx fun x => decide (x = it)) k with q | q | q
  · exact absurd (by simpa using h2) (hlt _ q)
  · exact q
  · have := List.not_of_lt_findIdx (p := fun x => decide (x = it)) (xs := items) q
    simp [h] at this
theorem numM_in {items : List ItemM} {it : ItemM} (h : it ∈ items) : ∃ k : Nat, ∃ hk : k < items.length, numM items it = k ∧ items[k] = it := by
  have ha : items.any (fun x => decide (x = it)) = true := List.any_eq_true.2 ⟨it, h, by simp⟩
  have h1 := List.findIdx_lt_length_of_exists (xs := items) (p := fun x => decide (x = it)) ⟨it, h, by simp⟩
  have h2 := List.findIdx_getElem (w := h1)
  exact ⟨_, h1, by unfold numM; rw [if_pos ha], by simpa using h2⟩
theorem numM_out {items : List ItemM} {it : ItemM} (h : it ∉ items) : numM items it = -1 := by
  unfold numM
  rw [if_neg]
  rw [List.any_eq_true]
  rintro ⟨x, hx, e⟩
  have : x = it := by simpa using e
  exact h (this ▸ hx)
theorem numM_cases (items : List ItemM) (it : ItemM) : (it ∈ items ∧ 0 ≤ numM items it ∧ numM items it < items.length) ∨ (it ∉ items ∧ numM items it = -1) := by
  by_cases h : it ∈ items
  · obtain ⟨k, hk, e, _⟩ := numM_in h
    exact .inl ⟨h, by omega, by omega⟩
  · exact .inr ⟨h, numM_out h⟩

/-- The clauses of item k against those ahead of it, with the line that each comes from. -/
def exclN (i : Nat) (items : List ItemM) (k : Nat) : List (Int × List Int) := ((List.range i).filter fun i => decide ((itemAt items i).1 = (itemAt items k).1)).map fun i : Nat => (-1, [-(i : Int) - 1, -(k : Int) - 1])
theorem exclN_succ (i : Nat) (items : List ItemM) (k : Nat) : exclN (i + 1) items k = exclN i items k ++ if (itemAt items i).1 = (itemAt items k).1 then [(-1, [-(i : Int) - 1, -(k : Int) - 1])] else [] := by
  unfold exclN
  rw [List.range_succ, List.filter_append, List.map_append]
  congr 1
  by_cases h : (itemAt items i).1 = (itemAt items k).1
  · simp [h]
  · simp [h]
def exclR (n : Nat) (items : List ItemM) : List (Int × List Int) := (List.range n).flatMap fun k => exclN k items k
theorem exclR_succ (n : Nat) (items : List ItemM) : exclR (n + 1) items = exclR n items ++ exclN n items n := by
  unfold exclR; rw [List.range_succ, List.flatMap_append]; simp
/-- The clauses of a line. -/
def lineC (items : List ItemM) (i : Nat) (x : LineM) : List (Int × List Int) :=
  if x.kind = 4 then [((i : Int), (amongM items x.name x.range).map fun k : Nat => (k : Int) + 1)]
  else if x.kind = 2 then [((i : Int), -(numM items x.item + 1) :: (amongM items x.other x.range).map fun k : Nat => (k : Int) + 1)]
  else if x.kind = 3 then (amongM items x.other x.range).map fun k : Nat => ((i : Int), [-(numM items x.item + 1), -(k : Int) - 1])
  else []
def linesC (items : List ItemM) : Nat → List LineM → List (Int × List Int)
  | _, [] => []
  | i, x :: l => lineC items i x ++ linesC items (i + 1) l
theorem linesC_snoc (items : List ItemM) : ∀ (i : Nat) (l : List LineM) (x : LineM), linesC items i (l ++ [x]) = linesC items i l ++ lineC items (i + l.length) x
  | i, [], x => by simp [linesC]
  | i, y :: l, x => by
    have := linesC_snoc items (i + 1) l x
    simp only [List.cons_append, linesC, List.length_cons]
    rw [this, List.append_assoc, show i + 1 + l.length = i + (l.length + 1) by omega]
theorem linesC_take (items : List ItemM) (ls : List LineM) (k : Nat) (h : k < ls.length) : linesC items 0 (ls.take (k + 1)) = linesC items 0 (ls.take k) ++ lineC items k ls[k] := by
  rw [List.take_succ_eq_append_getElem h, linesC_snoc, List.length_take, Nat.zero_add, Nat.min_eq_left (Nat.le_of_lt h)]
/-- All clauses, with their lines. -/
def rulesC (ls : List LineM) (items : List ItemM) : List (Int × List Int) := exclR items.length items ++ linesC items 0 ls
def clsOf (rc : List (Int × List Int)) : List (List Int) := rc.map (·.2)
def fromOf (rc : List (Int × List Int)) : List Int := rc.map (·.1)
theorem clsOf_app (a b : List (Int × List Int)) : clsOf (a ++ b) = clsOf a ++ clsOf b := List.map_append
theorem fromOf_app (a b : List (Int × List Int)) : fromOf (a ++ b) = fromOf a ++ fromOf b := List.map_append
/-- Is a clause one of some lines'? -/
def wantC (some : List Bool) (k : Int) : Bool := decide (k < 0) || (decide (k < some.length) && some.getD k.toNat false)
def onlyC (rc : List (Int × List Int)) (some : List Bool) : List (List Int) := (rc.filter fun p => wantC some p.1).map (·.2)
theorem mem_linesC {items : List ItemM} {p : Int × List Int} : ∀ {i : Nat} {l : List LineM}, p ∈ linesC items i l ↔ ∃ k, ∃ h : k < l.length, p ∈ lineC items (i + k) l[k]
  | i, [] => by simp [linesC]
  | i, x :: l => by
    simp only [linesC, List.mem_append]
    rw [mem_linesC (i := i + 1) (l := l)]
    constructor
    · rintro (h | ⟨k, h, h2⟩)
      · exact ⟨0, by simp, h⟩
      · exact ⟨k + 1, by simpa using h, by rw [show i + (k + 1) = i + 1 + k by omega]; simpa using h2⟩
    · rintro ⟨k, h, h2⟩
      cases k with
      | zero => exact .inl h2
      | succ k => exact .inr ⟨k, by simpa using h, by rw [show i + 1 + k = i + (k + 1) by omega]; simpa using h2⟩
theorem lineC_from {items : List ItemM} {i : Nat} {x : LineM} {p : Int × List Int} (h : p ∈ lineC items i x) : p.1 = i := by
  unfold lineC at h
  split at h
  · rw [List.mem_singleton.1 h]
  · split at h
    · rw [List.mem_singleton.1 h]
    · split at h
      · obtain ⟨k, _, rfl⟩ := List.mem_map.1 h; rfl
      · cases h
theorem exclR_from {n : Nat} {items : List ItemM} {p : Int × List Int} (h : p ∈ exclR n items) : p.1 = -1 := by
  unfold exclR at h
  obtain ⟨k, _, h⟩ := List.mem_flatMap.1 h
  unfold exclN at h
  obtain ⟨i, _, rfl⟩ := List.mem_map.1 h
  rfl
theorem rulesC_from {ls : List LineM} {items : List ItemM} {p : Int × List Int} (h : p ∈ rulesC ls items) : p.1 = -1 ∨ (0 ≤ p.1 ∧ p.1 < ls.length) := by
  rcases List.mem_append.1 h with h | h
  · exact .inl (exclR_from h)
  · obtain ⟨k, hk, h⟩ := mem_linesC.1 h
    have := lineC_from h
    right; omega
/-- All lines: all clauses. -/
theorem only_all {ls : List LineM} {items : List ItemM} {some : List Bool} (hl : some.length = ls.length) (h : ∀ b ∈ some, b = true) : onlyC (rulesC ls items) some = clsOf (rulesC ls items) := by
  unfold onlyC clsOf
  congr 1
  refine List.filter_eq_self.2 fun p hp => ?_
  unfold wantC
  rcases rulesC_from hp with e | ⟨e1, e2⟩
  · rw [e]; rfl
  · have hlt : p.1.toNat < some.length := by omega
    have : some.getD p.1.toNat false = true := by rw [List.getD_eq_getElem?_getD, List.getElem?_eq_getElem hlt]; exact h _ (List.getElem_mem hlt)
    rw [this]
    simp
    omega
theorem only_less {rc : List (Int × List Int)} {some : List Bool} {v : Nat} (h : allB v (clsOf rc) = true) : allB v (onlyC rc some) = true := by
  unfold allB clsOf onlyC at *
  rw [List.all_eq_true] at *
  intro c hc
  obtain ⟨p, hp, rfl⟩ := List.mem_map.1 hc
  exact h _ (List.mem_map.2 ⟨p, (List.mem_filter.1 hp).1, rfl⟩)
theorem only_len {rc : List (Int × List Int)} {some : List Bool} : (onlyC rc some).length ≤ (clsOf rc).length := by
  unfold onlyC clsOf
  rw [List.length_map, List.length_map]
  exact List.length_filter_le _ _
/-- How long, and what literals. -/
theorem rules_bound {ls : List LineM} {items : List ItemM} (ho : CatOk ls items) : ∀ p ∈ rulesC ls items, p.2.length ≤ 25 ∧ ∀ x ∈ p.2, x ≠ 0 ∧ -(items.length : Int) ≤ x ∧ x ≤ items.length := by
  have hn : items.length ≤ 24 := by rw [ho.perm.length_eq]; exact ho.most
  have ham : ∀ nm r, ((amongM items nm r).map fun k : Nat => (k : Int) + 1).length ≤ 24 ∧ ∀ x ∈ (amongM items nm r).map fun k : Nat => (k : Int) + 1, 0 < x ∧ x ≤ items.length := fun nm r => by
    refine ⟨by rw [List.length_map]; exact Nat.le_trans (amongN_len _ _ _ _) hn, fun x hx => ?_⟩
    obtain ⟨k, hk, rfl⟩ := List.mem_map.1 hx
    have := amongM_lt hk
    omega
  have hown : ∀ x ∈ ls, x.kind = 2 ∨ x.kind = 3 → 0 < numM items x.item + 1 ∧ numM items x.item + 1 ≤ items.length := fun x hx hk => by
    obtain ⟨k, hk, e, _⟩ := numM_in (ho.perm.mem_iff.2 (ho.there x hx hk))
    rw [e]; omega
  intro p hp
  rcases List.mem_append.1 hp with hp | hp
  · unfold exclR at hp
    obtain ⟨k, hk, hp⟩ := List.mem_flatMap.1 hp
    have hk := List.mem_range.1 hk
    unfold exclN at hp
    obtain ⟨i, hi, rfl⟩ := List.mem_map.1 hp
    have hi := List.mem_range.1 (List.mem_filter.1 hi).1
    refine ⟨by simp, fun x hx => ?_⟩
    simp only [List.mem_cons, List.not_mem_nil, or_false] at hx
    rcases hx with rfl | rfl <;> omega
  · obtain ⟨k, hk, hp⟩ := mem_linesC.1 hp
    have hx := List.getElem_mem hk
    generalize ls[k] = x at hp hx
    have ho2 := hown x hx
    unfold lineC at hp
    split at hp
    · rw [List.mem_singleton.1 hp]
      exact ⟨Nat.le_trans (ham _ _).1 (by omega), fun y hy => by have := (ham _ _).2 y hy; omega⟩
    · split at hp
      · rename_i h2
        rw [List.mem_singleton.1 hp]
        refine ⟨by simp only [List.length_cons]; have := (ham x.other x.range).1; omega, fun y hy => ?_⟩
        rcases List.mem_cons.1 hy with rfl | hy
        · have := ho2 (.inl h2); omega
        · have := (ham _ _).2 y hy; omega
      · split at hp
        · rename_i h3
          obtain ⟨j, hj, rfl⟩ := List.mem_map.1 hp
          have := amongM_lt hj
          have := ho2 (.inr h3)
          refine ⟨by simp, fun y hy => ?_⟩
          simp only [List.mem_cons, List.not_mem_nil, or_false] at hy
          rcases hy with rfl | rfl <;> omega
        · cases hp
end Go.Proofs.YtheemhelioendaaGreatDoor
