/- How lists lie in memory, and what keeps them there. -/
import Derived.Test.YtpnchjbdjcihfaaGreatDoorBase
import Derived.WalkKit
import Derived.WalkSpells
import Derived.WalkLawsBesides
import Derived.Deep.LoopGhost
import Derived.Lib.Hide
namespace Go.Proofs.YtpnchjbdjcihfaaGreatDoor
open Go.RowKit

/-- The cells from b, o on hold the integers xs. -/
def IntsAt (w : World) (b o : Nat) (xs : List Int) : Prop := ∀ i, i < xs.length → w.cell? ⟨b, o + i, none⟩ = some (.int .i64 (xs.getD i 0))

/-- A value is a slice of the integers xs. -/
def IsInts (w : World) (v : Value) (xs : List Int) : Prop :=
  ∃ a b o c, v = .slice a xs.length c ∧ (xs ≠ [] → a = some ⟨b, o, none⟩) ∧ xs.length ≤ c ∧ c ≤ maxLen ∧ IntsAt w b o xs ∧ (xs ≠ [] → b < w.heap.size) ∧ xs.length ≤ 17592186044416

theorem IntsAt.below {w w' : World} {b o : Nat} {xs : List Int} (h : IntsAt w b o xs) (hb : Below (b + 1) w w') : IntsAt w' b o xs :=
  fun i hi => by rw [hb.cell (by show b < b + 1; omega)]; exact h i hi

theorem IsInts.below {w w' : World} {v : Value} {xs : List Int} (h : IsInts w v xs) (hb : Below w.heap.size w w') : IsInts w' v xs := by
  obtain ⟨a, b, o, c, h1, h2, h3, h4, h5, h6, h7⟩ := h
  exact ⟨a, b, o, c, h1, h2, h3, h4, fun i hi => by rw [hb.cell (h6 (by intro e; subst e; simp at hi))]; exact h5 i hi, fun e => Nat.lt_of_lt_of_le (h6 e) hb.size, h7⟩

/-- A value is a slice of slices of integers. -/
def IsRows (w : World) (v : Value) (ls : List (List Int)) : Prop :=
  ∃ a b o c, v = .slice a ls.length c ∧ (ls ≠ [] → a = some ⟨b, o, none⟩) ∧ ls.length ≤ c ∧ c ≤ maxLen ∧ (ls ≠ [] → b < w.heap.size) ∧ ls.length ≤ 17592186044416 ∧
    ∀ i, i < ls.length → ∃ r, w.cell? ⟨b, o + i, none⟩ = some r ∧ IsInts w r (ls.getD i [])

theorem IsRows.below {w w' : World} {v : Value} {ls : List (List Int)} (h : IsRows w v ls) (hb : Below w.heap.size w w') : IsRows w' v ls := by
  obtain ⟨a, b, o, c, h1, h2, h3, h4, h5, h7, h6⟩ := h
  refine ⟨a, b, o, c, h1, h2, h3, h4, fun e => Nat.lt_of_lt_of_le (h5 e) hb.size, h7, fun i hi => ?_⟩
  obtain ⟨r, hr, hi2⟩ := h6 i hi
  exact ⟨r, by rw [hb.cell (h5 (by intro e; subst e; simp at hi))]; exact hr, hi2.below hb⟩

theorem IsInts.shape {w : World} {v : Value} {xs : List Int} (h : IsInts w v xs) : ∃ a c, v = .slice a xs.length c ∧ xs.length ≤ c ∧ c ≤ 9223372036854775807 ∧ xs.length ≤ 17592186044416 := by
  obtain ⟨a, b, o, c, rfl, _, h3, h4, _, _, h7⟩ := h
  exact ⟨a, c, rfl, h3, by unfold maxLen at h4; omega, h7⟩
theorem IsInts.len {w : World} {a : Option Addr} {n c : Nat} {xs : List Int} (h : IsInts w (.slice a n c) xs) : n = xs.length := by
  obtain ⟨_, _, _, _, hh, _⟩ := h
  cases hh; rfl
theorem IsInts.addr {w : World} {a : Option Addr} {n c : Nat} {xs : List Int} (h : IsInts w (.slice a n c) xs) {k : Nat} (hk : k < xs.length) : ∃ b o, a = some ⟨b, o, none⟩ ∧ b < w.heap.size := by
  obtain ⟨_, b, o, _, hh, h2, _, _, _, h6⟩ := h
  cases hh
  exact ⟨b, o, h2 (by intro e; subst e; simp at hk), h6.1 (by intro e; subst e; simp at hk)⟩
theorem IsInts.get {w : World} {b o n c : Nat} {xs : List Int} (h : IsInts w (.slice (some ⟨b, o, none⟩) n c) xs) {k : Nat} (hk : k < xs.length) : w.cell? ⟨b, o + k, none⟩ = some (.int .i64 xs[k]) := by
  obtain ⟨_, b', o', _, hh, h2, _, _, h5, _⟩ := h
  cases hh
  cases h2 (by intro e; subst e; simp at hk)
  rw [h5 k hk]; simp [hk]

theorem IsRows.shape {w : World} {v : Value} {xs : List (List Int)} (h : IsRows w v xs) : ∃ a c, v = .slice a xs.length c ∧ xs.length ≤ c ∧ c ≤ 9223372036854775807 ∧ xs.length ≤ 17592186044416 := by
  obtain ⟨a, b, o, c, rfl, _, h3, h4, _, h7, _⟩ := h
  exact ⟨a, c, rfl, h3, by unfold maxLen at h4; omega, h7⟩
theorem IsRows.len {w : World} {a : Option Addr} {n c : Nat} {xs : List (List Int)} (h : IsRows w (.slice a n c) xs) : n = xs.length := by
  obtain ⟨_, _, _, _, hh, _⟩ := h
  cases hh; rfl
theorem IsRows.addr {w : World} {a : Option Addr} {n c : Nat} {xs : List (List Int)} (h : IsRows w (.slice a n c) xs) {k : Nat} (hk : k < xs.length) : ∃ b o, a = some ⟨b, o, none⟩ ∧ b < w.heap.size := by
  obtain ⟨_, b, o, _, hh, h2, _, _, h5, _⟩ := h
  cases hh
  exact ⟨b, o, h2 (by intro e; subst e; simp at hk), h5 (by intro e; subst e; simp at hk)⟩
theorem IsRows.get {w : World} {b o n c : Nat} {xs : List (List Int)} (h : IsRows w (.slice (some ⟨b, o, none⟩) n c) xs) {k : Nat} (hk : k < xs.length) :
    ∃ a2 n2 c2, w.cell? ⟨b, o + k, none⟩ = some (.slice a2 n2 c2) ∧ IsInts w (.slice a2 n2 c2) xs[k] := by
  obtain ⟨_, b', o', _, hh, h2, _, _, _, _, h6⟩ := h
  cases hh
  cases h2 (by intro e; subst e; simp at hk)
  obtain ⟨r, hr, hi⟩ := h6 k hk
  have e : xs.getD k [] = xs[k] := by simp [hk]
  rw [e] at hi
  obtain ⟨a2, c2, rfl, _⟩ := hi.shape
  exact ⟨a2, _, c2, hr, hi⟩

theorem choose_lt' {α : Type} [Inhabited α] {n : Nat} {p : Nat → α → Prop} (h : ∀ i, i < n → ∃ x, p i x) : ∃ l : List α, l.length = n ∧ ∀ i (hi : i < l.length), p i l[i] := by
  induction n with
  | zero => exact ⟨[], rfl, fun i hi => absurd hi (by simp)⟩
  | succ n ih =>
    obtain ⟨l, hl, hp⟩ := ih (fun i hi => h i (by omega))
    obtain ⟨x, hx⟩ := h n (by omega)
    refine ⟨l ++ [x], by simp [hl], fun i hi => ?_⟩
    by_cases e : i < l.length
    · rw [List.getElem_append_left e]; exact hp i e
    · have e2 : i = n := by simp at hi; omega
      subst e2
      rw [List.getElem_append_right (by omega)]
      simpa [hl] using hx

/-- The values rs are slices of the integers ls. -/
def RowVals (w : World) (rs : List Value) (ls : List (List Int)) : Prop := rs.length = ls.length ∧ ∀ i (h1 : i < rs.length) (h2 : i < ls.length), IsInts w rs[i] ls[i]

theorem RowVals.below {w w' : World} {rs : List Value} {ls : List (List Int)} (h : RowVals w rs ls) (hb : Below w.heap.size w w') : RowVals w' rs ls :=
  ⟨h.1, fun i h1 h2 => (h.2 i h1 h2).below hb⟩
theorem RowVals.snoc {w : World} {rs : List Value} {ls : List (List Int)} {r : Value} {xs : List Int} (h : RowVals w rs ls) (hr : IsInts w r xs) : RowVals w (rs ++ [r]) (ls ++ [xs]) := by
  refine ⟨by simp [h.1], fun i h1 h2 => ?_⟩
  by_cases e : i < rs.length
  · rw [List.getElem_append_left e, List.getElem_append_left (by rw [← h.1]; exact e)]; exact h.2 i e _
  · have e1 : i = rs.length := by simp at h1; omega
    subst e1
    rw [List.getElem_append_right (Nat.le_refl _), List.getElem_append_right (by rw [h.1]; exact Nat.le_refl _)]
    simpa [h.1] using hr
theorem RowVals.oneCell {w : World} {rs : List Value} {ls : List (List Int)} (h : RowVals w rs ls) : ∀ u ∈ rs, u.oneCell' = true := by
  intro u hu
  obtain ⟨i, hi, rfl⟩ := List.getElem_of_mem hu
  obtain ⟨a, c, e, _⟩ := (h.2 i hi (by rw [← h.1]; exact hi)).shape
  rw [e]; rfl
/-- The cells of a slice of slices. -/
theorem IsRows.vals {w : World} {a : Option Addr} {n c : Nat} {ls : List (List Int)} (h : IsRows w (.slice a n c) ls) :
    ∃ rs, RowVals w rs ls ∧ ∀ ad, a = some ad → ∀ j u, rs[j]? = some u → w.cell? (ad.add j) = some u := by
  obtain ⟨a', b, o, c', hh, h2, _, _, h5, h7, h6⟩ := h
  cases hh
  obtain ⟨rs, h8, h9⟩ := choose_lt' h6
  refine ⟨rs, ⟨h8, fun i h1 h2 => by have := (h9 i h1).2; simpa [h2] using this⟩, fun ad had j u hu => ?_⟩
  obtain ⟨hj, rfl⟩ := List.getElem?_eq_some_iff.1 hu
  rw [h2 (by intro e; subst e; simp at h8; subst h8; simp at hj)] at had
  cases had
  have := (h9 j hj).1
  unfold Addr.add
  split
  · subst j; simpa using this
  · exact this
/-- What the call owns is a slice of slices. -/
theorem isRows_of_owns {w : World} {base e : Nat} {v : Value} {n : Nat} {rs : List Value} {ls : List (List Int)} (h : w.ownsRow base e 1 v n rs) (hr : RowVals w rs ls) (hl : ls.length ≤ 17592186044416) : IsRows w v ls := by
  obtain ⟨h1, h2⟩ := h
  have hn : n = ls.length := by rw [← hr.1, h1]; omega
  subst hn
  rcases h2 with ⟨rfl, h3⟩ | ⟨g, cap, cur, rfl, hg, hh, h3, h4, h5, h6⟩
  · have e : ls = [] := List.eq_nil_of_length_eq_zero h3
    subst e
    exact ⟨none, 0, 0, 0, rfl, fun h => absurd rfl h, Nat.le_refl _, Nat.zero_le _, fun h => absurd rfl h, Nat.zero_le _, fun i hi => absurd hi (by simp)⟩
  · refine ⟨_, g, 0, cap, rfl, fun _ => rfl, h3, h4, fun _ => (Array.getElem?_eq_some_iff.1 hh).1, hl, fun i hi => ?_⟩
    have hi' : i < rs.length := by rw [hr.1]; exact hi
    refine ⟨rs[i], ?_, by have := hr.2 i hi' hi; simpa [hi] using this⟩
    rw [cell_of_row w g (0 + i) cur e (0, 0) hh, Nat.zero_add]
    have h7 : (cur.toList.take (ls.length * 1))[i]? = some rs[i] := by rw [h6]; simp [hi']
    rw [List.getElem?_take] at h7
    split at h7
    · simpa using h7
    · cases h7

theorem ownsRow_below {w w' : World} {base e size : Nat} {v : Value} {n : Nat} {xs : List Value} (h : w.ownsRow base e size v n xs) (hb : Below w.heap.size w w') : w'.ownsRow base e size v n xs := by
  refine ⟨h.1, ?_⟩
  rcases h.2 with hn | ⟨g, cap, cur, rfl, h1, h2, r⟩
  · exact .inl hn
  · exact .inr ⟨g, cap, cur, rfl, h1, by rw [hb.block g (Array.getElem?_eq_some_iff.1 h2).1]; exact h2, r⟩

/-- A new row of integers; of slices. -/
theorem isInts_row {w : World} {g e n c : Nat} {cur : Array Value} {fz : Nat × Nat} (xs : List Int) (h : w.heap[g]? = some (.cells cur e fz)) (hc : cur.toList = xs.map (Value.int .i64)) (hn : n = xs.length) (hnc : n ≤ c) (hcm : c ≤ maxLen) (hx : xs.length ≤ 17592186044416) :
    IsInts w (.slice (some ⟨g, 0, none⟩) n c) xs := by
  subst hn
  refine ⟨_, g, 0, c, rfl, fun _ => rfl, hnc, hcm, fun i hi => ?_, fun _ => (Array.getElem?_eq_some_iff.1 h).1, hx⟩
  rw [cell_of_row w g (0 + i) cur e fz h, Nat.zero_add, ← Array.getElem?_toList, hc]
  simp [hi]
theorem isRows_row {w : World} {g e n c : Nat} {cur : Array Value} {fz : Nat × Nat} (rs : List Value) (ls : List (List Int)) (h : w.heap[g]? = some (.cells cur e fz)) (hc : cur.toList = rs) (hr : RowVals w rs ls) (hn : n = ls.length) (hnc : n ≤ c) (hcm : c ≤ maxLen) (hx : ls.length ≤ 17592186044416) :
    IsRows w (.slice (some ⟨g, 0, none⟩) n c) ls := by
  subst hn
  refine ⟨_, g, 0, c, rfl, fun _ => rfl, hnc, hcm, fun _ => (Array.getElem?_eq_some_iff.1 h).1, hx, fun i hi => ?_⟩
  have hi' : i < rs.length := by rw [hr.1]; exact hi
  refine ⟨rs[i], ?_, by have := hr.2 i hi' hi; simpa [hi] using this⟩
  rw [cell_of_row w g (0 + i) cur e fz h, Nat.zero_add, ← Array.getElem?_toList, hc]
  simp [hi']
theorem rowVals_nil (w : World) : RowVals w [] [] := ⟨rfl, fun i h => absurd h (by simp)⟩
theorem rowVals_one {w : World} {r : Value} {xs : List Int} (h : IsInts w r xs) : RowVals w [r] [xs] := (rowVals_nil w).snoc h
theorem rowVals_two {w : World} {r r' : Value} {xs xs' : List Int} (h : IsInts w r xs) (h' : IsInts w r' xs') : RowVals w [r, r'] [xs, xs'] := (rowVals_one h).snoc h'

theorem bcell {B : Nat} {W w1 : World} (hb : Below B W w1) : (∀ b o, b < B → w1.cell? ⟨b, o, none⟩ = W.cell? ⟨b, o, none⟩) ∧ (∀ b o, b < B → w1.frozen? ⟨b, o, none⟩ = W.frozen? ⟨b, o, none⟩) :=
  ⟨fun b o h => hb.cell (p := ⟨b, o, none⟩) h, fun b o h => hb.frozen (p := ⟨b, o, none⟩) h⟩

end Go.Proofs.YtpnchjbdjcihfaaGreatDoor
