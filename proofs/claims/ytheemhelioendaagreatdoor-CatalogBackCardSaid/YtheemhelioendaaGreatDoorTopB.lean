/- Some texts in one: Heap, Maps, StrK, NewM, SortQ, SortI, NewW. (Merged by merge.py.) -/
import Derived.Test.YtheemhelioendaaGreatDoorBase
import Derived.WalkKit
import Derived.WalkSpells
import Derived.WalkLawsBesides
import Derived.Deep.LoopGhost
import Derived.Lib.Hide
import Derived.Maps.OwnOps
import Derived.MapKept
import Derived.Laws.StructEq
import Derived.Test.YtheemhelioendaaGreatDoorCatH
import Derived.Test.YtheemhelioendaaGreatDoorCatN
import Derived.Test.YtheemhelioendaaGreatDoorShelfQ
import Derived.Test.YtheemhelioendaaGreatDoorSpanF
import Derived.Test.YtheemhelioendaaGreatDoorChkW
import Derived.Deep.RegionHeld3
import Derived.Carry
import Derived.Deep.RegionLaw
namespace Go.Proofs.YtheemhelioendaaGreatDoor
open Go.RowKit

/-- The cells from b, o on hold the integers xs. -/
def IntsAt (w : World) (b o : Nat) (xs : List Int) : Prop := ∀ i, i < xs.length → w.cell? ⟨b, o + i, none⟩ = some (.int .i64 (xs.getD i 0))

/-- A value is a slice of the integers xs. -/
def IsInts (w : World) (v : Value) (xs : List Int) : Prop :=
  ∃ a b o c, v = .slice a xs.length c ∧ (xs ≠ [] → a = some ⟨b, o, none⟩) ∧ xs.length ≤ c ∧ c ≤ maxLen ∧ IntsAt w b o xs ∧ (xs ≠ [] → b < w.heap.size) ∧ xs.length ≤ 17592186044416

theorem IntsAt.below {w w' : World} {b o : Nat} {xs : List Int} (h : IntsAt w b o xs) (hb : Below (b + 1) w w') : IntsAt w' b o xs :=
  fun i hi => by rw [hb.cell (by show b < b + 1; omega)]; exact h i hi

theorem IsInts.below {w w' : World} {v : Value} {xs : List Int} (h : IsInts w v xs) (hb : Below w.heap.size w w') : IsInts w' v xs := by
  obtain ⟨a, b, o, c, h1, h2, h3, h4, h5, h6, h7⟩ := h
  exact ⟨a, b, o, c, h1, h2, h3, h4, fun i hi => by rw [hb.cell (h6 (by intro e; subst e; simp at hi))]; exact h5 i hi, fun e => Nat.lt_of_lt_of_le (h6 e) hb.size, h7⟩

/-- A value is a slice of slices of integers. -/
def IsRows (w : World) (v : Value) (ls : List (List Int)) : Prop :=
  ∃ a b o c, v = .slice a ls.length c ∧ (ls ≠ [] → a = some ⟨b, o, none⟩) ∧ ls.length ≤ c ∧ c ≤ maxLen ∧ (ls ≠ [] → b < w.heap.size) ∧ ls.length ≤ 17592186044416 ∧
    ∀ i, i < ls.length → ∃ r, w.cell? ⟨b, o + i, none⟩ = some r ∧ IsInts w r (ls.getD i [])

theorem IsRows.below {w w' : World} {v : Value} {ls : List (List Int)} (h : IsRows w v ls) (hb : Below w.heap.size w w') : IsRows w' v ls := by
  obtain ⟨a, b, o, c, h1, h2, h3, h4, h5, h7, h6⟩ := h
  refine ⟨a, b, o, c, h1, h2, h3, h4, fun e => Nat.lt_of_lt_of_le (h5 e) hb.size, h7, fun i hi => ?_⟩
  obtain ⟨r, hr, hi2⟩ := h6 i hi
  exact ⟨r, by rw [hb.cell (h5 (by intro e; subst e; simp at hi))]; exact hr, hi2.below hb⟩

theorem IsInts.shape {w : World} {v : Value} {xs : List Int} (h : IsInts w v xs) : ∃ a c, v = .slice a xs.length c ∧ xs.length ≤ c ∧ c ≤ 9223372036854775807 ∧ xs.length ≤ 17592186044416 := by
  obtain ⟨a, b, o, c, rfl, _, h3, h4, _, _, h7⟩ := h
  exact ⟨a, c, rfl, h3, by unfold maxLen at h4; omega, h7⟩
theorem IsInts.len {w : World} {a : Option Addr} {n c : Nat} {xs : List Int} (h : IsInts w (.slice a n c) xs) : n = xs.length := by
  obtain ⟨_, _, _, _, hh, _⟩ := h
  cases hh; rfl
theorem IsInts.addr {w : World} {a : Option Addr} {n c : Nat} {xs : List Int} (h : IsInts w (.slice a n c) xs) {k : Nat} (hk : k < xs.length) : ∃ b o, a = some ⟨b, o, none⟩ ∧ b < w.heap.size := by
  obtain ⟨_, b, o, _, hh, h2, _, _, _, h6⟩ := h
  cases hh
  exact ⟨b, o, h2 (by intro e; subst e; simp at hk), h6.1 (by intro e; subst e; simp at hk)⟩
theorem IsInts.get {w : World} {b o n c : Nat} {xs : List Int} (h : IsInts w (.slice (some ⟨b, o, none⟩) n c) xs) {k : Nat} (hk : k < xs.length) : w.cell? ⟨b, o + k, none⟩ = some (.int .i64 xs[k]) := by
  obtain ⟨_, b', o', _, hh, h2, _, _, h5, _⟩ := h
  cases hh
  cases h2 (by intro e; subst e; simp at hk)
  rw [h5 k hk]; simp [hk]

theorem IsRows.shape {w : World} {v : Value} {xs : List (List Int)} (h : IsRows w v xs) : ∃ a c, v = .slice a xs.length c ∧ xs.length ≤ c ∧ c ≤ 9223372036854775807 ∧ xs.length ≤ 17592186044416 := by
  obtain ⟨a, b, o, c, rfl, _, h3, h4, _, h7, _⟩ := h
  exact ⟨a, c, rfl, h3, by unfold maxLen at h4; omega, h7⟩
theorem IsRows.len {w : World} {a : Option Addr} {n c : Nat} {xs : List (List Int)} (h : IsRows w (.slice a n c) xs) : n = xs.length := by
  obtain ⟨_, _, _, _, hh, _⟩ := h
  cases hh; rfl
theorem IsRows.addr {w : World} {a : Option Addr} {n c : Nat} {xs : List (List Int)} (h : IsRows w (.slice a n c) xs) {k : Nat} (hk : k < xs.length) : ∃ b o, a = some ⟨b, o, none⟩ ∧ b < w.heap.size := by
  obtain ⟨_, b, o, _, hh, h2, _, _, h5, _⟩ := h
  cases hh
  exact ⟨b, o, h2 (by intro e; subst e; simp at hk), h5 (by intro e; subst e; simp at hk)⟩
theorem IsRows.get {w : World} {b o n c : Nat} {xs : List (List Int)} (h : IsRows w (.slice (some ⟨b, o, none⟩) n c) xs) {k : Nat} (hk : k < xs.length) :
    ∃ a2 n2 c2, w.cell? ⟨b, o + k, none⟩ = some (.slice a2 n2 c2) ∧ IsInts w (.slice a2 n2 c2) xs[k] := by
  obtain ⟨_, b', o', _, hh, h2, _, _, _, _, h6⟩ := h
  cases hh
  cases h2 (by intro e; subst e; simp at hk)
  obtain ⟨r, hr, hi⟩ := h6 k hk
  have e : xs.getD k [] = xs[k] := by simp [hk]
  rw [e] at hi
  obtain ⟨a2, c2, rfl, _⟩ := hi.shape
  exact ⟨a2, _, c2, hr, hi⟩

theorem choose_lt' {α : Type} [Inhabited α] {n : Nat} {p : Nat → α → Prop} (h : ∀ i, i < n → ∃ x, p i x) : ∃ l : List α, l.length = n ∧ ∀ i (hi : i < l.length), p i l[i] := by
  induction n with
  | zero => exact ⟨[], rfl, fun i hi => absurd hi (by simp)⟩
  | succ n ih =>
    obtain ⟨l, hl, hp⟩ := ih (fun i hi => h i (by omega))
    obtain ⟨x, hx⟩ := h n (by omega)
    refine ⟨l ++ [x], by simp [hl], fun i hi => ?_⟩
    by_cases e : i < l.length
    · rw [List.getElem_append_left e]; exact hp i e
    · have e2 : i = n := by simp at hi; omega
      subst e2
      rw [List.getElem_append_right (by omega)]
      simpa [hl] using hx

/-- The values rs are slices of the integers ls. -/
def RowVals (w : World) (rs : List Value) (ls : List (List Int)) : Prop := rs.length = ls.length ∧ ∀ i (h1 : i < rs.length) (h2 : i < ls.length), IsInts w rs[i] ls[i]

theorem RowVals.below {w w' : World} {rs : List Value} {ls : List (List Int)} (h : RowVals w rs ls) (hb : Below w.heap.size w w') : RowVals w' rs ls :=
  ⟨h.1, fun i h1 h2 => (h.2 i h1 h2).below hb⟩
theorem RowVals.snoc {w : World} {rs : List Value} {ls : List (List Int)} {r : Value} {xs : List Int} (h : RowVals w rs ls) (hr : IsInts w r xs) : RowVals w (rs ++ [r]) (ls ++ [xs]) := by
  refine ⟨by simp [h.1], fun i h1 h2 => ?_⟩
  by_cases e : i < rs.length
  · rw [List.getElem_append_left e, List.getElem_append_left (by rw [← h.1]; exact e)]; exact h.2 i e _
  · have e1 : i = rs.length := by simp at h1; omega
    subst e1
    rw [List.getElem_append_right (Nat.le_refl _), List.getElem_append_right (by rw [h.1]; exact Nat.le_refl _)]
    simpa [h.1] using hr
theorem RowVals.oneCell {w : World} {rs : List Value} {ls : List (List Int)} (h : RowVals w rs ls) : ∀ u ∈ rs, u.oneCell' = true := by
  intro u hu
  obtain ⟨i, hi, rfl⟩ := List.getElem_of_mem hu
  obtain ⟨a, c, e, _⟩ := (h.2 i hi (by rw [← h.1]; exact hi)).shape
  rw [e]; rfl
/-- The cells of a slice of slices. -/
theorem IsRows.vals {w : World} {a : Option Addr} {n c : Nat} {ls : List (List Int)} (h : IsRows w (.slice a n c) ls) :
    ∃ rs, RowVals w rs ls ∧ ∀ ad, a = some ad → ∀ j u, rs[j]? = some u → w.cell? (ad.add j) = some u := by
  obtain ⟨a', b, o, c', hh, h2, _, _, h5, h7, h6⟩ := h
  cases hh
  obtain ⟨rs, h8, h9⟩ := choose_lt' h6
  refine ⟨rs, ⟨h8, fun i h1 h2 => by have := (h9 i h1).2; simpa [h2] using this⟩, fun ad had j u hu => ?_⟩
  obtain ⟨hj, rfl⟩ := List.getElem?_eq_some_iff.1 hu
  rw [h2 (by intro e; subst e; simp at h8; subst h8; simp at hj)] at had
  cases had
  have := (h9 j hj).1
  unfold Addr.add
  split
  · subst j; simpa using this
  · exact this
/-- What the call owns is a slice of slices. -/
theorem isRows_of_owns {w : World} {base e : Nat} {v : Value} {n : Nat} {rs : List Value} {ls : List (List Int)} (h : w.ownsRow base e 1 v n rs) (hr : RowVals w rs ls) (hl : ls.length ≤ 17592186044416) : IsRows w v ls := by
  obtain ⟨h1, h2⟩ := h
  have hn : n = ls.length := by rw [← hr.1, h1]; omega
  subst hn
  rcases h2 with ⟨rfl, h3⟩ | ⟨g, cap, cur, rfl, hg, hh, h3, h4, h5, h6⟩
  · have e : ls = [] := List.eq_nil_of_length_eq_zero h3
    subst e
    exact ⟨none, 0, 0, 0, rfl, fun h => absurd rfl h, Nat.le_refl _, Nat.zero_le _, fun h => absurd rfl h, Nat.zero_le _, fun i hi => absurd hi (by simp)⟩
  · refine ⟨_, g, 0, cap, rfl, fun _ => rfl, h3, h4, fun _ => (Array.getElem?_eq_some_iff.1 hh).1, hl, fun i hi => ?_⟩
    have hi' : i < rs.length := by rw [hr.1]; exact hi
    refine ⟨rs[i], ?_, by have := hr.2 i hi' hi; simpa [hi] using this⟩
    rw [cell_of_row w g (0 + i) cur e (0, 0) hh, Nat.zero_add]
    have h7 : (cur.toList.take (ls.length * 1))[i]? = some rs[i] := by rw [h6]; simp [hi']
    rw [List.getElem?_take] at h7
    split at h7
    · simpa using h7
    · cases h7

theorem ownsRow_below {w w' : World} {base e size : Nat} {v : Value} {n : Nat} {xs : List Value} (h : w.ownsRow base e size v n xs) (hb : Below w.heap.size w w') : w'.ownsRow base e size v n xs := by
  refine ⟨h.1, ?_⟩
  rcases h.2 with hn | ⟨g, cap, cur, rfl, h1, h2, r⟩
  · exact .inl hn
  · exact .inr ⟨g, cap, cur, rfl, h1, by rw [hb.block g (Array.getElem?_eq_some_iff.1 h2).1]; exact h2, r⟩

/-- A new row of integers; of slices. -/
theorem isInts_row {w : World} {g e n c : Nat} {cur : Array Value} {fz : Nat × Nat} (xs : List Int) (h : w.heap[g]? = some (.cells cur e fz)) (hc : cur.toList = xs.map (Value.int .i64)) (hn : n = xs.length) (hnc : n ≤ c) (hcm : c ≤ maxLen) (hx : xs.length ≤ 17592186044416) :
    IsInts w (.slice (some ⟨g, 0, none⟩) n c) xs := by
  subst hn
  refine ⟨_, g, 0, c, rfl, fun _ => rfl, hnc, hcm, fun i hi => ?_, fun _ => (Array.getElem?_eq_some_iff.1 h).1, hx⟩
  rw [cell_of_row w g (0 + i) cur e fz h, Nat.zero_add, ← Array.getElem?_toList, hc]
  simp [hi]
theorem isRows_row {w : World} {g e n c : Nat} {cur : Array Value} {fz : Nat × Nat} (rs : List Value) (ls : List (List Int)) (h : w.heap[g]? = some (.cells cur e fz)) (hc : cur.toList = rs) (hr : RowVals w rs ls) (hn : n = ls.length) (hnc : n ≤ c) (hcm : c ≤ maxLen) (hx : ls.length ≤ 17592186044416) :
    IsRows w (.slice (some ⟨g, 0, none⟩) n c) ls := by
  subst hn
  refine ⟨_, g, 0, c, rfl, fun _ => rfl, hnc, hcm, fun _ => (Array.getElem?_eq_some_iff.1 h).1, hx, fun i hi => ?_⟩
  have hi' : i < rs.length := by rw [hr.1]; exact hi
  refine ⟨rs[i], ?_, by have := hr.2 i hi' hi; simpa [hi] using this⟩
  rw [cell_of_row w g (0 + i) cur e fz h, Nat.zero_add, ← Array.getElem?_toList, hc]
  simp [hi']
theorem rowVals_nil (w : World) : RowVals w [] [] := ⟨rfl, fun i h => absurd h (by simp)⟩
theorem rowVals_one {w : World} {r : Value} {xs : List Int} (h : IsInts w r xs) : RowVals w [r] [xs] := (rowVals_nil w).snoc h
theorem rowVals_two {w : World} {r r' : Value} {xs xs' : List Int} (h : IsInts w r xs) (h' : IsInts w r' xs') : RowVals w [r, r'] [xs, xs'] := (rowVals_one h).snoc h'

theorem bcell {B : Nat} {W w1 : World} (hb : Below B W w1) : (∀ b o, b < B → w1.cell? ⟨b, o, none⟩ = W.cell? ⟨b, o, none⟩) ∧ (∀ b o, b < B → w1.frozen? ⟨b, o, none⟩ = W.frozen? ⟨b, o, none⟩) :=
  ⟨fun b o h => hb.cell (p := ⟨b, o, none⟩) h, fun b o h => hb.frozen (p := ⟨b, o, none⟩) h⟩

end Go.Proofs.YtheemhelioendaaGreatDoor
namespace Go.Proofs.YtheemhelioendaaGreatDoor
open Go.RowKit

section
variable {α : Type}
section
variable [DecidableEq α]
/-- Where a key stands first, and what stands there. -/
def assocIdx (x : α) : List (α × Value) → Option (Nat × Value)
  | [] => none
  | p :: l => if p.1 = x then some (0, p.2) else (assocIdx x l).map fun q => (q.1 + 1, q.2)
def assoc (m : List (α × Value)) (x : α) : Option Value := (assocIdx x m).map (·.2)
def putAssoc (m : List (α × Value)) (x : α) (v : Value) : List (α × Value) :=
  match assocIdx x m with
  | some (i, _) => m.set i (x, v)
  | none => m ++ [(x, v)]

theorem assocIdx_some {x : α} {i : Nat} {v : Value} : ∀ {m : List (α × Value)}, assocIdx x m = some (i, v) → m[i]? = some (x, v)
  | [], h => by cases h
  | p :: l, h => by
    unfold assocIdx at h
    split at h
    · rename_i e
      simp only [Option.some.injEq, Prod.mk.injEq] at h
      obtain ⟨rfl, rfl⟩ := h
      subst e; rfl
    · obtain ⟨⟨j, u⟩, h1, h2⟩ := Option.map_eq_some_iff.1 h
      simp only [Prod.mk.injEq] at h2
      obtain ⟨rfl, rfl⟩ := h2
      simpa using assocIdx_some h1
theorem assocIdx_none {x : α} : ∀ {m : List (α × Value)}, assocIdx x m = none → ∀ p ∈ m, p.1 ≠ x
  | [], _, p, hp => by cases hp
  | q :: l, h, p, hp => by
    unfold assocIdx at h
    split at h
    · cases h
    · rename_i e
      rcases List.mem_cons.1 hp with rfl | hp
      · exact e
      · exact assocIdx_none (by simpa using h) p hp

theorem assocIdx_append {x y : α} {v : Value} : ∀ (m : List (α × Value)), assocIdx y (m ++ [(x, v)]) = match assocIdx y m with | some r => some r | none => if x = y then some (m.length, v) else none
  | [] => by simp [assocIdx]
  | p :: l => by
    simp only [List.cons_append, assocIdx]
    split
    · rfl
    · rw [assocIdx_append l]
      cases assocIdx y l with
      | some r => rfl
      | none => simp only [Option.map_none]; split <;> simp
theorem assoc_set {x y : α} {u v : Value} : ∀ {m : List (α × Value)} {i : Nat}, assocIdx x m = some (i, u) → assoc (m.set i (x, v)) y = if x = y then some v else assoc m y
  | [], _, h => by cases h
  | p :: l, i, h => by
    unfold assocIdx at h
    split at h
    · rename_i e
      simp only [Option.some.injEq, Prod.mk.injEq] at h
      obtain ⟨rfl, rfl⟩ := h
      subst e
      simp only [List.set_cons_zero, assoc, assocIdx]
      split <;> simp
    · rename_i e
      obtain ⟨⟨j, u'⟩, h1, h2⟩ := Option.map_eq_some_iff.1 h
      simp only [Prod.mk.injEq] at h2
      obtain ⟨rfl, rfl⟩ := h2
      have ih := assoc_set (y := y) (v := v) h1
      simp only [List.set_cons_succ, assoc, assocIdx]
      simp only [assoc] at ih
      by_cases e2 : p.1 = y
      · rw [if_pos e2, if_pos e2, if_neg (fun e3 => e (by rw [e2, e3]))]
      · rw [if_neg e2, if_neg e2]
        simp only [Option.map_map]
        rw [show ((fun q : Nat × Value => q.2) ∘ fun q : Nat × Value => (q.1 + 1, q.2)) = fun q => q.2 from rfl]
        exact ih
theorem assoc_put (m : List (α × Value)) (x y : α) (v : Value) : assoc (putAssoc m x v) y = if x = y then some v else assoc m y := by
  unfold putAssoc
  cases h : assocIdx x m with
  | some r => obtain ⟨i, u⟩ := r; exact assoc_set h
  | none =>
    simp only [assoc, assocIdx_append]
    by_cases e : x = y
    · subst e; simp [h]
    · simp only [if_neg e]
      cases assocIdx y m <;> rfl
theorem assoc_nil (x : α) : assoc ([] : List (α × Value)) x = none := rfl

theorem put_keys {m : List (α × Value)} {x : α} {v : Value} {i : Nat} {u : Value} (h : assocIdx x m = some (i, u)) : (m.set i (x, v)).map (·.1) = m.map (·.1) := by
  have h1 := assocIdx_some h
  apply List.ext_getElem?
  intro j
  simp only [List.getElem?_map, List.getElem?_set]
  split
  · rename_i e
    subst e
    obtain ⟨hi, h2⟩ := List.getElem?_eq_some_iff.1 h1
    simp [hi, h2]
  · rfl

theorem run_getObjM {P : Program} {w : World} {r : Nat} {es : Array MapEntry} {clock : Nat} (hb : w.heap[r]? = some (.map es clock)) : (getObj r).run P w = .ok (.map es clock) w := by simp [getObj, Sem.run, hb]
theorem run_setObjM {P : Program} {w : World} {r : Nat} {es : Array MapEntry} {clock : Nat} (o : Obj) (hb : w.heap[r]? = some (.map es clock)) : (setObj r o).run P w = .ok () { w with heap := w.heap.setIfInBounds r o } := by simp [setObj, Sem.run, hb]

/-- What the walk asks of a type of keys. -/
structure KeyTy (P : Program) (kt : TypeId) (enc : α → Value) : Prop where
  check : ∀ (b : Bool) (x : α) (w : World), (Instr.checkKey b 10000 kt (enc x)).run P w = .ok () w
  find : ∀ (x : α) (ms : List (α × Value)) (es : List MapEntry), es.map (fun e => (e.key, e.val)) = ms.map (fun p => (enc p.1, p.2)) → ∀ w, (Instr.findKey kt (enc x) es).run P w = .ok (assocIdx x ms) w
  bits : ∀ x : α, Instr.sameBits 10000 (enc x) (enc x) = true

end
/-- Block b is a map that holds the pairs m, in the order in which the keys came. -/
def MapOf (w : World) (b : Nat) (enc : α → Value) (m : List (α × Value)) : Prop :=
  ∃ es clock, w.heap[b]? = some (.map es clock) ∧ es.toList.map (fun e => (e.key, e.val)) = m.map (fun p => (enc p.1, p.2)) ∧ (m.map (·.1)).Nodup ∧
    (es.toList.map (·.born)).Pairwise (· < ·) ∧ ∀ e ∈ es.toList, e.born < clock

theorem MapOf.lt {w : World} {b : Nat} {enc : α → Value} {m : List (α × Value)} (h : MapOf w b enc m) : b < w.heap.size := by
  obtain ⟨es, clock, hb, _⟩ := h
  exact (Array.getElem?_eq_some_iff.1 hb).1
theorem MapOf.below {w w' : World} {b : Nat} {enc : α → Value} {m : List (α × Value)} (h : MapOf w b enc m) (hb : Below (b + 1) w w') : MapOf w' b enc m := by
  obtain ⟨es, clock, h1, h2⟩ := h
  exact ⟨es, clock, by rw [hb.block b (by omega)]; exact h1, h2⟩
theorem mapOf_new (w : World) (enc : α → Value) : MapOf (w.alloc (.map #[] 0)) w.heap.size enc [] :=
  ⟨#[], 0, heap_alloc_new w _, rfl, List.nodup_nil, List.Pairwise.nil, fun e he => by cases he⟩
theorem MapOf.block_eq {w w' : World} {b : Nat} {enc : α → Value} {m : List (α × Value)} (h : MapOf w b enc m) (hb : w'.heap[b]? = w.heap[b]?) : MapOf w' b enc m := by
  obtain ⟨es, clock, h1, h2⟩ := h
  exact ⟨es, clock, by rw [hb]; exact h1, h2⟩

section
variable [DecidableEq α]
theorem MapOf.lookup {P : Program} {w : World} {b : Nat} {kt et t : TypeId} {enc : α → Value} {m : List (α × Value)} (h : MapOf w b enc m) (K : KeyTy P kt enc) (ht : P.underlying t = some (.map kt et))
    {z : Value} (hz : (zeroValue et).run P w = .ok z w) (x : α) (ok : Bool) :
    (Instr.lookup t (.map (some b)) (enc x) ok).run P w = .ok (if ok then .tuple #[(assoc m x).getD z, .bool (assoc m x).isSome] else (assoc m x).getD z) w := by
  obtain ⟨es, clock, h1, h2, _⟩ := h
  simp only [Instr.lookup, Sem.run_bind, run_underlying ht, Result.andThen_ok, run_getObjM h1, Sem.run_pure, K.check, K.find x m es.toList h2]
  unfold assoc
  cases assocIdx x m with
  | none => simp only [Sem.run_bind, hz, Result.andThen_ok, Sem.run_pure]; rfl
  | some r => obtain ⟨i, v⟩ := r; simp only [Sem.run_bind, Result.andThen_ok, Sem.run_pure]; rfl

end
/-- A block takes another object. -/
def setObjW (w : World) (b : Nat) (o : Obj) : World := { w with heap := w.heap.setIfInBounds b o }

theorem setObjW_same {w : World} {b : Nat} (o : Obj) (h : b < w.heap.size) : (setObjW w b o).heap[b]? = some o := by simp [setObjW, h]
theorem setObjW_other {w : World} {b k : Nat} (o : Obj) (h : k ≠ b) : (setObjW w b o).heap[k]? = w.heap[k]? := by
  simp only [setObjW, Array.getElem?_setIfInBounds]; rw [if_neg (fun e => h e.symm)]
theorem setObjW_below {w : World} {B b : Nat} (o : Obj) (h : B ≤ b) : Below B w (setObjW w b o) :=
  ⟨rfl, rfl, rfl, by simp [setObjW], fun k hk => setObjW_other o (by omega)⟩

section
variable [DecidableEq α]
theorem MapOf.update {P : Program} {w : World} {b : Nat} {kt et t : TypeId} {enc : α → Value} {m : List (α × Value)} (h : MapOf w b enc m) (K : KeyTy P kt enc) (ht : P.underlying t = some (.map kt et))
    (x : α) (v : Value) : ∃ o, (Instr.mapUpdate t (.map (some b)) (enc x) v).run P w = .ok () (setObjW w b o) ∧ MapOf (setObjW w b o) b enc (putAssoc m x v) := by
  have hlt := h.lt
  obtain ⟨es, clock, h1, h2, h3, h4, h5⟩ := h
  have hrun : (Instr.mapUpdate t (.map (some b)) (enc x) v).run P w = (match assocIdx x m with
      | some (i, _) => (setObj b (.map (es.modify i fun e => { e with key := enc x, val := v }) clock)).run P w
      | none => (setObj b (.map (es.push { key := enc x, val := v, born := clock }) (clock + 1))).run P w) := by
    simp only [Instr.mapUpdate, Sem.run_bind, run_underlying ht, Result.andThen_ok, run_getObjM h1, K.check, K.find x m es.toList h2]
    cases hx : assocIdx x m with
    | none => rfl
    | some r =>
      obtain ⟨i, u⟩ := r
      have hi : es[i]?.map (fun e => (e.key, e.val)) = some (enc x, u) := by
        have h6 := assocIdx_some hx
        have h7 := congrArg (·[i]?) h2
        simp only [List.getElem?_map, h6, Option.map_some, Array.getElem?_toList] at h7
        exact h7
      obtain ⟨e, he, hek⟩ := Option.map_eq_some_iff.1 hi
      simp only [Prod.mk.injEq] at hek
      simp only [he, Option.map_some, Option.getD_some, hek.1, Instr.keyThatStays, K.bits, if_true, Sem.run_bind, Sem.run_pure, Result.andThen_ok]
  rw [hrun]
  cases hx : assocIdx x m with
  | none =>
    refine ⟨_, run_setObjM _ h1, _, _, setObjW_same _ hlt, ?_, ?_, ?_, ?_⟩
    · simp only [putAssoc, hx]; simp [h2]
    · simp only [putAssoc, hx, List.map_append, List.map_cons, List.map_nil]
      rw [List.nodup_append]
      refine ⟨h3, by simp, fun a ha c hc => ?_⟩
      simp only [List.mem_singleton] at hc
      subst hc
      obtain ⟨p, hp, rfl⟩ := List.mem_map.1 ha
      exact assocIdx_none hx p hp
    · simp only [Array.toList_push, List.map_append, List.map_cons, List.map_nil]
      rw [List.pairwise_append]
      refine ⟨h4, List.pairwise_singleton _ _, fun a ha c hc => ?_⟩
      simp only [List.mem_singleton] at hc
      subst hc
      obtain ⟨e, he, rfl⟩ := List.mem_map.1 ha
      exact h5 e he
    · intro e he
      simp only [Array.toList_push, List.mem_append, List.mem_singleton] at he
      rcases he with he | rfl
      · exact Nat.lt_succ_of_lt (h5 e he)
      · exact Nat.lt_succ_self _
  | some r =>
    obtain ⟨i, u⟩ := r
    have hkeys := put_keys (v := v) hx
    have hmod : ∀ j, (es.modify i fun e => { e with key := enc x, val := v })[j]? = (es[j]?).map fun e => if i = j then { e with key := enc x, val := v } else e := by
      intro j
      rw [Array.getElem?_modify]
      split
      · rfl
      · cases es[j]? <;> rfl
    have hborn : (es.modify i fun e => { e with key := enc x, val := v }).toList.map (·.born) = es.toList.map (·.born) := by
      apply List.ext_getElem?
      intro j
      simp only [List.getElem?_map, Array.getElem?_toList, hmod, Option.map_map]
      cases es[j]? with
      | none => rfl
      | some e => simp only [Option.map_some, Function.comp]; split <;> rfl
    refine ⟨_, run_setObjM _ h1, _, _, setObjW_same _ hlt, ?_, ?_, ?_, ?_⟩
    · simp only [putAssoc, hx]
      apply List.ext_getElem?
      intro j
      have h7 := congrArg (·[j]?) h2
      simp only [List.getElem?_map, Array.getElem?_toList] at h7
      simp only [List.getElem?_map, Array.getElem?_toList, hmod, List.getElem?_set, Option.map_map]
      by_cases e : i = j
      · subst e
        rw [assocIdx_some hx] at h7
        obtain ⟨e', he', _⟩ := Option.map_eq_some_iff.1 h7
        have hlen := (List.getElem?_eq_some_iff.1 (assocIdx_some hx)).1
        simp [he', hlen]
      · simp only [if_neg e]
        rw [← h7]
        cases es[j]? <;> rfl
    · simp only [putAssoc, hx, hkeys]; exact h3
    · rw [hborn]; exact h4
    · intro e he
      have : e.born ∈ es.toList.map (·.born) := by rw [← hborn]; exact List.mem_map.2 ⟨e, he, rfl⟩
      obtain ⟨e', he', h8⟩ := List.mem_map.1 this
      rw [← h8]; exact h5 e' he'

/-- A look-up at the operation. -/
theorem wpList_lookup_of {P : Program} {w : World} {ops : Array Oper} {rest : List Oper} {o : Oper} {a : Act} {Q : Exit → Act → World → Prop}
    (hg : o.guard = none) (m x : Operand) (t : TypeId) (ok : Bool) (hop : o.op = Op.lookup t m x ok) {kt et : TypeId} {enc : α → Value} (K : KeyTy P kt enc) (ht : P.underlying t = some (.map kt et))
    {z : Value} (hz : (zeroValue et).run P w = .ok z w) {b : Nat} (hm : a.eval m = .map (some b)) {l : List (α × Value)} (h : MapOf w b enc l) {k : α} (hx : a.eval x = enc k)
    (hK : wpList P ops Q rest (a.put o.dst (if ok then .tuple #[(assoc l k).getD z, .bool (assoc l k).isSome] else (assoc l k).getD z)) w) :
    wpList P ops Q (o :: rest) a w := by
  refine wpList_plain hg fun K' hK' => ?_
  have hrun := h.lookup K ht hz k ok
  unfold Oper.wp
  simp only [execOp, hop, hm, hx, hrun, Sem.run_bind, Result.andThen_ok, Sem.run_pure]
  exact hK' _ _ hK

/-- A store at the operation. -/
theorem wpList_mapUpdate_of {P : Program} {w : World} {ops : Array Oper} {rest : List Oper} {o : Oper} {a : Act} {Q : Exit → Act → World → Prop}
    (hg : o.guard = none) (m x v : Operand) (t : TypeId) (hop : o.op = Op.mapUpdate t m x v) {kt et : TypeId} {enc : α → Value} (K : KeyTy P kt enc) (ht : P.underlying t = some (.map kt et))
    {b : Nat} (hm : a.eval m = .map (some b)) {l : List (α × Value)} (h : MapOf w b enc l) {k : α} (hx : a.eval x = enc k) (u : Value) (hv : a.eval v = u)
    (hK : ∀ ob, MapOf (setObjW w b ob) b enc (putAssoc l k u) → wpList P ops Q rest (a.put o.dst undef) (setObjW w b ob)) :
    wpList P ops Q (o :: rest) a w := by
  refine wpList_plain hg fun K' hK' => ?_
  obtain ⟨ob, hrun, h2⟩ := h.update K ht k u
  unfold Oper.wp
  simp only [execOp, hop, hm, hx, hv, hrun, Sem.run_bind, Result.andThen_ok, Sem.run_pure]
  exact hK' _ _ (hK ob h2)
end
end

theorem sameBits_int (n : Nat) (q : IntKind) (x : Int) : Instr.sameBits n (.int q x) (.int q x) = true := by cases n <;> simp [Instr.sameBits]

theorem checkKey_int {P : Program} {kt : TypeId} {q : IntKind} (hk : P.underlying kt = some (.int q)) (n : Nat) (b : Bool) (x : Int) (w : World) : (Instr.checkKey b (n + 1) kt (.int q x)).run P w = .ok () w := by
  simp [Instr.checkKey, run_underlying hk]

/-- Integers as keys. -/
theorem intKey {P : Program} {kt : TypeId} {q : IntKind} (hk : P.underlying kt = some (.int q)) : KeyTy P kt (Value.int q) where
  check := fun b x w => checkKey_int hk 9999 b x w
  bits := fun x => sameBits_int _ q x
  find := by
    intro x ms es h w
    have key : ∀ (es : List MapEntry) (ms : List (Int × Value)) (i : Nat), es.map (fun e => (e.key, e.val)) = ms.map (fun p => (Value.int q p.1, p.2)) →
        Instr.findNow (.int q) (.int q x) es i = some ((assocIdx x ms).map fun r => (r.1 + i, r.2)) := by
      intro es
      induction es with
      | nil => intro ms i h; cases ms with
        | nil => rfl
        | cons p l => cases h
      | cons e es ih =>
        intro ms i h
        cases ms with
        | nil => cases h
        | cons p l =>
          simp only [List.map_cons, List.cons.injEq, Prod.mk.injEq] at h
          obtain ⟨⟨h1, h2⟩, h3⟩ := h
          simp only [Instr.findNow, h1, Instr.sameNow, if_true, assocIdx]
          by_cases e2 : p.1 = x
          · simp [e2, h2]
          · have e3 : (x == p.1) = false := by simp; exact fun h => e2 h.symm
            simp only [e3, if_neg e2, ih l (i + 1) h3, Option.map_map]
            congr 2
            funext r
            simp [Function.comp]; omega
    have h1 := key es ms 0 h
    simp only [Instr.findKey, Sem.run_bind, run_underlying hk, Result.andThen_ok, h1]
    simp
end Go.Proofs.YtheemhelioendaaGreatDoor
namespace Go.Proofs.YtheemhelioendaaGreatDoor
open Go.RowKit
set_option linter.unusedVariables false

theorem sameBits_str (n : Nat) (x : ByteArray) : Instr.sameBits n (.string x) (.string x) = true := by
  cases n <;> (unfold Instr.sameBits; rw [beq_toListBytes]; simp)
theorem checkKey_str {P : Program} {kt : TypeId} (hk : P.underlying kt = some .string) (n : Nat) (b : Bool) (x : ByteArray) (w : World) : (Instr.checkKey b (n + 1) kt (.string x)).run P w = .ok () w := by
  simp [Instr.checkKey, run_underlying hk]
/-- Strings as keys. -/
theorem strKey {P : Program} {kt : TypeId} (hk : P.underlying kt = some .string) : KeyTy P kt Value.string where
  check := fun b x w => checkKey_str hk 9999 b x w
  bits := fun x => sameBits_str _ x
  find := by
    intro x ms es h w
    have key : ∀ (es : List MapEntry) (ms : List (ByteArray × Value)) (i : Nat), es.map (fun e => (e.key, e.val)) = ms.map (fun p => (Value.string p.1, p.2)) →
        Instr.findNow .string (.string x) es i = some ((assocIdx x ms).map fun r => (r.1 + i, r.2)) := by
      intro es
      induction es with
      | nil => intro ms i h; cases ms with
        | nil => rfl
        | cons p l => cases h
      | cons e es ih =>
        intro ms i h
        cases ms with
        | nil => cases h
        | cons p l =>
          simp only [List.map_cons, List.cons.injEq, Prod.mk.injEq] at h
          obtain ⟨⟨h1, h2⟩, h3⟩ := h
          simp only [Instr.findNow, h1, Instr.sameNow, assocIdx]
          by_cases e2 : p.1 = x
          · have e3 : (x == p.1) = true := by rw [beq_toListBytes, e2]; simp
            simp only [e3, if_pos e2]
            simp [h2]
          · have e3 : (x == p.1) = false := by
              rw [beq_toListBytes, beq_eq_false_iff_ne, ByteArray.toList_eq, ByteArray.toList_eq]
              exact fun q => e2 (ByteArray.ext (Array.toList_inj.1 q.symm))
            simp only [e3, if_neg e2, ih l (i + 1) h3, Option.map_map]
            congr 2
            funext r
            simp [Function.comp]; omega
    have h1 := key es ms 0 h
    simp only [Instr.findKey, Sem.run_bind, run_underlying hk, Result.andThen_ok, h1]
    simp
/-- len of a map. -/
theorem wpList_lenS {α : Type} {P : Program} {w : World} {ops : Array Oper} {rest : List Oper} {o : Oper} {a : Act} {Q : Exit → Act → World → Prop} (hg : o.guard = none) (x : Operand) (t : TypeId) (hop : o.op = Op.call { callee := Callee.builtin Builtin.len, args := #[x], argTypes := #[t] }) {kt et : TypeId} (ht : P.underlying t = some (.map kt et)) {b : Nat} {enc : α → Value} {l : List (α × Value)} (hm : a.eval x = .map (some b)) (h : MapOf w b enc l)
    (hK : wpList P ops Q rest (a.put o.dst (.int .i64 l.length)) w) : wpList P ops Q (o :: rest) a w := by
  obtain ⟨es, clock, h1, h2, _⟩ := h
  have hsz : es.size = l.length := by simpa using congrArg List.length h2
  have hr : (Builtin.len_ #[t] o.type #[.map (some b)]).run P w = .ok (.int .i64 l.length) w := by
    simp [Builtin.len_, Sem.run_bind, run_underlying ht, run_getObjM h1, goInt, hsz]
  refine wpList_plain hg fun K' hK' => ?_
  unfold Oper.wp
  simp [execOp, hop, resolve, invoke, builtin, hm, hr, Result.andThen]
  exact hK' _ _ hK
/-- Keys once put. -/
theorem putAssoc_keys {m : List (ByteArray × Value)} {x : ByteArray} {u : Value} : ∀ k, k ∈ (putAssoc m x u).map (·.1) ↔ k = x ∨ k ∈ m.map (·.1) := by
  intro k
  unfold putAssoc
  cases hx : assocIdx x m with
  | none => simp [or_comm]
  | some r =>
    obtain ⟨i, v⟩ := r
    have h1 := put_keys (v := u) hx
    have h2 := assocIdx_some hx
    simp only
    rw [h1]
    constructor
    · exact .inr
    · rintro (rfl | h)
      · exact List.mem_map.2 ⟨_, List.mem_of_getElem? h2, rfl⟩
      · exact h
theorem MapOf.nodup {w : World} {b : Nat} {enc : ByteArray → Value} {m : List (ByteArray × Value)} (h : MapOf w b enc m) : (m.map (·.1)).Nodup := by
  obtain ⟨_, _, _, _, h, _⟩ := h; exact h
end Go.Proofs.YtheemhelioendaaGreatDoor
namespace Go.Proofs.YtheemhelioendaaGreatDoor
open Go.RowKit
set_option linter.unusedVariables false

theorem itemsOf_app (a b : List LineM) : itemsOf (a ++ b) = itemsOf a ++ itemsOf b := by unfold itemsOf; rw [List.filter_append, List.map_append]
theorem itemsOf_one (x : LineM) : itemsOf [x] = if x.kind = 1 then [x.item] else [] := by
  unfold itemsOf
  by_cases h : x.kind = 1
  · rw [List.filter_cons_of_pos (by simpa using h), if_pos h]; rfl
  · rw [List.filter_cons_of_neg (by simpa using h), if_neg h]; rfl
theorem itemsOf_take (ls : List LineM) (k : Nat) (h : k < ls.length) : itemsOf (ls.take (k + 1)) = itemsOf (ls.take k) ++ if ls[k].kind = 1 then [ls[k].item] else [] := by
  rw [List.take_succ_eq_append_getElem h, itemsOf_app, itemsOf_one]
theorem itemsOf_split (ls : List LineM) (k : Nat) (h : k < ls.length) : itemsOf ls = itemsOf (ls.take k) ++ ((if ls[k].kind = 1 then [ls[k].item] else []) ++ itemsOf (ls.drop (k + 1))) := by
  conv => lhs; rw [← List.take_append_drop (k + 1) ls, itemsOf_app, itemsOf_take ls k h, List.append_assoc]
theorem no_check {ls : List LineM} {x : LineM} (hx : x ∈ ls) (h : checkM x ≠ 0) : ¬ NewOk ls := fun q => h (q.check x hx)
theorem no_twice {ls : List LineM} {k : Nat} (h : k < ls.length) (h1 : ls[k].kind = 1) (h2 : ls[k].item ∈ itemsOf (ls.take k)) : ¬ NewOk ls := fun q => by
  have := q.twice
  rw [itemsOf_split ls k h, if_pos h1] at this
  exact (List.nodup_append.1 this).2.2 _ h2 _ (by simp) rfl
theorem no_most {ls : List LineM} {k : Nat} (h : k < ls.length) (h1 : ls[k].kind = 1) (h2 : (itemsOf (ls.take k)).length = 24) : ¬ NewOk ls := fun q => by
  have := q.most
  rw [itemsOf_split ls k h, if_pos h1] at this
  simp at this
  omega
theorem no_names {ls : List LineM} {l : List ByteArray} (h1 : l.Nodup) (h2 : ∀ n ∈ l, ∃ x ∈ ls, x.kind = 1 ∧ x.name = n) (h3 : 8 < l.length) : ¬ NewOk ls := fun q => by
  have := q.names l h1 h2; omega
theorem no_there {ls : List LineM} {x : LineM} (hx : x ∈ ls) (hk : x.kind = 2 ∨ x.kind = 3) (h : x.item ∉ itemsOf ls) : ¬ NewOk ls := fun q => h (q.there x hx hk)
theorem no_few {ls : List LineM} (h : 100 < ls.length) : ¬ NewOk ls := fun q => by have := q.few; omega
theorem nodup_sub {α : Type} : ∀ {l m : List α}, l.Nodup → (∀ x ∈ l, x ∈ m) → l.length ≤ m.length
  | [], m, _, _ => Nat.zero_le _
  | x :: l, m, h1, h2 => by
    obtain ⟨a, b, rfl⟩ := List.append_of_mem (h2 x (List.mem_cons_self ..))
    have hn := List.nodup_cons.1 h1
    have := nodup_sub (m := a ++ b) hn.2 (fun y hy => by
      have hy2 := h2 y (List.mem_cons_of_mem _ hy)
      rcases List.mem_append.1 hy2 with q | q
      · exact List.mem_append_left _ q
      · rcases List.mem_cons.1 q with rfl | q
        · exact absurd hy hn.1
        · exact List.mem_append_right _ q)
    simp only [List.length_append, List.length_cons] at this ⊢
    omega
/-- What the first loop has shown of k lines. -/
structure NewI (w wr : World) (vi : Value) (m : List (ByteArray × Value)) (ls : List LineM) (k : Nat) : Prop where
  below : Below w.heap.size w wr
  box : wr.heap[w.heap.size]? = some (.cells #[.slice none 0 0, vi] 83 (0, 0))
  its : IsItems wr (w.heap.size + 2) vi (itemsOf (ls.take k))
  map : MapOf wr (w.heap.size + 1) Value.string m
  keys : ∀ n, n ∈ m.map (·.1) ↔ ∃ x ∈ ls.take k, x.kind = 1 ∧ x.name = n
  m8 : m.length ≤ 8
  chk : ∀ x ∈ ls.take k, checkM x = 0
  nod : (itemsOf (ls.take k)).Nodup
  few : (itemsOf (ls.take k)).length ≤ 24
  size : w.heap.size + 2 ≤ wr.heap.size
theorem NewI.mono {w wr w' : World} {vi : Value} {m : List (ByteArray × Value)} {ls : List LineM} {k : Nat} (h : NewI w wr vi m ls k) (hb : Below wr.heap.size wr w') : NewI w w' vi m ls k :=
  ⟨h.below.trans (hb.mono h.below.size), (hb.block _ (lt_of_block h.box)).trans h.box, h.its.below hb, h.map.block_eq (hb.block _ h.map.lt), h.keys, h.m8, h.chk, h.nod, h.few, Nat.le_trans h.size hb.size⟩
/-- A line that is no package. -/
theorem NewI.skip {w wr : World} {vi : Value} {m : List (ByteArray × Value)} {ls : List LineM} {k : Nat} (h : NewI w wr vi m ls k) (hk : k < ls.length) (h1 : ls[k].kind ≠ 1) (h2 : checkM ls[k] = 0) : NewI w wr vi m ls (k + 1) := by
  have e := itemsOf_take ls k hk
  rw [if_neg h1, List.append_nil] at e
  have et := List.take_succ_eq_append_getElem hk
  refine ⟨h.below, h.box, by rw [e]; exact h.its, h.map, fun n => ?_, h.m8, fun x hx => ?_, by rw [e]; exact h.nod, by rw [e]; exact h.few, h.size⟩
  · rw [h.keys, et]
    constructor
    · rintro ⟨x, hx, h3⟩; exact ⟨x, List.mem_append_left _ hx, h3⟩
    · rintro ⟨x, hx, h3, h4⟩
      rcases List.mem_append.1 hx with q | q
      · exact ⟨x, q, h3, h4⟩
      · rw [List.mem_singleton.1 q] at h3; exact absurd h3 h1
  · rw [et] at hx
    rcases List.mem_append.1 hx with q | q
    · exact h.chk x q
    · rw [List.mem_singleton.1 q]; exact h2
/-- Keys behind a package's name. -/
theorem NewI.keys_put {w wr : World} {vi : Value} {m : List (ByteArray × Value)} {ls : List LineM} {k : Nat} (h : NewI w wr vi m ls k) (hk : k < ls.length) (h1 : ls[k].kind = 1) (u : Value) :
    ∀ n, n ∈ (putAssoc m ls[k].name u).map (·.1) ↔ ∃ x ∈ ls.take (k + 1), x.kind = 1 ∧ x.name = n := by
  intro n
  rw [putAssoc_keys, h.keys, List.take_succ_eq_append_getElem hk]
  constructor
  · rintro (rfl | ⟨x, hx, h3⟩)
    · exact ⟨_, List.mem_append_right _ (List.mem_singleton.2 rfl), h1, rfl⟩
    · exact ⟨x, List.mem_append_left _ hx, h3⟩
  · rintro ⟨x, hx, h3, h4⟩
    rcases List.mem_append.1 hx with q | q
    · exact .inr ⟨x, q, h3, h4⟩
    · rw [List.mem_singleton.1 q] at h4; exact .inl h4.symm
/-- A package. -/
theorem NewI.put {w wr w' : World} {vi vi' : Value} {m : List (ByteArray × Value)} {ls : List LineM} {k : Nat} (h : NewI w wr vi m ls k) (hk : k < ls.length) (h1 : ls[k].kind = 1) (h2 : checkM ls[k] = 0) (h3 : ls[k].item ∉ itemsOf (ls.take k)) (h4 : (itemsOf (ls.take k)).length ≠ 24) (u : Value) (h8 : (putAssoc m ls[k].name u).length ≤ 8)
    (hbel : Below w.heap.size w w') (hbox : w'.heap[w.heap.size]? = some (.cells #[.slice none 0 0, vi'] 83 (0, 0))) (hits : IsItems w' (w.heap.size + 2) vi' (itemsOf (ls.take k) ++ [ls[k].item])) (hmap : MapOf w' (w.heap.size + 1) Value.string (putAssoc m ls[k].name u)) (hsz : w.heap.size + 2 ≤ w'.heap.size) : NewI w w' vi' (putAssoc m ls[k].name u) ls (k + 1) := by
  have e := itemsOf_take ls k hk
  rw [if_pos h1] at e
  refine ⟨hbel, hbox, by rw [e]; exact hits, hmap, h.keys_put hk h1 u, h8, fun x hx => ?_, ?_, ?_, hsz⟩
  · rw [List.take_succ_eq_append_getElem hk] at hx
    rcases List.mem_append.1 hx with q | q
    · exact h.chk x q
    · rw [List.mem_singleton.1 q]; exact h2
  · rw [e, List.nodup_append]
    exact ⟨h.nod, by simp, fun a ha b hb => by rw [List.mem_singleton.1 hb]; exact fun q => h3 (q ▸ ha)⟩
  · rw [e, List.length_append]
    have := h.few
    simp; omega
/-- All lines are fine; so they may be. -/
theorem NewI.all {w wr : World} {vi : Value} {m : List (ByteArray × Value)} {ls : List LineM} (h : NewI w wr vi m ls ls.length) (hn : ls.length ≤ 100) (hth : ∀ x ∈ ls, x.kind = 2 ∨ x.kind = 3 → x.item ∈ itemsOf ls) : NewOk ls := by
  have e : ls.take ls.length = ls := List.take_length
  refine ⟨hn, fun x hx => h.chk x (by rw [e]; exact hx), by have := h.nod; rwa [e] at this, fun l h1 h2 => ?_, by have := h.few; rwa [e] at this, hth⟩
  have : l.length ≤ (m.map (·.1)).length := nodup_sub h1 (fun n hn => by rw [h.keys, e]; exact h2 n hn)
  rw [List.length_map] at this
  exact Nat.le_trans this h.m8
/-- What New says. -/
def NewP (ls : List LineM) (w : World) (e : Ending) (w' : World) : Prop :=
  ((∃ p items, e = .returned (.tuple #[.pointer (some ⟨p, 0, none⟩), .nilIface]) ∧ IsCat w' p ls items ∧ w.heap.size ≤ p) ∨
   (∃ er, e = .returned (.tuple #[.pointer none, er]) ∧ ¬ NewOk ls ∧ ((∃ k, er = .iface 43 (.int .i64 k)) ∨ ∃ q k pl, er = .iface 101 (.pointer (some ⟨q, 0, none⟩)) ∧ w'.heap[q]? = some (.cells #[.int .i64 k, .int .i64 pl] 103 (0, 0)) ∧ 0 ≤ pl ∧ pl < ls.length))) ∧ Below w.heap.size w w'
end Go.Proofs.YtheemhelioendaaGreatDoor
namespace Go.Proofs.YtheemhelioendaaGreatDoor
open Go.RowKit
set_option linter.unusedVariables false

/-- A world that only grew and drew. -/
def GrowsTo (w w' : World) : Prop := ∃ q os', w' = Sort.grow (w.drewN q) os'
theorem GrowsTo.refl (w : World) : GrowsTo w w := ⟨0, #[], by simp [Sort.grow, World.drewN]⟩
theorem GrowsTo.alloc {w w' : World} (h : GrowsTo w w') (o : Obj) : GrowsTo w (w'.alloc o) := by
  obtain ⟨q, os, rfl⟩ := h
  exact ⟨q, os ++ #[o], by rw [Sort.alloc_eq_grow, Sort.grow_grow]⟩
theorem GrowsTo.drew {w w' : World} (h : GrowsTo w w') : GrowsTo w w'.drew := by
  obtain ⟨q, os, rfl⟩ := h
  exact ⟨q + 1, os, by simp [Sort.grow, World.drewN, World.drew]; omega⟩
theorem GrowsTo.drewN {w w' : World} (h : GrowsTo w w') (n : Nat) : GrowsTo w (w'.drewN n) := by
  obtain ⟨q, os, rfl⟩ := h
  exact ⟨q + n, os, by simp [Sort.grow, World.drewN]; omega⟩
theorem GrowsTo.trans {w w1 w2 : World} (h : GrowsTo w w1) (h2 : GrowsTo w1 w2) : GrowsTo w w2 := by
  obtain ⟨q, os, rfl⟩ := h
  obtain ⟨q2, os2, rfl⟩ := h2
  exact ⟨q + q2, os ++ os2, by simp [Sort.grow, World.drewN]; omega⟩
theorem GrowsTo.below {w w' : World} (h : GrowsTo w w') : Below w.heap.size w w' := by
  obtain ⟨q, os, rfl⟩ := h
  refine ⟨rfl, rfl, rfl, by simp [Sort.grow, World.drewN], fun k hk => ?_⟩
  show (w.heap ++ os)[k]? = _
  rw [Array.getElem?_append_left hk]
/-- Texts in order. -/
def cmpB (x y : ByteArray) : Int := if Op.bytesLess x.toList y.toList = true then -1 else if x.toList = y.toList then 0 else 1
theorem less_lt : ∀ (x y : List UInt8), Op.bytesLess x y = decide (x < y)
  | [], [] => by simp [Op.bytesLess]
  | _ :: _, [] => by simp [Op.bytesLess]
  | [], _ :: _ => by simp [Op.bytesLess]
  | a :: x, b :: y => by
    rw [Op.bytesLess, less_lt x y]
    simp only [List.cons_lt_cons_iff]
    by_cases h1 : a < b <;> by_cases h2 : a = b <;> by_cases h3 : x < y <;> simp [h1, h2, h3]
theorem tri_bytes (x y : List UInt8) : (x < y ∧ x ≠ y ∧ ¬ y < x) ∨ (x = y ∧ ¬ x < y ∧ ¬ y < x) ∨ (y < x ∧ x ≠ y ∧ ¬ x < y) := by
  have hi := fun l : List UInt8 => List.lt_irrefl l
  by_cases h1 : x < y
  · exact .inl ⟨h1, fun e => hi x (by rw [← e] at h1; exact h1), fun h2 => hi x (List.lt_trans h1 h2)⟩
  · by_cases h2 : y < x
    · exact .inr (.inr ⟨h2, fun e => hi x (by rw [← e] at h2; exact h2), h1⟩)
    · exact .inr (.inl ⟨List.le_antisymm h2 h1, h1, h2⟩)
theorem cmpB_cases (x y : ByteArray) : (x.toList < y.toList ∧ x ≠ y ∧ cmpB x y = -1) ∨ (x = y ∧ cmpB x y = 0) ∨ (y.toList < x.toList ∧ x ≠ y ∧ cmpB x y = 1) := by
  unfold cmpB
  rw [less_lt]
  rcases tri_bytes x.toList y.toList with ⟨h1, h2, h3⟩ | ⟨h1, h2, h3⟩ | ⟨h1, h2, h3⟩
  · exact .inl ⟨h1, fun e => h2 (by rw [e]), by rw [if_pos (by simpa using h1)]⟩
  · exact .inr (.inl ⟨toList_inj' h1, by rw [if_neg (by simpa using h2), if_pos h1]⟩)
  · exact .inr (.inr ⟨h1, fun e => h2 (by rw [e]), by rw [if_neg (by simpa using h3), if_neg h2]⟩)
theorem cmp3_lex (a b c x y z : Int) : (cmp3 a b c x y z < 0 ↔ a < x ∨ a = x ∧ (b < y ∨ b = y ∧ c < z)) ∧ (0 < cmp3 a b c x y z ↔ x < a ∨ a = x ∧ (y < b ∨ b = y ∧ z < c)) := by
  unfold cmp3
  rcases compareInt_cases a x with ⟨h, e⟩ | ⟨h, e⟩ | ⟨h, e⟩
  · rw [e, if_pos (by decide)]; omega
  · rw [e, if_neg (by decide)]
    rcases compareInt_cases b y with ⟨h2, e⟩ | ⟨h2, e⟩ | ⟨h2, e⟩
    · rw [e, if_pos (by decide)]; omega
    · rw [e, if_neg (by decide)]
      rcases compareInt_cases c z with ⟨h3, e⟩ | ⟨h3, e⟩ | ⟨h3, e⟩ <;> rw [e] <;> omega
    · rw [e, if_pos (by decide)]; omega
  · rw [e, if_pos (by decide)]; omega
/-- How New compares items. -/
def cfI (x y : ItemM) : Int := if cmpB x.1 y.1 ≠ 0 then cmpB x.1 y.1 else cmp3 y.2.1 y.2.2.1 y.2.2.2 x.2.1 x.2.2.1 x.2.2.2
theorem cfI_lt (x y : ItemM) : cfI x y < 0 ↔ itemLt x y := by
  unfold cfI itemLt
  rcases cmpB_cases x.1 y.1 with ⟨h1, h2, e⟩ | ⟨h2, e⟩ | ⟨h1, h2, e⟩
  · rw [e, if_pos (by decide)]; exact ⟨fun _ => .inl h1, fun _ => by decide⟩
  · rw [e, if_neg (by decide)]
    exact ⟨fun h => .inr ⟨h2, h⟩, fun h => h.elim (fun q => absurd q (by rw [h2]; exact List.lt_irrefl _)) (fun q => q.2)⟩
  · rw [e, if_pos (by decide)]
    exact ⟨fun h => by omega, fun h => h.elim (fun q => absurd (List.lt_trans h1 q) (List.lt_irrefl _)) (fun q => absurd q.1 h2)⟩
theorem itemLt_irrefl (x : ItemM) : ¬ itemLt x x := by
  rintro (h | ⟨_, h⟩)
  · exact List.lt_irrefl _ h
  · rw [(cmp3_lex _ _ _ _ _ _).1] at h; omega
theorem itemLt_trans {x y z : ItemM} (h1 : itemLt x y) (h2 : itemLt y z) : itemLt x z := by
  rcases h1 with h1 | ⟨e1, h1⟩ <;> rcases h2 with h2 | ⟨e2, h2⟩
  · exact .inl (List.lt_trans h1 h2)
  · exact .inl (by rw [← e2]; exact h1)
  · exact .inl (by rw [e1]; exact h2)
  · refine .inr ⟨e1.trans e2, ?_⟩
    rw [(cmp3_lex _ _ _ _ _ _).1] at *
    omega
theorem itemLt_tri (x y : ItemM) : itemLt x y ∨ x = y ∨ itemLt y x := by
  rcases cmpB_cases x.1 y.1 with ⟨h1, h2, e⟩ | ⟨h2, e⟩ | ⟨h1, h2, e⟩
  · exact .inl (.inl h1)
  · by_cases ha : cmp3 y.2.1 y.2.2.1 y.2.2.2 x.2.1 x.2.2.1 x.2.2.2 < 0
    · exact .inl (.inr ⟨h2, ha⟩)
    · by_cases hb : cmp3 x.2.1 x.2.2.1 x.2.2.2 y.2.1 y.2.2.1 y.2.2.2 < 0
      · exact .inr (.inr (.inr ⟨h2.symm, hb⟩))
      · refine .inr (.inl ?_)
        rw [(cmp3_lex _ _ _ _ _ _).1] at ha hb
        obtain ⟨n, a, b, c⟩ := x
        obtain ⟨n', a', b', c'⟩ := y
        simp only at h2 ha hb
        subst h2
        have e1 : a = a' := by omega
        subst e1
        have e2 : b = b' := by omega
        subst e2
        have e3 : c = c' := by omega
        subst e3
        rfl
  · exact .inr (.inr (.inl h1))
theorem ltI (x y : ItemM) : (ltOf cfI x y = true ↔ itemLt x y) := by
  unfold ltOf
  rw [decide_eq_true_iff, cfI_lt]
theorem ltI_no (x y : ItemM) : (ltOf cfI x y = false ↔ ¬ itemLt x y) := by rw [← ltI, Bool.eq_false_iff]
theorem swoI : Sort.SWO (ltOf cfI) where
  irrefl x := (ltI_no x x).2 (itemLt_irrefl x)
  trans x y z h1 h2 := (ltI x z).2 (itemLt_trans ((ltI x y).1 h1) ((ltI y z).1 h2))
  ntrans x y z h1 h2 := by
    rw [ltI_no] at *
    intro h
    rcases itemLt_tri x y with q | q | q
    · exact h1 q
    · subst q; exact h2 h
    · rcases itemLt_tri y z with q2 | q2 | q2
      · exact h2 q2
      · subst q2; exact itemLt_irrefl x (itemLt_trans h q)
      · exact itemLt_irrefl x (itemLt_trans h (itemLt_trans q2 q))
theorem isNaNS_any (x : ByteArray) (w : World) : Calls Tryz.prog 108 #[.string x] w fun e w' => e = .returned (.bool false) ∧ w' = w := by
  go_enter Tryz.func108, Tryz.ntmps108
  go_wp2
  go_ret
  exact ⟨by simp, rfl⟩
set_option maxRecDepth 10000 in
set_option maxHeartbeats 1000000 in
theorem cmpS_any (x y : ByteArray) (w : World) : Calls Tryz.prog 84 #[.string x, .string y] w fun e w' => e = .returned (.int .i64 (cmpB x y)) ∧ w' = w := by
  have hx := isNaNS_any x w
  have hy := isNaNS_any y w
  rcases cmpB_cases x y with ⟨h1, h2, e⟩ | ⟨h2, e⟩ | ⟨h1, h2, e⟩
  · have t1 : Op.bytesLess x.toList y.toList = true := by rw [less_lt]; simpa using h1
    rw [e]
    have H1 := Lib.hid h1; have H2 := Lib.hid h2
    clear e h1 h2
    go_enter Tryz.func84, Tryz.ntmps84
    go_wp2_with (first | (go_at_call 108; refine hx.mono ?_; rintro e w' ⟨rfl, rfl⟩) | (go_at_call 108; refine hy.mono ?_; rintro e w' ⟨rfl, rfl⟩))
    go_ret
    exact ⟨rfl, rfl⟩
  · subst h2
    have t1 : Op.bytesLess x.toList x.toList = false := by rw [less_lt]; rw [decide_eq_false_iff_not]; exact List.lt_irrefl x.toList
    rw [e]
    clear e
    go_enter Tryz.func84, Tryz.ntmps84
    go_wp2_with (go_at_call 108; refine hx.mono ?_; rintro e w' ⟨rfl, rfl⟩)
    go_ret
    exact ⟨rfl, rfl⟩
  · have t1 : Op.bytesLess x.toList y.toList = false := by
      rw [less_lt]
      have : ¬ x.toList < y.toList := fun q => List.lt_irrefl _ (List.lt_trans h1 q)
      simpa using this
    have t2 : (x.toList == y.toList) = false := by rw [beq_eq_false_iff_ne]; exact fun q => h2 (toList_inj' q)
    rw [e]
    have H1 := Lib.hid h1; have H2 := Lib.hid h2
    clear e h1 h2
    go_enter Tryz.func84, Tryz.ntmps84
    go_wp2_with (first | (go_at_call 108; refine hx.mono ?_; rintro e w' ⟨rfl, rfl⟩) | (go_at_call 108; refine hy.mono ?_; rintro e w' ⟨rfl, rfl⟩))
    go_ret
    exact ⟨rfl, rfl⟩

set_option maxRecDepth 100000 in
set_option maxHeartbeats 4000000 in
theorem cmpOr_any (q : Nat) (a b : Int) (W : World) (h : W.heap[q]? = some (.cells #[.int .i64 a, .int .i64 b] 3 (0, 0))) :
    Calls Tryz.prog 83 #[.slice (some ⟨q, 0, none⟩) 2 2] W fun e w' => e = .returned (.int .i64 (if a ≠ 0 then a else b)) ∧ W = w' := by
  obtain ⟨c0, c1, _, _⟩ := cellsC h
  have H := Lib.hid h
  clear h
  by_cases ha : a = 0
  · subst ha
    rw [if_neg (by simp)]
    by_cases hb : b = 0
    · subst hb
      go_enter Tryz.func83, Tryz.ntmps83
      go_wp2_with fail
      go_loopg [8] 2 (fun gk i wr => ∃ k : Nat, k ≤ 2 ∧ gk = 2 - k ∧ i = .int .i64 k ∧ W = wr)
      case atStart => exact ⟨0, by omega, rfl, rfl, rfl⟩
      case round =>
        obtain ⟨k, hk, rfl, rfl, rfl⟩ := hrel
        obtain rfl | rfl | rfl : k = 0 ∨ k = 1 ∨ k = 2 := by omega
        · go_wp2_with fail
          go_roundg 1
          case measure => omega
          case rel => exact ⟨1, by omega, rfl, rfl, rfl⟩
        · go_wp2_with fail
          go_roundg 0
          case measure => omega
          case rel => exact ⟨2, by omega, rfl, rfl, rfl⟩
        · go_wp2_with fail
          go_ret
          exact ⟨rfl, rfl⟩
    · have tb : (b != 0) = true := by rw [bne_iff_ne]; exact hb
      clear hb
      go_enter Tryz.func83, Tryz.ntmps83
      go_wp2_with fail
      go_loopg [8] 2 (fun gk i wr => ∃ k : Nat, k ≤ 1 ∧ gk = 2 - k ∧ i = .int .i64 k ∧ W = wr)
      case atStart => exact ⟨0, by omega, rfl, rfl, rfl⟩
      case round =>
        obtain ⟨k, hk, rfl, rfl, rfl⟩ := hrel
        obtain rfl | rfl : k = 0 ∨ k = 1 := by omega
        · go_wp2_with fail
          go_roundg 1
          case measure => omega
          case rel => exact ⟨1, by omega, rfl, rfl, rfl⟩
        · go_wp2_with fail
          go_ret
          exact ⟨rfl, rfl⟩
  · rw [if_pos ha]
    have ta : (a != 0) = true := by rw [bne_iff_ne]; exact ha
    clear ha
    go_enter Tryz.func83, Tryz.ntmps83
    go_wp2_with fail
    go_loopg [8] 2 (fun gk i wr => gk = 2 ∧ i = .int .i64 0 ∧ W = wr)
    case atStart => exact ⟨rfl, rfl, rfl⟩
    case round =>
      obtain ⟨rfl, rfl, rfl⟩ := hrel
      go_wp2_with fail
      go_ret
      exact ⟨rfl, rfl⟩
set_option maxRecDepth 100000 in
set_option maxHeartbeats 4000000 in
theorem cmpG_any (a b c x y z : Int) (w : World) : Calls Tryz.prog 25 #[.agg #[.int .i64 a, .int .i64 b, .int .i64 c], .agg #[.int .i64 x, .int .i64 y, .int .i64 z]] w fun e w' => e = .returned (.int .i64 (cmp3 a b c x y z)) ∧ GrowsTo w w' := by
  obtain ⟨W, hW⟩ : ∃ W, W = ((w.alloc (.cells #[.int .i64 a, .int .i64 b, .int .i64 c] 46)).alloc (.cells #[.int .i64 x, .int .i64 y, .int .i64 z] 46)) := ⟨_, rfl⟩
  have hb : GrowsTo w W := by rw [hW]; exact ((GrowsTo.refl w).alloc _).alloc _
  have h1 : W.heap[w.heap.size]? = some (.cells #[.int .i64 a, .int .i64 b, .int .i64 c] 46 (0, 0)) := by rw [hW]; exact heap_up (heap_at rfl)
  have h2 : W.heap[w.heap.size + 1]? = some (.cells #[.int .i64 x, .int .i64 y, .int .i64 z] 46 (0, 0)) := by rw [hW]; exact heap_at (by simp)
  have HC := Lib.hid (compare3_any w.heap.size (w.heap.size + 1) a b c x y z _ _ W.drew h1 h2)
  have Hb := Lib.hid hb.drew
  clear hb h1 h2
  generalize cmp3 a b c x y z = R at HC ⊢
  go_enter Tryz.func25, Tryz.ntmps25
  go_upto_region 1 with fail
  rw [← hW]
  clear hW
  go_region_held3 (fun w' => True) (trivial)
    ((go_at_call 57; (with_reducible refine (HC.out).mono ?_); rintro e w5 ⟨rfl, rfl⟩))
  go_wp2_with fail
  go_ret
  exact ⟨rfl, Hb.out⟩
theorem GrowsTo.cell {w w' : World} (h : GrowsTo w w') {g : Nat} {o : Obj} (hb : w.heap[g]? = some o) : w'.heap[g]? = some o := (h.below.block g (lt_of_block hb)).trans hb
set_option maxRecDepth 100000 in
set_option maxHeartbeats 8000000 in
theorem new1_any (x y : ItemM) (w : World) : Calls Tryz.prog 82 #[.agg (encItem x).toArray, .agg (encItem y).toArray] w fun e w' => e = .returned (.int .i64 (cfI x y)) ∧ GrowsTo w w' := by
  obtain ⟨nx, a, b, c⟩ := x
  obtain ⟨ny, p, q, r⟩ := y
  obtain ⟨W, hW⟩ : ∃ W, W = ((w.alloc (.cells #[.string nx, .int .i64 a, .int .i64 b, .int .i64 c] 61)).alloc (.cells #[.string ny, .int .i64 p, .int .i64 q, .int .i64 r] 61)) := ⟨_, rfl⟩
  have hb : GrowsTo w W := by rw [hW]; exact ((GrowsTo.refl w).alloc _).alloc _
  have h1 : W.heap[w.heap.size]? = some (.cells #[.string nx, .int .i64 a, .int .i64 b, .int .i64 c] 61 (0, 0)) := by rw [hW]; exact heap_up (heap_at rfl)
  have h2 : W.heap[w.heap.size + 1]? = some (.cells #[.string ny, .int .i64 p, .int .i64 q, .int .i64 r] 61 (0, 0)) := by rw [hW]; exact heap_at (by simp)
  have HK := Lib.hid (show ∀ w', GrowsTo W w' → (w'.cell? ⟨w.heap.size, 0, none⟩ = some (.string nx) ∧ w'.cell? ⟨w.heap.size, 1, none⟩ = some (.int .i64 a) ∧ w'.cell? ⟨w.heap.size, 2, none⟩ = some (.int .i64 b) ∧ w'.cell? ⟨w.heap.size, 3, none⟩ = some (.int .i64 c)) ∧ (w'.cell? ⟨w.heap.size + 1, 0, none⟩ = some (.string ny) ∧ w'.cell? ⟨w.heap.size + 1, 1, none⟩ = some (.int .i64 p) ∧ w'.cell? ⟨w.heap.size + 1, 2, none⟩ = some (.int .i64 q) ∧ w'.cell? ⟨w.heap.size + 1, 3, none⟩ = some (.int .i64 r)) from fun w' hw => ⟨cells4 (hw.cell h1), cells4 (hw.cell h2)⟩)
  have HW := Lib.hid (GrowsTo.refl W).drew
  have Hb := Lib.hid hb
  have KS := HK.out _ HW.out
  have HS := Lib.hid (cmpS_any nx ny W.drew)
  have hcf : cfI (nx, a, b, c) (ny, p, q, r) = if cmpB nx ny ≠ 0 then cmpB nx ny else cmp3 p q r a b c := rfl
  rw [hcf]
  generalize cmpB nx ny = A at HS ⊢
  generalize hB : cmp3 p q r a b c = B
  have HC := Lib.hid (fun w' => hB ▸ cmpG_any p q r a b c w')
  clear hb h1 h2 hcf hB
  obtain ⟨R, hR⟩ : ∃ R, R = if A ≠ 0 then A else B := ⟨_, rfl⟩
  rw [← hR]
  have HR := Lib.hid hR
  clear hR
  simp only [encItem]
  go_enter Tryz.func82, Tryz.ntmps82
  go_upto_region 1 with fail
  rw [← hW]
  clear hW
  go_region_held3 (fun w' => (w'.cell? ⟨w.heap.size, 0, none⟩ = some (.string nx) ∧ w'.cell? ⟨w.heap.size, 1, none⟩ = some (.int .i64 a) ∧ w'.cell? ⟨w.heap.size, 2, none⟩ = some (.int .i64 b) ∧ w'.cell? ⟨w.heap.size, 3, none⟩ = some (.int .i64 c)) ∧ (w'.cell? ⟨w.heap.size + 1, 0, none⟩ = some (.string ny) ∧ w'.cell? ⟨w.heap.size + 1, 1, none⟩ = some (.int .i64 p) ∧ w'.cell? ⟨w.heap.size + 1, 2, none⟩ = some (.int .i64 q) ∧ w'.cell? ⟨w.heap.size + 1, 3, none⟩ = some (.int .i64 r)))
    (first | exact KS | exact HK.out _ (HW.out.alloc _))
    (first
      | (go_at_call 84; (with_reducible refine (HS.out).mono ?_); rintro e w5 ⟨rfl, rfl⟩)
      | (go_at_call 25; (with_reducible refine (HC.out _).mono ?_); rintro e w6 ⟨rfl, hg⟩; have HW := Lib.hid (HW.out.trans hg); have KS := HK.out _ HW.out; have HO := Lib.hid (cmpOr_any w6.heap.size A B (w6.alloc (.cells #[.int .i64 A, .int .i64 B] 3)) (heap_at rfl)); rw [← HR.out] at HO; clear hg)
      | (go_at_call 83; (with_reducible refine (HO.out).mono ?_); rintro e w7 ⟨rfl, rfl⟩))
  go_wp2_with fail
  go_ret
  exact ⟨rfl, Hb.out.trans (HW.out.alloc _)⟩
end Go.Proofs.YtheemhelioendaaGreatDoor
namespace Go.Proofs.YtheemhelioendaaGreatDoor
open Go.RowKit
set_option linter.unusedVariables false

theorem isAggI : ∀ w, (isAgg 61).run Tryz.prog w = .ok true w := fun w => by kernel_rfl
theorem sizeOfI : ∀ w, (Go.sizeOf 61).run Tryz.prog w = .ok 4 w := fun w => by kernel_rfl
theorem cmpLaysI (blk off size : Nat) (w : World) : CmpLays Tryz.prog 82 #[] encItem 4 cfI blk off size w := fun _ _ _ _ x y => new1_any x y _
theorem flatI_get (items : List ItemM) (j : Nat) (h : j < items.length * 4) : (encItem items.toArray[j / 4]!)[j % 4]? = (flatG encItem items)[j]? := by
  have hk : j / 4 < items.length := by omega
  have := flatG_get encItem_len items (j / 4) (j % 4) hk (by omega)
  rw [show j / 4 * 4 + j % 4 = j by omega] at this
  rw [this, getElem!_pos _ _ (by simpa using hk)]
  simp
theorem holdsI {w : World} {base g n c : Nat} {items : List ItemM} (h : IsItems w base (.slice (some ⟨g, 0, none⟩) n c) items) : Sort.HoldsK encItem 4 w g 0 items.toArray := by
  intro j hj
  rw [Sort.size_flatK, List.size_toArray] at hj
  rw [Sort.get_flatK _ _ _ _ (by rw [List.size_toArray]; exact hj)]
  have e := flatI_get items j hj
  have hlen : j % 4 < (encItem items.toArray[j / 4]!).length := by rw [encItem_len]; omega
  refine ⟨?_, RowG.free h _⟩
  have hu : (flatG encItem items)[j]? = some ((encItem items.toArray[j / 4]!)[j % 4]!) := by
    rw [← e, List.getElem?_eq_getElem hlen, getElem!_pos (encItem items.toArray[j / 4]!) (j % 4) hlen]
  have := RowG.news h j _ hu
  rwa [show (⟨g, 0, none⟩ : Addr).add j = ⟨g, 0 + j, none⟩ from by simp [Addr.add]; exact fun h => h.symm] at this
theorem block_sort {w : World} {g q : Nat} {cur : Array Value} {T : TypeId} (h : w.heap[g]? = some (.cells cur T (0, 0))) (d : Array ItemM) (os : Array Obj) :
    ∃ cur', (sortWorldK encItem 4 w g 0 q d os).heap[g]? = some (.cells cur' T (0, 0)) ∧ cur'.size = cur.size := by
  have hlt := (Array.getElem?_eq_some_iff.1 h).1
  have h' : w.heap[g] = .cells cur T (0, 0) := (Array.getElem?_eq_some_iff.1 h).2
  refine ⟨Sort.putCells id 0 (Sort.flatK encItem 4 d) cur, ?_, by simp [Sort.putCells]⟩
  show ((w.heap.modify g _) ++ os)[g]? = _
  rw [Array.getElem?_append_left (by simpa using hlt), Array.getElem?_eq_getElem (by simpa using hlt), Array.getElem_modify_self, h']
  rfl
set_option maxHeartbeats 1000000 in
theorem sortI_any (base g cap : Nat) (items : List ItemM) (w : World) (h : IsItems w base (.slice (some ⟨g, 0, none⟩) items.length cap) items) (hn : items.length ≤ 1000000) :
    Calls Tryz.prog 81 #[.slice (some ⟨g, 0, none⟩) items.length cap, .func (.func 82) #[] #[]] w fun e w' =>
      ∃ its, e = .returned (.tuple #[]) ∧ IsItems w' base (.slice (some ⟨g, 0, none⟩) items.length cap) its ∧ its.Perm items ∧ its.Pairwise (fun a b => ¬ itemLt b a) ∧ Only1 g w w' := by
  have eg : ∀ args w, (callFunc 82 args).run Tryz.prog w = .ok (.enter 82 args) w := enters_of Tryz.func82 (by kernel_rfl) rfl
  obtain ⟨hl0, ⟨h1, _⟩ | ⟨g', cap', cur, e, hbase, hblk, hcap, hmax, hsz, htk⟩⟩ := id h
  · cases h1
  cases e
  have hlt := lt_of_block hblk
  have hc := AnyQ.slices_SortFunc Tryz.sortQ 4 isAggI sizeOfI encItem encItem_len (fun x => encItem_one x) cfI swoI 82 #[] g 0 cap items.toArray w eg (cmpLaysI g 0 _ w) (holdsI h) hlt (by rw [List.size_toArray]; omega)
  rw [List.size_toArray] at hc
  refine Calls.mono hc ?_
  rintro e w' ⟨rfl, d', q, os, hp, hs, rfl⟩
  have hd : d'.size = items.length := hp.1.trans List.size_toArray
  have hh := holdsK_sortWorldK encItem 4 w g 0 q items.toArray d' os hlt (holdsI h) (by rw [hd, List.size_toArray])
  have hperm := hp.2.2
  rw [Array.extract_eq_self_of_le (by omega), Array.extract_eq_self_of_le (by rw [List.size_toArray]; omega)] at hperm
  obtain ⟨cur', hb', hs'⟩ := block_sort (q := q) hblk d' os
  refine ⟨d'.toList, rfl, ?_, ?_, ?_, ?_⟩
  · have hlen : d'.toList.length = items.length := by rw [Array.length_toList]; exact hd
    refine ⟨by rw [flatG_len encItem_len], .inr ⟨g, cap, cur', by rw [hlen], hbase, hb', by omega, hmax, by rw [hs']; exact hsz, ?_⟩⟩
    apply List.ext_getElem?
    intro j
    by_cases hj : j < d'.toList.length * 4
    · rw [List.getElem?_take_of_lt hj, Array.getElem?_toList]
      have h3 := (hh j (by rw [Sort.size_flatK, hd]; omega)).1
      rw [Nat.zero_add, cell_of_row _ _ _ _ _ _ hb', Sort.get_flatK _ _ _ _ (by rw [hd]; omega)] at h3
      have e3 := flatI_get d'.toList j hj
      rw [Array.toArray_toList] at e3
      have hl3 : j % 4 < (encItem d'[j / 4]!).length := by rw [encItem_len]; omega
      rw [h3, ← e3, List.getElem?_eq_getElem hl3, getElem!_pos (encItem d'[j / 4]!) (j % 4) hl3]
      rfl
    · have hs4 : cur'.size = cap * 4 := by rw [hs']; exact hsz
      rw [List.getElem?_eq_none (by rw [List.length_take]; omega), List.getElem?_eq_none (by rw [flatG_len encItem_len]; omega)]
  · simpa using hperm
  · rw [List.pairwise_iff_getElem]
    intro i j h1 h2 h3
    have := hs i j (Nat.zero_le _) h3 (by rw [← hd]; simpa using h2)
    rw [ltI_no] at this
    rw [Array.length_toList] at h1 h2
    rw [getElem!_pos d' i h1, getElem!_pos d' j h2] at this
    simpa using this
  · exact ⟨rfl, rfl, rfl, by simp [sortWorldK, Sort.grow, Sort.putRowK, Sort.putRow, Sort.mapBlock, Sort.ahead], fun k hk hne => by
      show ((w.heap.modify g _) ++ os)[k]? = _
      rw [Array.getElem?_append_left (by simpa using hk), Array.getElem?_modify, if_neg (fun e => hne e.symm)]⟩
set_option maxRecDepth 100000 in
set_option maxHeartbeats 4000000 in
theorem sortNilI_any (cf : Value) (w : World) : Calls Tryz.prog 81 #[.slice none 0 0, cf] w fun e w' => e = .returned (.tuple #[]) ∧ w' = w := by
  have hl : ∀ W, Calls Tryz.prog 107 #[.int .u64 0] W fun e w' => e = .returned (.int .i64 (Lib.bitLen 0 : Nat)) ∧ w' = W := fun W => Any.bits_Len Tryz.lays125 0 W (by omega) (by omega)
  have hi : ∀ w : World, Calls Tryz.prog 123 #[.slice none 0 0, .int .i64 0, .int .i64 0, cf] w fun e w' => e = .returned (.tuple #[]) ∧ w' = w := fun w => by
    go_enter Tryz.func123, Tryz.ntmps123
    go_wp2_with fail
    go_loopg [8] 0 (fun gk i wr => i = .int .i64 1 ∧ w = wr)
    case atStart => exact ⟨rfl, rfl⟩
    case round =>
      obtain ⟨rfl, rfl⟩ := hrel
      go_wp2_with fail
      go_end0
      exact ⟨rfl, rfl⟩
  have hp : ∀ (lim : Int) (w : World), Calls Tryz.prog 106 #[.slice none 0 0, .int .i64 0, .int .i64 0, .int .i64 lim, cf] w fun e w' => e = .returned (.tuple #[]) ∧ w' = w := fun lim w => by
    have Hi := Lib.hid hi
    clear hi hl
    go_enter Tryz.func106, Tryz.ntmps106
    go_wp2_with fail
    go_loopg [1, 2, 3] 0 (fun gk a b l wr => a = .int .i64 0 ∧ b = .int .i64 0 ∧ l = .int .i64 lim ∧ w = wr)
    case atStart => exact ⟨rfl, rfl, rfl, rfl⟩
    case round =>
      obtain ⟨rfl, rfl, rfl, rfl⟩ := hrel
      go_wp2_with fail
      refine (Hi.out _).mono ?_
      rintro e w1 ⟨rfl, rfl⟩
      go_wp2_with fail
      refine bodyPost_ret (results_none rfl _ _ _) rfl ⟨rfl, rfl⟩
  have Hl := Lib.hid hl; have Hp := Lib.hid hp
  clear hl hp hi
  go_enter Tryz.func81, Tryz.ntmps81
  go_wp2_with fail
  refine (Hl.out _).mono ?_
  rintro e w1 ⟨rfl, rfl⟩
  go_wp2_with fail
  refine (Hp.out _ _).mono ?_
  rintro e w1 ⟨rfl, rfl⟩
  go_wp2_with fail
  go_end0
  exact ⟨rfl, rfl⟩
theorem sortI_all (base : Nat) (ai : Option Addr) (ci : Nat) (items : List ItemM) (w : World) (h : IsItems w base (.slice ai items.length ci) items) (hn : items.length ≤ 1000000) :
    Calls Tryz.prog 81 #[.slice ai items.length ci, .func (.func 82) #[] #[]] w fun e w' =>
      ∃ its, e = .returned (.tuple #[]) ∧ IsItems w' base (.slice ai items.length ci) its ∧ its.Perm items ∧ its.Pairwise (fun a b => ¬ itemLt b a) ∧ Below base w w' := by
  obtain ⟨hl0, ⟨h1, h2⟩ | ⟨g, cap, cur, e, hbase, hblk, hcap, hmax, hsz, htk⟩⟩ := id h
  · have e0 : items = [] := List.eq_nil_of_length_eq_zero h2
    subst e0
    cases h1
    refine (sortNilI_any (.func (.func 82) #[] #[]) w).mono ?_
    rintro e w' ⟨rfl, rfl⟩
    exact ⟨[], rfl, h, List.Perm.refl _, List.Pairwise.nil, Below.refl _ _⟩
  · cases e
    refine (sortI_any base g ci items w h hn).mono ?_
    rintro e w' ⟨its, rfl, h1, h2, h3, h4⟩
    exact ⟨its, rfl, h1, h2, h3, h4.below hbase (Nat.le_of_lt (Nat.lt_of_le_of_lt hbase (lt_of_block hblk)))⟩
end Go.Proofs.YtheemhelioendaaGreatDoor
namespace Go.Proofs.YtheemhelioendaaGreatDoor
open Go.RowKit
set_option linter.unusedVariables false

theorem under_mapSB : Tryz.prog.underlying 152 = some (.map 9 4) := Tryz.underlying152
theorem under_strK : Tryz.prog.underlying 9 = some .string := Tryz.underlying9
theorem setCell1 {w : World} {p : Nat} {a b : Value} {T : TypeId} (h : w.heap[p]? = some (.cells #[a, b] T (0, 0))) (u : Value) : (w.setCell ⟨p, 1, none⟩ u).heap[p]? = some (.cells #[a, u] T (0, 0)) := heap_set h 1 u
theorem setCell0 {w : World} {p : Nat} {a b : Value} {T : TypeId} (h : w.heap[p]? = some (.cells #[a, b] T (0, 0))) (u : Value) : (w.setCell ⟨p, 0, none⟩ u).heap[p]? = some (.cells #[u, b] T (0, 0)) := heap_set h 0 u
set_option maxHeartbeats 1000000 in
/-- An append of one item; the new row written out. -/
theorem wpList_append_i {W : World} {ops : Array Oper} {rest : List Oper} {o : Oper} {a : Act} {Q : Exit → Act → World → Prop} (hgd : o.guard = none) (s x : Operand)
    (ho : o.op = .call { callee := .builtin .append, args := #[s, x], argTypes := #[58, 58] })
    (base : Nat) (v : Value) (xs : List ItemM) (hs : a.eval s = v) (hr : IsItems W base v xs) (y : ItemM)
    (q : Nat) (hq : q = W.heap.size) (hx : a.eval x = .slice (some ⟨q, 0, none⟩) 1 1) (hn : xs.length + 1 ≤ 1000000) (hbase : base ≤ W.heap.size)
    (h : ∀ g c w', IsItems w' base (.slice (some ⟨g, 0, none⟩) (xs.length + 1) c) (xs ++ [y]) → Below base W w' → (∀ k, k < W.heap.size → v.ownBlock ≠ some k → w'.heap[k]? = W.heap[k]?) → base ≤ g → wpList Tryz.prog ops Q rest (a.put o.dst (.slice (some ⟨g, 0, none⟩) (xs.length + 1) c)) w') : wpList Tryz.prog ops Q (o :: rest) a (W.alloc (.cells #[.string y.1, .int .i64 y.2.1, .int .i64 y.2.2.1, .int .i64 y.2.2.2] 61)) := by
  obtain ⟨i0, hi0, hz0, hz1, hz2⟩ := info_parts infoItem
  refine wpList_append_g hgd s x 61 58 4 40 encItem encItem_len encItem_one ho i0 _ under_items hi0 hz0 hz1 hz2 rfl (by decide) (by decide) base v xs hs hr y _ rfl q hq hx hn hbase (fun v' w' h1 h2 h3 => ?_)
  obtain ⟨hl0, ⟨e, e2⟩ | ⟨g, cap, cur, e, hb, _⟩⟩ := id h1
  · simp at e2
  · subst e
    rw [List.length_append] at h1 ⊢
    exact h g cap w' h1 h2 h3 hb
set_option maxRecDepth 100000 in
set_option maxHeartbeats 32000000 in
theorem new_any (base : Nat) (vl : Value) (ls : List LineM) (w : World) (h : IsLines w base vl ls) : Calls Tryz.prog 48 #[vl] w (NewP ls w) := by
  obtain ⟨al, cl, rfl, hl1, hl2⟩ := h.row.shape
  have hlen : ls.length ≤ 9223372036854775807 := Nat.le_trans hl1 hl2
  by_cases hf : ls.length ≤ 100
  · have d1 : decide (100 < (ls.length : Int)) = false := by simp; omega
    have HL := Lib.hid h; have Hf := Lib.hid hf
    clear h hf
    obtain ⟨wA, hwA⟩ : ∃ wA, wA = (w.alloc (.cells #[.slice none 0 0, .slice none 0 0] 83)).alloc (.map #[] 0) := ⟨_, rfl⟩
    have hI0 : NewI w wA (.slice none 0 0) [] ls 0 := by
      rw [hwA]
      refine ⟨((Below.refl _ _).alloc (Nat.le_refl _) _).alloc (by simp) _, heap_up (heap_at rfl), IsItems.nil _ _, ?_, fun n => by simp, by simp, fun x hx => by simp at hx, by simp [itemsOf], by simp [itemsOf], by simp⟩
      have := mapOf_new (w.alloc (.cells #[.slice none 0 0, .slice none 0 0] 83)) Value.string
      rwa [alloc_size] at this
    have HI0 := Lib.hid hI0
    clear hI0
    have hmm := @run_makeMap Tryz.prog
    go_enter Tryz.func48, Tryz.ntmps48
    go_wp2_with fail
    rw [← hwA]
    clear hwA
    go_loopg [20] ls.length (fun gk i wr => ∃ (k : Nat) (vi : Value) (m : List (ByteArray × Value)), k ≤ ls.length ∧ gk = ls.length - k ∧ i = .int .i64 k ∧ NewI w wr vi m ls k)
    case atStart => exact ⟨0, _, [], Nat.zero_le _, rfl, rfl, HI0.out⟩
    case round =>
      obtain ⟨k, vi, m, hk, rfl, rfl, hI⟩ := hrel
      obtain ⟨wo, rfl⟩ : ∃ y, y = wr := ⟨_, rfl⟩
      by_cases hlt : k < ls.length
      · have hLo := HL.out.below hI.below
        obtain ⟨g, rfl, hg, _⟩ := hLo.row.at (by omega)
        obtain ⟨c0, c1, c2, c3, c4, c5, c6⟩ := hLo.cells hlt
        have hin := hLo.ins _ (List.getElem_mem hlt)
        have hmem := List.getElem_mem hlt
        obtain ⟨x, hx⟩ : ∃ x, x = ls[k] := ⟨_, rfl⟩
        rw [← hx] at c0 c1 c2 c3 c4 c5 c6 hin hmem
        obtain ⟨kd, nm, a, b, c, ot, rg, rv⟩ := x
        have hrg := hin.rng
        simp only at c0 c1 c2 c3 c4 c5 c6 hrg
        obtain ⟨ar, cr, rfl, _, _⟩ := hrg.shape
        obtain ⟨wB, hwB⟩ : ∃ q, q = wo.alloc (.cells #[.int .i64 kd, .string nm, .int .i64 a, .int .i64 b, .int .i64 c, .string ot, .slice ar rg.length cr] 51) := ⟨_, rfl⟩
        have hbB : Below wo.heap.size wo wB := by rw [hwB]; exact (Below.refl _ _).alloc (Nat.le_refl _) _
        have hkB : wB.heap[wo.heap.size]? = some (.cells #[.int .i64 kd, .string nm, .int .i64 a, .int .i64 b, .int .i64 c, .string ot, .slice ar rg.length cr] 51 (0, 0)) := by rw [hwB]; exact heap_at rfl
        have hszB : wB.heap.size = wo.heap.size + 1 := by rw [hwB, alloc_size]
        obtain ⟨its, hits⟩ : ∃ its, its = itemsOf (ls.take k) := ⟨_, rfl⟩
        have hIi := hI.its
        have hfewi := hI.few
        rw [← hits] at hIi hfewi
        obtain ⟨ai, ci, rfl, _, _⟩ := RowG.shape hIi
        have Hits := Lib.hid hits; have HIi := Lib.hid (show ∀ w', Below wo.heap.size wo w' → IsItems w' (w.heap.size + 2) (.slice ai its.length ci) its from fun w' hw => hIi.below hw)
        clear hits
        have HX := Lib.hid (show ∀ w', Below wB.heap.size wB w' → NewI w w' (.slice ai its.length ci) m ls k ∧ w'.heap[wo.heap.size]? = some (.cells #[.int .i64 kd, .string nm, .int .i64 a, .int .i64 b, .int .i64 c, .string ot, .slice ar rg.length cr] 51 (0, 0)) from fun w' hw => ⟨(hI.mono hbB).mono hw, (hw.block _ (lt_of_block hkB)).trans hkB⟩)
        obtain ⟨k0, k1, k2, k3, k4, k5, k6⟩ := cells7 hkB
        have hbi : ∀ q, (Value.slice ai its.length ci).ownBlock = some q → w.heap.size + 2 ≤ q ∧ q < wo.heap.size := fun q hq => RowG.lt hIi hq
        have hso := hI.size
        have HC := Lib.hid (check_any _ wB (hin.below hbB) hin.sz1 hin.sz2)
        have HIo := Lib.hid hI; have HszB := Lib.hid hszB; have Hx := Lib.hid hx; have Hmem := Lib.hid hmem; have Hbi := Lib.hid hbi; have Hso := Lib.hid hso
        clear hbB hkB hszB hI hin hrg hx hmem hbi hLo hso hIi
        obtain ⟨E, hE⟩ : ∃ E, E = checkM ⟨kd, nm, a, b, c, ot, rg, .slice ar rg.length cr⟩ := ⟨_, rfl⟩
        rw [← hE] at HC
        have HE := Lib.hid hE
        clear hE
        go_upto_region 8 with fail
        rw [← hwB]
        clear hwB
        go_wp2_with fail
        unfold encLine at HC
        refine HC.out.mono ?_
        rintro e w5 ⟨rfl, hb5⟩
        obtain ⟨hI5, hk5⟩ := HX.out _ hb5
        have hs5 := hb5.size
        clear k0 k1 k2 k3 k4 k5 k6 HC HX
        obtain ⟨k0, k1, k2, k3, k4, k5, k6⟩ := cells7 hk5
        have Hs5 := Lib.hid hs5
        have HI5 := Lib.hid hI5; have Hk5 := Lib.hid hk5
        clear hI5 hk5 hb5 hs5
        by_cases hE0 : E = 0
        · subst hE0
          by_cases hk1 : kd = 1
          · subst hk1
            have hmap := HI5.out.map
            have Hmap := Lib.hid hmap; clear hmap
            have hpm : ∀ ob, Below w.heap.size w5 (setObjW w5 (w.heap.size + 1) ob) ∧ (setObjW w5 (w.heap.size + 1) ob).heap[w.heap.size]? = some (.cells #[.slice none 0 0, .slice ai its.length ci] 83 (0, 0)) ∧ (setObjW w5 (w.heap.size + 1) ob).heap[wo.heap.size]? = some (.cells #[.int .i64 1, .string nm, .int .i64 a, .int .i64 b, .int .i64 c, .string ot, .slice ar rg.length cr] 51 (0, 0)) ∧ IsItems (setObjW w5 (w.heap.size + 1) ob) (w.heap.size + 2) (.slice ai its.length ci) its ∧ (setObjW w5 (w.heap.size + 1) ob).heap.size = w5.heap.size := fun ob => by
              have hso := Hso.out; have hsB := HszB.out; have hs5 := Hs5.out
              have hoth := fun q (h : q ≠ w.heap.size + 1) => setObjW_other (w := w5) (b := w.heap.size + 1) ob h
              have h9 := HI5.out.its
              rw [← Hits.out] at h9
              exact ⟨setObjW_below ob (by omega), (hoth w.heap.size (by omega)).trans HI5.out.box, (hoth wo.heap.size (by omega)).trans Hk5.out, RowG.keep h9 (fun q hq => hoth q (by have := Hbi.out q hq; omega)), by simp [setObjW]⟩
            have Hpm := Lib.hid hpm; clear hpm
            go_upto_block 2 with (at_mapUpdate; refine wpList_mapUpdate_of rfl (.tmp 34) (.tmp 36) (.const (.bool true)) 152 rfl (kt := 9) (et := 4) (enc := Value.string) (strKey under_strK) under_mapSB (b := w.heap.size + 1) rfl (l := m) Hmap.out (k := nm) rfl (.bool true) rfl ?_; intro ob hob; have Hob := Lib.hid hob; clear hob; obtain ⟨hsb, hbx6, hk6, hit6, hsz6⟩ := Hpm.out ob; generalize setObjW w5 (w.heap.size + 1) ob = w6 at Hob hsb hbx6 hk6 hit6 hsz6 ⊢; have Hsb := Lib.hid hsb; have Hbx6 := Lib.hid hbx6; have Hk6 := Lib.hid hk6; have Hit6 := Lib.hid hit6; have Hsz6 := Lib.hid hsz6; clear hsb hbx6 hsz6 hit6; obtain ⟨k0, k1, k2, k3, k4, k5, k6⟩ := cells7 hk6; clear hk6)
            dsimp only [Act.put]
            go_cut [8] from 37 to 56 (fun ev wx => ∃ E2 : Int, ev = .int .i64 E2 ∧ Below w6.heap.size w6 wx ∧ ((E2 = 0 ∧ (nm, a, b, c) ∉ its ∧ its.length ≠ 24 ∧ (putAssoc m nm (.bool true)).length ≤ 8) ∨ (E2 ≠ 0 ∧ ¬ NewOk ls)))
            case first =>
              have HNU := Lib.hid (number_at w.heap.size (w.heap.size + 2) _ _ its nm a b c w6 Hbx6.out Hit6.out)
              obtain ⟨NU, hNU⟩ : ∃ NU, NU = numM its (nm, a, b, c) := ⟨_, rfl⟩
              rw [← hNU] at HNU
              have hcs := numM_cases its (nm, a, b, c)
              rw [← hNU] at hcs
              have Hcs := Lib.hid hcs
              clear hNU hcs
              go_wp2_with fail
              refine HNU.out.mono ?_
              rintro e w7 ⟨rfl, hb7⟩
              have Hm7 := Lib.hid (Hob.out.block_eq (hb7.block _ Hob.out.lt))
              obtain ⟨p0, p1, p2, p3⟩ := cellsC ((hb7.block _ (lt_of_block Hbx6.out)).trans Hbx6.out)
              have Hb7 := Lib.hid hb7
              clear hb7 HNU k0 k1 k2 k3 k4 k5 k6
              rcases Hcs.out with ⟨hin, h0, h1⟩ | ⟨hout, rfl⟩
              · have hno := no_twice hlt (by rw [← Hx.out]) (by rw [← Hx.out, ← Hits.out]; exact hin)
                have Hno := Lib.hid hno; clear hno hin
                go_wp2_with fail
                go_meet
                exact ⟨9, rfl, Hb7.out, .inr ⟨by decide, Hno.out⟩⟩
              · have Hout := Lib.hid hout; clear hout
                obtain ⟨LN, hLN⟩ : ∃ LN, LN = (putAssoc m nm (Value.bool true)).length := ⟨_, rfl⟩
                have HLN := Lib.hid hLN; clear hLN
                by_cases h8 : 8 < LN
                · have t8 : decide (8 < (LN : Int)) = true := by simp; omega
                  have hno := no_names (l := (putAssoc m nm (Value.bool true)).map (·.1)) Hob.out.nodup (fun n hn => by
                    obtain ⟨x, hx, h3⟩ := (HI5.out.keys_put hlt (by rw [← Hx.out]) (.bool true) n).1 (by rw [← Hx.out]; exact hn)
                    exact ⟨x, List.mem_of_mem_take hx, h3⟩) (by rw [List.length_map, ← HLN.out]; exact h8)
                  have Hno := Lib.hid hno; clear hno
                  go_wp2_with (at_len; refine wpList_lenS rfl (.tmp 46) 152 rfl (kt := 9) (et := 4) (enc := Value.string) under_mapSB (b := w.heap.size + 1) rfl (l := putAssoc m nm (.bool true)) Hm7.out ?_; rw [← HLN.out])
                  go_meet
                  exact ⟨4, rfl, Hb7.out, .inr ⟨by decide, Hno.out⟩⟩
                · have t8 : decide (8 < (LN : Int)) = false := by simp; omega
                  have H8 := Lib.hid h8; clear h8
                  by_cases h24 : its.length = 24
                  · have t24 : ((its.length : Int) == 24) = true := by rw [beq_iff_eq]; omega
                    have hno := no_most hlt (by rw [← Hx.out]) (by rw [← Hits.out]; exact h24)
                    have Hno := Lib.hid hno; have H24 := Lib.hid h24; clear hno h24
                    go_wp2_with (at_len; refine wpList_lenS rfl (.tmp 46) 152 rfl (kt := 9) (et := 4) (enc := Value.string) under_mapSB (b := w.heap.size + 1) rfl (l := putAssoc m nm (.bool true)) Hm7.out ?_; rw [← HLN.out])
                    go_meet
                    exact ⟨4, rfl, Hb7.out, .inr ⟨by decide, Hno.out⟩⟩
                  · have t24 : ((its.length : Int) == 24) = false := by rw [beq_eq_false_iff_ne]; omega
                    have H24 := Lib.hid h24; clear h24
                    go_wp2_with (at_len; refine wpList_lenS rfl (.tmp 46) 152 rfl (kt := 9) (et := 4) (enc := Value.string) under_mapSB (b := w.heap.size + 1) rfl (l := putAssoc m nm (.bool true)) Hm7.out ?_; rw [← HLN.out])
                    go_meet
                    exact ⟨0, rfl, Hb7.out, .inl ⟨rfl, Hout.out, H24.out, by rw [← HLN.out]; have := H8.out; omega⟩⟩
            case rest =>
              obtain ⟨E2, rfl, hb7, hE2⟩ := hcut
              obtain ⟨w7, rfl⟩ : ∃ y, y = wc := ⟨_, rfl⟩
              have Hbx7 := Lib.hid ((hb7.block _ (lt_of_block Hbx6.out)).trans Hbx6.out); have Hk7 := Lib.hid ((hb7.block _ (lt_of_block Hk6.out)).trans Hk6.out); have Hit7 := Lib.hid (IsItems.below Hit6.out hb7); have Hm7 := Lib.hid (Hob.out.block_eq (hb7.block _ Hob.out.lt))
              have h7s := hb7.size
              have HB7 := Lib.hid (HI5.out.below.trans (Hsb.out.trans (hb7.mono (by have := HI5.out.size; have := Hsz6.out; omega))))
              have H7s := Lib.hid (show wo.heap.size + 1 ≤ w7.heap.size by have := Hs5.out; have := HszB.out; have := Hsz6.out; omega)
              have HE2 := Lib.hid hE2
              clear hb7 Hbx6 Hk6 Hit6 h7s k0 k1 k2 k3 k4 k5 k6 hE2
              obtain ⟨k0, k1, k2, k3, k4, k5, k6⟩ := cells7 Hk7.out
              obtain ⟨p0, p1, p2, p3⟩ := cellsC Hbx7.out
              have hbf := lt_of_block Hbx7.out
              obtain ⟨i0, hi0, hz0, hz1, hz2⟩ := info_parts infoItem
              have Hi0 := Lib.hid hi0; have Hz0 := Lib.hid hz0; have Hz1 := Lib.hid hz1; have Hz2 := Lib.hid hz2
              clear hi0 hz0 hz1 hz2
              have hs7 := H7s.out
              have hsoo := Hso.out
              go_wp2_with fail
              go_region_law ((refine step_append_g (W := w7.drew) (by rfl) _ _ 61 58 4 40 encItem encItem_len (nm, a, b, c) (encItem_one _) (by rfl) i0 _ under_items Hi0.out Hz0.out Hz1.out Hz2.out rfl (by decide) (by decide) (w.heap.size + 2) _ its rfl (IsItems.below Hit7.out ((Below.refl w7.heap.size w7).drew)) _ rfl _ rfl (by rfl) (by omega) (by show w.heap.size + 2 ≤ w7.heap.size; omega) ?_; intro g9 c9 w9 ho9 hb9 hk9 hg9 hd9; have hbx9 := (hk9 w.heap.size (by show w.heap.size < w7.heap.size; omega) (fun q => by have := Hbi.out _ q; omega)).trans Hbx7.out; have hm9 := Hm7.out.block_eq (hk9 (w.heap.size + 1) (by show w.heap.size + 1 < w7.heap.size; omega) (fun q => by have := Hbi.out _ q; omega)); have q1 := (cellsC hbx9).2.1; have q3 := (cellsC hbx9).2.2.2; have q4 := lt_of_block hbx9; have Ho9 := Lib.hid ho9; have Hb9 := Lib.hid hb9; have Hbx9 := Lib.hid hbx9; have Hm9 := Lib.hid hm9; have Hg9 := Lib.hid hg9; clear ho9 hb9 hk9 hbx9 hm9 hg9 hd9))
              all_goals
                have hs9 : w7.heap.size ≤ w9.heap.size := Hb9.out.size
                have hB9 := HB7.out.trans (((Below.refl w7.heap.size w7).drew.mono (show w.heap.size ≤ w7.heap.size by omega)).trans (Hb9.out.mono (by omega)))
                have hB9s := hB9.setCell (p := ⟨w.heap.size, 1, none⟩) (Nat.le_refl _) (.slice (some ⟨g9, 0, none⟩) (its.length + 1) c9)
                have HB9s := Lib.hid hB9s
                clear hB9 hB9s
                have hnew := setCell1 Hbx9.out (.slice (some ⟨g9, 0, none⟩) (its.length + 1) c9)
                have hit9 : IsItems (w9.setCell ⟨w.heap.size, 1, none⟩ (.slice (some ⟨g9, 0, none⟩) (its.length + 1) c9)) (w.heap.size + 2) (.slice (some ⟨g9, 0, none⟩) (its.length + 1) c9) (its ++ [(nm, a, b, c)]) := RowG.keep Ho9.out (fun q hq => Below.heap_setCell _ _ _ _ (by cases hq; have := Hg9.out; show g9 ≠ w.heap.size; omega))
                have hm99 : MapOf (w9.setCell ⟨w.heap.size, 1, none⟩ (.slice (some ⟨g9, 0, none⟩) (its.length + 1) c9)) (w.heap.size + 1) Value.string (putAssoc m nm (.bool true)) := Hm9.out.block_eq (Below.heap_setCell _ _ _ _ (by show w.heap.size + 1 ≠ w.heap.size; omega))
                have Hnew := Lib.hid hnew; have Hit9 := Lib.hid hit9; have Hm99 := Lib.hid hm99
                clear hnew hit9 hm99 q1 q3 q4 p0 p1 p2 p3 k0 k1 k2 k3 k4 k5 k6
                rcases HE2.out with ⟨rfl, hout, h24, h8⟩ | ⟨hne, hno⟩
                · have Hout := Lib.hid hout; have H24 := Lib.hid h24; have H8 := Lib.hid h8; clear hout h24 h8
                  go_wp2_with fail
                  go_roundg (ls.length - (k + 1))
                  case measure => omega
                  case rel => exact ⟨k + 1, _, putAssoc m nm (.bool true), by omega, rfl, by go_num, (by have h9 := HI5.out.put hlt (by rw [← Hx.out]) (by rw [← Hx.out]; exact HE.out.symm) (by rw [← Hx.out, ← Hits.out]; exact Hout.out) (by rw [← Hits.out]; exact H24.out) (.bool true) (by rw [← Hx.out]; exact H8.out) HB9s.out Hnew.out (by rw [← Hits.out, ← Hx.out]; exact Hit9.out) (by rw [← Hx.out]; exact Hm99.out) (by simp; omega); rw [← Hx.out] at h9; exact h9)⟩
                · have Hno := Lib.hid hno; clear hno
                  have te : (E2 != 0) = true := by rw [bne_iff_ne]; exact hne
                  clear hne
                  go_wp2_with fail
                  go_ret2
                  refine ⟨.inr ⟨_, rfl, Hno.out, .inr ⟨_, E2, k, rfl, heap_at (by simp), by omega, by omega⟩⟩, HB9s.out.alloc (by simp; omega) _⟩
          · have t1 : (kd == 1) = false := by rw [beq_eq_false_iff_ne]; exact hk1
            have Hk1 := Lib.hid hk1; clear hk1
            go_wp2_with fail
            go_roundg (ls.length - (k + 1))
            case measure => omega
            case rel => exact ⟨k + 1, _, m, by omega, rfl, by go_num, HI5.out.skip hlt (by rw [← Hx.out]; exact Hk1.out) (by rw [← Hx.out]; exact HE.out.symm)⟩
        · have t0 : (E == 0) = false := by rw [beq_eq_false_iff_ne]; exact hE0
          have t0' : (E != 0) = true := by rw [bne_iff_ne]; exact hE0
          have HE0 := Lib.hid hE0; clear hE0
          have hno := no_check Hmem.out (by rw [← HE.out]; exact HE0.out)
          have Hno := Lib.hid hno; clear hno
          by_cases hk1 : kd = 1
          · subst hk1
            go_wp2_with fail
            go_ret2
            refine ⟨.inr ⟨_, rfl, Hno.out, .inr ⟨w5.heap.size, E, k, rfl, heap_at rfl, by omega, by omega⟩⟩, HI5.out.below.alloc (HI5.out.below.size) _⟩
          · have t1 : (kd == 1) = false := by rw [beq_eq_false_iff_ne]; exact hk1
            clear hk1
            go_wp2_with fail
            go_ret2
            refine ⟨.inr ⟨_, rfl, Hno.out, .inr ⟨w5.heap.size, E, k, rfl, heap_at rfl, by omega, by omega⟩⟩, HI5.out.below.alloc (HI5.out.below.size) _⟩
      · obtain rfl : k = ls.length := by omega
        have HI := Lib.hid hI
        clear hI hmm hlt
        go_wp2_with fail
        go_loopg [81] ls.length (fun gk i wr => ∃ (k : Nat), k ≤ ls.length ∧ gk = ls.length - k ∧ i = .int .i64 k ∧ NewI w wr vi m ls ls.length ∧ ∀ x ∈ ls.take k, x.kind = 2 ∨ x.kind = 3 → x.item ∈ itemsOf ls)
        case atStart => exact ⟨0, Nat.zero_le _, rfl, rfl, HI.out, fun x hx => by simp at hx⟩
        case round =>
          obtain ⟨k, hk, rfl, rfl, hI, hth⟩ := hrel
          obtain ⟨wo, rfl⟩ : ∃ y, y = wr := ⟨_, rfl⟩
          by_cases hlt : k < ls.length
          · have hLo := HL.out.below hI.below
            obtain ⟨g, rfl, hg, _⟩ := hLo.row.at (by omega)
            obtain ⟨c0, c1, c2, c3, c4, c5, c6⟩ := hLo.cells hlt
            have hin := hLo.ins _ (List.getElem_mem hlt)
            have hmem := List.getElem_mem hlt
            obtain ⟨x, hx⟩ : ∃ x, x = ls[k] := ⟨_, rfl⟩
            rw [← hx] at c0 c1 c2 c3 c4 c5 c6 hin hmem
            obtain ⟨kd, nm, a, b, c, ot, rg, rv⟩ := x
            have hrg := hin.rng
            simp only at c0 c1 c2 c3 c4 c5 c6 hrg
            obtain ⟨ar, cr, rfl, _, _⟩ := hrg.shape
            obtain ⟨wB, hwB⟩ : ∃ q, q = wo.alloc (.cells #[.int .i64 kd, .string nm, .int .i64 a, .int .i64 b, .int .i64 c, .string ot, .slice ar rg.length cr] 51) := ⟨_, rfl⟩
            have hbB : Below wo.heap.size wo wB := by rw [hwB]; exact (Below.refl _ _).alloc (Nat.le_refl _) _
            have hkB : wB.heap[wo.heap.size]? = some (.cells #[.int .i64 kd, .string nm, .int .i64 a, .int .i64 b, .int .i64 c, .string ot, .slice ar rg.length cr] 51 (0, 0)) := by rw [hwB]; exact heap_at rfl
            obtain ⟨k0, k1, k2, k3, k4, k5, k6⟩ := cells7 hkB
            have hIB := hI.mono hbB
            have hsu : ls.take (k + 1) = ls.take k ++ [ls[k]] := List.take_succ_eq_append_getElem hlt
            rw [← hx] at hsu
            have hits := hIB.its
            rw [List.take_length] at hits
            have HNU := Lib.hid (number_at w.heap.size (w.heap.size + 2) _ _ _ nm a b c wB hIB.box hits)
            obtain ⟨NU, hNU⟩ : ∃ NU, NU = numM (itemsOf ls) (nm, a, b, c) := ⟨_, rfl⟩
            rw [← hNU] at HNU
            have hcs := numM_cases (itemsOf ls) (nm, a, b, c)
            rw [← hNU] at hcs
            have Hcs := Lib.hid hcs; have HIB := Lib.hid hIB; have Hsu := Lib.hid hsu; have Hth := Lib.hid hth; have Hx := Lib.hid hx; have Hmem := Lib.hid hmem
            clear hI hLo hin hmem hx hrg hbB hkB hIB hsu hits hNU hcs hth
            by_cases hk23 : kd = 2 ∨ kd = 3
            · have Hk23 := Lib.hid hk23
              rcases Hcs.out with ⟨hin, h0, h1⟩ | ⟨hout, rfl⟩
              · have Hin := Lib.hid hin; clear hin
                rcases hk23 with rfl | rfl
                all_goals
                  go_upto_region 22 with fail
                  rw [← hwB]
                  clear hwB
                  go_wp2_with fail
                  refine HNU.out.mono ?_
                  rintro e w5 ⟨rfl, hb5⟩
                  have HI5 := Lib.hid (HIB.out.mono hb5)
                  clear hb5 HNU k0 k1 k2 k3 k4 k5 k6
                  go_wp2_with fail
                  go_roundg (ls.length - (k + 1))
                  case measure => omega
                  case rel => exact ⟨k + 1, by omega, rfl, by go_num, HI5.out, fun x hx hq => by
                    rw [Hsu.out] at hx
                    rcases List.mem_append.1 hx with q | q
                    · exact Hth.out x q hq
                    · rw [List.mem_singleton.1 q]; exact Hin.out⟩
              · have Hout := Lib.hid hout; clear hout
                rcases hk23 with rfl | rfl
                all_goals
                  go_upto_region 22 with fail
                  rw [← hwB]
                  clear hwB
                  go_wp2_with fail
                  refine HNU.out.mono ?_
                  rintro e w5 ⟨rfl, hb5⟩
                  have HI5 := Lib.hid (HIB.out.mono hb5)
                  clear hb5 HNU k0 k1 k2 k3 k4 k5 k6
                  go_wp2_with fail
                  go_ret2
                  refine ⟨.inr ⟨_, rfl, no_there Hmem.out (by first | exact .inl rfl | exact .inr rfl) Hout.out, .inr ⟨_, 7, k, rfl, heap_at rfl, by omega, by omega⟩⟩, HI5.out.below.alloc HI5.out.below.size _⟩
            · have t2 : (kd == 2) = false := by rw [beq_eq_false_iff_ne]; omega
              have t3 : (kd == 3) = false := by rw [beq_eq_false_iff_ne]; omega
              have Hk23 := Lib.hid hk23; clear hk23
              go_upto_region 22 with fail
              rw [← hwB]
              clear hwB
              go_wp2_with fail
              go_roundg (ls.length - (k + 1))
              case measure => omega
              case rel => exact ⟨k + 1, by omega, rfl, by go_num, HIB.out, fun x hx hq => by
                rw [Hsu.out] at hx
                rcases List.mem_append.1 hx with q | q
                · exact Hth.out x q hq
                · rw [List.mem_singleton.1 q] at hq; exact absurd hq Hk23.out⟩
          · obtain rfl : k = ls.length := by omega
            rw [List.take_length] at hth
            have hok := hI.all Hf.out hth
            have hits := hI.its
            rw [List.take_length] at hits
            obtain ⟨ai, ci, rfl, _, _⟩ := RowG.shape hits
            obtain ⟨p0, p1, p2, p3⟩ := cellsC hI.box
            have HS := Lib.hid (sortI_all (w.heap.size + 2) ai ci (itemsOf ls) wo hits (by have := hok.most; omega))
            have Hok := Lib.hid hok; have HIl := Lib.hid hI
            clear hok hits hI hth hlt
            go_wp2_with fail
            refine HS.out.mono ?_
            rintro e w3 ⟨its, rfl, hit3, hper, hord, hb3⟩
            have hbx3 := (hb3.block w.heap.size (by omega)).trans HIl.out.box
            have hB3 := HIl.out.below.trans (hb3.mono (by omega))
            have hone : ∀ u ∈ flatG encLine ls, u.oneCell' = true := fun u hu => by
              unfold flatG at hu
              obtain ⟨x, hx, hu⟩ := List.mem_flatMap.1 hu
              exact encLine_one (HL.out.ins x hx) u hu
            have HC := Lib.hid (cloneLine_any base _ ls w3 (HL.out.below hB3).row hone (by have := Hf.out; omega))
            have hlen3 : its.length = (itemsOf ls).length := hper.length_eq
            have Hbx3 := Lib.hid hbx3; have HB3 := Lib.hid hB3; have Hit3 := Lib.hid hit3; have Hper := Lib.hid hper; have Hord := Lib.hid hord; have Hlen3 := Lib.hid hlen3
            obtain ⟨q0, q1, q2, q3⟩ := cellsC hbx3
            have hpl3 := lt_of_block hbx3
            have Hs3 := Lib.hid hb3.size
            clear hb3 hbx3 hB3 hit3 hper hord hlen3 hone HS p0 p1 p2 p3
            go_wp2_with fail
            refine HC.out.mono ?_
            rintro e w4 ⟨⟨v4, rfl, hr4⟩, hb4⟩
            obtain ⟨a4, c4, rfl, _, _⟩ := hr4.shape
            have hbx4 := (hb4.block _ (lt_of_block Hbx3.out)).trans Hbx3.out
            obtain ⟨r0, r1, r2, r3⟩ := cellsC hbx4
            have hpl4 := lt_of_block hbx4
            have hnew := setCell0 hbx4 (.slice a4 ls.length c4)
            have hB4 := (HB3.out.trans (hb4.mono HB3.out.size)).setCell (p := ⟨w.heap.size, 0, none⟩) (Nat.le_refl _) (.slice a4 ls.length c4)
            have hr5 : RowG (w4.setCell ⟨w.heap.size, 0, none⟩ (.slice a4 ls.length c4)) 0 51 7 encLine (.slice a4 ls.length c4) ls := (hr4.less (Nat.zero_le _)).keep (fun q hq => Below.heap_setCell _ _ _ _ (by have := (RowG.lt hr4 hq).1; have := Hs3.out; have := HIl.out.size; show q ≠ w.heap.size; omega))
            have hit5 : IsItems (w4.setCell ⟨w.heap.size, 0, none⟩ (.slice a4 ls.length c4)) 0 (.slice ai (itemsOf ls).length ci) its := (RowG.less (IsItems.below Hit3.out hb4) (Nat.zero_le _)).keep (fun q hq => Below.heap_setCell _ _ _ _ (by have := (RowG.lt Hit3.out hq).1; show q ≠ w.heap.size; omega))
            have Hnew := Lib.hid hnew; have HB4 := Lib.hid hB4; have Hr5 := Lib.hid hr5; have Hit5 := Lib.hid hit5
            clear hr4 hb4 hbx4 hnew hB4 hr5 hit5 HC q0 q1 q2 q3 hpl3
            go_wp2_with fail
            go_ret2
            have hnd : its.Nodup := Hper.out.nodup_iff.2 Hok.out.twice
            have hor : its.Pairwise itemLt := by
              rw [List.pairwise_iff_getElem]
              intro i j h1 h2 h3
              rcases itemLt_tri its[i] its[j] with q | q | q
              · exact q
              · exact absurd q (List.pairwise_iff_getElem.1 hnd i j h1 h2 h3)
              · exact absurd q (List.pairwise_iff_getElem.1 Hord.out i j h1 h2 h3)
            exact ⟨.inl ⟨w.heap.size, its, rfl, ⟨⟨Hok.out, Hper.out, hor, fun x hx => (HL.out.ins x hx).can⟩, _, _, Hnew.out, ⟨Hr5.out, fun x hx => (HL.out.ins x hx).below HB4.out⟩, Hit5.out⟩, Nat.le_refl _⟩, HB4.out⟩
  · have d1 : decide (100 < (ls.length : Int)) = true := by simp; omega
    have Hf := Lib.hid (show 100 < ls.length by omega)
    clear h hf
    go_enter Tryz.func48, Tryz.ntmps48
    go_wp2_with fail
    go_ret2
    exact ⟨.inr ⟨_, rfl, no_few Hf.out, .inl ⟨4, rfl⟩⟩, Below.refl _ _⟩
end Go.Proofs.YtheemhelioendaaGreatDoor
