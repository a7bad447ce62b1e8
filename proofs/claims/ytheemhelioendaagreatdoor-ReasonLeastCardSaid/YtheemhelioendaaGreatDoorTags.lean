/- Memory in parts: each block bears a tag, and what turns is of some tags alone. -/
import Derived.Test.YtheemhelioendaaGreatDoorAppend
import Derived.Test.YtheemhelioendaaGreatDoorState
namespace Go.Proofs.YtheemhelioendaaGreatDoor
open Go.RowKit
set_option linter.unusedVariables false

/-- Only blocks of the tags T have turned; blocks may have come. -/
structure Chg (tg : Nat → Nat) (T : Nat → Bool) (w w' : World) : Prop where
  os : w'.os = w.os
  tape : w'.tape = w.tape
  output : w'.output = w.output
  size : w.heap.size ≤ w'.heap.size
  block : ∀ k, k < w.heap.size → T (tg k) = false → w'.heap[k]? = w.heap[k]?
/-- New blocks get a tag. -/
def retag (n : Nat) (tg : Nat → Nat) (t : Nat) : Nat → Nat := fun k => if k < n then tg k else t
theorem retag_old {n k : Nat} {tg : Nat → Nat} {t : Nat} (h : k < n) : retag n tg t k = tg k := if_pos h
theorem retag_new {n k : Nat} {tg : Nat → Nat} {t : Nat} (h : n ≤ k) : retag n tg t k = t := if_neg (by omega)

theorem Chg.of_below {tg : Nat → Nat} {T : Nat → Bool} {w w' : World} (h : Below w.heap.size w w') : Chg tg T w w' := ⟨h.os, h.tape, h.output, h.size, fun k hk _ => h.block k hk⟩
theorem Chg.of_mod {tg : Nat → Nat} {T : Nat → Bool} {p : Nat} {ov : Option Nat} {w w' : World} (h : Mod p ov w w') (hp : T (tg p) = true) (ho : ∀ b, ov = some b → T (tg b) = true) : Chg tg T w w' :=
  ⟨h.os, h.tape, h.output, h.size, fun k hk ht => h.block k hk (by intro e; subst e; rw [hp] at ht; cases ht) (by intro e; rw [ho k e.symm] at ht; cases ht)⟩
theorem Chg.of_grown {tg : Nat → Nat} {T : Nat → Bool} {w w' : World} {row : Option Nat} (h : w.grownBy w' row) (ho : ∀ b, row = some b → T (tg b) = true) : Chg tg T w w' :=
  ⟨h.os, h.tape, h.output, h.size, fun k hk ht => h.block k hk (by intro e; rw [ho k e.symm] at ht; cases ht)⟩
theorem Chg.trans {tg : Nat → Nat} {T : Nat → Bool} {t : Nat} {a b c : World} (h : Chg tg T a b) (k : Chg (retag a.heap.size tg t) T b c) : Chg tg T a c :=
  ⟨k.os.trans h.os, k.tape.trans h.tape, k.output.trans h.output, Nat.le_trans h.size k.size, fun i hi ht => (k.block i (Nat.lt_of_lt_of_le hi h.size) (by rw [retag_old hi]; exact ht)).trans (h.block i hi ht)⟩
theorem Chg.below {tg : Nat → Nat} {T : Nat → Bool} {w w' : World} (h : Chg tg T w w') {B : Nat} (hB : B ≤ w.heap.size) (hl : ∀ k, k < B → T (tg k) = false) : Below B w w' :=
  ⟨h.os, h.tape, h.output, h.size, fun k hk => h.block k (by omega) (hl k hk)⟩

theorem Chg.own {tg : Nat → Nat} {T : Nat → Bool} {w w' : World} (h : Chg tg T w w') {base e size : Nat} {v : Value} {n : Nat} {xs : List Value} (ho : w.ownsRow base e size v n xs) (ht : ∀ b, v.ownBlock = some b → T (tg b) = false) : w'.ownsRow base e size v n xs := by
  refine ⟨ho.1, ?_⟩
  rcases ho.2 with hn | ⟨g, cap, cur, rfl, h1, h2, r⟩
  · exact .inl hn
  · exact .inr ⟨g, cap, cur, rfl, h1, by rw [h.block g (Array.getElem?_eq_some_iff.1 h2).1 (ht g rfl)]; exact h2, r⟩
theorem Chg.state {tg : Nat → Nat} {T : Nat → Bool} {w w' : World} (h : Chg tg T w w') {p : Nat} {f : Int → Int} {tr : List Int} {v : Value} (hs : StateAt w p f tr v) (hp : T (tg p) = false) (ht : ∀ b, v.ownBlock = some b → T (tg b) = false) : StateAt w' p f tr v := by
  obtain ⟨cur, h3, h4⟩ := hs.blk
  exact ⟨⟨cur, by rw [h.block p hs.lt hp]; exact h3, h4⟩, h.own hs.own ht, hs.apart⟩

/-- Where a slice of integers lies. -/
theorem IsInts.own {w : World} {v : Value} {xs : List Int} (h : IsInts w v xs) : xs ≠ [] → ∃ b, v.ownBlock = some b ∧ b < w.heap.size := by
  intro hne
  obtain ⟨a, b, o, c, rfl, h2, _, _, _, h6, _⟩ := h
  rw [h2 hne]
  exact ⟨b, rfl, h6 hne⟩
theorem IsInts.same {w w' : World} {v : Value} {xs : List Int} (h : IsInts w v xs) (hb : ∀ b, v.ownBlock = some b → b < w.heap.size → w'.heap[b]? = w.heap[b]?) (hs : w.heap.size ≤ w'.heap.size) : IsInts w' v xs := by
  obtain ⟨a, b, o, c, rfl, h2, h3, h4, h5, h6, h7⟩ := h
  refine ⟨a, b, o, c, rfl, h2, h3, h4, fun i hi => ?_, fun e => Nat.lt_of_lt_of_le (h6 e) hs, h7⟩
  have hne : xs ≠ [] := by intro e; subst e; simp at hi
  have e := hb b (by rw [h2 hne]; rfl) (h6 hne)
  rw [World.cell?_of_block (w := w) e]
  exact h5 i hi
theorem Chg.ints {tg : Nat → Nat} {T : Nat → Bool} {w w' : World} (h : Chg tg T w w') {v : Value} {xs : List Int} (hi : IsInts w v xs) (ht : ∀ b, v.ownBlock = some b → T (tg b) = false) : IsInts w' v xs :=
  hi.same (fun b hb hlt => h.block b hlt (ht b hb)) h.size
theorem Chg.vals {tg : Nat → Nat} {T : Nat → Bool} {w w' : World} (h : Chg tg T w w') {rs : List Value} {ls : List (List Int)} (hr : RowVals w rs ls) (ht : ∀ r ∈ rs, ∀ b, r.ownBlock = some b → T (tg b) = false) : RowVals w' rs ls :=
  ⟨hr.1, fun i h1 h2 => h.ints (hr.2 i h1 h2) (ht _ (List.getElem_mem h1))⟩

/-- An owned row of integers is a slice of integers. -/
theorem isInts_of_owns {w : World} {base e : Nat} {v : Value} {n : Nat} {xs : List Int} (h : w.ownsRow base e 1 v n (xs.map (Value.int .i64))) (hl : xs.length ≤ 17592186044416) : IsInts w v xs := by
  obtain ⟨h1, h2⟩ := h
  have hn : n = xs.length := by simp at h1; omega
  subst hn
  rcases h2 with ⟨rfl, h3⟩ | ⟨g, cap, cur, rfl, hg, hh, h3, h4, h5, h6⟩
  · have e : xs = [] := List.eq_nil_of_length_eq_zero h3
    subst e
    exact ⟨none, 0, 0, 0, rfl, fun h => absurd rfl h, Nat.le_refl _, Nat.zero_le _, fun i hi => absurd hi (by simp), fun h => absurd rfl h, Nat.zero_le _⟩
  · refine ⟨_, g, 0, cap, rfl, fun _ => rfl, h3, h4, fun i hi => ?_, fun _ => (Array.getElem?_eq_some_iff.1 hh).1, hl⟩
    rw [cell_of_row w g (0 + i) cur e (0, 0) hh, Nat.zero_add]
    have h7 : (cur.toList.take (xs.length * 1))[i]? = some (.int .i64 xs[i]) := by rw [h6]; simp [hi]
    rw [List.getElem?_take] at h7
    have e2 : xs.getD i 0 = xs[i] := by simp [hi]
    rw [e2]
    split at h7
    · simpa using h7
    · cases h7
/-- The first of an owned row. -/
theorem owns_take {w : World} {base e : Nat} {a : Option Addr} {n c : Nat} {xs : List Value} (h : w.ownsRow base e 1 (.slice a n c) n xs) {k : Nat} (hk : k ≤ n) : w.ownsRow base e 1 (.slice a k c) k (xs.take k) := by
  obtain ⟨h1, h2⟩ := h
  refine ⟨by rw [List.length_take]; omega, ?_⟩
  rcases h2 with ⟨e, h3⟩ | ⟨g, cap, cur, e, hg, hh, h3, h4, h5, h6⟩
  · cases e
    have : k = 0 := by omega
    subst this
    exact .inl ⟨rfl, rfl⟩
  · cases e
    refine .inr ⟨g, c, cur, rfl, hg, hh, by omega, h4, h5, ?_⟩
    rw [← h6, List.take_take, Nat.min_eq_left (by omega)]
    simp
end Go.Proofs.YtheemhelioendaaGreatDoor
