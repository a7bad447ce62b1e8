/- Davis and Putnam: what the loops of the elimination keep; the world's part. -/
import Derived.Test.YtdeaficdfooegaaDoorAddW
import Derived.Test.YtdeaficdfooegaaDoorFolW
namespace Go.Proofs.YtdeaficdfooegaaDoor
open Go.RowKit
set_option linter.unusedVariables false

variable {m v : Int} {l old all : List (List Int)}
structure InvA (m : Int) (l all : List (List Int)) (k : Nat) : Prop where
  kept : Mk m 0 l all
  full : ∀ j, j < k → ∀ h : j < l.length, alwaysL (formL l[j]) = false → formL l[j] ∈ all
  len : all.length ≤ k
theorem InvA.zero : InvA m l [] 0 := ⟨Mk.nil 0 l, fun j h => absurd h (by omega), Nat.le_refl _⟩
theorem InvA.add {k : Nat} (hg : Good m l) (h : InvA m l all k) (hk : k < l.length) : InvA m l (addL all l[k]) (k + 1) := by
  have hm := List.getElem_mem hk
  have hl := fun x hx => good_lit' (hg.2.2.2 _ hm).2 (x := x) hx
  refine ⟨h.kept.add (fun x hx => by have := hl x hx; omega) (fun x hx => by have := hl x hx; omega) (fun f hf => allF_mem.1 hf _ hm), fun j hj hj2 ha => ?_, by have := add_len all l[k]; have := h.len; omega⟩
  by_cases e : j = k
  · subst e; exact add_new ha
  · exact add_old (h.full j (by omega) hj2 ha)
theorem InvA.done (hg : Good m l) (h : InvA m l all l.length) : DpI m l all 0 ∧ all.length ≤ 2000 :=
  ⟨DpI.first h.kept (fun c hc x hx => (good_lit' (hg.2.2.2 c hc).2 hx).1) (fun c hc ha => by
    obtain ⟨j, hj, rfl⟩ := List.mem_iff_getElem.1 hc
    exact h.full j hj hj ha), by have := h.len; have := hg.2.2.1; omega⟩

structure InvC (m v : Int) (old all : List (List Int)) (k : Nat) : Prop where
  kept : Mk m (v + 1) old all
  fr : ∀ j, j < k → ∀ h : j < old.length, freeL v old[j] → old[j] ∈ all
  len : all.length ≤ k
theorem InvC.zero : InvC m v old [] 0 := ⟨Mk.nil _ old, fun j h => absurd h (by omega), Nat.le_refl _⟩
theorem InvC.add {k : Nat} (hF : ∀ c ∈ old, Fm m v c) (h0 : 0 ≤ v) (h : InvC m v old all k) (hk : k < old.length) (hf : freeL v old[k]) : InvC m v old (addL all old[k]) (k + 1) := by
  have hm := List.getElem_mem hk
  have F := hF _ hm
  refine ⟨h.kept.add (free_lo h0 F hf) F.hi (fun f hf => allF_mem.1 hf _ hm), fun j hj hj2 ha => ?_, by have := add_len all old[k]; have := h.len; omega⟩
  by_cases e : j = k
  · subst e
    have e2 := form_of_risen F.risen
    have := add_new (all := all) (c := old[j]) (by rw [e2]; exact F.open_)
    rw [e2] at this; exact this
  · exact add_old (h.fr j (by omega) hj2 ha)
theorem InvC.skip {k : Nat} (h : InvC m v old all k) (hn : ∀ hk : k < old.length, ¬ freeL v old[k]) : InvC m v old all (k + 1) :=
  ⟨h.kept, fun j hj hj2 ha => by
    by_cases e : j = k
    · subst e; exact absurd ha (hn hj2)
    · exact h.fr j (by omega) hj2 ha, by have := h.len; omega⟩

structure InvD (m v : Int) (old all : List (List Int)) (i : Nat) : Prop where
  kept : Mk m (v + 1) old all
  fr : ∀ c ∈ old, freeL v c → c ∈ all
  rs : ∀ i', i' < i → ∀ h : i' < old.length, ∀ b ∈ old, mayRes old[i'] b v = true → alwaysL (formL (leftL old[i'] b v)) = false → formL (leftL old[i'] b v) ∈ all
  len : all.length ≤ 2000
theorem InvC.done (h : InvC m v old all old.length) (hl : old.length ≤ 2000) : InvD m v old all 0 :=
  ⟨h.kept, fun c hc hf => by
    obtain ⟨j, hj, rfl⟩ := List.mem_iff_getElem.1 hc
    exact h.fr j hj hj hf, fun j h => absurd h (by omega), by have := h.len; omega⟩
structure InvE (m v : Int) (old all : List (List Int)) (i : Nat) (a : List Int) (j : Nat) : Prop where
  kept : Mk m (v + 1) old all
  fr : ∀ c ∈ old, freeL v c → c ∈ all
  rs : ∀ i', i' < i → ∀ h : i' < old.length, ∀ b ∈ old, mayRes old[i'] b v = true → alwaysL (formL (leftL old[i'] b v)) = false → formL (leftL old[i'] b v) ∈ all
  rs2 : ∀ j', j' < j → ∀ h : j' < old.length, mayRes a old[j'] v = true → alwaysL (formL (leftL a old[j'] v)) = false → formL (leftL a old[j'] v) ∈ all
  len : all.length ≤ 2000 + j
theorem InvD.in {i : Nat} (h : InvD m v old all i) (a : List Int) : InvE m v old all i a 0 := ⟨h.kept, h.fr, h.rs, fun j h => absurd h (by omega), by have := h.len; omega⟩
theorem InvE.add {i j : Nat} {a : List Int} (hF : ∀ c ∈ old, Fm m v c) (h0 : 0 ≤ v) (h : InvE m v old all i a j) (ha : a ∈ old) (hj : j < old.length) (hm : mayRes a old[j] v = true) : InvE m v old (addL all (formL (leftL a old[j] v))) i a (j + 1) := by
  have hb := List.getElem_mem hj
  obtain ⟨_, _, m1, m2⟩ := may_iff.1 hm
  refine ⟨h.kept.add (fun x hx => left_lo h0 (hF _ ha) (hF _ hb) m1 m2 x ((mem_form x).1 hx)) (fun x hx => left_hi (hF _ ha).hi (hF _ hb).hi x ((mem_form x).1 hx)) (fun f hf => ?_), fun c hc hf => add_old (h.fr c hc hf), fun i' h1 h2 b hb2 h3 h4 => add_old (h.rs i' h1 h2 b hb2 h3 h4), fun j' h1 h2 h3 h4 => ?_, by have := add_len all (formL (leftL a old[j] v)); have := h.len; omega⟩
  · rw [clF_form]
    exact left_holds h0 (allF_mem.1 hf _ ha) (allF_mem.1 hf _ hb)
  · by_cases e : j' = j
    · subst e
      have := add_new (all := all) (c := formL (leftL a old[j'] v)) (by rw [form_idem]; exact h4)
      rw [form_idem] at this; exact this
    · exact add_old (h.rs2 j' (by omega) h2 h3 h4)
theorem InvE.skip {i j : Nat} {a : List Int} (h : InvE m v old all i a j) (hn : ∀ hj : j < old.length, mayRes a old[j] v = true → alwaysL (formL (leftL a old[j] v)) = true) : InvE m v old all i a (j + 1) :=
  ⟨h.kept, h.fr, h.rs, fun j' h1 h2 h3 h4 => by
    by_cases e : j' = j
    · subst e; rw [hn h2 h3] at h4; cases h4
    · exact h.rs2 j' (by omega) h2 h3 h4, by have := h.len; omega⟩
theorem InvE.done {i : Nat} {a : List Int} (h : InvE m v old all i a old.length) (ha : ∀ hi : i < old.length, a = old[i]) (hl : all.length ≤ 2000) : InvD m v old all (i + 1) :=
  ⟨h.kept, h.fr, fun i' h1 h2 b hb h3 h4 => by
    by_cases e : i' = i
    · subst e
      obtain ⟨j, hj, rfl⟩ := List.mem_iff_getElem.1 hb
      have e2 := ha h2
      subst e2
      exact h.rs2 j hj hj h3 h4
    · exact h.rs i' (by omega) h2 b hb h3 h4, hl⟩
theorem InvD.done {k : Nat} (hk : k < 24) (hd : DpI m l old k) (h : InvD m (k : Int) old all old.length) : DpI m l all ((k : Int) + 1) :=
  hd.step hk h.kept ⟨h.fr, fun a ha b hb h3 h4 => by
    obtain ⟨j, hj, rfl⟩ := List.mem_iff_getElem.1 ha
    exact h.rs j hj hj b hb h3 h4⟩

/-- The clauses that cell B8 tells. -/
structure Cur (B8 base : Nat) (all : List (List Int)) (w : World) : Prop where
  lt : B8 < base
  le : base ≤ w.heap.size
  it : ∃ a c rs, w.heap[B8]? = some (.cells #[.slice a all.length c] 56 (0, 0)) ∧ RowsG w base (.slice a all.length c) rs all ∧ ∀ r ∈ rs, ∀ b, r.ownBlock = some b → base ≤ b
theorem cur_add {B8 base : Nat} {w : World} (h : Cur B8 base all w) (vc : Value) (c : List Int) (hc : IsInts w vc c) (hs : Sm24 c) (hl : all.length ≤ 100000) :
    Calls Tryd.prog 71 #[vc, .pointer (some ⟨B8, 0, none⟩)] w fun e w' => e = .returned (.tuple #[]) ∧ Cur B8 base (addL all c) w' ∧ KeepB base B8 w w' := by
  obtain ⟨a, ca, rs, hB, hrg, hfr⟩ := h.it
  refine (add_any vc rs all c w hB h.lt h.le hrg hfr hc hs.b1000 (by have := hs.2; omega) hl).mono ?_
  rintro e w' ⟨rfl, ⟨a', n', c', rs', hB', hrg', hfr'⟩, hk⟩
  obtain ⟨_, _, e⟩ := owns_shape hrg'.own
  cases e
  exact ⟨rfl, ⟨h.lt, Nat.le_trans h.le hk.size, _, _, _, hB', hrg', hfr'⟩, hk⟩
theorem KeepB.mono {base base2 B8 : Nat} {w w1 : World} (h : KeepB base2 B8 w w1) (hb : base ≤ base2) : KeepB base B8 w w1 := ⟨h.os, h.tape, h.output, h.size, fun k h1 hn => h.block k (by omega) hn⟩
theorem Cur.nil {B8 : Nat} {w : World} {u : Value} (h : w.heap[B8]? = some (.cells #[u] 56 (0, 0))) : Cur B8 w.heap.size [] (w.setCell ⟨B8, 0, none⟩ (.slice none 0 0)) :=
  ⟨lt_of_block h, by simp, none, 0, [], one_setCell h, RowsG.nil _ _, fun r hr => by cases hr⟩
theorem Cur.below {B8 base B : Nat} {w w' : World} (h : Cur B8 base all w) (hb : Below B w w') (hB : w.heap.size ≤ B) : Cur B8 base all w' := by
  obtain ⟨a, c, rs, h1, h2, h3⟩ := h.it
  exact ⟨h.lt, Nat.le_trans h.le hb.size, a, c, rs, (hb.block _ (by have := lt_of_block h1; omega)).trans h1, h2.below (hb.mono hB), h3⟩
/-- A row of numbers is kept. -/
theorem own_keepB {w w' : World} {base B8 : Nat} {u : Value} {n : Nat} {xs : List Value} {a : Option Addr} {k c : Nat} (h : w.ownsRow base 3 1 u n xs) (hB : w.heap[B8]? = some (.cells #[.slice a k c] 56 (0, 0))) (hk : KeepB w.heap.size B8 w w') : w'.ownsRow base 3 1 u n xs := by
  obtain ⟨g1, g2 | ⟨g, cap, cur, rfl, hg, hh, hr⟩⟩ := h
  · exact ⟨g1, .inl g2⟩
  · refine ⟨g1, .inr ⟨g, cap, cur, rfl, hg, (hk.block g (Array.getElem?_eq_some_iff.1 hh).1 (fun e => ?_)).trans hh, hr⟩⟩
    rw [e, hB] at hh
    injection hh with hh
    injection hh with _ h2 _
    exact absurd h2 (by decide)
/-- The clauses are kept while a row from before grows. -/
theorem Cur.grown {B8 base base2 : Nat} {w w' : World} {u : Value} {n : Nat} {xs : List Value} (h : Cur B8 base all w) (ho : w.ownsRow base2 3 1 u n xs) (hlt : ∀ g, u.ownBlock = some g → g < base) (hg : w.grownBy w' u.ownBlock) : Cur B8 base all w' := by
  obtain ⟨a, c, rs, h1, h2, h3⟩ := h.it
  have ne8 : u.ownBlock ≠ some B8 := fun e => by
    obtain ⟨_, g2 | ⟨g, cap, cur, rfl, hg, hh, hr⟩⟩ := ho
    · obtain ⟨rfl, _⟩ := g2; cases e
    · have : g = B8 := by
        simpa [Value.ownBlock] using e
      rw [this, h1] at hh
      injection hh with hh
      injection hh with _ h2 _
      exact absurd h2 (by decide)
  refine ⟨h.lt, Nat.le_trans h.le hg.size, a, c, rs, (hg.block _ (lt_of_block h1) (fun e => ne8 e.symm)).trans h1, ⟨?_, ⟨h2.vals.1, fun i q1 q2 => ints_same (h2.vals.2 i q1 q2) (fun hne b e hl => hg.block b hl (fun e2 => ?_)) hg.size⟩, h2.off⟩, h3⟩
  · obtain ⟨g1, g2 | ⟨g, cap, cur, e, hgg, hh, hr⟩⟩ := h2.own
    · exact ⟨g1, .inl g2⟩
    · exact ⟨g1, .inr ⟨g, cap, cur, e, hgg, (hg.block g (Array.getElem?_eq_some_iff.1 hh).1 (fun e2 => by have := hlt g e2.symm; omega)).trans hh, hr⟩⟩
  · have := h3 _ (List.getElem_mem q1) b e
    have := hlt b e2.symm
    omega

set_option maxHeartbeats 1000000 in
/-- One number more. -/
theorem wpList_append_size {W : World} {ops : Array Oper} {rest : List Oper} {o : Oper} {a : Act} {Q : Exit → Act → World → Prop} (hgd : o.guard = none) (s x : Operand)
    (ho : o.op = .call { callee := .builtin .append, args := #[s, x], argTypes := #[40, 40] })
    (base : Nat) (v : Value) (n0 : Nat) (xs : List Value) (hs : a.eval s = v) (hr : W.ownsRow base 3 1 v n0 xs) (u : Int)
    (n : Nat) (hn0 : n = W.heap.size) (hx : a.eval x = .slice (some ⟨n, 0, none⟩) 1 1) (hn : n0 + 1 ≤ 1000000) (hbase : base ≤ W.heap.size)
    (h : ∀ v' w', w'.ownsRow base 3 1 v' (n0 + 1) (xs ++ [.int .i64 u]) → (W.alloc (.cells #[.int .i64 u] 3)).grownBy w' v.ownBlock → wpList Tryd.prog ops Q rest (a.put o.dst v') w') : wpList Tryd.prog ops Q (o :: rest) a (W.alloc (.cells #[.int .i64 u] 3)) := by
  subst hn0
  obtain ⟨i0, hi, hz0, hz1, hz2⟩ := info_parts infoInt0
  have hal : Below W.heap.size W (W.alloc (.cells #[.int .i64 u] 3)) := (Below.refl _ _).alloc (Nat.le_refl _) _
  refine wpList_append_own _ hgd s x 40 ho base 3 i0 (.int .i64 0) 1 8 Tryd.underlying40 hi hz0 hz1 hz2 rfl (by decide) v n0 _ hs (ownsRow_below hr hal) ⟨W.heap.size, 0, none⟩ 1 1 [.int .i64 u] hx rfl (cell_new1 W _ _) (fun z hz => by rw [List.mem_singleton.1 hz]; rfl) (by simp only [maxLen]; omega) (by omega) (by simp; omega) (fun v' w' ho' hg _ => h v' w' ho' hg)
end Go.Proofs.YtdeaficdfooegaaDoor
