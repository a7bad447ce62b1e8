/- Owned rows of integers; slices.Clone of integers. -/
import Derived.Test.YtdeaficdfooegaaDoorAppend
import Derived.Test.YtdeaficdfooegaaDoorIndex
namespace Go.Proofs.YtdeaficdfooegaaDoor
open Go.RowKit
set_option linter.unusedVariables false

/-- An owned row of integers is a slice of integers. -/
theorem isInts_of_owns {w : World} {base e : Nat} {v : Value} {n : Nat} {xs : List Int} (h : w.ownsRow base e 1 v n (xs.map (Value.int .i64))) (hl : xs.length ≤ 17592186044416) : IsInts w v xs := by
  obtain ⟨h1, h2⟩ := h
  have hn : n = xs.length := by simp at h1; omega
  subst hn
  rcases h2 with ⟨rfl, h3⟩ | ⟨g, cap, cur, rfl, hg, hh, h3, h4, h5, h6⟩
  · have e : xs = [] := List.eq_nil_of_length_eq_zero h3
    subst e
    exact ⟨none, 0, 0, 0, rfl, fun h => absurd rfl h, Nat.le_refl _, Nat.zero_le _, fun i hi => absurd hi (by simp), fun h => absurd rfl h, Nat.zero_le _⟩
  · refine ⟨_, g, 0, cap, rfl, fun _ => rfl, h3, h4, fun i hi => ?_, fun _ => (Array.getElem?_eq_some_iff.1 hh).1, hl⟩
    rw [cell_of_row w g (0 + i) cur e (0, 0) hh, Nat.zero_add]
    have h7 : (cur.toList.take (xs.length * 1))[i]? = some (.int .i64 xs[i]) := by rw [h6]; simp [hi]
    rw [List.getElem?_take] at h7
    have e2 : xs.getD i 0 = xs[i] := by simp [hi]
    rw [e2]
    split at h7
    · simpa using h7
    · cases h7
/-- The first of an owned row. -/
theorem owns_take {w : World} {base e : Nat} {a : Option Addr} {n c : Nat} {xs : List Value} (h : w.ownsRow base e 1 (.slice a n c) n xs) {k : Nat} (hk : k ≤ n) : w.ownsRow base e 1 (.slice a k c) k (xs.take k) := by
  obtain ⟨h1, h2⟩ := h
  refine ⟨by rw [List.length_take]; omega, ?_⟩
  rcases h2 with ⟨e, h3⟩ | ⟨g, cap, cur, e, hg, hh, h3, h4, h5, h6⟩
  · cases e
    have : k = 0 := by omega
    subst this
    exact .inl ⟨rfl, rfl⟩
  · cases e
    refine .inr ⟨g, c, cur, rfl, hg, hh, by omega, h4, h5, ?_⟩
    rw [← h6, List.take_take, Nat.min_eq_left (by omega)]
    simp

theorem ints_cells {w : World} {a : Option Addr} {n c : Nat} {xs : List Int} (h : IsInts w (.slice a n c) xs) : ∀ ad, a = some ad → ∀ j u, (xs.map (Value.int .i64))[j]? = some u → w.cell? (ad.add j) = some u := by
  obtain ⟨a', b, o, c', hh, h2, _, _, h5, _⟩ := h
  cases hh
  intro ad had j u hu
  rw [List.getElem?_map] at hu
  obtain ⟨x, hx, rfl⟩ := Option.map_eq_some_iff.1 hu
  obtain ⟨hj, rfl⟩ := List.getElem?_eq_some_iff.1 hx
  rw [h2 (by intro e; subst e; simp at hj)] at had
  cases had
  have := h5 j hj
  rw [getD_at _ _ hj] at this
  unfold Addr.add
  split
  · subst j; simpa using this
  · exact this

set_option maxHeartbeats 1000000 in
/-- slices.Clone of integers. -/
theorem cloneI_any (v : Value) (xs : List Int) (w : World) (hv : IsInts w v xs) (hlen : xs.length ≤ 1000000) :
    Calls Tryd.prog 147 #[v] w fun e w' => (∃ v', e = .returned v' ∧ w'.ownsRow w.heap.size 3 1 v' xs.length (xs.map (Value.int .i64))) ∧ Below w.heap.size w w' := by
  obtain ⟨a, c, rfl, hl, hm, _⟩ := hv.shape
  have hcells := ints_cells hv
  have heq := fun (W : World) n c => Lib.run_eql_slice_nil (P := Tryd.prog) W 40 3 a n c 0 0 Tryd.underlying40
  obtain ⟨i0, hi, hz0, hz1, hz2⟩ := info_parts infoInt
  cases a with
  | none =>
    have e : xs = [] := by
      cases xs with
      | nil => rfl
      | cons x l => obtain ⟨b, o, h, _⟩ := hv.addr (k := 0) (by simp); cases h
    subst e
    go_enter Tryd.func147, Tryd.ntmps147
    go_wp2
    go_ret
    exact ⟨⟨_, rfl, World.ownsRow_nil _ _ _ _⟩, Below.refl _ _⟩
  | some ad =>
    have hal : Below w.heap.size w (w.alloc (.cells #[] 3)) := (Below.refl _ _).alloc (Nat.le_refl _) _
    have hcells' := fun j u (h : (xs.map (Value.int .i64))[j]? = some u) => (World.cell?_of_block (hal.block (ad.add j).block (World.block_lt_of_cell? _ _ (hcells ad rfl j u h)))).trans (hcells ad rfl j u h)
    have Hal := Lib.hid hal; clear hal
    have Hv := Lib.hid hv; clear hv
    have Hc := Lib.hid hcells'; clear hcells hcells'
    go_enter Tryd.func147, Tryd.ntmps147
    go_wp2_with (at_builtin; refine wpList_append_own _ rfl _ _ 40 rfl w.heap.size 3 i0 (.int .i64 0) 1 8 Tryd.underlying40 hi hz0 hz1 hz2 rfl (by decide) _ _ _ rfl (World.ownsRow_made w #[] 0 (Nat.le_refl _) (Nat.zero_le _) rfl) ad _ _ (xs.map (Value.int .i64)) rfl (by simp) Hc.out (ints_oneCell _ _) (by simp only [maxLen]; omega) (by omega) (by simp) ?_; intro v' w1 hown hgrow _; have Hown := Lib.hid hown; have Hgrow := Lib.hid hgrow; clear hown hgrow)
    go_ret
    have hb : Below w.heap.size w w1 := Hal.out.grown Hgrow.out (by simp) (fun k hk => by cases hk; exact Nat.le_refl _)
    refine ⟨⟨v', rfl, ?_⟩, hb⟩
    have := Hown.out
    rw [Nat.zero_add, List.nil_append] at this
    exact this
end Go.Proofs.YtdeaficdfooegaaDoor
