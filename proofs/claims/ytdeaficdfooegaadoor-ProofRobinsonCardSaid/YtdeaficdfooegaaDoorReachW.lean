/- Contracts: the arena's Reach. -/
import Derived.Test.YtdeaficdfooegaaDoorMake
import Derived.Test.YtdeaficdfooegaaDoorOwns
import Derived.Deep.LoopGhost
namespace Go.Proofs.YtdeaficdfooegaaDoor
open Go.RowKit
set_option linter.unusedVariables false

/-- How many are not seen yet. -/
def unseen (R : Nat) (seen : Nat → Bool) : Nat := (List.range R).countP fun k => !seen k
def mark (seen : Nat → Bool) (k0 : Nat) : Nat → Bool := fun k => if k = k0 then true else seen k
theorem unseen_mark {seen : Nat → Bool} {k0 : Nat} (h0 : seen k0 = false) : ∀ {R : Nat}, k0 < R → unseen R (mark seen k0) + 1 = unseen R seen
  | 0, h => absurd h (Nat.not_lt_zero _)
  | R + 1, h => by
    have key : ∀ R, R ≤ k0 → unseen R (mark seen k0) = unseen R seen := by
      intro R hR
      unfold unseen
      apply List.countP_congr
      intro k hk
      rw [List.mem_range] at hk
      simp [mark, show k ≠ k0 by omega]
    unfold unseen
    rw [List.range_succ, List.countP_append, List.countP_append]
    by_cases e : k0 = R
    · subst e
      have := key k0 (Nat.le_refl _)
      unfold unseen at this
      rw [this]
      simp [mark, h0]
    · have := unseen_mark (R := R) h0 (by omega)
      unfold unseen at this
      simp only [List.countP_cons, List.countP_nil, mark, if_neg (fun e2 : R = k0 => e e2.symm)]
      unfold mark at this
      omega
theorem unseen_all (R : Nat) : unseen R (fun _ => false) = R := by
  unfold unseen
  rw [List.countP_eq_length.2 (by simp)]; simp

/-- Reach on its way: what was seen, what is to do. -/
structure RSt (w wr : World) (R : Nat) (seen : Nat → Bool) (T : List Int) (v : Value) : Prop where
  below : Below w.heap.size w wr
  size : w.heap.size < wr.heap.size
  blk : ∃ cs : Array Value, wr.heap[w.heap.size]? = some (.cells cs 4 (0, 0)) ∧ cs.size = R ∧ ∀ k, k < R → cs[k]? = some (.bool (seen k))
  own : wr.ownsRow (w.heap.size + 1) 3 1 v T.length (T.map (Value.int .i64))

section
variable {w wr w2 : World} {R : Nat} {seen : Nat → Bool} {T : List Int} {v : Value}
theorem RSt.grow (h : RSt w wr R seen T v) (hb : Below wr.heap.size wr w2) : RSt w w2 R seen T v := by
  obtain ⟨cs, h1, h2⟩ := h.blk
  exact ⟨h.below.trans (hb.mono h.below.size), Nat.lt_of_lt_of_le h.size hb.size, ⟨cs, by rw [hb.block _ h.size]; exact h1, h2⟩, ownsRow_below h.own hb⟩
theorem RSt.cell (h : RSt w wr R seen T v) {k : Nat} (hk : k < R) : wr.cell? ⟨w.heap.size, k, none⟩ = some (.bool (seen k)) := by
  obtain ⟨cs, h1, h2, h3⟩ := h.blk
  rw [cell_of_row wr _ _ _ _ _ h1]; exact h3 k hk
theorem RSt.free (h : RSt w wr R seen T v) (k : Nat) : wr.frozen? ⟨w.heap.size, k, none⟩ = false := by
  obtain ⟨cs, h1, h2, h3⟩ := h.blk
  exact not_frozen h1
theorem RSt.mark (h : RSt w wr R seen T v) (k0 : Nat) : RSt w (wr.setCell ⟨w.heap.size, k0, none⟩ (.bool true)) R (mark seen k0) T v := by
  obtain ⟨cs, h1, h2, h3⟩ := h.blk
  refine ⟨h.below.setCell (Nat.le_refl _) _, by simpa using h.size, ⟨_, heap_set h1 _ _, by simpa using h2, fun k hk => ?_⟩, ownsRow_setCell_below h.own (by show w.heap.size < _; omega) _⟩
  rw [Array.getElem?_setIfInBounds]
  unfold Go.Proofs.YtdeaficdfooegaaDoor.mark
  by_cases e : k = k0
  · subst e; rw [if_pos rfl, if_pos (by omega)]; simp
  · rw [if_neg (fun e2 => e e2.symm)]; simp only [if_neg e]; exact h3 k hk
theorem RSt.last {x : Int} (h : RSt w wr R seen (T ++ [x]) v) : ∃ g cap, v = .slice (some ⟨g, 0, none⟩) (T.length + 1) cap ∧ wr.cell? ⟨g, T.length, none⟩ = some (.int .i64 x) ∧ RSt w wr R seen T (.slice (some ⟨g, 0, none⟩) T.length cap) ∧ T.length + 1 ≤ cap ∧ cap ≤ maxLen ∧ w.heap.size < g ∧ g < wr.heap.size := by
  have ho := h.own
  rw [List.length_append, List.length_singleton] at ho
  have ho' := ho
  rcases ho.2 with ⟨rfl, e⟩ | ⟨g, cap, cur, rfl, hg, hh, h3, h4, h5, h6⟩
  · omega
  · refine ⟨g, cap, rfl, ?_, ⟨h.below, h.size, h.blk, ?_⟩, h3, h4, by omega, (Array.getElem?_eq_some_iff.1 hh).1⟩
    · rw [ho.cellAt _ (by omega)]; simp
    · have := owns_take ho' (k := T.length) (by omega)
      rw [List.map_append, List.take_left' (by simp)] at this
      exact this
theorem RSt.push (h : RSt w wr R seen T v) {l x : Int} {v' : Value} (ho : w2.ownsRow (w.heap.size + 1) 3 1 v' (T.length + 2) (T.map (Value.int .i64) ++ [.int .i64 l, .int .i64 x]))
    (hg : (wr.alloc (.cells #[.int .i64 l, .int .i64 x] 3)).grownBy w2 v.ownBlock) : RSt w w2 R seen (T ++ [l, x]) v' := by
  have hv : ∀ k, v.ownBlock = some k → w.heap.size + 1 ≤ k := fun k hk => (h.own.lt k hk).1
  have h1 := h.grow (w2 := wr.alloc (.cells #[.int .i64 l, .int .i64 x] 3)) ((Below.refl _ _).alloc (Nat.le_refl _) _)
  have h2 : Below (w.heap.size + 1) (wr.alloc (.cells #[.int .i64 l, .int .i64 x] 3)) w2 := (Below.refl _ _).grown hg h1.size hv
  obtain ⟨cs, g1, g2⟩ := h1.blk
  exact ⟨h1.below.trans (h2.mono (by omega)), Nat.lt_of_lt_of_le h1.size h2.size, ⟨cs, by rw [h2.block _ (by omega)]; exact g1, g2⟩, by simpa using ho⟩
end

theorem rst_start {w w2 : World} {R : Nat} {v : Value} {xs : List Int} (ho : w2.ownsRow (w.heap.size + 1) 3 1 v xs.length (xs.map (Value.int .i64))) (hb : Below (w.heap.size + 1) (w.alloc (.cells (madeCells #[.bool false] R) 4)) w2) : RSt w w2 R (fun _ => false) xs v := by
  refine ⟨((Below.refl _ _).alloc (Nat.le_refl _) _).trans (hb.mono (by omega)), by have := hb.size; simp at this; omega, ⟨madeCells #[.bool false] R, ?_, size_madeCells _ _, fun k hk => ?_⟩, ho⟩
  · rw [hb.block _ (by omega)]; exact heap_at rfl
  · rw [← Array.getElem?_toList, toList_madeCells_one]; simp [hk]

/-- What the search keeps, over an arena. -/
def RIn (c : Cells) (start : List Int) (seen : Nat → Bool) (T : List Int) : Prop := RInv (fun k => (c.at k).getD (0, 0, 0)) (fun k => (c.at k).isSome = true) start (fun k => seen k = true) T
theorem rin_start (c : Cells) (start : List Int) : RIn c start (fun _ => false) start := by
  unfold RIn
  have : (fun k : Nat => ((fun _ => false) k : Bool) = true) = fun _ : Nat => False := by funext k; simp
  rw [this]
  exact rinv_start _ _ _
theorem RIn.skip {c : Cells} {start T : List Int} {seen : Nat → Bool} {x : Int} (r : RIn c start seen (T ++ [x])) (hx : ∀ k n, x = ((k : Nat) : Int) + 2 → c.at k = some n → seen k = true) : RIn c start seen T :=
  RInv.skip r (fun k e hu => by obtain ⟨n, hn⟩ := Option.isSome_iff_exists.1 hu; exact hx k n e hn)
theorem RIn.see {c : Cells} {start T : List Int} {seen : Nat → Bool} {k0 : Nat} {n : Nd} (r : RIn c start seen (T ++ [(k0 : Int) + 2])) (hn : c.at k0 = some n) : RIn c start (mark seen k0) (T ++ [n.2.1, n.2.2]) := by
  have h := RInv.see r (by rw [hn]; rfl)
  simp only [hn, Option.getD_some] at h
  unfold RIn
  have : (fun k : Nat => mark seen k0 k = true) = fun k => seen k = true ∨ k = k0 := by
    funext k; unfold mark; split <;> simp [*]
  rw [this]
  exact h
theorem RIn.done {c : Cells} {start : List Int} {seen : Nat → Bool} (r : RIn c start seen []) (k : Nat) : seen k = true ↔ RchC c start k := RInv.done r k

theorem cells_new_at (W : World) (us : List Value) (e : TypeId) (k : Nat) (hk : k = W.heap.size) : ∀ (j : Nat) (u : Value), us[j]? = some u → (W.alloc (.cells us.toArray e)).cell? ((⟨k, 0, none⟩ : Addr).add j) = some u := by
  subst hk
  intro j u hu
  have : (⟨W.heap.size, 0, none⟩ : Addr).add j = ⟨W.heap.size, j, none⟩ := by
    unfold Addr.add; split
    · subst j; rfl
    · simp
  rw [this, World.cell?_alloc_new]
  simpa using hu

/-- What was seen, as handles. -/
def outL (seen : Nat → Bool) (k : Nat) : List Int := ((List.range k).filter seen).map fun j : Nat => (j : Int) + 2
theorem outL_len (seen : Nat → Bool) (k : Nat) : (outL seen k).length ≤ k := by
  unfold outL; rw [List.length_map]; exact Nat.le_trans (List.length_filter_le _ _) (by simp)
theorem outL_no {seen : Nat → Bool} {k : Nat} (h : seen k = false) : outL seen (k + 1) = outL seen k := by
  unfold outL; rw [List.range_succ, List.filter_append]; simp [h]
theorem outL_yes {seen : Nat → Bool} {k : Nat} (h : seen k = true) : outL seen (k + 1) = outL seen k ++ [(k : Int) + 2] := by
  unfold outL; rw [List.range_succ, List.filter_append]; simp [h]
theorem reach_out {c : Cells} {start : List Int} {seen : Nat → Bool} {R : Nat} (hR : c.length = R) (r : RIn c start seen []) : reachM c start = outL seen R := by
  classical
  unfold reachM outL
  rw [hR]
  congr 1
  apply List.filter_congr
  intro k _
  cases hs : seen k
  · exact decide_eq_false (fun h => by rw [(r.done k).2 h] at hs; cases hs)
  · exact decide_eq_true ((r.done k).1 hs)

set_option maxRecDepth 100000 in
set_option maxHeartbeats 4000000 in
theorem reach_any (vs : Value) (start : List Int) (w : World) (b : Bk) (c : Cells) (ha : IsArena w b c) (hok : Ok c) (hv : IsInts w vs start) (hlen : start.length ≤ 100000) (hmax : ∀ x ∈ start, x ≤ 9223372036854775807) :
    Calls Tryd.prog 135 #[.pointer (some ⟨b.p, 0, none⟩), vs] w fun e w' => (∃ v', e = .returned v' ∧ IsInts w' v' (reachM c start) ∧ ∀ g, v'.ownBlock = some g → w.heap.size ≤ g) ∧ Below w.heap.size w w' := by
  obtain ⟨av, cv, rfl, hvl, hvm, _⟩ := hv.shape
  have hR := ha.room.2
  have lp : b.p < w.heap.size := ha.lt (.inl rfl)
  have f0 : w.cell? ⟨b.p, 0, none⟩ = some (.slice (some ⟨b.bn, 0, none⟩) b.R b.R) := by obtain ⟨_, _, hat, -⟩ := ha.mem; exact hat.f0
  have hm2 := run_make_row' (P := Tryd.prog) 150 4 (.bool false) 1 Tryd.underlying150 infoBool rfl .i64 .i64 b.R (by omega) (by omega)
  have hal : Below w.heap.size w (w.alloc (.cells (madeCells #[.bool false] b.R) 4)) := (Below.refl _ _).alloc (Nat.le_refl _) _
  have Hcl := Lib.hid (cloneI_any (.slice av start.length cv) start _ (hv.below hal) (by omega))
  have Ha := Lib.hid ha; have Hok := Lib.hid hok; have Hv := Lib.hid hv; have Hmax := Lib.hid hmax; have Hal := Lib.hid hal
  clear ha hok hv hmax hal
  obtain ⟨i0, hi, hz0, hz1, hz2⟩ := info_parts infoInt
  go_enter Tryd.func135, Tryd.ntmps135
  go_wp2_with fail
  refine Hcl.out.mono ?_
  rintro e w1 ⟨⟨v1, rfl, hown⟩, hb1⟩
  have hst : RSt w w1 b.R (fun _ => false) start v1 := rst_start (by simpa using hown) (by simpa using hb1)
  have Hst := Lib.hid hst; clear hst hown hb1
  go_wp2_with fail
  go_loopg [6] (3 * b.R + start.length) (fun gk v wr => ∃ (seen : Nat → Bool) (T : List Int), RSt w wr b.R seen T v ∧ RIn c start seen T ∧ gk = 3 * unseen b.R seen + T.length ∧ T.length + 2 * unseen b.R seen ≤ start.length + 2 * b.R ∧ ∀ x ∈ T, x ≤ 9223372036854775807)
  case atStart => exact ⟨_, _, Hst.out, rin_start c start, by rw [unseen_all], by rw [unseen_all]; omega, Hmax.out⟩
  case round =>
    clear Hst
    obtain ⟨seen, T, hst, hri, rfl, hle, hmx⟩ := hrel
    rcases List.eq_nil_or_concat T with rfl | ⟨T', x, rfl⟩
    · obtain ⟨a6, c6, rfl⟩ := owns_shape hst.own
      have Hst := Lib.hid hst; have Hri := Lib.hid hri; clear hst hri hmx
      have hsz := Hst.out.size
      obtain ⟨wo, hwo⟩ : ∃ wo : World, wo = wr := ⟨_, rfl⟩
      rw [← hwo] at Hst hsz ⊢
      clear hwo
      go_wp2_with fail
      go_loopg [10, 63] b.R (fun gk v i wr => ∃ k : Nat, k ≤ b.R ∧ gk = b.R - k ∧ i = .int .i64 k ∧ Below wo.heap.size wo wr ∧ wr.ownsRow wo.heap.size 3 1 v (outL seen k).length ((outL seen k).map (Value.int .i64)))
      case atStart => exact ⟨0, Nat.zero_le _, rfl, rfl, Below.refl _ _, World.ownsRow_nil _ _ _ _⟩
      case round =>
        obtain ⟨k, hk, rfl, rfl, hb, hown⟩ := hrel
        have Hb := Lib.hid hb; have Hown := Lib.hid hown
        clear hb
        by_cases hlt : k < b.R
        · have hc := (Hst.out.grow Hb.out).cell hlt
          have hlo := outL_len seen k
          cases hs : seen k
          · rw [hs] at hc
            have Hs := Lib.hid hs; clear hs hown
            go_wp2_with fail
            go_roundg (b.R - (k + 1))
            case measure => omega
            case rel => exact ⟨k + 1, by omega, rfl, by go_num, Hb.out, by rw [outL_no Hs.out]; exact Hown.out⟩
          · rw [hs] at hc
            have hs2 : wo.heap.size ≤ wr.heap.size := Hb.out.size
            have hown2 := hown.alloc (.cells #[.int .i64 ((k : Int) + 2)] 3)
            have Hown2 := Lib.hid hown2; clear hown2
            have Hs := Lib.hid hs; clear hs hown
            go_wp2_with (at_builtin; refine wpList_append_at _ rfl (.tmp 69) (.tmp 72) 40 rfl wo.heap.size 3 i0 (.int .i64 0) 1 8 Tryd.underlying40 hi hz0 hz1 hz2 rfl (by decide) _ _ _ rfl Hown2.out ⟨wr.heap.size, 0, none⟩ 1 1 [.int .i64 ((k : Int) + 2)] rfl rfl (cell_one_new _ _ _) (ints_oneCell _ [(k : Int) + 2]) (by simp only [maxLen]; omega) (by omega) (by simp; omega) ?_; intro v' w3 hown3 hgrow3 _; have Hown3 := Lib.hid hown3; have Hgrow3 := Lib.hid hgrow3; clear hown3 hgrow3)
            go_roundg (b.R - (k + 1))
            case measure => omega
            case rel => exact ⟨k + 1, by omega, rfl, by go_num, (Hb.out.alloc Hb.out.size _).grown Hgrow3.out (by have := Hb.out.size; simp; omega) (fun j hj => (Hown.out.lt j hj).1), by rw [outL_yes Hs.out, List.map_append, List.length_append]; exact Hown3.out⟩
        · obtain rfl : k = b.R := by omega
          clear hown
          go_wp2_with fail
          go_ret
          refine ⟨⟨_, rfl, ?_, fun g hg => Nat.le_trans Hst.out.below.size (Hown.out.lt g hg).1⟩, Hst.out.below.trans (Hb.out.mono Hst.out.below.size)⟩
          rw [reach_out Ha.out.len Hri.out]
          exact isInts_of_owns Hown.out (by have := outL_len seen b.R; omega)
    · rw [List.concat_eq_append] at hst hri hle hmx
      obtain ⟨g, cap, rfl, hcell, hst', hcap, hcm, hg1, hg2⟩ := hst.last
      have hx := hmx x (by simp)
      have hle' : T'.length + 1 + 2 * unseen b.R seen ≤ start.length + 2 * b.R := by simpa using hle
      have hmx' : ∀ y ∈ T', y ≤ 9223372036854775807 := fun y hy => hmx y (List.mem_append_left _ hy)
      have Hst := Lib.hid hst'; have Hri := Lib.hid hri; have Hmx := Lib.hid hmx'
      have Hle := Lib.hid hle'
      have hga := get_any x wr b c (Ha.out.below Hst.out.below) hx
      unfold maxLen at hcm
      have htl : T'.length ≤ 1000000 := by omega
      clear hst hst' hri hmx hmx' hle hle'
      cases hgm : getM c x with
      | none =>
        rw [hgm] at hga
        have Hga := Lib.hid hga; clear hga
        have Hgm := Lib.hid hgm; clear hgm
        go_wp2_with fail
        refine Hga.out.mono ?_
        rintro e w2 ⟨rfl, rfl⟩
        simp only [gotV, encNd, Option.getD_none, Option.isSome_none]
        go_wp2_with fail
        go_roundg (3 * unseen b.R seen + T'.length)
        case measure => simp only [List.length_concat]; omega
        case rel =>
          exact ⟨seen, T', Hst.out.grow (((Below.refl _ _).alloc (Nat.le_refl _) _).alloc (by simp) _), Hri.out.skip (fun k n e hn => by have h1 := Hgm.out; rw [e, getM_node, hn] at h1; cases h1), rfl, by have := Hle.out; omega, Hmx.out⟩
      | some n =>
        obtain ⟨a, l, h⟩ := n
        obtain ⟨k, hxk, hck, hkl⟩ := getM_some hgm
        rw [Ha.out.len] at hkl
        rw [hgm] at hga
        have Hga := Lib.hid hga; clear hga
        have hcl := Hok.out.low k _ hck
        have hch := Hok.out.high k _ hck
        have hl1 : l ≤ 4001 := Int.le_trans (hasM_le hcl.1) (by rw [Ha.out.len]; omega)
        have hh1 : h ≤ 4001 := Int.le_trans (hasM_le hch.1) (by rw [Ha.out.len]; omega)
        have Hck := Lib.hid hck; clear hck hcl hch hgm
        have hst3 := Hst.out.grow (w2 := (wr.alloc (.cells #[.int .i64 a, .int .i64 l, .int .i64 h] 106)).alloc (.cells #[.int .i64 a, .int .i64 l, .int .i64 h] 106)) (((Below.refl _ _).alloc (Nat.le_refl _) _).alloc (by simp) _)
        have hcs := Hst.out.cell hkl
        have hfz := Hst.out.free k
        have hsz := Hst.out.size
        have ex : x - 2 = (k : Int) := by omega
        cases hs : seen k
        · have hst4 := (Hst.out.mark k).grow (w2 := ((wr.setCell ⟨w.heap.size, k, none⟩ (.bool true)).alloc (.cells #[.int .i64 a, .int .i64 l, .int .i64 h] 106)).alloc (.cells #[.int .i64 a, .int .i64 l, .int .i64 h] 106)) (((Below.refl _ _).alloc (Nat.le_refl _) _).alloc (by simp) _)
          have hun := unseen_mark hs hkl
          rw [hs] at hcs
          have hown4 := hst4.own.alloc (.cells #[.int .i64 l, .int .i64 h] 3)
          have hcell4 := cells_new_at (((wr.setCell ⟨w.heap.size, k, none⟩ (.bool true)).alloc (.cells #[.int .i64 a, .int .i64 l, .int .i64 h] 106)).alloc (.cells #[.int .i64 a, .int .i64 l, .int .i64 h] 106)) [.int .i64 l, .int .i64 h] 3 (wr.heap.size + 1 + 1) (by simp)
          have hsz4 := hst4.size
          simp only [World.size_setCell, World.size_alloc] at hsz4
          have Hs := Lib.hid hs; have Hun := Lib.hid hun; have Hown4 := Lib.hid hown4; have Hst4 := Lib.hid hst4; have Hcell4 := Lib.hid hcell4
          clear hs hun hown4 hst4 hst3 hcell4
          subst hxk
          clear ex
          go_wp2_with fail
          refine Hga.out.mono ?_
          rintro e w2 ⟨rfl, rfl⟩
          simp only [gotV, encNd, Option.getD_some, Option.isSome_some]
          go_wp2_with (at_builtin; refine wpList_append_own _ rfl (.tmp 54) (.tmp 59) 40 rfl (w.heap.size + 1) 3 i0 (.int .i64 0) 1 8 Tryd.underlying40 hi hz0 hz1 hz2 rfl (by decide) _ _ _ rfl Hown4.out ⟨wr.heap.size + 1 + 1, 0, none⟩ 2 2 [.int .i64 l, .int .i64 h] rfl rfl Hcell4.out (ints_oneCell _ [l, h]) (by simp only [maxLen]; omega) (by omega) (by simp; omega) ?_; intro v' w3 hown3 hgrow3 _; have Hown3 := Lib.hid hown3; have Hgrow3 := Lib.hid hgrow3; clear hown3 hgrow3)
          go_roundg (3 * unseen b.R (mark seen k) + (T'.length + 2))
          case measure => have := Hun.out; simp only [List.length_concat]; omega
          case rel =>
            exact ⟨mark seen k, T' ++ [l, h], Hst4.out.push Hown3.out Hgrow3.out, Hri.out.see Hck.out, by simp, by have := Hle.out; have := Hun.out; simp; omega, fun y hy => (List.mem_append.1 hy).elim (Hmx.out y) (fun h2 => by simp at h2; omega)⟩
        · rw [hs] at hcs
          have Hs := Lib.hid hs; clear hs
          have Hst3 := Lib.hid hst3; clear hst3
          subst hxk
          clear ex
          go_wp2_with fail
          refine Hga.out.mono ?_
          rintro e w2 ⟨rfl, rfl⟩
          simp only [gotV, encNd, Option.getD_some, Option.isSome_some]
          go_wp2_with fail
          go_roundg (3 * unseen b.R seen + T'.length)
          case measure => simp only [List.length_concat]; omega
          case rel =>
            exact ⟨seen, T', Hst3.out, Hri.out.skip (fun k' n e hn => by obtain rfl : k' = k := by omega
                                                                         exact Hs.out), rfl, by have := Hle.out; omega, Hmx.out⟩
end Go.Proofs.YtdeaficdfooegaaDoor
