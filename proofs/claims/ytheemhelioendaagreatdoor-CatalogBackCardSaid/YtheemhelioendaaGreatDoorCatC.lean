/- Contracts: slices.Clone of lines and of items; Catalog.Lines, Items. (Printed by gen_catc.py.) -/
import Derived.Test.YtheemhelioendaaGreatDoorCatH
import Derived.WalkKit
namespace Go.Proofs.YtheemhelioendaaGreatDoor
open Go.RowKit
set_option linter.unusedVariables false

theorem infoLine : (Tryz.prog.info? 51).map (fun i => (i.zero, i.size, i.bytes)) = some (some (.agg #[.int .i64 0, .string ⟨#[]⟩, .int .i64 0, .int .i64 0, .int .i64 0, .string ⟨#[]⟩, .slice none 0 0]), 7, 88) := by kernel_rfl
theorem infoItem : (Tryz.prog.info? 61).map (fun i => (i.zero, i.size, i.bytes)) = some (some (.agg #[.string ⟨#[]⟩, .int .i64 0, .int .i64 0, .int .i64 0]), 4, 40) := by kernel_rfl
theorem under_lines : Tryz.prog.underlying 32 = some (.slice 51) := by kernel_rfl
theorem under_items : Tryz.prog.underlying 58 = some (.slice 61) := by kernel_rfl
theorem encItem_one (x : ItemM) : ∀ u ∈ encItem x, u.oneCell' = true := by
  intro u hu
  simp only [encItem, List.mem_cons, List.not_mem_nil, or_false] at hu
  rcases hu with rfl | rfl | rfl | rfl <;> rfl
theorem sp_one {w : World} {v : Value} {l : List Spn} (h : IsSp w v l) : v.oneCell' = true := by
  rcases h with ⟨rfl, _⟩ | ⟨g, cap, f, rfl, _⟩ <;> rfl
theorem encLine_one {w : World} {x : LineM} (h : LineIn w x) : ∀ u ∈ encLine x, u.oneCell' = true := by
  intro u hu
  simp only [encLine, List.mem_cons, List.not_mem_nil, or_false] at hu
  rcases hu with rfl | rfl | rfl | rfl | rfl | rfl | rfl
  · rfl
  · rfl
  · rfl
  · rfl
  · rfl
  · rfl
  · exact sp_one h.rng
/-- The cells of a row, one after the other. -/
theorem RowG.news {α : Type} {w : World} {base : Nat} {T : TypeId} {z : Nat} {enc : α → List Value} {g n c : Nat} {xs : List α} (h : RowG w base T z enc (.slice (some ⟨g, 0, none⟩) n c) xs) : ∀ (j : Nat) (u : Value), (flatG enc xs)[j]? = some u → w.cell? ((⟨g, 0, none⟩ : Addr).add j) = some u := by
  intro j u hu
  obtain ⟨h0, ⟨h1, h2⟩ | ⟨g', cap, cur, e, h1, h2, h3, h4, h5, h6⟩⟩ := h
  · cases h1
  · cases e
    rw [show (⟨g, 0, none⟩ : Addr).add j = ⟨g, j, none⟩ from by simp [Addr.add]; exact fun h => h.symm, cell_of_row _ _ _ _ _ _ h2]
    have hj : j < xs.length * z := by rw [← h0]; exact (List.getElem?_eq_some_iff.1 hu).1
    rw [← h6, List.getElem?_take_of_lt hj, Array.getElem?_toList] at hu
    exact hu
set_option maxHeartbeats 1000000 in
/-- slices.Clone. -/
theorem cloneLine_any (base : Nat) (v : Value) (xs : List LineM) (w : World) (hv : RowG w base 51 7 encLine v xs) (hone : ∀ u ∈ flatG encLine xs, u.oneCell' = true) (hlen : xs.length ≤ 100000) :
    Calls Tryz.prog 33 #[v] w fun e w' => (∃ v', e = .returned v' ∧ RowG w' w.heap.size 51 7 encLine v' xs) ∧ Below w.heap.size w w' := by
  obtain ⟨a, c, rfl, hl, hm⟩ := hv.shape
  have heq := fun (W : World) n c => Lib.run_eql_slice_nil (P := Tryz.prog) W 32 51 a n c 0 0 under_lines
  obtain ⟨i0, hi, hz0, hz1, hz2⟩ := info_parts infoLine
  cases a with
  | none =>
    have e : xs = [] := by
      cases xs with
      | nil => rfl
      | cons x l => obtain ⟨g, h, _⟩ := hv.at (by simp); cases h
    subst e
    clear hv
    go_enter Tryz.func33, Tryz.ntmps33
    go_wp2
    go_ret
    exact ⟨⟨_, rfl, RowG.nil _ _ _ _ _⟩, Below.refl _ _⟩
  | some ad =>
    obtain ⟨g, hg⟩ : ∃ g, ad = ⟨g, 0, none⟩ := by
      obtain ⟨h0, ⟨h1, h2⟩ | ⟨g', cap, cur, e, h1, h2, h3, h4, h5, h6⟩⟩ := hv
      · cases h1
      · cases e; exact ⟨_, rfl⟩
    subst hg
    have hal : Below w.heap.size w (w.alloc (.cells #[] 51)) := (Below.refl _ _).alloc (Nat.le_refl _) _
    have hc := (hv.below hal).news
    have hfl := flatG_len (enc := encLine) (z := 7) (fun x => rfl) xs
    have hone := hone
    have Hc := Lib.hid hc; have Hfl := Lib.hid hfl; have Hone := Lib.hid hone; have Hal := Lib.hid hal
    clear hc hfl hone hal hv
    go_enter Tryz.func33, Tryz.ntmps33
    go_wp2_with (at_builtin; refine wpList_append_own _ rfl _ _ 32 rfl w.heap.size 51 i0 (.agg #[.int .i64 0, .string ⟨#[]⟩, .int .i64 0, .int .i64 0, .int .i64 0, .string ⟨#[]⟩, .slice none 0 0]) 7 88 under_lines hi hz0 hz1 hz2 rfl (by decide) _ _ _ rfl (World.ownsRow_made w #[] 0 (Nat.le_refl _) (Nat.zero_le _) rfl) ⟨g, 0, none⟩ _ _ (flatG encLine xs) rfl Hfl.out Hc.out Hone.out (by simp only [maxLen]; omega) (by omega) (by simp) ?_; intro v' w1 hown hgrow _; have Hown := Lib.hid hown; have Hgrow := Lib.hid hgrow; clear hown hgrow)
    go_ret
    have hb : Below w.heap.size w w1 := Hal.out.grown Hgrow.out (by simp) (fun k hk => by cases hk; exact Nat.le_refl _)
    refine ⟨⟨v', rfl, ?_⟩, hb⟩
    have := Hown.out
    rw [Nat.zero_add, List.nil_append] at this
    exact this
set_option maxHeartbeats 1000000 in
/-- slices.Clone. -/
theorem cloneItem_any (base : Nat) (v : Value) (xs : List ItemM) (w : World) (hv : RowG w base 61 4 encItem v xs) (hlen : xs.length ≤ 100000) :
    Calls Tryz.prog 56 #[v] w fun e w' => (∃ v', e = .returned v' ∧ RowG w' w.heap.size 61 4 encItem v' xs) ∧ Below w.heap.size w w' := by
  obtain ⟨a, c, rfl, hl, hm⟩ := hv.shape
  have heq := fun (W : World) n c => Lib.run_eql_slice_nil (P := Tryz.prog) W 58 61 a n c 0 0 under_items
  obtain ⟨i0, hi, hz0, hz1, hz2⟩ := info_parts infoItem
  cases a with
  | none =>
    have e : xs = [] := by
      cases xs with
      | nil => rfl
      | cons x l => obtain ⟨g, h, _⟩ := hv.at (by simp); cases h
    subst e
    clear hv
    go_enter Tryz.func56, Tryz.ntmps56
    go_wp2
    go_ret
    exact ⟨⟨_, rfl, RowG.nil _ _ _ _ _⟩, Below.refl _ _⟩
  | some ad =>
    obtain ⟨g, hg⟩ : ∃ g, ad = ⟨g, 0, none⟩ := by
      obtain ⟨h0, ⟨h1, h2⟩ | ⟨g', cap, cur, e, h1, h2, h3, h4, h5, h6⟩⟩ := hv
      · cases h1
      · cases e; exact ⟨_, rfl⟩
    subst hg
    have hal : Below w.heap.size w (w.alloc (.cells #[] 61)) := (Below.refl _ _).alloc (Nat.le_refl _) _
    have hc := (hv.below hal).news
    have hfl := flatG_len (enc := encItem) (z := 4) (fun x => rfl) xs
    have hone : ∀ u ∈ flatG encItem xs, u.oneCell' = true := fun u hu => by
      unfold flatG at hu
      obtain ⟨x, _, hx⟩ := List.mem_flatMap.1 hu
      exact encItem_one x u hx
    have Hc := Lib.hid hc; have Hfl := Lib.hid hfl; have Hone := Lib.hid hone; have Hal := Lib.hid hal
    clear hc hfl hone hal hv
    go_enter Tryz.func56, Tryz.ntmps56
    go_wp2_with (at_builtin; refine wpList_append_own _ rfl _ _ 58 rfl w.heap.size 61 i0 (.agg #[.string ⟨#[]⟩, .int .i64 0, .int .i64 0, .int .i64 0]) 4 40 under_items hi hz0 hz1 hz2 rfl (by decide) _ _ _ rfl (World.ownsRow_made w #[] 0 (Nat.le_refl _) (Nat.zero_le _) rfl) ⟨g, 0, none⟩ _ _ (flatG encItem xs) rfl Hfl.out Hc.out Hone.out (by simp only [maxLen]; omega) (by omega) (by simp) ?_; intro v' w1 hown hgrow _; have Hown := Lib.hid hown; have Hgrow := Lib.hid hgrow; clear hown hgrow)
    go_ret
    have hb : Below w.heap.size w w1 := Hal.out.grown Hgrow.out (by simp) (fun k hk => by cases hk; exact Nat.le_refl _)
    refine ⟨⟨v', rfl, ?_⟩, hb⟩
    have := Hown.out
    rw [Nat.zero_add, List.nil_append] at this
    exact this
set_option maxHeartbeats 1000000 in
theorem lines_any (p : Nat) (vl vi : Value) (ls : List LineM) (items : List ItemM) (w : World) (h : CatAt w p vl vi ls items) (hn : ls.length ≤ 100000) :
    Calls Tryz.prog 11 #[.pointer (some ⟨p, 0, none⟩)] w fun e w' => (∃ v', e = .returned v' ∧ IsLines w' w.heap.size v' ls) ∧ Below w.heap.size w w' := by
  have hone : ∀ u ∈ flatG encLine ls, u.oneCell' = true := fun u hu => by
    unfold flatG at hu
    obtain ⟨x, hx, hu⟩ := List.mem_flatMap.1 hu
    exact encLine_one (h.lines.ins x hx) u hu
  have hc := cloneLine_any 0 vl ls w h.lines.row hone hn
  obtain ⟨d1, d2, d3, d4⟩ := cellsC h.box
  obtain ⟨a, c, rfl, _⟩ := h.lines.row.shape
  have Hc := Lib.hid hc; have H := Lib.hid h
  clear hc h hone
  go_enter Tryz.func11, Tryz.ntmps11
  go_wp2_with fail
  refine Hc.out.mono ?_
  rintro e w1 ⟨⟨v', rfl, hr⟩, hb⟩
  have Hr := Lib.hid hr; have Hb := Lib.hid hb
  clear hr hb
  go_wp2_with fail
  go_ret
  exact ⟨⟨_, rfl, Hr.out, fun x hx => (H.out.lines.ins x hx).below Hb.out⟩, Hb.out⟩
set_option maxHeartbeats 1000000 in
theorem items_any (p : Nat) (vl vi : Value) (ls : List LineM) (items : List ItemM) (w : World) (h : CatAt w p vl vi ls items) (hn : items.length ≤ 100000) :
    Calls Tryz.prog 24 #[.pointer (some ⟨p, 0, none⟩)] w fun e w' => (∃ v', e = .returned v' ∧ IsItems w' w.heap.size v' items) ∧ Below w.heap.size w w' := by
  have hc := cloneItem_any 0 vi items w h.its hn
  obtain ⟨d1, d2, d3, d4⟩ := cellsC h.box
  obtain ⟨a, c, rfl, _⟩ := RowG.shape h.its
  have Hc := Lib.hid hc
  clear hc h
  go_enter Tryz.func24, Tryz.ntmps24
  go_wp2_with fail
  refine Hc.out.mono ?_
  rintro e w1 ⟨⟨v', rfl, hr⟩, hb⟩
  have Hr := Lib.hid hr; have Hb := Lib.hid hb
  clear hr hb
  go_wp2_with fail
  go_ret
  exact ⟨⟨_, rfl, Hr.out⟩, Hb.out⟩
end Go.Proofs.YtheemhelioendaaGreatDoor
