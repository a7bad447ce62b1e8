/- Contract: Range.And. -/
import Derived.Test.YtheemhelioendaaGreatDoorOrW
import Derived.Deep.RegionHeld3
namespace Go.Proofs.YtheemhelioendaaGreatDoor
open Go.RowKit
set_option linter.unusedVariables false

def AndP (xs ys : List Spn) (w : World) (e : Ending) (w' : World) : Prop :=
  ∃ v r, e = .returned (.agg #[v]) ∧ IsSp w' v r ∧ AndR xs ys r ∧ r.length ≤ xs.length + ys.length + 3 ∧ (∀ b, v.ownBlock = some b → w.heap.size ≤ b) ∧ Below w.heap.size w w'
/-- The three blocks of the call's own. -/
structure Box3 (p : Nat) (u v : Value) (w : World) : Prop where
  b1 : w.heap[p]? = some (.cells #[u] 49 (0, 0))
  b2 : w.heap[p + 1]? = some (.cells #[v] 49 (0, 0))
  b3 : w.heap[p + 1 + 1]? = some (.cells #[.slice none 0 0] 49 (0, 0))
theorem Box3.below {p : Nat} {u v : Value} {w w' : World} (h : Box3 p u v w) (hb : Below w.heap.size w w') : Box3 p u v w' :=
  ⟨(hb.block _ (lt_of_block h.b1)).trans h.b1, (hb.block _ (lt_of_block h.b2)).trans h.b2, (hb.block _ (lt_of_block h.b3)).trans h.b3⟩
set_option maxRecDepth 100000 in
set_option maxHeartbeats 8000000 in
theorem and_any (va vb : Value) (xs ys : List Spn) (w : World) (ha : IsSp w va xs) (hb : IsSp w vb ys) (hc : Canon xs) (hd : Canon ys) (hl1 : xs.length ≤ 40000) (hl2 : ys.length ≤ 40000) (hl3 : xs.length + ys.length ≤ 40000) : Calls Tryz.prog 120 #[.agg #[va], .agg #[vb]] w (AndP xs ys w) := by
  obtain ⟨a1, c1, rfl, _, _⟩ := ha.shape
  obtain ⟨a2, c2, rfl, _, _⟩ := hb.shape
  obtain ⟨W, hW⟩ : ∃ W, W = (((w.alloc (.cells #[.slice a1 xs.length c1] 49)).alloc (.cells #[.slice a2 ys.length c2] 49)).alloc (.cells #[.slice none 0 0] 49)) := ⟨_, rfl⟩
  have hb3 : Below w.heap.size w W := by rw [hW]; exact (((Below.refl _ _).alloc (Nat.le_refl _) _).alloc (by simp) _).alloc (by simp; omega) _
  have hbox : Box3 w.heap.size (.slice a1 xs.length c1) (.slice a2 ys.length c2) W := by
    rw [hW]
    exact ⟨heap_up (heap_up (heap_at rfl)), heap_up (heap_at (by simp)), heap_at (by simp)⟩
  have hdr : Below W.heap.size W W.drew := (Below.refl _ _).drew
  have hn1 := not_any _ xs W.drew (ha.below (hb3.trans (hdr.mono hb3.size))) hc (by omega)
  have k1 := cell_of_one (hbox.below hdr).b1; have k2 := cell_of_one (hbox.below hdr).b2
  have HN1 := Lib.hid hn1; have Hbox := Lib.hid (hbox.below hdr); have HB := Lib.hid (hb3.trans (hdr.mono hb3.size)); have Hb := Lib.hid hb; have Hc := Lib.hid hc; have Hd := Lib.hid hd
  clear hn1 hb3 hdr ha hb hc hd hbox
  go_enter Tryz.func120, Tryz.ntmps120
  go_upto_region 1 with fail
  rw [← hW]
  clear hW
  go_region_held3 (fun w' => w'.cell? ⟨w.heap.size, 0, none⟩ = some (.slice a1 xs.length c1) ∧ w'.cell? ⟨w.heap.size + 1, 0, none⟩ = some (.slice a2 ys.length c2))
    (first | exact ⟨k1, k2⟩ | exact ⟨k51, k52⟩ | exact ⟨k61, k62⟩ | exact ⟨k71, k72⟩ | exact ⟨k81, k82⟩ | exact ⟨k91, k92⟩ | go_keep)
    (first
      | (go_at_call 144; (with_reducible refine (HN1.out).mono ?_); rintro e w5 ⟨v5, r5, rfl, hs5, hn5, hl5, hf5, hb5⟩; obtain ⟨a5, c5, rfl, _⟩ := hs5.shape; have Hbox5 := Lib.hid (Hbox.out.below hb5); have k51 := cell_of_one Hbox5.out.b1; have k52 := cell_of_one Hbox5.out.b2; have HB5 := Lib.hid (HB.out.trans (hb5.mono HB.out.size)); have HN2 := Lib.hid (not_any _ ys w5 (Hb.out.below HB5.out) Hd.out (by omega)); have Hs5 := Lib.hid hs5; have Hn5 := Lib.hid hn5; have Hl5 := Lib.hid hl5; clear hs5 hn5 hl5 hb5)
      | (go_at_call 144; (with_reducible refine (HN2.out).mono ?_); rintro e w6 ⟨v6, r6, rfl, hs6, hn6, hl6, hf6, hb6⟩; obtain ⟨a6, c6, rfl, _⟩ := hs6.shape; have Hbox6 := Lib.hid (Hbox5.out.below hb6); have k61 := cell_of_one Hbox6.out.b1; have k62 := cell_of_one Hbox6.out.b2; have HB6 := Lib.hid (HB5.out.trans (hb6.mono HB5.out.size)); have HO := Lib.hid (or_any _ _ r5 r6 w6 (Hs5.out.below hb6) hs6 Hn5.out.1 hn6.1 (by have := Hl5.out; omega)); have Hn6 := Lib.hid hn6; have Hl6 := Lib.hid hl6; clear hs6 hn6 hl6 hb6)
      | (go_at_call 121; (with_reducible refine (HO.out).mono ?_); rintro e w7 ⟨v7, r7, rfl, hs7, ho7, hl7, hf7, hb7⟩; obtain ⟨a7, c7, rfl, _⟩ := hs7.shape; have Hbox7 := Lib.hid (Hbox6.out.below hb7); have k71 := cell_of_one Hbox7.out.b1; have k72 := cell_of_one Hbox7.out.b2; have HB7 := Lib.hid (HB6.out.trans (hb7.mono HB6.out.size)); have HN3 := Lib.hid (not_any _ r7 w7 hs7 ho7.1 (by have := Hl5.out; have := Hl6.out; omega)); have Ho7 := Lib.hid ho7; have Hl7 := Lib.hid hl7; clear hs7 ho7 hl7 hb7)
      | (go_at_call 144; (with_reducible refine (HN3.out).mono ?_); rintro e w8 ⟨v8, r8, rfl, hs8, hn8, hl8, hf8, hb8⟩; obtain ⟨a8, c8, rfl, _⟩ := hs8.shape; have Hbox8 := Lib.hid (Hbox7.out.below hb8); have k81 := cell_of_one Hbox8.out.b1; have k82 := cell_of_one Hbox8.out.b2; have k83 := cell_of_one Hbox8.out.b3; have k84 := free_of_one Hbox8.out.b3; have k85 := lt_of_block Hbox8.out.b3; have k91 := (World.cell?_of_block (a := ⟨w.heap.size, 0, none⟩) (Below.heap_setCell w8 ⟨w.heap.size + 1 + 1, 0, none⟩ (.slice a8 r8.length c8) w.heap.size (by show w.heap.size ≠ w.heap.size + 1 + 1; omega))).trans k81; have k92 := (World.cell?_of_block (a := ⟨w.heap.size + 1, 0, none⟩) (Below.heap_setCell w8 ⟨w.heap.size + 1 + 1, 0, none⟩ (.slice a8 r8.length c8) (w.heap.size + 1) (by show w.heap.size + 1 ≠ w.heap.size + 1 + 1; omega))).trans k82; have HB8 := Lib.hid (HB7.out.trans (hb8.mono HB7.out.size)); have Hs8 := Lib.hid hs8; have Hn8 := Lib.hid hn8; have Hl8 := Lib.hid hl8; have Hf8 := Lib.hid (show ∀ b, (Value.slice a8 r8.length c8).ownBlock = some b → w.heap.size + 1 + 1 < b from fun b hb => Nat.lt_of_lt_of_le (lt_of_block Hbox7.out.b3) (hf8 b hb)); clear hs8 hn8 hl8 hf8 hb8))
  have k4 := cell_of_one (one_setCell (u := .slice a8 r8.length c8) Hbox8.out.b3)
  go_wp2_with fail
  exact bodyPost_ret (v := .agg #[.slice a8 r8.length c8]) (by simp [results, Tryz.results120, go_sem, k4]) rfl ⟨_, r8, rfl, Hs8.out.set_other Hf8.out _, AndR.of Hc.out Hd.out Hn5.out Hn6.out Ho7.out Hn8.out, by have := Hl5.out; have := Hl6.out; have := Hl7.out; have := Hl8.out; omega, fun b hb => by have := Hf8.out b hb; omega, HB8.out.setCell (by show w.heap.size ≤ w.heap.size + 1 + 1; omega) _⟩
end Go.Proofs.YtheemhelioendaaGreatDoor
