/- Contract: Range.Or. -/
import Derived.Test.YtheemhelioendaaGreatDoorOr
namespace Go.Proofs.YtheemhelioendaaGreatDoor
open Go.RowKit
set_option linter.unusedVariables false

theorem madeO_any {base B n : Nat} {v : Value} {f : Nat → Spn} {w : World} (h : OutR w base v n f) (hfit : ∀ s ∈ spL n f, Fits s) (hn : n ≤ 100000) (hB : B ≤ base) (hB2 : B ≤ w.heap.size) : Calls Tryz.prog 143 #[v] w (MadeP (spL n f) B w) := by
  rcases h with ⟨rfl, rfl⟩ | ⟨g, cap, rfl, h1, h2, h3⟩
  · exact madeNil_any B w hB2
  · exact made_any g cap n B f w h3 hfit hn h2 (by omega) hB2
def OrP (xs ys : List Spn) (w : World) (e : Ending) (w' : World) : Prop :=
  ∃ v r, e = .returned (.agg #[v]) ∧ IsSp w' v r ∧ OrR xs ys r ∧ r.length ≤ xs.length + ys.length ∧ (∀ b, v.ownBlock = some b → w.heap.size ≤ b) ∧ Below w.heap.size w w'
set_option maxRecDepth 100000 in
set_option maxHeartbeats 8000000 in
theorem or_any (va vb : Value) (xs ys : List Spn) (w : World) (ha : IsSp w va xs) (hb : IsSp w vb ys) (hc : Canon xs) (hd : Canon ys) (hl : xs.length + ys.length ≤ 100000) : Calls Tryz.prog 121 #[.agg #[va], .agg #[vb]] w (OrP xs ys w) := by
  obtain ⟨a1, c1, rfl, _, _⟩ := ha.shape
  obtain ⟨a2, c2, rfl, _, _⟩ := hb.shape
  have h3 : Below w.heap.size w (((w.alloc (.cells #[.slice a1 xs.length c1] 49)).alloc (.cells #[.slice a2 ys.length c2] 49)).alloc (.cells #[.slice none 0 0] 49)) := (((Below.refl _ _).alloc (Nat.le_refl _) _).alloc (by simp) _).alloc (by simp; omega) _
  have hblk : (((w.alloc (.cells #[.slice a1 xs.length c1] 49)).alloc (.cells #[.slice a2 ys.length c2] 49)).alloc (.cells #[.slice none 0 0] 49)).heap[w.heap.size + 1 + 1]? = some (.cells #[.slice none 0 0] 49 (0, 0)) := heap_at (by simp)
  have hsz : (((w.alloc (.cells #[.slice a1 xs.length c1] 49)).alloc (.cells #[.slice a2 ys.length c2] 49)).alloc (.cells #[.slice none 0 0] 49)).heap.size = w.heap.size + 1 + 1 + 1 := by simp
  have hcc : ∀ W : World, W.heap.size = w.heap.size + 1 + 1 + 1 → Below w.heap.size w W → Calls Tryz.prog 146 #[.slice (some ⟨w.heap.size + 1 + 1 + 1, 0, none⟩) 2 2] (W.alloc (.cells #[.slice a1 xs.length c1, .slice a2 ys.length c2] 47)) fun e w' => ∃ v f n, e = .returned v ∧ n = xs.length + ys.length ∧ OutR w' (w.heap.size + 1 + 1 + 1 + 1) v n f ∧ spL n f = xs ++ ys ∧ Below (w.heap.size + 1 + 1 + 1 + 1) (W.alloc (.cells #[.slice a1 xs.length c1, .slice a2 ys.length c2] 47)) w' := fun W hW hbW => by
    have hbl := hbW.trans ((Below.refl W.heap.size W).alloc (Nat.le_refl _) (.cells #[.slice a1 xs.length c1, .slice a2 ys.length c2] 47) |>.mono hbW.size)
    have h := concat_any (w.heap.size + 1 + 1 + 1) _ _ xs ys (W.alloc (.cells #[.slice a1 xs.length c1, .slice a2 ys.length c2] 47)) (heap_at hW.symm) (ha.below hbl) (hb.below hbl) hl
    rw [alloc_size, hW] at h
    exact h
  have hfit : ∀ s ∈ xs ++ ys, Fits s := fun s hs => by
    have hw : Wide s := by
      rcases List.mem_append.1 hs with h | h
      · exact hc.ok s h
      · exact hd.ok s h
    exact fun _ => ⟨hw.1, hw.2.2⟩
  have hcc2 := hcc _ hsz h3
  have Hcc := Lib.hid hcc2; have Hfit := Lib.hid hfit; have H3 := Lib.hid h3; have Hblk := Lib.hid hblk; have Hsz := Lib.hid hsz
  clear hcc hcc2 hfit h3 hblk hsz ha hb hc hd
  go_enter Tryz.func121, Tryz.ntmps121
  go_wp2_with fail
  refine Hcc.out.mono ?_
  rintro e w1 ⟨v, f, n, rfl, hn, hout, hsp, hb1⟩
  have hB1 := H3.out.trans ((Below.refl _ _).alloc (Nat.le_refl _) (.cells #[.slice a1 xs.length c1, .slice a2 ys.length c2] 47) |>.mono H3.out.size)
  have hB2 := hB1.trans (hb1.mono (by omega))
  have hs1 := hb1.size
  rw [alloc_size, Hsz.out] at hs1
  have hblk1 := (hb1.block (w.heap.size + 1 + 1) (by omega)).trans (heap_up Hblk.out)
  have hfit2 : ∀ s ∈ spL n f, Fits s := fun s hs => Hfit.out s (by rw [← hsp]; exact hs)
  have Hm := Lib.hid (madeO_any hout hfit2 (by omega) (Nat.le_refl (w.heap.size + 1 + 1 + 1 + 1)) (by omega))
  have Hsp := Lib.hid hsp; have HB2 := Lib.hid hB2; have Hblk1 := Lib.hid hblk1; have Hn := Lib.hid hn
  obtain ⟨av, cv, rfl⟩ := hout.shape
  clear hout hsp hb1 hB1 hB2 hblk1 hfit2 hn Hcc Hblk H3
  go_wp2_with fail
  refine Hm.out.mono ?_
  rintro e w10 ⟨v10, r, rfl, hsp10, hmd, hlen, hfr, hb10⟩
  obtain ⟨a10, c10, rfl, _⟩ := hsp10.shape
  have hblk10 := (hb10.block _ (by omega)).trans Hblk1.out
  have d1 := cell_of_one hblk10; have d2 := free_of_one hblk10; have d3 := lt_of_block hblk10
  have k4 := cell_of_one (one_setCell (u := .slice a10 r.length c10) hblk10)
  have hfin := (HB2.out.trans (hb10.mono (by omega))).setCell (p := ⟨w.heap.size + 1 + 1, 0, none⟩) (by show w.heap.size ≤ w.heap.size + 1 + 1; omega) (.slice a10 r.length c10)
  have hsp2 := hsp10.set_other (b := w.heap.size + 1 + 1) (fun b hb => by have := hfr b hb; omega) (.slice a10 r.length c10)
  rw [spL_len, Hn.out] at hlen
  rw [Hsp.out] at hmd
  have Hfin := Lib.hid hfin; have Hsp2 := Lib.hid hsp2; have Hmd := Lib.hid hmd; have Hlen := Lib.hid hlen; have Hfr := Lib.hid hfr
  clear hfin hsp2 hmd hlen hsp10 hfr hb10 hblk10 Hm
  go_wp2_with fail
  exact bodyPost_ret (v := .agg #[.slice a10 r.length c10]) (by simp [results, Tryz.results121, go_sem, k4]) rfl ⟨_, r, rfl, Hsp2.out, OrR.of_made Hmd.out, Hlen.out, fun b hb => by have := Hfr.out b hb; omega, Hfin.out⟩
end Go.Proofs.YtheemhelioendaaGreatDoor
