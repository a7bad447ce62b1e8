/- Contract: (*bdd.Space).Count. -/
import Derived.Test.YthmflcmbaldflaaGreatDoorCounts
namespace Go.Proofs.YthmflcmbaldflaaGreatDoor
open Go.RowKit
set_option linter.unusedVariables false

/-- Count on its way. -/
structure KSt (w wr : World) (s : Sb) (V : Int) (st : Sp) (bx : Nat) (sl : Value) : Prop where
  sp : IsSpace wr s V st
  below : Below w.heap.size w wr
  old : s.ps < w.heap.size
  res : wr.heap[w.heap.size]? = some (.cells #[.slice none 0 0] 43 (0, 0))
  box : wr.heap[bx]? = some (.cells #[sl] 43 (0, 0))
  lt : w.heap.size < bx
section
variable {w wr w2 : World} {s : Sb} {V : Int} {st : Sp} {bx : Nat} {sl : Value}
theorem KSt.grow (h : KSt w wr s V st bx sl) (hb : Below wr.heap.size wr w2) : KSt w w2 s V st bx sl :=
  ⟨h.sp.below hb, h.below.trans (hb.mono h.below.size), h.old, (hb.block _ (lt_of_block h.res)).trans h.res, (hb.block _ (lt_of_block h.box)).trans h.box, h.lt⟩
theorem KSt.cells (h : KSt w wr s V st bx sl) : wr.cell? ⟨s.ps, 0, none⟩ = some (.pointer (some ⟨s.b.p, 0, none⟩)) ∧ wr.cell? ⟨s.ps, 1, none⟩ = some (.int .i64 V) ∧ wr.cell? ⟨bx, 0, none⟩ = some sl := ⟨h.sp.s0, h.sp.s1, cell_of_one h.box⟩
theorem KSt.cellsR (h : KSt w wr s V st bx sl) (u : Value) : (wr.setCell ⟨w.heap.size, 0, none⟩ u).cell? ⟨s.ps, 0, none⟩ = some (.pointer (some ⟨s.b.p, 0, none⟩)) ∧ (wr.setCell ⟨w.heap.size, 0, none⟩ u).cell? ⟨s.ps, 1, none⟩ = some (.int .i64 V) ∧ (wr.setCell ⟨w.heap.size, 0, none⟩ u).cell? ⟨bx, 0, none⟩ = some sl := by
  have l1 := h.old; have l2 := h.lt
  refine ⟨?_, ?_, ?_⟩
  · rw [World.cell?_setCell_far _ _ _ _ (by dsimp only; omega)]; exact h.cells.1
  · rw [World.cell?_setCell_far _ _ _ _ (by dsimp only; omega)]; exact h.cells.2.1
  · rw [World.cell?_setCell_far _ _ _ _ (by dsimp only; omega)]; exact h.cells.2.2
end

set_option maxRecDepth 100000 in
set_option maxHeartbeats 8000000 in
theorem Count_any (V : Nat) (hV : V ≤ 24) (h : Int) (w : World) (s : Sb) (st : Sp) (hs : IsSpace w s V st) (co : COk V st.c) (hh : hasM st.c h = true) :
    Calls Tryz.prog 12 #[.pointer (some ⟨s.ps, 0, none⟩), .int .i64 h] w fun e w' => ∃ v, e = .returned (.tuple #[v, .nilIface]) ∧ IsNat w' v (sumS V V (den st.c h) (fun _ => false)) ∧ Below w.heap.size w w' := by
  have hmm := @run_makeMap Tryz.prog
  have hlen := hs.ar.len
  have hR := hs.ar.room.2
  have lh : h ≤ 9223372036854775807 := by have := hasM_le hh; omega
  have c0 := hs.s0
  have lps := hs.lps
  have hsum := cnt_all hV co hh (fun _ => false)
  obtain ⟨N, eN⟩ : ∃ N, N = sumS V V (den st.c h) (fun _ => false) := ⟨_, rfl⟩
  rw [← eN] at hsum ⊢
  have hN : N ≤ 2 ^ 24 := by rw [eN]; exact Nat.le_trans (sumS_le _ _ _) (Nat.pow_le_pow_right (by decide) hV)
  have hsh := short24 hN
  have t0 := co.ok.top_pos h
  obtain ⟨T, eT⟩ : ∃ T : Nat, T = (cutT V st.c h).toNat := ⟨_, rfl⟩
  rw [← eT] at hsum
  have hmin : (if (V : Int) < topM st.c h then (V : Int) else topM st.c h) = (T : Int) := by rw [eT]; unfold cutT; split <;> omega
  have hT : T ≤ 24 := by rw [eT]; unfold cutT; omega
  have hb0 : Below w.heap.size w (w.alloc (.cells #[.slice none 0 0] 43)) := (Below.refl _ _).alloc (Nat.le_refl _) _
  have hha := ahas_any h _ s.b st.c (hs.ar.below hb0) lh
  rw [hh] at hha
  have hb1 : Below w.heap.size w ((w.alloc (.cells #[.slice none 0 0] 43)).alloc (.map #[] 0)) := hb0.alloc (by simp) _
  have hm0 : MapOf ((w.alloc (.cells #[.slice none 0 0] 43)).alloc (.map #[] 0)) (w.heap.size + 1) (Value.int .i64) ([] : List (Int × Value)) := by
    have := mapOf_new (w.alloc (.cells #[.slice none 0 0] 43)) (Value.int .i64)
    simpa using this
  have hct := counts_in V hV (w.heap.size + 1) 25 h _ s st (hs.below hb1) ⟨[], hm0, fun k v e => by cases e⟩ ⟨fun hk => by have := hs.lt hk; omega, by omega⟩ co hh (by omega)
  have htop := fun w' (ha : IsArena w' s.b st.c) => top_any h w' s.b st.c ha lh
  generalize topM st.c h = t1 at hmin htop t0
  have Hha := Lib.hid hha; have Hct := Lib.hid hct; have Hsum := Lib.hid hsum; have Hsh := Lib.hid hsh; have Hmin := Lib.hid hmin; have Hs := Lib.hid hs; have Htop := Lib.hid htop; have Hb1 := Lib.hid hb1
  clear hha hct hsum hsh hmin hs hlen hR co hh hb0 hb1 hm0 eN eT hN htop t0
  go_enter Tryz.func12, Tryz.ntmps12
  go_wp2_with fail
  refine Hha.out.mono ?_
  rintro e w' ⟨rfl, rfl⟩
  go_wp2_with fail
  refine Hct.out.mono ?_
  rintro e w1 ⟨v1, rfl, hn1, hdd, ho1⟩
  clear hdd
  obtain ⟨a1, c1, rfl⟩ := hn1.shape
  have hbw : Below w.heap.size w w1 := Hb1.out.trans (ho1.below Hb1.out.size (fun k hk => by have e' : k = w.heap.size + 1 := hk; omega))
  have hres : w1.heap[w.heap.size]? = some (.cells #[.slice none 0 0] 43 (0, 0)) := (ho1.block _ (by simp; omega) (fun e => by have e' : w.heap.size = w.heap.size + 1 := e; omega)).trans (heap_up (heap_at rfl))
  have hk : KSt w (w1.alloc (.cells #[.slice a1 (limbsOf (cntX V st.c h)).length c1] 43)) s V st w1.heap.size (.slice a1 (limbsOf (cntX V st.c h)).length c1) :=
    ⟨(Hs.out.below hbw).below ((Below.refl _ _).alloc (Nat.le_refl _) _), hbw.alloc hbw.size _, lps, heap_up hres, heap_at rfl, lt_of_block hres⟩
  have hn := hn1.below (w' := w1.alloc (.cells #[.slice a1 (limbsOf (cntX V st.c h)).length c1] 43)) ((Below.refl _ _).alloc (Nat.le_refl _) _)
  have Hk := Lib.hid hk; have Hn := Lib.hid hn
  clear hk hn hn1 ho1 hbw hres Hct Hha Hs Hb1 c0
  go_upto_region 4 with fail
  generalize w1.alloc (.cells #[.slice a1 (limbsOf (cntX V st.c h)).length c1] 43) = w2 at Hk Hn ⊢
  generalize w1.heap.size = bx at Hk ⊢
  clear w1
  have hk0 := Hk.out.grow (w2 := w2.drew) ((Below.refl _ _).drew)
  have h90 := hk0.cells
  have h91 := cell_of_one hk0.res; have h92 := free_of_one hk0.res
  have HI := Lib.hid hk0; have HN := Lib.hid (Hn.out.below (w' := w2.drew) ((Below.refl _ _).drew)); clear hk0 Hk Hn
  go_region_held3 (fun w' => w'.cell? ⟨s.ps, 0, none⟩ = some (.pointer (some ⟨s.b.p, 0, none⟩)) ∧ w'.cell? ⟨s.ps, 1, none⟩ = some (.int .i64 V) ∧ w'.cell? ⟨bx, 0, none⟩ = some (.slice a1 (limbsOf (cntX V st.c h)).length c1))
    (first | exact h90 | exact HI.out.cellsR _ | go_keep)
    (first
      | (go_at_call 33; (with_reducible refine (Htop.out _ HI.out.sp.ar).mono ?_); rintro e w9 ⟨rfl, hb9⟩; have hi9 := HI.out.grow hb9; have hn9 := HN.out.below hb9; clear h90 h91 h92 HI HN hb9; have HI := Lib.hid hi9; have HN := Lib.hid hn9; have h90 := hi9.cells; have h91 := cell_of_one hi9.res; have h92 := free_of_one hi9.res; clear hi9 hn9)
      | (go_at_call 32; (try rw [minIf t1 (V : Int)]); rw [Hmin.out]; (with_reducible refine (Double_any (cntX V st.c h) T _ _ HN.out (by omega) (by rw [Hsum.out]; exact Hsh.out)).mono ?_); rintro e w9 ⟨v9, rfl, hn9, hb9⟩; obtain ⟨a9, c9, rfl⟩ := hn9.shape; have hi9 := HI.out.grow hb9; clear h90 h91 h92 HI HN hb9; have HI := Lib.hid hi9; have HN := Lib.hid hn9; have h90 := hi9.cells; have h91 := cell_of_one hi9.res; have h92 := free_of_one hi9.res; have h93 := lt_of_block hi9.res; clear hi9 hn9; dsimp only))
  all_goals (go_wp2_with fail)
  all_goals (have hnn := HN.out; rw [Hsum.out] at hnn)
  all_goals exact bodyPost_ret (v := .tuple #[.agg #[.slice a9 (limbsOf (cntX V st.c h * 2 ^ T)).length c9], .nilIface]) (by simp [results, Tryz.results12, go_sem, h91]) rfl ⟨_, rfl, by rw [Hsum.out]; exact hnn.setRes HI.out.res _, HI.out.below.setCell (by simp) _⟩
end Go.Proofs.YthmflcmbaldflaaGreatDoor
