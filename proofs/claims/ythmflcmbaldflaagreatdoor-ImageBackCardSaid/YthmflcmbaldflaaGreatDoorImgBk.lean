/- The walk of ImageBack. -/
import Derived.Test.YthmflcmbaldflaaGreatDoorImgBit
import Derived.Test.YthmflcmbaldflaaGreatDoorCount
import Derived.Test.YthmflcmbaldflaaGreatDoorNatCmp
namespace Go.Proofs.YthmflcmbaldflaaGreatDoor
open Go.RowKit
set_option linter.unusedVariables false

theorem IsNat.below' {w w' : World} {v : Value} {n : Nat} (h : IsNat w v n) (hb : Below w.heap.size w w') : IsNat w' v n := by
  obtain ⟨s, rfl, h1⟩ := h; exact ⟨s, rfl, h1.below hb⟩
theorem cmpN_self (n : Nat) : cmpN n n = 0 := by unfold cmpN; simp
set_option maxRecDepth 100000 in
set_option maxHeartbeats 8000000 in
theorem imgBack_any (vars values : Int) (vl : Value) (l : List Stp) (w : World) (hst : IsSteps w vl l) (hlaid : LaidR w) (htl : TypeLaid w) :
    Calls Tryz.prog 4 #[.int .i64 vars, vl, .int .u64 values] w fun e w' => e = .returned (.bool true) ∧ Below w.heap.size w w' := by
  by_cases hno : vars < 1 ∨ 6 < vars ∨ 25 < l.length
  · have Hn := Lib.hid (space_no vars vl l w hst hno)
    clear hno hst
    go_enter Tryz.func4, Tryz.ntmps4
    go_wp2_with fail
    refine Hn.out.mono ?_
    rintro e w1 ⟨rfl, rfl⟩
    go_wp2_with fail
    go_ret
    exact ⟨rfl, Below.refl _ _⟩
  obtain ⟨V, rfl⟩ : ∃ V : Nat, vars = V := ⟨vars.toNat, by omega⟩
  have h1 : 1 ≤ V := by omega
  have h2 : V ≤ 6 := by omega
  have h3 : l.length ≤ 25 := by omega
  have Hsp := Lib.hid (space_ok V vl l w hst h1 h2 h3)
  have Hl := Lib.hid hlaid; have Htl := Lib.hid htl
  clear hno hst hlaid htl
  go_enter Tryz.func4, Tryz.ntmps4
  go_wp2_with fail
  refine Hsp.out.mono ?_
  rintro e w2 ⟨s, va, w1, rfl, hb1, hm, hp, hfs⟩
  obtain ⟨fo, fl, fn⟩ := first_runI V l h1 h2 h3
  generalize (funsX V l ⟨List.replicate 4000 none, noQ⟩ [0, 1]).1 = st at hfs fo fl
  generalize (funsX V l ⟨List.replicate 4000 none, noQ⟩ [0, 1]).2 = out at hfs fo fn
  have hpos : out.length - 1 < out.length := by omega
  obtain ⟨g, cap, rfl, hrow⟩ := owns_at hfs.own (by omega)
  have hcell := hrow _ hpos
  have hf := fo.has _ (List.getElem_mem hpos)
  generalize out[out.length - 1] = f at hcell hf
  have Hfs := Lib.hid hfs; have Hb1 := Lib.hid hb1; have Hm := Lib.hid hm; have Hcell := Lib.hid hcell; have Hfo := Lib.hid fo; have Hf := Lib.hid hf; have Hfn := Lib.hid fn; have Hfl := Lib.hid fl
  clear hfs hb1 hm hcell fo hrow hf fl
  go_wp2_with fail
  refine (truth_any w2).mono ?_
  rintro e w3 ⟨rfl, hb3⟩
  have hfs3 := Hfs.out.grow hb3
  have hcell3 : w3.cell? ⟨g, out.length - 1, none⟩ = some (.int .i64 f) := (hb3.cell (World.block_lt_of_cell? _ _ Hcell.out)).trans Hcell.out
  rw [show out.length - 1 = l.length + 1 by omega] at hcell3
  have hidx : wrap64 ((out.length : Int) - 1) = ((out.length - 1 : Nat) : Int) := by rw [IntWalk.wrap64_in _ ⟨by omega, by omega⟩]; omega
  have hbw3 : Below w.heap.size w w3 := Hb1.out.trans (hfs3.only.below Hb1.out.size Hm.out)
  have hsv := save_any V (by omega) f w3 s st hfs3.sp Hfo.out.sok.ok Hf.out (Hl.out.below hbw3)
  have Hsv := Lib.hid hsv; have Hbw3 := Lib.hid hbw3; have Hsp3 := Lib.hid hfs3.sp; clear hsv hbw3 hfs3 hb3 Hfs Hcell
  go_wp2_with fail
  refine Hsv.out.mono ?_
  rintro e w4 ⟨⟨v4, rfl, hz4⟩, hb4⟩
  have hBL := saveM_len (h := f) (show V ≤ 24 by omega) Hfo.out.sok.ok Hf.out (by rw [Hfl.out]; exact Nat.le_refl _)
  have hlb := fun hs => load_back (V := V) (R := 4000) (c := st.c) (h := f) (show V ≤ 24 by omega) Hfo.out.sok.cells Hf.out (by rw [Hfl.out]; exact Nat.le_refl _) hs
  obtain ⟨B, hB⟩ : ∃ B, B = saveM V st.c f := ⟨_, rfl⟩
  rw [← hB] at hz4 hBL hlb
  obtain ⟨g4, c4, rfl, hby4⟩ := hz4.by
  have hBl : 0 < B.length := by rw [hB]; unfold saveM; rw [sealedT_len]; omega
  have hne0 : ((B.length : Int) == 0) = false := beq_false_of_ne (by omega)
  have Hlb := Lib.hid hlb; have HBl := Lib.hid (And.intro hBl hBL); have Hb4 := Lib.hid (Hbw3.out.trans (hb4.mono Hbw3.out.size)); have Hsp4 := Lib.hid (Hsp3.out.below hb4)
  have hld := load_any g4 c4 B w4 hby4 (by omega) (Hl.out.below Hb4.out) (Htl.out.below Hb4.out)
  have Hld := Lib.hid hld
  clear hlb hBl hBL hz4 hby4 hb4 Hsv Hsp3 hld hB
  by_cases hbig : 20000 < B.length
  · have b1 : (20000 : Int) < (B.length : Int) := by omega
    have Hbig := Lib.hid hbig; clear hbig
    go_wp2_with fail
    go_ret
    exact ⟨rfl, Hb4.out⟩
  have b1 : ¬ (20000 : Int) < (B.length : Int) := by omega
  have hlo := Hlb.out (by omega)
  have hok := cok_back (V := V) (R := 4000) (c := st.c) (h := f) Hfo.out.sok.cells Hf.out (by rw [Hfl.out]; exact Nat.le_refl _)
  have hrb := reach_back (V := V) (R := 4000) (c := st.c) (h := f) Hfo.out.sok.cells Hf.out (by rw [Hfl.out]; exact Nat.le_refl _)
  obtain ⟨k, hmem⟩ := orderM_ok Hfo.out.sok.ok Hf.out
  have hkl := k.le
  have hden := fun val => den_num (R := 4000) Hfo.out.sok.ok k (by rw [Hfl.out] at hkl; exact hkl) val f hmem
  have hhas : hasM (cI st.c (orderM st.c f) 4000 ((orderM st.c f).length - 2)) (numM (orderM st.c f) f : Int) = true := hasM_num k (by rw [Hfl.out] at hkl; omega) hmem (by have := numM_lt hmem; have := k.len; omega)
  obtain ⟨c9, hc9⟩ : ∃ c9, c9 = cI st.c (orderM st.c f) 4000 ((orderM st.c f).length - 2) := ⟨_, rfl⟩
  obtain ⟨h9, hh9⟩ : ∃ h9, h9 = (numM (orderM st.c f) f : Int) := ⟨_, rfl⟩
  rw [← hc9, ← hh9] at hlo hrb hden hhas
  rw [← hc9] at hok
  have Hlo := Lib.hid hlo; have Hok := Lib.hid hok; have Hrb := Lib.hid hrb; have Hden := Lib.hid hden; have Hhas := Lib.hid hhas; have Hbig := Lib.hid hbig
  clear hlo hok hrb hden hhas k hmem hkl hc9 hh9 hbig Hlb
  go_wp2_with fail
  refine Hld.out.mono ?_
  rintro e w5 ⟨hcase, hb5⟩
  obtain ⟨V', c', h', t, hlo', rfl, ht5, hps, hmt⟩ := hcase.resolve_right (fun h => h.1 _ _ _ Hlo.out)
  clear hcase
  obtain ⟨rfl, rfl, rfl⟩ := Hlo.out.one hlo'
  have Hb5 := Lib.hid (Hb4.out.trans (hb5.mono Hb4.out.size)); have Hsp5 := Lib.hid (Hsp4.out.below hb5); have Ht5 := Lib.hid ht5
  clear hlo' ht5 hps hmt hb5 Hsp4 Hld hne0 hcell3
  go_wp2_with fail
  refine (vars_any Ht5.out).mono ?_
  rintro e w6 ⟨rfl, rfl⟩
  have hho := Holds_any V f values w6 s st Hsp5.out Hfo.out.sok Hf.out
  have Hho := Lib.hid hho; clear hho
  go_wp2_with fail
  refine Hho.out.mono ?_
  rintro e w7 ⟨rfl, hb7⟩
  have hho := Holds_any V h9 values w7 t ⟨c9, noQ⟩ (Ht5.out.below hb7) (SOk.none Hok.out) Hhas.out
  rw [Hden.out] at hho
  have Hho2 := Lib.hid hho; have Hb7 := Lib.hid (Hb5.out.trans (hb7.mono Hb5.out.size)); have Hsp7 := Lib.hid (Hsp5.out.below hb7); have Ht7 := Lib.hid (Ht5.out.below hb7); clear hho hb7 Hsp5 Ht5 Hb5 Hho
  generalize hdv : den st.c f (bitAt values) = dv at Hho2 ⊢
  clear hdv
  go_wp2_with fail
  refine Hho2.out.mono ?_
  rintro e w8 ⟨rfl, hb8⟩
  have hct := Count_any V (by omega) f w8 s st (Hsp7.out.below hb8) Hfo.out.sok.cells Hf.out
  have Hct := Lib.hid hct; have Hb8 := Lib.hid (Hb7.out.trans (hb8.mono Hb7.out.size)); have Ht8 := Lib.hid (Ht7.out.below hb8); clear hct hb8 Hsp7 Ht7 Hb7 Hho2
  have hsum : sumS V V (den c9 h9) (fun _ => false) = sumS V V (den st.c f) (fun _ => false) := sumS_congr _ _ _ _ (fun val' _ => Hden.out val')
  have Hsum := Lib.hid hsum; clear hsum
  generalize sumS V V (den st.c f) (fun _ => false) = S at Hct Hsum
  go_wp2_with fail
  refine Hct.out.mono ?_
  rintro e w9 ⟨v9, rfl, hn9, hb9⟩
  obtain ⟨a9, k9, rfl⟩ := hn9.shape
  have hb9' : Below w9.heap.size w9 (w9.alloc (.cells #[.slice a9 (limbsOf S).length k9] 43)) := (Below.refl _ _).alloc (Nat.le_refl _) _
  have hct := Count_any V (by omega) h9 _ t ⟨c9, noQ⟩ ((Ht8.out.below hb9).below hb9') Hok.out Hhas.out
  rw [Hsum.out] at hct
  have hbx : (w9.alloc (.cells #[.slice a9 (limbsOf S).length k9] 43)).heap[w9.heap.size]? = some (.cells #[.slice a9 (limbsOf S).length k9] 43 (0, 0)) := heap_at rfl
  have Hct2 := Lib.hid hct; have Hb9 := Lib.hid ((Hb8.out.trans (hb9.mono Hb8.out.size)).trans (hb9'.mono (Hb8.out.trans (hb9.mono Hb8.out.size)).size)); have Ht9 := Lib.hid ((Ht8.out.below hb9).below hb9'); have Hn9 := Lib.hid (hn9.below' hb9'); have Hbx := Lib.hid hbx
  clear hct hb9 hb9' hn9 hbx Ht8 Hb8 Hct
  go_wp2_with fail
  refine Hct2.out.mono ?_
  rintro e w10 ⟨v10, rfl, hn10, hb10⟩
  obtain ⟨a10, k10, rfl⟩ := hn10.shape
  have hb10' : Below w10.heap.size w10 (w10.alloc (.cells #[.slice a10 (limbsOf S).length k10] 43)) := (Below.refl _ _).alloc (Nat.le_refl _) _
  have hbb := hb10.trans (hb10'.mono hb10.size)
  have hsz := Size_any V h9 _ t ⟨c9, noQ⟩ (Ht9.out.below hbb) (SOk.none Hok.out) Hhas.out
  dsimp only at hsz
  rw [Hrb.out] at hsz
  have Hsz := Lib.hid hsz; have Hn10 := Lib.hid (hn10.below' hb10'); have Hb10 := Lib.hid (Hb9.out.trans (hbb.mono Hb9.out.size)); have Ht10 := Lib.hid (Ht9.out.below hbb); have Hn9' := Lib.hid (Hn9.out.below' hbb)
  have hx1 := (hbb.block _ (Array.getElem?_eq_some_iff.1 Hbx.out).1).trans Hbx.out
  have hx2 : (w10.alloc (.cells #[.slice a10 (limbsOf S).length k10] 43)).heap[w10.heap.size]? = some (.cells #[.slice a10 (limbsOf S).length k10] 43 (0, 0)) := heap_at rfl
  have Hx1 := Lib.hid hx1; have Hx2 := Lib.hid hx2
  clear hsz hn10 hb10 hb10' hbb hx1 hx2 Ht9 Hb9 Hn9 Hbx Hct2
  go_wp2_with fail
  refine Hsz.out.mono ?_
  rintro e w11 ⟨rfl, hb11⟩
  have hcm := Cmp_any S S _ _ w11 (Hn9'.out.below' hb11) (Hn10.out.below' hb11)
  rw [cmpN_self] at hcm
  have hx1 := (hb11.block _ (Array.getElem?_eq_some_iff.1 Hx1.out).1).trans Hx1.out
  have hx2 := (hb11.block _ (Array.getElem?_eq_some_iff.1 Hx2.out).1).trans Hx2.out
  have hc1 : w11.cell? ⟨w9.heap.size, 0, none⟩ = some (.slice a9 (limbsOf S).length k9) := by rw [cell_of_row _ _ _ _ _ _ hx1]; rfl
  have hc2 : w11.cell? ⟨w10.heap.size, 0, none⟩ = some (.slice a10 (limbsOf S).length k10) := by rw [cell_of_row _ _ _ _ _ _ hx2]; rfl
  have Hcm := Lib.hid hcm; have Hb11 := Lib.hid (Hb10.out.trans (hb11.mono Hb10.out.size)); have Ht11 := Lib.hid (Ht10.out.below hb11)
  clear hcm hx1 hx2 hb11 Ht10 Hb10 Hn9' Hn10 Hx1 Hx2 Hsz
  have hdd : (dv == dv) = true := by simp
  go_wp2_with fail
  refine Hcm.out.mono ?_
  rintro e w12 ⟨rfl, hb12⟩
  have ht12 := Ht11.out.below hb12
  have ksp := ht12.s0
  have hln := len_any w12 t.b c9 ht12.ar
  have Hln := Lib.hid hln; have Hb12 := Lib.hid (Hb11.out.trans (hb12.mono Hb11.out.size))
  clear hln hb12 ht12 Ht11 Hb11 Hcm hc1 hc2
  go_wp2_with fail
  refine Hln.out.mono ?_
  rintro e w13 ⟨rfl, rfl⟩
  go_wp2_with fail
  go_ret
  exact ⟨rfl, Hb12.out⟩
end Go.Proofs.YthmflcmbaldflaaGreatDoor
