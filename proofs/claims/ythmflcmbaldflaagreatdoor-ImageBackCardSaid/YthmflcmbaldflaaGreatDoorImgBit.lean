/- The walk of ImageBit. -/
import Derived.Test.YthmflcmbaldflaaGreatDoorLoadW
import Derived.Test.YthmflcmbaldflaaGreatDoorSpaceF
namespace Go.Proofs.YthmflcmbaldflaaGreatDoor
open Go.RowKit
set_option linter.unusedVariables false

theorem first_runI (V : Nat) (l : List Stp) (h1 : 1 ≤ V) (h2 : V ≤ 6) (h3 : l.length ≤ 25) : FOk V (funsX V l ⟨List.replicate 4000 none, noQ⟩ [0, 1]).1 (funsX V l ⟨List.replicate 4000 none, noQ⟩ [0, 1]).2 ∧
    (funsX V l ⟨List.replicate 4000 none, noQ⟩ [0, 1]).1.c.length = 4000 ∧ (funsX V l ⟨List.replicate 4000 none, noQ⟩ [0, 1]).2.length = l.length + 2 := by
  have f : FOk V ⟨List.replicate 4000 none, noQ⟩ [0, 1] := ⟨SOk.none (COk.empty V 4000), fun h hh => by
    rcases List.mem_cons.1 hh with rfl | hh
    · exact hasM_zero _
    · rw [List.mem_singleton.1 hh]; exact hasM_one _, by simp⟩
  have hc0 : cnt (List.replicate 4000 none : Cells) = 0 := by unfold cnt; rw [List.countP_replicate]; simp
  have hp : 2 ^ V ≤ 2 ^ 6 := Nat.pow_le_pow_right (by decide) h2
  have hm : l.length * (2 * 2 ^ V) ≤ 25 * (2 * 2 ^ 6) := Nat.mul_le_mul h3 (by omega)
  obtain ⟨_, a, b, c, d⟩ := run_ok h1 (by omega) l _ _ f (by dsimp only; rw [hc0, List.length_replicate]; omega)
  dsimp only at b c d
  rw [List.length_replicate] at b
  exact ⟨a, b, by rw [d]; simp; omega⟩
theorem saveM_len {V : Nat} {c : Cells} {h : Int} (hV : V ≤ 24) (ok : Ok c) (hh : hasM c h = true) (hl : c.length ≤ 4000) : (saveM V c h).length ≤ 200000 := by
  obtain ⟨k, hm⟩ := orderM_ok ok hh
  have hle := k.le
  have hbl := bodyM_len ok (ks := orderM c h) (by omega)
  have h1 := dec_le (n := V) (by omega)
  have h2 := dec_le (n := (orderM c h).length - 2) (by omega)
  have h3 := dec_le (n := numM (orderM c h) h) (by have := numM_lt hm; omega)
  have h4 := (dec_sum (outM V c h)).2
  unfold saveM
  rw [sealedT_len]
  have h5 : (outM V c h).length ≤ 100000 := by
    unfold outM headM
    simp; omega
  omega
theorem ownZ_empty {w : World} {g base T : Nat} (hb : base ≤ g) (h : w.heap[g]? = some (.cells #[] T (0, 0))) : OwnZ w base T (.slice (some ⟨g, 0, none⟩) 0 0) [] :=
  ⟨g, 0, #[], (0, 0), rfl, hb, h, .inr rfl, Nat.le_refl _, Nat.zero_le _, rfl, fun j hj => by simp at hj⟩
/-- A byte of a row is set. -/
theorem OwnZ.store {w : World} {base T g cap n : Nat} {l : List UInt8} (h : OwnZ w base T (.slice (some ⟨g, 0, none⟩) n cap) (Lib.byteCells l)) {u : Nat} (hu : u < l.length) (x : UInt8) :
    (∃ v0, w.cell? ⟨g, u, none⟩ = some v0) ∧ w.frozen? ⟨g, u, none⟩ = false ∧ base ≤ g ∧ OwnZ (w.setCell ⟨g, u, none⟩ (.int .u8 (x.toNat : Int))) base T (.slice (some ⟨g, 0, none⟩) n cap) (Lib.byteCells (l.set u x)) := by
  obtain ⟨g', cap', cur, fz, e, h1, h2, h3, h4, h5, h6, h7⟩ := h
  injection e with e1 e2 e3
  injection e1 with e1
  injection e1 with e1
  subst e1 e3
  rw [Lib.byteCells_length] at e2 h4
  have hc : u < cur.size := by omega
  refine ⟨⟨cur[u], by rw [cell_of_row w _ _ _ _ _ h2]; exact Array.getElem?_eq_getElem hc⟩, ?_, h1, g, cap, _, fz, by rw [Lib.byteCells_length, List.length_set, e2], h1, heap_setA h2 u _, h3, by rw [Lib.byteCells_length, List.length_set]; exact h4, h5, by simpa using h6, fun j hj => ?_⟩
  · unfold World.frozen?
    rw [h2]
    rcases h3 with q | q
    · have : ¬ fz.1 ≤ u := by omega
      simp [this]
    · simp [q]
  · rw [Lib.byteCells_length, List.length_set] at hj
    have e9 : (Lib.byteCells (l.set u x))[j]? = if u = j then some (.int .u8 (x.toNat : Int)) else (Lib.byteCells l)[j]? := by
      unfold Lib.byteCells
      rw [List.getElem?_map, List.getElem?_set, List.getElem?_map]
      by_cases c : u = j
      · subst c; simp [hj]
      · simp [c]
    rw [e9, Array.getElem?_setIfInBounds]
    by_cases c : u = j
    · subst c; rw [if_pos rfl, if_pos rfl, if_pos hc]
    · rw [if_neg c, if_neg c]
      exact h7 j (by rw [Lib.byteCells_length]; exact hj)
set_option maxRecDepth 100000 in
set_option maxHeartbeats 8000000 in
theorem imgBit_any (vars at_ : Int) (to_ : UInt8) (vl : Value) (l : List Stp) (w : World) (hst : IsSteps w vl l) (hlaid : LaidR w) (htl : TypeLaid w) :
    Calls Tryz.prog 3 #[.int .i64 vars, vl, .int .i64 at_, .int .u8 (to_.toNat : Int)] w fun e w' => e = .returned (.bool true) ∧ Below w.heap.size w w' := by
  by_cases hno : vars < 1 ∨ 6 < vars ∨ 25 < l.length
  · have Hn := Lib.hid (space_no vars vl l w hst hno)
    clear hno hst
    go_enter Tryz.func3, Tryz.ntmps3
    go_wp2_with fail
    refine Hn.out.mono ?_
    rintro e w1 ⟨rfl, rfl⟩
    go_wp2_with fail
    go_ret
    exact ⟨rfl, Below.refl _ _⟩
  obtain ⟨V, rfl⟩ : ∃ V : Nat, vars = V := ⟨vars.toNat, by omega⟩
  have h1 : 1 ≤ V := by omega
  have h2 : V ≤ 6 := by omega
  have h3 : l.length ≤ 25 := by omega
  have Hsp := Lib.hid (space_ok V vl l w hst h1 h2 h3)
  have Hl := Lib.hid hlaid; have Htl := Lib.hid htl
  clear hno hst hlaid htl
  go_enter Tryz.func3, Tryz.ntmps3
  go_wp2_with fail
  refine Hsp.out.mono ?_
  rintro e w2 ⟨s, va, w1, rfl, hb1, hm, hp, hfs⟩
  obtain ⟨fo, fl, fn⟩ := first_runI V l h1 h2 h3
  generalize (funsX V l ⟨List.replicate 4000 none, noQ⟩ [0, 1]).1 = st at hfs fo fl
  generalize (funsX V l ⟨List.replicate 4000 none, noQ⟩ [0, 1]).2 = out at hfs fo fn
  have hpos : out.length - 1 < out.length := by omega
  obtain ⟨g, cap, rfl, hrow⟩ := owns_at hfs.own (by omega)
  have hcell := hrow _ hpos
  have hf := fo.has _ (List.getElem_mem hpos)
  generalize out[out.length - 1] = f at hcell hf
  have Hfs := Lib.hid hfs; have Hb1 := Lib.hid hb1; have Hm := Lib.hid hm; have Hcell := Lib.hid hcell; have Hfo := Lib.hid fo; have Hf := Lib.hid hf; have Hfn := Lib.hid fn
  clear hfs hb1 hm hcell fo hrow hf
  go_wp2_with fail
  refine (truth_any w2).mono ?_
  rintro e w3 ⟨rfl, hb3⟩
  have hfs3 := Hfs.out.grow hb3
  have hcell3 : w3.cell? ⟨g, out.length - 1, none⟩ = some (.int .i64 f) := (hb3.cell (World.block_lt_of_cell? _ _ Hcell.out)).trans Hcell.out
  rw [show out.length - 1 = l.length + 1 by omega] at hcell3
  have hidx : wrap64 ((out.length : Int) - 1) = ((out.length - 1 : Nat) : Int) := by rw [IntWalk.wrap64_in _ ⟨by omega, by omega⟩]; omega
  have hbw3 : Below w.heap.size w w3 := Hb1.out.trans (hfs3.only.below Hb1.out.size Hm.out)
  have hsv := save_any V (by omega) f w3 s st hfs3.sp Hfo.out.sok.ok Hf.out (Hl.out.below hbw3)
  have Hsv := Lib.hid hsv; have Hbw3 := Lib.hid hbw3; clear hsv hbw3 hfs3 hb3 Hfs Hcell
  go_wp2_with fail
  refine Hsv.out.mono ?_
  rintro e w4 ⟨⟨v4, rfl, hz4⟩, hb4⟩
  obtain ⟨B, hB⟩ : ∃ B, B = saveM V st.c f := ⟨_, rfl⟩
  rw [← hB] at hz4
  obtain ⟨g4, c4, rfl, hby4⟩ := hz4.by
  have hBl : 0 < B.length := by rw [hB]; unfold saveM; rw [sealedT_len]; omega
  have hBL := saveM_len (h := f) (show V ≤ 24 by omega) Hfo.out.sok.ok Hf.out (by rw [fl]; exact Nat.le_refl _)
  rw [← hB] at hBL
  have hne0 : ((B.length : Int) == 0) = false := beq_false_of_ne (by omega)
  have HB := Lib.hid hB; have HBl := Lib.hid (And.intro hBl hBL); have Hz4 := Lib.hid hz4; have Hby4 := Lib.hid hby4; have Hb4 := Lib.hid (Hbw3.out.trans (hb4.mono Hbw3.out.size))
  clear hB hBl hBL hz4 hby4 hb4 Hsv
  have hz5 : OwnZ (w4.alloc (.cells #[] 5)) w.heap.size 5 (.slice (some ⟨w4.heap.size, 0, none⟩) 0 0) [] := ownZ_empty Hb4.out.size (heap_at rfl)
  have hb5 : Below w.heap.size w (w4.alloc (.cells #[] 5)) := Hb4.out.alloc Hb4.out.size _
  have hsrc : ∀ j u, (Lib.byteCells B)[j]? = some u → (w4.alloc (.cells #[] 5)).cell? ((⟨g4, 0, none⟩ : Addr).add j) = some u := by
    obtain ⟨gx, cx, ex, _, _, _, _, hc⟩ := (Hz4.out.below ((Below.refl _ _).alloc (Nat.le_refl _) (.cells #[] 5))).cells
    injection ex with ex1 ex2 ex3
    injection ex1 with ex1
    injection ex1 with ex1
    subst ex1
    exact fun j u hu => (hc j u hu).1
  have Hz5 := Lib.hid hz5; have Hb5 := Lib.hid hb5; have Hsrc := Lib.hid hsrc; clear hz5 hb5 hsrc
  obtain ⟨i8, ih8, iz8, is8, ib8⟩ := infoU8
  go_wp2_with (at_builtin; refine wpList_appendZ rfl (.tmp 47) (.tmp 48) 28 rfl i8 _ Tryz.underlying28 ih8 iz8 is8 ib8 rfl _ _ rfl Hz5.out (some ⟨g4, 0, none⟩) _ c4 rfl (Lib.byteCells B) (Lib.byteCells_length _) (.inr ⟨_, rfl, Hsrc.out⟩) (byteCells_one _) (by have := HBl.out.2; simp; omega) Hb5.out.size ?_; intro v6 w6 hz6 hb6; rw [List.nil_append] at hz6; obtain ⟨g6, c6, rfl, hby6⟩ := hz6.by; have Hz6 := Lib.hid hz6; have Hb6 := Lib.hid (Hb5.out.trans hb6); have Hby6 := Lib.hid hby6; clear hz6 hb6 hby6 Hz5 Hb5 Hsrc)
  refine (pick_any at_ B.length w6 HBl.out.1 (by have := HBl.out.2; omega)).mono ?_
  rintro e w7 ⟨rfl, rfl⟩
  have hu := pickN_lt at_ HBl.out.1
  generalize pickN at_ B.length = u at hu ⊢
  have hcu := Hby6.out u hu
  obtain ⟨x, hx⟩ : ∃ x, x = B[u] := ⟨_, rfl⟩
  rw [← hx] at hcu
  have hxB : B[u]? = some x := by rw [List.getElem?_eq_getElem hu, hx]
  have HxB := Lib.hid hxB; clear hxB hx
  have u1 : (u : Int) < (B.length : Int) := by omega
  by_cases hxt : x = to_
  · have e0 : ((x.toNat : Int) == (to_.toNat : Int)) = true := by rw [hxt]; simp
    have e1 : x.toNat = to_.toNat := by rw [hxt]
    go_wp2_with fail
    go_ret
    exact ⟨rfl, Hb6.out⟩
  · have hxn : ¬ x.toNat = to_.toNat := fun h => hxt (UInt8.toNat_inj.1 h)
    have e0 : ((x.toNat : Int) == (to_.toNat : Int)) = false := by simp; omega
    obtain ⟨⟨v0, q0⟩, q1, q2, q3⟩ := Hz6.out.store hu to_
    have hb8 : Below w.heap.size w (w6.setCell ⟨g6, u, none⟩ (.int .u8 (to_.toNat : Int))) := Hb6.out.setCell (p := ⟨g6, u, none⟩) q2 _
    have hby8 : IsBy (w6.setCell ⟨g6, u, none⟩ (.int .u8 (to_.toNat : Int))) g6 (B.set u to_) := by
      obtain ⟨gx, cx, ex, hby⟩ := q3.by
      injection ex with ex1 ex2 ex3
      injection ex1 with ex1
      injection ex1 with ex1
      subst ex1
      exact hby
    have hld := load_any g6 c6 (B.set u to_) _ hby8 (by rw [List.length_set]; have := HBl.out.2; omega) (Hl.out.below hb8) (Htl.out.below hb8)
    rw [List.length_set] at hld
    have Hld := Lib.hid hld; have Hb8 := Lib.hid hb8; have Hxt := Lib.hid hxt
    clear hld hb8 hby8 hxt q3
    go_wp2_with fail
    refine Hld.out.mono ?_
    rintro e w9 ⟨⟨V', c', h', s', hok, rfl, _⟩ | ⟨_, pp, hh', tt, vv, rfl, rfl⟩, hb9⟩
    · exfalso
      have h1 := bytB_inj hok.again
      have hxb := HxB.out
      rw [HB.out] at h1 hxb
      unfold saveM at h1 hxb
      exact sealed_one hxb (Ne.symm Hxt.out) h1
    · go_wp2_with fail
      go_ret
      exact ⟨rfl, Hb8.out.trans (hb9.mono Hb8.out.size)⟩
theorem imgBit_walk (vars at_ : Int) (n : Nat) (hn : n ≤ 255) (vl : Value) (l : List Stp) (w : World) (hst : IsSteps w vl l) (hlaid : LaidR w) (htl : TypeLaid w) :
    Calls Tryz.prog 3 #[.int .i64 vars, vl, .int .i64 at_, .int .u8 (n : Int)] w fun e w' => e = .returned (.bool true) ∧ Below w.heap.size w w' := by
  have h := imgBit_any vars at_ (UInt8.ofNat n) vl l w hst hlaid htl
  have e : (UInt8.ofNat n).toNat = n := by simp; omega
  rwa [e] at h
end Go.Proofs.YthmflcmbaldflaaGreatDoor
