/- Contract: can some lines be together (the law's). -/
import Derived.Test.YtheemhelioendaaGreatDoorCoreA
namespace Go.Proofs.YtheemhelioendaaGreatDoor
open Go.RowKit
set_option linter.unusedVariables false

theorem make100 : ∀ w : World, (Instr.makeSlice 22 (.int .i64 100) (.int .i64 100)).run Tryz.prog w = .ok (.slice (some ⟨w.heap.size, 0, none⟩) 100 100) (w.alloc (.cells (madeCells #[.bool false] 100) 4)) :=
  run_make_row' (P := Tryz.prog) 22 4 (.bool false) 1 Tryz.underlying22 infoBoolR rfl .i64 .i64 100 (by omega) (by omega)
/-- What is asked of the rules, to be solved for whatever lines. -/
structure Solv (m : Nat) (rc : List (Int × List Int)) : Prop where
  good : ∀ S, Good (m : Nat) (onlyC rc (boolsL 100 S))
  few : ∀ S, FewC (m : Nat) (onlyC rc (boolsL 100 S))
  frm : ∀ p ∈ rc, -1 ≤ p.1 ∧ p.1 ≤ 1000
  len : rc.length ≤ 200
theorem can_step {out : List Nat} (hn : out.Nodup) {wo : Int} {k : Nat} (hk : k < out.length) {S : Nat → Bool} (h : ∀ j, S j = true ↔ ∃ t, ∃ h : t < out.length, t < k ∧ out[t] = j ∧ (t : Int) ≠ wo) :
    ∀ j, (if j = out[k] then ((k : Int) != wo) else S j) = true ↔ ∃ t, ∃ h : t < out.length, t < k + 1 ∧ out[t] = j ∧ (t : Int) ≠ wo := fun j => by
  by_cases e : j = out[k]
  · rw [if_pos e, bne_iff_ne]
    constructor
    · intro q; exact ⟨k, hk, by omega, e.symm, q⟩
    · rintro ⟨t, ht, h1, h2, h3⟩
      rcases Nat.lt_or_ge t k with q | q
      · exact absurd (h2.trans e) (List.pairwise_iff_getElem.1 hn t k ht hk q)
      · rw [show k = t by omega]; exact h3
  · rw [if_neg e, h]
    constructor
    · rintro ⟨t, ht, h1, h2⟩; exact ⟨t, ht, by omega, h2⟩
    · rintro ⟨t, ht, h1, h2, h3⟩
      refine ⟨t, ht, ?_, h2, h3⟩
      rcases Nat.lt_or_ge t k with q | q
      · exact q
      · have : t = k := by omega
        subst this; exact absurd h2.symm e
/-- The call of Only, then of Solve. -/
theorem solveS_any {m : Nat} {rc : List (Int × List Int)} (hs : Solv m rc) {S : Nat → Bool} {w : World} {v : Value} {base : Nat} (h : ClsIn w base v (onlyC rc (boolsL 100 S))) :
    Calls Tryz.prog 29 #[.int .i64 m, v] w fun e w' => (∃ (holds : Bool) (vals : Nat) (a : Option Addr) (n c : Nat), e = .returned (.tuple #[.agg #[.bool holds, .int .u64 vals, .slice a n c], .nilIface]) ∧ (holds = true ↔ SatS rc S)) ∧ Below w.heap.size w w' :=
  solveB_any m v _ w (h.rows (by have := (hs.good S).2.2.1; omega) (fun c hc => by have := ((hs.good S).2.2.2 c hc).1; omega)) (hs.good S) (hs.few S)
/-- What the loads read stays, where another struct of three cells is stored. -/
theorem kS3 {W : World} {p q : Nat} {a b c x y z : Value} (hne : p ≠ q) (h : W.cell? ⟨p, 0, none⟩ = some a ∧ W.cell? ⟨p, 1, none⟩ = some b ∧ W.cell? ⟨p, 2, none⟩ = some c) :
    (((W.setCell ⟨q, 0, none⟩ x).setCell ⟨q, 1, none⟩ y).setCell ⟨q, 2, none⟩ z).cell? ⟨p, 0, none⟩ = some a ∧ (((W.setCell ⟨q, 0, none⟩ x).setCell ⟨q, 1, none⟩ y).setCell ⟨q, 2, none⟩ z).cell? ⟨p, 1, none⟩ = some b ∧ (((W.setCell ⟨q, 0, none⟩ x).setCell ⟨q, 1, none⟩ y).setCell ⟨q, 2, none⟩ z).cell? ⟨p, 2, none⟩ = some c := by
  have key : ∀ (j : Nat), (((W.setCell ⟨q, 0, none⟩ x).setCell ⟨q, 1, none⟩ y).setCell ⟨q, 2, none⟩ z).cell? ⟨p, j, none⟩ = W.cell? ⟨p, j, none⟩ := fun j => World.cell?_of_block ((Below.heap_setCell _ _ _ _ (by show p ≠ q; exact hne)).trans ((Below.heap_setCell _ _ _ _ (by show p ≠ q; exact hne)).trans (Below.heap_setCell _ _ _ _ (by show p ≠ q; exact hne))))
  exact ⟨(key 0).trans h.1, (key 1).trans h.2.1, (key 2).trans h.2.2⟩
theorem kSA {W : World} {p : Nat} {a b c : Value} {o : Obj} (hp : p < W.heap.size) (h : W.cell? ⟨p, 0, none⟩ = some a ∧ W.cell? ⟨p, 1, none⟩ = some b ∧ W.cell? ⟨p, 2, none⟩ = some c) :
    (W.alloc o).cell? ⟨p, 0, none⟩ = some a ∧ (W.alloc o).cell? ⟨p, 1, none⟩ = some b ∧ (W.alloc o).cell? ⟨p, 2, none⟩ = some c := by
  have hb : Below W.heap.size W (W.alloc o) := (Below.refl _ _).alloc (Nat.le_refl _) _
  exact ⟨(hb.cell (p := ⟨p, 0, none⟩) hp).trans h.1, (hb.cell (p := ⟨p, 1, none⟩) hp).trans h.2.1, (hb.cell (p := ⟨p, 2, none⟩) hp).trans h.2.2⟩
theorem kSAd {W : World} {p : Nat} {a b c : Value} {o : Obj} (hp : p < W.heap.size) (h : W.drew.cell? ⟨p, 0, none⟩ = some a ∧ W.drew.cell? ⟨p, 1, none⟩ = some b ∧ W.drew.cell? ⟨p, 2, none⟩ = some c) :
    (W.alloc o).drew.cell? ⟨p, 0, none⟩ = some a ∧ (W.alloc o).drew.cell? ⟨p, 1, none⟩ = some b ∧ (W.alloc o).drew.cell? ⟨p, 2, none⟩ = some c := kSA (o := o) hp h
set_option maxRecDepth 100000 in
set_option maxHeartbeats 16000000 in
theorem can_any (m : Nat) (base b0 : Nat) (a1 a2 al : Option Addr) (L c1 c2 cl : Nat) (rc : List (Int × List Int)) (out : List Nat) (wo : Int) (w : World) (hs : Solv m rc) (h : RulesIn w base (.slice a1 L c1) (.slice a2 L c2) rc) (ho : OutI w b0 (.slice al out.length cl) (out.map fun k : Nat => (k : Int))) (hn : out.Nodup) (h100 : ∀ i ∈ out, i < 100) (hwo : -1 ≤ wo ∧ wo ≤ 1000) :
    Calls Tryz.prog 30 #[.agg #[.int .i64 m, .slice a1 L c1, .slice a2 L c2], .slice al out.length cl, .int .i64 wo] w fun e w' => (∃ (b : Bool) (S : Nat → Bool), e = .returned (.tuple #[.bool b, .bool true]) ∧ (∀ j, S j = true ↔ ∃ t, ∃ h : t < out.length, out[t] = j ∧ (t : Int) ≠ wo) ∧ (b = true ↔ SatS rc S)) ∧ Below w.heap.size w w' := by
  have hl100 : out.length ≤ 100 := by
    have := nodup_sub hn (m := List.range 100) (fun i hi => List.mem_range.2 (h100 i hi))
    simpa using this
  obtain ⟨wA, hwA⟩ : ∃ wA, wA = w.alloc (.cells #[.int .i64 m, .slice a1 L c1, .slice a2 L c2] 28) := ⟨_, rfl⟩
  have hbA : Below w.heap.size w wA := by rw [hwA]; exact (Below.refl _ _).alloc (Nat.le_refl _) _
  have hkA : wA.heap[w.heap.size]? = some (.cells #[.int .i64 m, .slice a1 L c1, .slice a2 L c2] 28 (0, 0)) := by rw [hwA]; exact heap_at rfl
  obtain ⟨wM, hwM⟩ : ∃ wM, wM = wA.alloc (.cells (madeCells #[.bool false] 100) 4) := ⟨_, rfl⟩
  have hbM : Below wA.heap.size wA wM := by rw [hwM]; exact (Below.refl _ _).alloc (Nat.le_refl _) _
  have hrM : BoolRow wM wA.heap.size 100 (fun _ => false) := .made (by rw [hwM]; exact heap_at rfl)
  have hm2 := make100
  have HX := Lib.hid (show ∀ w', Below wA.heap.size wA w' → w'.heap[w.heap.size]? = some (.cells #[.int .i64 m, .slice a1 L c1, .slice a2 L c2] 28 (0, 0)) ∧ RulesIn w' base (.slice a1 L c1) (.slice a2 L c2) rc ∧ OutI w' b0 (.slice al out.length cl) (out.map fun k : Nat => (k : Int)) ∧ Below w.heap.size w w' from fun w' hw => by
    have hb := hbA.trans (hw.mono hbA.size)
    exact ⟨(hw.block _ (lt_of_block hkA)).trans hkA, h.below hb, RowG.below ho hb, hb⟩)
  have HbM := Lib.hid hbM; have HrM := Lib.hid hrM; have Hn := Lib.hid hn; have H100 := Lib.hid h100; have Hs := Lib.hid hs
  clear h ho hbA hkA hbM hrM hn h100 hs
  go_enter Tryz.func30, Tryz.ntmps30
  go_upto_region 1 with fail
  rw [← hwA]
  clear hwA
  go_upto_region 2 with fail
  rw [← hwM]
  clear hwM hm2
  go_wp2_with fail
  go_loopg [9] out.length (fun gk i wr => ∃ (k : Nat) (S : Nat → Bool), k ≤ out.length ∧ gk = out.length - k ∧ i = .int .i64 k ∧ BoolRow wr wA.heap.size 100 S ∧ (∀ j, S j = true ↔ ∃ t, ∃ h : t < out.length, t < k ∧ out[t] = j ∧ (t : Int) ≠ wo) ∧ Below wA.heap.size wA wr)
  case atStart => exact ⟨0, _, Nat.zero_le _, rfl, rfl, HrM.out, fun j => ⟨fun q => (by cases q), fun ⟨t, _, q, _⟩ => absurd q (Nat.not_lt_zero _)⟩, HbM.out⟩
  case round =>
    obtain ⟨k, S, hk, rfl, rfl, hr, hS, hbw⟩ := hrel
    obtain ⟨wi, rfl⟩ : ∃ y, y = wr := ⟨_, rfl⟩
    obtain ⟨hbx, hrul, hrow, hbe⟩ := HX.out wi hbw
    by_cases hlt : k < out.length
    · have hi : (k : Int) < (out.length : Int) := by omega
      obtain ⟨g, rfl, hg, _⟩ := RowG.at hrow (by rw [List.length_map]; omega)
      have hc := RowG.cell (enc := encInt) (z := 1) (fun _ => rfl) hrow (k := k) (by rw [List.length_map]; exact hlt) (j := 0) (by decide) rfl
      rw [Nat.mul_one, Nat.add_zero, List.getElem_map] at hc
      have hq := H100.out out[k] (List.getElem_mem hlt)
      have hst := can_step Hn.out (wo := wo) hlt hS
      obtain ⟨q, hqe⟩ : ∃ q, q = out[k] := ⟨_, rfl⟩
      rw [← hqe] at hc hq hst
      obtain ⟨d1, d2, d3⟩ := hr.cell hq
      have t1 : decide ((q : Int) < 0) = false := by simp
      have t2 : decide ((100 : Int) ≤ (q : Int)) = false := by simp; omega
      have t2p : ¬ (100 : Int) ≤ (q : Int) := by omega
      have t2n : ¬ 100 ≤ q := by omega
      have hqi : (q : Int) < 100 := by omega
      have Hr := Lib.hid hr; have Hst := Lib.hid hst; have Hbw := Lib.hid hbw
      clear hr hst hbw hS hbx hrul hrow hbe hqe
      go_wp2_with fail
      go_roundg (out.length - (k + 1))
      case measure => omega
      case rel => exact ⟨k + 1, _, by omega, rfl, by go_num, Hr.out.set hq _, Hst.out, Hbw.out.setCell (p := ⟨wA.heap.size, q, none⟩) (Nat.le_refl _) _⟩
    · obtain rfl : k = out.length := by omega
      have hS' : ∀ j, S j = true ↔ ∃ t, ∃ h : t < out.length, out[t] = j ∧ (t : Int) ≠ wo := fun j => by
        rw [hS]
        exact ⟨fun ⟨t, h, _, q⟩ => ⟨t, h, q⟩, fun ⟨t, h, q⟩ => ⟨t, h, h, q⟩⟩
      have HO := Lib.hid (show ∀ w', Below wi.heap.size wi w' → Calls Tryz.prog 12 #[.agg #[.int .i64 m, .slice a1 L c1, .slice a2 L c2], .slice (some ⟨wA.heap.size, 0, none⟩) 100 100] w' fun e w'' => (∃ vo, e = .returned vo ∧ ClsIn w'' w'.heap.size vo (onlyC rc (boolsL 100 S))) ∧ Below w'.heap.size w' w'' from fun w' hw => only_any base (m : Nat) _ _ _ rc _ w' (hrul.below hw) ((hr.below hw).bools (by omega)) (by have := Hs.out.len; omega) Hs.out.frm)
      have HK := Lib.hid (show ∀ w', Below wi.heap.size wi w' → w'.cell? ⟨w.heap.size, 0, none⟩ = some (.int .i64 m) ∧ w'.cell? ⟨w.heap.size, 1, none⟩ = some (.slice a1 L c1) ∧ w'.cell? ⟨w.heap.size, 2, none⟩ = some (.slice a2 L c2) from fun w' hw => cellsR ((hw.block _ (lt_of_block hbx)).trans hbx))
      have HS' := Lib.hid hS'; have Hbe := Lib.hid hbe
      have HB := Lib.hid ((Below.refl wi.heap.size wi).drew)
      have HBd := Lib.hid (fun o => ((Below.refl wi.heap.size wi).alloc (Nat.le_refl _) o).drew)
      have KS := HK.out _ HB.out
      have hlx := lt_of_block hbx
      clear hr hS hS' hbw hbx hrul hrow hbe hlt
      go_wp2_with fail
      go_region_held3 (fun w' => w'.cell? ⟨w.heap.size, 0, none⟩ = some (.int .i64 m) ∧ w'.cell? ⟨w.heap.size, 1, none⟩ = some (.slice a1 L c1) ∧ w'.cell? ⟨w.heap.size, 2, none⟩ = some (.slice a2 L c2)) (first | (with_reducible exact KS) | (with_reducible refine kS3 ?_ KS; omega) | (with_reducible refine kS3 ?_ KS; have := HB.out.size; omega) | (with_reducible refine kSAd ?_ KS; omega) | (with_reducible refine kSA ?_ KS; have := HB.out.size; omega) | go_keep)
        (first
          | (go_at_call 12; (refine (HO.out _ (by first | (with_reducible exact HB.out) | (with_reducible exact HBd.out _))).mono ?_); rintro e w7 ⟨⟨v7, rfl, h7⟩, hb7⟩; obtain ⟨x7, y7, rfl, _, _⟩ := h7.shape; have HSo := Lib.hid (show ∀ w', Below w7.heap.size w7 w' → _ from fun w' hw => solveS_any Hs.out (h7.below hw)); have hB7 : Below wi.heap.size wi w7 := (by first | (with_reducible exact HB.out.trans (hb7.mono HB.out.size)) | (with_reducible exact (HBd.out _).trans (hb7.mono (HBd.out _).size))); have hs7 := hB7.size; (try (have hx7 : w7.heap[wi.heap.size]? = some (.cells #[.bool false, .int .u64 0, .slice none 0 0] 72 (0, 0)) := (hb7.block _ (by simp)).trans (heap_at (by simp)); have HX7 := Lib.hid hx7; clear hx7)); clear h7 hb7 KS HB; have HB := Lib.hid hB7; clear hB7; have KS := HK.out _ HB.out)
          | (go_at_call 29; (refine (HSo.out _ (by first | (with_reducible exact Below.refl _ _) | (with_reducible exact (Below.refl _ _).alloc (Nat.le_refl _) _))).mono ?_); rintro e w8 ⟨⟨holds, vals, a8, n8, c8, rfl, h8⟩, hb8⟩; have H8 := Lib.hid h8; have hB8 : Below wi.heap.size wi w8 := (by first | (with_reducible exact HB.out.trans (hb8.mono HB.out.size)) | (with_reducible exact (HB.out.alloc HB.out.size _).trans (hb8.mono (HB.out.alloc HB.out.size _).size))); (first | (have hx8 := (hb8.block _ (lt_of_block HX7.out)).trans HX7.out) | (have hx8 : w8.heap[w7.heap.size]? = some (.cells #[.bool false, .int .u64 0, .slice none 0 0] 72 (0, 0)) := (hb8.block _ (by simp)).trans (heap_at rfl)) | skip); (try (obtain ⟨g0, g1, g2⟩ := freeR hx8; obtain ⟨z0, z1, z2⟩ := cellsR hx8; have l8 := lt_of_block hx8; have HX8 := Lib.hid hx8; clear hx8)); clear h8 hb8 KS HB; have HB := Lib.hid hB8; clear hB8; have KS := HK.out _ HB.out))
      · have hk : (w8.alloc (.cells #[.bool holds, .int .u64 vals, .slice a8 n8 c8] 72)).heap[w8.heap.size]? = some (.cells #[.bool holds, .int .u64 vals, .slice a8 n8 c8] 72 (0, 0)) := heap_at rfl
        have hbz := HB.out.alloc HB.out.size (.cells #[.bool holds, .int .u64 vals, .slice a8 n8 c8] 72)
        generalize w8.alloc (.cells #[.bool holds, .int .u64 vals, .slice a8 n8 c8] 72) = wz at hk hbz ⊢
        obtain ⟨q0, q1, q2⟩ := cellsR hk
        have Hbz := Lib.hid hbz
        clear hk hbz KS q1 q2
        go_wp2_with fail
        go_region
        all_goals go_wp2_with fail
        all_goals go_ret2
        all_goals exact ⟨⟨holds, S, rfl, HS'.out, H8.out⟩, Hbe.out.trans ((Hbz.out.drew).mono Hbe.out.size)⟩
      · have hk := setR3 HX8.out (.bool holds) (.int .u64 vals) (.slice a8 n8 c8)
        have hbz := HB.out.trans (setR3_below (w := w8) (show wi.heap.size ≤ w7.heap.size by omega) (.bool holds) (.int .u64 vals) (.slice a8 n8 c8))
        clear g0 g1 g2 z0 z1 z2
        generalize ((w8.setCell ⟨w7.heap.size, 0, none⟩ (.bool holds)).setCell ⟨w7.heap.size, 1, none⟩ (.int .u64 vals)).setCell ⟨w7.heap.size, 2, none⟩ (.slice a8 n8 c8) = wz at hk hbz ⊢
        obtain ⟨q0, q1, q2⟩ := cellsR hk
        have Hbz := Lib.hid hbz
        clear hk hbz KS q1 q2
        go_wp2_with fail
        go_region
        all_goals go_wp2_with fail
        all_goals go_ret2
        all_goals exact ⟨⟨holds, S, rfl, HS'.out, H8.out⟩, Hbe.out.trans ((Hbz.out.drew).mono Hbe.out.size)⟩
      · have hk := setR3 HX8.out (.bool holds) (.int .u64 vals) (.slice a8 n8 c8)
        have hbz := HB.out.trans (setR3_below (w := w8) (Nat.le_refl wi.heap.size) (.bool holds) (.int .u64 vals) (.slice a8 n8 c8))
        clear g0 g1 g2 z0 z1 z2
        generalize ((w8.setCell ⟨wi.heap.size, 0, none⟩ (.bool holds)).setCell ⟨wi.heap.size, 1, none⟩ (.int .u64 vals)).setCell ⟨wi.heap.size, 2, none⟩ (.slice a8 n8 c8) = wz at hk hbz ⊢
        obtain ⟨q0, q1, q2⟩ := cellsR hk
        have Hbz := Lib.hid hbz
        clear hk hbz KS q1 q2
        go_wp2_with fail
        go_region
        all_goals go_wp2_with fail
        all_goals go_ret2
        all_goals exact ⟨⟨holds, S, rfl, HS'.out, H8.out⟩, Hbe.out.trans ((Hbz.out.drew).mono Hbe.out.size)⟩
end Go.Proofs.YtheemhelioendaaGreatDoor
