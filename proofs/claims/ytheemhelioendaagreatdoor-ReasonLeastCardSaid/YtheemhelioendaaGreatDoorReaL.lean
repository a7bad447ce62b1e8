/- The walk of ReasonLeast. -/
import Derived.Test.YtheemhelioendaaGreatDoorCored
import Derived.Test.YtheemhelioendaaGreatDoorPkT
namespace Go.Proofs.YtheemhelioendaaGreatDoor
open Go.RowKit
set_option linter.unusedVariables false

theorem can_no {rc : List (Int × List Int)} {out : List Nat} {S : Nat → Bool} (hf : ∀ p ∈ rc, -1 ≤ p.1 ∧ p.1 < 100) (h : CoreOk rc out) (hS : ∀ j, S j = true ↔ ∃ t, ∃ h : t < out.length, out[t] = j ∧ (t : Int) ≠ -1) : ¬ SatS rc S := fun q =>
  h.no (q.less hf (fun i _ hi => by
    rw [decide_eq_true_iff] at hi
    obtain ⟨t, ht, rfl⟩ := List.getElem_of_mem hi
    exact (hS _).2 ⟨t, ht, rfl, by omega⟩))
theorem inc_ne {out : List Nat} (h : out.Pairwise (· < ·)) {t k : Nat} (ht : t < out.length) (hk : k < out.length) (hne : t ≠ k) : out[t] ≠ out[k] := by
  have h1 := List.pairwise_iff_getElem.1 h
  rcases Nat.lt_or_gt_of_ne hne with q | q
  · have := h1 t k ht hk q; omega
  · have := h1 k t hk ht q; omega
theorem can_yes {rc : List (Int × List Int)} {out : List Nat} {S : Nat → Bool} {k : Nat} (hf : ∀ p ∈ rc, -1 ≤ p.1 ∧ p.1 < 100) (h : CoreOk rc out) (hk : k < out.length) (hS : ∀ j, S j = true ↔ ∃ t, ∃ h : t < out.length, out[t] = j ∧ (t : Int) ≠ (k : Int)) : SatS rc S :=
  (h.yes out[k] (List.getElem_mem hk)).less hf (fun i _ hi => by
    obtain ⟨t, ht, rfl, hne⟩ := (hS i).1 hi
    rw [decide_eq_true_iff]
    exact ⟨List.getElem_mem ht, inc_ne h.inc ht hk (by omega)⟩)
theorem rules_all {ls : List LineM} {items : List ItemM} (hl : ls.length ≤ 100) (h : Solv items.length (rulesC ls items)) : Good (items.length : Nat) (clsOf (rulesC ls items)) ∧ FewC (items.length : Nat) (clsOf (rulesC ls items)) := by
  rw [← says_all hl]
  exact ⟨h.good _, h.few _⟩
theorem rulesIn_cls {w : World} {base : Nat} {vc vf : Value} {rc : List (Int × List Int)} (h : RulesIn w base vc vf rc) : ClsIn w base vc (clsOf rc) := by
  obtain ⟨vs, h1, h2, _⟩ := h
  exact ⟨vs, h1, h2⟩
theorem can_nl (m : Nat) (base b0 : Nat) (a1 a2 al : Option Addr) (L c1 c2 cl NL : Nat) (rc : List (Int × List Int)) (out : List Nat) (wo : Int) (w : World) (hs : Solv m rc) (h : RulesIn w base (.slice a1 L c1) (.slice a2 L c2) rc) (ho : OutI w b0 (.slice al NL cl) (out.map fun k : Nat => (k : Int))) (hn : out.Nodup) (h100 : ∀ i ∈ out, i < 100) (hwo : -1 ≤ wo ∧ wo ≤ 1000) (hNL : NL = out.length) :
    Calls Tryz.prog 30 #[.agg #[.int .i64 m, .slice a1 L c1, .slice a2 L c2], .slice al NL cl, .int .i64 wo] w fun e w' => (∃ (b : Bool) (S : Nat → Bool), e = .returned (.tuple #[.bool b, .bool true]) ∧ (∀ j, S j = true ↔ ∃ t, ∃ h : t < out.length, out[t] = j ∧ (t : Int) ≠ wo) ∧ (b = true ↔ SatS rc S)) ∧ Below w.heap.size w w' := by
  subst hNL
  exact can_any m base b0 a1 a2 al L c1 c2 cl rc out wo w hs h ho hn h100 hwo
set_option maxRecDepth 100000 in
set_option maxHeartbeats 32000000 in
theorem reasonLeast_walk (s : ByteArray) (w : World) (hm : s.size ≤ 9223372036854775807) (hL : LaidR w) (hT : TypeLaid w) : Calls Tryz.prog 8 #[.string s] w fun e w' => e = .returned (.bool true) ∧ Below w.heap.size w w' := by
  have HP := Lib.hid (read_any s 12 w hm (by decide) hL hT)
  have HR := Lib.hid (show ∀ w', Below w.heap.size w w' → Calls Tryz.prog 27 #[] w' fun e w'' => e = .returned (.bool true) ∧ Below w'.heap.size w' w'' from fun w' hw => cored_any w' (hL.below hw) (hT.below hw))
  have HTl := Lib.hid (show ∀ w', Below w.heap.size w w' → TypeLaid w' from fun w' hw => hT.below hw)
  clear hL hT hm
  go_enter Tryz.func8, Tryz.ntmps8
  go_wp2_with fail
  refine HP.out.mono ?_
  rintro e w1 ⟨⟨p, ls, items, a1, c1, a2, c2, rfl, hcat, hls, _, hlen, hmo, hin⟩ | ⟨rfl, hno⟩, hb1⟩
  · obtain ⟨hok, vl, vi, hat⟩ := hcat
    have hn12 : items.length ≤ 12 := by omega
    have hsv := rules_solv hok hlen hn12
    have hl100 := hok.few
    have hall := rules_all hl100 hsv
    have hfr : ∀ p ∈ rulesC ls items, -1 ≤ p.1 ∧ p.1 < 100 := fun p hp => by have := rulesC_from hp; omega
    obtain ⟨rc, hrc⟩ : ∃ rc, rc = rulesC ls items := ⟨_, rfl⟩
    rw [← hrc] at hlen hin hsv hfr hall ⊢
    obtain ⟨L, hL⟩ : ∃ L, L = rc.length := ⟨_, rfl⟩
    rw [← hL] at hlen hin ⊢
    obtain ⟨m, hmm⟩ : ∃ m, m = items.length := ⟨_, rfl⟩
    rw [← hmm] at hsv hall ⊢
    obtain ⟨w2, hw2⟩ : ∃ w2, w2 = w1.alloc (.cells #[.int .i64 m, .slice a1 L c1, .slice a2 L c2] 28) := ⟨_, rfl⟩
    have hb2 : Below w1.heap.size w1 w2 := by rw [hw2]; exact (Below.refl _ _).alloc (Nat.le_refl _) _
    have hk2 : w2.heap[w1.heap.size]? = some (.cells #[.int .i64 m, .slice a1 L c1, .slice a2 L c2] 28 (0, 0)) := by rw [hw2]; exact heap_at rfl
    have HF := Lib.hid (show ∀ w', Below w2.heap.size w2 w' → (Calls Tryz.prog 28 #[.pointer (some ⟨p, 0, none⟩)] w' (CoreP ls items w')) ∧ w'.heap[w1.heap.size]? = some (.cells #[.int .i64 m, .slice a1 L c1, .slice a2 L c2] 28 (0, 0)) ∧ RulesIn w' w.heap.size (.slice a1 L c1) (.slice a2 L c2) rc ∧ Below w.heap.size w w' from fun w' hw => by
      have hb := hb2.trans (hw.mono hb2.size)
      exact ⟨core_any p vl vi ls items w' (hat.below hb) hok hn12, (hw.block _ (lt_of_block hk2)).trans hk2, hin.below hb, hb1.trans (hb.mono hb1.size)⟩)
    have Hs := Lib.hid hsv; have Hall := Lib.hid hall; have Hfr := Lib.hid hfr; have Hrc := Lib.hid hrc; have HL := Lib.hid hL; have Hlen := Lib.hid hlen
    have HB2 := Lib.hid (hb1.trans (hb2.mono hb1.size))
    clear hok hat hls hb1 hb2 hk2 hin HP hlen hsv hall hfr hrc hL hmm hmo hn12 hl100
    go_upto_region 2 with fail
    rw [← hw2]
    clear hw2
    go_wp2_with fail
    refine (HR.out _ HB2.out).mono ?_
    rintro e w3 ⟨rfl, hb3⟩
    have HC3 := Lib.hid (HF.out _ hb3).1
    have Hb3 := Lib.hid hb3
    clear hb3
    go_wp2_with fail
    refine HC3.out.mono ?_
    rintro e w4 ⟨⟨a, c, out, rfl, hout, hcore⟩ | ⟨rfl, hsat⟩ | ⟨rfl, h⟩, hb4⟩
    · obtain ⟨_, hk4, hrul, _⟩ := HF.out w4 (Hb3.out.trans (hb4.mono Hb3.out.size))
      obtain ⟨q0, q1, q2⟩ := cellsR hk4
      rw [← Hrc.out] at hcore
      have hnd : out.Nodup := hcore.inc.imp (fun h => Nat.ne_of_lt h)
      have hn100 : out.length ≤ 100 := by
        have := nodup_sub hnd (m := List.range 100) (fun i hi => List.mem_range.2 (hcore.lt i hi))
        simpa using this
      obtain ⟨NL, hNL⟩ : ∃ NL, NL = out.length := ⟨_, rfl⟩
      have Hout := Lib.hid (show OutI w4 w3.heap.size (.slice a NL c) (out.map fun k : Nat => (k : Int)) from by rw [hNL]; exact hout)
      have HCan := Lib.hid (show ∀ w', Below w4.heap.size w4 w' → ∀ wo : Int, -1 ≤ wo ∧ wo ≤ 1000 → _ from fun w' hw wo hwo => can_nl m w.heap.size w3.heap.size a1 a2 a L c1 c2 c NL rc out wo w' Hs.out (hrul.below hw) (RowG.below Hout.out hw) hnd hcore.lt hwo hNL)
      rw [← hNL] at hn100 ⊢
      have HNL := Lib.hid hNL; have Hcore := Lib.hid hcore; have Hb4 := Lib.hid (Hb3.out.trans (hb4.mono Hb3.out.size))
      clear hNL hcore hnd hout hk4 hrul hb4 HC3
      go_wp2_with fail
      refine (HCan.out w4 (Below.refl _ _) (-1) (by decide)).mono ?_
      rintro e w5 ⟨⟨b, S, rfl, hS, hb⟩, hb5⟩
      obtain rfl : b = false := by
        cases b with
        | false => rfl
        | true => exact absurd (hb.1 rfl) (can_no Hfr.out Hcore.out hS)
      have Hb5 := Lib.hid hb5
      clear hb5 hS hb q0 q1 q2
      go_wp2_with fail
      go_loopg [12] NL (fun gk i wr => ∃ k : Nat, k ≤ NL ∧ gk = NL - k ∧ i = .int .i64 k ∧ Below w5.heap.size w5 wr)
      case atStart => exact ⟨0, Nat.zero_le _, rfl, rfl, Below.refl _ _⟩
      case round =>
        obtain ⟨k, hk, rfl, rfl, hbw⟩ := hrel
        obtain ⟨wo, rfl⟩ : ∃ y, y = wr := ⟨_, rfl⟩
        have hbo := Hb5.out.trans (hbw.mono Hb5.out.size)
        obtain ⟨_, hko, _, hbe⟩ := HF.out wo (Hb4.out.trans (hbo.mono Hb4.out.size))
        obtain ⟨q0, q1, q2⟩ := cellsR hko
        have HCk := Lib.hid (HCan.out wo hbo k (by omega))
        have Hbo := Lib.hid hbo; have Hbw := Lib.hid hbw; have Hbe := Lib.hid hbe
        clear hbo hbw hbe hko
        by_cases hlk : k < NL
        · have hi : (k : Int) < (NL : Int) := by omega
          have hks : k < out.length := by rw [← HNL.out]; exact hlk
          go_wp2_with fail
          refine HCk.out.mono ?_
          rintro e w6 ⟨⟨b, S, rfl, hS, hb⟩, hb6⟩
          obtain rfl : b = true := hb.2 (can_yes Hfr.out Hcore.out hks hS)
          have hro := Hout.out.below (Hbo.out.trans (hb6.mono Hbo.out.size))
          obtain ⟨g, rfl, hg, _⟩ := RowG.at hro (by rw [List.length_map]; omega)
          have hcl : ∀ (j : Nat) (hj : j < out.length), w6.cell? ⟨g, j, none⟩ = some (.int .i64 (out[j] : Nat)) := fun j hj => by
            have h := RowG.cell (enc := encInt) (z := 1) (fun _ => rfl) hro (k := j) (by rw [List.length_map]; exact hj) (j := 0) (by decide) rfl
            rw [Nat.mul_one, Nat.add_zero, List.getElem_map] at h
            exact h
          have Hcl := Lib.hid hcl; have Hb6 := Lib.hid (Hbw.out.trans (hb6.mono Hbw.out.size))
          clear hcl hro hg hS hb hb6 q0 q1 q2
          go_upto_region 15 with fail
          cases k with
          | zero =>
            have t6 : decide ((0 : Int) < ((0 : Nat) : Int)) = false := by decide
            go_quiet (fail)
            go_wp2_with fail
            go_roundg (NL - (0 + 1))
            case measure => omega
            case rel => exact ⟨0 + 1, by omega, rfl, by go_num, below_drewN Hb6.out _⟩
          | succ j =>
            have d1 := Hcl.out (j + 1) hks
            have d0 := Hcl.out j (by omega)
            have hlt := List.pairwise_iff_getElem.1 Hcore.out.inc j (j + 1) (by omega) hks (by omega)
            obtain ⟨x, hx⟩ : ∃ x, x = out[j] := ⟨_, rfl⟩
            obtain ⟨y, hy⟩ : ∃ y, y = out[j + 1] := ⟨_, rfl⟩
            rw [← hx] at d0 hlt
            rw [← hy] at d1 hlt
            have t6 : decide ((0 : Int) < ((j + 1 : Nat) : Int)) = true := decide_eq_true (by omega)
            have t7 : IntKind.i64.wrap (((j + 1 : Nat) : Int) - 1) = (j : Int) := by rw [show (((j + 1 : Nat) : Int) - 1) = (j : Int) by omega]; simp [IntKind.wrap, IntKind.bits, IntKind.signed]; omega
            have t8 : (j : Int) < (NL : Int) := by omega
            have t9 : decide ((y : Int) ≤ (x : Int)) = false := decide_eq_false (by omega)
            have t9n : decide (y ≤ x) = false := decide_eq_false (by omega)
            have t9p : ¬ y ≤ x := by omega
            clear hx hy hlt
            go_quiet (fail)
            go_wp2_with fail
            go_roundg (NL - (j + 1 + 1))
            case measure => omega
            case rel => exact ⟨j + 1 + 1, by omega, rfl, by go_num, below_drewN Hb6.out _⟩
        · obtain rfl : NL = k := by omega
          clear hlk q0 q1 q2 HCk
          go_wp2_with fail
          go_ret
          exact ⟨rfl, Hbe.out⟩
    · obtain ⟨_, hk4, hrul, _⟩ := HF.out w4 (Hb3.out.trans (hb4.mono Hb3.out.size))
      obtain ⟨q0, q1, q2⟩ := cellsR hk4
      rw [← Hrc.out] at hsat
      have HSv := Lib.hid (solveB_any (m : Nat) (.slice a1 L c1) (clsOf rc) w4 ((rulesIn_cls hrul).rows (by have := Hall.out.1.2.2.1; omega) (fun c hc => by have := (Hall.out.1.2.2.2 c hc).1; omega)) Hall.out.1 Hall.out.2)
      have Hsat := Lib.hid hsat; have Hb4 := Lib.hid (Hb3.out.trans (hb4.mono Hb3.out.size))
      clear hsat hk4 hrul hb4 HC3
      go_wp2_with fail
      refine HSv.out.mono ?_
      rintro e w5 ⟨⟨holds, vals, a8, n8, c8, rfl, hiff⟩, hb5⟩
      obtain rfl : holds = true := hiff.2 Hsat.out
      obtain ⟨w6, hw6⟩ : ∃ w6, w6 = w5.alloc (.cells #[.bool true, .int .u64 vals, .slice a8 n8 c8] 72) := ⟨_, rfl⟩
      have hk6 : w6.heap[w5.heap.size]? = some (.cells #[.bool true, .int .u64 vals, .slice a8 n8 c8] 72 (0, 0)) := by rw [hw6]; exact heap_at rfl
      have hb6 : Below w4.heap.size w4 w6 := by rw [hw6]; exact hb5.alloc hb5.size _
      have HB6 := Lib.hid (HF.out w6 (Hb4.out.trans (hb6.mono Hb4.out.size))).2.2.2
      have Hk6 := Lib.hid hk6
      clear hb5 hiff hk6 hb6 HSv q0 q1 q2
      go_upto_region 7 with fail
      rw [← hw6]
      clear hw6
      have Ht := Lib.hid (tell_errno 8 w6 (HTl.out _ HB6.out))
      go_wp2_with fail
      refine Ht.out.mono ?_
      rintro e w7 ⟨rfl, hb7⟩
      obtain ⟨z0, _, _⟩ := cellsR ((hb7.block _ (lt_of_block Hk6.out)).trans Hk6.out)
      have HB7 := Lib.hid (HB6.out.trans (hb7.mono HB6.out.size))
      clear hb7
      go_wp2_with fail
      go_ret
      exact ⟨rfl, HB7.out⟩
    · rw [← Hrc.out, ← HL.out] at h
      exact absurd Hlen.out (by omega)
  · have HB1 := Lib.hid (hb1.alloc hb1.size (.cells #[.int .i64 0, .slice none 0 0, .slice none 0 0] 28))
    clear hno hb1 HP
    obtain ⟨w2, hw2⟩ : ∃ w2, w2 = w1.alloc (.cells #[.int .i64 0, .slice none 0 0, .slice none 0 0] 28) := ⟨_, rfl⟩
    rw [← hw2] at HB1
    go_upto_region 2 with fail
    rw [← hw2]
    clear hw2
    go_wp2_with fail
    refine (HR.out _ HB1.out).mono ?_
    rintro e w3 ⟨rfl, hb3⟩
    have HB3 := Lib.hid (HB1.out.trans (hb3.mono HB1.out.size))
    clear hb3
    go_wp2_with fail
    refine (HR.out _ HB3.out).mono ?_
    rintro e w4 ⟨rfl, hb4⟩
    have HB4 := Lib.hid (HB3.out.trans (hb4.mono HB3.out.size))
    clear hb4
    go_wp2_with fail
    go_ret
    exact ⟨rfl, HB4.out⟩
end Go.Proofs.YtheemhelioendaaGreatDoor
