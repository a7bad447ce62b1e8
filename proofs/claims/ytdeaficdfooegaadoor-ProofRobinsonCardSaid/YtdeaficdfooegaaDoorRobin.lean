/- The walk of ProofRobinson. -/
import Derived.Test.YtdeaficdfooegaaDoorResW
import Derived.Test.YtdeaficdfooegaaDoorAppI
import Derived.Test.YtdeaficdfooegaaDoorSound
import Derived.Test.YtdeaficdfooegaaDoorSInts
import Derived.Test.YtdeaficdfooegaaDoorPick
import Derived.Test.YtdeaficdfooegaaDoorTell
namespace Go.Proofs.YtdeaficdfooegaaDoor
open Go.RowKit
set_option linter.unusedVariables false

def TrueE (w : World) (e : Ending) (w' : World) : Prop := e = .returned (.bool true) ∧ Below w.heap.size w w'
theorem good_small {m : Int} {ls : List (List Int)} (h : Good m ls) {c : List Int} (hc : c ∈ ls) : ∀ x ∈ c, x ≠ 0 ∧ -24 ≤ x ∧ x ≤ 24 := fun x hx => by
  obtain ⟨h1, h2, _, h4⟩ := h
  have := good_lit (h4 c hc).2 hx
  omega
theorem isRows_two (w : World) (va vb : Value) (a b : List Int) (ha : IsInts w va a) (hb : IsInts w vb b) :
    IsRows (w.alloc (.cells #[va, vb] 54)) (.slice (some ⟨w.heap.size, 0, none⟩) 2 2) [a, b] := by
  have hal : Below w.heap.size w (w.alloc (.cells #[va, vb] 54)) := (Below.refl _ _).alloc (Nat.le_refl _) _
  exact isRows_row [va, vb] [a, b] (heap_at rfl) rfl (rowVals_two (ha.below hal) (hb.below hal)) rfl (Nat.le_refl _) (by decide) (by simp)

theorem isInts_one (w : World) (x : Int) (n : Nat) (hn : n = w.heap.size) : IsInts (w.alloc (.cells #[.int .i64 x] 3)) (.slice (some ⟨n, 0, none⟩) 1 1) [x] := by
  subst hn
  exact isInts_row [x] (heap_at rfl) rfl rfl (Nat.le_refl _) (by decide) (by simp)
theorem bel_al (w : World) (o : Obj) : Below w.heap.size w (w.alloc o) := (Below.refl _ _).alloc (Nat.le_refl _) _
/-- What follows from two clauses, over values told by a number. -/
theorem res_bits {a b : List Int} {v : Int} (h0 : 0 ≤ v) (vals : Nat) (ha : clB vals a = true) (hb : clB vals b = true) : clB vals (formL (leftL a b v)) = true := by
  rw [clB_form]
  exact left_holds (f := vals.testBit) h0 ha hb

set_option maxRecDepth 100000 in
set_option maxHeartbeats 8000000 in
theorem robinson_any (va vb : Value) (a b : List Int) (vv : Int) (vals : Nat) (w : World) (ha : IsInts w va a) (hb : IsInts w vb b) (hT : TypeLaid w) (hv : vals < 18446744073709551616) :
    Calls Tryd.prog 5 #[va, vb, .int .i64 vv, .int .u64 vals] w (TrueE w) := by
  obtain ⟨aa, ca, rfl, hca1, hca2, _⟩ := ha.shape
  obtain ⟨ab, cb, rfl, hcb1, hcb2, _⟩ := hb.shape
  by_cases hla : 30 < a.length
  · have h1 : decide (30 < (a.length : Int)) = true := by simp; omega
    clear ha hb hT
    go_enter Tryd.func5, Tryd.ntmps5
    go_wp2_with fail
    go_ret
    exact ⟨rfl, Below.refl _ _⟩
  have h1 : decide (30 < (a.length : Int)) = false := by simp; omega
  by_cases hlb : 30 < b.length
  · have h2 : decide (30 < (b.length : Int)) = true := by simp; omega
    clear ha hb hT
    go_enter Tryd.func5, Tryd.ntmps5
    go_wp2_with fail
    go_ret
    exact ⟨rfl, Below.refl _ _⟩
  have h2 : decide (30 < (b.length : Int)) = false := by simp; omega
  have hal : Below w.heap.size w (w.alloc (.cells #[.slice aa a.length ca, .slice ab b.length cb] 54)) := (Below.refl _ _).alloc (Nat.le_refl _) _
  have hck := check_any 24 _ [a, b] _ (isRows_two w _ _ a b ha hb)
  by_cases hg : ¬ Good 24 [a, b]
  · have Hck := Lib.hid hck; have Hal := Lib.hid hal; have Hg := Lib.hid hg
    clear ha hb hT hck hal hg
    go_enter Tryd.func5, Tryd.ntmps5
    go_wp2_with fail
    refine Hck.out.mono ?_
    rintro e w1 ⟨⟨ev, rfl, -, hno⟩, hb1⟩
    obtain ⟨t, v, rfl⟩ := hno Hg.out
    have Hb1 := Lib.hid (Hal.out.trans (hb1.mono Hal.out.size)); clear hb1 hno
    go_wp2_with fail
    go_ret
    exact ⟨rfl, Hb1.out⟩
  have hg := Classical.not_not.1 hg
  have hsa := good_small hg (c := a) (by simp)
  have hsb := good_small hg (c := b) (by simp)
  obtain ⟨u, eu⟩ : ∃ u, u = pickN vv 24 := ⟨_, rfl⟩
  have hu : u < 24 := by rw [eu]; exact pickN_lt vv (by decide)
  have hpk : ∀ w' : World, Calls Tryd.prog 15 #[.int .i64 vv, .int .i64 24] w' fun e w2 => e = .returned (.int .i64 (u : Int)) ∧ w' = w2 := fun w' => by rw [eu]; exact pick_any vv 24 w' (by decide) (by decide)
  have hla2 : a.length ≤ 30 := by omega
  have hlb2 : b.length ≤ 30 := by omega
  have Hck := Lib.hid hck; have Hal := Lib.hid hal; have Hg := Lib.hid hg; have Hpk := Lib.hid hpk; have Ha := Lib.hid (ha.below hal); have Hb := Lib.hid (hb.below hal); have HT := Lib.hid hT; have Hsa := Lib.hid hsa; have Hsb := Lib.hid hsb
  clear ha hb hT hck hal hg hpk eu hla hlb hsa hsb
  go_enter Tryd.func5, Tryd.ntmps5
  go_wp2_with fail
  refine Hck.out.mono ?_
  rintro e w1 ⟨⟨ev, rfl, hev, -⟩, hb1⟩
  obtain rfl := hev Hg.out
  have Hb1 := Lib.hid (Hal.out.trans (hb1.mono Hal.out.size)); have Ha1 := Lib.hid (Ha.out.below hb1); have Hb1' := Lib.hid (Hb.out.below hb1); clear hb1 hev Hck Ha Hb Hal
  go_wp2_with fail
  refine (Hpk.out _).mono ?_
  rintro e w2 ⟨rfl, rfl⟩
  clear Hpk
  have K1 := Lib.hid (Ha1.out.below (bel_al w1 (.cells #[] 3)))
  have O1 := Lib.hid (World.ownsRow_made (base := w1.heap.size) (e := 3) (size := 1) w1 #[] 0 (Nat.le_refl _) (Nat.zero_le _) rfl)
  go_wp2_with (first
    | (at_builtin; refine wpList_append_ints rfl (.tmp 30) (.tmp 31) rfl w1.heap.size _ [] rfl O1.out _ a rfl K1.out (by simp; omega) (by simp) ?_; intro v3 w3 ho3 hb3; simp only [List.nil_append] at ho3; have O3 := Lib.hid (ho3.alloc (.cells #[.int .i64 ((u : Int) + 1)] 3)); have B3 := Lib.hid ((bel_al w1 (.cells #[] 3)).trans hb3); have s3 := B3.out.size; clear ho3 hb3 O1 K1)
    | (at_builtin; refine wpList_append_ints rfl (.tmp 32) (.tmp 35) rfl w1.heap.size _ a rfl O3.out _ [(u : Int) + 1] rfl (isInts_one w3 _ _ rfl) (by simp; omega) (by simp; omega) ?_; intro v4 w4 ho4 hb4; have B4 := Lib.hid (B3.out.trans (((bel_al w3 (.cells #[.int .i64 ((u : Int) + 1)] 3)).mono s3).trans hb4)); have A4 := Lib.hid (ints_owned ho4 (by simp; omega)); have s4 := B4.out.size; have K5 := Lib.hid ((Hb1'.out.below B4.out).below (bel_al w4 (.cells #[] 3))); have O5 := Lib.hid (World.ownsRow_made (base := w4.heap.size) (e := 3) (size := 1) w4 #[] 0 (Nat.le_refl _) (Nat.zero_le _) rfl); clear ho4 hb4 B3 O3)
    | (at_builtin; refine wpList_append_ints rfl (.tmp 37) (.tmp 38) rfl w4.heap.size _ [] rfl O5.out _ b rfl K5.out (by simp; omega) (by simp) ?_; intro v5 w5 ho5 hb5; simp only [List.nil_append] at ho5; have O6 := Lib.hid (ho5.alloc (.cells #[.int .i64 (-(u : Int) - 1)] 3)); have B5 := Lib.hid ((bel_al w4 (.cells #[] 3)).trans hb5); have s5 := B5.out.size; clear ho5 hb5 O5 K5)
    | (at_builtin; refine wpList_append_ints rfl (.tmp 39) (.tmp 43) rfl w4.heap.size _ b rfl O6.out _ [-(u : Int) - 1] rfl (isInts_one w5 _ _ rfl) (by simp; omega) (by simp; omega) ?_; intro v6 w6 ho6 hb6; have B6 := Lib.hid (B5.out.trans (((bel_al w5 (.cells #[.int .i64 (-(u : Int) - 1)] 3)).mono s5).trans hb6)); have A6 := Lib.hid (ints_owned ho6 (by simp; omega)); clear ho6 hb6 B5 O6))
  have hmay : mayRes (a ++ [(u : Int) + 1]) (b ++ [-(u : Int) - 1]) u = true := may_iff.2 ⟨by omega, by omega, by simp, by simp⟩
  have hba : ∀ x ∈ a ++ [(u : Int) + 1], -1000 ≤ x ∧ x ≤ 1000 := fun x hx => by
    rcases List.mem_append.1 hx with h | h
    · have := Hsa.out x h; omega
    · have := List.mem_singleton.1 h; omega
  have hbb : ∀ x ∈ b ++ [-(u : Int) - 1], -1000 ≤ x ∧ x ≤ 1000 := fun x hx => by
    rcases List.mem_append.1 hx with h | h
    · have := Hsb.out x h; omega
    · have := List.mem_singleton.1 h; omega
  have hA := A4.out.below B6.out
  have hres := res_yes (u : Int) v4 v6 _ _ w6 hA A6.out hmay hba hbb (by simp; omega) (by simp; omega)
  rw [hmay] at hres
  have hbits := res_bits (a := a ++ [(u : Int) + 1]) (b := b ++ [-(u : Int) - 1]) (v := (u : Int)) (by omega) vals
  have hid := form_idem (leftL (a ++ [(u : Int) + 1]) (b ++ [-(u : Int) - 1]) u)
  have hcl : (formL (leftL (a ++ [(u : Int) + 1]) (b ++ [-(u : Int) - 1]) u)).length ≤ 1000 := by
    have h1 := form_len (leftL (a ++ [(u : Int) + 1]) (b ++ [-(u : Int) - 1]) u)
    have h2 := left_len (a ++ [(u : Int) + 1]) (b ++ [-(u : Int) - 1]) u
    simp at h2; omega
  have hcb : ∀ x ∈ formL (leftL (a ++ [(u : Int) + 1]) (b ++ [-(u : Int) - 1]) u), -1000 ≤ x ∧ x ≤ 1000 := fun x hx => by
    rcases mem_left.1 ((mem_form x).1 hx) with ⟨h, _⟩ | ⟨h, _⟩
    · exact hba x h
    · exact hbb x h
  generalize formL (leftL (a ++ [(u : Int) + 1]) (b ++ [-(u : Int) - 1]) u) = cs at hres hbits hid hcl hcb
  have hbel : Below w.heap.size w w6 := (Hb1.out.trans (B4.out.mono Hb1.out.size)).trans (B6.out.mono (Hb1.out.trans (B4.out.mono Hb1.out.size)).size)
  have Hha := Lib.hid (fun w' (h : IsInts w' v4 (a ++ [(u : Int) + 1])) => holds_any v4 _ vals w' h hba hv)
  have Hhb := Lib.hid (fun w' (h : IsInts w' v6 (b ++ [-(u : Int) - 1])) => holds_any v6 _ vals w' h hbb hv)
  have HA := Lib.hid hA
  generalize a ++ [(u : Int) + 1] = a2 at HA hbits Hha
  generalize b ++ [-(u : Int) - 1] = b2 at A6 hbits Hhb
  have Hhc := Lib.hid (fun vc w' (h : IsInts w' vc cs) => holds_any vc cs vals w' h hcb hv)
  have Hf := Lib.hid (fun vc w' (h : IsInts w' vc cs) => form_any vc cs w' h hcb (by omega))
  have Hres := Lib.hid hres; have Hbits := Lib.hid hbits; have Hid0 := Lib.hid hid; have Hbel := Lib.hid hbel
  clear hmay hba hbb hA hres hbits hid hcb hbel A4 B4 B6 Hb1 Hb1' s3 s4 s5 Hsa Hsb
  refine Hres.out.mono ?_
  rintro e w7 ⟨v7, er, rfl, -, hno, hyes, hb7⟩
  have hB7 := Hbel.out.trans (hb7.mono Hbel.out.size)
  have Hb7 := Lib.hid hb7; have HB7 := Lib.hid hB7
  clear hb7 hB7 Hres Hbel
  cases hal : alwaysL cs with
  | true =>
    obtain ⟨rfl, rfl⟩ := hno rfl hal
    clear hno hyes hal
    go_wp2_with fail
    refine (shown_any _).mono ?_
    rintro e w8 ⟨rfl, hb8⟩
    have HB8 := Lib.hid (HB7.out.trans (hb8.mono HB7.out.size)); clear hb8 HB7
    go_wp2_with fail
    refine (shown_any _).mono ?_
    rintro e w9 ⟨rfl, hb9⟩
    have HB9 := Lib.hid (HB8.out.trans (hb9.mono HB8.out.size)); clear hb9 HB8
    go_wp2_with fail
    refine (tell_errno 8 w9 (HT.out.below HB9.out)).mono ?_
    rintro e w10 ⟨rfl, hb10⟩
    have HB10 := Lib.hid (HB9.out.trans (hb10.mono HB9.out.size)); clear hb10 HB9
    go_wp2_with fail
    go_ret
    exact ⟨rfl, HB10.out⟩
  | false =>
    obtain ⟨rfl, hi7⟩ := hyes rfl hal
    obtain ⟨a7, c7, rfl, hc7, hc7m, _⟩ := hi7.shape
    have Hal := Lib.hid hal; have I7 := Lib.hid hi7
    clear hno hyes hal hi7
    go_wp2_with fail
    refine (shown_any _).mono ?_
    rintro e w8 ⟨rfl, hb8⟩
    have HB8 := Lib.hid (HB7.out.trans (hb8.mono HB7.out.size)); have I8 := Lib.hid (I7.out.below hb8); have HA8 := Lib.hid ((HA.out.below Hb7.out).below hb8); have A8 := Lib.hid ((A6.out.below Hb7.out).below hb8); clear hb8 HB7 I7 HA A6 Hb7
    have hfm := Hf.out _ w8 I8.out
    rw [Hid0.out] at hfm
    have Hfm := Lib.hid hfm; clear hfm Hf
    go_wp2_with fail
    refine Hfm.out.mono ?_
    rintro e w9 ⟨v9, rfl, hi9, hb9⟩
    rw [Hal.out] at hi9 ⊢
    simp only [Bool.false_eq_true, if_false] at hi9
    have HB9 := Lib.hid (HB8.out.trans (hb9.mono HB8.out.size)); have I9 := Lib.hid (I8.out.below hb9); have HA9 := Lib.hid (HA8.out.below hb9); have A9 := Lib.hid (A8.out.below hb9); have J9 := Lib.hid hi9; clear hb9 HB8 I8 HA8 A8 hi9 Hfm
    have hsi := sameInts_any _ _ cs cs w9 I9.out J9.out
    rw [show (cs == cs) = true from by simp] at hsi
    have Hsi := Lib.hid hsi; clear hsi
    go_wp2_with fail
    refine Hsi.out.mono ?_
    rintro e w10 ⟨rfl, hb10⟩
    have HB10 := Lib.hid (HB9.out.trans (hb10.mono HB9.out.size)); have I10 := Lib.hid (I9.out.below hb10); have HA10 := Lib.hid (HA9.out.below hb10); have A10 := Lib.hid (A9.out.below hb10); clear hb10 HB9 I9 HA9 A9 J9 Hsi
    have hqa := Hha.out w10 HA10.out
    cases hca : clB vals a2 with
    | false =>
      rw [hca] at hqa
      have Hqa := Lib.hid hqa; clear hqa hca
      go_wp2_with fail
      refine Hqa.out.mono ?_
      rintro e w11 ⟨rfl, hb11⟩
      have HB11 := Lib.hid (HB10.out.trans (hb11.mono HB10.out.size)); clear hb11 HB10
      go_wp2_with fail
      go_ret
      exact ⟨rfl, HB11.out⟩
    | true =>
      rw [hca] at hqa
      have Hqa := Lib.hid hqa; have Hca := Lib.hid hca; clear hqa hca
      go_wp2_with fail
      refine Hqa.out.mono ?_
      rintro e w11 ⟨rfl, hb11⟩
      have HB11 := Lib.hid (HB10.out.trans (hb11.mono HB10.out.size)); have I11 := Lib.hid (I10.out.below hb11); have A11 := Lib.hid (A10.out.below hb11); clear hb11 HB10 I10 A10 HA10
      have hqb := Hhb.out w11 A11.out
      cases hcb : clB vals b2 with
      | false =>
        rw [hcb] at hqb
        have Hqb := Lib.hid hqb; clear hqb hcb
        go_wp2_with fail
        refine Hqb.out.mono ?_
        rintro e w12 ⟨rfl, hb12⟩
        have HB12 := Lib.hid (HB11.out.trans (hb12.mono HB11.out.size)); clear hb12 HB11
        go_wp2_with fail
        go_ret
        exact ⟨rfl, HB12.out⟩
      | true =>
        rw [hcb] at hqb
        have Hqb := Lib.hid hqb; have Hcc := Lib.hid (Hbits.out Hca.out hcb); clear hqb hcb
        go_wp2_with fail
        refine Hqb.out.mono ?_
        rintro e w12 ⟨rfl, hb12⟩
        have HB12 := Lib.hid (HB11.out.trans (hb12.mono HB11.out.size)); have I12 := Lib.hid (I11.out.below hb12); clear hb12 HB11 I11
        have hqc := Hhc.out _ w12 I12.out
        rw [Hcc.out] at hqc
        have Hqc := Lib.hid hqc; clear hqc
        go_wp2_with fail
        refine Hqc.out.mono ?_
        rintro e w13 ⟨rfl, hb13⟩
        have HB13 := Lib.hid (HB12.out.trans (hb13.mono HB12.out.size)); clear hb13 HB12
        go_wp2_with fail
        go_ret
        exact ⟨rfl, HB13.out⟩
end Go.Proofs.YtdeaficdfooegaaDoor
