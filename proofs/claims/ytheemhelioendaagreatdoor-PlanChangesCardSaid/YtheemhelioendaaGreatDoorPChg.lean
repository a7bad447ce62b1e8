/- The walk of PlanChanges. -/
import Derived.Test.YtheemhelioendaaGreatDoorChgW
import Derived.Test.YtheemhelioendaaGreatDoorPOrd
namespace Go.Proofs.YtheemhelioendaaGreatDoor
open Go.RowKit
set_option linter.unusedVariables false

theorem xorBit {V k : Nat} (hV : V < 16777216) (hk : k < 24) : bits .xor .u64 (V : Int) (IntKind.u64.wrap ((2 : Int) ^ k)) = ((V ^^^ 2 ^ k : Nat) : Int) := by
  obtain ⟨h1, h2⟩ := powWrap k hk
  rw [h1, bits_xor_u64_nat _ _ (by omega) (by omega)]
theorem bit_lt {v n k : Nat} (hv : v < 2 ^ n) (h : v.testBit k = true) : k < n := by
  rcases Nat.lt_or_ge k n with q | q
  · exact q
  · rw [Nat.testBit_lt_two_pow (Nat.lt_of_lt_of_le hv (Nat.pow_le_pow_right (by decide) q))] at h; cases h
section
variable {la lb : List Nat} {fr tz n : Nat} (ha : Lists la fr) (hb : Lists lb tz) (hf : fr < 2 ^ n) (ht : tz < 2 ^ n)
include ha hb hf ht
theorem steps_lt {s : Nat × Bool} (h : s ∈ stepsM la lb fr tz) : s.1 < n := by
  rcases steps_at ha hb h with ⟨_, h1, _⟩ | ⟨_, _, h1⟩
  · exact bit_lt hf h1
  · exact bit_lt ht h1
theorem now_lt (k : Nat) : nowM fr ((stepsM la lb fr tz).take k) < 2 ^ n := Nat.lt_pow_two_of_testBit _ (fun j hj => by
  rw [nowM_test ha hb]
  have h1 : fr.testBit j = false := Nat.testBit_lt_two_pow (Nat.lt_of_lt_of_le hf (Nat.pow_le_pow_right (by decide) hj))
  have h2 : j ∉ ((stepsM la lb fr tz).take k).map (·.1) := fun q => by
    obtain ⟨s, hs, rfl⟩ := List.mem_map.1 q
    have := steps_lt ha hb hf ht (List.mem_of_mem_take hs)
    omega
  rw [h1, decide_eq_false h2]; rfl)
end
/-- The cells of a step. -/
theorem stepCells {w : World} {base g n c : Nat} {st : List (Nat × Bool)} (h : RowG w base 68 2 encT (.slice (some ⟨g, 0, none⟩) n c) st) {k : Nat} (hk : k < st.length) : w.cell? ⟨g, k * 2, none⟩ = some (.int .i64 st[k].1) ∧ w.cell? ⟨g, k * 2 + 1, none⟩ = some (.bool st[k].2) :=
  ⟨RowG.cell encT_len h hk (j := 0) (by decide) rfl, RowG.cell encT_len h hk (j := 1) (by decide) rfl⟩
theorem good_of {items : List ItemM} {set : Nat} {ls : List LineM} {l : List Nat} (h : Ordered items set ls l) (hf : fitsB ls items set = true) : GoodSet items set ls := ⟨hf, ordered_on h⟩
set_option maxRecDepth 100000 in
set_option maxHeartbeats 32000000 in
theorem planChanges_walk (s : ByteArray) (x y : Nat) (w : World) (hm : s.size ≤ 9223372036854775807) (hx : x < 18446744073709551616) (hy : y < 18446744073709551616) (hL : LaidR w) (hT : TypeLaid w) : Calls Tryz.prog 7 #[.string s, .int .u64 x, .int .u64 y] w fun e w' => e = .returned (.bool true) ∧ Below w.heap.size w w' := by
  have HP := Lib.hid (read_any s 24 w hm (by decide) hL hT)
  have HR := Lib.hid (show ∀ w', Below w.heap.size w w' → Calls Tryz.prog 14 #[] w' fun e w'' => e = .returned (.bool true) ∧ Below w'.heap.size w' w'' from fun w' hw => planned_any w' (hL.below hw) (hT.below hw))
  have Hx := Lib.hid hx; have Hy := Lib.hid hy
  clear hL hT hm hx hy
  go_enter Tryz.func7, Tryz.ntmps7
  go_wp2_with fail
  refine HP.out.mono ?_
  rintro e w1 ⟨⟨p, ls, items, a1, c1, a2, c2, rfl, hcat, hls, _, hlen, hmo, hin⟩ | ⟨rfl, hno⟩, hb1⟩
  · obtain ⟨hok, vl, vi, hat⟩ := hcat
    have hn24 : items.length ≤ 24 := by omega
    obtain ⟨L, hL⟩ : ∃ L, L = (rulesC ls items).length := ⟨_, rfl⟩
    rw [← hL]
    obtain ⟨w2, hw2⟩ : ∃ w2, w2 = w1.alloc (.cells #[.int .i64 (items.length : Nat), .slice a1 L c1, .slice a2 L c2] 28) := ⟨_, rfl⟩
    have hb2 : Below w1.heap.size w1 w2 := by rw [hw2]; exact (Below.refl _ _).alloc (Nat.le_refl _) _
    have hk2 : w2.heap[w1.heap.size]? = some (.cells #[.int .i64 (items.length : Nat), .slice a1 L c1, .slice a2 L c2] 28 (0, 0)) := by rw [hw2]; exact heap_at rfl
    obtain ⟨hmf, hlf⟩ := maskSet x items.length Hx.out hn24
    obtain ⟨fr, hfr⟩ : ∃ set, set = x &&& (2 ^ items.length - 1) := ⟨_, rfl⟩
    rw [← hfr] at hmf hlf
    obtain ⟨hmt, hlt⟩ := maskSet y items.length Hy.out hn24
    obtain ⟨tz, htz⟩ : ∃ set, set = y &&& (2 ^ items.length - 1) := ⟨_, rfl⟩
    rw [← htz] at hmt hlt
    have p24 : 2 ^ items.length ≤ 16777216 := Nat.le_trans (Nat.pow_le_pow_right (by decide) hn24) (by decide)
    have HF := Lib.hid (show ∀ w', Below w2.heap.size w2 w' → (Calls Tryz.prog 26 #[.pointer (some ⟨p, 0, none⟩), .int .u64 fr, .int .u64 tz] w' (ChangeP ls items fr tz w')) ∧ (Calls Tryz.prog 26 #[.pointer (some ⟨p, 0, none⟩), .int .u64 tz, .int .u64 fr] w' (ChangeP ls items tz fr w')) ∧ w'.heap[w1.heap.size]? = some (.cells #[.int .i64 (items.length : Nat), .slice a1 L c1, .slice a2 L c2] 28 (0, 0)) ∧ Below w.heap.size w w' from fun w' hw => by
      have hc := hat.below (hb2.trans (hw.mono hb2.size))
      exact ⟨change_any p vl vi ls items fr tz w' hc hok hlf hlt, change_any p vl vi ls items tz fr w' hc hok hlt hlf, (hw.block _ (lt_of_block hk2)).trans hk2, hb1.trans ((hb2.trans (hw.mono hb2.size)).mono hb1.size)⟩)
    have HB2 := Lib.hid (hb1.trans (hb2.mono hb1.size)); have Hlf := Lib.hid hlf; have Hlt := Lib.hid hlt
    have Hmf := Lib.hid hmf; have Hmt := Lib.hid hmt; have Hp24 := Lib.hid p24
    clear hok hat hls hb1 hb2 hk2 hin HP hL hlen hmf hmt hfr htz hlf hlt p24
    go_upto_region 2 with fail
    rw [← hw2]
    clear hw2
    go_wp2_with fail
    refine (HR.out _ HB2.out).mono ?_
    rintro e w3 ⟨rfl, hb3⟩
    obtain ⟨hC3, _, hk3, _⟩ := HF.out _ hb3
    obtain ⟨c0, c1', c2'⟩ := cellsR hk3
    have Hb3 := Lib.hid hb3; have HC3 := Lib.hid hC3
    clear hb3 hk3 hC3
    have hmf := Hmf.out; have hmt := Hmt.out
    go_wp2_with fail
    clear hmf hmt c0 c1' c2'
    refine HC3.out.mono ?_
    rintro e w4 ⟨⟨ao, co, la, lb, rfl, hrow, hoa, hob, hfa, hfb⟩ | ⟨k1, rfl, hbad⟩, hb4⟩
    · have HC4 := Lib.hid (HF.out w4 (Hb3.out.trans (hb4.mono Hb3.out.size))).2.1
      obtain ⟨st, hst⟩ : ∃ st, st = stepsM la lb fr tz := ⟨_, rfl⟩
      rw [← hst] at hrow ⊢
      have Hrow := Lib.hid hrow; have Hst := Lib.hid hst; have Hoa := Lib.hid (Lists.of hoa); have Hob := Lib.hid (Lists.of hob); have Hga := Lib.hid (good_of hoa hfa); have Hgb := Lib.hid (good_of hob hfb); have Hb4 := Lib.hid (Hb3.out.trans (hb4.mono Hb3.out.size))
      clear hrow hst hoa hob hfa hfb hb4 HC3
      go_wp2_with fail
      refine HC4.out.mono ?_
      rintro e w5 ⟨⟨ap, cp, lc, ld, rfl, hrow2, hoc, hod, _, _⟩ | ⟨k2, rfl, hbad⟩, hb5⟩
      · have hback : (stepsM lc ld tz fr).length = st.length := by rw [Hst.out]; exact (steps_back Hoa.out Hob.out (Lists.of hoc) (Lists.of hod)).symm
        rw [hback]
        have Hrow5 := Lib.hid (Hrow.out.below hb5); have Hb5 := Lib.hid (Hb4.out.trans (hb5.mono Hb4.out.size))
        obtain ⟨NL, hNL⟩ : ∃ NL, NL = st.length := ⟨_, rfl⟩
        rw [← hNL] at Hrow5 ⊢
        have HNL := Lib.hid hNL
        have HNb := Lib.hid (show NL ≤ 1000000 by
          have h1 := (nodup_sub (steps_nodup Hoa.out Hob.out) (m := List.range 24) (fun i hi => by
            obtain ⟨s, hs, rfl⟩ := List.mem_map.1 hi
            have := steps_lt Hoa.out Hob.out Hlf.out Hlt.out hs
            exact List.mem_range.2 (by omega)))
          rw [List.length_map, List.length_range, ← Hst.out] at h1
          omega)
        have hNb := HNb.out
        clear hrow2 hoc hod hback hb5 HC4 Hrow hNL
        go_wp2_with fail
        go_loopg [14, 15] NL (fun gk nw i wr => ∃ k : Nat, k ≤ NL ∧ gk = NL - k ∧ i = .int .i64 k ∧ nw = .int .u64 (nowM fr (st.take k) : Nat) ∧ Below w5.heap.size w5 wr)
        case atStart => exact ⟨0, Nat.zero_le _, rfl, rfl, rfl, Below.refl _ _⟩
        case round =>
          obtain ⟨k, hk, rfl, rfl, rfl, hbw⟩ := hrel
          obtain ⟨wo, rfl⟩ : ∃ y, y = wr := ⟨_, rfl⟩
          by_cases hlk : k < NL
          · have hi : (k : Int) < (NL : Int) := by omega
            have hks : k < st.length := by rw [← HNL.out]; exact hlk
            have hro := Hrow5.out.below hbw
            obtain ⟨g, rfl, hg, _⟩ := hro.at (by omega)
            obtain ⟨d0, d1⟩ := stepCells hro hks
            obtain ⟨_, _, hrb, _⟩ := HF.out wo (Hb5.out.trans (hbw.mono Hb5.out.size))
            have hmem := List.getElem_mem hks
            have hnt := fun j => now_at (fr := fr) (tz := tz) Hoa.out Hob.out (k := j)
            have hlt24 := steps_lt Hoa.out Hob.out Hlf.out Hlt.out (s := st[k]) (by rw [← Hst.out]; exact hmem)
            have hat := steps_at Hoa.out Hob.out (s := st[k]) (by rw [← Hst.out]; exact hmem)
            have hnb : (nowM fr (st.take k)).testBit st[k].1 = fr.testBit st[k].1 := by
              have := now_at Hoa.out Hob.out (k := k) (by rw [← Hst.out]; exact hks)
              simpa only [← Hst.out] using this
            have hnl : nowM fr (st.take k) < 2 ^ items.length := by rw [Hst.out]; exact now_lt Hoa.out Hob.out Hlf.out Hlt.out k
            have hns := nowM_take fr st hks
            have hpm : ∀ j, (h : j + 1 < st.length) → st[j].2 = true → st[j + 1].2 = true := by
              have h9 : ∀ st', st' = stepsM la lb fr tz → ∀ j, (h : j + 1 < st'.length) → st'[j].2 = true → st'[j + 1].2 = true := fun st' e => by subst e; exact fun j h h2 => steps_mono h h2
              exact h9 st Hst.out
            have hpv : ∀ j, (hj : j + 1 = k) → (st[j]'(by omega)).2 = true → st[k].2 = true := fun j hj h2 => by subst hj; exact hpm j hks h2
            obtain ⟨sq, hsq⟩ : ∃ sq, sq = st[k] := ⟨_, rfl⟩
            rw [← hsq] at d0 d1 hlt24 hat hnb hns
            have hpv2 : ∀ j, (hj : j + 1 = k) → (st[j]'(by omega)).2 = true → sq.2 = true := by rw [hsq]; exact hpv
            obtain ⟨q, B⟩ := sq
            simp only at d0 d1 hlt24 hat hnb hns hpv2
            obtain ⟨wB, hwB⟩ : ∃ y, y = wo.alloc (.cells #[.int .i64 (q : Nat), .bool B] 68) := ⟨_, rfl⟩
            have hbB : Below wo.heap.size wo wB := by rw [hwB]; exact (Below.refl _ _).alloc (Nat.le_refl _) _
            have hkB : wB.heap[wo.heap.size]? = some (.cells #[.int .i64 (q : Nat), .bool B] 68 (0, 0)) := by rw [hwB]; exact heap_at rfl
            obtain ⟨z0, z1, _, _⟩ := cellsC hkB
            obtain ⟨y0, y1, y2⟩ := cellsR ((hbB.block _ (lt_of_block hrb)).trans hrb)
            have hroB := hro.below hbB
            have hq24 : q < 24 := by omega
            have hnow24 : nowM fr (st.take k) < 16777216 := Nat.lt_of_lt_of_le hnl Hp24.out
            have hxor := xorBit hnow24 hq24
            obtain ⟨NW, hNW⟩ : ∃ NW, NW = nowM fr (st.take k) := ⟨_, rfl⟩
            rw [← hNW] at hnb hns hnow24 hxor ⊢
            have t1 : decide ((q : Int) < 0) = false := by simp
            have t2 : decide ((items.length : Int) ≤ (q : Int)) = false := by simp; omega
            have t2n : decide (items.length ≤ q) = false := by simp; omega
            have t2p : ¬ items.length ≤ q := by omega
            have t3 : (bits BinOp.and IntKind.u64 ((NW : Int) / 2 ^ q) 1 == 0) = B := by
              rw [bit0_eq (by omega) (by omega), hnb]
              rcases hat with ⟨e, h1, _⟩ | ⟨e, h1, _⟩ <;> (rw [e, h1]; rfl)
            have h2f : fr < 18446744073709551616 := Nat.lt_of_lt_of_le Hlf.out (Nat.le_trans Hp24.out (by decide))
            have h2t : tz < 18446744073709551616 := Nat.lt_of_lt_of_le Hlt.out (Nat.le_trans Hp24.out (by decide))
            have t4 : bits BinOp.and IntKind.u64 (fr : Int) (tz : Int) = ((fr &&& tz : Nat) : Int) := bits_and_u64_nat _ _ h2f h2t
            obtain ⟨FT, hFT⟩ : ∃ FT, FT = fr &&& tz := ⟨_, rfl⟩
            rw [← hFT] at t4
            have t5 : (bits BinOp.and IntKind.u64 ((FT : Int) / 2 ^ q) 1 == 1) = false := by
              rw [bit1_eq (by rw [hFT]; exact Nat.lt_of_le_of_lt Nat.and_le_left h2f) (by omega), hFT, Nat.testBit_and]
              rcases hat with ⟨_, h1, h2⟩ | ⟨_, h1, h2⟩ <;> (rw [h1, h2]; rfl)
            have Hns := Lib.hid hns; have HroB := Lib.hid hroB; have Hpv := Lib.hid hpv2; have Hbw := Lib.hid (hbw.trans (hbB.mono hbw.size))
            clear hro hrb hmem hnt hlt24 hat hnb hnl hns hpm hpv hsq hpv2 hbB hkB hNW hFT h2f h2t hbw hroB hnow24
            go_upto_region 15 with fail
            rw [← hwB]
            clear hwB d0 d1
            have hkk := Hpv.out
            have tB : ∀ b : Bool, (b != b) = false := fun b => by cases b <;> rfl
            cases k with
            | zero =>
              have t6 : decide ((0 : Int) < ((0 : Nat) : Int)) = false := by decide
              clear hkk
              cases B with
              | true =>
                go_quiet (fail)
                go_wp2_with fail
                go_roundg (NL - (0 + 1))
                case measure => omega
                case rel => exact ⟨0 + 1, by omega, rfl, by go_num, by rw [Hns.out], below_drewN Hbw.out _⟩
              | false =>
                go_quiet (fail)
                go_wp2_with fail
                go_roundg (NL - (0 + 1))
                case measure => omega
                case rel => exact ⟨0 + 1, by omega, rfl, by go_num, by rw [Hns.out], below_drewN Hbw.out _⟩
            | succ j =>
              have hjl : j < st.length := by omega
              obtain ⟨u0, u1⟩ := stepCells HroB.out hjl
              have hp := hkk j rfl
              obtain ⟨pq, hpq⟩ : ∃ pq, pq = st[j] := ⟨_, rfl⟩
              rw [← hpq] at u0 u1 hp
              obtain ⟨pi, pb⟩ := pq
              simp only at u0 u1 hp
              have t6 : decide ((0 : Int) < ((j + 1 : Nat) : Int)) = true := decide_eq_true (by omega)
              have t7 : IntKind.i64.wrap (((j + 1 : Nat) : Int) - 1) = (j : Int) := by rw [show (((j + 1 : Nat) : Int) - 1) = (j : Int) by omega]; simp [IntKind.wrap, IntKind.bits, IntKind.signed]; omega
              have t8 : (j : Int) < (NL : Int) := by omega
              clear hkk hpq u0
              cases B with
              | true =>
                cases pb with
                | true =>
                  go_quiet (fail)
                  go_wp2_with fail
                  go_roundg (NL - (j + 1 + 1))
                  case measure => omega
                  case rel => exact ⟨j + 1 + 1, by omega, rfl, by go_num, by rw [Hns.out], below_drewN Hbw.out _⟩
                | false =>
                  go_quiet (fail)
                  go_wp2_with fail
                  go_roundg (NL - (j + 1 + 1))
                  case measure => omega
                  case rel => exact ⟨j + 1 + 1, by omega, rfl, by go_num, by rw [Hns.out], below_drewN Hbw.out _⟩
              | false =>
                cases pb with
                | true => exact absurd (hp rfl) (by decide)
                | false =>
                  go_quiet (fail)
                  go_wp2_with fail
                  go_roundg (NL - (j + 1 + 1))
                  case measure => omega
                  case rel => exact ⟨j + 1 + 1, by omega, rfl, by go_num, by rw [Hns.out], below_drewN Hbw.out _⟩
          · obtain rfl : k = NL := by omega
            have hts : nowM fr (st.take k) = tz := by rw [HNL.out, List.take_length, Hst.out]; exact now_all Hoa.out Hob.out
            have Hbw := Lib.hid (HF.out wo (Hb5.out.trans (hbw.mono Hb5.out.size))).2.2.2
            have tq : ((tz : Int) == (tz : Int)) = true := by simp
            clear hbw hlk
            rw [hts]
            clear hts
            go_wp2_with fail
            go_ret
            exact ⟨rfl, Hbw.out⟩
      · exact absurd hbad (by rintro (h | h); exact h Hgb.out; exact h Hga.out)
    · have HC4 := Lib.hid (HF.out w4 (Hb3.out.trans (hb4.mono Hb3.out.size))).2.1
      have Hb4 := Lib.hid (Hb3.out.trans (hb4.mono Hb3.out.size)); have Hbad := Lib.hid hbad
      clear hb4 HC3 hbad
      go_wp2_with fail
      refine HC4.out.mono ?_
      rintro e w5 ⟨⟨ap, cp, lc, ld, rfl, hrow2, hoc, hod, hfc, hfd⟩ | ⟨k2, rfl, _⟩, hb5⟩
      · exact absurd Hbad.out (by rintro (h | h); exact h (good_of hod hfd); exact h (good_of hoc hfc))
      · have Hbe := Lib.hid (HF.out w5 (Hb4.out.trans (hb5.mono Hb4.out.size))).2.2.2
        clear hb5 HC4
        go_wp2_with fail
        go_ret
        exact ⟨rfl, Hbe.out⟩
  · have HB1 := Lib.hid (hb1.alloc hb1.size (.cells #[.int .i64 0, .slice none 0 0, .slice none 0 0] 28))
    clear hno hb1 HP
    obtain ⟨w2, hw2⟩ : ∃ w2, w2 = w1.alloc (.cells #[.int .i64 0, .slice none 0 0, .slice none 0 0] 28) := ⟨_, rfl⟩
    rw [← hw2] at HB1
    go_upto_region 2 with fail
    rw [← hw2]
    clear hw2
    go_wp2_with fail
    refine (HR.out _ HB1.out).mono ?_
    rintro e w3 ⟨rfl, hb3⟩
    have HB3 := Lib.hid (HB1.out.trans (hb3.mono HB1.out.size))
    clear hb3
    go_wp2_with fail
    refine (HR.out _ HB3.out).mono ?_
    rintro e w4 ⟨rfl, hb4⟩
    have HB4 := Lib.hid (HB3.out.trans (hb4.mono HB3.out.size))
    clear hb4
    go_wp2_with fail
    go_ret
    exact ⟨rfl, HB4.out⟩
end Go.Proofs.YtheemhelioendaaGreatDoor
