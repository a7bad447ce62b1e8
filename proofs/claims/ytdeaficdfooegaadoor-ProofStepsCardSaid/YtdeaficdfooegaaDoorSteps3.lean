/- The walk of ProofSteps. -/
import Derived.Test.YtdeaficdfooegaaDoorFolW
import Derived.Test.YtdeaficdfooegaaDoorSound
namespace Go.Proofs.YtdeaficdfooegaaDoor
open Go.RowKit
set_option linter.unusedVariables false

def TrueS (w : World) (e : Ending) (w' : World) : Prop := e = .returned (.bool true) ∧ Below w.heap.size w w'
set_option maxRecDepth 100000 in
set_option maxHeartbeats 8000000 in
theorem steps_any (m : Int) (vl vs : Value) (l : List (List Int)) (st : List Stp3) (vals : Nat) (w : World) (hl : IsRows w vl l) (hs : IsSteps3 w vs st) (hT : TypeLaid w) (hv : vals < 18446744073709551616) :
    Calls Tryd.prog 6 #[.int .i64 m, vl, vs, .int .u64 vals] w (TrueS w) := by
  obtain ⟨asl, csl, rfl, hsl, hsm⟩ := hs.shape
  have Hfew := Lib.hid (few_any m 150 vl l _ hl)
  have Hl := Lib.hid hl; have Hs := Lib.hid hs; have HT := Lib.hid hT
  clear hl hs hT
  go_enter Tryd.func6, Tryd.ntmps6
  go_wp2_with fail
  refine Hfew.out.mono ?_
  rintro e w1 ⟨⟨t1, rfl, -⟩, rfl⟩
  clear Hfew
  cases t1
  · go_wp2_with fail
    go_ret
    exact ⟨rfl, Below.refl _ _⟩
  by_cases h40 : 40 < st.length
  · have h1 : decide (40 < (st.length : Int)) = true := by simp; omega
    go_wp2_with fail
    go_ret
    exact ⟨rfl, Below.refl _ _⟩
  have h1 : decide (40 < (st.length : Int)) = false := by simp; omega
  have Hf := Lib.hid (follow_any m vl _ l st w Hl.out Hs.out (by omega) HT.out)
  go_wp2_with fail
  refine Hf.out.mono ?_
  rintro e w2 ⟨v2, er, rfl, hb2, hor⟩
  have Hb2 := Lib.hid hb2
  clear hb2 Hf h1 HT
  rcases hor with ⟨rfl, t, x, rfl⟩ | ⟨rfl, hsm, cs, hrows, hlen, hsc, hsound⟩
  · go_wp2_with fail
    refine (shown_any _).mono ?_
    rintro e w3 ⟨rfl, hb3⟩
    have Hb3 := Lib.hid (Hb2.out.step3 hb3); clear hb3 Hb2
    go_wp2_with fail
    refine (shown_any _).mono ?_
    rintro e w4 ⟨rfl, hb4⟩
    have Hb4 := Lib.hid (Hb3.out.step3 hb4); clear hb4 Hb3
    go_wp2_with fail
    go_ret
    exact ⟨rfl, Hb4.out⟩
  · obtain ⟨a2, c2, rfl, hc2, hc2m, _⟩ := hrows.shape
    have hle : cs.length ≤ 40 := by omega
    have Hrows := Lib.hid hrows; have Hsc := Lib.hid hsc
    have Hah := Lib.hid (fun w' (h : IsRows w' vl l) => allHold_any vl l vals w' h (fun c hc x hx => by have := (hsm c hc).1 x hx; omega) hv)
    have hsnd := hsound vals
    generalize allB vals l = bb at Hah hsnd
    have Hsnd := Lib.hid hsnd
    have hne : ((cs.length : Int) != (st.length : Int)) = false := by simp [hlen]
    clear hsm hrows hlen hsc hsound hsnd
    go_wp2_with fail
    refine (shown_any _).mono ?_
    rintro e w3 ⟨rfl, hb3⟩
    have Hb3 := Lib.hid (Hb2.out.step3 hb3); have HR3 := Lib.hid (Hrows.out.below hb3); clear hb3 Hb2 Hrows
    go_wp2_with fail
    go_loopg [11] cs.length (fun gk i wr => ∃ k : Nat, k ≤ cs.length ∧ gk = cs.length - k ∧ i = .int .i64 k ∧ Below w.heap.size w wr ∧ IsRows wr (.slice a2 cs.length c2) cs)
    case atStart => exact ⟨0, Nat.zero_le _, rfl, rfl, Hb3.out, HR3.out⟩
    case round =>
      clear Hb3 HR3
      obtain ⟨k, hk, rfl, rfl, hbel, hr⟩ := hrel
      obtain ⟨wo, rfl⟩ : ∃ y, y = wr := ⟨_, rfl⟩
      have Hbel := Lib.hid hbel; have Hr := Lib.hid hr; clear hbel hr
      by_cases hlt : k < cs.length
      · have d1 : decide (k < cs.length) = true := by simpa using hlt
        have Hq := Lib.hid (Hah.out wo (Hl.out.below Hbel.out))
        cases bb with
        | false =>
          go_wp2_with fail
          refine Hq.out.mono ?_
          rintro e w5 ⟨rfl, hb5⟩
          have Hb5 := Lib.hid (Hbel.out.step3 hb5); clear hb5 Hq
          go_wp2_with fail
          go_ret
          exact ⟨rfl, Hb5.out⟩
        | true =>
          go_wp2_with fail
          refine Hq.out.mono ?_
          rintro e w5 ⟨rfl, hb5⟩
          have Hb5 := Lib.hid (Hbel.out.step3 hb5); have HR5 := Lib.hid (Hr.out.below hb5); clear hb5 Hq Hbel Hr
          obtain ⟨bb2, o2, rfl, hbl⟩ := HR5.out.addr hlt
          obtain ⟨a6, n6, c6, cell6, hi6⟩ := HR5.out.get hlt
          have hmem := List.getElem_mem hlt
          have hcl : clB vals cs[k] = true := allB_mem (Hsnd.out (by simp)) hmem
          have hh := holds_any _ cs[k] vals w5 hi6 (Hsc.out _ hmem).b1000 hv
          rw [hcl] at hh
          have Hh := Lib.hid hh
          clear hi6 hmem hcl hh
          go_wp2_with fail
          refine Hh.out.mono ?_
          rintro e w6 ⟨rfl, hb6⟩
          have Hb6 := Lib.hid (Hb5.out.step3 hb6); have HR6 := Lib.hid (HR5.out.below hb6); clear hb6 Hb5 HR5 Hh cell6
          go_wp2_with fail
          go_roundg (cs.length - (k + 1))
          case measure => omega
          case rel => exact ⟨k + 1, by omega, rfl, by go_num, Hb6.out, HR6.out⟩
      · have d1 : decide (k < cs.length) = false := by simpa using hlt
        go_wp2_with fail
        go_ret
        exact ⟨rfl, Hbel.out⟩
end Go.Proofs.YtdeaficdfooegaaDoor
