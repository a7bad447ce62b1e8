/- The law ClauseImplies. -/
import Derived.Test.YtpkemgkaledcoaaTold
namespace Go.Proofs.Ytpkemgkaledcoaa
open Go.RowKit
set_option linter.unusedVariables false

theorem clB_one (v : Nat) (y : Int) : clB v [y] = litB v y := by simp [clB]

/-- clause.Holds of one literal that was just laid down. -/
theorem one_any (y : Int) (x : Nat) (w : World) (hy : -1000 ≤ y ∧ y ≤ 1000) (hx : x < 18446744073709551616) :
    Calls Try.prog 15 #[.slice (some ⟨w.heap.size, 0, none⟩) 1 1, .int .u64 x] (w.alloc (.cells #[.int .i64 y] 3)) fun e w' => e = .returned (.bool (litB x y)) ∧ Below (w.heap.size + 1) (w.alloc (.cells #[.int .i64 y] 3)) w' := by
  have h := holds_any (.slice (some ⟨w.heap.size, 0, none⟩) 1 1) [y] x (w.alloc (.cells #[.int .i64 y] 3)) (isInts_row [y] (heap_at rfl) rfl rfl (Nat.le_refl _) (by decide) (by simp)) (fun z hz => by
    obtain rfl : z = y := by simpa using hz
    exact hy) hx
  rw [clB_one, alloc_size] at h
  exact h

set_option maxHeartbeats 4000000 in
/-- The law, walked: it answers true. -/
theorem clauseImplies_any (m : Int) (vl va : Value) (l : List (List Int)) (aq : List Int) (x : Nat) (w : World) (hl : IsRows w vl l) (ha : IsInts w va aq) (hx : x < 18446744073709551616) :
    Calls Try.prog 5 #[.int .i64 m, vl, va, .int .u64 x] w fun e w' => e = .returned (.bool true) ∧ Below w.heap.size w w' := by
  obtain ⟨aa, ca, rfl, hal, ham, halen⟩ := ha.shape
  have Hl := Lib.hid hl; have Ha := Lib.hid ha; clear hl ha
  go_enter Try.func5, Try.ntmps5
  go_wp2_with fail
  refine (few_any m 200 vl l _ Hl.out).mono ?_
  rintro e w1 ⟨⟨t1, rfl, hf1⟩, rfl⟩
  clear hf1
  cases t1
  · go_wp2_with fail
    go_ret
    exact ⟨rfl, Below.refl _ _⟩
  · by_cases h30 : (30 : Int) < (aq.length : Int)
    · go_wp2_with fail
      go_ret
      exact ⟨rfl, Below.refl _ _⟩
    · go_wp2_with fail
      refine (told_any m _ _ l aq _ Hl.out Ha.out).mono ?_
      rintro e w1 ⟨⟨vt, n, err, rfl, hs⟩, hb⟩
      have Hb := Lib.hid hb; clear hb
      rcases hs with ⟨rfl, t, v, rfl⟩ | ⟨rfl, hg, hna, tr, hit, hnt, hsay⟩
      · go_wp2_with fail
        refine (solves_any _).mono ?_
        rintro e w2 ⟨rfl, hb2⟩
        have Hb2 := Lib.hid hb2; clear hb2
        go_wp2_with fail
        refine (solves_any _).mono ?_
        rintro e w3 ⟨rfl, hb3⟩
        have Hb3 := Lib.hid hb3; clear hb3
        go_wp2_with fail
        go_ret
        have h2 := Hb.out.trans (Hb2.out.mono Hb.out.size)
        exact ⟨rfl, h2.trans (Hb3.out.mono h2.size)⟩
      · obtain ⟨at_, ct, rfl, htl, htm, htlen⟩ := hit.shape
        have Hg := Lib.hid hg; have Hna := Lib.hid hna; have Hit := Lib.hid hit; have Hnt := Lib.hid hnt; have Hsay := Lib.hid hsay
        clear hg hna hit hnt hsay
        go_wp2_with fail
        refine (solves_any _).mono ?_
        rintro e w2 ⟨rfl, hb2⟩
        have Hb2 := Lib.hid hb2; clear hb2
        have h2 := Lib.hid (Hb.out.trans (Hb2.out.mono Hb.out.size))
        go_wp2_with fail
        go_loopg [12] aq.length (fun gk i wr => Below w2.heap.size w2 wr ∧ ∃ k : Nat, k ≤ aq.length ∧ gk = aq.length - k ∧ i = .int .i64 k ∧ ∀ y ∈ aq.take k, litB x y = true)
        case atStart => exact ⟨Below.refl _ _, 0, Nat.zero_le _, rfl, rfl, by simp⟩
        case round =>
          obtain ⟨hbr, k, hk, rfl, rfl, hso⟩ := hrel
          have hwr := Lib.hid (h2.out.trans (hbr.mono h2.out.size))
          have Hbr := Lib.hid hbr; have Hso := Lib.hid hso; clear hbr hso
          by_cases hlt : k < aq.length
          · obtain ⟨b, o, rfl, hblk⟩ := Ha.out.addr hlt
            have hcell := (Ha.out.below hwr.out).get hlt
            have hnear := Hna.out _ (List.getElem_mem hlt)
            generalize hy : aq[k] = y at hcell hnear
            have Hy := Lib.hid hy; clear hy
            have hcall := Lib.hid (one_any y x wr hnear hx)
            clear hnear
            go_wp2_with fail
            refine hcall.out.mono ?_
            rintro e w3 ⟨rfl, hb3⟩
            have hb3' : Below wr.heap.size wr w3 := ((Below.refl _ _).alloc (Nat.le_refl _) _).trans (hb3.mono (Nat.le_succ _))
            have Hb3 := Lib.hid hb3'; clear hb3 hb3'
            rcases hlit : litB x y with _ | _
            · go_wp2_with fail
              go_ret
              exact ⟨rfl, hwr.out.trans (Hb3.out.mono hwr.out.size)⟩
            · have Hlit := Lib.hid hlit; clear hlit
              go_wp2_with fail
              go_roundg (aq.length - (k + 1))
              case measure => omega
              case rel => exact ⟨Hbr.out.trans (Hb3.out.mono Hbr.out.size), k + 1, by omega, rfl, by go_num, fun z hz => ((mem_take_succ hlt).1 hz).elim (Hso.out z) (fun e => by rw [e, Hy.out]; exact Hlit.out)⟩
          · obtain rfl : k = aq.length := by omega
            have hso := Hso.out
            rw [List.take_length] at hso
            have Hso' := Lib.hid hso; clear hso hlt hk
            go_wp2_with fail
            refine (allHold_any _ l x _ (Hl.out.below hwr.out) (within_of_good Hg.out) hx).mono ?_
            rintro e w3 ⟨rfl, hb3⟩
            have Hb3 := Lib.hid hb3; clear hb3
            have h3 := Lib.hid (hwr.out.trans (Hb3.out.mono hwr.out.size))
            rcases hall : allB x l with _ | _
            · go_wp2_with fail
              go_ret
              exact ⟨rfl, h3.out⟩
            · obtain ⟨hn, htold⟩ := Hsay.out x hall Hso'.out
              have Htold := Lib.hid htold; clear htold hall
              have hn' : ¬ 0 ≤ n := by omega
              go_wp2_with fail
              go_loopg [13] tr.length (fun gk i wr' => Below w3.heap.size w3 wr' ∧ ∃ k : Nat, k ≤ tr.length ∧ gk = tr.length - k ∧ i = .int .i64 k)
              case atStart => exact ⟨Below.refl _ _, 0, Nat.zero_le _, rfl, rfl⟩
              case round =>
                obtain ⟨hbr2, k, hk, rfl, rfl⟩ := hrel
                have h4 := Lib.hid (h3.out.trans (hbr2.mono h3.out.size))
                have Hbr2 := Lib.hid hbr2; clear hbr2
                by_cases hlt : k < tr.length
                · obtain ⟨b, o, rfl, hblk⟩ := Hit.out.addr hlt
                  have hcell := ((((Hit.out.below Hb2.out).below Hbr.out).below Hb3.out).below Hbr2.out).get hlt
                  have hnear := Hnt.out _ (List.getElem_mem hlt)
                  have hlit := Htold.out _ (List.getElem_mem hlt)
                  generalize hy : tr[k] = y at hcell hnear hlit
                  have hcall := one_any y x wr hnear hx
                  rw [hlit] at hcall
                  have Hcall := Lib.hid hcall
                  clear hnear hlit hcall hy
                  go_wp2_with fail
                  refine Hcall.out.mono ?_
                  rintro e w5 ⟨rfl, hb5⟩
                  have hb5' := ((Below.refl _ _).alloc (Nat.le_refl _) _).trans (hb5.mono (Nat.le_succ _))
                  have Hb5 := Lib.hid hb5'; clear hb5 hb5'
                  go_wp2_with fail
                  go_roundg (tr.length - (k + 1))
                  case measure => omega
                  case rel => exact ⟨Hbr2.out.trans (Hb5.out.mono Hbr2.out.size), k + 1, by omega, rfl, by go_num⟩
                · go_wp2_with fail
                  go_ret
                  exact ⟨rfl, h4.out⟩
end Go.Proofs.Ytpkemgkaledcoaa
