/- The law ProofDavisPutnam, walked. -/
import Derived.Test.YtdeaficdfooegaaDoorElimW
import Derived.Test.YtdeaficdfooegaaDoorSound
import Derived.Test.YtdeaficdfooegaaDoorSolve
import Derived.Test.YtdeaficdfooegaaDoorTell
namespace Go.Proofs.YtdeaficdfooegaaDoor
open Go.RowKit
set_option linter.unusedVariables false

theorem dnz {m : Int} {l : List (List Int)} (h : Good m l) : ∀ c ∈ l, NoZero c := fun c hc x hx => (good_lit' (h.2.2.2 c hc).2 hx).1
/-- A proof of clauses refutes them. -/
theorem no_of_proofD {m : Int} {l ls : List (List Int)} (hz : ∀ d ∈ l, NoZero d) (hr : ∀ i (h : i < ls.length), Rup m (l ++ ls.take i) ls[i]) (hl : ls.getLast? = some []) (v : Nat) : allB v l = false := by
  cases hv : allB v l
  · rfl
  · exfalso
    have hzz : ∀ d ∈ ls, NoZero d := by
      intro d hd x hx
      obtain ⟨i, hi, rfl⟩ := List.getElem_of_mem hd
      exact (lit_of_good (hr i hi).1 hx).1
    have key : ∀ i, i ≤ ls.length → allB v (l ++ ls.take i) = true := by
      intro i
      induction i with
      | zero => intro _; simpa using hv
      | succ i ih =>
        intro hi
        have h1 := ih (by omega)
        have h2 := (hr i (by omega)).sound (fun d hd => (List.mem_append.1 hd).elim (hz d) (fun h => hzz d (List.mem_of_mem_take h))) h1
        rw [List.take_succ_eq_append_getElem (by omega), ← List.append_assoc, allB_append, h1]
        simp [allB, h2]
    have h1 := key ls.length (Nat.le_refl _)
    rw [List.take_length, allB_append] at h1
    have h2 : allB v ls = true := by simp at h1; exact h1.2
    have h3 : ([] : List Int) ∈ ls := List.mem_of_getLast? hl
    have h4 := List.all_eq_true.1 h2 _ h3
    simp [clB] at h4
/-- Search and elimination agree. -/
theorem agree {m : Int} {l : List (List Int)} {holds can : Bool} {vals : Nat} {vp : Value} {w : World} (hg : Good m l) (h : SolveSay m l holds vals vp .nilIface w) (hc : can = true ↔ ∃ f, allF f l = true) : can = holds := by
  cases holds with
  | true =>
    obtain ⟨_, h2, _⟩ := h.yes hg rfl rfl
    exact hc.2 ⟨vals.testBit, by rw [allF_bits]; exact h2⟩
  | false =>
    obtain ⟨_, ls, _, _, h1, h2, _⟩ := h.no hg rfl rfl
    cases can with
    | false => rfl
    | true =>
      obtain ⟨f, hf⟩ := hc.1 rfl
      obtain ⟨n, hn⟩ := sat_num (good_sm hg) hf
      rw [no_of_proofD (dnz hg) h1 h2 n] at hn
      cases hn

set_option maxRecDepth 100000 in
set_option maxHeartbeats 8000000 in
theorem davis_any (m : Int) (vl : Value) (l : List (List Int)) (w : World) (hl : IsRows w vl l) (hT : TypeLaid w) : Calls Tryd.prog 7 #[.int .i64 m, vl] w fun e w' => e = .returned (.bool true) ∧ Below w.heap.size w w' := by
  have Hl := Lib.hid hl; have HT := Lib.hid hT
  clear hl hT
  have Hf := Lib.hid (few_any m 60 vl l w Hl.out)
  by_cases h7 : ¬ m ≤ 7
  · have h7' : decide (7 < m) = true := by simp; omega
    go_enter Tryd.func7, Tryd.ntmps7
    go_wp2_with fail
    refine Hf.out.mono ?_
    rintro e w1 ⟨⟨t1, rfl, -⟩, rfl⟩
    cases t1
    · go_wp2_with fail
      go_ret
      exact ⟨rfl, Below.refl _ _⟩
    · go_wp2_with fail
      go_ret
      exact ⟨rfl, Below.refl _ _⟩
  have h7' : decide (7 < m) = false := by simp; omega
  go_enter Tryd.func7, Tryd.ntmps7
  go_wp2_with fail
  refine Hf.out.mono ?_
  rintro e w1 ⟨⟨t1, rfl, -⟩, rfl⟩
  cases t1
  · go_wp2_with fail
    go_ret
    exact ⟨rfl, Below.refl _ _⟩
  go_wp2_with fail
  refine (solve_any m _ l _ Hl.out).mono ?_
  rintro e w2 ⟨⟨holds, vals, vp, err, rfl, hvals, hs⟩, hb2⟩
  obtain ⟨av, nv, cv, rfl⟩ : ∃ a n c, vp = .slice a n c := by
    by_cases hg : Good m l
    · rcases hs.errs hg with he | ⟨_, _, h, _⟩
      · cases holds with
        | true => exact ⟨_, _, _, (hs.yes hg he rfl).1⟩
        | false =>
          obtain ⟨_, ls, h, _⟩ := hs.no hg he rfl
          obtain ⟨a, c, e, _⟩ := h.shape
          exact ⟨_, _, _, e⟩
      · exact ⟨_, _, _, h⟩
    · exact ⟨_, _, _, (hs.bad hg).2.2.1⟩
  have hal := hb2.alloc hb2.size (.cells #[.bool holds, .int .u64 vals, .slice av nv cv] 71)
  have hblk : (w2.alloc (.cells #[.bool holds, .int .u64 vals, .slice av nv cv] 71)).heap[w2.heap.size]? = some (.cells #[.bool holds, .int .u64 vals, .slice av nv cv] 71 (0, 0)) := heap_at rfl
  have he := elim_any m vl l _ (Hl.out.below hal)
  have Hs := Lib.hid hs; have Hal := Lib.hid hal; have He := Lib.hid he; have Hblk := Lib.hid hblk; have s2 := hb2.size
  clear hs hal he hb2 hblk
  go_wp2_with fail
  refine He.out.mono ?_
  rintro e w3 ⟨vs, can, er, rfl, hb3, hcase⟩
  have hbw3 := Hal.out.trans (hb3.mono Hal.out.size)
  have hblk3 := (hb3.block _ (by simp)).trans Hblk.out
  have Hb3 := Lib.hid hbw3; have Hblk3 := Lib.hid hblk3; have Hcase := Lib.hid hcase
  clear hb3 hbw3 hblk3 hcase Hblk He Hal
  go_wp2_with fail
  refine (shown_any _).mono ?_
  rintro e w4 ⟨rfl, hb4⟩
  have hbw4 := Hb3.out.trans (hb4.mono Hb3.out.size)
  have hblk4 := (hb4.block _ (lt_of_block Hblk3.out)).trans Hblk3.out
  have Hb4 := Lib.hid hbw4; have Hblk4 := Lib.hid hblk4
  have c0 := (res_cells hblk4).1
  have hc3 := World.block_lt_of_cell? _ _ c0
  clear hb4 hbw4 hblk4
  by_cases hg : ¬ Good m l
  · obtain ⟨-, -, -, t, v, rfl⟩ := Hs.out.bad hg
    clear hg
    go_wp2_with fail
    refine (shown_any _).mono ?_
    rintro e w5 ⟨rfl, hb5⟩
    have Hb5 := Lib.hid (Hb4.out.trans (hb5.mono Hb4.out.size))
    clear hb5
    go_wp2_with fail
    go_ret
    exact ⟨rfl, Hb5.out⟩
  have hg := Classical.not_not.1 hg
  obtain rfl := Hs.out.small hg (by omega)
  rcases Hcase.out with ⟨hn, _⟩ | rfl | ⟨rfl, ⟨a, n, c, rfl, hn⟩, hcan⟩
  · exact absurd hg hn
  · clear hg
    go_wp2_with fail
    refine (shown_any _).mono ?_
    rintro e w5 ⟨rfl, hb5⟩
    have Hb5 := Lib.hid (Hb4.out.trans (hb5.mono Hb4.out.size))
    clear hb5
    go_wp2_with fail
    refine (tell_errno 4 w5 (HT.out.below Hb5.out)).mono ?_
    rintro e w6 ⟨rfl, hb6⟩
    have Hb6 := Lib.hid (Hb5.out.trans (hb6.mono Hb5.out.size))
    clear hb6
    go_wp2_with fail
    go_ret
    exact ⟨rfl, Hb6.out⟩
  · have hag := agree hg Hs.out hcan
    subst hag
    subst hn
    have hq : (can == can) = true := by simp
    clear hg hcan
    go_wp2_with fail
    go_ret
    exact ⟨rfl, Hb4.out⟩
end Go.Proofs.YtdeaficdfooegaaDoor
