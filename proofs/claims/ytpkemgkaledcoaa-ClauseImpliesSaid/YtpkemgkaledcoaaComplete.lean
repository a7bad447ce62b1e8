/- The law ProofComplete. -/
import Derived.Test.YtpkemgkaledcoaaSound
import Derived.Test.YtpkemgkaledcoaaSolve
namespace Go.Proofs.Ytpkemgkaledcoaa
open Go.RowKit
set_option linter.unusedVariables false

/-- An answer's cells, when it has been laid down and something was called. -/
theorem ans_cells {w w2 : World} {a b c : Value} {T : TypeId} (hb : Below (w.alloc (.cells #[a, b, c] T)).heap.size (w.alloc (.cells #[a, b, c] T)) w2) :
    w2.cell? ⟨w.heap.size, 0, none⟩ = some a ∧ w2.cell? ⟨w.heap.size, 1, none⟩ = some b ∧ w2.cell? ⟨w.heap.size, 2, none⟩ = some c := by
  have h : w2.heap[w.heap.size]? = some (.cells #[a, b, c] T (0, 0)) := by
    rw [hb.block _ (by simp)]; exact heap_at rfl
  exact ⟨(res_cells h).1, (res_cells h).2.1, (res_cells h).2.2.1⟩

set_option maxHeartbeats 2000000 in
/-- The law, walked: it answers true. -/
theorem proofComplete_any (m : Int) (vl : Value) (l : List (List Int)) (w : World) (hl : IsRows w vl l) :
    Calls Try.prog 6 #[.int .i64 m, vl] w fun e w' => e = .returned (.bool true) ∧ Below w.heap.size w w' := by
  have Hl := Lib.hid hl; clear hl
  go_enter Try.func6, Try.ntmps6
  go_wp2_with fail
  refine (few_any m 150 vl l _ Hl.out).mono ?_
  rintro e w1 ⟨⟨t1, rfl, hf1⟩, rfl⟩
  have Hf1 := Lib.hid hf1; clear hf1
  cases t1
  · go_wp2_with fail
    go_ret
    exact ⟨rfl, Below.refl _ _⟩
  · go_wp2_with fail
    refine (solve_any m _ l _ Hl.out).mono ?_
    rintro e w1 ⟨⟨holds, vals, vp, err, rfl, hvals, hs⟩, hb⟩
    have Hb := Lib.hid hb; clear hb
    have hcase : (holds = false ∧ vals = 0 ∧ vp = .slice none 0 0 ∧ ∃ t v, err = .iface t v) ∨ (Good m l ∧ err = .nilIface) := by
      by_cases hg : Good m l
      · rcases hs.errs hg with h | h
        · exact .inr ⟨hg, h⟩
        · exact .inl h
      · exact .inl (hs.bad hg)
    rcases hcase with ⟨rfl, rfl, rfl, t, v, rfl⟩ | ⟨hg, rfl⟩
    · clear hs
      go_wp2_with fail
      refine (shown_any _).mono ?_
      rintro e w2 ⟨rfl, hb2⟩
      have Hb2 := Lib.hid hb2; clear hb2
      go_wp2_with fail
      refine (shown_any _).mono ?_
      rintro e w3 ⟨rfl, hb3⟩
      have Hb3 := Lib.hid hb3; clear hb3
      go_wp2_with fail
      go_ret
      have h2 := (Hb.out.alloc Hb.out.size _).trans (Hb2.out.mono (by have := Hb.out.size; simp; omega))
      exact ⟨rfl, h2.trans (Hb3.out.mono h2.size)⟩
    · cases holds
      · obtain ⟨rfl, ls, hls, h2000, hrup, hlast, -⟩ := hs.no hg rfl rfl
        obtain ⟨ap, cp, rfl, hpl, hpm, hplen⟩ := hls.shape
        have Hg := Lib.hid hg; have Hls := Lib.hid hls; have Hrup := Lib.hid hrup; have Hlast := Lib.hid hlast
        clear hs hg hls hrup hlast
        go_wp2_with fail
        refine (shown_any _).mono ?_
        rintro e w2 ⟨rfl, hb2⟩
        obtain ⟨hc0, hc1, hc2⟩ := ans_cells hb2
        have Hb2 := Lib.hid hb2; clear hb2
        go_wp2_with fail
        have h2 := (Hb.out.alloc Hb.out.size _).trans (Hb2.out.mono (by have := Hb.out.size; simp; omega))
        refine (shows_any m _ _ l ls w2 (Hl.out.below h2) ((Hls.out.below ((Below.refl _ _).alloc (Nat.le_refl _) _)).below Hb2.out)).mono ?_
        rintro e w3 ⟨⟨ok, n, err, rfl, hs⟩, hb3⟩
        obtain ⟨rfl, -, hc⟩ := hs.2 Hg.out (by omega)
        obtain ⟨rfl, rfl⟩ := hc Hrup.out Hlast.out
        have hsz2 := Hb2.out.size
        rw [alloc_size] at hsz2
        have hc5 : w3.cell? ⟨w1.heap.size, 2, none⟩ = some (.slice ap ls.length cp) := by
          rw [hb3.cell (by show w1.heap.size < w2.heap.size; omega)]; exact hc2
        have Hb3 := Lib.hid hb3; clear hb3 hs hc
        go_wp2_with fail
        go_ret
        exact ⟨rfl, h2.trans (Hb3.out.mono h2.size)⟩
      · obtain ⟨rfl, -⟩ := hs.yes hg rfl rfl
        clear hs
        go_wp2_with fail
        refine (shown_any _).mono ?_
        rintro e w2 ⟨rfl, hb2⟩
        obtain ⟨hc0, hc1, hc2⟩ := ans_cells hb2
        have Hb2 := Lib.hid hb2; clear hb2
        go_wp2_with fail
        refine (shown_any _).mono ?_
        rintro e w3 ⟨rfl, hb3⟩
        have Hb3 := Lib.hid hb3; clear hb3
        go_wp2_with fail
        go_ret
        have h2 := (Hb.out.alloc Hb.out.size _).trans (Hb2.out.mono (by have := Hb.out.size; simp; omega))
        exact ⟨rfl, h2.trans (Hb3.out.mono h2.size)⟩
end Go.Proofs.Ytpkemgkaledcoaa
