/- The law ClauseFirst. -/
import Derived.Test.YtpkemgkaledcoaaSolves
import Derived.Test.YtpkemgkaledcoaaAhead
import Derived.Laws.Bits64b
namespace Go.Proofs.Ytpkemgkaledcoaa
open Go.RowKit
set_option linter.unusedVariables false

theorem mask_pow : ∀ M, M ≤ 10 → IntKind.u64.wrap (IntKind.u64.wrap ((2 : Int) ^ M) - 1) = ((2 ^ M - 1 : Nat) : Int) ∧ 2 ^ M - 1 < 1024 := by
  intro M hM
  have : ∀ M < 11, IntKind.u64.wrap (IntKind.u64.wrap ((2 : Int) ^ M) - 1) = ((2 ^ M - 1 : Nat) : Int) ∧ 2 ^ M - 1 < 1024 := by decide
  exact this M (by omega)
theorem mask_any (x M : Nat) (hx : x < 18446744073709551616) (hM : M ≤ 10) : ∃ X : Nat, X < 18446744073709551616 ∧ bits BinOp.and IntKind.u64 (x : Int) (IntKind.u64.wrap (IntKind.u64.wrap (2 ^ M) - 1)) = (X : Int) := by
  obtain ⟨h1, h2⟩ := mask_pow M hM
  refine ⟨x &&& (2 ^ M - 1), Nat.and_lt_two_pow (n := 64) _ (by omega), ?_⟩
  rw [h1, bits_and_u64_nat _ _ hx (by omega)]
theorem shr_zero (V M : Nat) (h : V < 2 ^ M) : (V : Int) / 2 ^ M = 0 := by
  have : (V : Int) / 2 ^ M = ((V / 2 ^ M : Nat) : Int) := by simp
  rw [this, Nat.div_eq_of_lt h]; rfl

set_option maxHeartbeats 4000000 in
/-- The law, walked: it answers true. -/
theorem clauseFirst_any (m : Int) (vl : Value) (l : List (List Int)) (x : Nat) (w : World) (hl : IsRows w vl l) (hx : x < 18446744073709551616) :
    Calls Try.prog 4 #[.int .i64 m, vl, .int .u64 x] w fun e w' => e = .returned (.bool true) ∧ Below w.heap.size w w' := by
  have Hl := Lib.hid hl; clear hl
  go_enter Try.func4, Try.ntmps4
  go_wp2_with fail
  refine (few_any m 200 vl l _ Hl.out).mono ?_
  rintro e w1 ⟨⟨t1, rfl, hf1⟩, rfl⟩
  cases t1
  · go_wp2_with fail
    go_ret
    exact ⟨rfl, Below.refl _ _⟩
  · have hm10 := (hf1 rfl).1
    clear hf1
    go_wp2_with fail
    refine (solve_any m _ l _ Hl.out).mono ?_
    rintro e w1 ⟨⟨holds, V, vp, err, rfl, hV, hs⟩, hb⟩
    have Hb := Lib.hid hb; clear hb
    have hcase : (holds = false ∧ V = 0 ∧ vp = .slice none 0 0 ∧ ∃ t v, err = .iface t v) ∨ (Good m l ∧ err = .nilIface) := by
      by_cases hg : Good m l
      · exact .inr ⟨hg, hs.small hg hm10⟩
      · exact .inl (hs.bad hg)
    rcases hcase with ⟨rfl, rfl, rfl, t, v, rfl⟩ | ⟨hg, rfl⟩
    · clear hs
      go_wp2_with fail
      refine (solves_any _).mono ?_
      rintro e w2 ⟨rfl, hb2⟩
      have Hb2 := Lib.hid hb2; clear hb2
      go_wp2_with fail
      refine (solves_any _).mono ?_
      rintro e w3 ⟨rfl, hb3⟩
      obtain ⟨hc0, hc1, hc2⟩ := ans_cells (Hb2.out.trans (hb3.mono Hb2.out.size))
      have Hb3 := Lib.hid hb3; clear hb3
      go_wp2_with fail
      go_ret
      have h2 := (Hb.out.alloc Hb.out.size _).trans (Hb2.out.mono (by have := Hb.out.size; simp; omega))
      exact ⟨rfl, h2.trans (Hb3.out.mono h2.size)⟩
    · obtain ⟨M, rfl⟩ := Int.eq_ofNat_of_zero_le hg.1
      obtain ⟨X, hX, hXe⟩ := mask_any x M hx (by omega)
      have hM10 : M ≤ 10 := by omega
      cases holds
      · obtain ⟨rfl, ls, hls, h2000, hrup, hlast, -⟩ := hs.no hg rfl rfl
        obtain ⟨ap, cp, rfl, hpl, hpm, hplen⟩ := hls.shape
        have hno := no_of_proof (fun d hd y hy => (lit_of_good (hg.2.2.2 d hd).2 hy).1) hrup hlast
        have Hg := Lib.hid hg; have Hno := Lib.hid hno
        clear hs hg hls hrup hlast hno
        go_wp2_with fail
        refine (solves_any _).mono ?_
        rintro e w2 ⟨rfl, hb2⟩
        obtain ⟨hc0, hc1, hc2⟩ := ans_cells hb2
        have Hb2 := Lib.hid hb2; clear hb2
        go_wp2_with fail
        have h2 := (Hb.out.alloc Hb.out.size _).trans (Hb2.out.mono (by have := Hb.out.size; simp; omega))
        refine (allHold_any _ l X _ (Hl.out.below h2) (within_of_good Hg.out) hX).mono ?_
        rw [Hno.out X]
        rintro e w3 ⟨rfl, hb3⟩
        have Hb3 := Lib.hid hb3; clear hb3
        go_wp2_with fail
        go_ret
        exact ⟨rfl, h2.trans (Hb3.out.mono h2.size)⟩
      · obtain ⟨rfl, hall, hbits, hfirst⟩ := hs.yes hg rfl rfl
        have Hg := Lib.hid hg; have Hall := Lib.hid hall; have Hbits := Lib.hid hbits; have Hfirst := Lib.hid hfirst
        have hVM := shr_zero V M (small_of_bits hbits)
        clear hs hg hall hbits hfirst
        go_wp2_with fail
        refine (solves_any _).mono ?_
        rintro e w2 ⟨rfl, hb2⟩
        obtain ⟨hc0, hc1, hc2⟩ := ans_cells hb2
        have Hb2 := Lib.hid hb2; clear hb2
        go_wp2_with fail
        have h2 := (Hb.out.alloc Hb.out.size _).trans (Hb2.out.mono (by have := Hb.out.size; simp; omega))
        refine (allHold_any _ l V _ (Hl.out.below h2) (within_of_good Hg.out) hV).mono ?_
        rw [Hall.out]
        rintro e w3 ⟨rfl, hb3⟩
        obtain ⟨hc0, hc1, hc2⟩ := ans_cells (Hb2.out.trans (hb3.mono Hb2.out.size))
        have Hb3 := Lib.hid hb3; clear hb3
        go_wp2_with fail
        have h3 := h2.trans (Hb3.out.mono h2.size)
        refine (allHold_any _ l X _ (Hl.out.below h3) (within_of_good Hg.out) hX).mono ?_
        rintro e w4 ⟨rfl, hb4⟩
        obtain ⟨hc0, hc1, hc2⟩ := ans_cells ((Hb2.out.trans (Hb3.out.mono Hb2.out.size)).trans (hb4.mono (Hb2.out.trans (Hb3.out.mono Hb2.out.size)).size))
        have Hb4 := Lib.hid hb4; clear hb4
        have h4 := h3.trans (Hb4.out.mono h3.size)
        rcases hXl : allB X l with _ | _
        · go_wp2_with fail
          go_ret
          exact ⟨rfl, h4⟩
        · have HXl := Lib.hid hXl; clear hXl
          go_wp2_with fail
          refine (ahead_any M X V _ (by omega) hX hV).mono ?_
          rintro e w5 ⟨⟨t, rfl, ht⟩, hb5⟩
          have ht0 : t = false := by
            cases t
            · rfl
            · obtain ⟨k, hk, h5, h6, h7⟩ := ht rfl
              have := Hfirst.out X HXl.out k (by omega) h5 h6
              rw [h7] at this
              cases this
          subst ht0
          clear ht
          have Hb5 := Lib.hid hb5; clear hb5
          go_wp2_with fail
          go_ret
          exact ⟨rfl, h4.trans (Hb5.out.mono h4.size)⟩
end Go.Proofs.Ytpkemgkaledcoaa
