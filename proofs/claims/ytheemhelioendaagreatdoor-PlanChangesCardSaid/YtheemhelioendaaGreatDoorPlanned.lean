/- Contract: the fact 'planned'; a set of items, masked. -/
import Derived.Test.YtheemhelioendaaGreatDoorOrderW
import Derived.Test.YtheemhelioendaaGreatDoorListB
import Derived.Test.YtheemhelioendaaGreatDoorPkL
namespace Go.Proofs.YtheemhelioendaaGreatDoor
open Go.RowKit
set_option linter.unusedVariables false

theorem maskWrap : ∀ M < 25, IntKind.u64.wrap (IntKind.u64.wrap ((2 : Int) ^ M) - 1) = ((2 ^ M - 1 : Nat) : Int) ∧ 2 ^ M - 1 < 16777216 := by decide
theorem maskSet (x M : Nat) (hx : x < 18446744073709551616) (hM : M ≤ 24) : bits BinOp.and IntKind.u64 (x : Int) (IntKind.u64.wrap (IntKind.u64.wrap (2 ^ M) - 1)) = ((x &&& (2 ^ M - 1) : Nat) : Int) ∧ x &&& (2 ^ M - 1) < 2 ^ M := by
  obtain ⟨h1, h2⟩ := maskWrap M (by omega)
  refine ⟨by rw [h1, bits_and_u64_nat _ _ hx (by omega)], ?_⟩
  have := Nat.and_le_right (n := x) (m := 2 ^ M - 1)
  have : 0 < 2 ^ M := Nat.two_pow_pos M
  omega
set_option maxRecDepth 100000 in
set_option maxHeartbeats 8000000 in
theorem planned_any (w : World) (hL : LaidR w) (hT : TypeLaid w) : Calls Tryz.prog 14 #[] w fun e w' => e = .returned (.bool true) ∧ Below w.heap.size w w' := by
  have HP := Lib.hid (parseC_any textB w (by decide) hL hT)
  have HT := Lib.hid (show ∀ w', Below w.heap.size w w' → TypeLaid w' from fun w' hw => hT.below hw)
  clear hL hT
  unfold textB at HP
  go_enter Tryz.func14, Tryz.ntmps14
  go_wp2_with fail
  refine HP.out.mono ?_
  rintro e w1 ⟨⟨p, ls, items, rfl, hcat, _, _, hls⟩ | ⟨er, rfl, _, hno⟩, hb1⟩
  · obtain ⟨hok, vl, vi, hat⟩ := hcat
    obtain ⟨hsame, rfl⟩ := catB hls hok
    obtain ⟨hf3, hf1⟩ := fitsB3 hsame hok
    have HO3 := Lib.hid (order_any p vl vi ls itB 3 w1 hat hok (by decide))
    have Hat := Lib.hid hat; have Hok := Lib.hid hok; have Hsame := Lib.hid hsame; have Hf1 := Lib.hid hf1; have HB1 := Lib.hid hb1
    clear hat hok hsame hf1 hb1 HP hls hf3
    go_wp2_with fail
    refine HO3.out.mono ?_
    rintro e w2 ⟨⟨a, c, l, rfl, hout, hord, _⟩ | ⟨rfl, hf⟩ | ⟨rfl, _, hcy⟩, hb2⟩
    · obtain rfl := orderB Hsame.out hord
      have HO1 := Lib.hid (order_any p vl vi ls itB 1 w2 (Hat.out.below hb2) Hok.out (by decide))
      have Hout := Lib.hid hout; have HB2 := Lib.hid (HB1.out.trans (hb2.mono HB1.out.size))
      clear hout hb2 hord HO3
      simp only [List.length_cons, List.length_nil, Nat.reduceAdd] at Hout ⊢
      go_wp2_with fail
      refine HO1.out.mono ?_
      rintro e w3 ⟨⟨a', c', l', rfl, hout', _, hf⟩ | ⟨rfl, hf⟩ | ⟨rfl, hf, _⟩, hb3⟩
      · rw [Hf1.out] at hf; cases hf
      · have HB3 := Lib.hid (HB2.out.trans (hb3.mono HB2.out.size)); have Ho3 := Lib.hid (RowG.below Hout.out hb3)
        clear hb3 HO1
        go_wp2_with fail
        have hb4 : Below w3.heap.size w3 (w3.alloc (.cells #[.int .i64 1, .int .i64 0] 3)) := (Below.refl _ _).alloc (Nat.le_refl _) _
        have hl4 := (outI_lit (xs := [1, 0]) rfl (show (w3.alloc (.cells #[.int .i64 1, .int .i64 0] 3)).heap[w3.heap.size]? = some (.cells #[.int .i64 1, .int .i64 0] 3 (0, 0)) from heap_at rfl) (by decide) 0 (Nat.zero_le _)).ints (by decide)
        refine (sameInts_any _ _ _ _ _ ((OutI.below Ho3.out hb4).ints (by decide)) hl4).mono ?_
        rintro e w5 ⟨rfl, hb5⟩
        have HB5 := Lib.hid (HB3.out.trans ((hb4.trans (hb5.mono hb4.size)).mono HB3.out.size))
        clear hb4 hl4 hb5
        have HTl := Lib.hid (tell_errno 13 w5 (HT.out _ HB5.out))
        rw [show ((List.map (fun k : Nat => (k : Int)) [1, 0]) == [1, 0]) = true from by decide]
        go_wp2_with fail
        refine HTl.out.mono ?_
        rintro e w6 ⟨rfl, hb6⟩
        have HB6 := Lib.hid (HB5.out.trans (hb6.mono HB5.out.size))
        clear hb6
        go_wp2_with fail
        go_ret
        exact ⟨rfl, HB6.out⟩
      · rw [Hf1.out] at hf; cases hf
    · exact absurd hf (by rw [(fitsB3 Hsame.out Hok.out).1]; decide)
    · exact absurd hcy (cyclicB Hsame.out)
  · exact absurd newB (hno lsB (by decide) linesB)
end Go.Proofs.YtheemhelioendaaGreatDoor
