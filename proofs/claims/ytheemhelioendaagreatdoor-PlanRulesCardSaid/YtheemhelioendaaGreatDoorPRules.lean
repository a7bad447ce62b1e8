/- The walk of PlanRules. -/
import Derived.Test.YtheemhelioendaaGreatDoorPlanned
import Derived.Test.YtheemhelioendaaGreatDoorPkL
namespace Go.Proofs.YtheemhelioendaaGreatDoor
open Go.RowKit
set_option linter.unusedVariables false

theorem rulesWithin {ls : List LineM} {items : List ItemM} (ho : CatOk ls items) : (∀ c ∈ clsOf (rulesC ls items), c.length ≤ 100000) ∧ Within 1000 (clsOf (rulesC ls items)) := by
  have hn : items.length ≤ 24 := by rw [ho.perm.length_eq]; exact ho.most
  refine ⟨fun c hc => ?_, fun c hc x hx => ?_⟩
  · obtain ⟨p, hp, rfl⟩ := List.mem_map.1 hc
    have := (rules_bound ho p hp).1
    omega
  · obtain ⟨p, hp, rfl⟩ := List.mem_map.1 hc
    have := (rules_bound ho p hp).2 x hx
    omega
theorem RulesIn.cls {w : World} {base : Nat} {vc vf : Value} {rc : List (Int × List Int)} (h : RulesIn w base vc vf rc) : ClsIn w base vc (clsOf rc) := by
  obtain ⟨vs, h1, h2, _⟩ := h
  exact ⟨vs, h1, h2⟩
set_option maxRecDepth 100000 in
set_option maxHeartbeats 16000000 in
theorem planRules_walk (s : ByteArray) (n : Nat) (w : World) (hm : s.size ≤ 9223372036854775807) (hn : n < 18446744073709551616) (hL : LaidR w) (hT : TypeLaid w) : Calls Tryz.prog 6 #[.string s, .int .u64 n] w fun e w' => e = .returned (.bool true) ∧ Below w.heap.size w w' := by
  have HP := Lib.hid (read_any s 24 w hm (by decide) hL hT)
  have HR := Lib.hid (show ∀ w', Below w.heap.size w w' → Calls Tryz.prog 14 #[] w' fun e w'' => e = .returned (.bool true) ∧ Below w'.heap.size w' w'' from fun w' hw => planned_any w' (hL.below hw) (hT.below hw))
  have Hn := Lib.hid hn
  clear hL hT hm hn
  go_enter Tryz.func6, Tryz.ntmps6
  go_wp2_with fail
  refine HP.out.mono ?_
  rintro e w1 ⟨⟨p, ls, items, a1, c1, a2, c2, rfl, hcat, hls, _, hlen, hmo, hin⟩ | ⟨rfl, hno⟩, hb1⟩
  · obtain ⟨hok, vl, vi, hat⟩ := hcat
    have hn24 : items.length ≤ 24 := by omega
    obtain ⟨rc, hrc⟩ : ∃ rc, rc = rulesC ls items := ⟨_, rfl⟩
    rw [← hrc] at hin hlen ⊢
    obtain ⟨L, hL⟩ : ∃ L, L = rc.length := ⟨_, rfl⟩
    rw [← hL] at hin hlen ⊢
    obtain ⟨w2, hw2⟩ : ∃ w2, w2 = w1.alloc (.cells #[.int .i64 (items.length : Nat), .slice a1 L c1, .slice a2 L c2] 28) := ⟨_, rfl⟩
    have hb2 : Below w1.heap.size w1 w2 := by rw [hw2]; exact (Below.refl _ _).alloc (Nat.le_refl _) _
    have hk2 : w2.heap[w1.heap.size]? = some (.cells #[.int .i64 (items.length : Nat), .slice a1 L c1, .slice a2 L c2] 28 (0, 0)) := by rw [hw2]; exact heap_at rfl
    have hwi := rulesWithin hok
    rw [← hrc] at hwi
    obtain ⟨hmk, hlt⟩ := maskSet n items.length Hn.out hn24
    obtain ⟨set, hset⟩ : ∃ set, set = n &&& (2 ^ items.length - 1) := ⟨_, rfl⟩
    rw [← hset] at hmk hlt
    have hs64 : set < 18446744073709551616 := Nat.lt_of_lt_of_le hlt (Nat.le_trans (Nat.pow_le_pow_right (by decide) hn24) (by decide))
    have hHA := fun (w' : World) (hw : Below w2.heap.size w2 w') => by
      have hbb : Below w1.heap.size w1 w' := hb2.trans (hw.mono hb2.size)
      have hcl := (hin.below hbb).cls
      have hcll : (clsOf rc).length = L := by rw [clsOf, List.length_map, hL]
      have h0 := allHold_any _ (clsOf rc) set w' (hcl.rows (by omega) hwi.1) hwi.2 hs64
      exact h0
    have HHA := Lib.hid hHA
    have HF := Lib.hid (show ∀ w', Below w2.heap.size w2 w' → Calls Tryz.prog 16 #[.pointer (some ⟨p, 0, none⟩), .int .u64 set] w' (FitsP ls items set w') from fun w' hw => fits_any p vl vi ls items set w' (hat.below (hb2.trans (hw.mono hb2.size))) hok hlt)
    have HB2 := Lib.hid (hb1.trans (hb2.mono hb1.size)); have Hk2 := Lib.hid hk2
    have Heq := Lib.hid (show fitsB ls items set = allB set (clsOf rc) by rw [hrc]; exact fits_rules set hok)
    have Hmk := Lib.hid hmk
    clear hok hat hls hb1 hb2 hk2 hin HP hrc hL hlen hHA hwi hmk hset
    go_upto_region 2 with fail
    rw [← hw2]
    clear hw2
    go_wp2_with fail
    refine (HR.out _ HB2.out).mono ?_
    rintro e w3 ⟨rfl, hb3⟩
    have HF3 := Lib.hid (HF.out _ hb3)
    have hk3 := (hb3.block _ (lt_of_block Hk2.out)).trans Hk2.out
    obtain ⟨c0, c1', c2'⟩ := cellsR hk3
    have HB3 := Lib.hid (HB2.out.trans (hb3.mono HB2.out.size)); have Hb3 := Lib.hid hb3; have Hk3 := Lib.hid hk3
    clear hb3 hk3 Hk2
    have hmk := Hmk.out
    go_wp2_with fail
    refine HF3.out.mono ?_
    rintro e w4 ⟨⟨n4, rfl, hn4⟩, hb4⟩
    have HA4 := Lib.hid (HHA.out w4 (Hb3.out.trans (hb4.mono Hb3.out.size)))
    have hk4 := (hb4.block _ (lt_of_block Hk3.out)).trans Hk3.out
    clear c0 c1' c2' hmk
    obtain ⟨c0, c1', c2'⟩ := cellsR hk4
    have HB4 := Lib.hid (HB3.out.trans (hb4.mono HB3.out.size))
    rw [Heq.out] at hn4 ⊢
    obtain ⟨B, hB⟩ : ∃ B, B = allB set (clsOf rc) := ⟨_, rfl⟩
    rw [← hB] at HA4 hn4 ⊢
    have tn : (n4 == -1) = B := by
      cases B with
      | true => rw [beq_iff_eq]; exact hn4.2 rfl
      | false => rw [beq_eq_false_iff_ne]; exact fun e => by have := hn4.1 e; cases this
    clear hb4 hk4 hB hn4
    cases B with
    | true =>
      go_wp2_with fail
      refine HA4.out.mono ?_
      rintro e w5 ⟨rfl, hb5⟩
      have HB5 := Lib.hid (HB4.out.trans (hb5.mono HB4.out.size))
      clear hb5
      go_wp2_with fail
      go_ret
      exact ⟨rfl, HB5.out⟩
    | false =>
      go_wp2_with fail
      refine HA4.out.mono ?_
      rintro e w5 ⟨rfl, hb5⟩
      have HB5 := Lib.hid (HB4.out.trans (hb5.mono HB4.out.size))
      clear hb5
      go_wp2_with fail
      go_ret
      exact ⟨rfl, HB5.out⟩
  · have HB1 := Lib.hid (hb1.alloc hb1.size (.cells #[.int .i64 0, .slice none 0 0, .slice none 0 0] 28))
    clear hno hb1 HP
    obtain ⟨w2, hw2⟩ : ∃ w2, w2 = w1.alloc (.cells #[.int .i64 0, .slice none 0 0, .slice none 0 0] 28) := ⟨_, rfl⟩
    rw [← hw2] at HB1
    go_upto_region 2 with fail
    rw [← hw2]
    clear hw2
    go_wp2_with fail
    refine (HR.out _ HB1.out).mono ?_
    rintro e w3 ⟨rfl, hb3⟩
    have HB3 := Lib.hid (HB1.out.trans (hb3.mono HB1.out.size))
    clear hb3
    go_wp2_with fail
    refine (HR.out _ HB3.out).mono ?_
    rintro e w4 ⟨rfl, hb4⟩
    have HB4 := Lib.hid (HB3.out.trans (hb4.mono HB3.out.size))
    clear hb4
    go_wp2_with fail
    go_ret
    exact ⟨rfl, HB4.out⟩
end Go.Proofs.YtheemhelioendaaGreatDoor
