/- Contract: proof.Follow. -/
import Derived.Test.YtdeaficdfooegaaDoorRowsG
import Derived.Test.YtdeaficdfooegaaDoorFolM
import Derived.Test.YtdeaficdfooegaaDoorResW
import Derived.Test.YtdeaficdfooegaaDoorStp3
import Derived.Test.YtdeaficdfooegaaDoorCheck
import Derived.Test.YtdeaficdfooegaaDoorTell
import Derived.Test.YtdeaficdfooegaaDoorRup
import Derived.Deep.RegionHeld3
import Derived.OwnWalk
namespace Go.Proofs.YtdeaficdfooegaaDoor
open Go.RowKit
set_option linter.unusedVariables false

def FolP (n : Nat) (l : List (List Int)) (w : World) (e : Ending) (w' : World) : Prop :=
  ∃ v' er, e = .returned (.tuple #[v', er]) ∧ Below w.heap.size w w' ∧ ((v' = .slice none 0 0 ∧ ∃ t x, er = .iface t x) ∨
    (er = .nilIface ∧ (∀ c ∈ l, Sm24 c) ∧ ∃ cs, IsRows w' v' cs ∧ cs.length = n ∧ (∀ c ∈ cs, Sm24 c) ∧ ∀ vals, allB vals l = true → allB vals cs = true))
theorem FolP.bad {n : Nat} {l : List (List Int)} {w w' : World} (hb : Below w.heap.size w w') (t : TypeId) (x : Value) : FolP n l w (.returned (.tuple #[.slice none 0 0, .iface t x])) w' := ⟨_, _, rfl, hb, .inl ⟨rfl, t, x, rfl⟩⟩
theorem good_lit' {m x : Int} {c : List Int} (h : c.any (badLit m) = false) (hx : x ∈ c) : x ≠ 0 ∧ -m ≤ x ∧ x ≤ m := by
  rw [List.any_eq_false] at h
  have := h x hx
  unfold badLit at this
  simp at this
  omega
theorem _root_.Go.RowKit.Below.step3 {w wr w2 : World} (h : Below w.heap.size w wr) (hb : Below wr.heap.size wr w2) : Below w.heap.size w w2 := h.trans (hb.mono h.size)
theorem good_sm {m : Int} {l : List (List Int)} (h : Good m l) : ∀ c ∈ l, Sm24 c := fun c hc => by
  obtain ⟨h1, h2, _, h4⟩ := h
  exact ⟨fun x hx => by have := good_lit' (h4 c hc).2 hx; omega, by have := (h4 c hc).1; omega⟩
/-- What the region of a step reads. -/
structure FHeld (w' : World) (bx : Nat) (i1 i2 : Nat) (V : Int) (g o : Nat) (r1 r2 : Value) : Prop where
  b0 : w'.cell? ⟨bx, 0, none⟩ = some (.int .i64 (i1 : Nat))
  b1 : w'.cell? ⟨bx, 1, none⟩ = some (.int .i64 (i2 : Nat))
  b2 : w'.cell? ⟨bx, 2, none⟩ = some (.int .i64 V)
  a1 : w'.cell? ⟨g, o + i1, none⟩ = some r1
  a2 : w'.cell? ⟨g, o + i2, none⟩ = some r2
theorem FHeld.below {w' w2 : World} {bx i1 i2 g o : Nat} {V : Int} {r1 r2 : Value} (h : FHeld w' bx i1 i2 V g o r1 r2) (hb : Below w'.heap.size w' w2) : FHeld w2 bx i1 i2 V g o r1 r2 := by
  have k : ∀ {p : Addr} {v : Value}, w'.cell? p = some v → w2.cell? p = some v := fun {p v} e => (hb.cell (World.block_lt_of_cell? _ _ e)).trans e
  exact ⟨k h.b0, k h.b1, k h.b2, k h.a1, k h.a2⟩
theorem res_two (v : Int) (va vb : Value) (a b : List Int) (w : World) (ha : IsInts w va a) (hb : IsInts w vb b) (sa : Sm24 a) (sb : Sm24 b) :
    Calls Tryd.prog 27 #[va, vb, .int .i64 v] w (ResP (mayRes a b v) (formL (leftL a b v)) w) := by
  cases hm : mayRes a b v with
  | false => have h := res_no v va vb a b w ha hb hm (formL (leftL a b v)); rw [hm] at h; exact h
  | true => have h := res_yes v va vb a b w ha hb hm sa.b1000 sb.b1000 (by have := sa.2; omega) (by have := sb.2; omega); rw [hm] at h; exact h

set_option maxRecDepth 100000 in
set_option maxHeartbeats 16000000 in
theorem follow_any (m : Int) (vl vs : Value) (l : List (List Int)) (st : List Stp3) (w : World) (hl : IsRows w vl l) (hs : IsSteps3 w vs st) (hst : st.length ≤ 40) (hT : TypeLaid w) :
    Calls Tryd.prog 33 #[.int .i64 m, vl, vs] w (FolP st.length l w) := by
  obtain ⟨al, cl, rfl, hll, hlm, hllen⟩ := hl.shape
  obtain ⟨asl, csl, rfl, hsl, hsm⟩ := hs.shape
  have Hck := Lib.hid (check_any m _ l w hl)
  have Hl := Lib.hid hl; have Hs := Lib.hid hs; have HT := Lib.hid hT
  clear hl hs hT
  by_cases hg : ¬ Good m l
  · have Hg := Lib.hid hg; clear hg
    go_enter Tryd.func33, Tryd.ntmps33
    go_wp2_with fail
    refine Hck.out.mono ?_
    rintro e w1 ⟨⟨ev, rfl, -, hno⟩, hb1⟩
    obtain ⟨t, x, rfl⟩ := hno Hg.out
    have Hb1 := Lib.hid hb1; clear hb1 hno
    go_wp2_with fail
    go_ret2
    exact FolP.bad Hb1.out _ _
  have hg := Classical.not_not.1 hg
  have hsm0 := good_sm hg
  have hl200 : l.length ≤ 200 := hg.2.2.1
  have Hg := Lib.hid hg; have Hsm0 := Lib.hid hsm0; clear hg hsm0
  go_enter Tryd.func33, Tryd.ntmps33
  go_wp2_with fail
  refine Hck.out.mono ?_
  rintro e w1 ⟨⟨ev, rfl, hev, -⟩, hb1⟩
  obtain rfl := hev Hg.out
  have Hb1 := Lib.hid hb1; have Hq := Lib.hid (cloneR_any _ l w1 (Hl.out.below hb1) (by omega)); clear hb1 hev Hck
  go_wp2_with fail
  refine Hq.out.mono ?_
  rintro e w2 ⟨⟨va, rs, rfl, hown, hrv⟩, hb2⟩
  have hrg : RowsG w2 w1.heap.size va rs l := ⟨hown, hrv.below hb2, fun i h1 h2 hne b hb e => by
    have q1 := ints_block (hrv.2 i h1 h2) hne b hb
    have q2 := (hown.lt b e).1
    omega⟩
  have Hrg := Lib.hid hrg; have Hb2 := Lib.hid hb2; have s1 := Hb1.out.size; have s2 := hb2.size
  clear hown hrv hb2 hrg Hq
  go_wp2_with fail
  go_loopg [9, 31] st.length (fun gk va i wr => ∃ (k : Nat) (rs : List Value) (all : List (List Int)), k ≤ st.length ∧ gk = st.length - k ∧ i = .int .i64 k ∧ RowsG wr w1.heap.size va rs all ∧ FolI l all k ∧ Below w1.heap.size w1 wr)
  case atStart => exact ⟨0, rs, l, Nat.zero_le _, rfl, rfl, Hrg.out, FolI.zero Hsm0.out, Hb2.out⟩
  case round =>
    clear Hrg Hb2
    obtain ⟨k, rs', all, hk, rfl, rfl, hrg, hfi, hbel⟩ := hrel
    obtain ⟨wo, rfl⟩ : ∃ y, y = wr := ⟨_, rfl⟩
    by_cases hlt : k < st.length
    · obtain ⟨b, o, rfl, hblk⟩ := Hs.out.addr hlt
      have hbw := Hb1.out.step3 hbel
      obtain ⟨c0, c1, c2⟩ := (Hs.out.below hbw).get hlt rfl
      generalize st[k] = s at c0 c1 c2
      obtain ⟨A, B, V⟩ := s
      dsimp only at c0 c1 c2
      obtain ⟨ga, ca, rfl⟩ := owns_shape hrg.own
      have hle : all.length ≤ 1000 := by have := hfi.len; omega
      by_cases hA : A < 0
      · clear hrg hfi
        have Hbw := Lib.hid hbw; clear hbw hbel
        go_wp2_with fail
        go_ret2
        exact FolP.bad ((Hbw.out.alloc Hbw.out.size _).alloc (by have := Hbw.out.size; simp; omega) _) _ _
      by_cases hA2 : (all.length : Int) ≤ A
      · have hA3 : decide ((all.length : Int) ≤ A) = true := by simpa using hA2
        clear hrg hfi
        have Hbw := Lib.hid hbw; clear hbw hbel
        go_wp2_with fail
        go_ret2
        exact FolP.bad ((Hbw.out.alloc Hbw.out.size _).alloc (by have := Hbw.out.size; simp; omega) _) _ _
      by_cases hB : B < 0
      · have hA3 : decide ((all.length : Int) ≤ A) = false := by simpa using hA2
        clear hrg hfi
        have Hbw := Lib.hid hbw; clear hbw hbel
        go_wp2_with fail
        go_ret2
        exact FolP.bad ((Hbw.out.alloc Hbw.out.size _).alloc (by have := Hbw.out.size; simp; omega) _) _ _
      by_cases hB2 : (all.length : Int) ≤ B
      · have hA3 : decide ((all.length : Int) ≤ A) = false := by simpa using hA2
        have hB3 : decide ((all.length : Int) ≤ B) = true := by simpa using hB2
        clear hrg hfi
        have Hbw := Lib.hid hbw; clear hbw hbel
        go_wp2_with fail
        go_ret2
        exact FolP.bad ((Hbw.out.alloc Hbw.out.size _).alloc (by have := Hbw.out.size; simp; omega) _) _ _
      obtain ⟨i1, rfl⟩ := Int.eq_ofNat_of_zero_le (show 0 ≤ A by omega)
      obtain ⟨i2, rfl⟩ := Int.eq_ofNat_of_zero_le (show 0 ≤ B by omega)
      have j1 : i1 < all.length := by omega
      have j2 : i2 < all.length := by omega
      have d1 : decide (all.length ≤ i1) = false := by simp; omega
      have d2 : decide (all.length ≤ i2) = false := by simp; omega
      clear hA hA2 hB hB2
      have hrows := hrg.rows (by omega)
      obtain ⟨g, og, rfl, hgl⟩ := hrows.addr j1
      obtain ⟨ax1, nx1, cx1, cell1, r1⟩ := hrows.get j1
      obtain ⟨ax2, nx2, cx2, cell2, r2⟩ := hrows.get j2
      have m1 := List.getElem_mem j1
      have m2 := List.getElem_mem j2
      have hnext := fun h0 => hfi.step m1 m2 (v := V) h0
      have sm1 := hfi.small _ m1; have sm2 := hfi.small _ m2
      generalize all[i1] = x1 at r1 m1 hnext sm1
      generalize all[i2] = x2 at r2 m2 hnext sm2
      have hbx : Below wo.heap.size wo (wo.alloc (.cells #[.int .i64 (i1 : Nat), .int .i64 (i2 : Nat), .int .i64 V] 120)) := (Below.refl _ _).alloc (Nat.le_refl _) _
      have hh0 : FHeld (wo.alloc (.cells #[.int .i64 (i1 : Nat), .int .i64 (i2 : Nat), .int .i64 V] 120)) wo.heap.size i1 i2 V g og (.slice ax1 nx1 cx1) (.slice ax2 nx2 cx2) :=
        ⟨by rw [cell_of_row _ _ _ _ _ _ (heap_at rfl)]; rfl, by rw [cell_of_row _ _ _ _ _ _ (heap_at rfl)]; rfl, by rw [cell_of_row _ _ _ _ _ _ (heap_at rfl)]; rfl, (hbx.cell (World.block_lt_of_cell? _ _ cell1)).trans cell1, (hbx.cell (World.block_lt_of_cell? _ _ cell2)).trans cell2⟩
      have hvl := hrg.own.lt
      have Hh0 := Lib.hid hh0; have R1 := Lib.hid (r1.below hbx); have R2 := Lib.hid (r2.below hbx); have Hrg := Lib.hid (hrg.below hbx); have Hnext := Lib.hid hnext; have Hsm1 := Lib.hid sm1; have Hsm2 := Lib.hid sm2; have Hfi := Lib.hid hfi; have Hbel := Lib.hid (hbel.step3 hbx); have Hbw := Lib.hid (hbw.step3 hbx); have Hvl := Lib.hid hvl
      clear hh0 r1 r2 hrg hnext sm1 sm2 hfi hbel hbw hbx hrows cell1 cell2 m1 m2 hvl
      go_upto_region 12 with fail
      generalize wo.alloc (.cells #[.int .i64 (i1 : Nat), .int .i64 (i2 : Nat), .int .i64 V] 120) = wb at Hh0 R1 R2 Hrg Hbel Hbw ⊢
      have hbd : Below wb.heap.size wb wb.drew := (Below.refl _ _).drew
      have h90 := Hh0.out.below hbd
      have HI1 := Lib.hid (R1.out.below hbd); have HI2 := Lib.hid (R2.out.below hbd); have HG := Lib.hid (Hrg.out.below hbd); have HB := Lib.hid (Hbel.out.step3 hbd); have HW := Lib.hid (Hbw.out.step3 hbd)
      have n1 : (0 : Int) ≤ (i1 : Int) := by omega
      have n2 : (i1 : Int) < (all.length : Int) := by omega
      have n3 : (0 : Int) ≤ (i2 : Int) := by omega
      have n4 : (i2 : Int) < (all.length : Int) := by omega
      have Hrt := Lib.hid (fun w' h1 h2 => res_two V (.slice ax1 nx1 cx1) (.slice ax2 nx2 cx2) x1 x2 w' h1 h2 Hsm1.out Hsm2.out)
      clear hbd R1 R2 Hh0 Hrg Hbel Hbw
      go_region_held3 (fun w' => w'.cell? ⟨wo.heap.size, 0, none⟩ = some (.int .i64 (i1 : Nat)) ∧ w'.cell? ⟨wo.heap.size, 1, none⟩ = some (.int .i64 (i2 : Nat)) ∧ w'.cell? ⟨wo.heap.size, 2, none⟩ = some (.int .i64 V) ∧ w'.cell? ⟨g, og + i1, none⟩ = some (.slice ax1 nx1 cx1) ∧ w'.cell? ⟨g, og + i2, none⟩ = some (.slice ax2 nx2 cx2))
        (first | exact ⟨h90.b0, h90.b1, h90.b2, h90.a1, h90.a2⟩ | go_keep)
        (first | (go_at_call 27; (with_reducible refine (Hrt.out _ HI1.out HI2.out).mono ?_); rintro e w9 ⟨v9, er, rfl, hbad, hno, hyes, hb9⟩; have h91 := h90.below hb9; clear h90; have h90 := h91; clear h91; have Hb9 := Lib.hid hb9; have Hbad := Lib.hid hbad; have Hno := Lib.hid hno; have Hyes := Lib.hid hyes; clear hb9 hbad hno hyes))
      have HG9 := Lib.hid (HG.out.below Hb9.out); have HB9 := Lib.hid (HB.out.step3 Hb9.out); have HW9 := Lib.hid (HW.out.step3 Hb9.out)
      have Hfr := Lib.hid (show ∀ v9, FreshV wb.drew v9 → ∀ b, v9.ownBlock = some b → (Value.slice (some ⟨g, og, none⟩) all.length ca).ownBlock ≠ some b from fun v9 h b hb e => by
        have q1 := h b hb
        have q2 := (HG.out.own.lt b e).2
        omega)
      clear HG HB HW HI1 HI2 h90 Hrt
      cases hm : mayRes x1 x2 V with
      | false =>
        obtain ⟨rfl, rfl⟩ := Hbad.out hm
        clear hm Hbad Hno Hyes Hnext Hsm1 Hsm2 Hfi Hvl HG9 HB9 Hfr Hb9
        go_wp2_with fail
        refine (tell_errno 1 w9 (HT.out.below HW9.out)).mono ?_
        rintro e w10 ⟨rfl, hb10⟩
        have HW10 := Lib.hid (HW9.out.step3 hb10)
        clear hb10 HW9
        go_wp2_with fail
        go_ret2
        exact FolP.bad (HW10.out.alloc HW10.out.size _) _ _
      | true =>
        cases hal : alwaysL (formL (leftL x1 x2 V)) with
        | true =>
          obtain ⟨rfl, rfl⟩ := Hno.out hm hal
          clear hm hal Hbad Hno Hyes Hnext Hsm1 Hsm2 Hfi Hvl HG9 HB9 Hfr Hb9
          go_wp2_with fail
          refine (tell_errno 8 w9 (HT.out.below HW9.out)).mono ?_
          rintro e w10 ⟨rfl, hb10⟩
          have HW10 := Lib.hid (HW9.out.step3 hb10)
          clear hb10 HW9
          go_wp2_with fail
          go_ret2
          exact FolP.bad (HW10.out.alloc HW10.out.size _) _ _
        | false =>
          obtain ⟨rfl, hi9, hf9⟩ := Hyes.out hm hal
          have Hnx := Lib.hid (Hnext.out (may_iff.1 hm).1)
          clear hm hal Hbad Hno Hyes Hnext Hsm1 Hsm2 Hfi Hvl Hb9
          generalize formL (leftL x1 x2 V) = cs at hi9 Hnx
          obtain ⟨a9, c9, rfl, hc9, hc9m, _⟩ := hi9.shape
          have Hi9 := Lib.hid hi9; have Hof := Lib.hid (Hfr.out _ hf9)
          have sb9 := HB9.out.size
          clear hi9 hf9 Hfr HW9
          go_wp2_with (at_builtin; refine wpList_append_row rfl (.tmp 86) (.tmp 88) rfl w1.heap.size _ rs' all rfl HG9.out _ cs Hi9.out (fun _ => Hof.out) _ rfl rfl (by omega) sb9 ?_; intro v11 w11 hg11 hb11; have HG11 := Lib.hid hg11; have HB11 := Lib.hid (HB9.out.trans hb11); clear hg11 hb11)
          go_roundg (st.length - (k + 1))
          case measure => omega
          case rel => exact ⟨k + 1, _, _, by omega, rfl, by go_num, HG11.out, Hnx.out, HB11.out⟩
    · obtain rfl : k = st.length := by omega
      obtain ⟨ga, ca, rfl⟩ := owns_shape hrg.own
      have hle : all.length ≤ 1000 := by have := hfi.len; omega
      have hla : l.length ≤ all.length := by have := hfi.len; omega
      obtain ⟨q1, q2, q3⟩ := hfi.rest
      have hca : all.length ≤ ca ∧ ca ≤ 9223372036854775807 := by
        obtain ⟨_, _, h1, h2, h3, _⟩ := (hrg.rows (by omega)).shape
        cases h1; exact ⟨h2, h3⟩
      obtain ⟨hc1, hc2⟩ := hca
      obtain ⟨i0, hi0, hz0, hz1, hz2⟩ := info_parts infoClause
      have Hrest := Lib.hid (And.intro q1 (And.intro q2 q3)); have Hrg := Lib.hid hrg; have Hlen := Lib.hid hfi.len; have Hbel := Lib.hid hbel
      have sbel := hbel.size
      clear q1 q2 q3 hrg hfi hbel
      by_cases hcap : l.length < ca
      · obtain ⟨g, rfl⟩ : ∃ g, ga = some ⟨g, 0, none⟩ := by
          rcases Hrg.out.own.2 with ⟨h, _⟩ | ⟨g, cap, cur, h, _⟩
          · injection h with _ _ h3; omega
          · injection h with h1; exact ⟨g, h1⟩
        go_wp2_with (at_make; refine wpList_make_own _ rfl _ _ 56 rfl wo.heap.size 54 i0 (.slice none 0 0) 1 Tryd.underlying56 hi0 hz0 hz1 .i64 .i64 _ st.length rfl rfl (by first | rfl | omega) (by rw [hz2]; omega) (by unfold maxLen; omega) (Nat.le_refl _) ?_; intro w5 hown5 hgrow5; have Hown5 := Lib.hid hown5; have Hgrow5 := Lib.hid hgrow5; clear hown5 hgrow5)
        have Hb5 := Lib.hid ((Below.refl wo.heap.size wo).grown Hgrow5.out (Nat.le_refl _) (fun j hj => by cases hj))
        go_loopg [14, 99] (all.length - l.length) (fun gk vo j wr => ∃ (t : Nat) (rs2 : List Value), t ≤ all.length - l.length ∧ gk = all.length - l.length - t ∧ j = .int .i64 t ∧ RowsG wr wo.heap.size vo rs2 ((all.drop l.length).take t) ∧ Below wo.heap.size wo wr)
        case atStart => exact ⟨0, [], Nat.zero_le _, rfl, rfl, ⟨Hown5.out, rowVals_nil _, fun i h => absurd h (by simp)⟩, Hb5.out⟩
        case round =>
          clear Hown5 Hgrow5 Hb5
          obtain ⟨t, rs2, ht, rfl, rfl, hg2, hb2⟩ := hrel
          obtain ⟨wq, rfl⟩ : ∃ y, y = wr := ⟨_, rfl⟩
          obtain ⟨go1, co1, rfl⟩ := owns_shape hg2.own
          by_cases hlt : t < all.length - l.length
          · have hix : l.length + t < all.length := by omega
            obtain ⟨a4, n4, c4, cell4, hr4⟩ := ((Hrg.out.rows (by omega)).below hb2).get hix
            rw [Nat.zero_add] at cell4
            have htk : (all.drop l.length).take (t + 1) = (all.drop l.length).take t ++ [all[l.length + t]] := by
              rw [List.take_succ_eq_append_getElem (by rw [List.length_drop]; exact hlt), List.getElem_drop]
            have hsz4 : all[l.length + t].length ≤ 50 := by
              have h1 := Hrest.out.2.1 all[l.length + t] (by
                have : (all.drop l.length)[t]'(by rw [List.length_drop]; exact hlt) = all[l.length + t] := List.getElem_drop
                rw [← this]; exact List.getElem_mem _)
              exact h1.2
            have Hcl := Lib.hid (cloneC_any _ _ wq hr4 (by omega))
            have Htk := Lib.hid htk
            have hlk : ((all.drop l.length).take t).length ≤ 1000 := by rw [List.length_take, List.length_drop]; omega
            have hvl := hg2.own.lt
            have sq := hb2.size
            have Hg2 := Lib.hid hg2; have Hb2 := Lib.hid hb2; have Hvl := Lib.hid hvl
            clear hg2 hb2 htk hr4 hvl
            generalize all[l.length + t] = c at Hcl Htk hsz4
            generalize (all.drop l.length).take t = fa at Hg2 Htk hlk Hvl ⊢
            go_wp2_with (first
              | (go_at_call 59; refine Hcl.out.mono ?_; rintro e w6 ⟨⟨v6, rfl, ho6⟩, hb6⟩; obtain ⟨a6, c6, rfl⟩ := owns_shape ho6; have I6 := Lib.hid (ints_owned ho6 (by omega)); have F6 := Lib.hid (show ∀ b, (Value.slice a6 c.length c6).ownBlock = some b → (Value.slice go1 fa.length co1).ownBlock ≠ some b from fun b hb e => by have q1 := (ho6.lt b hb).1; have q2 := (Hvl.out b e).2; omega); have HG6 := Lib.hid (Hg2.out.below hb6); have B6 := Lib.hid (Hb2.out.trans (hb6.mono sq)); have s6 := B6.out.size; clear ho6 hb6)
              | (at_builtin; refine wpList_append_row rfl (.tmp 103) (.tmp 106) rfl wo.heap.size _ rs2 fa rfl HG6.out _ c I6.out (fun _ => F6.out) _ rfl rfl (by omega) s6 ?_; intro v7 w7 hg7 hb7; have HG7 := Lib.hid hg7; have B7 := Lib.hid (B6.out.trans hb7); clear hg7 hb7))
            go_roundg (all.length - l.length - (t + 1))
            case measure => omega
            case rel => exact ⟨t + 1, _, by omega, rfl, by go_num, by rw [Htk.out]; exact HG7.out, B7.out⟩
          · obtain rfl : t = all.length - l.length := by omega
            have hall : (all.drop l.length).take (all.length - l.length) = all.drop l.length := List.take_of_length_le (by rw [List.length_drop]; exact Nat.le_refl _)
            rw [hall] at hg2 ⊢
            have hlk : (all.drop l.length).length ≤ 1000000 := by rw [List.length_drop]; omega
            have hrr := hg2.rows hlk
            have Hrr := Lib.hid hrr; have Hb2 := Lib.hid hb2
            clear hall hg2 hb2 hrr
            go_wp2_with fail
            go_ret2
            exact ⟨_, _, rfl, (Hb1.out.trans (Hbel.out.mono s1)).trans (Hb2.out.mono (Nat.le_trans s1 sbel)), .inr ⟨rfl, Hsm0.out, _, Hrr.out, Hrest.out.1, Hrest.out.2.1, Hrest.out.2.2⟩⟩
      · obtain rfl : ca = l.length := by omega
        have hN : all.length - l.length ≤ 0 := by omega
        have Hz := Lib.hid (show all.drop l.length = [] from List.drop_eq_nil_iff.2 (by omega))
        go_wp2_with (at_make; refine wpList_make_own _ rfl _ _ 56 rfl wo.heap.size 54 i0 (.slice none 0 0) 1 Tryd.underlying56 hi0 hz0 hz1 .i64 .i64 _ st.length rfl rfl (by first | rfl | omega) (by rw [hz2]; omega) (by unfold maxLen; omega) (Nat.le_refl _) ?_; intro w5 hown5 hgrow5; have Hown5 := Lib.hid hown5; have Hgrow5 := Lib.hid hgrow5; clear hown5 hgrow5)
        have Hb5 := Lib.hid ((Below.refl wo.heap.size wo).grown Hgrow5.out (Nat.le_refl _) (fun j hj => by cases hj))
        go_loopg [14, 99] 0 (fun gk vo j wr => gk = 0 ∧ vo = .slice (some ⟨wo.heap.size, 0, none⟩) 0 st.length ∧ j = .int .i64 0 ∧ w5 = wr)
        case atStart => exact ⟨rfl, rfl, rfl, rfl⟩
        case round =>
          obtain ⟨rfl, rfl, rfl, rfl⟩ := hrel
          go_wp2_with fail
          go_ret2
          refine ⟨_, _, rfl, (Hb1.out.trans (Hbel.out.mono s1)).trans (Hb5.out.mono (Nat.le_trans s1 sbel)), .inr ⟨rfl, Hsm0.out, [], ?_, ?_, (fun c hc => (by cases hc)), fun _ _ => rfl⟩⟩
          · exact (RowsG.mk (base := wo.heap.size) (rs := []) (ls := []) Hown5.out (rowVals_nil _) (fun i h => absurd h (by simp))).rows (by simp)
          · have h1 := Hrest.out.1
            rw [Hz.out] at h1; exact h1
end Go.Proofs.YtdeaficdfooegaaDoor
