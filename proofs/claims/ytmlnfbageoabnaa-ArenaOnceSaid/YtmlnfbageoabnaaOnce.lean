/- ArenaOnce: its walk. -/
import Derived.Test.YtmlnfbageoabnaaOnceP
import Derived.Deep.RegionHeld3
import Derived.Deep.LoopGhost
import Derived.Deep.CutRange
import Derived.Maps.Own
namespace Go.Proofs.Ytmlnfbageoabnaa
open Go.RowKit
set_option linter.unusedVariables false

theorem zeroIntR (w : World) : (zeroValue 3).run Try.prog w = .ok (.int .i64 0) w := by kernel_rfl
theorem zeroNodeR (w : World) : (zeroValue 32).run Try.prog w = .ok (.agg #[.int .i64 0, .int .i64 0, .int .i64 0]) w := by kernel_rfl

theorem owns_pos {w : World} {base e : Nat} {v : Value} {xs : List Int} (h : w.ownsRow base e 1 v xs.length (xs.map (Value.int .i64))) (hp : 0 < xs.length) :
    ∃ g cap, v = .slice (some ⟨g, 0, none⟩) xs.length cap ∧ ∀ {i : Nat} (hi : i < xs.length), w.cell? ⟨g, i, none⟩ = some (.int .i64 xs[i]) := by
  have h' := h
  rcases h.2 with ⟨rfl, e⟩ | ⟨g, cap, cur, rfl, hg, hh, _⟩
  · omega
  · exact ⟨g, cap, rfl, fun {i} hi => by rw [h'.cellAt i (by omega)]; simp [hi]⟩

theorem get_below (x : Int) (w : World) (b : Bk) (c : Cells) (ha : IsArena w b c) (hx : x ≤ 9223372036854775807) :
    Calls Try.prog 15 #[.pointer (some ⟨b.p, 0, none⟩), .int .i64 x] w fun e w' => e = .returned (gotV (getM c x)) ∧ Below w.heap.size w w' :=
  (get_any x w b c ha hx).mono fun e w' ⟨h1, h2⟩ => ⟨h1, by rw [h2]; exact (Below.refl _ _).alloc (Nat.le_refl _) _⟩
theorem ob_box {w3 w4 : World} {gx o : Nat} {v : Value} (hb : Below w3.heap.size w3 w4) (hg : gx < w3.heap.size) (h : w3.cell? ⟨gx, o, none⟩ = some v) : w4.cell? ⟨gx, o, none⟩ = some v := (hb.cell hg).trans h

set_option maxRecDepth 100000 in
set_option maxHeartbeats 8000000 in
theorem once_any (keep : Int) (vv vl vh : Value) (vars lows highs : List Int) (w : World) (hv : IsInts w vv vars) (hl : IsInts w vl lows) (hh : IsInts w vh highs) :
    Calls Try.prog 3 #[vv, vl, vh, .int .i64 keep] w fun e w' => e = .returned (.bool true) ∧ Below w.heap.size w w' := by
  obtain ⟨av, cv, rfl, _, _, hvx⟩ := hv.shape
  obtain ⟨al, cl, rfl, _, _, hlx⟩ := hl.shape
  obtain ⟨ah, ch, rfl, _, _, hhx⟩ := hh.shape
  have Hv := Lib.hid hv; have Hl := Lib.hid hl; have Hh := Lib.hid hh; clear hv hl hh
  by_cases h40 : 40 < vars.length
  · go_enter Try.func3, Try.ntmps3
    go_wp2_with fail
    go_ret
    exact ⟨rfl, Below.refl _ _⟩
  by_cases hlv : lows.length < vars.length
  · go_enter Try.func3, Try.ntmps3
    go_wp2_with fail
    go_ret
    exact ⟨rfl, Below.refl _ _⟩
  by_cases hhv : highs.length < vars.length
  · go_enter Try.func3, Try.ntmps3
    go_wp2_with fail
    go_ret
    exact ⟨rfl, Below.refl _ _⟩
  have hmm := @run_makeMap Try.prog
  obtain ⟨i0, hi, hz0, hz1, hz2⟩ := info_parts infoInt
  go_enter Try.func3, Try.ntmps3
  go_wp2_with fail
  refine (new_any 100 w (by decide) (by decide)).mono ?_
  rintro e w1 ⟨⟨b, rfl, hR, ha, hm⟩, hb1⟩
  have Ha := Lib.hid ha; have Hm := Lib.hid hm; have Hb1 := Lib.hid hb1; have HR := Lib.hid hR
  clear ha hm hb1 hR
  go_wp2_with fail
  refine (lies_any w1).mono ?_
  rintro e w2 ⟨rfl, hb2⟩
  have hst : OSt w ((w2.alloc (.map #[] 0)).alloc (.cells #[.int .i64 0, .int .i64 1] 3)) b w2.heap.size (List.replicate 100 none) [] [0, 1] (.slice (some ⟨w2.heap.size + 1, 0, none⟩) 2 2) := by
    have hb3 : Below w1.heap.size w1 ((w2.alloc (.map #[] 0)).alloc (.cells #[.int .i64 0, .int .i64 1] 3)) := (hb2.alloc hb2.size _).alloc (by have := hb2.size; simp; omega) _
    refine ⟨Hb1.out.trans (hb3.mono Hb1.out.size), Ha.out.below hb3, (mapOf_new w2 encNd).below ((Below.refl _ _).alloc (by simp) _), ?_, fun k hk => ⟨Hm.out k hk, Nat.lt_of_lt_of_le (Ha.out.lt hk) hb2.size⟩, Nat.le_trans Hb1.out.size hb2.size⟩
    have := World.ownsRow_lit (base := w2.heap.size + 1) (e := 3) (size := 1) (w2.alloc (.map #[] 0)) #[.int .i64 0, .int .i64 1] 2 (by simp) (by decide) rfl
    simpa using this
  have Hst := Lib.hid hst; clear hst hb2
  go_wp2_with fail
  go_loopg [12, 13] vars.length (fun gk va i wr => ∃ (k : Nat) (c : Cells) (mp : List (Nd × Value)) (all : List Int), k ≤ vars.length ∧ gk = vars.length - k ∧ i = .int .i64 k ∧ OSt w wr b w2.heap.size c mp all va ∧ OInv c mp all k)
  case atStart => exact ⟨0, _, _, _, Nat.zero_le _, rfl, rfl, Hst.out, oinv_start⟩
  case round =>
    clear Hst
    obtain ⟨k, c, mp, all, hk, rfl, rfl, hst, hinv⟩ := hrel
    have hpos := hinv.pos
    have hfew := hinv.few
    obtain ⟨g, cap, rfl, hrow⟩ := owns_pos hst.own hpos
    have lg := (hst.own.lt g rfl).2
    by_cases hlt : k < vars.length
    · obtain ⟨bv, ov, rfl, lbv⟩ := Hv.out.addr hlt
      obtain ⟨bl, ol, rfl, lbl⟩ := Hl.out.addr (k := k) (by omega)
      obtain ⟨bh, oh, rfl, lbh⟩ := Hh.out.addr (k := k) (by omega)
      have c1 := (Hv.out.below hst.below).get hlt
      have c2 := (Hl.out.below hst.below).get (k := k) (by omega)
      have c3 := (Hh.out.below hst.below).get (k := k) (by omega)
      obtain ⟨x1, hx1⟩ : ∃ x, x = vars[k] := ⟨_, rfl⟩
      obtain ⟨x2, hx2⟩ : ∃ x, x = lows[k]'(by omega) := ⟨_, rfl⟩
      obtain ⟨x3, hx3⟩ : ∃ x, x = highs[k]'(by omega) := ⟨_, rfl⟩
      rw [← hx1] at c1
      rw [← hx2] at c2
      rw [← hx3] at c3
      clear hx1 hx2 hx3
      have p1 := fun w' => pick_any x1 24 w' (by omega) (by omega)
      have p2 := fun w' => pick_any x2 all.length w' hpos (by omega)
      have p3 := fun w' => pick_any x3 all.length w' hpos (by omega)
      have l1 := pickN_lt x1 (n := 24) (by omega)
      have l2 := pickN_lt x2 hpos
      have l3 := pickN_lt x3 hpos
      obtain ⟨q1, hq1⟩ : ∃ q, q = pickN x1 24 := ⟨_, rfl⟩
      obtain ⟨q2, hq2⟩ : ∃ q, q = pickN x2 all.length := ⟨_, rfl⟩
      obtain ⟨q3, hq3⟩ : ∃ q, q = pickN x3 all.length := ⟨_, rfl⟩
      rw [← hq1] at p1 l1
      rw [← hq2] at p2 l2
      rw [← hq3] at p3 l3
      clear hq1 hq2 hq3
      have c4 := hrow l2
      have c5 := hrow l3
      have hy1 := hinv.has _ (List.getElem_mem l2)
      have hy2 := hinv.has _ (List.getElem_mem l3)
      obtain ⟨y1, hy⟩ : ∃ y, y = all[q2] := ⟨_, rfl⟩
      obtain ⟨y2, hy'⟩ : ∃ y, y = all[q3] := ⟨_, rfl⟩
      rw [← hy] at c4 hy1
      rw [← hy'] at c5 hy2
      clear hy hy' hrow
      have lm : y1 ≤ 9223372036854775807 := by have := hasM_le hy1; rw [hinv.len] at this; omega
      have lm2 : y2 ≤ 9223372036854775807 := by have := hasM_le hy2; rw [hinv.len] at this; omega
      have i1 : (q2 : Int) < (all.length : Int) := by omega
      have i2 : (q3 : Int) < (all.length : Int) := by omega
      have i3 : (k : Int) < (vars.length : Int) := by omega
      have i4 : (k : Int) < (lows.length : Int) := by omega
      have i5 : (k : Int) < (highs.length : Int) := by omega
      have P1 := Lib.hid p1; have P2 := Lib.hid p2; have P3 := Lib.hid p3
      have Hst := Lib.hid hst; have Hinv := Lib.hid hinv
      clear p1 p2 p3 hst hinv
      go_upto_region 11 with fail
      go_cut [14] from 66 to 137 (fun s14 wx => ∃ gx : Nat, s14 = .pointer (some ⟨gx, 0, none⟩) ∧ wr.heap.size ≤ gx ∧ gx < wx.heap.size ∧ Below wr.heap.size wr wx ∧ wx.cell? ⟨gx, 0, none⟩ = some (.int .i64 q1) ∧ wx.cell? ⟨gx, 1, none⟩ = some (.int .i64 y1) ∧ wx.cell? ⟨gx, 2, none⟩ = some (.int .i64 y2))
      case first =>
        go_region_held3 (fun w' => w'.cell? ⟨bv, ov + k, none⟩ = some (.int .i64 x1) ∧ w'.cell? ⟨bl, ol + k, none⟩ = some (.int .i64 x2) ∧ w'.cell? ⟨bh, oh + k, none⟩ = some (.int .i64 x3) ∧ w'.cell? ⟨g, q2, none⟩ = some (.int .i64 y1) ∧ w'.cell? ⟨g, q3, none⟩ = some (.int .i64 y2))
          (first | exact ⟨c1, c2, c3, c4, c5⟩ | go_keep)
          (first | (go_at_call_of 13 (Value.int IntKind.i64 x1); refine (P1.out _).mono ?_; rintro e w9 ⟨rfl, rfl⟩) | (go_at_call_of 13 (Value.int IntKind.i64 x2); refine (P2.out _).mono ?_; rintro e w9 ⟨rfl, rfl⟩) | (go_at_call_of 13 (Value.int IntKind.i64 x3); refine (P3.out _).mono ?_; rintro e w9 ⟨rfl, rfl⟩))
        all_goals (go_wp2_with fail; go_meet)
        all_goals exact ⟨_, rfl, Nat.le_refl _, by simp, ((Below.refl _ _).alloc (Nat.le_refl _) _).drew, by simp, by simp, by simp⟩
      case rest =>
        obtain ⟨gx, rfl, hgx1, hgx2, hbx, d0, d1, d2⟩ := hcut
        have hst2 := Hst.out.grow hbx
        have hmk := make_any ((q1 : Int), y1, y2) wc b c hst2.ar lm lm2
        have Hst2 := Lib.hid hst2; have Hbx := Lib.hid hbx; have Hmk := Lib.hid hmk
        clear hst2 hbx hmk c1 c2 c3 c4 c5 lbv lbl lbh
        unfold encNd at Hmk
        dsimp only at Hmk
        by_cases her : (mkM c ((q1 : Int), y1, y2)).2.2 = 0
        · have hinv2 := Hinv.out.make her
          have Her := Lib.hid her; have Her0 := Lib.hid her; have Hinv2 := Lib.hid hinv2; clear her hinv2
          have hgt := mkM_get (by exact Her0.out : (mkM c ((q1 : Int), y1, y2)).2.2 = 0)
          have hlen2 := Hinv2.out.1.len
          have hhd := Hinv2.out.1.has (mkM c ((q1 : Int), y1, y2)).2.1 (by simp)
          have hdl := hasM_le hhd
          obtain ⟨hd, hhd2⟩ : ∃ x, x = (mkM c ((q1 : Int), y1, y2)).2.1 := ⟨_, rfl⟩
          obtain ⟨c2, hc2⟩ : ∃ x, x = (mkM c ((q1 : Int), y1, y2)).1 := ⟨_, rfl⟩
          rw [← hhd2, ← hc2] at hgt
          rw [← hhd2, ← hc2] at hdl
          rw [← hc2] at hlen2
          rw [hlen2] at hdl
          have hdm : hd ≤ 9223372036854775807 := by omega
          have hinv3 := Hinv2.out
          rw [← hhd2, ← hc2] at hinv3
          obtain ⟨hinv4, has⟩ := hinv3
          have Hinv4 := Lib.hid hinv4; have Hhd2 := Lib.hid hhd2; have Hc2 := Lib.hid hc2; have Hgt := Lib.hid hgt
          clear hinv4 hhd2 hc2 hgt hlen2 hhd hdl Hinv2
          go_wp2_with fail
          refine Hmk.out.mono ?_
          rintro e w3 ⟨rfl, ha3, ho3⟩
          rw [Her.out, ← Hhd2.out]
          rw [← Hc2.out] at ha3
          simp only [errV, if_true]
          have hst3 := Hst2.out.arena ho3 ha3
          have hgxn : ¬ b.mem gx := fun hk => by have h5 := (Hst.out.new _ hk).2; have h6 := Hst.out.map.lt; omega
          have e0 := (ho3.cell (p := ⟨gx, 0, none⟩) hgx2 hgxn).trans d0
          have e1 := (ho3.cell (p := ⟨gx, 1, none⟩) hgx2 hgxn).trans d1
          have e2 := (ho3.cell (p := ⟨gx, 2, none⟩) hgx2 hgxn).trans d2
          have hgx3 : gx < w3.heap.size := Nat.lt_of_lt_of_le hgx2 ho3.size
          have hge := get_below hd w3 b c2 ha3 hdm
          rw [Hgt.out] at hge
          have Hge := Lib.hid hge; have Hst3 := Lib.hid hst3
          clear hge hst3 ha3 ho3 d0 d1 d2 hgxn
          rcases has with has | has
          · have Has := Lib.hid has; clear has
            go_wp2_with (at_lookup; refine wpList_lookup_of rfl (.tmp 107) (.tmp 108) 29 true rfl (kt := 32) (et := 3) (enc := encNd) nodeKey Try.underlying29 (zeroIntR _) (b := w2.heap.size) rfl (l := mp) Hst3.out.map (k := ((q1 : Int), y1, y2)) rfl ?_; rw [Has.out]; simp only [if_true, Option.getD_none, Option.isSome_none])
            refine Hge.out.mono ?_
            rintro e w4 ⟨rfl, hb4⟩
            simp only [gotV, encNd, Option.getD_some, Option.isSome_some]
            have ob0 := ob_box (w3 := w3) (w4 := w4) hb4 hgx3 e0
            have ob1 := ob_box (w3 := w3) (w4 := w4) hb4 hgx3 e1
            have ob2 := ob_box (w3 := w3) (w4 := w4) hb4 hgx3 e2
            have hgx4 : gx < w4.heap.size := Nat.lt_of_lt_of_le hgx3 hb4.size
            have hst4 := (Hst3.out.grow hb4).grow (w2 := w4.alloc (.cells #[.int .i64 (q1 : Int), .int .i64 y1, .int .i64 y2] 32)) ((Below.refl _ _).alloc (Nat.le_refl _) _)
            have Hst4 := Lib.hid hst4
            have hsm : sameNd ((q1 : Int), y1, y2) ((q1 : Int), y1, y2) = true := by simp [sameNd]
            clear hb4 hst4 e0 e1 e2
            go_wp2_with (first | (at_mapUpdate; refine wpList_mapUpdate_of rfl (.tmp 131) (.tmp 132) (.tmp 133) 29 rfl (kt := 32) (et := 3) (enc := encNd) nodeKey Try.underlying29 (b := w2.heap.size) rfl (l := mp) Hst4.out.map (k := ((q1 : Int), y1, y2)) rfl (.int .i64 hd) rfl ?_; intro ob hob; have hst5 := Hst4.out.put ob hob; clear hob; generalize setObjW _ _ ob = w6 at hst5 ⊢; have hw6 : w2.heap.size + 1 ≤ w6.heap.size := hst5.map.lt; have hown6 := hst5.own.alloc (.cells #[.int .i64 hd] 3); have Hst5 := Lib.hid hst5; have Hown6 := Lib.hid hown6; clear hst5 hown6) | (at_builtin; refine wpList_append_own _ rfl (.tmp 134) (.tmp 136) 22 rfl (w2.heap.size + 1) 3 i0 (.int .i64 0) 1 8 Try.underlying22 hi hz0 hz1 hz2 rfl (by decide) _ _ _ rfl Hown6.out ⟨w6.heap.size, 0, none⟩ 1 1 [.int .i64 hd] rfl rfl (cell_one_new _ _ _) (ints_oneCell _ [hd]) (by simp only [maxLen]; omega) (by omega) (by simp; omega) ?_; intro v' w7 hown7 hgrow7 _; have Hown7 := Lib.hid hown7; have Hgrow7 := Lib.hid hgrow7; clear hown7 hgrow7))
            go_roundg (vars.length - (k + 1))
            case measure => omega
            case rel => exact ⟨k + 1, c2, _, all ++ [hd], by omega, rfl, by go_num, Hst5.out.push Hown7.out Hgrow7.out, Hinv4.out⟩
          · have Has := Lib.hid has; clear has
            go_wp2_with (at_lookup; refine wpList_lookup_of rfl (.tmp 107) (.tmp 108) 29 true rfl (kt := 32) (et := 3) (enc := encNd) nodeKey Try.underlying29 (zeroIntR _) (b := w2.heap.size) rfl (l := mp) Hst3.out.map (k := ((q1 : Int), y1, y2)) rfl ?_; rw [Has.out]; simp only [if_true, Option.getD_some, Option.isSome_some])
            refine Hge.out.mono ?_
            rintro e w4 ⟨rfl, hb4⟩
            simp only [gotV, encNd, Option.getD_some, Option.isSome_some]
            have ob0 := ob_box (w3 := w3) (w4 := w4) hb4 hgx3 e0
            have ob1 := ob_box (w3 := w3) (w4 := w4) hb4 hgx3 e1
            have ob2 := ob_box (w3 := w3) (w4 := w4) hb4 hgx3 e2
            have hgx4 : gx < w4.heap.size := Nat.lt_of_lt_of_le hgx3 hb4.size
            have hst4 := (Hst3.out.grow hb4).grow (w2 := w4.alloc (.cells #[.int .i64 (q1 : Int), .int .i64 y1, .int .i64 y2] 32)) ((Below.refl _ _).alloc (Nat.le_refl _) _)
            have Hst4 := Lib.hid hst4
            have hsm : sameNd ((q1 : Int), y1, y2) ((q1 : Int), y1, y2) = true := by simp [sameNd]
            clear hb4 hst4 e0 e1 e2
            go_wp2_with (first | (at_mapUpdate; refine wpList_mapUpdate_of rfl (.tmp 131) (.tmp 132) (.tmp 133) 29 rfl (kt := 32) (et := 3) (enc := encNd) nodeKey Try.underlying29 (b := w2.heap.size) rfl (l := mp) Hst4.out.map (k := ((q1 : Int), y1, y2)) rfl (.int .i64 hd) rfl ?_; intro ob hob; have hst5 := Hst4.out.put ob hob; clear hob; generalize setObjW _ _ ob = w6 at hst5 ⊢; have hw6 : w2.heap.size + 1 ≤ w6.heap.size := hst5.map.lt; have hown6 := hst5.own.alloc (.cells #[.int .i64 hd] 3); have Hst5 := Lib.hid hst5; have Hown6 := Lib.hid hown6; clear hst5 hown6) | (at_builtin; refine wpList_append_own _ rfl (.tmp 134) (.tmp 136) 22 rfl (w2.heap.size + 1) 3 i0 (.int .i64 0) 1 8 Try.underlying22 hi hz0 hz1 hz2 rfl (by decide) _ _ _ rfl Hown6.out ⟨w6.heap.size, 0, none⟩ 1 1 [.int .i64 hd] rfl rfl (cell_one_new _ _ _) (ints_oneCell _ [hd]) (by simp only [maxLen]; omega) (by omega) (by simp; omega) ?_; intro v' w7 hown7 hgrow7 _; have Hown7 := Lib.hid hown7; have Hgrow7 := Lib.hid hgrow7; clear hown7 hgrow7))
            go_roundg (vars.length - (k + 1))
            case measure => omega
            case rel => exact ⟨k + 1, c2, _, all ++ [hd], by omega, rfl, by go_num, Hst5.out.push Hown7.out Hgrow7.out, Hinv4.out⟩
        · have hinv2 := Hinv.out.skip her
          have hev : ∃ m : Int, errV (mkM c ((q1 : Int), y1, y2)).2.2 = .iface 84 (.int .i64 m) := ⟨_, by unfold errV; rw [if_neg her]⟩
          obtain ⟨em, hem⟩ := hev
          have Her := Lib.hid her; have Hinv2 := Lib.hid hinv2; have Hem := Lib.hid hem; clear her hinv2 hem
          go_wp2_with fail
          refine Hmk.out.mono ?_
          rintro e w3 ⟨rfl, ha3, ho3⟩
          rw [Hem.out]
          have Ha3 := Lib.hid ha3; have Ho3 := Lib.hid ho3; clear ha3 ho3
          go_wp2_with fail
          go_roundg (vars.length - (k + 1))
          case measure => omega
          case rel => exact ⟨k + 1, _, mp, all, by omega, rfl, by go_num, Hst2.out.arena Ho3.out Ha3.out, Hinv2.out⟩
    · obtain rfl : k = vars.length := by omega
      have p4 := fun w' => pick_any keep all.length w' hpos (by omega)
      have l4 := pickN_lt keep hpos
      obtain ⟨q4, hq4⟩ : ∃ q, q = pickN keep all.length := ⟨_, rfl⟩
      rw [← hq4] at p4 l4
      clear hq4
      have c4 := hrow l4
      have hy := hinv.has _ (List.getElem_mem l4)
      obtain ⟨top, htop⟩ : ∃ y, y = all[q4] := ⟨_, rfl⟩
      rw [← htop] at c4 hy
      clear htop hrow
      have lm : top ≤ 9223372036854775807 := by have := hasM_le hy; rw [hinv.len] at this; omega
      have i1 : (q4 : Int) < (all.length : Int) := by omega
      have hmany := hinv.many
      have hlenA := len_any wr b c hst.ar
      have hts : IsInts (wr.alloc (.cells #[.int .i64 top] 3)) (.slice (some ⟨wr.heap.size, 0, none⟩) 1 1) [top] := isInts_row [top] (heap_at rfl) rfl rfl (Nat.le_refl _) (by decide) (by simp)
      have hst2 := hst.grow (w2 := wr.alloc (.cells #[.int .i64 top] 3)) ((Below.refl _ _).alloc (Nat.le_refl _) _)
      have hre := reach_any _ [top] _ b c hst2.ar hinv.ok hts (by simp) (by simpa using lm)
      have P4 := Lib.hid p4; have Hst := Lib.hid hst; have Hst2 := Lib.hid hst2; have Hinv := Lib.hid hinv; have Hmany := Lib.hid hmany; have HlenA := Lib.hid hlenA; have Hre := Lib.hid hre; have Hy := Lib.hid hy
      clear p4 hst hst2 hinv hmany hlenA hts hre hy
      go_wp2_with (first
        | (go_at_call 16; refine HlenA.out.mono ?_; rintro e w9 ⟨rfl, rfl⟩)
        | (at_len; refine wpList_len_of rfl (.tmp 140) 29 rfl (kt := 32) (et := 3) (enc := encNd) Try.underlying29 (b := w2.heap.size) rfl (l := mp) Hst.out.map ?_; rw [Hmany.out])
        | (go_at_call 13; refine (P4.out _).mono ?_; rintro e w9 ⟨rfl, rfl⟩))
      refine Hre.out.mono ?_
      rintro e w5 ⟨⟨vl, rfl, hvl, hvn⟩, hb5⟩
      obtain ⟨L, hL⟩ : ∃ L, L = reachM c [top] := ⟨_, rfl⟩
      rw [← hL] at hvl
      obtain ⟨a5, c5, rfl, hl5, hc5, hx5⟩ := hvl.shape
      have hst5 := Hst2.out.grow hb5
      have hvmb : ∀ g, (Value.slice a5 L.length c5).ownBlock = some g → w2.heap.size < g := fun g hg => Nat.lt_of_lt_of_le Hst2.out.map.lt (hvn g hg)
      have Hvmb := Lib.hid hvmb; clear hvmb
      have hLl : L.length ≤ 100 := by rw [hL]; have := reachM_len_le c [top]; rw [Hinv.out.len] at this; exact this
      have hm5 : MapOf (w5.alloc (.map #[] 0)) w5.heap.size (Value.int .i64) [] := mapOf_new w5 _
      have Hst5 := Lib.hid hst5; have Hvl := Lib.hid hvl; have HL := Lib.hid hL; have Hm5 := Lib.hid hm5
      clear hst5 hvl hL hm5 hvn hb5 Hst Hst2 HlenA Hre P4
      go_wp2_with fail
      have hst6 := Hst5.out.grow (w2 := w5.alloc (.map #[] 0)) ((Below.refl _ _).alloc (Nat.le_refl _) _)
      have hvl6 := Hvl.out.below (w' := w5.alloc (.map #[] 0)) ((Below.refl _ _).alloc (Nat.le_refl _) _)
      have hm6 := Hm5.out
      have hsz6 : (w5.alloc (.map #[] 0)).heap.size = w5.heap.size + 1 := by simp
      have hb2w : w2.heap.size < w5.heap.size := Hst5.out.map.lt
      have hnb : ∀ k, b.mem k → k < w5.heap.size := fun k hk => Nat.lt_trans (Hst5.out.new k hk).2 hb2w
      obtain ⟨m2, hm2⟩ : ∃ m2, m2 = w5.heap.size := ⟨_, rfl⟩
      have hgv : ∀ g, (Value.slice a5 L.length c5).ownBlock = some g → L ≠ [] → g < m2 := fun g hg hne => by
        obtain ⟨g', h1, h2⟩ := ints_own Hvl.out hne
        rw [h1] at hg
        cases hg
        rw [hm2]; exact h2
      rw [← hm2] at hm6 hsz6 hb2w hnb ⊢
      generalize w5.alloc (.map #[] 0) = wa at hst6 hvl6 hm6 hsz6 ⊢
      have Hst6 := Lib.hid hst6; have Hvl6 := Lib.hid hvl6; have Hm6 := Lib.hid hm6; have Hsz6 := Lib.hid hsz6; have Hnb := Lib.hid hnb; have Hgv := Lib.hid hgv; have Hm2 := Lib.hid hm2
      clear hst6 hvl6 hm6 hsz6 hnb hgv hm2 Hst5 Hvl Hm5
      go_loopg [24] L.length (fun gk i wr => ∃ (j : Nat) (mq : List (Int × Value)), j ≤ L.length ∧ gk = L.length - j ∧ i = .int .i64 j ∧ Below m2 wa wr ∧ MapOf wr m2 (Value.int .i64) mq ∧ BInv c L j mq)
      case atStart => exact ⟨0, [], Nat.zero_le _, rfl, rfl, Below.refl _ _, Hm6.out, binv_start c L⟩
      case round =>
        obtain ⟨j, mq, hj, rfl, rfl, hbw, hmq, hbi⟩ := hrel
        have hst7 := Hst6.out
        by_cases hlt : j < L.length
        · obtain ⟨bq, oq, rfl, lbq⟩ := Hvl6.out.addr hlt
          have hbq : bq < m2 := Hgv.out bq rfl (by intro e; rw [e] at hlt; simp at hlt)
          have cq0 := Hvl6.out.get hlt
          have cq : wr.cell? ⟨bq, oq + j, none⟩ = some (.int .i64 L[j]) := by rw [hbw.cell hbq]; exact cq0
          obtain ⟨k', hk', hr'⟩ := mem_reachM.1 (show L[j] ∈ reachM c [top] by rw [← HL.out]; exact List.getElem_mem hlt)
          obtain ⟨⟨na, nl, nh⟩, hn⟩ := hr'.used
          have hgm : getM c L[j] = some (na, nl, nh) := by rw [hk', getM_node]; exact hn
          have hxl : L[j] ≤ 9223372036854775807 := by have := at_lt hn; rw [Hinv.out.len] at this; omega
          have hbi2 := hbi.next hlt hgm
          obtain ⟨x, hx⟩ : ∃ x, x = L[j] := ⟨_, rfl⟩
          rw [← hx] at cq hgm hxl hbi2
          have har : IsArena wr b c := Hst6.out.ar.only (S := fun k => m2 ≤ k) ⟨hbw.os, hbw.tape, hbw.output, hbw.size, fun k _ hn => hbw.block k (by omega)⟩ (fun k hk e => by have := Hnb.out k hk; omega)
          have hge := get_below x wr.drew b c (har.below (Below.refl _ _).drew) hxl
          rw [hgm] at hge
          have i1 : (j : Int) < (L.length : Int) := by omega
          have Hge := Lib.hid hge; have Hbw := Lib.hid hbw; have Hmq := Lib.hid hmq; have Hbi2 := Lib.hid hbi2; have Hhx := Lib.hid hx
          have lm2 : m2 < wr.heap.size := hmq.lt
          have lbq2 : bq < wr.heap.size := by omega
          clear hge hbw hmq hbi hbi2 hx hgm har cq0 hk' hr' hn hst7
          go_wp2_with fail
          go_region_held3 (fun w' => w'.cell? ⟨bq, oq + j, none⟩ = some (.int .i64 x))
            (first | exact cq | exact (hb9.cell lbq2).trans cq | exact ((setObjW_only w9 m2 ob).cell (p := ⟨bq, oq + j, none⟩) (Nat.lt_of_lt_of_le lbq2 hb9.size) (Nat.ne_of_lt hbq)).trans ((hb9.cell lbq2).trans cq))
            (first | (go_at_call 15; refine Hge.out.mono ?_; rintro e w9 ⟨rfl, hb9⟩; simp only [gotV, encNd, Option.getD_some, Option.isSome_some]; obtain ⟨ob, hrun, hob⟩ := (Hmq.out.block_eq (w' := w9) (hb9.block m2 lm2)).update (P := Try.prog) (kt := 3) (et := 32) (t := 40) (intKey Try.underlying3) Try.underlying40 x (.agg #[.int .i64 na, .int .i64 nl, .int .i64 nh])))
          have hb10 : Below m2 wa (setObjW w9 m2 ob) := (Hbw.out.drew.trans ((hb9.mono (by show m2 ≤ wr.heap.size; omega)))).trans ((setObjW_only w9 m2 ob).below (by have := hb9.size; show m2 ≤ w9.heap.size; have h6 : wr.drew.heap.size = wr.heap.size := rfl; omega) (fun k hk => by rw [hk]; exact Nat.le_refl _))
          have Hb10 := Lib.hid hb10; have Hob := Lib.hid hob; clear hb10 hob hb9 hrun
          go_wp2_with fail
          go_roundg (L.length - (j + 1))
          case measure => omega
          case rel => exact ⟨j + 1, _, by omega, rfl, by go_num, Hb10.out, Hob.out, Hbi2.out⟩
        · obtain rfl : j = L.length := by omega
          obtain ⟨wb, hwb⟩ : ∃ wb : World, wb = wr := ⟨_, rfl⟩
          rw [← hwb] at hbw hmq ⊢
          clear hwb
          have hS : Only (fun k => m2 ≤ k) wa wb := ⟨hbw.os, hbw.tape, hbw.output, hbw.size, fun k _ hn => hbw.block k (by omega)⟩
          have har : IsArena wb b c := Hst6.out.ar.only hS (fun k hk e => by have := Hnb.out k hk; omega)
          have hmp : MapOf wb w2.heap.size encNd mp := Hst6.out.map.block_eq (hbw.block _ hb2w)
          have hvl8 : IsInts wb (.slice a5 L.length c5) L := Hvl6.out.same2 (fun hne g hg _ => hbw.block g (Hgv.out g hg hne)) hbw.size
          have hbl8 : Below w.heap.size w wb := hst7.below.trans (hbw.mono (by have := hst7.low; omega))
          have hst8 : S8 w wb b w2.heap.size m2 c mp mq (.slice a5 L.length c5) L := ⟨hbl8, har, hmp, hmq, hvl8, fun k hk => ⟨(hst7.new k hk).1, (hst7.new k hk).2⟩, hst7.low, hb2w, Hvmb.out, fun hne g hg => Hgv.out g hg hne⟩
          have Hst8 := Lib.hid hst8; have Hbi := Lib.hid hbi
          clear hS har hmp hvl8 hbl8 hst8 hbw hmq hbi hst7 Hst6 Hvl6 Hm6 Hsz6 Hnb Hgv Hm2 Hvmb hb2w
          have hok2 := sweepM_ok Hinv.out.ok [top]
          have Hok3 := Lib.hid hok2
          have hts : IsInts (wb.alloc (.cells #[.int .i64 top] 3)) (.slice (some ⟨wb.heap.size, 0, none⟩) 1 1) [top] := isInts_row [top] (heap_at rfl) rfl rfl (Nat.le_refl _) (by decide) (by simp)
          have hst9 := Hst8.out.grow (w2 := wb.alloc (.cells #[.int .i64 top] 3)) ((Below.refl _ _).alloc (Nat.le_refl _) _)
          have hsw := sweep_any _ [top] _ b c hst9.ar Hinv.out.ok hts (by simp) (by simpa using lm)
          rw [← HL.out] at hsw
          have hcn : cnt c ≤ 100 := by have := cnt_le c; rw [Hinv.out.len] at this; exact this
          have Hsw := Lib.hid hsw; have Hst9 := Lib.hid hst9; have Hok2 := Lib.hid hok2
          clear hsw hts hst9 hok2
          go_wp2_with fail
          refine Hsw.out.mono ?_
          rintro e w10 ⟨rfl, ha10, ho10⟩
          have hst10 := Hst9.out.arena ho10 ha10
          have hla := len_any w10 b _ ha10
          rw [cnt_sweepM, ← HL.out] at hla
          have hst11 := hst10.grow (w2 := w10.alloc (.cells #[.int .i64 top] 3)) ((Below.refl _ _).alloc (Nat.le_refl _) _)
          have hts : IsInts (w10.alloc (.cells #[.int .i64 top] 3)) (.slice (some ⟨w10.heap.size, 0, none⟩) 1 1) [top] := isInts_row [top] (heap_at rfl) rfl rfl (Nat.le_refl _) (by decide) (by simp)
          have hre := reach_any _ [top] _ b _ hst11.ar Hok2.out hts (by simp) (by simpa using lm)
          rw [reachM_again, ← HL.out] at hre
          have Hst10 := Lib.hid hst10; have Hla := Lib.hid hla; have Hst11 := Lib.hid hst11; have Hre := Lib.hid hre
          clear hst10 hla hst11 hts hre ha10 ho10 Hst8 Hst9 Hsw
          go_wp2_with (first
            | (at_len; refine wpList_len_of rfl (.tmp 179) 29 rfl (kt := 32) (et := 3) (enc := encNd) Try.underlying29 (b := w2.heap.size) rfl (l := mp) Hst10.out.map ?_; rw [Hmany.out])
            | (go_at_call 16; refine Hla.out.mono ?_; rintro e w9 ⟨rfl, rfl⟩))
          refine Hre.out.mono ?_
          rintro e w12 ⟨⟨v12, rfl, hv12, -⟩, hb12⟩
          have hst12 := Hst11.out.grow hb12
          have hsi := sameInts_any _ _ L L w12 hv12 hst12.ints
          have Hst12 := Lib.hid hst12; have Hsi := Lib.hid hsi
          clear hst12 hsi hv12 hb12 Hst11 Hre Hla Hst10
          go_wp2_with fail
          refine Hsi.out.mono ?_
          rintro e w13 ⟨rfl, hb13⟩
          have hLL : (L == L) = true := by simp
          have hst13 := Hst12.out.grow hb13
          have Hst13 := Lib.hid hst13
          clear hst13 hb13 Hst12 Hsi
          rw [hLL]
          clear hLL
          go_wp2_with (at_range; refine wpList_range_of rfl (.tmp 201) 29 rfl (kt := 32) (et := 3) Try.underlying29 (b := w2.heap.size) (enc := encNd) (l := mp) rfl Hst13.out.map ?_; intro w14 hit14 hb14 hsz14; have Hit14 := Lib.hid hit14; have Hb14 := Lib.hid hb14; have Hsz14 := Lib.hid hsz14; clear hit14 hb14 hsz14)
          go_frame
          have hst14 := Hst13.out.grow Hb14.out
          have hm14 : m2 < w13.heap.size := Hst13.out.map2.lt
          have hnd := (Hit14.out.map).nodup
          have Hst14 := Lib.hid hst14; have Hnd := Lib.hid hnd
          clear hst14 hnd Hst13 Hb14 Hsz14
          go_loopg [203] mp.length (fun gk _ wr => ∃ left : List (Nd × Value), gk = left.length ∧ S8 w wr b w2.heap.size m2 (sweepM c [top]) mp mq (.slice a5 L.length c5) L ∧ IterOf wr w13.heap.size w2.heap.size encNd mp left)
          case atStart => exact ⟨mp, rfl, Hst14.out, Hit14.out⟩
          case round =>
            clear Hst14 Hit14
            obtain ⟨left, rfl, hst, hit⟩ := hrel
            have Hst := Lib.hid hst; have Hit := Lib.hid hit; clear hst hit
            go_wp2_with (at_next; refine wpList_next_of rfl (.tmp 202) rfl (r := w13.heap.size) (b := w2.heap.size) (enc := encNd) (m := mp) (left := left) rfl Hit.out ?_ ?_)
            · intro h0
              clear h0 Hit
              obtain ⟨wd, hwd⟩ : ∃ wd : World, wd = wr := ⟨_, rfl⟩
              rw [← hwd] at Hst ⊢
              clear hwd
              go_wp2_with fail
              go_loopg [29] L.length (fun gk i wr => ∃ j : Nat, j ≤ L.length ∧ gk = L.length - j ∧ i = .int .i64 j ∧ S8 w wr b w2.heap.size m2 (sweepM c [top]) mp mq (.slice a5 L.length c5) L)
              case atStart => exact ⟨0, Nat.zero_le _, rfl, rfl, Hst.out⟩
              case round =>
                clear Hst
                obtain ⟨j, hj, rfl, rfl, hst⟩ := hrel
                by_cases hlt : j < L.length
                · obtain ⟨bq, oq, rfl, lbq⟩ := hst.ints.addr hlt
                  have cq := hst.ints.get hlt
                  obtain ⟨k', hk', hr'⟩ := mem_reachM.1 (show L[j] ∈ reachM c [top] by rw [← HL.out]; exact List.getElem_mem hlt)
                  obtain ⟨⟨na, nl, nh⟩, hn⟩ := hr'.used
                  have hgm : getM c L[j] = some (na, nl, nh) := by rw [hk', getM_node]; exact hn
                  have hn2 : (sweepM c [top]).at k' = some (na, nl, nh) := sweepM_some.2 ⟨hr', hn⟩
                  have hmk := mkM_there Hok3.out hn2
                  rw [← hk'] at hmk
                  have hq : assoc mq L[j] = some (encNd (na, nl, nh)) := by rw [Hbi.out, List.take_length, if_pos (List.getElem_mem hlt), hgm]; rfl
                  have hxl : L[j] ≤ 9223372036854775807 := by have := at_lt hn; rw [Hinv.out.len] at this; omega
                  have hlo := hasM_le (Hinv.out.ok.low k' _ hn).1
                  have hhi := hasM_le (Hinv.out.ok.high k' _ hn).1
                  rw [Hinv.out.len] at hlo hhi
                  dsimp only at hlo hhi
                  have hst2 := hst.grow (w2 := wr.alloc (.cells #[.int .i64 na, .int .i64 nl, .int .i64 nh] 32)) ((Below.refl _ _).alloc (Nat.le_refl _) _)
                  have hma := make_any (na, nl, nh) _ b _ hst2.ar (by dsimp only; omega) (by dsimp only; omega)
                  unfold MkPost encNd at hma
                  rw [hmk] at hma
                  dsimp only at hma
                  obtain ⟨x, hx⟩ : ∃ x, x = L[j] := ⟨_, rfl⟩
                  rw [← hx] at cq hq hma
                  have i1 : (j : Int) < (L.length : Int) := by omega
                  have Hst := Lib.hid hst; have Hst2 := Lib.hid hst2; have Hma := Lib.hid hma; have Hq := Lib.hid hq; have Hx := Lib.hid hx
                  clear hst hst2 hma hq hx hmk hn2 hgm hk' hr' hn hlo hhi
                  go_wp2_with (at_lookup; refine wpList_lookup_of rfl (.tmp 233) (.tmp 237) 40 false rfl (kt := 3) (et := 32) (enc := Value.int .i64) (intKey Try.underlying3) Try.underlying40 (zeroNodeR _) (b := m2) rfl (l := mq) Hst.out.map2 (k := x) rfl ?_; rw [Hq.out]; simp only [if_false, Bool.false_eq_true, encNd, Option.getD_some])
                  refine Hma.out.mono ?_
                  rintro e w18 ⟨rfl, ha18, ho18⟩
                  have hst18 := Hst2.out.arena ho18 ha18
                  have cq18 := hst18.ints.get hlt
                  rw [← Hx.out] at cq18
                  have Hst18 := Lib.hid hst18
                  clear hst18 ha18 ho18 Hst Hst2 Hma
                  simp only [errV, if_true]
                  go_wp2_with fail
                  go_roundg (L.length - (j + 1))
                  case measure => omega
                  case rel => exact ⟨j + 1, by omega, rfl, by go_num, Hst18.out⟩
                · have Hst := Lib.hid hst; clear hst
                  go_wp2_with fail
                  go_ret
                  exact ⟨rfl, Hst.out.below⟩
            · intro i na nl nh pv w15 hp hpm hit15 ho15 hsz15 hen
              obtain ⟨jj, hat, hpv⟩ := Hinv.out.entry Hnd.out hpm
              dsimp only at hat hpv hen
              subst hpv
              simp only [encNd] at hen
              have hll : (left.eraseIdx i).length + 1 = left.length := by
                obtain ⟨hi, _⟩ := List.getElem?_eq_some_iff.1 hp
                rw [List.length_eraseIdx, if_pos hi]; omega
              have hst15 := Hst.out.iter ho15 hm14
              have hjl : jj < 100 := by have := at_lt hat; rw [Hinv.out.len] at this; exact this
              have Hll := Lib.hid hll; have Hst15 := Lib.hid hst15; have Hit15 := Lib.hid hit15; have Hat := Lib.hid hat
              clear hll hst15 hit15 hat hp hpm ho15 hsz15 Hst Hit
              simp only [encNd]
              have hst16 := Hst15.out.grow (w2 := w15.alloc (.cells #[.int .i64 na, .int .i64 nl, .int .i64 nh] 32)) ((Below.refl _ _).alloc (Nat.le_refl _) _)
              have hsm : sameNd (na, nl, nh) (na, nl, nh) = true := by simp [sameNd]
              have hus := sweep_used c [top] jj
              rw [← HL.out] at hus
              have hgm : getM c ((jj : Int) + 2) = some (na, nl, nh) := by rw [getM_node]; exact Hat.out
              have hhs0 : hasM (sweepM c [top]) ((jj : Int) + 2) = ((sweepM c [top]).at jj).isSome := by
                unfold hasM; rw [getM_node, show (((jj : Int) + 2) == 0) = false by simp; omega, show (((jj : Int) + 2) == 1) = false by simp; omega]; rfl
              have hhs := hhs0.trans hus
              have hq0 := Hbi.out ((jj : Int) + 2)
              rw [List.take_length, hgm] at hq0
              clear hhs0 hgm Hat
              by_cases hin : ((jj : Int) + 2) ∈ L
              · have hq : assoc mq ((jj : Int) + 2) = some (encNd (na, nl, nh)) := by rw [hq0, if_pos hin]; rfl
                rw [List.contains_iff_mem.2 hin] at hhs
                clear hq0
                have hst17 := hst16.grow (w2 := (w15.alloc (.cells #[.int .i64 na, .int .i64 nl, .int .i64 nh] 32)).alloc (.cells #[.int .i64 na, .int .i64 nl, .int .i64 nh] 32)) ((Below.refl _ _).alloc (Nat.le_refl _) _)
                have hit17 := Hit15.out.below (w' := (w15.alloc (.cells #[.int .i64 na, .int .i64 nl, .int .i64 nh] 32)).alloc (.cells #[.int .i64 na, .int .i64 nl, .int .i64 nh] 32)) (((Below.refl _ _).alloc (Nat.le_refl _) _).alloc (by simp) _)
                have hha := has_any ((jj : Int) + 2) _ b _ hst17.ar (by omega)
                rw [hhs] at hha
                have Hst16 := Lib.hid hst16; have Hst17 := Lib.hid hst17; have Hit17 := Lib.hid hit17; have Hha := Lib.hid hha; have Hq := Lib.hid hq
                clear hst16 hst17 hit17 hha hq hhs hin hus Hit15
                go_wp2_with (first
                  | (at_lookup; refine wpList_lookup_of rfl (.tmp 209) (.tmp 210) 40 true rfl (kt := 3) (et := 32) (enc := Value.int .i64) (intKey Try.underlying3) Try.underlying40 (zeroNodeR _) (b := m2) rfl (l := mq) Hst16.out.map2 (k := (jj : Int) + 2) rfl ?_; rw [Hq.out]; simp only [if_true, encNd, Option.getD_some, Option.isSome_some])
                  | (go_at_call 20; refine Hha.out.mono ?_; rintro e w9 ⟨rfl, rfl⟩))
                go_roundg (left.eraseIdx i).length
                case measure => have := Hll.out; omega
                case rel => exact ⟨_, rfl, Hst17.out, Hit17.out⟩
              · have hq : assoc mq ((jj : Int) + 2) = none := by rw [hq0, if_neg hin]
                rw [show L.contains ((jj : Int) + 2) = false by simpa using hin] at hhs
                clear hq0
                have hst17 := hst16.grow (w2 := (w15.alloc (.cells #[.int .i64 na, .int .i64 nl, .int .i64 nh] 32)).alloc (.cells #[.int .i64 0, .int .i64 0, .int .i64 0] 32)) ((Below.refl _ _).alloc (Nat.le_refl _) _)
                have hit17 := Hit15.out.below (w' := (w15.alloc (.cells #[.int .i64 na, .int .i64 nl, .int .i64 nh] 32)).alloc (.cells #[.int .i64 0, .int .i64 0, .int .i64 0] 32)) (((Below.refl _ _).alloc (Nat.le_refl _) _).alloc (by simp) _)
                have hha := has_any ((jj : Int) + 2) _ b _ hst17.ar (by omega)
                rw [hhs] at hha
                have Hst16 := Lib.hid hst16; have Hst17 := Lib.hid hst17; have Hit17 := Lib.hid hit17; have Hha := Lib.hid hha; have Hq := Lib.hid hq
                clear hst16 hst17 hit17 hha hq hhs hin hus Hit15
                go_wp2_with (first
                  | (at_lookup; refine wpList_lookup_of rfl (.tmp 209) (.tmp 210) 40 true rfl (kt := 3) (et := 32) (enc := Value.int .i64) (intKey Try.underlying3) Try.underlying40 (zeroNodeR _) (b := m2) rfl (l := mq) Hst16.out.map2 (k := (jj : Int) + 2) rfl ?_; rw [Hq.out]; simp only [if_true, Option.getD_none, Option.isSome_none])
                  | (go_at_call 20; refine Hha.out.mono ?_; rintro e w9 ⟨rfl, rfl⟩))
                go_roundg (left.eraseIdx i).length
                case measure => have := Hll.out; omega
                case rel => exact ⟨_, rfl, Hst17.out, Hit17.out⟩
end Go.Proofs.Ytmlnfbageoabnaa
