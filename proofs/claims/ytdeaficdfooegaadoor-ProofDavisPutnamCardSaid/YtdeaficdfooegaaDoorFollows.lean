/- Contracts: proof.follows. -/
import Derived.Test.YtdeaficdfooegaaDoorIMap
import Derived.Test.YtdeaficdfooegaaDoorCheck
namespace Go.Proofs.YtdeaficdfooegaaDoor
open Go.RowKit
set_option linter.unusedVariables false

set_option maxHeartbeats 400000 in
theorem follows1_any (x m : Int) (b : Nat) (w : World) (h0 : 0 ≤ m) (h1 : m ≤ 24) (hc : w.cell? ⟨b, 0, none⟩ = some (.int .i64 m)) :
    Calls Tryd.prog 120 #[.int .i64 x, .pointer (some ⟨b, 0, none⟩)] w fun e w' => e = .returned (.bool (badLit m x)) ∧ w = w' := by
  by_cases hx0 : x = 0
  · subst hx0
    go_enter Tryd.func120, Tryd.ntmps120
    go_wp2
    go_ret
    exact ⟨by simp [badLit], rfl⟩
  · have hx0' : (x == 0) = false := by simp [hx0]
    by_cases h2 : m < x
    · go_enter Tryd.func120, Tryd.ntmps120
      go_wp2
      go_ret
      exact ⟨by simp [badLit, h2], rfl⟩
    · go_enter Tryd.func120, Tryd.ntmps120
      go_wp2
      go_ret
      exact ⟨by simp [badLit, hx0]; omega, rfl⟩

/-- What proof.follows says. -/
def FollowsPost (m : Int) (all : List (List Int)) (c : List Int) (w : World) (e : Ending) (w' : World) : Prop :=
  (∃ r : Bool, e = .returned (.bool r) ∧ (r = true → c.any (badLit m) = false ∧ ∀ v, allB v all = true → clB v c = true) ∧
    (r = false → c.any (badLit m) = true ∨ ∃ f, Tri f ∧ (∀ x ∈ c, lv f x = -1) ∧ ∀ d ∈ all, Stuck f d)) ∧ Below w.heap.size w w'

theorem good_lit {m x : Int} {c : List Int} (h : c.any (badLit m) = false) (hx : x ∈ c) : x ≠ 0 ∧ -m ≤ x ∧ x ≤ m := by
  have h1 : badLit m x = false := by
    cases h2 : badLit m x
    · rfl
    · have := List.any_eq_true.2 ⟨x, hx, h2⟩; rw [h] at this; cases this
  simp [badLit] at h1
  omega

/-- The negated literal comes to a map that denies the literals ahead. -/
theorem Denied.step {f : Int → Int} {c : List Int} {k : Nat} (h : Denied f c k) (hk : k < c.length) (hx : c[k] ≠ 0) (hne : lv f c[k] ≠ 1) : Denied (upd f (vr c[k]) (if c[k] < 0 then 1 else -1)) c (k + 1) := by
  have e : upd f (vr c[k]) (if c[k] < 0 then 1 else -1) = upd f (vr (-c[k])) (sgn (-c[k])) := by
    have e1 : vr (-c[k]) = vr c[k] := by unfold vr; omega
    have e2 : sgn (-c[k]) = if c[k] < 0 then 1 else -1 := by unfold sgn; split <;> split <;> omega
    rw [e1, e2]
  refine ⟨by rw [e]; exact h.tri.upd _, fun x hx2 => ?_, fun v hv => ?_⟩
  · rw [e]
    rcases (mem_take_succ hk).1 hx2 with h1 | rfl
    · by_cases h0 : x = 0
      · subst h0
        have := h.all 0 h1
        have e3 : lv f 0 = f 0 := by unfold lv vr; simp
        have e4 : lv (upd f (vr (-c[k])) (sgn (-c[k]))) 0 = f 0 := by
          unfold lv upd vr
          have e5 : max (-c[k]) (- -c[k]) ≠ 0 := by omega
          rw [if_neg (by decide), if_neg (by simpa using e5)]
          rfl
        omega
      · rw [lv_upd (by omega) h0]
        have h2 := h.all x h1
        split
        · rename_i e3
          rw [e3, lv_neg hx] at h2
          omega
        · split
          · rfl
          · exact h2
    · rw [lv_upd (by omega) hx]
      split
      · omega
      · split
        · rfl
        · omega
  · by_cases e3 : vr c[k] = v
    · exact ⟨c[k], (mem_take_succ hk).2 (.inr rfl), e3⟩
    · unfold upd at hv
      rw [if_neg e3] at hv
      obtain ⟨x, hx2, h1⟩ := h.only v hv
      exact ⟨x, (mem_take_succ hk).2 (.inl hx2), h1⟩

/-- A literal whose other side stands ahead: the clause holds of whatever values. -/
theorem Denied.taut {f : Int → Int} {c : List Int} {k : Nat} (h : Denied f c k) (hk : k < c.length) (hx : c[k] ≠ 0) (h1 : lv f c[k] = 1) (v : Nat) : clB v c = true := by
  have h2 : f (vr c[k]) ≠ 0 := fun e => by rw [lv_zero.2 e] at h1; omega
  obtain ⟨y, hy, h3⟩ := h.only _ h2
  have h4 := h.all y hy
  have h5 : y = -c[k] := by
    have : y = c[k] ∨ y = -c[k] := by unfold vr at h3; omega
    rcases this with rfl | e
    · omega
    · exact e
  subst h5
  unfold clB
  rw [List.any_eq_true]
  cases hl : litB v c[k]
  · exact ⟨-c[k], List.mem_of_mem_take hy, by rw [litB_neg hx, hl]; rfl⟩
  · exact ⟨c[k], List.getElem_mem hk, hl⟩

/-- What holds of the map while it grows: it denies the clause, and agrees with whatever values of which all hold and the clause doesn't. -/
structure Inv (all : List (List Int)) (c : List Int) (f : Int → Int) : Prop where
  tri : Tri f
  deny : ∀ x ∈ c, lv f x = -1
  agrees : ∀ v, allB v all = true → clB v c = false → Agrees f v

theorem Denied.inv {f : Int → Int} {c : List Int} (h : Denied f c c.length) (hc : NoZero c) (all : List (List Int)) : Inv all c f := by
  refine ⟨h.tri, fun x hx => h.all x (by simpa using hx), fun v _ hv x hx h1 => ?_⟩
  have h2 : f (vr x) ≠ 0 := fun e => by rw [lv_zero.2 e] at h1; omega
  obtain ⟨y, hy, h3⟩ := h.only _ h2
  have h4 := h.all y hy
  have hy' : y ∈ c := by simpa using hy
  have h5 : y = -x := by
    have : y = x ∨ y = -x := by unfold vr at h3; omega
    rcases this with rfl | e
    · omega
    · exact e
  have h6 : litB v y = false := by
    cases hl : litB v y
    · rfl
    · have := List.any_eq_true.2 ⟨y, hy', hl⟩; unfold clB at hv; rw [hv] at this; cases this
  rw [h5, litB_neg hx] at h6
  simpa using h6
theorem Inv.conflict {all : List (List Int)} {c d : List Int} {f : Int → Int} (h : Inv all c f) (hd : d ∈ all) (hz : NoZero d) (h1 : ∀ x ∈ d, lv f x = -1) (v : Nat) (hv : allB v all = true) : clB v c = true := by
  cases hc : clB v c
  · have ha := h.agrees v hv hc
    have h2 : clB v d = true := List.all_eq_true.1 hv d hd
    obtain ⟨x, hx, h3⟩ := List.any_eq_true.1 h2
    rw [ha.false (hz x hx) (h1 x hx)] at h3
    cases h3
  · rfl
theorem Inv.step {all : List (List Int)} {c d : List Int} {f : Int → Int} (h : Inv all c f) (hd : d ∈ all) (hz : NoZero d) (hcz : NoZero c) {x : Int} (hx : x ∈ d) (h0 : lv f x = 0) (h1 : ∀ y ∈ d, y ≠ x → lv f y = -1) :
    Inv all c (upd f (vr x) (sgn x)) := by
  have hx0 := hz x hx
  refine ⟨h.tri.upd x, fun y hy => ?_, fun v hv hc => (h.agrees v hv hc).upd hx0 ?_⟩
  · have h2 := h.deny y hy
    rw [lv_upd hx0 (hcz y hy)]
    split
    · rename_i e; subst e; omega
    · split
      · rfl
      · exact h2
  · have ha := h.agrees v hv hc
    have h2 : clB v d = true := List.all_eq_true.1 hv d hd
    obtain ⟨y, hy, h3⟩ := List.any_eq_true.1 h2
    by_cases e : y = x
    · subst e; exact h3
    · rw [ha.false (hz y hy) (h1 y hy e)] at h3
      cases h3

theorem any_good {m : Int} {all : List (List Int)} (h : ∀ d ∈ all, d.any (badLit m) = false) {d : List Int} (hd : d ∈ all) : NoZero d := fun x hx => (good_lit (h d hd) hx).1

set_option maxRecDepth 100000 in
set_option maxHeartbeats 2000000 in
theorem follows_any (m : Int) (va vc : Value) (all : List (List Int)) (c : List Int) (w : World) (h0 : 0 ≤ m) (h1 : m ≤ 24) (hall : IsRows w va all) (hc : IsInts w vc c)
    (hgood : ∀ d ∈ all, d.any (badLit m) = false) :
    Calls Tryd.prog 103 #[.int .i64 m, va, vc] w (FollowsPost m all c w) := by
  obtain ⟨aa, ca, rfl, hal, ham, halen⟩ := hall.shape
  obtain ⟨ac, cc, rfl, hcl, hcm, hclen⟩ := hc.shape
  have hc1 := fun (w1 : World) (h1' : IsInts w1 (.slice ac c.length cc) c) (h2' : w1.cell? ⟨w.heap.size, 0, none⟩ = some (.int .i64 m)) =>
    containsFunc_any 120 (.pointer (some ⟨w.heap.size, 0, none⟩)) (badLit m) _ c w1 h1' (by intro a w; go_simp)
    (fun x hx => follows1_any x m _ w1 (by omega) (by omega) h2')
  have Hc1 := Lib.hid hc1; clear hc1
  have Ha := Lib.hid hall; clear hall
  have Hc := Lib.hid hc; clear hc
  have Hg := Lib.hid hgood; clear hgood
  have hbox : Below w.heap.size w (w.alloc (.cells #[.int .i64 m] 3)) := (Below.refl _ _).alloc (Nat.le_refl _) _
  have Hbox := Lib.hid hbox; clear hbox
  cases hbad : c.any (badLit m)
  · have Hbad := Lib.hid hbad; clear hbad
    have hmm := @run_makeMap Tryd.prog
    go_enter Tryd.func103, Tryd.ntmps103
    go_wp2_with (go_at_call 55; refine (Hc1.out _ (Hc.out.below Hbox.out) (by simp [go_sem])).mono ?_; rw [Hbad.out]; rintro e w' ⟨rfl, rfl⟩)
    clear Hc1
    go_loopg [28] c.length (fun gk i wr => Below w.heap.size w wr ∧ w.heap.size + 1 < wr.heap.size ∧ ∃ (k : Nat) (f : Int → Int), k ≤ c.length ∧ gk = c.length - k ∧ i = .int .i64 k ∧ OfMap wr (w.heap.size + 1) f ∧ Denied f c k)
    case atStart =>
      exact ⟨Hbox.out.alloc (by simp) _, by simp, 0, _, Nat.zero_le _, rfl, rfl, (by have := ofMap_new (w.alloc (.cells #[.int .i64 m] 3)); simpa using this), ⟨fun _ => by simp, by simp, by simp⟩⟩
    case round =>
      obtain ⟨hbw, hsz, k, f, hk, rfl, rfl, hof, hden⟩ := hrel
      have Hb := Lib.hid hbw; clear hbw
      have Hof := Lib.hid hof; clear hof
      have Hden := Lib.hid hden; clear hden
      by_cases hlt : k < c.length
      · obtain ⟨b, o, rfl, hblk⟩ := Hc.out.addr hlt
        have hcell := (Hc.out.below Hb.out).get hlt
        obtain ⟨hx0, hx1, hx2⟩ := good_lit Hbad.out (List.getElem_mem hlt)
        generalize hx : c[k] = x at hcell hx0 hx1 hx2
        have Hx := Lib.hid hx; clear hx
        by_cases hneg : x < 0
        · go_wp2_with (first
            | (at_lookup; refine wpList_look rfl _ _ 179 rfl 3 3 Tryd.underlying3 Tryd.underlying179 (by kernel_rfl) _ rfl f Hof.out _ rfl ?_; intro n hn; have Hn := Lib.hid hn; clear hn)
            | (at_mapUpdate; refine wpList_upd rfl _ _ _ 179 rfl 3 3 Tryd.underlying3 Tryd.underlying179 _ rfl f Hof.out _ _ rfl rfl ?_; intro w2 hof2 hb2 hsz2; have Hof2 := Lib.hid hof2; clear hof2; have Hb2 := Lib.hid hb2; clear hb2; have Hsz2 := Lib.hid hsz2; clear hsz2))
          · have hn : (n == -1) = true := by assumption
            have hn2 : n = -1 := by simpa using hn
            go_ret
            refine ⟨⟨_, rfl, fun _ => ⟨Hbad.out, fun v _ => Hden.out.taut hlt (by rw [Hx.out]; exact hx0) ?_ v⟩, fun h => (by cases h)⟩, Hb.out⟩
            rw [Hx.out, lv, if_pos hneg, vr_neg hneg, ← Hn.out, hn2]; rfl
          · have hn : (n == -1) = false := by assumption
            have hn2 : n ≠ -1 := by simpa using hn
            go_roundg (c.length - (k + 1))
            case measure => omega
            case rel =>
              refine ⟨Hb.out.trans (Hb2.out.mono (by omega)), by have := Hsz2.out; omega, k + 1, _, by omega, rfl, by go_num, Hof2.out, ?_⟩
              have h3 := Hden.out.step hlt (by rw [Hx.out]; exact hx0) (by rw [Hx.out, lv, if_pos hneg, vr_neg hneg, ← Hn.out]; omega)
              rw [Hx.out, if_pos hneg, vr_neg hneg] at h3
              exact h3
        · go_wp2_with (first
            | (at_lookup; refine wpList_look rfl _ _ 179 rfl 3 3 Tryd.underlying3 Tryd.underlying179 (by kernel_rfl) _ rfl f Hof.out _ rfl ?_; intro n hn; have Hn := Lib.hid hn; clear hn)
            | (at_mapUpdate; refine wpList_upd rfl _ _ _ 179 rfl 3 3 Tryd.underlying3 Tryd.underlying179 _ rfl f Hof.out _ _ rfl rfl ?_; intro w2 hof2 hb2 hsz2; have Hof2 := Lib.hid hof2; clear hof2; have Hb2 := Lib.hid hb2; clear hb2; have Hsz2 := Lib.hid hsz2; clear hsz2))
          · have hn : (n == 1) = true := by assumption
            have hn2 : n = 1 := by simpa using hn
            go_ret
            refine ⟨⟨_, rfl, fun _ => ⟨Hbad.out, fun v _ => Hden.out.taut hlt (by rw [Hx.out]; exact hx0) ?_ v⟩, fun h => (by cases h)⟩, Hb.out⟩
            rw [Hx.out, lv, if_neg (show ¬ x < 0 by omega), vr_pos (by omega), ← Hn.out, hn2]
          · have hn : (n == 1) = false := by assumption
            have hn2 : n ≠ 1 := by simpa using hn
            go_roundg (c.length - (k + 1))
            case measure => omega
            case rel =>
              refine ⟨Hb.out.trans (Hb2.out.mono (by omega)), by have := Hsz2.out; omega, k + 1, _, by omega, rfl, by go_num, Hof2.out, ?_⟩
              have h3 := Hden.out.step hlt (by rw [Hx.out]; exact hx0) (by rw [Hx.out, lv, if_neg (show ¬ x < 0 by omega), vr_pos (by omega), ← Hn.out]; omega)
              rw [Hx.out, if_neg (show ¬ x < 0 by omega), vr_pos (by omega)] at h3
              exact h3
      · obtain rfl : k = c.length := by omega
        have hinv : Inv all c f := Hden.out.inv (fun x hx => (good_lit Hbad.out hx).1) all
        have Hinv := Lib.hid hinv; clear hinv
        clear Hden hlt hk
        go_wp2_with fail
        go_loopg [12] (unset f + 1) (fun gk ag wq => Below w.heap.size w wq ∧ w.heap.size + 1 < wq.heap.size ∧ ∃ (again : Bool) (f : Int → Int), ag = .bool again ∧ OfMap wq (w.heap.size + 1) f ∧ Inv all c f ∧ (again = true → gk = unset f + 1) ∧ (again = false → gk = 0 ∧ ∀ d ∈ all, Stuck f d))
        case atStart => exact ⟨Hb.out, hsz, true, f, rfl, Hof.out, Hinv.out, fun _ => rfl, fun h => by cases h⟩
        case round =>
          clear Hof Hinv f Hb hsz
          obtain ⟨hbw, hsz, again, f, rfl, hof, hinv, ht, hf⟩ := hrel
          have Hb := Lib.hid hbw; clear hbw
          have Hof := Lib.hid hof; clear hof
          have Hinv := Lib.hid hinv; clear hinv
          cases again
          · have Hf := Lib.hid (hf rfl); clear hf ht
            go_wp2
            go_ret
            exact ⟨⟨_, rfl, fun h => (by cases h), fun _ => .inr ⟨f, Hinv.out.tri, Hinv.out.deny, Hf.out.2⟩⟩, Hb.out⟩
          · have Ht := Lib.hid (ht rfl); clear hf ht
            go_wp2_with fail
            go_loopg [12, 51] all.length (fun gk ag i wi => Below w.heap.size w wi ∧ w.heap.size + 1 < wi.heap.size ∧ ∃ (k : Nat) (again : Bool) (f' : Int → Int), k ≤ all.length ∧ gk = all.length - k ∧ i = .int .i64 k ∧ ag = .bool again ∧ OfMap wi (w.heap.size + 1) f' ∧ Inv all c f' ∧
              (again = true → unset f' < unset f) ∧ (again = false → unset f' ≤ unset f ∧ ∀ d ∈ all.take k, Stuck f' d))
            case atStart => exact ⟨Hb.out, hsz, 0, false, f, Nat.zero_le _, rfl, rfl, rfl, Hof.out, Hinv.out, fun h => (by cases h), fun _ => ⟨Nat.le_refl _, by simp⟩⟩
            case round =>
              clear Hof Hinv Hb hsz
              obtain ⟨hbw, hsz, k, again, g, hk, rfl, rfl, rfl, hof, hinv, ht, hf⟩ := hrel
              have Hb := Lib.hid hbw; clear hbw
              have Hof := Lib.hid hof; clear hof
              have Hinv := Lib.hid hinv; clear hinv
              have Ht2 := Lib.hid ht; clear ht
              have Hf2 := Lib.hid hf; clear hf
              by_cases hlt : k < all.length
              · obtain ⟨b, o, rfl, hblk⟩ := Ha.out.addr hlt
                obtain ⟨a2, n2, c2, hcell, hr⟩ := (Ha.out.below Hb.out).get hlt
                have hd : all[k] ∈ all := List.getElem_mem hlt
                generalize hdd : all[k] = d at hr hd
                have Hdd := Lib.hid hdd; clear hdd
                obtain rfl := hr.len
                have hdlen : d.length ≤ 17592186044416 := by obtain ⟨_, _, _, _, _, h⟩ := hr.shape; exact h
                have Hr := Lib.hid hr; clear hr
                go_wp2_with fail
                go_loopg [15, 16, 17, 57] d.length (fun gk l h sv i ws => wr = ws ∧ ∃ (j : Nat) (left : Int) (holds several : Bool), j ≤ d.length ∧ gk = d.length - j ∧ l = .int .i64 left ∧ h = .bool holds ∧ sv = .bool several ∧ i = .int .i64 j ∧
                  Scan g d j left holds several ∧ -24 ≤ left ∧ left ≤ 24)
                case atStart => exact ⟨rfl, 0, 0, false, false, Nat.zero_le _, rfl, rfl, rfl, rfl, rfl, scan_start _ _, by decide, by decide⟩
                case round =>
                  obtain ⟨rfl, j, left, holds, several, hj, rfl, rfl, rfl, rfl, rfl, hscan, hl1, hl2⟩ := hrel
                  have HS := Lib.hid hscan; clear hscan
                  by_cases hlt2 : j < d.length
                  · obtain ⟨b3, o3, rfl, hblk3⟩ := Hr.out.addr hlt2
                    have hcell3 := Hr.out.get hlt2
                    obtain ⟨hx0, hx1, hx2⟩ := good_lit (Hg.out d hd) (List.getElem_mem hlt2)
                    generalize hx3 : d[j] = x at hcell3 hx0 hx1 hx2
                    have Hx3 := Lib.hid hx3; clear hx3
                    have htri := Hinv.out.tri.lv x
                    have hlvc : lv g x = 1 ∨ lv g x = -1 ∨ lv g x = 0 := by omega
                    clear htri
                    by_cases hneg : x < 0
                    · have hvr := vr_neg hneg
                      rcases hlvc with hlv | hlv | hlv
                      · have hgv : g (-x) = -1 := by rw [← hvr]; have := hlv; rw [lv, if_pos hneg] at this; omega
                        have Hgv := Lib.hid hgv; clear hgv
                        have Hlv := Lib.hid hlv; clear hlv
                        clear hvr
                        go_wp2_with (at_lookup; refine wpList_look rfl _ _ 179 rfl 3 3 Tryd.underlying3 Tryd.underlying179 (by kernel_rfl) _ rfl g Hof.out _ rfl ?_; intro n hn; obtain rfl : n = (-1) := hn.trans Hgv.out; clear hn)
                        go_roundg (d.length - (j + 1))
                        case measure => omega
                        case rel => exact ⟨rfl, j + 1, left, true, several, by omega, rfl, rfl, rfl, rfl, by go_num, HS.out.step1 hlt2 (by rw [Hx3.out]; exact Hlv.out), hl1, hl2⟩
                      · have hgv : g (-x) = 1 := by rw [← hvr]; have := hlv; rw [lv, if_pos hneg] at this; omega
                        have Hgv := Lib.hid hgv; clear hgv
                        have Hlv := Lib.hid hlv; clear hlv
                        clear hvr
                        go_wp2_with (at_lookup; refine wpList_look rfl _ _ 179 rfl 3 3 Tryd.underlying3 Tryd.underlying179 (by kernel_rfl) _ rfl g Hof.out _ rfl ?_; intro n hn; obtain rfl : n = 1 := hn.trans Hgv.out; clear hn)
                        go_roundg (d.length - (j + 1))
                        case measure => omega
                        case rel => exact ⟨rfl, j + 1, left, holds, several, by omega, rfl, rfl, rfl, rfl, by go_num, HS.out.stepm hlt2 (by rw [Hx3.out]; exact Hlv.out), hl1, hl2⟩
                      · cases several
                        · by_cases hl0 : left = 0
                          · subst hl0
                            have hgv : g (-x) = 0 := by rw [← hvr]; have := hlv; rw [lv, if_pos hneg] at this; omega
                            have Hgv := Lib.hid hgv; clear hgv
                            have Hlv := Lib.hid hlv; clear hlv
                            clear hvr
                            go_wp2_with (at_lookup; refine wpList_look rfl _ _ 179 rfl 3 3 Tryd.underlying3 Tryd.underlying179 (by kernel_rfl) _ rfl g Hof.out _ rfl ?_; intro n hn; obtain rfl : n = 0 := hn.trans Hgv.out; clear hn)
                            go_roundg (d.length - (j + 1))
                            case measure => omega
                            case rel => exact ⟨rfl, j + 1, x, holds, false, by omega, rfl, rfl, rfl, rfl, by go_num, by have := HS.out.step0 hlt2 (by rw [Hx3.out]; exact hx0) (by rw [Hx3.out]; exact Hlv.out) false (by rw [Hx3.out]; simp); rw [Hx3.out] at this; exact this, by omega, by omega⟩
                          · have hl0' : (left != 0) = true := by simpa using hl0
                            by_cases hlx : left = x
                            · subst hlx
                              have hlx' : (left != left) = false := by simp
                              have hgv : g (-left) = 0 := by rw [← hvr]; have := hlv; rw [lv, if_pos hneg] at this; omega
                              have Hgv := Lib.hid hgv; clear hgv
                              have Hlv := Lib.hid hlv; clear hlv
                              clear hvr
                              go_wp2_with (at_lookup; refine wpList_look rfl _ _ 179 rfl 3 3 Tryd.underlying3 Tryd.underlying179 (by kernel_rfl) _ rfl g Hof.out _ rfl ?_; intro n hn; obtain rfl : n = 0 := hn.trans Hgv.out; clear hn)
                              go_roundg (d.length - (j + 1))
                              case measure => omega
                              case rel => exact ⟨rfl, j + 1, left, holds, false, by omega, rfl, rfl, rfl, rfl, by go_num, by have := HS.out.step0 hlt2 (by rw [Hx3.out]; exact hx0) (by rw [Hx3.out]; exact Hlv.out) false (by rw [Hx3.out]; simp); rw [Hx3.out] at this; exact this, by omega, by omega⟩
                            · have hlx' : (left != x) = true := by simpa using hlx
                              have Hl0 := Lib.hid hl0; have Hlx := Lib.hid hlx; clear hl0 hlx
                              have hgv : g (-x) = 0 := by rw [← hvr]; have := hlv; rw [lv, if_pos hneg] at this; omega
                              have Hgv := Lib.hid hgv; clear hgv
                              have Hlv := Lib.hid hlv; clear hlv
                              clear hvr
                              go_wp2_with (at_lookup; refine wpList_look rfl _ _ 179 rfl 3 3 Tryd.underlying3 Tryd.underlying179 (by kernel_rfl) _ rfl g Hof.out _ rfl ?_; intro n hn; obtain rfl : n = 0 := hn.trans Hgv.out; clear hn)
                              go_roundg (d.length - (j + 1))
                              case measure => omega
                              case rel => exact ⟨rfl, j + 1, x, holds, true, by omega, rfl, rfl, rfl, rfl, by go_num, by have := HS.out.step0 hlt2 (by rw [Hx3.out]; exact hx0) (by rw [Hx3.out]; exact Hlv.out) true (by rw [Hx3.out]; simp [Hl0.out, Hlx.out]); rw [Hx3.out] at this; exact this, by omega, by omega⟩
                        · have hgv : g (-x) = 0 := by rw [← hvr]; have := hlv; rw [lv, if_pos hneg] at this; omega
                          have Hgv := Lib.hid hgv; clear hgv
                          have Hlv := Lib.hid hlv; clear hlv
                          clear hvr
                          go_wp2_with (at_lookup; refine wpList_look rfl _ _ 179 rfl 3 3 Tryd.underlying3 Tryd.underlying179 (by kernel_rfl) _ rfl g Hof.out _ rfl ?_; intro n hn; obtain rfl : n = 0 := hn.trans Hgv.out; clear hn)
                          go_roundg (d.length - (j + 1))
                          case measure => omega
                          case rel => exact ⟨rfl, j + 1, x, holds, true, by omega, rfl, rfl, rfl, rfl, by go_num, by have := HS.out.step0 hlt2 (by rw [Hx3.out]; exact hx0) (by rw [Hx3.out]; exact Hlv.out) true (by rw [Hx3.out]; simp); rw [Hx3.out] at this; exact this, by omega, by omega⟩
                    · have hvr := vr_pos (x := x) (by omega)
                      rcases hlvc with hlv | hlv | hlv
                      · have hgv : g (x) = 1 := by rw [← hvr]; have := hlv; rw [lv, if_neg hneg] at this; omega
                        have Hgv := Lib.hid hgv; clear hgv
                        have Hlv := Lib.hid hlv; clear hlv
                        clear hvr
                        go_wp2_with (at_lookup; refine wpList_look rfl _ _ 179 rfl 3 3 Tryd.underlying3 Tryd.underlying179 (by kernel_rfl) _ rfl g Hof.out _ rfl ?_; intro n hn; obtain rfl : n = 1 := hn.trans Hgv.out; clear hn)
                        go_roundg (d.length - (j + 1))
                        case measure => omega
                        case rel => exact ⟨rfl, j + 1, left, true, several, by omega, rfl, rfl, rfl, rfl, by go_num, HS.out.step1 hlt2 (by rw [Hx3.out]; exact Hlv.out), hl1, hl2⟩
                      · have hgv : g (x) = -1 := by rw [← hvr]; have := hlv; rw [lv, if_neg hneg] at this; omega
                        have Hgv := Lib.hid hgv; clear hgv
                        have Hlv := Lib.hid hlv; clear hlv
                        clear hvr
                        go_wp2_with (at_lookup; refine wpList_look rfl _ _ 179 rfl 3 3 Tryd.underlying3 Tryd.underlying179 (by kernel_rfl) _ rfl g Hof.out _ rfl ?_; intro n hn; obtain rfl : n = (-1) := hn.trans Hgv.out; clear hn)
                        go_roundg (d.length - (j + 1))
                        case measure => omega
                        case rel => exact ⟨rfl, j + 1, left, holds, several, by omega, rfl, rfl, rfl, rfl, by go_num, HS.out.stepm hlt2 (by rw [Hx3.out]; exact Hlv.out), hl1, hl2⟩
                      · cases several
                        · by_cases hl0 : left = 0
                          · subst hl0
                            have hgv : g (x) = 0 := by rw [← hvr]; have := hlv; rw [lv, if_neg hneg] at this; omega
                            have Hgv := Lib.hid hgv; clear hgv
                            have Hlv := Lib.hid hlv; clear hlv
                            clear hvr
                            go_wp2_with (at_lookup; refine wpList_look rfl _ _ 179 rfl 3 3 Tryd.underlying3 Tryd.underlying179 (by kernel_rfl) _ rfl g Hof.out _ rfl ?_; intro n hn; obtain rfl : n = 0 := hn.trans Hgv.out; clear hn)
                            go_roundg (d.length - (j + 1))
                            case measure => omega
                            case rel => exact ⟨rfl, j + 1, x, holds, false, by omega, rfl, rfl, rfl, rfl, by go_num, by have := HS.out.step0 hlt2 (by rw [Hx3.out]; exact hx0) (by rw [Hx3.out]; exact Hlv.out) false (by rw [Hx3.out]; simp); rw [Hx3.out] at this; exact this, by omega, by omega⟩
                          · have hl0' : (left != 0) = true := by simpa using hl0
                            by_cases hlx : left = x
                            · subst hlx
                              have hlx' : (left != left) = false := by simp
                              have hgv : g (left) = 0 := by rw [← hvr]; have := hlv; rw [lv, if_neg hneg] at this; omega
                              have Hgv := Lib.hid hgv; clear hgv
                              have Hlv := Lib.hid hlv; clear hlv
                              clear hvr
                              go_wp2_with (at_lookup; refine wpList_look rfl _ _ 179 rfl 3 3 Tryd.underlying3 Tryd.underlying179 (by kernel_rfl) _ rfl g Hof.out _ rfl ?_; intro n hn; obtain rfl : n = 0 := hn.trans Hgv.out; clear hn)
                              go_roundg (d.length - (j + 1))
                              case measure => omega
                              case rel => exact ⟨rfl, j + 1, left, holds, false, by omega, rfl, rfl, rfl, rfl, by go_num, by have := HS.out.step0 hlt2 (by rw [Hx3.out]; exact hx0) (by rw [Hx3.out]; exact Hlv.out) false (by rw [Hx3.out]; simp); rw [Hx3.out] at this; exact this, by omega, by omega⟩
                            · have hlx' : (left != x) = true := by simpa using hlx
                              have Hl0 := Lib.hid hl0; have Hlx := Lib.hid hlx; clear hl0 hlx
                              have hgv : g (x) = 0 := by rw [← hvr]; have := hlv; rw [lv, if_neg hneg] at this; omega
                              have Hgv := Lib.hid hgv; clear hgv
                              have Hlv := Lib.hid hlv; clear hlv
                              clear hvr
                              go_wp2_with (at_lookup; refine wpList_look rfl _ _ 179 rfl 3 3 Tryd.underlying3 Tryd.underlying179 (by kernel_rfl) _ rfl g Hof.out _ rfl ?_; intro n hn; obtain rfl : n = 0 := hn.trans Hgv.out; clear hn)
                              go_roundg (d.length - (j + 1))
                              case measure => omega
                              case rel => exact ⟨rfl, j + 1, x, holds, true, by omega, rfl, rfl, rfl, rfl, by go_num, by have := HS.out.step0 hlt2 (by rw [Hx3.out]; exact hx0) (by rw [Hx3.out]; exact Hlv.out) true (by rw [Hx3.out]; simp [Hl0.out, Hlx.out]); rw [Hx3.out] at this; exact this, by omega, by omega⟩
                        · have hgv : g (x) = 0 := by rw [← hvr]; have := hlv; rw [lv, if_neg hneg] at this; omega
                          have Hgv := Lib.hid hgv; clear hgv
                          have Hlv := Lib.hid hlv; clear hlv
                          clear hvr
                          go_wp2_with (at_lookup; refine wpList_look rfl _ _ 179 rfl 3 3 Tryd.underlying3 Tryd.underlying179 (by kernel_rfl) _ rfl g Hof.out _ rfl ?_; intro n hn; obtain rfl : n = 0 := hn.trans Hgv.out; clear hn)
                          go_roundg (d.length - (j + 1))
                          case measure => omega
                          case rel => exact ⟨rfl, j + 1, x, holds, true, by omega, rfl, rfl, rfl, rfl, by go_num, by have := HS.out.step0 hlt2 (by rw [Hx3.out]; exact hx0) (by rw [Hx3.out]; exact Hlv.out) true (by rw [Hx3.out]; simp); rw [Hx3.out] at this; exact this, by omega, by omega⟩
                  · obtain rfl : j = d.length := by omega
                    by_cases hst : holds = true ∨ several = true
                    · have hstuck := HS.out.stuck hst
                      have Hstuck := Lib.hid hstuck; clear hstuck
                      have hsw : (holds || several) = true := by simpa using hst
                      clear hst
                      cases holds
                      all_goals cases several
                      · cases hsw
                      all_goals
                        go_wp2_with fail
                        go_roundg (all.length - (k + 1))
                        case measure => omega
                        case rel => exact ⟨Hb.out, hsz, k + 1, again, g, by omega, rfl, by go_num, rfl, Hof.out, Hinv.out, Ht2.out, fun h => ⟨(Hf2.out h).1, fun y hy => ((mem_take_succ hlt).1 hy).elim ((Hf2.out h).2 y) (fun e => by rw [e, Hdd.out]; exact Hstuck.out)⟩⟩
                    · cases holds
                      case true => exact absurd (.inl rfl) hst
                      cases several
                      case true => exact absurd (.inr rfl) hst
                      clear hst
                      by_cases hl0 : left = 0
                      · subst hl0
                        have hcf := HS.out.conflict Hinv.out.tri
                        have Hcf := Lib.hid hcf; clear hcf
                        go_wp2_with fail
                        go_ret
                        exact ⟨⟨_, rfl, fun _ => ⟨Hbad.out, fun v hv => Hinv.out.conflict hd (any_good Hg.out hd) Hcf.out v hv⟩, fun h => (by cases h)⟩, Hb.out⟩
                      · obtain ⟨hu1, hu2, hu3⟩ := HS.out.unit hl0 Hinv.out.tri
                        obtain ⟨hx0, hx1, hx2⟩ := good_lit (Hg.out d hd) hu1
                        have hinv2 := Hinv.out.step hd (any_good Hg.out hd) (fun y hy => (good_lit Hbad.out hy).1) hu1 hu2 hu3
                        have hcnt := unset_lt (f := g) (x := left) (by unfold vr; omega) (by unfold vr; omega) (lv_zero.1 hu2)
                        have Hcnt := Lib.hid hcnt; have Hinv2 := Lib.hid hinv2; clear hcnt hinv2 hu1 hu2 hu3
                        have hl0' : (left == 0) = false := by simpa using hl0
                        clear hl0
                        have hfin : unset (upd g (vr left) (sgn left)) < unset f := by
                          have h1 := Hcnt.out
                          cases again
                          · have := (Hf2.out rfl).1; omega
                          · have := Ht2.out rfl; omega
                        have Hfin := Lib.hid hfin; clear hfin
                        by_cases hneg : left < 0
                        · go_wp2_with (at_mapUpdate; refine wpList_upd rfl _ _ _ 179 rfl 3 3 Tryd.underlying3 Tryd.underlying179 _ rfl g Hof.out _ _ rfl rfl ?_; intro w2 hof2 hb2 hsz2; have Hof2 := Lib.hid hof2; clear hof2; have Hb2 := Lib.hid hb2; clear hb2; have Hsz2 := Lib.hid hsz2; clear hsz2)
                          go_roundg (all.length - (k + 1))
                          case measure => omega
                          case rel => exact ⟨Hb.out.trans (Hb2.out.mono (by omega)), by have := Hsz2.out; omega, k + 1, true, upd g (vr left) (sgn left), by omega, rfl, by go_num, rfl, by rw [vr_neg hneg, sgn, if_pos hneg]; exact Hof2.out, Hinv2.out, fun _ => Hfin.out, fun h => by cases h⟩
                        · go_wp2_with (at_mapUpdate; refine wpList_upd rfl _ _ _ 179 rfl 3 3 Tryd.underlying3 Tryd.underlying179 _ rfl g Hof.out _ _ rfl rfl ?_; intro w2 hof2 hb2 hsz2; have Hof2 := Lib.hid hof2; clear hof2; have Hb2 := Lib.hid hb2; clear hb2; have Hsz2 := Lib.hid hsz2; clear hsz2)
                          go_roundg (all.length - (k + 1))
                          case measure => omega
                          case rel => exact ⟨Hb.out.trans (Hb2.out.mono (by omega)), by have := Hsz2.out; omega, k + 1, true, upd g (vr left) (sgn left), by omega, rfl, by go_num, rfl, by rw [vr_pos (x := left) (by omega), sgn, if_neg (show ¬ left < 0 by omega)]; exact Hof2.out, Hinv2.out, fun _ => Hfin.out, fun h => by cases h⟩
              · obtain rfl : k = all.length := by omega
                go_wp2_with fail
                cases again
                · have h1 := (Hf2.out rfl).2
                  rw [List.take_length] at h1
                  go_roundg 0
                  case measure => have := Ht.out; omega
                  case rel => exact ⟨Hb.out, hsz, false, g, rfl, Hof.out, Hinv.out, fun h => (by cases h), fun _ => ⟨rfl, h1⟩⟩
                · have h1 := Ht2.out rfl
                  go_roundg (unset g + 1)
                  case measure => have := Ht.out; omega
                  case rel => exact ⟨Hb.out, hsz, true, g, rfl, Hof.out, Hinv.out, fun _ => rfl, fun h => by cases h⟩
  · have Hbad := Lib.hid hbad; clear hbad
    go_enter Tryd.func103, Tryd.ntmps103
    go_wp2_with (go_at_call 55; refine (Hc1.out _ (Hc.out.below Hbox.out) (by simp [go_sem])).mono ?_; rw [Hbad.out]; rintro e w' ⟨rfl, rfl⟩)
    go_ret
    exact ⟨⟨_, rfl, fun h => (by cases h), fun _ => .inl Hbad.out⟩, Hbox.out⟩
end Go.Proofs.YtdeaficdfooegaaDoor
