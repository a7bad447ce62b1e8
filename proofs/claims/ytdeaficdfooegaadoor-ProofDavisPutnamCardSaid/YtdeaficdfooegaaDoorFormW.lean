/- Contracts: slices.Clone and slices.Contains of a clause; proof.Form. -/
import Derived.Test.YtdeaficdfooegaaDoorSortC
import Derived.Test.YtdeaficdfooegaaDoorHoldsC
import Derived.BigQuiet
import Derived.Deep.QuietTactic
namespace Go.Proofs.YtdeaficdfooegaaDoor
open Go.RowKit
set_option linter.unusedVariables false

theorem infoInt0 : (Tryd.prog.info? 3).map (fun i => (i.zero, i.size, i.bytes)) = some (some (.int .i64 0), 1, 8) := by kernel_rfl
theorem ints_owned {w : World} {base e : Nat} {v : Value} {n : Nat} {xs : List Int} (h : w.ownsRow base e 1 v n (xs.map (Value.int .i64))) (hl : xs.length ≤ 17592186044416) : IsInts w v xs := by
  obtain ⟨h1, h2⟩ := h
  have hn : n = xs.length := by simp at h1; omega
  subst hn
  rcases h2 with ⟨rfl, h3⟩ | ⟨g, cap, cur, rfl, hg, hh, h3, h4, h5, h6⟩
  · have e : xs = [] := List.eq_nil_of_length_eq_zero h3
    subst e
    exact ⟨none, 0, 0, 0, rfl, fun h => absurd rfl h, Nat.le_refl _, Nat.zero_le _, fun i hi => absurd hi (by simp), fun h => absurd rfl h, Nat.zero_le _⟩
  · refine ⟨_, g, 0, cap, rfl, fun _ => rfl, h3, h4, fun i hi => ?_, fun _ => (Array.getElem?_eq_some_iff.1 hh).1, hl⟩
    rw [cell_of_row w g (0 + i) cur e (0, 0) hh, Nat.zero_add]
    have h7 : (cur.toList.take (xs.length * 1))[i]? = some (.int .i64 xs[i]) := by rw [h6]; simp [hi]
    rw [List.getElem?_take] at h7
    have e2 : xs.getD i 0 = xs[i] := by simp [hi]
    rw [e2]
    split at h7
    · simpa using h7
    · cases h7
theorem isInts_nil0 (w : World) : IsInts w (.slice none 0 0) [] := ⟨none, 0, 0, 0, rfl, fun h => absurd rfl h, Nat.le_refl _, Nat.zero_le _, fun i hi => absurd hi (by simp), fun h => absurd rfl h, Nat.zero_le _⟩

set_option maxHeartbeats 1000000 in
/-- slices.Clone of a clause. -/
theorem cloneC_any (v : Value) (xs : List Int) (w : World) (hv : IsInts w v xs) (hlen : xs.length ≤ 100000) :
    Calls Tryd.prog 59 #[v] w fun e w' => (∃ v', e = .returned v' ∧ w'.ownsRow w.heap.size 3 1 v' xs.length (xs.map (Value.int .i64))) ∧ Below w.heap.size w w' := by
  obtain ⟨a, b, o, c, rfl, ha, hl, hm, hcell, hblk, _⟩ := hv
  have heq := fun (W : World) n c => Lib.run_eql_slice_nil (P := Tryd.prog) W 54 3 a n c 0 0 Tryd.underlying54
  obtain ⟨i0, hi, hz0, hz1, hz2⟩ := info_parts infoInt0
  cases a with
  | none =>
    have e : xs = [] := by
      cases xs with
      | nil => rfl
      | cons x l => exact absurd (ha (by simp)) (by simp)
    subst e
    go_enter Tryd.func59, Tryd.ntmps59
    go_wp2
    go_ret
    exact ⟨⟨_, rfl, World.ownsRow_nil _ _ _ _⟩, Below.refl _ _⟩
  | some ad =>
    have hal : Below w.heap.size w (w.alloc (.cells #[] 3)) := (Below.refl _ _).alloc (Nat.le_refl _) _
    have hcells : ∀ j u, (xs.map (Value.int .i64))[j]? = some u → (w.alloc (.cells #[] 3)).cell? (ad.add j) = some u := fun j u h => by
      have hj : j < xs.length := by
        have := (List.getElem?_eq_some_iff.1 h).1; simpa using this
      have hne : xs ≠ [] := fun e => by subst e; simp at hj
      obtain rfl := Option.some.inj (ha hne)
      have h2 : u = .int .i64 (xs.getD j 0) := by
        rw [List.getElem?_map, List.getElem?_eq_getElem hj] at h
        simp at h; rw [← h]; simp [hj]
      rw [h2]
      rw [show (⟨b, o, none⟩ : Addr).add j = ⟨b, o + j, none⟩ from by simp [Addr.add], hal.cell (hblk hne)]
      exact hcell j hj
    have hz1' : (xs.map (Value.int .i64)).length = xs.length * 1 := by simp
    have hone : ∀ u ∈ xs.map (Value.int .i64), u.oneCell' = true := fun u hu => by
      obtain ⟨x, _, rfl⟩ := List.mem_map.1 hu; rfl
    have Hal := Lib.hid hal; have Hc := Lib.hid hcells; have Hz1' := Lib.hid hz1'; have Hone := Lib.hid hone
    clear hal hcells hz1' hone ha hcell hblk
    go_enter Tryd.func59, Tryd.ntmps59
    go_wp2_with (at_builtin; refine wpList_append_own _ rfl _ _ 54 rfl w.heap.size 3 i0 (.int .i64 0) 1 8 Tryd.underlying54 hi hz0 hz1 hz2 rfl (by decide) _ _ _ rfl (World.ownsRow_made w #[] 0 (Nat.le_refl _) (Nat.zero_le _) rfl) ad _ _ (xs.map (Value.int .i64)) rfl Hz1'.out Hc.out Hone.out (by simp only [maxLen]; omega) (by omega) (by simp) ?_; intro v' w1 hown hgrow _; have Hown := Lib.hid hown; have Hgrow := Lib.hid hgrow; clear hown hgrow)
    go_ret
    have hb : Below w.heap.size w w1 := Hal.out.grown Hgrow.out (by simp) (fun k hk => by cases hk; exact Nat.le_refl _)
    refine ⟨⟨v', rfl, ?_⟩, hb⟩
    have := Hown.out
    rw [Nat.zero_add, List.nil_append] at this
    exact this

def FoundC (x : Int) (xs : List Int) (w : World) (e : Ending) (w' : World) : Prop := (∃ n : Int, (0 ≤ n ↔ x ∈ xs) ∧ e = .returned (.int .i64 n)) ∧ w = w'
theorem take_succ_mem {x : Int} {xs : List Int} {k : Nat} (h : k < xs.length) (h1 : x ∉ xs.take k) (h2 : x ≠ xs[k]) : x ∉ xs.take (k + 1) := by
  rw [List.take_succ_eq_append_getElem h, List.mem_append]
  rintro (h3 | h3)
  · exact h1 h3
  · exact h2 (List.mem_singleton.1 h3)
set_option maxHeartbeats 1000000 in
theorem indexC_any (x : Int) (v : Value) (xs : List Int) (w : World) (hv : IsInts w v xs) :
    Calls Tryd.prog 102 #[v, .int .i64 x] w (FoundC x xs w) := by
  obtain ⟨a, b, o, c, rfl, ha, hl, hm, hcell, hblk, hlen⟩ := hv
  unfold maxLen at hm
  go_enter Tryd.func102, Tryd.ntmps102
  go_wp2
  go_loopg [8] xs.length (fun gk i wr => w = wr ∧ ∃ k : Nat, k ≤ xs.length ∧ gk = xs.length - k ∧ i = .int .i64 k ∧ x ∉ xs.take k)
  case atStart => exact ⟨rfl, 0, Nat.zero_le _, rfl, rfl, by simp⟩
  case round =>
    obtain ⟨rfl, k, hk, rfl, rfl, hno⟩ := hrel
    have Hno := Lib.hid hno; clear hno
    by_cases hlt : k < xs.length
    · obtain rfl := ha (by intro h; subst h; simp at hlt)
      have hc := hcell k hlt
      rw [getD_at _ _ hlt] at hc
      by_cases hp : x = xs[k]
      · have hb : (x == xs[k]) = true := by simpa using hp
        have hin : x ∈ xs := by rw [hp]; exact List.getElem_mem hlt
        have Hin := Lib.hid hin
        clear hin hp
        generalize xs[k] = y at hc hb
        go_wp2_with fail
        go_ret
        exact ⟨⟨k, by simp [Hin.out], rfl⟩, rfl⟩
      · have hb : (x == xs[k]) = false := by simpa using hp
        have Hnx := Lib.hid (take_succ_mem hlt Hno.out hp)
        clear hp
        generalize xs[k] = y at hc hb
        go_wp2_with fail
        go_roundg (xs.length - (k + 1))
        case measure => omega
        case rel => exact ⟨rfl, k + 1, by omega, rfl, by go_num, Hnx.out⟩
    · go_wp2_with fail
      go_ret
      refine ⟨⟨-1, ?_, rfl⟩, rfl⟩
      have := Hno.out
      rw [List.take_of_length_le (by omega)] at this
      simp [this]
set_option maxHeartbeats 400000 in
theorem containsC_any (x : Int) (v : Value) (xs : List Int) (w : World) (hv : IsInts w v xs) :
    Calls Tryd.prog 57 #[v, .int .i64 x] w fun e w' => e = .returned (.bool (decide (x ∈ xs))) ∧ w = w' := by
  have Hi := Lib.hid (indexC_any x v xs w hv)
  clear hv
  generalize hr : decide (x ∈ xs) = r
  have Hr := Lib.hid hr; clear hr
  go_enter Tryd.func57, Tryd.ntmps57
  go_wp2_with (go_at_call 102; refine Hi.out.mono ?_; rintro e w' ⟨⟨n, hn, rfl⟩, rfl⟩; have Hn := Lib.hid hn; clear hn)
  go_ret
  refine ⟨?_, rfl⟩
  show Ending.returned (.bool (decide (0 ≤ n))) = _
  rw [← Hr.out]
  by_cases h : x ∈ xs
  · rw [decide_eq_true h, decide_eq_true (Hn.out.2 h)]
  · rw [decide_eq_false h, decide_eq_false (fun h2 => h (Hn.out.1 h2))]

/-- A value that lies in no block that was there. -/
def FreshV (w : World) (v : Value) : Prop := ∀ b, v.ownBlock = some b → w.heap.size ≤ b
theorem FreshV.none (w : World) (n c : Nat) : FreshV w (.slice none n c) := fun b h => by cases h
theorem FreshV.mono {w w1 : World} {v : Value} (h : FreshV w1 v) (hs : w.heap.size ≤ w1.heap.size) : FreshV w v := fun b e => Nat.le_trans hs (h b e)
theorem fresh_owns {w w' : World} {base e n size : Nat} {v : Value} {xs : List Value} (h : w'.ownsRow base e size v n xs) (hb : w.heap.size ≤ base) : FreshV w v := fun b e => Nat.le_trans hb (h.lt b e).1
def FormP (cs : List Int) (w : World) (e : Ending) (w' : World) : Prop :=
  ∃ v', e = .returned (.tuple #[v', .bool (alwaysL cs)]) ∧ IsInts w' v' (if alwaysL cs then [] else cs) ∧ Below w.heap.size w w' ∧ FreshV w v'
set_option maxRecDepth 100000 in
set_option maxHeartbeats 4000000 in
/-- proof.Form. -/
theorem form_any (v : Value) (xs : List Int) (w : World) (hv : IsInts w v xs) (hb : ∀ x ∈ xs, -1000 ≤ x ∧ x ≤ 1000) (hlen : xs.length ≤ 100000) :
    Calls Tryd.prog 29 #[v] w (FormP (formL xs) w) := by
  have Hv := Lib.hid (cloneC_any v xs w hv hlen); clear hv
  have Hs := Lib.hid (fun v' w' => sortC_any (base := w.heap.size) v' xs w' hb (by omega))
  have Hc := Lib.hid (fun v' w' => compactC_any (base := w.heap.size) v' (xs.mergeSort befLe) w' (by rw [List.length_mergeSort]; omega))
  have hfl := form_len xs
  have hfb : ∀ x ∈ formL xs, -1000 ≤ x ∧ x ≤ 1000 := fun x hx => hb x ((mem_form x).1 hx)
  have hfe : Lib.compact (xs.mergeSort befLe) = formL xs := rfl
  rw [hfe] at Hc
  have hms : (xs.mergeSort befLe).length = xs.length := List.length_mergeSort _
  rw [hms] at Hc
  clear hfe hms hb
  generalize formL xs = cs at Hc hfl hfb ⊢
  have Hfb := Lib.hid hfb; clear hfb
  go_enter Tryd.func29, Tryd.ntmps29
  go_wp2_with fail
  refine Hv.out.mono ?_
  rintro e w1 ⟨⟨v1, rfl, ho1⟩, hb1⟩
  have Hq := Lib.hid (Hs.out v1 w1 hb1.size ho1); have Hb1 := Lib.hid hb1; clear ho1 hb1 Hv Hs
  go_wp2_with fail
  refine Hq.out.mono ?_
  rintro e w2 ⟨rfl, ho2, hb2⟩
  have hsz : w.heap.size ≤ w2.heap.size := Nat.le_trans Hb1.out.size hb2.size
  have Hq2 := Lib.hid (Hc.out v1 w2 ho2); have Hb2 := Lib.hid (Hb1.out.trans hb2); clear ho2 hb2 Hq Hc Hb1
  go_wp2_with fail
  refine Hq2.out.mono ?_
  rintro e w3 ⟨v3, rfl, ho3, hb3⟩
  have Hb3 := Lib.hid (Hb2.out.trans hb3)
  have hi3 := ints_owned ho3 (by omega)
  have Hfr := Lib.hid (fresh_owns (w := w) ho3 (Nat.le_refl _))
  clear ho3 hb3 Hq2 Hb2
  obtain ⟨a3, c3, rfl, hc3, hcm3, _⟩ := hi3.shape
  have Hi3 := Lib.hid hi3; clear hi3 hsz
  go_wp2_with fail
  go_loopg [5] cs.length (fun gk i wr => Below w3.heap.size w3 wr ∧ ∃ j : Nat, gk = cs.length - j ∧ i = .int .i64 ((j + 1 : Nat) : Int) ∧ j ≤ cs.length ∧ ∀ t (h : t + 1 < cs.length), t < j → cs[t + 1] ≠ -cs[t])
  case atStart => exact ⟨Below.refl _ _, 0, rfl, rfl, Nat.zero_le _, fun t h ht => absurd ht (Nat.not_lt_zero _)⟩
  case round =>
    obtain ⟨hb, j, rfl, rfl, hj, hno⟩ := hrel
    have Hb := Lib.hid hb; have Hno := Lib.hid hno; clear hno
    by_cases hlt : j + 1 < cs.length
    · obtain ⟨b, o, rfl, hbl⟩ := Hi3.out.addr hlt
      have c1 := (Hi3.out.below hb).get hlt
      have c0 := (Hi3.out.below hb).get (show j < cs.length by omega)
      have y1 := (Hfb.out _ (List.getElem_mem (show j < cs.length by omega))).1
      have y2 := (Hfb.out _ (List.getElem_mem (show j < cs.length by omega))).2
      have hp := Hno.out
      have Hpair := Lib.hid (show cs[j + 1] = -cs[j] → alwaysL cs = true from fun h => always_iff.2 ⟨j, hlt, h⟩)
      have Hnext := Lib.hid (show cs[j + 1] ≠ -cs[j] → ∀ t (h : t + 1 < cs.length), t < j + 1 → cs[t + 1] ≠ -cs[t] from fun h t ht h3 => by
        by_cases e : t = j
        · subst e; exact h
        · exact hp t ht (by omega))
      clear hp hb
      generalize cs[j + 1] = z at c1 Hpair Hnext
      generalize cs[j] = y at c0 y1 y2 Hpair Hnext
      have hidx : IntKind.i64.wrap (((j + 1 : Nat) : Int) - 1) = (j : Int) := by rw [IntWalk.i64_in _ (by omega)]; omega
      have hneg : IntKind.i64.wrap (-y) = -y := IntWalk.i64_in _ (by omega)
      have b1 : (0 : Int) ≤ ((j + 1 : Nat) : Int) := by omega
      have b2 : ((j + 1 : Nat) : Int) < (cs.length : Int) := by omega
      have b3 : (j : Int) < (cs.length : Int) := by omega
      have hlt2 : decide (j + 1 < cs.length) = true := by simpa using hlt
      by_cases hz : z = -y
      · have hb2 : (z == -y) = true := by simpa using hz
        have Ha := Lib.hid (Hpair.out hz); clear hz
        go_wp2_with fail
        go_quiet (fail)
        go_wp2_with fail
        go_ret2
        exact ⟨.slice none 0 0, by rw [Ha.out]; rfl, by rw [Ha.out]; exact isInts_nil0 _, Hb3.out.trans ((below_drewN Hb.out _).mono Hb3.out.size), FreshV.none _ _ _⟩
      · have hb2 : (z == -y) = false := by simpa using hz
        have Ha := Lib.hid (Hnext.out hz); clear hz
        go_wp2_with fail
        go_quiet (fail)
        go_wp2_with fail
        go_roundg (cs.length - (j + 1))
        case measure => omega
        case rel => exact ⟨below_drewN Hb.out _, j + 1, rfl, by go_num, by omega, Ha.out⟩
    · have ha : alwaysL cs = false := by
        cases h : alwaysL cs with
        | false => rfl
        | true =>
          obtain ⟨i, hi, e⟩ := always_iff.1 h
          exact absurd e (Hno.out i hi (by omega))
      have Ha := Lib.hid ha; clear ha
      go_wp2_with fail
      go_ret2
      exact ⟨.slice a3 cs.length c3, by rw [Ha.out]; rfl, by rw [Ha.out]; exact Hi3.out.below Hb.out, Hb3.out.trans (Hb.out.mono Hb3.out.size), Hfr.out⟩
end Go.Proofs.YtdeaficdfooegaaDoor
