/- Contract: proof.Resolve. -/
import Derived.Test.YtdeaficdfooegaaDoorFormW
namespace Go.Proofs.YtdeaficdfooegaaDoor
open Go.RowKit
set_option linter.unusedVariables false

theorem cell_new1 (W : World) (u : Value) (e : TypeId) : ∀ (j : Nat) (u' : Value), [u][j]? = some u' → (W.alloc (.cells #[u] e)).cell? ((⟨W.heap.size, 0, none⟩ : Addr).add j) = some u' := by
  intro j u' h
  have hj : j = 0 := by
    have := (List.getElem?_eq_some_iff.1 h).1; simp at this; exact this
  subst hj
  simp at h; subst h
  simp [Addr.add]
/-- What stays of the first k. -/
def keepL (xs : List Int) (y : Int) (k : Nat) : List Int := (xs.take k).filter (fun x => !(x == y))
theorem keep_zero (xs : List Int) (y : Int) : keepL xs y 0 = [] := by simp [keepL]
theorem keep_all (xs : List Int) (y : Int) : keepL xs y xs.length = xs.filter (fun x => !(x == y)) := by simp [keepL]
theorem keep_in {xs : List Int} {y : Int} {k : Nat} (h : k < xs.length) (hy : xs[k] ≠ y) : keepL xs y (k + 1) = keepL xs y k ++ [xs[k]] := by
  unfold keepL
  rw [List.take_succ_eq_append_getElem h, List.filter_append]
  congr 1
  simp [hy]
theorem keep_out {xs : List Int} {y : Int} {k : Nat} (h : k < xs.length) (hy : xs[k] = y) : keepL xs y (k + 1) = keepL xs y k := by
  unfold keepL
  rw [List.take_succ_eq_append_getElem h, List.filter_append]
  simp [hy]
theorem keep_len (xs : List Int) (y : Int) (k : Nat) : (keepL xs y k).length ≤ k := by
  unfold keepL
  refine Nat.le_trans (List.length_filter_le _ _) ?_
  rw [List.length_take]; omega

def ResP (may : Bool) (cs : List Int) (w : World) (e : Ending) (w' : World) : Prop :=
  ∃ v' er, e = .returned (.tuple #[v', er]) ∧ (may = false → v' = .slice none 0 0 ∧ er = .iface 49 (.int .i64 1)) ∧ (may = true → alwaysL cs = true → v' = .slice none 0 0 ∧ er = .iface 49 (.int .i64 8)) ∧
    (may = true → alwaysL cs = false → er = .nilIface ∧ IsInts w' v' cs ∧ FreshV w v') ∧ Below w.heap.size w w'
theorem may_iff {a b : List Int} {v : Int} : mayRes a b v = true ↔ 0 ≤ v ∧ v < 24 ∧ v + 1 ∈ a ∧ -v - 1 ∈ b := by
  unfold mayRes; simp [and_assoc]

set_option maxRecDepth 100000 in
set_option maxHeartbeats 4000000 in
theorem res_no (v : Int) (va vb : Value) (a b : List Int) (w : World) (ha : IsInts w va a) (hb : IsInts w vb b) (hm : mayRes a b v = false) (cs : List Int) :
    Calls Tryd.prog 27 #[va, vb, .int .i64 v] w (ResP (mayRes a b v) cs w) := by
  have hm' : ¬ (0 ≤ v ∧ v < 24 ∧ v + 1 ∈ a ∧ -v - 1 ∈ b) := fun h => by rw [may_iff.2 h] at hm; cases hm
  have fin : ∀ w', Below w.heap.size w w' → ResP (mayRes a b v) cs w (.returned (.tuple #[.slice none 0 0, .iface 49 (.int .i64 1)])) w' := fun w' hb => ⟨_, _, rfl, fun _ => ⟨rfl, rfl⟩, fun h => by rw [hm] at h; (cases h), fun h => by rw [hm] at h; (cases h), hb⟩
  have Fin := Lib.hid fin
  clear fin hm
  by_cases h1 : v < 0
  · clear hm' ha hb
    go_enter Tryd.func27, Tryd.ntmps27
    go_wp2_with fail
    go_ret2
    exact Fin.out _ (Below.refl _ _)
  by_cases h2 : 24 ≤ v
  · clear hm' ha hb
    go_enter Tryd.func27, Tryd.ntmps27
    go_wp2_with fail
    go_ret2
    exact Fin.out _ (Below.refl _ _)
  have hca := containsC_any (v + 1) va a w ha
  have hcb := containsC_any (-v - 1) vb b w hb
  have h3 : 0 ≤ v := by omega
  have h4 : v < 24 := by omega
  by_cases m1 : v + 1 ∈ a
  · have m2 : ¬ -v - 1 ∈ b := fun h => hm' ⟨h3, h4, m1, h⟩
    rw [decide_eq_true m1] at hca
    rw [decide_eq_false m2] at hcb
    have Hca := Lib.hid hca; have Hcb := Lib.hid hcb; clear hca hcb m1 m2 hm' ha hb
    go_enter Tryd.func27, Tryd.ntmps27
    go_wp2_with fail
    refine Hca.out.mono ?_
    rintro e w1 ⟨rfl, rfl⟩
    go_wp2_with fail
    refine Hcb.out.mono ?_
    rintro e w1 ⟨rfl, rfl⟩
    go_wp2_with fail
    go_ret2
    exact Fin.out _ (Below.refl _ _)
  · rw [decide_eq_false m1] at hca
    have Hca := Lib.hid hca; clear hca hcb m1 hm' ha hb
    go_enter Tryd.func27, Tryd.ntmps27
    go_wp2_with fail
    refine Hca.out.mono ?_
    rintro e w1 ⟨rfl, rfl⟩
    go_wp2_with fail
    go_ret2
    exact Fin.out _ (Below.refl _ _)

set_option maxRecDepth 100000 in
set_option maxHeartbeats 8000000 in
theorem res_yes (v : Int) (va vb : Value) (a b : List Int) (w : World) (ha : IsInts w va a) (hb : IsInts w vb b) (hm : mayRes a b v = true) (hba : ∀ x ∈ a, -1000 ≤ x ∧ x ≤ 1000) (hbb : ∀ x ∈ b, -1000 ≤ x ∧ x ≤ 1000) (hla : a.length ≤ 50000) (hlb : b.length ≤ 50000) :
    Calls Tryd.prog 27 #[va, vb, .int .i64 v] w (ResP (mayRes a b v) (formL (leftL a b v)) w) := by
  obtain ⟨h3, h4, m1, m2⟩ := may_iff.1 hm
  have hca := containsC_any (v + 1) va a w ha
  have hcb := containsC_any (-v - 1) vb b w hb
  rw [decide_eq_true m1] at hca
  rw [decide_eq_true m2] at hcb
  obtain ⟨aa, ca, rfl, hca1, hca2, _⟩ := ha.shape
  obtain ⟨ab, cb, rfl, hcb1, hcb2, _⟩ := hb.shape
  obtain ⟨i0, hi, hz0, hz1, hz2⟩ := info_parts infoInt0
  have hlb2 : ∀ x ∈ leftL a b v, -1000 ≤ x ∧ x ≤ 1000 := fun x hx => by
    rcases mem_left.1 hx with ⟨h, _⟩ | ⟨h, _⟩
    · exact hba x h
    · exact hbb x h
  have hll := left_len a b v
  have hleft : leftL a b v = keepL a (v + 1) a.length ++ keepL b (-v - 1) b.length := by rw [keep_all, keep_all]; rfl
  have hform := fun vo w' (h : IsInts w' vo (leftL a b v)) => form_any vo (leftL a b v) w' h hlb2 (by omega)
  rw [hm]
  generalize formL (leftL a b v) = cs at hform ⊢
  have Hform := Lib.hid hform; have Hca := Lib.hid hca; have Hcb := Lib.hid hcb; have Ha := Lib.hid ha; have Hb := Lib.hid hb; have Hleft := Lib.hid hleft
  clear hform hca hcb ha hb hleft m1 m2 hm hba hbb hlb2 hll
  go_enter Tryd.func27, Tryd.ntmps27
  go_wp2_with fail
  refine Hca.out.mono ?_
  rintro e w1 ⟨rfl, rfl⟩
  go_wp2_with fail
  refine Hcb.out.mono ?_
  rintro e w1 ⟨rfl, rfl⟩
  clear Hca Hcb
  go_wp2_with fail
  go_loopg [8, 38] a.length (fun gk ov i wr => ∃ k : Nat, k ≤ a.length ∧ gk = a.length - k ∧ i = .int .i64 k ∧ wr.ownsRow w.heap.size 3 1 ov (keepL a (v + 1) k).length ((keepL a (v + 1) k).map (Value.int .i64)) ∧ Below w.heap.size w wr)
  case atStart => exact ⟨0, Nat.zero_le _, rfl, rfl, by rw [keep_zero]; exact World.ownsRow_nil _ _ _ _, Below.refl _ _⟩
  case round =>
    obtain ⟨k, hk, rfl, rfl, hown, hbel⟩ := hrel
    obtain ⟨wo, rfl⟩ : ∃ y, y = wr := ⟨_, rfl⟩
    by_cases hlt : k < a.length
    · obtain ⟨bb, o, rfl, hbl⟩ := Ha.out.addr hlt
      have c1 := (Ha.out.below hbel).get hlt
      by_cases hx : a[k] = v + 1
      · have hx2 : (a[k] != v + 1) = false := by simpa using hx
        have hkk := keep_out hlt hx
        rw [← hkk] at hown
        have Hown := Lib.hid hown; have Hbel := Lib.hid hbel; clear hown hbel hkk hx
        generalize a[k] = x at c1 hx2
        go_wp2_with fail
        go_roundg (a.length - (k + 1))
        case measure => omega
        case rel => exact ⟨k + 1, by omega, rfl, by go_num, Hown.out, Hbel.out⟩
      · have hx2 : (a[k] != v + 1) = true := by simpa using hx
        have Hkk := Lib.hid (keep_in hlt hx)
        have hkl := keep_len a (v + 1) k
        have hsz := hbel.size
        have Hown := Lib.hid hown; have Hbel := Lib.hid hbel; clear hown hbel hx
        generalize a[k] = x at c1 hx2 Hkk
        generalize keepL a (v + 1) k = fa at Hown Hkk hkl
        go_wp2_with (at_builtin; refine wpList_append_own _ rfl _ _ 54 rfl w.heap.size 3 i0 (.int .i64 0) 1 8 Tryd.underlying54 hi hz0 hz1 hz2 rfl (by decide) _ _ _ rfl (Hown.out.alloc _) ⟨wo.heap.size, 0, none⟩ 1 1 [.int .i64 x] rfl rfl (cell_new1 _ _ _) (by intro u hu; simp at hu; subst hu; rfl) (by simp only [maxLen]; omega) (by omega) (by simp; omega) ?_; intro v5 w5 hown5 hgrow5 _; have Hown5 := Lib.hid hown5; have Hgrow5 := Lib.hid hgrow5; clear hown5 hgrow5)
        go_roundg (a.length - (k + 1))
        case measure => omega
        case rel =>
          refine ⟨k + 1, by omega, rfl, by go_num, ?_, (Hbel.out.alloc Hbel.out.size _).grown Hgrow5.out (by simp; omega) (fun j hj => (Hown.out.lt j hj).1)⟩
          rw [Hkk.out]; simpa using Hown5.out
    · obtain rfl : k = a.length := by omega
      have Hown := Lib.hid hown; have Hbel := Lib.hid hbel; clear hown hbel
      go_wp2_with fail
      go_loopg [8, 53] b.length (fun gk ov i wr => ∃ k : Nat, k ≤ b.length ∧ gk = b.length - k ∧ i = .int .i64 k ∧ wr.ownsRow w.heap.size 3 1 ov (keepL a (v + 1) a.length ++ keepL b (-v - 1) k).length ((keepL a (v + 1) a.length ++ keepL b (-v - 1) k).map (Value.int .i64)) ∧ Below w.heap.size w wr)
      case atStart => exact ⟨0, Nat.zero_le _, rfl, rfl, by rw [keep_zero, List.append_nil]; exact Hown.out, Hbel.out⟩
      case round =>
        clear Hown Hbel
        obtain ⟨k, hk, rfl, rfl, hown, hbel⟩ := hrel
        have hka := keep_len a (v + 1) a.length
        by_cases hlt : k < b.length
        · obtain ⟨bb, o, rfl, hbl⟩ := Hb.out.addr hlt
          have c1 := (Hb.out.below hbel).get hlt
          by_cases hx : b[k] = -v - 1
          · have hx2 : (b[k] != -v - 1) = false := by simpa using hx
            have hkk := keep_out hlt hx
            rw [← hkk] at hown
            have Hown := Lib.hid hown; have Hbel := Lib.hid hbel; clear hown hbel hkk hx
            generalize b[k] = x at c1 hx2
            go_wp2_with fail
            go_roundg (b.length - (k + 1))
            case measure => omega
            case rel => exact ⟨k + 1, by omega, rfl, by go_num, Hown.out, Hbel.out⟩
          · have hx2 : (b[k] != -v - 1) = true := by simpa using hx
            have Hkk := Lib.hid (keep_in hlt hx)
            have hkl := keep_len b (-v - 1) k
            have hsz := hbel.size
            have hfl : (keepL a (v + 1) a.length ++ keepL b (-v - 1) k).length ≤ 100000 := by rw [List.length_append]; omega
            have Hkk2 := Lib.hid (show keepL a (v + 1) a.length ++ keepL b (-v - 1) (k + 1) = (keepL a (v + 1) a.length ++ keepL b (-v - 1) k) ++ [b[k]] by rw [Hkk.out, List.append_assoc])
            have Hown := Lib.hid hown; have Hbel := Lib.hid hbel; clear hown hbel hx Hkk hkl hka
            generalize b[k] = x at c1 hx2 Hkk2
            generalize keepL a (v + 1) a.length ++ keepL b (-v - 1) k = fa at Hown Hkk2 hfl
            go_wp2_with (at_builtin; refine wpList_append_own _ rfl _ _ 54 rfl w.heap.size 3 i0 (.int .i64 0) 1 8 Tryd.underlying54 hi hz0 hz1 hz2 rfl (by decide) _ _ _ rfl (Hown.out.alloc _) ⟨wr.heap.size, 0, none⟩ 1 1 [.int .i64 x] rfl rfl (cell_new1 _ _ _) (by intro u hu; simp at hu; subst hu; rfl) (by simp only [maxLen]; omega) (by omega) (by simp; omega) ?_; intro v5 w5 hown5 hgrow5 _; have Hown5 := Lib.hid hown5; have Hgrow5 := Lib.hid hgrow5; clear hown5 hgrow5)
            go_roundg (b.length - (k + 1))
            case measure => omega
            case rel =>
              refine ⟨k + 1, by omega, rfl, by go_num, ?_, (Hbel.out.alloc Hbel.out.size _).grown Hgrow5.out (by simp; omega) (fun j hj => (Hown.out.lt j hj).1)⟩
              rw [Hkk2.out]; simpa using Hown5.out
        · obtain rfl : k = b.length := by omega
          rw [← Hleft.out] at hown
          have hle : (leftL a b v).length ≤ 100000 := by have := left_len a b v; omega
          have Hq := Lib.hid (Hform.out _ wr (ints_owned hown (by omega)))
          have Hbel := Lib.hid hbel; clear hown hbel Hform
          go_wp2_with fail
          refine Hq.out.mono ?_
          rintro e w9 ⟨v9, rfl, hi9, hb9, hf9⟩
          have Hf9 := Lib.hid (hf9.mono Hbel.out.size)
          have Hi9 := Lib.hid hi9; have Hb9 := Lib.hid (Hbel.out.trans (hb9.mono Hbel.out.size)); clear hi9 hb9 hf9 Hq
          cases hal : alwaysL cs with
          | true =>
            have Hal := Lib.hid hal; clear hal
            go_wp2_with fail
            go_ret2
            exact ⟨_, _, rfl, fun h => (by cases h), fun _ _ => ⟨rfl, rfl⟩, fun _ h => (by rw [Hal.out] at h; cases h), Hb9.out⟩
          | false =>
            have Hal := Lib.hid hal; clear hal
            go_wp2_with fail
            go_ret2
            exact ⟨_, _, rfl, fun h => (by cases h), fun _ h => (by rw [Hal.out] at h; cases h), fun _ _ => ⟨rfl, by have := Hi9.out; rw [Hal.out] at this; exact this, Hf9.out⟩, Hb9.out⟩
end Go.Proofs.YtdeaficdfooegaaDoor
