/- Contracts: proof.Shows. -/
import Derived.Test.YtdeaficdfooegaaDoorFollows
import Derived.Test.YtdeaficdfooegaaDoorClone
import Derived.Test.YtdeaficdfooegaaDoorDpll
namespace Go.Proofs.YtdeaficdfooegaaDoor
open Go.RowKit
set_option linter.unusedVariables false

/-- What proof.Shows says. -/
def ShowsSay (m : Int) (l pf : List (List Int)) (ok : Bool) (n : Int) (err : Value) : Prop :=
  (¬ (Good m l ∧ pf.length ≤ 5000) → ok = false ∧ ∃ t v, err = .iface t v) ∧
  (Good m l → pf.length ≤ 5000 → err = .nilIface ∧ (ok = true → ∀ v, allB v l = false) ∧
    ((∀ i (h : i < pf.length), Rup m (l ++ pf.take i) pf[i]) → pf.getLast? = some [] → ok = true ∧ n = pf.length))
def ShowsPost (m : Int) (l pf : List (List Int)) (w : World) (e : Ending) (w' : World) : Prop :=
  (∃ ok n err, e = .returned (.tuple #[.bool ok, .int .i64 n, err]) ∧ ShowsSay m l pf ok n err) ∧ Below w.heap.size w w'

theorem allB_append {v : Nat} {l r : List (List Int)} : allB v (l ++ r) = (allB v l && allB v r) := by unfold allB; rw [List.all_append]

theorem take_append_get {l pf : List (List Int)} {k : Nat} (h : k < pf.length) : l ++ pf.take (k + 1) = l ++ pf.take k ++ [pf[k]] := by
  rw [List.take_succ_eq_append_getElem h, List.append_assoc]

set_option maxRecDepth 100000 in
set_option maxHeartbeats 2000000 in
theorem shows_any (m : Int) (vl vp : Value) (l pf : List (List Int)) (w : World) (hl : IsRows w vl l) (hp : IsRows w vp pf) :
    Calls Tryd.prog 58 #[.int .i64 m, vl, vp] w (ShowsPost m l pf w) := by
  obtain ⟨al, cl, rfl, hll, hlm, hllen⟩ := hl.shape
  obtain ⟨ap, cp, rfl, hpl, hpm, hplen⟩ := hp.shape
  have Hl := Lib.hid hl; clear hl
  have Hp := Lib.hid hp; clear hp
  have Hck := Lib.hid (check_any m _ l w Hl.out)
  by_cases hgood : Good m l
  · have Hgood := Lib.hid hgood; clear hgood
    by_cases h5 : 5000 < pf.length
    · go_enter Tryd.func58, Tryd.ntmps58
      go_wp2_with (go_at_call 26; refine Hck.out.mono ?_; rintro e w1 ⟨⟨ev, rfl, hev, -⟩, hb⟩; obtain rfl := hev Hgood.out; clear hev; have Hb := Lib.hid hb; clear hb)
      go_ret3
      exact ⟨⟨_, _, _, rfl, fun _ => ⟨rfl, _, _, rfl⟩, fun _ h => by omega⟩, Hb.out⟩
    · go_enter Tryd.func58, Tryd.ntmps58
      go_wp2_with (first
        | (go_at_call 26; refine Hck.out.mono ?_; rintro e w1 ⟨⟨ev, rfl, hev, -⟩, hb⟩; obtain rfl := hev Hgood.out; clear hev; have Hb := Lib.hid hb; clear hb)
        | (go_at_call 64; refine (cloneR_any _ l _ (Hl.out.below Hb.out) (by have := Hgood.out.2.2.1; omega)).mono ?_; rintro e w2 ⟨⟨v', rs, rfl, hown, hrv⟩, hb2⟩; have Hown := Lib.hid hown; have Hrv := Lib.hid hrv; have Hb2 := Lib.hid hb2; clear hown hrv hb2))
      clear Hck
      have hl200 : l.length ≤ 200 := Hgood.out.2.2.1
      obtain ⟨i0, hi, hz0, hz1, hz2⟩ := info_parts infoClause
      go_loopg [10, 28] pf.length (fun gk va i wr => Below w1.heap.size w1 wr ∧ ∃ (k : Nat) (rs' : List Value), k ≤ pf.length ∧ gk = pf.length - k ∧ i = .int .i64 k ∧ wr.ownsRow w1.heap.size 54 1 va (l.length + k) rs' ∧
        RowVals w1 rs' (l ++ pf.take k) ∧ (∀ v, allB v l = true → allB v (l ++ pf.take k) = true) ∧ (∀ d ∈ pf.take k, d.any (badLit m) = false))
      case atStart =>
        exact ⟨Hb2.out, 0, rs, Nat.zero_le _, rfl, rfl, Hown.out, by simpa using Hrv.out, by simp, by simp⟩
      case round =>
        clear Hown Hrv Hb2
        obtain ⟨hb2, k, rs', hk, rfl, rfl, hown, hrv, hsnd, hgd⟩ := hrel
        have Hb2 := Lib.hid hb2; clear hb2
        have Hown := Lib.hid hown; clear hown
        have Hrv := Lib.hid hrv; clear hrv
        have Hsnd := Lib.hid hsnd; clear hsnd
        have Hgd := Lib.hid hgd; clear hgd
        by_cases hlt : k < pf.length
        · obtain ⟨b, o, rfl, hblk⟩ := Hp.out.addr hlt
          obtain ⟨a2, n2, c2, hcell0, hr0⟩ := (Hp.out.below Hb.out).get hlt
          have hcell : wr.cell? ⟨b, o + k, none⟩ = some (.slice a2 n2 c2) := by rw [Hb2.out.cell (by have := Hb.out.size; show b < _; omega)]; exact hcell0
          have Hr := Lib.hid (hr0.below Hb2.out)
          have hrv2 := Hrv.out.snoc hr0
          rw [← take_append_get hlt] at hrv2
          have Hrv2 := Lib.hid hrv2
          clear hrv2 hr0 hcell0
          obtain ⟨hm0, hm1, hl2, hlg⟩ := Hgood.out
          have hrows := isRows_of_owns Hown.out (Hrv.out.below Hb2.out) (by simp; omega)
          have hf := follows_any m _ (.slice a2 n2 c2) (l ++ pf.take k) pf[k] wr hm0 hm1 hrows Hr.out
            (fun d hd => (List.mem_append.1 hd).elim (fun h => (hlg d h).2) (fun h => Hgd.out d h))
          have Hf := Lib.hid hf; clear hf hrows hl2 hlg
          have hap := fun (wq : World) (hq : Below wr.heap.size wr wq) => (ownsRow_below Hown.out hq).alloc (.cells #[.slice a2 n2 c2] 54)
          have Hap := Lib.hid hap; clear hap
          go_wp2_with (first
            | (go_at_call 103; refine Hf.out.mono ?_; rintro e wq ⟨⟨r, rfl, hr1, hr2⟩, hb3⟩; have Hr1 := Lib.hid hr1; have Hr2 := Lib.hid hr2; have Hb3 := Lib.hid hb3; clear hr1 hr2 hb3)
            | (at_builtin; refine wpList_append_own _ rfl _ _ 56 rfl w1.heap.size 54 i0 (.slice none 0 0) 1 24 Tryd.underlying56 hi hz0 hz1 hz2 rfl (by decide) _ _ _ rfl (Hap.out _ Hb3.out) _ 1 1 [.slice a2 n2 c2] rfl rfl (cell_one_new _ _ _) (by intro u hu; simp at hu; subst hu; rfl) (by simp only [maxLen]; omega) (by omega) (by have h1 := Hb2.out.size; have h2 := Hb3.out.size; simp; omega) ?_; intro v3 w3 hown3 hgrow3 _; have Hown3 := Lib.hid hown3; have Hgrow3 := Lib.hid hgrow3; clear hown3 hgrow3))
          · have hr : r = false := by simpa using (show (!r) = true by assumption)
            subst hr
            go_ret3
            refine ⟨⟨_, _, _, rfl, fun h => absurd ⟨Hgood.out, by omega⟩ h, fun _ _ => ⟨rfl, fun h => (by cases h), fun h _ => ?_⟩⟩, Hb.out.trans ((Hb2.out.trans (Hb3.out.mono Hb2.out.size)).mono Hb.out.size)⟩
            obtain ⟨h1, h2⟩ := h k hlt
            rcases Hr2.out rfl with h3 | h3
            · rw [h1] at h3; cases h3
            · exact absurd h3 h2
          · have hr : r = true := by simpa using (show (!r) = false by assumption)
            obtain ⟨h1, h2⟩ := Hr1.out hr
            go_roundg (pf.length - (k + 1))
            case measure => omega
            case rel =>
              have hb4 : Below w1.heap.size w1 wq := Hb2.out.trans (Hb3.out.mono Hb2.out.size)
              refine ⟨(hb4.alloc hb4.size _).grown Hgrow3.out (by have := hb4.size; simp; omega) (fun j hj => (Hown.out.lt j hj).1), k + 1, _, by omega, rfl, by go_num, Hown3.out, Hrv2.out, fun v hv => ?_, fun d hd => ((mem_take_succ hlt).1 hd).elim (Hgd.out d) (fun e => by rw [e]; exact h1)⟩
              rw [take_append_get hlt, allB_append, Hsnd.out v hv]
              have h3 := h2 v (Hsnd.out v hv)
              simp [allB, h3]
        · obtain rfl : k = pf.length := by omega
          by_cases hz : pf.length = 0
          · go_wp2
            go_ret3
            refine ⟨⟨_, _, _, rfl, fun h => absurd ⟨Hgood.out, by omega⟩ h, fun _ _ => ⟨rfl, fun h => (by cases h), fun _ h => ?_⟩⟩, Hb.out.trans (Hb2.out.mono Hb.out.size)⟩
            rw [List.eq_nil_of_length_eq_zero hz] at h
            cases h
          · obtain ⟨b, o, rfl, hblk⟩ := Hp.out.addr (k := pf.length - 1) (by omega)
            obtain ⟨a2, n2, c2, hcell0, hr0⟩ := (Hp.out.below Hb.out).get (k := pf.length - 1) (by omega)
            have hcell : wr.cell? ⟨b, o + (pf.length - 1), none⟩ = some (.slice a2 n2 c2) := by rw [Hb2.out.cell (by have := Hb.out.size; show b < _; omega)]; exact hcell0
            have hn2 := hr0.len
            have Hn2 := Lib.hid hn2
            clear hn2 hr0 hcell0
            have hz1 : ((pf.length : Int) == 0) = false := by simpa using hz
            by_cases h0 : n2 = 0
            · subst h0
              go_wp2
              go_ret3
              refine ⟨⟨_, _, _, rfl, fun h => absurd ⟨Hgood.out, by omega⟩ h, fun _ _ => ⟨rfl, fun _ v => ?_, fun _ _ => ⟨rfl, rfl⟩⟩⟩, Hb.out.trans (Hb2.out.mono Hb.out.size)⟩
              cases hv : allB v l
              · rfl
              · have h1 := Hsnd.out v hv
                rw [List.take_length, allB_append, Bool.and_eq_true] at h1
                have h2 := List.all_eq_true.1 h1.2 _ (List.getElem_mem (show pf.length - 1 < pf.length by omega))
                rw [List.eq_nil_of_length_eq_zero Hn2.out.symm] at h2
                cases h2
            · go_wp2
              go_ret3
              refine ⟨⟨_, _, _, rfl, fun h => absurd ⟨Hgood.out, by omega⟩ h, fun _ _ => ⟨rfl, fun h => (by cases h), fun _ h => ?_⟩⟩, Hb.out.trans (Hb2.out.mono Hb.out.size)⟩
              rw [List.getLast?_eq_getElem?, List.getElem?_eq_getElem (by omega)] at h
              have h2 := Hn2.out
              rw [Option.some.inj h] at h2
              exact absurd h2 h0
  · have Hgood := Lib.hid hgood; clear hgood
    go_enter Tryd.func58, Tryd.ntmps58
    go_wp2_with (go_at_call 26; refine Hck.out.mono ?_; rintro e w1 ⟨⟨ev, rfl, -, hev⟩, hb⟩; obtain ⟨t, v, rfl⟩ := hev Hgood.out; clear hev; have Hb := Lib.hid hb; clear hb)
    go_ret3
    exact ⟨⟨_, _, _, rfl, fun _ => ⟨rfl, _, _, rfl⟩, fun h => absurd h Hgood.out⟩, Hb.out⟩
end Go.Proofs.YtdeaficdfooegaaDoor
