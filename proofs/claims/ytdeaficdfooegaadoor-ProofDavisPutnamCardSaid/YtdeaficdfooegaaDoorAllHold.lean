/- Contracts: clauses hold of values. -/
import Derived.Test.YtdeaficdfooegaaDoorHoldsC
namespace Go.Proofs.YtdeaficdfooegaaDoor
open Go.RowKit

theorem anyr_take_succ {p : List Int → Bool} {xs : List (List Int)} {k : Nat} (h : k < xs.length) : (xs.take (k + 1)).any p = ((xs.take k).any p || p xs[k]) := by
  rw [List.take_succ_eq_append_getElem h, List.any_append]; simp

def FoundR (p : List Int → Bool) (xs : List (List Int)) (w : World) (e : Ending) (w' : World) : Prop := (∃ n : Int, (0 ≤ n ↔ xs.any p = true) ∧ e = .returned (.int .i64 n)) ∧ Below w.heap.size w w'

/-- What a predicate over clauses keeps to. -/
def PredR (g : Nat) (l0 : Value) (p : List Int → Bool) (ls : List (List Int)) (w : World) : Prop :=
  ∀ x, x ∈ ls → ∀ w1, Below w.heap.size w w1 → ∀ r, IsInts w1 r x → Calls Tryd.prog g #[r, l0] w1 fun e w' => e = .returned (.bool (p x)) ∧ Below w1.heap.size w1 w'

set_option maxHeartbeats 400000 in
theorem indexFuncR_any (g : Nat) (l0 : Value) (p : List Int → Bool) (v : Value) (xs : List (List Int)) (w : World) (hv : IsRows w v xs)
    (hcf : ∀ args w, (callFunc g args).run Tryd.prog w = .ok (.enter g args) w) (hg : PredR g l0 p xs w) :
    Calls Tryd.prog 106 #[v, .func (.func g) #[] #[l0]] w (FoundR p xs w) := by
  obtain ⟨a, c, rfl, hl, hm, hlen⟩ := hv.shape
  have Hv := Lib.hid hv; clear hv
  go_enter Tryd.func106, Tryd.ntmps106
  go_wp2
  go_loopg [8] xs.length (fun gk i wr => Below w.heap.size w wr ∧ ∃ k : Nat, k ≤ xs.length ∧ gk = xs.length - k ∧ i = .int .i64 k ∧ (xs.take k).any p = false)
  case atStart => exact ⟨Below.refl _ _, 0, Nat.zero_le _, rfl, rfl, rfl⟩
  case round =>
    obtain ⟨hbw, k, hk, rfl, rfl, hno⟩ := hrel
    have Hno := Lib.hid hno; clear hno
    have Hb := Lib.hid hbw; clear hbw
    by_cases hlt : k < xs.length
    · obtain ⟨b, o, rfl, hblk⟩ := Hv.out.addr hlt
      obtain ⟨a2, n2, c2, hc, hr⟩ := (Hv.out.below Hb.out).get hlt
      have Hr := Lib.hid hr; clear hr
      have hts := anyr_take_succ (p := p) hlt
      have Hts := Lib.hid hts; clear hts
      cases hp : p xs[k]
      · have Hp := Lib.hid hp; clear hp
        go_wp2_with (refine (hg _ (List.getElem_mem hlt) _ Hb.out _ Hr.out).mono ?_; rw [Hp.out]; rintro e w' ⟨rfl, hb2⟩; have Hb2 := Lib.hid hb2; clear hb2)
        go_roundg (xs.length - (k + 1))
        case measure => omega
        case rel => exact ⟨Hb.out.trans (Hb2.out.mono Hb.out.size), k + 1, by omega, rfl, by go_num, by rw [Hts.out, Hno.out, Hp.out]; rfl⟩
      · have Hp := Lib.hid hp; clear hp
        go_wp2_with (refine (hg _ (List.getElem_mem hlt) _ Hb.out _ Hr.out).mono ?_; rw [Hp.out]; rintro e w' ⟨rfl, hb2⟩; have Hb2 := Lib.hid hb2; clear hb2)
        go_ret
        refine ⟨⟨k, ?_, rfl⟩, Hb.out.trans (Hb2.out.mono Hb.out.size)⟩
        have h2 : xs.any p = true := List.any_eq_true.2 ⟨_, List.getElem_mem hlt, Hp.out⟩
        simp [h2]
    · go_wp2_with fail
      go_ret
      refine ⟨⟨-1, ?_, rfl⟩, Hb.out⟩
      have := Hno.out
      rw [List.take_of_length_le (by omega)] at this
      simp [this]

set_option maxHeartbeats 400000 in
theorem containsFuncR_any (g : Nat) (l0 : Value) (p : List Int → Bool) (v : Value) (xs : List (List Int)) (w : World) (hv : IsRows w v xs)
    (hcf : ∀ args w, (callFunc g args).run Tryd.prog w = .ok (.enter g args) w) (hg : PredR g l0 p xs w) :
    Calls Tryd.prog 65 #[v, .func (.func g) #[] #[l0]] w fun e w' => e = .returned (.bool (xs.any p)) ∧ Below w.heap.size w w' := by
  have Hi := Lib.hid (indexFuncR_any g l0 p v xs w hv hcf hg)
  clear hg hv hcf
  generalize hr : xs.any p = r
  have Hr := Lib.hid hr; clear hr
  go_enter Tryd.func65, Tryd.ntmps65
  go_wp2_with (go_at_call 106; refine Hi.out.mono ?_; rintro e w' ⟨⟨n, hn, rfl⟩, hb2⟩; have Hb2 := Lib.hid hb2; clear hb2; have Hn := Lib.hid hn; clear hn)
  go_ret
  refine ⟨?_, Hb2.out⟩
  have h1 := Hn.out
  rw [Hr.out] at h1
  show Ending.returned (.bool (decide (0 ≤ n))) = _
  cases r <;> simp at h1 <;> simp [h1]

/-- All literals lie within so many. -/
def Within (m : Int) (ls : List (List Int)) : Prop := ∀ c ∈ ls, ∀ x ∈ c, -m ≤ x ∧ x ≤ m

set_option maxHeartbeats 400000 in
theorem allHold1_any (r : Value) (xs : List Int) (vals b : Nat) (w : World) (hv : IsInts w r xs) (hb : ∀ x ∈ xs, -1000 ≤ x ∧ x ≤ 1000) (hvals : vals < 18446744073709551616)
    (hc : w.cell? ⟨b, 0, none⟩ = some (.int .u64 vals)) :
    Calls Tryd.prog 66 #[r, .pointer (some ⟨b, 0, none⟩)] w fun e w' => e = .returned (.bool (!clB vals xs)) ∧ Below w.heap.size w w' := by
  have Hh := Lib.hid (holds_any r xs vals w hv hb hvals)
  clear hv hb
  go_enter Tryd.func66, Tryd.ntmps66
  go_wp2_with (go_at_call 31; refine Hh.out.mono ?_; rintro e w' ⟨rfl, hb2⟩; have Hb2 := Lib.hid hb2; clear hb2)
  go_ret
  exact ⟨rfl, Hb2.out⟩

set_option maxHeartbeats 400000 in
/-- clause.AllHold. -/
theorem allHold_any (v : Value) (ls : List (List Int)) (vals : Nat) (w : World) (hv : IsRows w v ls) (hb : Within 1000 ls) (hvals : vals < 18446744073709551616) :
    Calls Tryd.prog 34 #[v, .int .u64 vals] w fun e w' => e = .returned (.bool (allB vals ls)) ∧ Below w.heap.size w w' := by
  have hc := fun w1 (h1 : Below w.heap.size w w1) (h2 : w1.cell? ⟨w.heap.size, 0, none⟩ = some (.int .u64 vals)) (h3 : w.heap.size < w1.heap.size) =>
    containsFuncR_any 66 (.pointer (some ⟨w.heap.size, 0, none⟩)) (fun c => !clB vals c) v ls w1 (hv.below h1) (by intro a w; go_simp)
      (fun x hx w2 h4 r hr => allHold1_any r x vals w.heap.size w2 hr (hb x hx) hvals (by rw [h4.cell h3]; exact h2))
  have Hc := Lib.hid hc; clear hc
  clear hb hv
  go_enter Tryd.func34, Tryd.ntmps34
  go_wp2_with (go_at_call 65; refine (Hc.out _ ((Below.refl _ _).alloc (Nat.le_refl _) _) (by simp [go_sem]) (by simp)).mono ?_; rintro e w' ⟨rfl, hb2⟩; have Hb2 := Lib.hid hb2; clear hb2)
  go_ret
  refine ⟨?_, ((Below.refl _ _).alloc (Nat.le_refl _) _).trans (Hb2.out.mono (by simp))⟩
  show Ending.returned (.bool (!(ls.any fun c => !clB vals c))) = _
  rw [allB, List.not_any_eq_all_not]; simp

end Go.Proofs.YtdeaficdfooegaaDoor
