/- Contracts: a clause holds of values. -/
import Derived.Test.YtdeaficdfooegaaDoorHeap
import Derived.Test.YtdeaficdfooegaaDoorSpec
namespace Go.Proofs.YtdeaficdfooegaaDoor
open Go.RowKit

theorem shr_and (v k : Nat) (hv : v < 18446744073709551616) : bits BinOp.and IntKind.u64 ((v : Int) / 2 ^ min k 64) 1 = if v.testBit k then 1 else 0 := by
  have e : (v : Int) / 2 ^ min k 64 = ((v / 2 ^ min k 64 : Nat) : Int) := by simp
  have hle : v / 2 ^ min k 64 ≤ v := Nat.div_le_self _ _
  rw [e]
  generalize hq : v / 2 ^ min k 64 = q at hle
  rw [and_one_u64 _ (by omega) (by omega)]
  subst hq
  rcases Nat.lt_or_ge k 64 with h | h
  · rw [Nat.min_eq_left (by omega), Nat.testBit_eq_decide_div_mod_eq]
    generalize v / 2 ^ k = r
    by_cases h1 : r % 2 = 1 <;> simp [h1] <;> omega
  · rw [Nat.min_eq_right h, Nat.testBit_lt_two_pow (Nat.lt_of_lt_of_le hv (show 18446744073709551616 ≤ 2 ^ k from Nat.pow_le_pow_right (n := 2) (i := 64) (by decide) h))]
    have : v / 2 ^ 64 = 0 := Nat.div_eq_of_lt hv
    rw [this]; rfl
theorem bit_is1 (v k : Nat) (hv : v < 18446744073709551616) : (bits BinOp.and IntKind.u64 ((v : Int) / 2 ^ min k 64) 1 == 1) = v.testBit k := by
  rw [shr_and v k hv]; cases v.testBit k <;> rfl
theorem bit_is0 (v k : Nat) (hv : v < 18446744073709551616) : (bits BinOp.and IntKind.u64 ((v : Int) / 2 ^ min k 64) 1 == 0) = !v.testBit k := by
  rw [shr_and v k hv]; cases v.testBit k <;> rfl

set_option maxHeartbeats 400000 in
theorem lit_any (x : Int) (v : Nat) (b o : Nat) (w : World) (hx : -1000 ≤ x) (hx' : x ≤ 1000) (hv : v < 18446744073709551616)
    (hc : w.cell? ⟨b, o, none⟩ = some (.int .u64 v)) :
    Calls Tryd.prog 63 #[.int .i64 x, .pointer (some ⟨b, o, none⟩)] w fun e w' => e = .returned (.bool (litB v x)) ∧ w = w' := by
  by_cases h0 : 0 < x
  · have h1 : 1 ≤ x := by omega
    have h2 : 0 ≤ x - 1 := by omega
    go_enter Tryd.func63, Tryd.ntmps63
    go_wp2
    go_ret
    exact ⟨by rw [litB, if_pos h0, ← bit_is1 v _ hv]; rfl, rfl⟩
  · by_cases h3 : x < 0
    · have h1 : 1 ≤ -x := by omega
      go_enter Tryd.func63, Tryd.ntmps63
      go_wp2
      go_ret
      exact ⟨by rw [litB, if_neg (by omega), decide_eq_true h3, Bool.true_and, ← bit_is0 v _ hv]; rfl, rfl⟩
    · obtain rfl : x = 0 := by omega
      go_enter Tryd.func63, Tryd.ntmps63
      go_wp2
      go_ret
      exact ⟨by rfl, rfl⟩


theorem any_take_succ {p : Int → Bool} {xs : List Int} {k : Nat} (h : k < xs.length) : (xs.take (k + 1)).any p = ((xs.take k).any p || p xs[k]) := by
  rw [List.take_succ_eq_append_getElem h, List.any_append]; simp

/-- What slices.IndexFunc hands back: not below 0 just if there is one. -/
def Found (p : Int → Bool) (xs : List Int) (w : World) (e : Ending) (w' : World) : Prop := (∃ n : Int, (0 ≤ n ↔ xs.any p = true) ∧ e = .returned (.int .i64 n)) ∧ w = w'

set_option maxHeartbeats 400000 in
theorem indexFunc_any (g : Nat) (l0 : Value) (p : Int → Bool) (v : Value) (xs : List Int) (w : World) (hv : IsInts w v xs)
    (hcf : ∀ args w, (callFunc g args).run Tryd.prog w = .ok (.enter g args) w)
    (hg : ∀ x, x ∈ xs → Calls Tryd.prog g #[.int .i64 x, l0] w fun e w' => e = .returned (.bool (p x)) ∧ w = w') :
    Calls Tryd.prog 101 #[v, .func (.func g) #[] #[l0]] w (Found p xs w) := by
  obtain ⟨a, b, o, c, rfl, ha, hl, hm, hcell, hblk, hlen⟩ := hv
  unfold maxLen at hm
  have Hg := Lib.hid hg; clear hg
  go_enter Tryd.func101, Tryd.ntmps101
  go_wp2
  go_loopg [8] xs.length (fun gk i wr => w = wr ∧ ∃ k : Nat, k ≤ xs.length ∧ gk = xs.length - k ∧ i = .int .i64 k ∧ (xs.take k).any p = false)
  case atStart => exact ⟨rfl, 0, Nat.zero_le _, rfl, rfl, rfl⟩
  case round =>
    obtain ⟨rfl, k, hk, rfl, rfl, hno⟩ := hrel
    have Hno := Lib.hid hno; clear hno
    by_cases hlt : k < xs.length
    · obtain rfl := ha (by intro h; subst h; simp at hlt)
      have hc := hcell k hlt
      have hts := any_take_succ (p := p) hlt
      have Hts := Lib.hid hts; clear hts
      cases hp : p xs[k]
      · have Hp := Lib.hid hp; clear hp
        go_wp2_with (refine (Hg.out _ (List.getElem_mem hlt)).mono ?_; rw [Hp.out]; rintro e w' ⟨rfl, rfl⟩)
        go_roundg (xs.length - (k + 1))
        case measure => omega
        case rel => exact ⟨rfl, k + 1, by omega, rfl, by go_num, by rw [Hts.out, Hno.out, Hp.out]; rfl⟩
      · have Hp := Lib.hid hp; clear hp
        go_wp2_with (refine (Hg.out _ (List.getElem_mem hlt)).mono ?_; rw [Hp.out]; rintro e w' ⟨rfl, rfl⟩)
        go_ret
        refine ⟨⟨k, ?_, rfl⟩, rfl⟩
        have h2 : xs.any p = true := List.any_eq_true.2 ⟨_, List.getElem_mem hlt, Hp.out⟩
        simp [h2]
    · go_wp2_with fail
      go_ret
      refine ⟨⟨-1, ?_, rfl⟩, rfl⟩
      have := Hno.out
      rw [List.take_of_length_le (by omega)] at this
      simp [this]

set_option maxHeartbeats 400000 in
theorem containsFunc_any (g : Nat) (l0 : Value) (p : Int → Bool) (v : Value) (xs : List Int) (w : World) (hv : IsInts w v xs)
    (hcf : ∀ args w, (callFunc g args).run Tryd.prog w = .ok (.enter g args) w)
    (hg : ∀ x, x ∈ xs → Calls Tryd.prog g #[.int .i64 x, l0] w fun e w' => e = .returned (.bool (p x)) ∧ w = w') :
    Calls Tryd.prog 55 #[v, .func (.func g) #[] #[l0]] w fun e w' => e = .returned (.bool (xs.any p)) ∧ w = w' := by
  have Hi := Lib.hid (indexFunc_any g l0 p v xs w hv hcf hg)
  clear hg hv hcf
  generalize hr : xs.any p = r
  have Hr := Lib.hid hr; clear hr
  go_enter Tryd.func55, Tryd.ntmps55
  go_wp2_with (go_at_call 101; refine Hi.out.mono ?_; rintro e w' ⟨⟨n, hn, rfl⟩, rfl⟩; have Hn := Lib.hid hn; clear hn)
  go_ret
  refine ⟨?_, rfl⟩
  have h1 := Hn.out
  rw [Hr.out] at h1
  show Ending.returned (.bool (decide (0 ≤ n))) = _
  cases r <;> simp at h1 <;> simp [h1]

set_option maxHeartbeats 400000 in
/-- clause.Holds. -/
theorem holds_any (v : Value) (xs : List Int) (vals : Nat) (w : World) (hv : IsInts w v xs) (hb : ∀ x ∈ xs, -1000 ≤ x ∧ x ≤ 1000) (hvals : vals < 18446744073709551616) :
    Calls Tryd.prog 31 #[v, .int .u64 vals] w fun e w' => e = .returned (.bool (clB vals xs)) ∧ Below w.heap.size w w' := by
  have hc := fun w1 (h1 : IsInts w1 v xs) (h2 : w1.cell? ⟨w.heap.size, 0, none⟩ = some (.int .u64 vals)) => containsFunc_any 63 (.pointer (some ⟨w.heap.size, 0, none⟩)) (litB vals) v xs w1 h1 (by intro a w; go_simp)
    (fun x hx => lit_any x vals _ 0 w1 (hb x hx).1 (hb x hx).2 hvals h2)
  have Hc := Lib.hid hc; clear hc
  have Hv := Lib.hid hv; clear hv
  clear hb
  go_enter Tryd.func31, Tryd.ntmps31
  go_wp2_with (go_at_call 55; refine (Hc.out _ (Hv.out.below ((Below.refl _ _).alloc (Nat.le_refl _) _)) (by simp [go_sem])).mono ?_; rintro e w' ⟨rfl, rfl⟩)
  go_ret
  exact ⟨rfl, (Below.refl _ _).alloc (Nat.le_refl _) _⟩

end Go.Proofs.YtdeaficdfooegaaDoor
