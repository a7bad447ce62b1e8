/- Some texts in one: HoldsC, AllHold, SInC. -/
import Derived.Test.YtmlfelbkgoplhaaGreatDoorZhPkM
import Derived.Test.YtmlfelbkgoplhaaGreatDoorZhPkH
import Derived.Test.YtmlfelbkgoplhaaGreatDoorZhPkA
import Derived.Deep.QuietTactic
import Derived.BigQuiet
namespace Go.Proofs.YtmlfelbkgoplhaaGreatDoor
open Go.RowKit
theorem shr_and (v k : Nat) (hv : v < 18446744073709551616) : bits BinOp.and IntKind.u64 ((v : Int) / 2 ^ min k 64) 1 = if v.testBit k then 1 else 0 := by
 have e : (v : Int) / 2 ^ min k 64 = ((v / 2 ^ min k 64 : Nat) : Int) := by simp
 have hle : v / 2 ^ min k 64 ≤ v := Nat.div_le_self _ _
 rw [e]
 generalize hq : v / 2 ^ min k 64 = q at hle
 rw [and_one_u64 _ (by omega) (by omega)]
 subst hq
 rcases Nat.lt_or_ge k 64 with h | h
 ·
  rw [Nat.min_eq_left (by omega), Nat.testBit_eq_decide_div_mod_eq]
  generalize v / 2 ^ k = r
  by_cases h1 : r % 2 = 1 <;> simp [h1] <;> omega
 ·
  rw [Nat.min_eq_right h, Nat.testBit_lt_two_pow (Nat.lt_of_lt_of_le hv (show 18446744073709551616 ≤ 2 ^ k from Nat.pow_le_pow_right (n := 2) (i := 64) (by decide) h))]
  have : v / 2 ^ 64 = 0 := Nat.div_eq_of_lt hv
  rw [this]; rfl
theorem bit_is1 (v k : Nat) (hv : v < 18446744073709551616) : (bits BinOp.and IntKind.u64 ((v : Int) / 2 ^ min k 64) 1 == 1) = v.testBit k := by
 rw [shr_and v k hv]; cases v.testBit k <;> rfl
theorem bit_is0 (v k : Nat) (hv : v < 18446744073709551616) : (bits BinOp.and IntKind.u64 ((v : Int) / 2 ^ min k 64) 1 == 0) = !v.testBit k := by
 rw [shr_and v k hv]; cases v.testBit k <;> rfl
set_option maxHeartbeats 400000 in
theorem lit_any (x : Int) (v : Nat) (b o : Nat) (w : World) (hx : -1000 ≤ x) (hx' : x ≤ 1000) (hv : v < 18446744073709551616)
 (hc : w.cell? ⟨b, o, none⟩ = some (.int .u64 v)) :
 Calls Tryz.prog 120 #[.int .i64 x, .pointer (some ⟨b, o, none⟩)] w fun e w' => e = .returned (.bool (litB v x)) ∧ w = w' := by
 by_cases h0 : 0 < x
 ·
  have h1 : 1 ≤ x := by omega
  have h2 : 0 ≤ x - 1 := by omega
  go_enter Tryz.func120, Tryz.ntmps120
  go_wp2
  go_ret
  exact ⟨by rw [litB, if_pos h0, ← bit_is1 v _ hv]; rfl, rfl⟩
 ·
  by_cases h3 : x < 0
  ·
   have h1 : 1 ≤ -x := by omega
   go_enter Tryz.func120, Tryz.ntmps120
   go_wp2
   go_ret
   exact ⟨by rw [litB, if_neg (by omega), decide_eq_true h3, Bool.true_and, ← bit_is0 v _ hv]; rfl, rfl⟩
  ·
   obtain rfl : x = 0 := by omega
   go_enter Tryz.func120, Tryz.ntmps120
   go_wp2
   go_ret
   exact ⟨by rfl, rfl⟩
theorem any_take_succ {p : Int → Bool} {xs : List Int} {k : Nat} (h : k < xs.length) : (xs.take (k + 1)).any p = ((xs.take k).any p || p xs[k]) := by
 rw [List.take_succ_eq_append_getElem h, List.any_append]; simp
def Found (p : Int → Bool) (xs : List Int) (w : World) (e : Ending) (w' : World) : Prop := (∃ n : Int, (0 ≤ n ↔ xs.any p = true) ∧ e = .returned (.int .i64 n)) ∧ w = w'
set_option maxHeartbeats 400000 in
theorem indexFunc_any (g : Nat) (l0 : Value) (p : Int → Bool) (v : Value) (xs : List Int) (w : World) (hv : IsInts w v xs)
 (hcf : ∀ args w, (callFunc g args).run Tryz.prog w = .ok (.enter g args) w)
 (hg : ∀ x, x ∈ xs → Calls Tryz.prog g #[.int .i64 x, l0] w fun e w' => e = .returned (.bool (p x)) ∧ w = w') :
 Calls Tryz.prog 166 #[v, .func (.func g) #[] #[l0]] w (Found p xs w) := by
 obtain ⟨a, b, o, c, rfl, ha, hl, hm, hcell, hblk, hlen⟩ := hv
 unfold maxLen at hm
 have Hg := Lib.hid hg; clear hg
 go_enter Tryz.func166, Tryz.ntmps166
 go_wp2
 go_loopg [8] xs.length (fun gk i wr => w = wr ∧ ∃ k : Nat, k ≤ xs.length ∧ gk = xs.length - k ∧ i = .int .i64 k ∧ (xs.take k).any p = false)
 case atStart => exact ⟨rfl, 0, Nat.zero_le _, rfl, rfl, rfl⟩
 case round =>
  obtain ⟨rfl, k, hk, rfl, rfl, hno⟩ := hrel
  have Hno := Lib.hid hno; clear hno
  by_cases hlt : k < xs.length
  ·
   obtain rfl := ha (by intro h; subst h; simp at hlt)
   have hc := hcell k hlt
   have hts := any_take_succ (p := p) hlt
   have Hts := Lib.hid hts; clear hts
   cases hp : p xs[k]
   ·
    have Hp := Lib.hid hp; clear hp
    go_wp2_with (refine (Hg.out _ (List.getElem_mem hlt)).mono ?_; rw [Hp.out]; rintro e w' ⟨rfl, rfl⟩)
    go_roundg (xs.length - (k + 1))
    case measure => omega
    case rel => exact ⟨rfl, k + 1, by omega, rfl, by go_num, by rw [Hts.out, Hno.out, Hp.out]; rfl⟩
   ·
    have Hp := Lib.hid hp; clear hp
    go_wp2_with (refine (Hg.out _ (List.getElem_mem hlt)).mono ?_; rw [Hp.out]; rintro e w' ⟨rfl, rfl⟩)
    go_ret
    refine ⟨⟨k, ?_, rfl⟩, rfl⟩
    have h2 : xs.any p = true := List.any_eq_true.2 ⟨_, List.getElem_mem hlt, Hp.out⟩
    simp [h2]
  ·
   go_wp2_with fail
   go_ret
   refine ⟨⟨-1, ?_, rfl⟩, rfl⟩
   have := Hno.out
   rw [List.take_of_length_le (by omega)] at this
   simp [this]
set_option maxHeartbeats 400000 in
theorem containsFunc_any (g : Nat) (l0 : Value) (p : Int → Bool) (v : Value) (xs : List Int) (w : World) (hv : IsInts w v xs)
 (hcf : ∀ args w, (callFunc g args).run Tryz.prog w = .ok (.enter g args) w)
 (hg : ∀ x, x ∈ xs → Calls Tryz.prog g #[.int .i64 x, l0] w fun e w' => e = .returned (.bool (p x)) ∧ w = w') :
 Calls Tryz.prog 116 #[v, .func (.func g) #[] #[l0]] w fun e w' => e = .returned (.bool (xs.any p)) ∧ w = w' := by
 have Hi := Lib.hid (indexFunc_any g l0 p v xs w hv hcf hg)
 clear hg hv hcf
 generalize hr : xs.any p = r
 have Hr := Lib.hid hr; clear hr
 go_enter Tryz.func116, Tryz.ntmps116
 go_wp2_with (go_at_call 166; refine Hi.out.mono ?_; rintro e w' ⟨⟨n, hn, rfl⟩, rfl⟩; have Hn := Lib.hid hn; clear hn)
 go_ret
 refine ⟨?_, rfl⟩
 have h1 := Hn.out
 rw [Hr.out] at h1
 show Ending.returned (.bool (decide (0 ≤ n))) = _
 cases r <;> simp at h1 <;> simp [h1]
set_option maxHeartbeats 400000 in
theorem holds_any (v : Value) (xs : List Int) (vals : Nat) (w : World) (hv : IsInts w v xs) (hb : ∀ x ∈ xs, -1000 ≤ x ∧ x ≤ 1000) (hvals : vals < 18446744073709551616) :
 Calls Tryz.prog 68 #[v, .int .u64 vals] w fun e w' => e = .returned (.bool (clB vals xs)) ∧ Below w.heap.size w w' := by
 have hc := fun w1 (h1 : IsInts w1 v xs) (h2 : w1.cell? ⟨w.heap.size, 0, none⟩ = some (.int .u64 vals)) => containsFunc_any 120 (.pointer (some ⟨w.heap.size, 0, none⟩)) (litB vals) v xs w1 h1 (by intro a w; go_simp)
  (fun x hx => lit_any x vals _ 0 w1 (hb x hx).1 (hb x hx).2 hvals h2)
 have Hc := Lib.hid hc; clear hc
 have Hv := Lib.hid hv; clear hv
 clear hb
 go_enter Tryz.func68, Tryz.ntmps68
 go_wp2_with (go_at_call 116; refine (Hc.out _ (Hv.out.below ((Below.refl _ _).alloc (Nat.le_refl _) _)) (by simp [go_sem])).mono ?_; rintro e w' ⟨rfl, rfl⟩)
 go_ret
 exact ⟨rfl, (Below.refl _ _).alloc (Nat.le_refl _) _⟩
end Go.Proofs.YtmlfelbkgoplhaaGreatDoor
namespace Go.Proofs.YtmlfelbkgoplhaaGreatDoor
open Go.RowKit
theorem anyr_take_succ {p : List Int → Bool} {xs : List (List Int)} {k : Nat} (h : k < xs.length) : (xs.take (k + 1)).any p = ((xs.take k).any p || p xs[k]) := by
 rw [List.take_succ_eq_append_getElem h, List.any_append]; simp
def FoundR (p : List Int → Bool) (xs : List (List Int)) (w : World) (e : Ending) (w' : World) : Prop := (∃ n : Int, (0 ≤ n ↔ xs.any p = true) ∧ e = .returned (.int .i64 n)) ∧ Below w.heap.size w w'
def PredR (g : Nat) (l0 : Value) (p : List Int → Bool) (ls : List (List Int)) (w : World) : Prop :=
 ∀ x, x ∈ ls → ∀ w1, Below w.heap.size w w1 → ∀ r, IsInts w1 r x → Calls Tryz.prog g #[r, l0] w1 fun e w' => e = .returned (.bool (p x)) ∧ Below w1.heap.size w1 w'
set_option maxHeartbeats 400000 in
theorem indexFuncR_any (g : Nat) (l0 : Value) (p : List Int → Bool) (v : Value) (xs : List (List Int)) (w : World) (hv : IsRows w v xs)
 (hcf : ∀ args w, (callFunc g args).run Tryz.prog w = .ok (.enter g args) w) (hg : PredR g l0 p xs w) :
 Calls Tryz.prog 119 #[v, .func (.func g) #[] #[l0]] w (FoundR p xs w) := by
 obtain ⟨a, c, rfl, hl, hm, hlen⟩ := hv.shape
 have Hv := Lib.hid hv; clear hv
 go_enter Tryz.func119, Tryz.ntmps119
 go_wp2
 go_loopg [8] xs.length (fun gk i wr => Below w.heap.size w wr ∧ ∃ k : Nat, k ≤ xs.length ∧ gk = xs.length - k ∧ i = .int .i64 k ∧ (xs.take k).any p = false)
 case atStart => exact ⟨Below.refl _ _, 0, Nat.zero_le _, rfl, rfl, rfl⟩
 case round =>
  obtain ⟨hbw, k, hk, rfl, rfl, hno⟩ := hrel
  have Hno := Lib.hid hno; clear hno
  have Hb := Lib.hid hbw; clear hbw
  by_cases hlt : k < xs.length
  ·
   obtain ⟨b, o, rfl, hblk⟩ := Hv.out.addr hlt
   obtain ⟨a2, n2, c2, hc, hr⟩ := (Hv.out.below Hb.out).get hlt
   have Hr := Lib.hid hr; clear hr
   have hts := anyr_take_succ (p := p) hlt
   have Hts := Lib.hid hts; clear hts
   cases hp : p xs[k]
   ·
    have Hp := Lib.hid hp; clear hp
    go_wp2_with (refine (hg _ (List.getElem_mem hlt) _ Hb.out _ Hr.out).mono ?_; rw [Hp.out]; rintro e w' ⟨rfl, hb2⟩; have Hb2 := Lib.hid hb2; clear hb2)
    go_roundg (xs.length - (k + 1))
    case measure => omega
    case rel => exact ⟨Hb.out.trans (Hb2.out.mono Hb.out.size), k + 1, by omega, rfl, by go_num, by rw [Hts.out, Hno.out, Hp.out]; rfl⟩
   ·
    have Hp := Lib.hid hp; clear hp
    go_wp2_with (refine (hg _ (List.getElem_mem hlt) _ Hb.out _ Hr.out).mono ?_; rw [Hp.out]; rintro e w' ⟨rfl, hb2⟩; have Hb2 := Lib.hid hb2; clear hb2)
    go_ret
    refine ⟨⟨k, ?_, rfl⟩, Hb.out.trans (Hb2.out.mono Hb.out.size)⟩
    have h2 : xs.any p = true := List.any_eq_true.2 ⟨_, List.getElem_mem hlt, Hp.out⟩
    simp [h2]
  ·
   go_wp2_with fail
   go_ret
   refine ⟨⟨-1, ?_, rfl⟩, Hb.out⟩
   have := Hno.out
   rw [List.take_of_length_le (by omega)] at this
   simp [this]
set_option maxHeartbeats 400000 in
theorem containsFuncR_any (g : Nat) (l0 : Value) (p : List Int → Bool) (v : Value) (xs : List (List Int)) (w : World) (hv : IsRows w v xs)
 (hcf : ∀ args w, (callFunc g args).run Tryz.prog w = .ok (.enter g args) w) (hg : PredR g l0 p xs w) :
 Calls Tryz.prog 66 #[v, .func (.func g) #[] #[l0]] w fun e w' => e = .returned (.bool (xs.any p)) ∧ Below w.heap.size w w' := by
 have Hi := Lib.hid (indexFuncR_any g l0 p v xs w hv hcf hg)
 clear hg hv hcf
 generalize hr : xs.any p = r
 have Hr := Lib.hid hr; clear hr
 go_enter Tryz.func66, Tryz.ntmps66
 go_wp2_with (go_at_call 119; refine Hi.out.mono ?_; rintro e w' ⟨⟨n, hn, rfl⟩, hb2⟩; have Hb2 := Lib.hid hb2; clear hb2; have Hn := Lib.hid hn; clear hn)
 go_ret
 refine ⟨?_, Hb2.out⟩
 have h1 := Hn.out
 rw [Hr.out] at h1
 show Ending.returned (.bool (decide (0 ≤ n))) = _
 cases r <;> simp at h1 <;> simp [h1]
def Within (m : Int) (ls : List (List Int)) : Prop := ∀ c ∈ ls, ∀ x ∈ c, -m ≤ x ∧ x ≤ m
set_option maxHeartbeats 400000 in
theorem allHold1_any (r : Value) (xs : List Int) (vals b : Nat) (w : World) (hv : IsInts w r xs) (hb : ∀ x ∈ xs, -1000 ≤ x ∧ x ≤ 1000) (hvals : vals < 18446744073709551616)
 (hc : w.cell? ⟨b, 0, none⟩ = some (.int .u64 vals)) :
 Calls Tryz.prog 67 #[r, .pointer (some ⟨b, 0, none⟩)] w fun e w' => e = .returned (.bool (!clB vals xs)) ∧ Below w.heap.size w w' := by
 have Hh := Lib.hid (holds_any r xs vals w hv hb hvals)
 clear hv hb
 go_enter Tryz.func67, Tryz.ntmps67
 go_wp2_with (go_at_call 68; refine Hh.out.mono ?_; rintro e w' ⟨rfl, hb2⟩; have Hb2 := Lib.hid hb2; clear hb2)
 go_ret
 exact ⟨rfl, Hb2.out⟩
set_option maxHeartbeats 400000 in
theorem allHold_any (v : Value) (ls : List (List Int)) (vals : Nat) (w : World) (hv : IsRows w v ls) (hb : Within 1000 ls) (hvals : vals < 18446744073709551616) :
 Calls Tryz.prog 22 #[v, .int .u64 vals] w fun e w' => e = .returned (.bool (allB vals ls)) ∧ Below w.heap.size w w' := by
 have hc := fun w1 (h1 : Below w.heap.size w w1) (h2 : w1.cell? ⟨w.heap.size, 0, none⟩ = some (.int .u64 vals)) (h3 : w.heap.size < w1.heap.size) =>
  containsFuncR_any 67 (.pointer (some ⟨w.heap.size, 0, none⟩)) (fun c => !clB vals c) v ls w1 (hv.below h1) (by intro a w; go_simp)
   (fun x hx w2 h4 r hr => allHold1_any r x vals w.heap.size w2 hr (hb x hx) hvals (by rw [h4.cell h3]; exact h2))
 have Hc := Lib.hid hc; clear hc
 clear hb hv
 go_enter Tryz.func22, Tryz.ntmps22
 go_wp2_with (go_at_call 66; refine (Hc.out _ ((Below.refl _ _).alloc (Nat.le_refl _) _) (by simp [go_sem]) (by simp)).mono ?_; rintro e w' ⟨rfl, hb2⟩; have Hb2 := Lib.hid hb2; clear hb2)
 go_ret
 refine ⟨?_, ((Below.refl _ _).alloc (Nat.le_refl _) _).trans (Hb2.out.mono (by simp))⟩
 show Ending.returned (.bool (!(ls.any fun c => !clB vals c))) = _
 rw [allB, List.not_any_eq_all_not]; simp
end Go.Proofs.YtmlfelbkgoplhaaGreatDoor
namespace Go.Proofs.YtmlfelbkgoplhaaGreatDoor
open Go.RowKit
set_option linter.unusedVariables false
end Go.Proofs.YtmlfelbkgoplhaaGreatDoor
