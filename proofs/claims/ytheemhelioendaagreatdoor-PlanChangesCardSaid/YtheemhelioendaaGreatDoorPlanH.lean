/- Contracts: plan.has, what looks for an int, the closures of Fits and Order. -/
import Derived.Test.YtheemhelioendaaGreatDoorPkL
import Derived.Test.YtheemhelioendaaGreatDoorPkI
import Derived.Test.YtheemhelioendaaGreatDoorPkO
import Derived.Test.YtheemhelioendaaGreatDoorFitM
namespace Go.Proofs.YtheemhelioendaaGreatDoor
open Go.RowKit
set_option linter.unusedVariables false

set_option maxHeartbeats 400000 in
theorem bitHas_any (v k : Nat) (w : World) (hv : v < 18446744073709551616) : Calls Tryz.prog 38 #[.int .u64 v, .int .i64 k] w fun e w' => e = .returned (.bool (v.testBit k)) ∧ w = w' := by
  have h1 : 0 ≤ (k : Int) := by omega
  go_enter Tryz.func38, Tryz.ntmps38
  go_wp2
  go_ret
  exact ⟨by rw [← bit_is1 v _ hv]; rfl, rfl⟩
set_option maxHeartbeats 400000 in
theorem indexFuncI_any (g : Nat) (l0 : Value) (p : Int → Bool) (v : Value) (xs : List Int) (w : World) (hv : IsInts w v xs)
    (hcf : ∀ args w, (callFunc g args).run Tryz.prog w = .ok (.enter g args) w)
    (hg : ∀ x, x ∈ xs → Calls Tryz.prog g #[.int .i64 x, l0] w fun e w' => e = .returned (.bool (p x)) ∧ w = w') :
    Calls Tryz.prog 70 #[v, .func (.func g) #[] #[l0]] w (Found p xs w) := by
  obtain ⟨a, b, o, c, rfl, ha, hl, hm, hcell, hblk, hlen⟩ := hv
  unfold maxLen at hm
  have Hg := Lib.hid hg; clear hg
  go_enter Tryz.func70, Tryz.ntmps70
  go_wp2
  go_loopg [8] xs.length (fun gk i wr => w = wr ∧ ∃ k : Nat, k ≤ xs.length ∧ gk = xs.length - k ∧ i = .int .i64 k ∧ (xs.take k).any p = false)
  case atStart => exact ⟨rfl, 0, Nat.zero_le _, rfl, rfl, rfl⟩
  case round =>
    obtain ⟨rfl, k, hk, rfl, rfl, hno⟩ := hrel
    have Hno := Lib.hid hno; clear hno
    by_cases hlt : k < xs.length
    · obtain rfl := ha (by intro h; subst h; simp at hlt)
      have hc := hcell k hlt
      have hts := any_take_succ (p := p) hlt
      have Hts := Lib.hid hts; clear hts
      cases hp : p xs[k]
      · have Hp := Lib.hid hp; clear hp
        go_wp2_with (refine (Hg.out _ (List.getElem_mem hlt)).mono ?_; rw [Hp.out]; rintro e w' ⟨rfl, rfl⟩)
        go_roundg (xs.length - (k + 1))
        case measure => omega
        case rel => exact ⟨rfl, k + 1, by omega, rfl, by go_num, by rw [Hts.out, Hno.out, Hp.out]; rfl⟩
      · have Hp := Lib.hid hp; clear hp
        go_wp2_with (refine (Hg.out _ (List.getElem_mem hlt)).mono ?_; rw [Hp.out]; rintro e w' ⟨rfl, rfl⟩)
        go_ret
        refine ⟨⟨k, ?_, rfl⟩, rfl⟩
        have h2 : xs.any p = true := List.any_eq_true.2 ⟨_, List.getElem_mem hlt, Hp.out⟩
        simp [h2]
    · go_wp2_with fail
      go_ret
      refine ⟨⟨-1, ?_, rfl⟩, rfl⟩
      have := Hno.out
      rw [List.take_of_length_le (by omega)] at this
      simp [this]
set_option maxHeartbeats 400000 in
theorem containsFuncI_any (g : Nat) (l0 : Value) (p : Int → Bool) (v : Value) (xs : List Int) (w : World) (hv : IsInts w v xs)
    (hcf : ∀ args w, (callFunc g args).run Tryz.prog w = .ok (.enter g args) w)
    (hg : ∀ x, x ∈ xs → Calls Tryz.prog g #[.int .i64 x, l0] w fun e w' => e = .returned (.bool (p x)) ∧ w = w') :
    Calls Tryz.prog 39 #[v, .func (.func g) #[] #[l0]] w fun e w' => e = .returned (.bool (xs.any p)) ∧ w = w' := by
  have Hi := Lib.hid (indexFuncI_any g l0 p v xs w hv hcf hg)
  clear hg hv hcf
  generalize hr : xs.any p = r
  have Hr := Lib.hid hr; clear hr
  go_enter Tryz.func39, Tryz.ntmps39
  go_wp2_with (go_at_call 70; refine Hi.out.mono ?_; rintro e w' ⟨⟨n, hn, rfl⟩, rfl⟩; have Hn := Lib.hid hn; clear hn)
  go_ret
  refine ⟨?_, rfl⟩
  have h1 := Hn.out
  rw [Hr.out] at h1
  show Ending.returned (.bool (decide (0 ≤ n))) = _
  cases r <;> simp at h1 <;> simp [h1]
set_option maxHeartbeats 400000 in
theorem fits1_any (x v b : Nat) (w : World) (hv : v < 18446744073709551616) (hc : w.cell? ⟨b, 0, none⟩ = some (.int .u64 v)) :
    Calls Tryz.prog 41 #[.int .i64 x, .pointer (some ⟨b, 0, none⟩)] w fun e w' => e = .returned (.bool (v.testBit x)) ∧ w = w' := by
  have H := Lib.hid (bitHas_any v x w hv)
  go_enter Tryz.func41, Tryz.ntmps41
  go_wp2_with fail
  refine H.out.mono ?_
  rintro e w' ⟨rfl, rfl⟩
  go_wp2_with fail
  go_ret
  exact ⟨rfl, rfl⟩
set_option maxHeartbeats 400000 in
theorem fits2_any (x v b : Nat) (w : World) (hv : v < 18446744073709551616) (hc : w.cell? ⟨b, 0, none⟩ = some (.int .u64 v)) :
    Calls Tryz.prog 42 #[.int .i64 x, .pointer (some ⟨b, 0, none⟩)] w fun e w' => e = .returned (.bool (v.testBit x)) ∧ w = w' := by
  have H := Lib.hid (bitHas_any v x w hv)
  go_enter Tryz.func42, Tryz.ntmps42
  go_wp2_with fail
  refine H.out.mono ?_
  rintro e w' ⟨rfl, rfl⟩
  go_wp2_with fail
  go_ret
  exact ⟨rfl, rfl⟩
set_option maxHeartbeats 400000 in
theorem order1_any (x v b : Nat) (w : World) (hv : v < 18446744073709551616) (hc : w.cell? ⟨b, 0, none⟩ = some (.int .u64 v)) :
    Calls Tryz.prog 40 #[.int .i64 x, .pointer (some ⟨b, 0, none⟩)] w fun e w' => e = .returned (.bool (!v.testBit x)) ∧ w = w' := by
  have H := Lib.hid (bitHas_any v x w hv)
  go_enter Tryz.func40, Tryz.ntmps40
  go_wp2_with fail
  refine H.out.mono ?_
  rintro e w' ⟨rfl, rfl⟩
  go_wp2_with fail
  go_ret
  exact ⟨rfl, rfl⟩
/-- Is one of some numbers in the set? -/
theorem some_any (g : Nat) (v : Value) (am : List Nat) (set b base : Nat) (w : World) (hv : OutI w base v (am.map fun k : Nat => (k : Int))) (hn : am.length ≤ 100000)
    (hcf : ∀ args w, (callFunc g args).run Tryz.prog w = .ok (.enter g args) w)
    (hg : ∀ x : Nat, Calls Tryz.prog g #[.int .i64 x, .pointer (some ⟨b, 0, none⟩)] w fun e w' => e = .returned (.bool (set.testBit x)) ∧ w = w') :
    Calls Tryz.prog 39 #[v, .func (.func g) #[] #[.pointer (some ⟨b, 0, none⟩)]] w fun e w' => e = .returned (.bool (someI set am)) ∧ w = w' := by
  have h := containsFuncI_any g (.pointer (some ⟨b, 0, none⟩)) (fun x => set.testBit x.toNat) v _ w (OutI.ints hv (by rw [List.length_map]; exact hn)) hcf (fun x hx => by
    obtain ⟨k, _, rfl⟩ := List.mem_map.1 hx
    exact hg k)
  rw [List.any_map] at h
  exact h
/-- The same, of what is not in a set. -/
theorem lacks_any (g : Nat) (v : Value) (am : List Nat) (set b base : Nat) (w : World) (hv : OutI w base v (am.map fun k : Nat => (k : Int))) (hn : am.length ≤ 100000)
    (hcf : ∀ args w, (callFunc g args).run Tryz.prog w = .ok (.enter g args) w)
    (hg : ∀ x : Nat, Calls Tryz.prog g #[.int .i64 x, .pointer (some ⟨b, 0, none⟩)] w fun e w' => e = .returned (.bool (!set.testBit x)) ∧ w = w') :
    Calls Tryz.prog 39 #[v, .func (.func g) #[] #[.pointer (some ⟨b, 0, none⟩)]] w fun e w' => e = .returned (.bool (am.any fun k => !set.testBit k)) ∧ w = w' := by
  have h := containsFuncI_any g (.pointer (some ⟨b, 0, none⟩)) (fun x => !set.testBit x.toNat) v _ w (OutI.ints hv (by rw [List.length_map]; exact hn)) hcf (fun x hx => by
    obtain ⟨k, _, rfl⟩ := List.mem_map.1 hx
    exact hg k)
  rw [List.any_map] at h
  exact h
end Go.Proofs.YtheemhelioendaaGreatDoor
