/- What the space laws share: values as bits; the room. -/
import Derived.Test.YtmlfelbkgoplhaaGreatDoorZhLaid
namespace Go.Proofs.YtmlfelbkgoplhaaGreatDoor
open Go.RowKit
set_option linter.unusedVariables false
theorem bitAt_valN {n : Nat} (hn : n < 18446744073709551616) {u : Int} (h0 : 0 ≤ u) (h1 : u < 64) : bitAt (n : Int) u = valN n u := by
 have h := bitAt_nat n hn u.toNat (by omega)
 rw [show ((u.toNat : Nat) : Int) = u by omega] at h
 rw [h]
 unfold valN
 rw [decide_eq_true h0, Bool.true_and]
theorem rulesZ {ls : List LineM} {items : List ItemM} (ho : CatOk ls items) : ∀ c ∈ clsOf (rulesC ls items), ∀ x ∈ c, x ≠ 0 ∧ -(items.length : Int) ≤ x ∧ x ≤ items.length := fun c hc => by
 obtain ⟨p, hp, rfl⟩ := List.mem_map.1 hc
 exact (rules_bound ho p hp).2
theorem rulesRoom {ls : List LineM} {items : List ItemM} (ho : CatOk ls items) (h10 : items.length ≤ 10) : ∀ c ∈ clsOf (rulesC ls items), 2 * 2 ^ items.length + c.length * (items.length + 1) ≤ 4000 + 1 := fun c hc => by
 obtain ⟨p, hp, rfl⟩ := List.mem_map.1 hc
 have h1 := (rules_bound ho p hp).1
 have h2 : 2 ^ items.length ≤ 2 ^ 10 := Nat.pow_le_pow_right (by decide) h10
 have h3 : p.2.length * (items.length + 1) ≤ 25 * 11 := Nat.mul_le_mul h1 (by omega)
 omega
theorem holdsB {V : Nat} (hV : V ≤ 24) {l : List (List Int)} (hz : ∀ c ∈ l, ∀ x ∈ c, x ≠ 0 ∧ -(V : Int) ≤ x ∧ x ≤ V) {n : Nat} (hn : n < 18446744073709551616) : allV l (bitAt (n : Int)) = allB n l := by
 rw [← allV_B (fun c hc x hx => (hz c hc x hx).1)]
 exact allV_cut hz fun u h0 h1 => bitAt_valN hn h0 (by omega)
end Go.Proofs.YtmlfelbkgoplhaaGreatDoor
