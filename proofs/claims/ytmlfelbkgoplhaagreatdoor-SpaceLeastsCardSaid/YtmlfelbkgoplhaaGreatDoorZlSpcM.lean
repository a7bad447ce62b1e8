import Derived.Test.YtmlfelbkgoplhaaGreatDoorZlLaid
set_option linter.unusedVariables false
set_option linter.unusedSimpArgs false
namespace Go.Proofs.YtmlfelbkgoplhaaGreatDoor
open Go.RowKit
theorem ziO {n : Nat} (hn : n < 18446744073709551616) {u : Int} (h0 : 0 ≤ u) (h1 : u < 64) : zcb (n : Int) u = zU n u := by
 have h := zly n hn u.toNat (by omega)
 rw [show ((u.toNat : Nat) : Int) = u by omega] at h
 rw [h]
 unfold zU
 rw [decide_eq_true h0, Bool.true_and]
theorem zoO {ls : List zk} {items : List zw} (ho : zbC ls items) : ∀ c ∈ yY (zJ ls items), ∀ x ∈ c, x ≠ 0 ∧ -(items.length : Int) ≤ x ∧ x ≤ items.length := fun c hc => by
 obtain ⟨p, hp, rfl⟩ := List.mem_map.1 hc
 exact (zbv ho p hp).2
theorem zkS {ls : List zk} {items : List zw} (ho : zbC ls items) (h10 : items.length ≤ 10) : ∀ c ∈ yY (zJ ls items), 2 * 2 ^ items.length + c.length * (items.length + 1) ≤ 4000 + 1 := fun c hc => by
 obtain ⟨p, hp, rfl⟩ := List.mem_map.1 hc
 have h1 := (zbv ho p hp).1
 have h2 : 2 ^ items.length ≤ 2 ^ 10 := Nat.pow_le_pow_right (by decide) h10
 have h3 : p.2.length * (items.length + 1) ≤ 25 * 11 := Nat.mul_le_mul h1 (by omega)
 omega
