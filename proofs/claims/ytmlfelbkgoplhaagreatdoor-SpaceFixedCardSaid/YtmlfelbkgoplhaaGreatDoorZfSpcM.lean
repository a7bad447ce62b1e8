import Derived.Test.YtmlfelbkgoplhaaGreatDoorZfLaid
set_option linter.unusedVariables false
set_option linter.unusedSimpArgs false
namespace Go.Proofs.YtmlfelbkgoplhaaGreatDoor
open Go.RowKit
theorem zq9 {ls : List zm} {items : List zA} (ho : zbu ls items) : ∀ c ∈ yB (zJ ls items),∀ x ∈ c,x ≠ 0 ∧ -(items.length : Int) ≤ x ∧ x ≤ items.length:=fun c hc => by
 obtain ⟨p,hp,rfl⟩:=List.mem_map.1 hc
 exact (jX ho p hp).2
theorem zmw {ls : List zm} {items : List zA} (ho : zbu ls items) (h10 : items.length ≤ 10) : ∀ c ∈ yB (zJ ls items),2 * 2 ^ items.length + c.length * (items.length + 1) ≤ 4000 + 1:=fun c hc => by
 obtain ⟨p,hp,rfl⟩:=List.mem_map.1 hc
 have h1:=(jX ho p hp).1
 have h2 : 2 ^ items.length ≤ 2 ^ 10:=Nat.pow_le_pow_right (by decide) h10
 have h3 : p.2.length * (items.length + 1) ≤ 25 * 11:=Nat.mul_le_mul h1 (by omega)
 omega
