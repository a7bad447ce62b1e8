import Derived.Test.YtmlfelbkgoplhaaGreatDoorZfU
import Derived.Deep.RegionHeld3
import Derived.WalkKit
import Derived.Test.YtmlfelbkgoplhaaGreatDoorProg
set_option linter.unusedVariables false
set_option linter.unusedSimpArgs false
namespace Go.Proofs.YtmlfelbkgoplhaaGreatDoor
open Go.RowKit
section
variable {P : Program} {ops : Array Oper} {Q : Exit → Act → World → Prop} {S : World → Prop} {a : Act} {w : World} {o : Oper} {i d : Nat} {r : List (Nat × Bool)} {v : Value}
structure Upd (a a' : Act) (d : Nat) (v : Value) : Prop where
 ne : ∀ j,j ≠ d → a'.tmps[j]? = a.tmps[j]?
 eq : d < a.tmps.size → a'.tmps[d]? = some v
 size : a'.tmps.size = a.tmps.size
 df : a'.defers = a.defers
theorem Upd.keep {a' : Act} {u x : Value} {j : Nat} (h : Upd a a' d u) (hne : j ≠ d) (hx : a.tmps[j]? = some x) : a'.tmps[j]? = some x:=(h.ne j hne).trans hx
end
section
variable {P : Program} {ops : Array Oper} {Q : Exit → Act → World → Prop} {S : World → Prop} {a : Act} {w : World} {o : Oper} {i d : Nat} {r : List (Nat × Bool)} {v : Value}
end
def zdf (n : Nat) : Code → Option (Array Oper)
 | .region k ops _ => if k = n then some ops else none
 | .seq a b => match zdf n a with
  | some c => some c
  | none => zdf n b
 | .block _ c => zdf n c
 | .scope c => zdf n c
 | .cond _ a b => match zdf n a with
  | some c => some c
  | none => zdf n b
 | .loop c => zdf n c
 | _ => none
