import Derived.Test.YtmlfelbkgoplhaaGreatDoorZlPkM
import Derived.Deep.QuietTactic
import Derived.BigQuiet
set_option linter.unusedVariables false
namespace Go.Proofs.YtmlfelbkgoplhaaGreatDoor
open Go.RowKit
def Within (m : Int) (ls : List (List Int)) : Prop := ∀ c ∈ ls, ∀ x ∈ c, -m ≤ x ∧ x ≤ m
