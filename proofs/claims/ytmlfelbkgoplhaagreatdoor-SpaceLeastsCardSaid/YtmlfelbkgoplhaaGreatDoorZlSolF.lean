import Derived.Test.YtmlfelbkgoplhaaGreatDoorZlPkZ
set_option linter.unusedVariables false
set_option linter.unusedSimpArgs false
namespace Go.Proofs.YtmlfelbkgoplhaaGreatDoor
open Go.RowKit
def canF : Nat → Cells → Int → Bool → Int → Bool
 | 0, _, _, _, _ => false
 | f + 1, c, v, is, h => match getM c h with
  | none => h == 1
  | some n => ((decide (n.1 ≠ v) || is) && canF f c v is n.2.2) || ((decide (n.1 ≠ v) || !is) && canF f c v is n.2.1)
def canX (c : Cells) (v : Int) (is : Bool) (h : Int) : Bool := canF 25 c v is h
