import Derived.Test.YtmlfelbkgoplhaaGreatDoorZfPkP
set_option linter.unusedVariables false
set_option linter.unusedSimpArgs false
namespace Go.Proofs.YtmlfelbkgoplhaaGreatDoor
open Go.RowKit
def aT : ByteArray:=⟨#[97]⟩
