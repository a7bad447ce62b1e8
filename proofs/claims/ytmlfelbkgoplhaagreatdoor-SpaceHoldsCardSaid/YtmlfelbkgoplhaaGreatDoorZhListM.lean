/- The written-out catalog of 'listed' and 'ruled'. -/
import Derived.Test.YtmlfelbkgoplhaaGreatDoorZhPkP
import Derived.Test.YtmlfelbkgoplhaaGreatDoorZhPkH
namespace Go.Proofs.YtmlfelbkgoplhaaGreatDoor
open Go.RowKit
set_option linter.unusedVariables false
def aT : ByteArray := ⟨#[97]⟩
end Go.Proofs.YtmlfelbkgoplhaaGreatDoor
