/- What keeps to a catalog is what its rules allow: plain. -/
import Derived.Test.YtmlfelbkgoplhaaGreatDoorZhPkH
namespace Go.Proofs.YtmlfelbkgoplhaaGreatDoor
open Go.RowKit
set_option linter.unusedVariables false
end Go.Proofs.YtmlfelbkgoplhaaGreatDoor
