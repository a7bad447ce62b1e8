import Derived.Test.YtmlfelbkgoplhaaGreatDoorZwListM
import Derived.Test.YtmlfelbkgoplhaaGreatDoorZwPlanM
import Derived.Test.YtmlfelbkgoplhaaGreatDoorZwPkO
set_option linter.unusedVariables false
set_option linter.unusedSimpArgs false
namespace Go.Proofs.YtmlfelbkgoplhaaGreatDoor
open Go.RowKit
def bT : ByteArray := ⟨#[98]⟩
def lb1 : zi := ⟨1, aT, 1, 0, 0, ⟨#[]⟩, [], .slice none 0 0⟩
def lb2 : zi := ⟨1, bT, 1, 0, 0, ⟨#[]⟩, [], .slice none 0 0⟩
