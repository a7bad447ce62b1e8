/- Steps in memory; plain.At; Size; the functional model of plain.Functions. -/
import Derived.Test.YtdeaficdfooegaaDoorHolds
import Derived.Test.YtdeaficdfooegaaDoorPick
import Derived.Test.YtdeaficdfooegaaDoorRow
import Derived.Deep.Slices
import Derived.Lib.SmallJoins
namespace Go.Proofs.YtdeaficdfooegaaDoor
open Go.RowKit Go.ChangeShapes Go.WideShapes
set_option linter.unusedVariables false

end Go.Proofs.YtdeaficdfooegaaDoor
