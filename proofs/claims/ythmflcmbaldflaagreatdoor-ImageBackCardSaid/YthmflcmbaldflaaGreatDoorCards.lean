/-
  DERIVED. GIVEN WITH THE SEED: THE CARDS: each row of YthmflcmbaldflaaGreatDoorRows.lean that lists a variable, with what it lists TIED to the program's text (the seventh form; the later family's looks); each row that meets fmt, with fmt's text TOLD by the authors' own Lean function (tested against real Go, not proved from fmt's source: count such statements apart). THE CARD IS WHAT COUNTS. Prove the row's statement (the work); the ties are given (YthmflcmbaldflaaGreatDoorTie.lean); close each card by the builder's one call (the guide's Derived/Test/ToyasCard.lean, 'card_holds'). Laid BY PROGRAM, IN A SANDBOX (cutbox-door.mjs). By AI agents, Wed Nov 11 2026. No macro, syntax, notation, axiom, sorry.
-/
import Derived.Test.YthmflcmbaldflaaGreatDoorRows
import GoSem.ClaimSeven
namespace Go.Proofs.YthmflcmbaldflaaGreatDoor
namespace Rows

/-- THE TIED CARD OF 'solspacekeep.ImageBit'. -/
def imageBitCard : Claim7 := { stood := { row := imageBitRow, standIns := [], harness := (true, "0d4fb052e2f79fcd323ae79f1a33d381c24a92aee6e88567fbfa95d13e844b5b"), looks := true }, kinds := [], alts := [], laidByText := true, laidKinds := [.data, .data, .data, .data, .handle, .sentinel, .sentinel, .sentinel, .pinned], laidTests := true, laidLooks := .later }
def ImageBitCardSaid : Prop := Claim7.holds Tryz.pinned (.plain (OpenSpec.ofChange imageBitSpec)) imageBitCard

/-- THE TIED CARD OF 'solspacekeep.ImageBack'. -/
def imageBackCard : Claim7 := { stood := { row := imageBackRow, standIns := [], harness := (true, "0d4fb052e2f79fcd323ae79f1a33d381c24a92aee6e88567fbfa95d13e844b5b"), looks := true }, kinds := [], alts := [], laidByText := true, laidKinds := [.data, .data, .data, .data, .handle, .sentinel, .sentinel, .sentinel, .pinned], laidTests := true, laidLooks := .later }
def ImageBackCardSaid : Prop := Claim7.holds Tryz.pinned (.plain (OpenSpec.ofChange imageBackSpec)) imageBackCard

/-- THE SECOND FORM's CARD OF 'solspacekeep.ImageBit'. -/
def imageBitUptoCard : Claim7 := { stood := { row := imageBitUptoRow, standIns := [], harness := (true, "0d4fb052e2f79fcd323ae79f1a33d381c24a92aee6e88567fbfa95d13e844b5b"), looks := true }, kinds := [], alts := [], laidByText := true, laidKinds := [.data, .data, .data, .data, .handle, .sentinel, .sentinel, .sentinel, .pinned], laidTests := true, laidLooks := .later }
def ImageBitUptoCardSaid : Prop := Claim7.holds Tryz.pinned (.plain (OpenSpec.upto imageBitSpec)) imageBitUptoCard

/-- THE SECOND FORM's CARD OF 'solspacekeep.ImageBack'. -/
def imageBackUptoCard : Claim7 := { stood := { row := imageBackUptoRow, standIns := [], harness := (true, "0d4fb052e2f79fcd323ae79f1a33d381c24a92aee6e88567fbfa95d13e844b5b"), looks := true }, kinds := [], alts := [], laidByText := true, laidKinds := [.data, .data, .data, .data, .handle, .sentinel, .sentinel, .sentinel, .pinned], laidTests := true, laidLooks := .later }
def ImageBackUptoCardSaid : Prop := Claim7.holds Tryz.pinned (.plain (OpenSpec.upto imageBackSpec)) imageBackUptoCard
end Rows
end Go.Proofs.YthmflcmbaldflaaGreatDoor
