/-
  DERIVED. GIVEN WITH THE SEED: THE CARDS: each row of YtmlfelbkgoplhaaGreatDoorRows.lean that lists a variable, with what it lists TIED to the program's text (the seventh form; the later family's looks); each row that meets fmt, with fmt's text TOLD by the authors' own Lean function (tested against real Go, not proved from fmt's source: count such statements apart). THE CARD IS WHAT COUNTS. Prove the row's statement (the work); the ties are given (YtmlfelbkgoplhaaGreatDoorTie.lean); close each card by the builder's one call (the guide's Derived/Test/ToyasCard.lean, 'card_holds'). Laid BY PROGRAM, IN A SANDBOX (cutbox-door.mjs). By AI agents, Wed Nov 11 2026. No macro, syntax, notation, axiom, sorry.
-/
import Derived.Test.YtmlfelbkgoplhaaGreatDoorRows
import GoSem.ClaimSeven
namespace Go.Proofs.YtmlfelbkgoplhaaGreatDoor
namespace Rows

/-- THE TIED CARD OF 'solspacekeep.SpaceLeasts'. -/
def spaceLeastsCard : Claim7 := { stood := { row := spaceLeastsRow, standIns := [], harness := (true, "80b80b6dc7692cbaa32af5bfbf5f1c556cadb33be65385cf4050e1ca7d715114"), looks := true }, kinds := [], alts := [], laidByText := true, laidKinds := [.data, .data, .data, .data, .handle, .sentinel, .sentinel, .pinned], laidTests := true, laidLooks := .later }
def SpaceLeastsCardSaid : Prop := Claim7.holds Tryz.pinned (.plain (OpenSpec.ofChange spaceLeastsSpec)) spaceLeastsCard

/-- THE TIED CARD OF 'solspacekeep.SpaceHolds'. -/
def spaceHoldsCard : Claim7 := { stood := { row := spaceHoldsRow, standIns := [], harness := (true, "80b80b6dc7692cbaa32af5bfbf5f1c556cadb33be65385cf4050e1ca7d715114"), looks := true }, kinds := [], alts := [], laidByText := true, laidKinds := [.data, .data, .data, .data, .handle, .sentinel, .sentinel, .pinned], laidTests := true, laidLooks := .later }
def SpaceHoldsCardSaid : Prop := Claim7.holds Tryz.pinned (.plain (OpenSpec.ofChange spaceHoldsSpec)) spaceHoldsCard

/-- THE TIED CARD OF 'solspacekeep.SpaceFixed'. -/
def spaceFixedCard : Claim7 := { stood := { row := spaceFixedRow, standIns := [], harness := (true, "80b80b6dc7692cbaa32af5bfbf5f1c556cadb33be65385cf4050e1ca7d715114"), looks := true }, kinds := [], alts := [], laidByText := true, laidKinds := [.data, .data, .data, .data, .handle, .sentinel, .sentinel, .pinned], laidTests := true, laidLooks := .later }
def SpaceFixedCardSaid : Prop := Claim7.holds Tryz.pinned (.plain (OpenSpec.ofChange spaceFixedSpec)) spaceFixedCard

/-- THE TIED CARD OF 'solspacekeep.ShelfBack'. -/
def shelfBackCard : Claim7 := { stood := { row := shelfBackRow, standIns := [], harness := (true, "80b80b6dc7692cbaa32af5bfbf5f1c556cadb33be65385cf4050e1ca7d715114"), looks := true }, kinds := [], alts := [], laidByText := true, laidKinds := [.data, .data, .data, .data, .handle, .sentinel, .sentinel, .pinned], laidTests := true, laidLooks := .later }
def ShelfBackCardSaid : Prop := Claim7.holds Tryz.pinned (.plain (OpenSpec.ofChange shelfBackSpec)) shelfBackCard

/-- THE TIED CARD OF 'solspacekeep.ReasonWhys'. -/
def reasonWhysCard : Claim7 := { stood := { row := reasonWhysRow, standIns := [], harness := (true, "80b80b6dc7692cbaa32af5bfbf5f1c556cadb33be65385cf4050e1ca7d715114"), looks := true }, kinds := [], alts := [], laidByText := true, laidKinds := [.data, .data, .data, .data, .handle, .sentinel, .sentinel, .pinned], laidTests := true, laidLooks := .later }
def ReasonWhysCardSaid : Prop := Claim7.holds Tryz.pinned (.plain (OpenSpec.ofChange reasonWhysSpec)) reasonWhysCard

/-- THE TIED CARD OF 'solspacekeep.ReasonReiters'. -/
def reasonReitersCard : Claim7 := { stood := { row := reasonReitersRow, standIns := [], harness := (true, "80b80b6dc7692cbaa32af5bfbf5f1c556cadb33be65385cf4050e1ca7d715114"), looks := true }, kinds := [], alts := [], laidByText := true, laidKinds := [.data, .data, .data, .data, .handle, .sentinel, .sentinel, .pinned], laidTests := true, laidLooks := .later }
def ReasonReitersCardSaid : Prop := Claim7.holds Tryz.pinned (.plain (OpenSpec.ofChange reasonReitersSpec)) reasonReitersCard

/-- THE SECOND FORM's CARD OF 'solspacekeep.SpaceLeasts'. -/
def spaceLeastsUptoCard : Claim7 := { stood := { row := spaceLeastsUptoRow, standIns := [], harness := (true, "80b80b6dc7692cbaa32af5bfbf5f1c556cadb33be65385cf4050e1ca7d715114"), looks := true }, kinds := [], alts := [], laidByText := true, laidKinds := [.data, .data, .data, .data, .handle, .sentinel, .sentinel, .pinned], laidTests := true, laidLooks := .later }
def SpaceLeastsUptoCardSaid : Prop := Claim7.holds Tryz.pinned (.plain (OpenSpec.upto spaceLeastsSpec)) spaceLeastsUptoCard

/-- THE SECOND FORM's CARD OF 'solspacekeep.SpaceHolds'. -/
def spaceHoldsUptoCard : Claim7 := { stood := { row := spaceHoldsUptoRow, standIns := [], harness := (true, "80b80b6dc7692cbaa32af5bfbf5f1c556cadb33be65385cf4050e1ca7d715114"), looks := true }, kinds := [], alts := [], laidByText := true, laidKinds := [.data, .data, .data, .data, .handle, .sentinel, .sentinel, .pinned], laidTests := true, laidLooks := .later }
def SpaceHoldsUptoCardSaid : Prop := Claim7.holds Tryz.pinned (.plain (OpenSpec.upto spaceHoldsSpec)) spaceHoldsUptoCard

/-- THE SECOND FORM's CARD OF 'solspacekeep.SpaceFixed'. -/
def spaceFixedUptoCard : Claim7 := { stood := { row := spaceFixedUptoRow, standIns := [], harness := (true, "80b80b6dc7692cbaa32af5bfbf5f1c556cadb33be65385cf4050e1ca7d715114"), looks := true }, kinds := [], alts := [], laidByText := true, laidKinds := [.data, .data, .data, .data, .handle, .sentinel, .sentinel, .pinned], laidTests := true, laidLooks := .later }
def SpaceFixedUptoCardSaid : Prop := Claim7.holds Tryz.pinned (.plain (OpenSpec.upto spaceFixedSpec)) spaceFixedUptoCard

/-- THE SECOND FORM's CARD OF 'solspacekeep.ShelfBack'. -/
def shelfBackUptoCard : Claim7 := { stood := { row := shelfBackUptoRow, standIns := [], harness := (true, "80b80b6dc7692cbaa32af5bfbf5f1c556cadb33be65385cf4050e1ca7d715114"), looks := true }, kinds := [], alts := [], laidByText := true, laidKinds := [.data, .data, .data, .data, .handle, .sentinel, .sentinel, .pinned], laidTests := true, laidLooks := .later }
def ShelfBackUptoCardSaid : Prop := Claim7.holds Tryz.pinned (.plain (OpenSpec.upto shelfBackSpec)) shelfBackUptoCard

/-- THE SECOND FORM's CARD OF 'solspacekeep.ReasonWhys'. -/
def reasonWhysUptoCard : Claim7 := { stood := { row := reasonWhysUptoRow, standIns := [], harness := (true, "80b80b6dc7692cbaa32af5bfbf5f1c556cadb33be65385cf4050e1ca7d715114"), looks := true }, kinds := [], alts := [], laidByText := true, laidKinds := [.data, .data, .data, .data, .handle, .sentinel, .sentinel, .pinned], laidTests := true, laidLooks := .later }
def ReasonWhysUptoCardSaid : Prop := Claim7.holds Tryz.pinned (.plain (OpenSpec.upto reasonWhysSpec)) reasonWhysUptoCard

/-- THE SECOND FORM's CARD OF 'solspacekeep.ReasonReiters'. -/
def reasonReitersUptoCard : Claim7 := { stood := { row := reasonReitersUptoRow, standIns := [], harness := (true, "80b80b6dc7692cbaa32af5bfbf5f1c556cadb33be65385cf4050e1ca7d715114"), looks := true }, kinds := [], alts := [], laidByText := true, laidKinds := [.data, .data, .data, .data, .handle, .sentinel, .sentinel, .pinned], laidTests := true, laidLooks := .later }
def ReasonReitersUptoCardSaid : Prop := Claim7.holds Tryz.pinned (.plain (OpenSpec.upto reasonReitersSpec)) reasonReitersUptoCard
end Rows
end Go.Proofs.YtmlfelbkgoplhaaGreatDoor
