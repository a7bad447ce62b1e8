/-
  DERIVED. GIVEN WITH THE SEED: THE CARDS: each row of YtpnchjbdjcihfaaGreatDoorRows.lean that lists a variable, with what it lists TIED to the program's text (the seventh form; the later family's looks); each row that meets fmt, with fmt's text TOLD by the authors' own Lean function (tested against real Go, not proved from fmt's source: count such statements apart). THE CARD IS WHAT COUNTS. Prove the row's statement (the work); the ties are given (YtpnchjbdjcihfaaGreatDoorTie.lean); close each card by the builder's one call (the guide's Derived/Test/ToyasCard.lean, 'card_holds'). Laid BY PROGRAM, IN A SANDBOX (cutbox-door.mjs). By AI agents, Wed Nov 11 2026. No macro, syntax, notation, axiom, sorry.
-/
import Derived.Test.YtpnchjbdjcihfaaGreatDoorRows
import GoSem.ClaimSeven
namespace Go.Proofs.YtpnchjbdjcihfaaGreatDoor
namespace Rows

/-- THE TIED CARD OF 'solspacekeep.RangeBoole'. -/
def rangeBooleCard : Claim7 := { stood := { row := rangeBooleRow, standIns := [], harness := (true, "b215978e3acd33de223dd29744c8a4513a9e5d026404a11c878f373098fbeed7"), looks := true }, kinds := [], alts := [], laidByText := true, laidKinds := [.data, .data, .data, .data, .handle, .sentinel, .sentinel, .pinned], laidTests := true, laidLooks := .later }
def RangeBooleCardSaid : Prop := Claim7.holds Tryz.pinned (.plain (OpenSpec.ofChange rangeBooleSpec)) rangeBooleCard

/-- THE TIED CARD OF 'solspacekeep.RangeOrders'. -/
def rangeOrdersCard : Claim7 := { stood := { row := rangeOrdersRow, standIns := [], harness := (true, "b215978e3acd33de223dd29744c8a4513a9e5d026404a11c878f373098fbeed7"), looks := true }, kinds := [], alts := [], laidByText := true, laidKinds := [.data, .data, .data, .data, .handle, .sentinel, .sentinel, .pinned], laidTests := true, laidLooks := .later }
def RangeOrdersCardSaid : Prop := Claim7.holds Tryz.pinned (.plain (OpenSpec.ofChange rangeOrdersSpec)) rangeOrdersCard

/-- THE TIED CARD OF 'solspacekeep.RangeBack'. -/
def rangeBackCard : Claim7 := { stood := { row := rangeBackRow, standIns := [], harness := (true, "b215978e3acd33de223dd29744c8a4513a9e5d026404a11c878f373098fbeed7"), looks := true }, kinds := [], alts := [], laidByText := true, laidKinds := [.data, .data, .data, .data, .handle, .sentinel, .sentinel, .pinned], laidTests := true, laidLooks := .later }
def RangeBackCardSaid : Prop := Claim7.holds Tryz.pinned (.plain (OpenSpec.ofChange rangeBackSpec)) rangeBackCard

/-- THE SECOND FORM's CARD OF 'solspacekeep.RangeBoole'. -/
def rangeBooleUptoCard : Claim7 := { stood := { row := rangeBooleUptoRow, standIns := [], harness := (true, "b215978e3acd33de223dd29744c8a4513a9e5d026404a11c878f373098fbeed7"), looks := true }, kinds := [], alts := [], laidByText := true, laidKinds := [.data, .data, .data, .data, .handle, .sentinel, .sentinel, .pinned], laidTests := true, laidLooks := .later }
def RangeBooleUptoCardSaid : Prop := Claim7.holds Tryz.pinned (.plain (OpenSpec.upto rangeBooleSpec)) rangeBooleUptoCard

/-- THE SECOND FORM's CARD OF 'solspacekeep.RangeOrders'. -/
def rangeOrdersUptoCard : Claim7 := { stood := { row := rangeOrdersUptoRow, standIns := [], harness := (true, "b215978e3acd33de223dd29744c8a4513a9e5d026404a11c878f373098fbeed7"), looks := true }, kinds := [], alts := [], laidByText := true, laidKinds := [.data, .data, .data, .data, .handle, .sentinel, .sentinel, .pinned], laidTests := true, laidLooks := .later }
def RangeOrdersUptoCardSaid : Prop := Claim7.holds Tryz.pinned (.plain (OpenSpec.upto rangeOrdersSpec)) rangeOrdersUptoCard

/-- THE SECOND FORM's CARD OF 'solspacekeep.RangeBack'. -/
def rangeBackUptoCard : Claim7 := { stood := { row := rangeBackUptoRow, standIns := [], harness := (true, "b215978e3acd33de223dd29744c8a4513a9e5d026404a11c878f373098fbeed7"), looks := true }, kinds := [], alts := [], laidByText := true, laidKinds := [.data, .data, .data, .data, .handle, .sentinel, .sentinel, .pinned], laidTests := true, laidLooks := .later }
def RangeBackUptoCardSaid : Prop := Claim7.holds Tryz.pinned (.plain (OpenSpec.upto rangeBackSpec)) rangeBackUptoCard
end Rows
end Go.Proofs.YtpnchjbdjcihfaaGreatDoor
