/-
  DERIVED. GIVEN WITH THE SEED: THE CARDS: each row of YtheemhelioendaaGreatDoorRows.lean that lists a variable, with what it lists TIED to the program's text (the seventh form; the later family's looks); each row that meets fmt, with fmt's text TOLD by the authors' own Lean function (tested against real Go, not proved from fmt's source: count such statements apart). THE CARD IS WHAT COUNTS. Prove the row's statement (the work); the ties are given (YtheemhelioendaaGreatDoorTie.lean); close each card by the builder's one call (the guide's Derived/Test/ToyasCard.lean, 'card_holds'). Laid BY PROGRAM, IN A SANDBOX (cutbox-door.mjs). By AI agents, Wed Nov 11 2026. No macro, syntax, notation, axiom, sorry.
-/
import Derived.Test.YtheemhelioendaaGreatDoorRows
import GoSem.ClaimSeven
namespace Go.Proofs.YtheemhelioendaaGreatDoor
namespace Rows

/-- THE TIED CARD OF 'solspacekeep.RulesLines'. -/
def rulesLinesCard : Claim7 := { stood := { row := rulesLinesRow, standIns := [], harness := (true, "ebb259fd6ec2d5ae15bdc01d063e9f037a1ea8fdc7f9adb1d408b61a8696c945"), looks := true }, kinds := [], alts := [], laidByText := true, laidKinds := [.data, .data, .data, .data, .handle, .sentinel, .sentinel, .pinned], laidTests := true, laidLooks := .later }
def RulesLinesCardSaid : Prop := Claim7.holds Tryz.pinned (.plain (OpenSpec.ofChange rulesLinesSpec)) rulesLinesCard

/-- THE TIED CARD OF 'solspacekeep.PlanOrdered'. -/
def planOrderedCard : Claim7 := { stood := { row := planOrderedRow, standIns := [], harness := (true, "ebb259fd6ec2d5ae15bdc01d063e9f037a1ea8fdc7f9adb1d408b61a8696c945"), looks := true }, kinds := [], alts := [], laidByText := true, laidKinds := [.data, .data, .data, .data, .handle, .sentinel, .sentinel, .pinned], laidTests := true, laidLooks := .later }
def PlanOrderedCardSaid : Prop := Claim7.holds Tryz.pinned (.plain (OpenSpec.ofChange planOrderedSpec)) planOrderedCard

/-- THE TIED CARD OF 'solspacekeep.CatalogBack'. -/
def catalogBackCard : Claim7 := { stood := { row := catalogBackRow, standIns := [], harness := (true, "ebb259fd6ec2d5ae15bdc01d063e9f037a1ea8fdc7f9adb1d408b61a8696c945"), looks := true }, kinds := [], alts := [], laidByText := true, laidKinds := [.data, .data, .data, .data, .handle, .sentinel, .sentinel, .pinned], laidTests := true, laidLooks := .later }
def CatalogBackCardSaid : Prop := Claim7.holds Tryz.pinned (.plain (OpenSpec.ofChange catalogBackSpec)) catalogBackCard

/-- THE TIED CARD OF 'solspacekeep.PlanRules'. -/
def planRulesCard : Claim7 := { stood := { row := planRulesRow, standIns := [], harness := (true, "ebb259fd6ec2d5ae15bdc01d063e9f037a1ea8fdc7f9adb1d408b61a8696c945"), looks := true }, kinds := [], alts := [], laidByText := true, laidKinds := [.data, .data, .data, .data, .handle, .sentinel, .sentinel, .pinned], laidTests := true, laidLooks := .later }
def PlanRulesCardSaid : Prop := Claim7.holds Tryz.pinned (.plain (OpenSpec.ofChange planRulesSpec)) planRulesCard

/-- THE TIED CARD OF 'solspacekeep.PlanChanges'. -/
def planChangesCard : Claim7 := { stood := { row := planChangesRow, standIns := [], harness := (true, "ebb259fd6ec2d5ae15bdc01d063e9f037a1ea8fdc7f9adb1d408b61a8696c945"), looks := true }, kinds := [], alts := [], laidByText := true, laidKinds := [.data, .data, .data, .data, .handle, .sentinel, .sentinel, .pinned], laidTests := true, laidLooks := .later }
def PlanChangesCardSaid : Prop := Claim7.holds Tryz.pinned (.plain (OpenSpec.ofChange planChangesSpec)) planChangesCard

/-- THE TIED CARD OF 'solspacekeep.ReasonLeast'. -/
def reasonLeastCard : Claim7 := { stood := { row := reasonLeastRow, standIns := [], harness := (true, "ebb259fd6ec2d5ae15bdc01d063e9f037a1ea8fdc7f9adb1d408b61a8696c945"), looks := true }, kinds := [], alts := [], laidByText := true, laidKinds := [.data, .data, .data, .data, .handle, .sentinel, .sentinel, .pinned], laidTests := true, laidLooks := .later }
def ReasonLeastCardSaid : Prop := Claim7.holds Tryz.pinned (.plain (OpenSpec.ofChange reasonLeastSpec)) reasonLeastCard

/-- THE SECOND FORM's CARD OF 'solspacekeep.RulesLines'. -/
def rulesLinesUptoCard : Claim7 := { stood := { row := rulesLinesUptoRow, standIns := [], harness := (true, "ebb259fd6ec2d5ae15bdc01d063e9f037a1ea8fdc7f9adb1d408b61a8696c945"), looks := true }, kinds := [], alts := [], laidByText := true, laidKinds := [.data, .data, .data, .data, .handle, .sentinel, .sentinel, .pinned], laidTests := true, laidLooks := .later }
def RulesLinesUptoCardSaid : Prop := Claim7.holds Tryz.pinned (.plain (OpenSpec.upto rulesLinesSpec)) rulesLinesUptoCard

/-- THE SECOND FORM's CARD OF 'solspacekeep.PlanOrdered'. -/
def planOrderedUptoCard : Claim7 := { stood := { row := planOrderedUptoRow, standIns := [], harness := (true, "ebb259fd6ec2d5ae15bdc01d063e9f037a1ea8fdc7f9adb1d408b61a8696c945"), looks := true }, kinds := [], alts := [], laidByText := true, laidKinds := [.data, .data, .data, .data, .handle, .sentinel, .sentinel, .pinned], laidTests := true, laidLooks := .later }
def PlanOrderedUptoCardSaid : Prop := Claim7.holds Tryz.pinned (.plain (OpenSpec.upto planOrderedSpec)) planOrderedUptoCard

/-- THE SECOND FORM's CARD OF 'solspacekeep.CatalogBack'. -/
def catalogBackUptoCard : Claim7 := { stood := { row := catalogBackUptoRow, standIns := [], harness := (true, "ebb259fd6ec2d5ae15bdc01d063e9f037a1ea8fdc7f9adb1d408b61a8696c945"), looks := true }, kinds := [], alts := [], laidByText := true, laidKinds := [.data, .data, .data, .data, .handle, .sentinel, .sentinel, .pinned], laidTests := true, laidLooks := .later }
def CatalogBackUptoCardSaid : Prop := Claim7.holds Tryz.pinned (.plain (OpenSpec.upto catalogBackSpec)) catalogBackUptoCard

/-- THE SECOND FORM's CARD OF 'solspacekeep.PlanRules'. -/
def planRulesUptoCard : Claim7 := { stood := { row := planRulesUptoRow, standIns := [], harness := (true, "ebb259fd6ec2d5ae15bdc01d063e9f037a1ea8fdc7f9adb1d408b61a8696c945"), looks := true }, kinds := [], alts := [], laidByText := true, laidKinds := [.data, .data, .data, .data, .handle, .sentinel, .sentinel, .pinned], laidTests := true, laidLooks := .later }
def PlanRulesUptoCardSaid : Prop := Claim7.holds Tryz.pinned (.plain (OpenSpec.upto planRulesSpec)) planRulesUptoCard

/-- THE SECOND FORM's CARD OF 'solspacekeep.PlanChanges'. -/
def planChangesUptoCard : Claim7 := { stood := { row := planChangesUptoRow, standIns := [], harness := (true, "ebb259fd6ec2d5ae15bdc01d063e9f037a1ea8fdc7f9adb1d408b61a8696c945"), looks := true }, kinds := [], alts := [], laidByText := true, laidKinds := [.data, .data, .data, .data, .handle, .sentinel, .sentinel, .pinned], laidTests := true, laidLooks := .later }
def PlanChangesUptoCardSaid : Prop := Claim7.holds Tryz.pinned (.plain (OpenSpec.upto planChangesSpec)) planChangesUptoCard

/-- THE SECOND FORM's CARD OF 'solspacekeep.ReasonLeast'. -/
def reasonLeastUptoCard : Claim7 := { stood := { row := reasonLeastUptoRow, standIns := [], harness := (true, "ebb259fd6ec2d5ae15bdc01d063e9f037a1ea8fdc7f9adb1d408b61a8696c945"), looks := true }, kinds := [], alts := [], laidByText := true, laidKinds := [.data, .data, .data, .data, .handle, .sentinel, .sentinel, .pinned], laidTests := true, laidLooks := .later }
def ReasonLeastUptoCardSaid : Prop := Claim7.holds Tryz.pinned (.plain (OpenSpec.upto reasonLeastSpec)) reasonLeastUptoCard
end Rows
end Go.Proofs.YtheemhelioendaaGreatDoor
