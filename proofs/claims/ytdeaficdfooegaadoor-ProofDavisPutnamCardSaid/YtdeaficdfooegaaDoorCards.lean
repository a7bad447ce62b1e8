/-
  DERIVED. GIVEN WITH THE SEED: THE CARDS: each row of YtdeaficdfooegaaDoorRows.lean that lists a variable, with what it lists TIED to the program's text (the seventh form; the later family's looks); each row that meets fmt, with fmt's text TOLD by the authors' own Lean function (tested against real Go, not proved from fmt's source: count such statements apart). THE CARD IS WHAT COUNTS. Prove the row's statement (the work); the ties are given (YtdeaficdfooegaaDoorTie.lean); close each card by the builder's one call (the guide's Derived/Test/ToyasCard.lean, 'card_holds'). Laid BY PROGRAM, IN A SANDBOX (cutbox-door.mjs). By AI agents, Wed Nov 11 2026. No macro, syntax, notation, axiom, sorry.
-/
import Derived.Test.YtdeaficdfooegaaDoorRows
import GoSem.ClaimSeven
namespace Go.Proofs.YtdeaficdfooegaaDoor
namespace Rows

/-- THE TIED CARD OF 'solspacekeep.NatField'. -/
def natFieldCard : Claim7 := { stood := { row := natFieldRow, standIns := [], harness := (true, "3cd80d1933332b347899763a888d482349fe068728829229cc0e608198959917"), looks := true }, kinds := [], alts := [], laidByText := true, laidKinds := [.data, .pinned], laidTests := true, laidLooks := .later }
def NatFieldCardSaid : Prop := Claim7.holds Tryd.pinned (.plain (OpenSpec.ofChange natFieldSpec)) natFieldCard

/-- THE TIED CARD OF 'solspacekeep.BddRanks'. -/
def bddRanksCard : Claim7 := { stood := { row := bddRanksRow, standIns := [], harness := (true, "3cd80d1933332b347899763a888d482349fe068728829229cc0e608198959917"), looks := true }, kinds := [], alts := [], laidByText := true, laidKinds := [.handle], laidTests := true, laidLooks := .later }
def BddRanksCardSaid : Prop := Claim7.holds Tryd.pinned (.plain (OpenSpec.ofChange bddRanksSpec)) bddRanksCard

/-- THE TIED CARD OF 'solspacekeep.ProofRobinson'. -/
def proofRobinsonCard : Claim7 := { stood := { row := proofRobinsonRow, standIns := [], harness := (true, "3cd80d1933332b347899763a888d482349fe068728829229cc0e608198959917"), looks := true }, kinds := [], alts := [], laidByText := true, laidKinds := [.handle], laidTests := true, laidLooks := .later }
def ProofRobinsonCardSaid : Prop := Claim7.holds Tryd.pinned (.plain (OpenSpec.ofChange proofRobinsonSpec)) proofRobinsonCard

/-- THE TIED CARD OF 'solspacekeep.ProofSteps'. -/
def proofStepsCard : Claim7 := { stood := { row := proofStepsRow, standIns := [], harness := (true, "3cd80d1933332b347899763a888d482349fe068728829229cc0e608198959917"), looks := true }, kinds := [], alts := [], laidByText := true, laidKinds := [.handle], laidTests := true, laidLooks := .later }
def ProofStepsCardSaid : Prop := Claim7.holds Tryd.pinned (.plain (OpenSpec.ofChange proofStepsSpec)) proofStepsCard

/-- THE TIED CARD OF 'solspacekeep.ProofDavisPutnam'. -/
def proofDavisPutnamCard : Claim7 := { stood := { row := proofDavisPutnamRow, standIns := [], harness := (true, "3cd80d1933332b347899763a888d482349fe068728829229cc0e608198959917"), looks := true }, kinds := [], alts := [], laidByText := true, laidKinds := [.handle], laidTests := true, laidLooks := .later }
def ProofDavisPutnamCardSaid : Prop := Claim7.holds Tryd.pinned (.plain (OpenSpec.ofChange proofDavisPutnamSpec)) proofDavisPutnamCard

/-- THE SECOND FORM's CARD OF 'solspacekeep.NatField'. -/
def natFieldUptoCard : Claim7 := { stood := { row := natFieldUptoRow, standIns := [], harness := (true, "3cd80d1933332b347899763a888d482349fe068728829229cc0e608198959917"), looks := true }, kinds := [], alts := [], laidByText := true, laidKinds := [.data, .pinned], laidTests := true, laidLooks := .later }
def NatFieldUptoCardSaid : Prop := Claim7.holds Tryd.pinned (.plain (OpenSpec.upto natFieldSpec)) natFieldUptoCard

/-- THE SECOND FORM's CARD OF 'solspacekeep.BddRanks'. -/
def bddRanksUptoCard : Claim7 := { stood := { row := bddRanksUptoRow, standIns := [], harness := (true, "3cd80d1933332b347899763a888d482349fe068728829229cc0e608198959917"), looks := true }, kinds := [], alts := [], laidByText := true, laidKinds := [.handle], laidTests := true, laidLooks := .later }
def BddRanksUptoCardSaid : Prop := Claim7.holds Tryd.pinned (.plain (OpenSpec.upto bddRanksSpec)) bddRanksUptoCard

/-- THE SECOND FORM's CARD OF 'solspacekeep.ProofRobinson'. -/
def proofRobinsonUptoCard : Claim7 := { stood := { row := proofRobinsonUptoRow, standIns := [], harness := (true, "3cd80d1933332b347899763a888d482349fe068728829229cc0e608198959917"), looks := true }, kinds := [], alts := [], laidByText := true, laidKinds := [.handle], laidTests := true, laidLooks := .later }
def ProofRobinsonUptoCardSaid : Prop := Claim7.holds Tryd.pinned (.plain (OpenSpec.upto proofRobinsonSpec)) proofRobinsonUptoCard

/-- THE SECOND FORM's CARD OF 'solspacekeep.ProofSteps'. -/
def proofStepsUptoCard : Claim7 := { stood := { row := proofStepsUptoRow, standIns := [], harness := (true, "3cd80d1933332b347899763a888d482349fe068728829229cc0e608198959917"), looks := true }, kinds := [], alts := [], laidByText := true, laidKinds := [.handle], laidTests := true, laidLooks := .later }
def ProofStepsUptoCardSaid : Prop := Claim7.holds Tryd.pinned (.plain (OpenSpec.upto proofStepsSpec)) proofStepsUptoCard

/-- THE SECOND FORM's CARD OF 'solspacekeep.ProofDavisPutnam'. -/
def proofDavisPutnamUptoCard : Claim7 := { stood := { row := proofDavisPutnamUptoRow, standIns := [], harness := (true, "3cd80d1933332b347899763a888d482349fe068728829229cc0e608198959917"), looks := true }, kinds := [], alts := [], laidByText := true, laidKinds := [.handle], laidTests := true, laidLooks := .later }
def ProofDavisPutnamUptoCardSaid : Prop := Claim7.holds Tryd.pinned (.plain (OpenSpec.upto proofDavisPutnamSpec)) proofDavisPutnamUptoCard
end Rows
end Go.Proofs.YtdeaficdfooegaaDoor
