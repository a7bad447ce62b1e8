/-
  NARROWER THAN 'FOR EVERY INPUT', by the rows' own cells (each row's printed sentence says how): NatField: laid · BddRanks: laid · ProofRobinson: laid · ProofSteps: laid · ProofDavisPutnam: laid.
  DERIVED. THE GIVEN ROWS OF THIS SEAT. 5 by the template 'for every input the law returns true; each argument reads behind the call as it read before'; 0 by the template 'total and deterministic' (their statements: YtdeaficdfooegaaDoorTotals.lean).
  GIVEN WITH THE SEED: the statements are not yours to turn. If you find one false, say at which input.
  Laid BY PROGRAM, IN A SANDBOX (cutbox-rows.mjs): the forced cells as the released guide's own fill.sh prints them over the translation 851da2a43120a522… (all of the seat's roots in one cut). By AI agents, Wed Nov 11 2026. No macro, syntax, notation, axiom, sorry.
-/
import Derived.Test.YtdeaficdfooegaaDoorChecked
import GoSem.PinnedTables
import GoSem.Claim
import GoSem.ClaimJoined
import GoSem.ClaimMapViews
import Derived.JoinedTies
import Derived.KernelRfl
namespace Go.Proofs.YtdeaficdfooegaaDoor
/- THE CELL 'sum', in the pinned program and in every row, IS THE sha256 OF THE DUMP (.gsa) THAT YtdeaficdfooegaaDoorProg.lean LOADS. Nothing in Lean hashes anything: it is a label: what it is worth is what the hold of that sum in a sandbox is worth. -/
noncomputable def Tryd.pinned : Pinned := { name := "ytdeaficdfooegaadoor", sum := "851da2a43120a522a23ed5d63c7b9156e52cc19cfc5830d32f1454c3a7e69f40", checked := Tryd.checked }
namespace Rows
def none {H : Type} : Left H := { results := [], args := [] }

/- WHAT THE LISTED PACKAGE-LEVEL VARIABLES READ AS WHEN THE CALL BEGINS. Each datum BY PROGRAM (the guide's laid-datum.mjs) off the statement by which the dump's own 'gosem.cut.vars' lays the variable. In a bare row this is a premise. The card (YtdeaficdfooegaaDoorCards.lean) ties it to the program's text. -/
def laid_unicode_utf8_acceptRanges {H : Type} : DataW H := .agg [.agg [.lit (.int .u8 128), .lit (.int .u8 191)], .agg [.lit (.int .u8 160), .lit (.int .u8 191)], .agg [.lit (.int .u8 128), .lit (.int .u8 159)], .agg [.lit (.int .u8 144), .lit (.int .u8 191)], .agg [.lit (.int .u8 128), .lit (.int .u8 143)], .agg [.lit (.int .u8 0), .lit (.int .u8 0)], .agg [.lit (.int .u8 0), .lit (.int .u8 0)], .agg [.lit (.int .u8 0), .lit (.int .u8 0)], .agg [.lit (.int .u8 0), .lit (.int .u8 0)], .agg [.lit (.int .u8 0), .lit (.int .u8 0)], .agg [.lit (.int .u8 0), .lit (.int .u8 0)], .agg [.lit (.int .u8 0), .lit (.int .u8 0)], .agg [.lit (.int .u8 0), .lit (.int .u8 0)], .agg [.lit (.int .u8 0), .lit (.int .u8 0)], .agg [.lit (.int .u8 0), .lit (.int .u8 0)], .agg [.lit (.int .u8 0), .lit (.int .u8 0)]]
/-- One of Go's own tables, pinned by name: the form's constant. -/
def laid_unicode_utf8_first : DataW Unit := Go.Pinned.utf8First
def laid_errors_errorType {H : Type} : DataW H := .iface "internal/reflectlite.rtype" (.agg [.ptr (.lit (.string [101, 114, 114, 111, 114]))])

/-- 'solspacekeep.NatField': WHATEVER THE INPUT: true; the input reads as it did. -/
def natFieldSpec : ChangeSpec := { name := "natField", fn := fun _ => fun
  | [d1, d2, d3, d4] => { results := [.lit (.bool true)], args := [d1, d2, d3, d4] }
  | _ => none }
def natFieldRow : OpenClaim := { program := "ytdeaficdfooegaadoor", sum := "851da2a43120a522a23ed5d63c7b9156e52cc19cfc5830d32f1454c3a7e69f40", func := "solspace/solspacekeep.NatField", spec := "natField", inPlace := ["internal/bytealg.IndexByteString", "internal/bytealg.IndexString"], unfollowed := true, recurses := true, named := ["unicode/utf8.first", "unicode/utf8.acceptRanges", "math/bits.overflowError", "internal/bytealg.MaxLen"], plainKeys := false, apart := false, laid := [("unicode/utf8.acceptRanges", laid_unicode_utf8_acceptRanges), ("unicode/utf8.first", laid_unicode_utf8_first)] }
def NatFieldSaid : Prop := natFieldRow.holds Tryd.pinned (OpenSpec.ofChange natFieldSpec)

/-- ITS FALSE NEIGHBOUR: 'it returns false'. Refute it at one input. -/
def natFieldWrong : ChangeSpec := { name := "natField", fn := fun _ => fun
  | [d1, d2, d3, d4] => { results := [.lit (.bool false)], args := [d1, d2, d3, d4] }
  | _ => none }
def NatFieldWrongFalsely : Prop := natFieldRow.holds Tryd.pinned (OpenSpec.ofChange natFieldWrong)

/-- 'solspacekeep.BddRanks': WHATEVER THE INPUT: true; the input reads as it did. -/
def bddRanksSpec : ChangeSpec := { name := "bddRanks", fn := fun _ => fun
  | [d1, d2, d3] => { results := [.lit (.bool true)], args := [d1, d2, d3] }
  | _ => none }
def bddRanksRow : OpenClaim := { program := "ytdeaficdfooegaadoor", sum := "851da2a43120a522a23ed5d63c7b9156e52cc19cfc5830d32f1454c3a7e69f40", func := "solspace/solspacekeep.BddRanks", spec := "bddRanks", inPlace := ["internal/reflectlite.ValueOf", "(internal/reflectlite.Value).Type", "(internal/reflectlite.Value).IsNil", "internal/reflectlite.TypeOf", "(internal/reflectlite.Value).Elem", "(internal/reflectlite.Value).Set"], unfollowed := true, recurses := true, named := ["errors.errorType"], plainKeys := false, apart := false, laid := [("errors.errorType", laid_errors_errorType)] }
def BddRanksSaid : Prop := bddRanksRow.holds Tryd.pinned (OpenSpec.ofChange bddRanksSpec)

/-- ITS FALSE NEIGHBOUR: 'it returns false'. Refute it at one input. -/
def bddRanksWrong : ChangeSpec := { name := "bddRanks", fn := fun _ => fun
  | [d1, d2, d3] => { results := [.lit (.bool false)], args := [d1, d2, d3] }
  | _ => none }
def BddRanksWrongFalsely : Prop := bddRanksRow.holds Tryd.pinned (OpenSpec.ofChange bddRanksWrong)

/-- 'solspacekeep.ProofRobinson': WHATEVER THE INPUT: true; the input reads as it did. -/
def proofRobinsonSpec : ChangeSpec := { name := "proofRobinson", fn := fun _ => fun
  | [d1, d2, d3, d4] => { results := [.lit (.bool true)], args := [d1, d2, d3, d4] }
  | _ => none }
def proofRobinsonRow : OpenClaim := { program := "ytdeaficdfooegaadoor", sum := "851da2a43120a522a23ed5d63c7b9156e52cc19cfc5830d32f1454c3a7e69f40", func := "solspace/solspacekeep.ProofRobinson", spec := "proofRobinson", inPlace := ["internal/reflectlite.ValueOf", "(internal/reflectlite.Value).Type", "(internal/reflectlite.Value).IsNil", "internal/reflectlite.TypeOf", "(internal/reflectlite.Value).Elem", "(internal/reflectlite.Value).Set"], unfollowed := true, recurses := true, named := ["errors.errorType"], plainKeys := false, apart := false, laid := [("errors.errorType", laid_errors_errorType)] }
def ProofRobinsonSaid : Prop := proofRobinsonRow.holds Tryd.pinned (OpenSpec.ofChange proofRobinsonSpec)

/-- ITS FALSE NEIGHBOUR: 'it returns false'. Refute it at one input. -/
def proofRobinsonWrong : ChangeSpec := { name := "proofRobinson", fn := fun _ => fun
  | [d1, d2, d3, d4] => { results := [.lit (.bool false)], args := [d1, d2, d3, d4] }
  | _ => none }
def ProofRobinsonWrongFalsely : Prop := proofRobinsonRow.holds Tryd.pinned (OpenSpec.ofChange proofRobinsonWrong)

/-- 'solspacekeep.ProofSteps': WHATEVER THE INPUT: true; the input reads as it did. -/
def proofStepsSpec : ChangeSpec := { name := "proofSteps", fn := fun _ => fun
  | [d1, d2, d3, d4] => { results := [.lit (.bool true)], args := [d1, d2, d3, d4] }
  | _ => none }
def proofStepsRow : OpenClaim := { program := "ytdeaficdfooegaadoor", sum := "851da2a43120a522a23ed5d63c7b9156e52cc19cfc5830d32f1454c3a7e69f40", func := "solspace/solspacekeep.ProofSteps", spec := "proofSteps", inPlace := ["internal/reflectlite.ValueOf", "(internal/reflectlite.Value).Type", "(internal/reflectlite.Value).IsNil", "internal/reflectlite.TypeOf", "(internal/reflectlite.Value).Elem", "(internal/reflectlite.Value).Set"], unfollowed := true, recurses := true, named := ["errors.errorType"], plainKeys := false, apart := false, laid := [("errors.errorType", laid_errors_errorType)] }
def ProofStepsSaid : Prop := proofStepsRow.holds Tryd.pinned (OpenSpec.ofChange proofStepsSpec)

/-- ITS FALSE NEIGHBOUR: 'it returns false'. Refute it at one input. -/
def proofStepsWrong : ChangeSpec := { name := "proofSteps", fn := fun _ => fun
  | [d1, d2, d3, d4] => { results := [.lit (.bool false)], args := [d1, d2, d3, d4] }
  | _ => none }
def ProofStepsWrongFalsely : Prop := proofStepsRow.holds Tryd.pinned (OpenSpec.ofChange proofStepsWrong)

/-- 'solspacekeep.ProofDavisPutnam': WHATEVER THE INPUT: true; the input reads as it did. -/
def proofDavisPutnamSpec : ChangeSpec := { name := "proofDavisPutnam", fn := fun _ => fun
  | [d1, d2] => { results := [.lit (.bool true)], args := [d1, d2] }
  | _ => none }
def proofDavisPutnamRow : OpenClaim := { program := "ytdeaficdfooegaadoor", sum := "851da2a43120a522a23ed5d63c7b9156e52cc19cfc5830d32f1454c3a7e69f40", func := "solspace/solspacekeep.ProofDavisPutnam", spec := "proofDavisPutnam", inPlace := ["internal/reflectlite.ValueOf", "(internal/reflectlite.Value).Type", "(internal/reflectlite.Value).IsNil", "internal/reflectlite.TypeOf", "(internal/reflectlite.Value).Elem", "(internal/reflectlite.Value).Set"], unfollowed := true, recurses := true, named := ["errors.errorType"], plainKeys := false, apart := false, laid := [("errors.errorType", laid_errors_errorType)] }
def ProofDavisPutnamSaid : Prop := proofDavisPutnamRow.holds Tryd.pinned (OpenSpec.ofChange proofDavisPutnamSpec)

/-- ITS FALSE NEIGHBOUR: 'it returns false'. Refute it at one input. -/
def proofDavisPutnamWrong : ChangeSpec := { name := "proofDavisPutnam", fn := fun _ => fun
  | [d1, d2] => { results := [.lit (.bool false)], args := [d1, d2] }
  | _ => none }
def ProofDavisPutnamWrongFalsely : Prop := proofDavisPutnamRow.holds Tryd.pinned (OpenSpec.ofChange proofDavisPutnamWrong)

/- THE SECOND FORM. 'bulk': how many values and letters a reading holds, each counted each time it is reached (what is shared counts as often as it is met; a slice's spare places count too). A statement '..UptoSaid' is the law's where the arguments, and the package variables that the reading takes, are together of bulk at most 1048576: NARROWER than '..Said'. Prove '..Said' where nothing that the law and all that it calls make is longer than what came in: it says more and counts as full. Else prove '..UptoSaid'. A law counts once. -/
mutual
def uptoBulk {H : Type} : DataW H → Nat
  | .lit (.string bytes) => bytes.length + 1
  | .lit _ => 1
  | .nil => 1
  | .ptr d => uptoBulk d + 1
  | .slice elems spare => uptoBulkAll elems + uptoBulkAll spare + 1
  | .agg parts => uptoBulkAll parts + 1
  | .iface _ d => uptoBulk d + 1
  | .map entries => uptoBulkEntries entries + 1
  | .held _ => 1
def uptoBulkAll {H : Type} : List (DataW H) → Nat
  | [] => 0
  | d :: r => uptoBulk d + uptoBulkAll r
def uptoBulkEntries {H : Type} : List (Lit × DataW H) → Nat
  | [] => 0
  | x :: r => uptoBulkEntry x + uptoBulkEntries r
def uptoBulkEntry {H : Type} : Lit × DataW H → Nat
  | (.string bytes, d) => bytes.length + uptoBulk d + 1
  | (_, d) => uptoBulk d + 1
 end
def uptoSmall : (H : Type) → List (DataW H) → Bool := fun _ ds => decide (uptoBulkAll ds ≤ 1048576)
def OpenSpec.upto (s : _root_.Go.ChangeSpec) : _root_.Go.OpenSpec := { _root_.Go.OpenSpec.ofChange s with cond := some uptoSmall }

/-- 'solspacekeep.NatField', WHERE WHAT IT READS IS OF BULK AT MOST 1048576: true; the input reads as it did. -/
def natFieldUptoRow : OpenClaim := { program := "ytdeaficdfooegaadoor", sum := "851da2a43120a522a23ed5d63c7b9156e52cc19cfc5830d32f1454c3a7e69f40", func := "solspace/solspacekeep.NatField", spec := "natField", inPlace := ["internal/bytealg.IndexByteString", "internal/bytealg.IndexString"], unfollowed := true, recurses := true, named := ["unicode/utf8.first", "unicode/utf8.acceptRanges", "math/bits.overflowError", "internal/bytealg.MaxLen"], plainKeys := false, apart := false, laid := [("unicode/utf8.acceptRanges", laid_unicode_utf8_acceptRanges), ("unicode/utf8.first", laid_unicode_utf8_first)], narrowed := true }
def NatFieldUptoSaid : Prop := natFieldUptoRow.holds Tryd.pinned (OpenSpec.upto natFieldSpec)

/-- 'solspacekeep.BddRanks', WHERE WHAT IT READS IS OF BULK AT MOST 1048576: true; the input reads as it did. -/
def bddRanksUptoRow : OpenClaim := { program := "ytdeaficdfooegaadoor", sum := "851da2a43120a522a23ed5d63c7b9156e52cc19cfc5830d32f1454c3a7e69f40", func := "solspace/solspacekeep.BddRanks", spec := "bddRanks", inPlace := ["internal/reflectlite.ValueOf", "(internal/reflectlite.Value).Type", "(internal/reflectlite.Value).IsNil", "internal/reflectlite.TypeOf", "(internal/reflectlite.Value).Elem", "(internal/reflectlite.Value).Set"], unfollowed := true, recurses := true, named := ["errors.errorType"], plainKeys := false, apart := false, laid := [("errors.errorType", laid_errors_errorType)], narrowed := true }
def BddRanksUptoSaid : Prop := bddRanksUptoRow.holds Tryd.pinned (OpenSpec.upto bddRanksSpec)

/-- 'solspacekeep.ProofRobinson', WHERE WHAT IT READS IS OF BULK AT MOST 1048576: true; the input reads as it did. -/
def proofRobinsonUptoRow : OpenClaim := { program := "ytdeaficdfooegaadoor", sum := "851da2a43120a522a23ed5d63c7b9156e52cc19cfc5830d32f1454c3a7e69f40", func := "solspace/solspacekeep.ProofRobinson", spec := "proofRobinson", inPlace := ["internal/reflectlite.ValueOf", "(internal/reflectlite.Value).Type", "(internal/reflectlite.Value).IsNil", "internal/reflectlite.TypeOf", "(internal/reflectlite.Value).Elem", "(internal/reflectlite.Value).Set"], unfollowed := true, recurses := true, named := ["errors.errorType"], plainKeys := false, apart := false, laid := [("errors.errorType", laid_errors_errorType)], narrowed := true }
def ProofRobinsonUptoSaid : Prop := proofRobinsonUptoRow.holds Tryd.pinned (OpenSpec.upto proofRobinsonSpec)

/-- 'solspacekeep.ProofSteps', WHERE WHAT IT READS IS OF BULK AT MOST 1048576: true; the input reads as it did. -/
def proofStepsUptoRow : OpenClaim := { program := "ytdeaficdfooegaadoor", sum := "851da2a43120a522a23ed5d63c7b9156e52cc19cfc5830d32f1454c3a7e69f40", func := "solspace/solspacekeep.ProofSteps", spec := "proofSteps", inPlace := ["internal/reflectlite.ValueOf", "(internal/reflectlite.Value).Type", "(internal/reflectlite.Value).IsNil", "internal/reflectlite.TypeOf", "(internal/reflectlite.Value).Elem", "(internal/reflectlite.Value).Set"], unfollowed := true, recurses := true, named := ["errors.errorType"], plainKeys := false, apart := false, laid := [("errors.errorType", laid_errors_errorType)], narrowed := true }
def ProofStepsUptoSaid : Prop := proofStepsUptoRow.holds Tryd.pinned (OpenSpec.upto proofStepsSpec)

/-- 'solspacekeep.ProofDavisPutnam', WHERE WHAT IT READS IS OF BULK AT MOST 1048576: true; the input reads as it did. -/
def proofDavisPutnamUptoRow : OpenClaim := { program := "ytdeaficdfooegaadoor", sum := "851da2a43120a522a23ed5d63c7b9156e52cc19cfc5830d32f1454c3a7e69f40", func := "solspace/solspacekeep.ProofDavisPutnam", spec := "proofDavisPutnam", inPlace := ["internal/reflectlite.ValueOf", "(internal/reflectlite.Value).Type", "(internal/reflectlite.Value).IsNil", "internal/reflectlite.TypeOf", "(internal/reflectlite.Value).Elem", "(internal/reflectlite.Value).Set"], unfollowed := true, recurses := true, named := ["errors.errorType"], plainKeys := false, apart := false, laid := [("errors.errorType", laid_errors_errorType)], narrowed := true }
def ProofDavisPutnamUptoSaid : Prop := proofDavisPutnamUptoRow.holds Tryd.pinned (OpenSpec.upto proofDavisPutnamSpec)

end Rows
end Go.Proofs.YtdeaficdfooegaaDoor
