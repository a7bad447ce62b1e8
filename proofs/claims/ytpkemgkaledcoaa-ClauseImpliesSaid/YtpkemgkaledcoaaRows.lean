/-
  No cell of these rows narrows 'for every input' (looked for: loops, veiled, ifaces, maps, wideKeys, modest, calm, conditions, laid).
  DERIVED. THE GIVEN ROWS OF THIS SEAT. 4 by the template 'for every input the law returns true; each argument reads behind the call as it read before'; 0 by the template 'total and deterministic' (their statements: YtpkemgkaledcoaaTotals.lean).
  GIVEN WITH THE SEED: the statements are not yours to turn. If you find one false, say at which input.
  Laid BY PROGRAM, IN A SANDBOX (cutbox-rows.mjs): the forced cells as the released guide's own fill.sh prints them over the translation 625406045c076a8a… (all of the seat's roots in one cut). By AI agents, Wed Nov 11 2026. No macro, syntax, notation, axiom, sorry.
-/
import Derived.Test.YtpkemgkaledcoaaChecked
import GoSem.Claim
import GoSem.ClaimJoined
import GoSem.ClaimMapViews
import Derived.JoinedTies
import Derived.KernelRfl
namespace Go.Proofs.Ytpkemgkaledcoaa
/- THE CELL 'sum', in the pinned program and in every row, IS THE sha256 OF THE DUMP (.gsa) THAT YtpkemgkaledcoaaProg.lean LOADS. Nothing in Lean hashes anything: it is a label: what it is worth is what the hold of that sum in a sandbox is worth. -/
noncomputable def Try.pinned : Pinned := { name := "ytpkemgkaledcoaa", sum := "625406045c076a8a67d27534c5898332c44fdf896e2332d738585ad76df925fe", checked := Try.checked }
namespace Rows
def none {H : Type} : Left H := { results := [], args := [] }

/-- 'solspacekeep.ProofSound': WHATEVER THE INPUT: true; the input reads as it did. -/
def proofSoundSpec : ChangeSpec := { name := "proofSound", fn := fun _ => fun
  | [d1, d2, d3, d4] => { results := [.lit (.bool true)], args := [d1, d2, d3, d4] }
  | _ => none }
def proofSoundRow : OpenClaim := { program := "ytpkemgkaledcoaa", sum := "625406045c076a8a67d27534c5898332c44fdf896e2332d738585ad76df925fe", func := "solspace/solspacekeep.ProofSound", spec := "proofSound", unfollowed := true, recurses := true, apart := false }
def ProofSoundSaid : Prop := proofSoundRow.holds Try.pinned (OpenSpec.ofChange proofSoundSpec)

/-- ITS FALSE NEIGHBOUR: 'it returns false'. Refute it at one input. -/
def proofSoundWrong : ChangeSpec := { name := "proofSound", fn := fun _ => fun
  | [d1, d2, d3, d4] => { results := [.lit (.bool false)], args := [d1, d2, d3, d4] }
  | _ => none }
def ProofSoundWrongFalsely : Prop := proofSoundRow.holds Try.pinned (OpenSpec.ofChange proofSoundWrong)

/-- 'solspacekeep.ClauseFirst': WHATEVER THE INPUT: true; the input reads as it did. -/
def clauseFirstSpec : ChangeSpec := { name := "clauseFirst", fn := fun _ => fun
  | [d1, d2, d3] => { results := [.lit (.bool true)], args := [d1, d2, d3] }
  | _ => none }
def clauseFirstRow : OpenClaim := { program := "ytpkemgkaledcoaa", sum := "625406045c076a8a67d27534c5898332c44fdf896e2332d738585ad76df925fe", func := "solspace/solspacekeep.ClauseFirst", spec := "clauseFirst", unfollowed := true, recurses := true, apart := false }
def ClauseFirstSaid : Prop := clauseFirstRow.holds Try.pinned (OpenSpec.ofChange clauseFirstSpec)

/-- ITS FALSE NEIGHBOUR: 'it returns false'. Refute it at one input. -/
def clauseFirstWrong : ChangeSpec := { name := "clauseFirst", fn := fun _ => fun
  | [d1, d2, d3] => { results := [.lit (.bool false)], args := [d1, d2, d3] }
  | _ => none }
def ClauseFirstWrongFalsely : Prop := clauseFirstRow.holds Try.pinned (OpenSpec.ofChange clauseFirstWrong)

/-- 'solspacekeep.ClauseImplies': WHATEVER THE INPUT: true; the input reads as it did. -/
def clauseImpliesSpec : ChangeSpec := { name := "clauseImplies", fn := fun _ => fun
  | [d1, d2, d3, d4] => { results := [.lit (.bool true)], args := [d1, d2, d3, d4] }
  | _ => none }
def clauseImpliesRow : OpenClaim := { program := "ytpkemgkaledcoaa", sum := "625406045c076a8a67d27534c5898332c44fdf896e2332d738585ad76df925fe", func := "solspace/solspacekeep.ClauseImplies", spec := "clauseImplies", unfollowed := true, recurses := true, apart := false }
def ClauseImpliesSaid : Prop := clauseImpliesRow.holds Try.pinned (OpenSpec.ofChange clauseImpliesSpec)

/-- ITS FALSE NEIGHBOUR: 'it returns false'. Refute it at one input. -/
def clauseImpliesWrong : ChangeSpec := { name := "clauseImplies", fn := fun _ => fun
  | [d1, d2, d3, d4] => { results := [.lit (.bool false)], args := [d1, d2, d3, d4] }
  | _ => none }
def ClauseImpliesWrongFalsely : Prop := clauseImpliesRow.holds Try.pinned (OpenSpec.ofChange clauseImpliesWrong)

/-- 'solspacekeep.ProofComplete': WHATEVER THE INPUT: true; the input reads as it did. -/
def proofCompleteSpec : ChangeSpec := { name := "proofComplete", fn := fun _ => fun
  | [d1, d2] => { results := [.lit (.bool true)], args := [d1, d2] }
  | _ => none }
def proofCompleteRow : OpenClaim := { program := "ytpkemgkaledcoaa", sum := "625406045c076a8a67d27534c5898332c44fdf896e2332d738585ad76df925fe", func := "solspace/solspacekeep.ProofComplete", spec := "proofComplete", unfollowed := true, recurses := true, apart := false }
def ProofCompleteSaid : Prop := proofCompleteRow.holds Try.pinned (OpenSpec.ofChange proofCompleteSpec)

/-- ITS FALSE NEIGHBOUR: 'it returns false'. Refute it at one input. -/
def proofCompleteWrong : ChangeSpec := { name := "proofComplete", fn := fun _ => fun
  | [d1, d2] => { results := [.lit (.bool false)], args := [d1, d2] }
  | _ => none }
def ProofCompleteWrongFalsely : Prop := proofCompleteRow.holds Try.pinned (OpenSpec.ofChange proofCompleteWrong)

/- THE SECOND FORM. 'bulk': how many values and letters a reading holds, each counted each time it is reached (what is shared counts as often as it is met; a slice's spare places count too). A statement '..UptoSaid' is the law's where the arguments, and the package variables that the reading takes, are together of bulk at most 1048576: NARROWER than '..Said'. Prove '..Said' where nothing that the law and all that it calls make is longer than what came in: it says more and counts as full. Else prove '..UptoSaid'. A law counts once. -/
mutual
def uptoBulk {H : Type} : DataW H → Nat
  | .lit (.string bytes) => bytes.length + 1
  | .lit _ => 1
  | .nil => 1
  | .ptr d => uptoBulk d + 1
  | .slice elems spare => uptoBulkAll elems + uptoBulkAll spare + 1
  | .agg parts => uptoBulkAll parts + 1
  | .iface _ d => uptoBulk d + 1
  | .map entries => uptoBulkEntries entries + 1
  | .held _ => 1
def uptoBulkAll {H : Type} : List (DataW H) → Nat
  | [] => 0
  | d :: r => uptoBulk d + uptoBulkAll r
def uptoBulkEntries {H : Type} : List (Lit × DataW H) → Nat
  | [] => 0
  | x :: r => uptoBulkEntry x + uptoBulkEntries r
def uptoBulkEntry {H : Type} : Lit × DataW H → Nat
  | (.string bytes, d) => bytes.length + uptoBulk d + 1
  | (_, d) => uptoBulk d + 1
 end
def uptoSmall : (H : Type) → List (DataW H) → Bool := fun _ ds => decide (uptoBulkAll ds ≤ 1048576)
def OpenSpec.upto (s : _root_.Go.ChangeSpec) : _root_.Go.OpenSpec := { _root_.Go.OpenSpec.ofChange s with cond := some uptoSmall }

/-- 'solspacekeep.ProofSound', WHERE WHAT IT READS IS OF BULK AT MOST 1048576: true; the input reads as it did. -/
def proofSoundUptoRow : OpenClaim := { program := "ytpkemgkaledcoaa", sum := "625406045c076a8a67d27534c5898332c44fdf896e2332d738585ad76df925fe", func := "solspace/solspacekeep.ProofSound", spec := "proofSound", unfollowed := true, recurses := true, apart := false, narrowed := true }
def ProofSoundUptoSaid : Prop := proofSoundUptoRow.holds Try.pinned (OpenSpec.upto proofSoundSpec)

/-- 'solspacekeep.ClauseFirst', WHERE WHAT IT READS IS OF BULK AT MOST 1048576: true; the input reads as it did. -/
def clauseFirstUptoRow : OpenClaim := { program := "ytpkemgkaledcoaa", sum := "625406045c076a8a67d27534c5898332c44fdf896e2332d738585ad76df925fe", func := "solspace/solspacekeep.ClauseFirst", spec := "clauseFirst", unfollowed := true, recurses := true, apart := false, narrowed := true }
def ClauseFirstUptoSaid : Prop := clauseFirstUptoRow.holds Try.pinned (OpenSpec.upto clauseFirstSpec)

/-- 'solspacekeep.ClauseImplies', WHERE WHAT IT READS IS OF BULK AT MOST 1048576: true; the input reads as it did. -/
def clauseImpliesUptoRow : OpenClaim := { program := "ytpkemgkaledcoaa", sum := "625406045c076a8a67d27534c5898332c44fdf896e2332d738585ad76df925fe", func := "solspace/solspacekeep.ClauseImplies", spec := "clauseImplies", unfollowed := true, recurses := true, apart := false, narrowed := true }
def ClauseImpliesUptoSaid : Prop := clauseImpliesUptoRow.holds Try.pinned (OpenSpec.upto clauseImpliesSpec)

/-- 'solspacekeep.ProofComplete', WHERE WHAT IT READS IS OF BULK AT MOST 1048576: true; the input reads as it did. -/
def proofCompleteUptoRow : OpenClaim := { program := "ytpkemgkaledcoaa", sum := "625406045c076a8a67d27534c5898332c44fdf896e2332d738585ad76df925fe", func := "solspace/solspacekeep.ProofComplete", spec := "proofComplete", unfollowed := true, recurses := true, apart := false, narrowed := true }
def ProofCompleteUptoSaid : Prop := proofCompleteUptoRow.holds Try.pinned (OpenSpec.upto proofCompleteSpec)

end Rows
end Go.Proofs.Ytpkemgkaledcoaa
