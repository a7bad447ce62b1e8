/-
  No cell of these rows narrows 'for every input' (looked for: loops, veiled, ifaces, maps, wideKeys, modest, calm, conditions, laid).
  DERIVED. THE GIVEN ROWS OF THIS SEAT. 8 by the template 'for every input the law returns true; each argument reads behind the call as it read before'; 0 by the template 'total and deterministic' (their statements: YtmlnfbageoabnaaTotals.lean).
  GIVEN WITH THE SEED: the statements are not yours to turn. If you find one false, say at which input.
  Laid BY PROGRAM, IN A SANDBOX (cutbox-rows.mjs): the forced cells as the released guide's own fill.sh prints them over the translation 0987414581d6d07a… (all of the seat's roots in one cut). By AI agents, Wed Nov 11 2026. No macro, syntax, notation, axiom, sorry.
-/
import Derived.Test.YtmlnfbageoabnaaChecked
import GoSem.Claim
import GoSem.ClaimJoined
import GoSem.ClaimMapViews
import Derived.JoinedTies
import Derived.KernelRfl
namespace Go.Proofs.Ytmlnfbageoabnaa
/- THE CELL 'sum', in the pinned program and in every row, IS THE sha256 OF THE DUMP (.gsa) THAT YtmlnfbageoabnaaProg.lean LOADS. Nothing in Lean hashes anything: it is a label: what it is worth is what the hold of that sum in a sandbox is worth. -/
noncomputable def Try.pinned : Pinned := { name := "ytmlnfbageoabnaa", sum := "0987414581d6d07ad567148bf3454bf566f7c03dda0f0df757f3621ab5efa44d", checked := Try.checked }
namespace Rows
def none {H : Type} : Left H := { results := [], args := [] }

/-- 'solspacekeep.ArenaOnce': WHATEVER THE INPUT: true; the input reads as it did. -/
def arenaOnceSpec : ChangeSpec := { name := "arenaOnce", fn := fun _ => fun
  | [d1, d2, d3, d4] => { results := [.lit (.bool true)], args := [d1, d2, d3, d4] }
  | _ => none }
def arenaOnceRow : OpenClaim := { program := "ytmlnfbageoabnaa", sum := "0987414581d6d07ad567148bf3454bf566f7c03dda0f0df757f3621ab5efa44d", func := "solspace/solspacekeep.ArenaOnce", spec := "arenaOnce", plainKeys := false, apart := false }
def ArenaOnceSaid : Prop := arenaOnceRow.holds Try.pinned (OpenSpec.ofChange arenaOnceSpec)

/-- ITS FALSE NEIGHBOUR: 'it returns false'. Refute it at one input. -/
def arenaOnceWrong : ChangeSpec := { name := "arenaOnce", fn := fun _ => fun
  | [d1, d2, d3, d4] => { results := [.lit (.bool false)], args := [d1, d2, d3, d4] }
  | _ => none }
def ArenaOnceWrongFalsely : Prop := arenaOnceRow.holds Try.pinned (OpenSpec.ofChange arenaOnceWrong)

/-- 'solspacekeep.BddShannon': WHATEVER THE INPUT: true; the input reads as it did. -/
def bddShannonSpec : ChangeSpec := { name := "bddShannon", fn := fun _ => fun
  | [d1, d2, d3] => { results := [.lit (.bool true)], args := [d1, d2, d3] }
  | _ => none }
def bddShannonRow : OpenClaim := { program := "ytmlnfbageoabnaa", sum := "0987414581d6d07ad567148bf3454bf566f7c03dda0f0df757f3621ab5efa44d", func := "solspace/solspacekeep.BddShannon", spec := "bddShannon", unfollowed := true, recurses := true, plainKeys := false, apart := false }
def BddShannonSaid : Prop := bddShannonRow.holds Try.pinned (OpenSpec.ofChange bddShannonSpec)

/-- ITS FALSE NEIGHBOUR: 'it returns false'. Refute it at one input. -/
def bddShannonWrong : ChangeSpec := { name := "bddShannon", fn := fun _ => fun
  | [d1, d2, d3] => { results := [.lit (.bool false)], args := [d1, d2, d3] }
  | _ => none }
def BddShannonWrongFalsely : Prop := bddShannonRow.holds Try.pinned (OpenSpec.ofChange bddShannonWrong)

/-- 'solspacekeep.BddFrees': WHATEVER THE INPUT: true; the input reads as it did. -/
def bddFreesSpec : ChangeSpec := { name := "bddFrees", fn := fun _ => fun
  | [d1, d2, d3, d4] => { results := [.lit (.bool true)], args := [d1, d2, d3, d4] }
  | _ => none }
def bddFreesRow : OpenClaim := { program := "ytmlnfbageoabnaa", sum := "0987414581d6d07ad567148bf3454bf566f7c03dda0f0df757f3621ab5efa44d", func := "solspace/solspacekeep.BddFrees", spec := "bddFrees", unfollowed := true, recurses := true, plainKeys := false, apart := false }
def BddFreesSaid : Prop := bddFreesRow.holds Try.pinned (OpenSpec.ofChange bddFreesSpec)

/-- ITS FALSE NEIGHBOUR: 'it returns false'. Refute it at one input. -/
def bddFreesWrong : ChangeSpec := { name := "bddFrees", fn := fun _ => fun
  | [d1, d2, d3, d4] => { results := [.lit (.bool false)], args := [d1, d2, d3, d4] }
  | _ => none }
def BddFreesWrongFalsely : Prop := bddFreesRow.holds Try.pinned (OpenSpec.ofChange bddFreesWrong)

/-- 'solspacekeep.BddBoole': WHATEVER THE INPUT: true; the input reads as it did. -/
def bddBooleSpec : ChangeSpec := { name := "bddBoole", fn := fun _ => fun
  | [d1, d2, d3, d4, d5] => { results := [.lit (.bool true)], args := [d1, d2, d3, d4, d5] }
  | _ => none }
def bddBooleRow : OpenClaim := { program := "ytmlnfbageoabnaa", sum := "0987414581d6d07ad567148bf3454bf566f7c03dda0f0df757f3621ab5efa44d", func := "solspace/solspacekeep.BddBoole", spec := "bddBoole", unfollowed := true, recurses := true, plainKeys := false, apart := false }
def BddBooleSaid : Prop := bddBooleRow.holds Try.pinned (OpenSpec.ofChange bddBooleSpec)

/-- ITS FALSE NEIGHBOUR: 'it returns false'. Refute it at one input. -/
def bddBooleWrong : ChangeSpec := { name := "bddBoole", fn := fun _ => fun
  | [d1, d2, d3, d4, d5] => { results := [.lit (.bool false)], args := [d1, d2, d3, d4, d5] }
  | _ => none }
def BddBooleWrongFalsely : Prop := bddBooleRow.holds Try.pinned (OpenSpec.ofChange bddBooleWrong)

/-- 'solspacekeep.BddCounts': WHATEVER THE INPUT: true; the input reads as it did. -/
def bddCountsSpec : ChangeSpec := { name := "bddCounts", fn := fun _ => fun
  | [d1, d2, d3, d4] => { results := [.lit (.bool true)], args := [d1, d2, d3, d4] }
  | _ => none }
def bddCountsRow : OpenClaim := { program := "ytmlnfbageoabnaa", sum := "0987414581d6d07ad567148bf3454bf566f7c03dda0f0df757f3621ab5efa44d", func := "solspace/solspacekeep.BddCounts", spec := "bddCounts", unfollowed := true, recurses := true, plainKeys := false, apart := false }
def BddCountsSaid : Prop := bddCountsRow.holds Try.pinned (OpenSpec.ofChange bddCountsSpec)

/-- ITS FALSE NEIGHBOUR: 'it returns false'. Refute it at one input. -/
def bddCountsWrong : ChangeSpec := { name := "bddCounts", fn := fun _ => fun
  | [d1, d2, d3, d4] => { results := [.lit (.bool false)], args := [d1, d2, d3, d4] }
  | _ => none }
def BddCountsWrongFalsely : Prop := bddCountsRow.holds Try.pinned (OpenSpec.ofChange bddCountsWrong)

/-- 'solspacekeep.FamilyLaws': WHATEVER THE INPUT: true; the input reads as it did. -/
def familyLawsSpec : ChangeSpec := { name := "familyLaws", fn := fun _ => fun
  | [d1, d2, d3, d4, d5] => { results := [.lit (.bool true)], args := [d1, d2, d3, d4, d5] }
  | _ => none }
def familyLawsRow : OpenClaim := { program := "ytmlnfbageoabnaa", sum := "0987414581d6d07ad567148bf3454bf566f7c03dda0f0df757f3621ab5efa44d", func := "solspace/solspacekeep.FamilyLaws", spec := "familyLaws", unfollowed := true, recurses := true, plainKeys := false, apart := false }
def FamilyLawsSaid : Prop := familyLawsRow.holds Try.pinned (OpenSpec.ofChange familyLawsSpec)

/-- ITS FALSE NEIGHBOUR: 'it returns false'. Refute it at one input. -/
def familyLawsWrong : ChangeSpec := { name := "familyLaws", fn := fun _ => fun
  | [d1, d2, d3, d4, d5] => { results := [.lit (.bool false)], args := [d1, d2, d3, d4, d5] }
  | _ => none }
def FamilyLawsWrongFalsely : Prop := familyLawsRow.holds Try.pinned (OpenSpec.ofChange familyLawsWrong)

/-- 'solspacekeep.FamilyLeasts': WHATEVER THE INPUT: true; the input reads as it did. -/
def familyLeastsSpec : ChangeSpec := { name := "familyLeasts", fn := fun _ => fun
  | [d1, d2] => { results := [.lit (.bool true)], args := [d1, d2] }
  | _ => none }
def familyLeastsRow : OpenClaim := { program := "ytmlnfbageoabnaa", sum := "0987414581d6d07ad567148bf3454bf566f7c03dda0f0df757f3621ab5efa44d", func := "solspace/solspacekeep.FamilyLeasts", spec := "familyLeasts", unfollowed := true, recurses := true, plainKeys := false, apart := false }
def FamilyLeastsSaid : Prop := familyLeastsRow.holds Try.pinned (OpenSpec.ofChange familyLeastsSpec)

/-- ITS FALSE NEIGHBOUR: 'it returns false'. Refute it at one input. -/
def familyLeastsWrong : ChangeSpec := { name := "familyLeasts", fn := fun _ => fun
  | [d1, d2] => { results := [.lit (.bool false)], args := [d1, d2] }
  | _ => none }
def FamilyLeastsWrongFalsely : Prop := familyLeastsRow.holds Try.pinned (OpenSpec.ofChange familyLeastsWrong)

/-- 'solspacekeep.FamilyTwice': WHATEVER THE INPUT: true; the input reads as it did. -/
def familyTwiceSpec : ChangeSpec := { name := "familyTwice", fn := fun _ => fun
  | [d1, d2] => { results := [.lit (.bool true)], args := [d1, d2] }
  | _ => none }
def familyTwiceRow : OpenClaim := { program := "ytmlnfbageoabnaa", sum := "0987414581d6d07ad567148bf3454bf566f7c03dda0f0df757f3621ab5efa44d", func := "solspace/solspacekeep.FamilyTwice", spec := "familyTwice", unfollowed := true, recurses := true, plainKeys := false, apart := false }
def FamilyTwiceSaid : Prop := familyTwiceRow.holds Try.pinned (OpenSpec.ofChange familyTwiceSpec)

/-- ITS FALSE NEIGHBOUR: 'it returns false'. Refute it at one input. -/
def familyTwiceWrong : ChangeSpec := { name := "familyTwice", fn := fun _ => fun
  | [d1, d2] => { results := [.lit (.bool false)], args := [d1, d2] }
  | _ => none }
def FamilyTwiceWrongFalsely : Prop := familyTwiceRow.holds Try.pinned (OpenSpec.ofChange familyTwiceWrong)

/- THE SECOND FORM. 'bulk': how many values and letters a reading holds, each counted each time it is reached (what is shared counts as often as it is met; a slice's spare places count too). A statement '..UptoSaid' is the law's where the arguments, and the package variables that the reading takes, are together of bulk at most 1048576: NARROWER than '..Said'. Prove '..Said' where nothing that the law and all that it calls make is longer than what came in: it says more and counts as full. Else prove '..UptoSaid'. A law counts once. -/
mutual
def uptoBulk {H : Type} : DataW H → Nat
  | .lit (.string bytes) => bytes.length + 1
  | .lit _ => 1
  | .nil => 1
  | .ptr d => uptoBulk d + 1
  | .slice elems spare => uptoBulkAll elems + uptoBulkAll spare + 1
  | .agg parts => uptoBulkAll parts + 1
  | .iface _ d => uptoBulk d + 1
  | .map entries => uptoBulkEntries entries + 1
  | .held _ => 1
def uptoBulkAll {H : Type} : List (DataW H) → Nat
  | [] => 0
  | d :: r => uptoBulk d + uptoBulkAll r
def uptoBulkEntries {H : Type} : List (Lit × DataW H) → Nat
  | [] => 0
  | x :: r => uptoBulkEntry x + uptoBulkEntries r
def uptoBulkEntry {H : Type} : Lit × DataW H → Nat
  | (.string bytes, d) => bytes.length + uptoBulk d + 1
  | (_, d) => uptoBulk d + 1
 end
def uptoSmall : (H : Type) → List (DataW H) → Bool := fun _ ds => decide (uptoBulkAll ds ≤ 1048576)
def OpenSpec.upto (s : _root_.Go.ChangeSpec) : _root_.Go.OpenSpec := { _root_.Go.OpenSpec.ofChange s with cond := some uptoSmall }

/-- 'solspacekeep.ArenaOnce', WHERE WHAT IT READS IS OF BULK AT MOST 1048576: true; the input reads as it did. -/
def arenaOnceUptoRow : OpenClaim := { program := "ytmlnfbageoabnaa", sum := "0987414581d6d07ad567148bf3454bf566f7c03dda0f0df757f3621ab5efa44d", func := "solspace/solspacekeep.ArenaOnce", spec := "arenaOnce", plainKeys := false, apart := false, narrowed := true }
def ArenaOnceUptoSaid : Prop := arenaOnceUptoRow.holds Try.pinned (OpenSpec.upto arenaOnceSpec)

/-- 'solspacekeep.BddShannon', WHERE WHAT IT READS IS OF BULK AT MOST 1048576: true; the input reads as it did. -/
def bddShannonUptoRow : OpenClaim := { program := "ytmlnfbageoabnaa", sum := "0987414581d6d07ad567148bf3454bf566f7c03dda0f0df757f3621ab5efa44d", func := "solspace/solspacekeep.BddShannon", spec := "bddShannon", unfollowed := true, recurses := true, plainKeys := false, apart := false, narrowed := true }
def BddShannonUptoSaid : Prop := bddShannonUptoRow.holds Try.pinned (OpenSpec.upto bddShannonSpec)

/-- 'solspacekeep.BddFrees', WHERE WHAT IT READS IS OF BULK AT MOST 1048576: true; the input reads as it did. -/
def bddFreesUptoRow : OpenClaim := { program := "ytmlnfbageoabnaa", sum := "0987414581d6d07ad567148bf3454bf566f7c03dda0f0df757f3621ab5efa44d", func := "solspace/solspacekeep.BddFrees", spec := "bddFrees", unfollowed := true, recurses := true, plainKeys := false, apart := false, narrowed := true }
def BddFreesUptoSaid : Prop := bddFreesUptoRow.holds Try.pinned (OpenSpec.upto bddFreesSpec)

/-- 'solspacekeep.BddBoole', WHERE WHAT IT READS IS OF BULK AT MOST 1048576: true; the input reads as it did. -/
def bddBooleUptoRow : OpenClaim := { program := "ytmlnfbageoabnaa", sum := "0987414581d6d07ad567148bf3454bf566f7c03dda0f0df757f3621ab5efa44d", func := "solspace/solspacekeep.BddBoole", spec := "bddBoole", unfollowed := true, recurses := true, plainKeys := false, apart := false, narrowed := true }
def BddBooleUptoSaid : Prop := bddBooleUptoRow.holds Try.pinned (OpenSpec.upto bddBooleSpec)

/-- 'solspacekeep.BddCounts', WHERE WHAT IT READS IS OF BULK AT MOST 1048576: true; the input reads as it did. -/
def bddCountsUptoRow : OpenClaim := { program := "ytmlnfbageoabnaa", sum := "0987414581d6d07ad567148bf3454bf566f7c03dda0f0df757f3621ab5efa44d", func := "solspace/solspacekeep.BddCounts", spec := "bddCounts", unfollowed := true, recurses := true, plainKeys := false, apart := false, narrowed := true }
def BddCountsUptoSaid : Prop := bddCountsUptoRow.holds Try.pinned (OpenSpec.upto bddCountsSpec)

/-- 'solspacekeep.FamilyLaws', WHERE WHAT IT READS IS OF BULK AT MOST 1048576: true; the input reads as it did. -/
def familyLawsUptoRow : OpenClaim := { program := "ytmlnfbageoabnaa", sum := "0987414581d6d07ad567148bf3454bf566f7c03dda0f0df757f3621ab5efa44d", func := "solspace/solspacekeep.FamilyLaws", spec := "familyLaws", unfollowed := true, recurses := true, plainKeys := false, apart := false, narrowed := true }
def FamilyLawsUptoSaid : Prop := familyLawsUptoRow.holds Try.pinned (OpenSpec.upto familyLawsSpec)

/-- 'solspacekeep.FamilyLeasts', WHERE WHAT IT READS IS OF BULK AT MOST 1048576: true; the input reads as it did. -/
def familyLeastsUptoRow : OpenClaim := { program := "ytmlnfbageoabnaa", sum := "0987414581d6d07ad567148bf3454bf566f7c03dda0f0df757f3621ab5efa44d", func := "solspace/solspacekeep.FamilyLeasts", spec := "familyLeasts", unfollowed := true, recurses := true, plainKeys := false, apart := false, narrowed := true }
def FamilyLeastsUptoSaid : Prop := familyLeastsUptoRow.holds Try.pinned (OpenSpec.upto familyLeastsSpec)

/-- 'solspacekeep.FamilyTwice', WHERE WHAT IT READS IS OF BULK AT MOST 1048576: true; the input reads as it did. -/
def familyTwiceUptoRow : OpenClaim := { program := "ytmlnfbageoabnaa", sum := "0987414581d6d07ad567148bf3454bf566f7c03dda0f0df757f3621ab5efa44d", func := "solspace/solspacekeep.FamilyTwice", spec := "familyTwice", unfollowed := true, recurses := true, plainKeys := false, apart := false, narrowed := true }
def FamilyTwiceUptoSaid : Prop := familyTwiceUptoRow.holds Try.pinned (OpenSpec.upto familyTwiceSpec)

end Rows
end Go.Proofs.Ytmlnfbageoabnaa
