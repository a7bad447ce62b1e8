/- What keeps to a catalog is what its rules allow: plain. -/
import Derived.Test.YtheemhelioendaaGreatDoorPkH
namespace Go.Proofs.YtheemhelioendaaGreatDoor
open Go.RowKit
set_option linter.unusedVariables false

def someI (set : Nat) (l : List Nat) : Bool := l.any fun k => set.testBit k
def lineOk (items : List ItemM) (set : Nat) (x : LineM) : Bool :=
  if x.kind = 4 then someI set (amongM items x.name x.range)
  else if x.kind = 2 then !set.testBit (numM items x.item).toNat || someI set (amongM items x.other x.range)
  else if x.kind = 3 then !set.testBit (numM items x.item).toNat || !someI set (amongM items x.other x.range)
  else true
def pairB (items : List ItemM) (set i k : Nat) : Bool := !(set.testBit i && set.testBit k && decide ((itemAt items k).1 = (itemAt items i).1))
def pairsN (items : List ItemM) (set n : Nat) : Bool := (List.range n).all fun i => (List.range i).all fun k => pairB items set i k
/-- Does an installation keep to a catalog? -/
def fitsB (ls : List LineM) (items : List ItemM) (set : Nat) : Bool := pairsN items set items.length && ls.all (lineOk items set)
theorem litB_pos (v k : Nat) : litB v ((k : Int) + 1) = v.testBit k := by
  unfold litB
  rw [if_pos (by omega), show ((k : Int) + 1).toNat - 1 = k by omega]
theorem litB_neg (v k : Nat) : litB v (-(k : Int) - 1) = !v.testBit k := by
  unfold litB
  rw [if_neg (by omega), decide_eq_true (by omega), Bool.true_and, show (-(-(k : Int) - 1)).toNat - 1 = k by omega]
theorem litB_neg2 (v k : Nat) : litB v (-((k : Int) + 1)) = !v.testBit k := by
  rw [show -((k : Int) + 1) = -(k : Int) - 1 by omega]; exact litB_neg v k
theorem allB_app (v : Nat) (a b : List (List Int)) : allB v (a ++ b) = (allB v a && allB v b) := by unfold allB; rw [List.all_append]
theorem clB_pos (v : Nat) (l : List Nat) : clB v (l.map fun k : Nat => (k : Int) + 1) = someI v l := by
  unfold clB someI
  rw [List.any_map]
  congr 1
  funext k
  exact litB_pos v k
theorem allB_excl (v : Nat) (items : List ItemM) : ∀ n, allB v (clsOf (exclR n items)) = pairsN items v n
  | 0 => rfl
  | n + 1 => by
    rw [exclR_succ, clsOf_app, allB_app, allB_excl v items n]
    unfold pairsN
    rw [List.range_succ, List.all_append]
    congr 1
    have : ∀ i, allB v (clsOf (exclN i items n)) = (List.range i).all fun k => pairB items v n k := by
      intro i
      induction i with
      | zero => rfl
      | succ i ih =>
        rw [exclN_succ, clsOf_app, allB_app, ih, List.range_succ, List.all_append]
        congr 1
        simp only [List.all_cons, List.all_nil, Bool.and_true]
        unfold pairB
        by_cases h : (itemAt items i).1 = (itemAt items n).1
        · rw [if_pos h, decide_eq_true h]
          show (clB v _ && true) = _
          unfold clB
          simp only [List.any_cons, List.any_nil, Bool.or_false, Bool.and_true]
          rw [litB_neg, litB_neg, Bool.not_and, Bool.or_comm]
        · rw [if_neg h, decide_eq_false h]; simp [clsOf, allB]
    rw [this]
    simp
theorem allB_line (v : Nat) {ls : List LineM} {items : List ItemM} (ho : CatOk ls items) (i : Nat) {x : LineM} (hx : x ∈ ls) : allB v (clsOf (lineC items i x)) = lineOk items v x := by
  unfold lineC lineOk
  split
  · show (clB v _ && true) = _
    rw [Bool.and_true, clB_pos]
  · split
    · rename_i h2
      obtain ⟨k, hk, e, _⟩ := numM_in (ho.perm.mem_iff.2 (ho.there x hx (.inl h2)))
      rw [e, Int.toNat_natCast]
      show (clB v _ && true) = _
      rw [Bool.and_true, ← clB_pos]
      unfold clB
      rw [List.any_cons, litB_neg2]
    · split
      · rename_i h3
        obtain ⟨k, hk, e, _⟩ := numM_in (ho.perm.mem_iff.2 (ho.there x hx (.inr h3)))
        rw [e, Int.toNat_natCast]
        unfold clsOf allB someI
        rw [List.map_map, List.all_map]
        generalize amongM items x.other x.range = l
        induction l with
        | nil => simp
        | cons j l ih =>
          rw [List.all_cons, List.any_cons, ih]
          simp only [Function.comp]
          unfold clB
          simp only [List.any_cons, List.any_nil, Bool.or_false]
          rw [litB_neg2, litB_neg]
          cases v.testBit k <;> cases v.testBit j <;> simp
      · rfl
theorem allB_lines (v : Nat) {items : List ItemM} : ∀ (i : Nat) (l : List LineM), (∀ x ∈ l, ∀ j, allB v (clsOf (lineC items j x)) = lineOk items v x) → allB v (clsOf (linesC items i l)) = l.all (lineOk items v)
  | i, [], _ => rfl
  | i, x :: l, h => by
    show allB v (clsOf (lineC items i x ++ linesC items (i + 1) l)) = _
    rw [clsOf_app, allB_app, h x (List.mem_cons_self ..), allB_lines v (i + 1) l (fun y hy => h y (List.mem_cons_of_mem _ hy)), List.all_cons]
/-- The two say the same. -/
theorem fits_rules (v : Nat) {ls : List LineM} {items : List ItemM} (ho : CatOk ls items) : fitsB ls items v = allB v (clsOf (rulesC ls items)) := by
  unfold fitsB rulesC
  rw [clsOf_app, allB_app, allB_excl, allB_lines v 0 ls (fun x hx j => allB_line v ho j hx)]
end Go.Proofs.YtheemhelioendaaGreatDoor
