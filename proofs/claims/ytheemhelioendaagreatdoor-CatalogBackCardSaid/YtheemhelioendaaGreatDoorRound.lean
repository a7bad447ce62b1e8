/- A region that draws its order, in a round of a range over a function: by the laws for a plain frame. -/
import Derived.RangeFuncNested
import Derived.Deep.RegionHeld
import Derived.OrdersIn
import Derived.WalkKit
import Derived.Test.YtheemhelioendaaGreatDoorProg
namespace Go.Proofs.YtheemhelioendaaGreatDoor
open Go.RowKit
set_option linter.unusedVariables false
variable {P : Program} {ops : Array Oper} {Q : Exit → Act → World → Prop}

theorem rows_wide {n r : Nat} {row : String} {args : Array Value} {w : World} {R : Value → World → Prop} (h : Rows P row args w R) : RowsIn (Fence.wide.inRound r) n P row args w R := by
  have h2 : RowsIn Fence.wide n P row args w R := by
    intro b k hr
    obtain ⟨v, w', q, hs⟩ := h b k
    exact ⟨v, w', q, stepsIn_wide.2 hs⟩
  exact h2
theorem opIn_of {o : Oper} {a : Act} {w : World} {K : Act → World → Prop} {n r : Nat} (hd : ∀ c, o.op ≠ .defer c) (hQ : ¬ LetsOut Q) (h : o.wp P a w K Q ∨ (o.asks P a w ∧ LetsOut Q)) : o.wpIn (Fence.wide.inRound r) n P a w K Q := by
  rcases h with h | ⟨_, h⟩
  · refine ⟨fun _ _ => trivial, ?_⟩
    rw [show o.semAt (Fence.wide.inRound r).round a.eval = execOp a.eval o from Oper.semAt_some r _ _ hd]
    unfold Oper.wp at h
    generalize (execOp a.eval o).run P w = R at h ⊢
    cases R with
    | ok nx w' =>
      cases nx with
      | value v => exact h
      | skip => exact h
      | defer d => exact h
      | enter f args => exact ⟨fun hh => by simp [Fence.wide] at hh, CallsIn.inRound r (callsIn_wide.2 h)⟩
      | row row args => exact ⟨fun hh => by simp [Fence.wide] at hh, rows_wide h⟩
      | _ => exact h.elim
    | halt hh w' => cases hh <;> exact h
  · exact absurd h hQ
theorem anyIn_of {n r : Nat} (hd : ∀ (i : Nat) (o : Oper), ops[i]? = some o → ∀ c, o.op ≠ .defer c) (hQ : ¬ LetsOut Q) : ∀ (fuel : Nat) (listed : Array Bool) (a : Act) (w : World), wpAny P .any ops Q fuel listed a w → wpAnyIn (Fence.wide.inRound r) n P .any ops Q fuel listed a w
  | 0, listed, a, w, h => h
  | fuel + 1, listed, a, w, h => by
    refine ⟨h.1, fun i hi => ?_⟩
    have h2 := h.2 i hi
    unfold wpOp at h2
    unfold wpOpIn
    cases ho : ops[i]? with
    | none =>
      rw [ho] at h2
      exact anyIn_of hd hQ fuel _ _ _ h2
    | some o =>
      rw [ho] at h2
      simp only at h2 ⊢
      split
      · rename_i hw
        rw [if_pos hw] at h2
        exact Oper.wpIn_mono (fun a' w' h' => anyIn_of hd hQ fuel _ a' w' h') (opIn_of (hd i o ho) hQ h2)
      · rename_i hw
        rw [if_neg hw] at h2
        exact ⟨fun _ _ => trivial, anyIn_of hd hQ fuel _ _ _ h2⟩
def noDefer (ops : Array Oper) : Bool := ops.all fun o => match o.op with | .defer _ => false | _ => true
theorem noDefer_of (h : noDefer ops = true) : ∀ (i : Nat) (o : Oper), ops[i]? = some o → ∀ c, o.op ≠ .defer c := by
  intro i o ho c e
  unfold noDefer at h
  rw [Array.all_eq_true] at h
  obtain ⟨hi, ho'⟩ := Array.getElem?_eq_some_iff.1 ho
  have := h i hi
  rw [ho', e] at this
  exact absurd this (by simp)
/-- The beginning: S holds in the world behind the draw. -/
theorem wpIn_region_held {id n r : Nat} {a : Act} {w : World} (S : World → Prop) (hm : P.follows .mixedOrders = true) (hd : noDefer ops = true) (hQ : ¬ LetsOut Q) (hS : S w.drew)
    (h : S w.drew → wpAnyH P .any ops Q S ops.size (Array.replicate ops.size false) a w.drew) : (Code.region id ops true).wpIn (Fence.wide.inRound r) n P Q a w :=
  wpIn_region_any hm (anyIn_of (noDefer_of hd) hQ _ _ _ _ (wpAny_of_held _ _ _ _ (h hS)))
end Go.Proofs.YtheemhelioendaaGreatDoor
