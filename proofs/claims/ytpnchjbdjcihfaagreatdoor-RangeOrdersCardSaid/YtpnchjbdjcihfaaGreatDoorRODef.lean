/- The last region of solspacekeep.RangeOrders: its operations, and how an order is checked in parts. (Printed by gen_rolast.py.) -/
import Derived.Test.YtpnchjbdjcihfaaGreatDoorTxtO
namespace Go.Proofs.YtpnchjbdjcihfaaGreatDoor
open Go.RowKit Go.Lib
noncomputable def roOps : Array Oper := (Tryz.f4.body.bind (findR 6)).getD #[]
def txtTo (md : Region.Mode) (ops : Array Oper) : List (Nat × Bool) → Array Bool → Option (Array Bool)
  | [], l => some l
  | (i, true) :: r, l => if (Region.free md ops l i && (Region.ready md ops l).contains i) = true then txtTo md ops r (l.setIfInBounds i true) else none
  | (i, false) :: r, l => if (Region.ready md ops l == [i]) = true then txtTo md ops r (l.setIfInBounds i true) else none
theorem txtOk_of {md : Region.Mode} {ops : Array Oper} {L2 : List (Nat × Bool)} : ∀ {L1 : List (Nat × Bool)} {l l' : Array Bool}, txtTo md ops L1 l = some l' → txtOk md ops L2 l' = true → txtOk md ops (L1 ++ L2) l = true
  | [], l, l', h, h2 => by
    simp only [txtTo, Option.some.injEq] at h
    subst h; exact h2
  | (i, true) :: r, l, l', h, h2 => by
    simp only [txtTo] at h
    split at h
    · rename_i h1
      simp only [List.cons_append, txtOk, Bool.and_eq_true] at h1 ⊢
      exact ⟨h1, txtOk_of h h2⟩
    · cases h
  | (i, false) :: r, l, l', h, h2 => by
    simp only [txtTo] at h
    split at h
    · rename_i h1
      simp only [List.cons_append, txtOk, Bool.and_eq_true]
      exact ⟨h1, txtOk_of h h2⟩
    · cases h
end Go.Proofs.YtpnchjbdjcihfaaGreatDoor
