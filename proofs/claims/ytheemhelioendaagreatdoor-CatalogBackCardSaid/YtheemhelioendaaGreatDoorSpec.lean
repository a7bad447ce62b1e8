/- Plain words of clauses and values: no program in sight. -/
namespace Go.Proofs.YtheemhelioendaaGreatDoor

/-- A literal x holds of values v (bit k is variable k). -/
def litB (v : Nat) (x : Int) : Bool := if 0 < x then v.testBit (x.toNat - 1) else decide (x < 0) && !v.testBit ((-x).toNat - 1)
def clB (v : Nat) (c : List Int) : Bool := c.any (litB v)
def allB (v : Nat) (l : List (List Int)) : Bool := l.all (clB v)

theorem getD_at {α : Type} (l : List α) (d : α) {i : Nat} (h : i < l.length) : l.getD i d = l[i] := by simp [h]

/-- A literal that may not be, over m variables. -/
def badLit (m : Int) (x : Int) : Bool := decide (x = 0) || decide (m < x) || decide (x < -m)
/-- What clause.Check asks. -/
def Good (m : Int) (l : List (List Int)) : Prop := 0 ≤ m ∧ m ≤ 24 ∧ l.length ≤ 200 ∧ ∀ c ∈ l, c.length ≤ 48 ∧ c.any (badLit m) = false

/-- How many clauses and literals. -/
def total (l : List (List Int)) : Nat := l.length + (l.map List.length).sum

end Go.Proofs.YtheemhelioendaaGreatDoor
