/- '==' of versions and of items; slices.Index of items; Catalog.Number. -/
import Derived.Test.YtheemhelioendaaGreatDoorCatC
import Derived.Test.YtheemhelioendaaGreatDoorRulM
import Derived.Laws.StructEq
namespace Go.Proofs.YtheemhelioendaaGreatDoor
open Go.RowKit
set_option linter.unusedVariables false

/-- Are two items one? -/
def sameIt (x y : ItemM) : Bool := decide (x = y)
def sameV3 (a b c a' b' c' : Int) : Bool := decide (a = a' ∧ b = b' ∧ c = c')
@[go_sem] theorem guardItem : Tryz.prog.eqGuardType Tryz.prog.depth 61 = false := by kernel_rfl
@[go_sem] theorem guardVer : Tryz.prog.eqGuardType Tryz.prog.depth 46 = false := by kernel_rfl
theorem equalVerD (d : Nat) (a b c a' b' c' : Int) (w : World) : (Op.equalIn (d + 1 + 1) 46 (.agg #[.int .i64 a, .int .i64 b, .int .i64 c]) (.agg #[.int .i64 a', .int .i64 b', .int .i64 c'])).run Tryz.prog w = .ok (sameV3 a b c a' b' c') w := by
  have u3 := Tryz.underlying3
  have a3 := Tryz.isAgg3
  have z3 := Tryz.sizeOf3
  rw [Op.equalIn]
  simp only [Sem.run_bind, run_underlying Tryz.underlying46, Result.andThen_ok]
  simp only [Std.Legacy.Range.forIn_eq_forIn_range', Std.Legacy.Range.size, Nat.sub_zero, Nat.add_sub_cancel, Nat.div_one, List.range'_succ, List.range'_zero, List.forIn_cons, List.forIn_nil]
  go_simp
  by_cases h1 : a = a' <;> by_cases h2 : b = b' <;> by_cases h3 : c = c' <;> simp [h1, h2, h3, sameV3]
@[go_sem] theorem equalVer (a b c a' b' c' : Int) (w : World) : (Op.equalIn 10000 46 (.agg #[.int .i64 a, .int .i64 b, .int .i64 c]) (.agg #[.int .i64 a', .int .i64 b', .int .i64 c'])).run Tryz.prog w = .ok (sameV3 a b c a' b' c') w := equalVerD 9998 a b c a' b' c' w
@[go_sem] theorem equalItem (n n' : ByteArray) (a b c a' b' c' : Int) (w : World) : (Op.equalIn 10000 61 (.agg #[.string n, .int .i64 a, .int .i64 b, .int .i64 c]) (.agg #[.string n', .int .i64 a', .int .i64 b', .int .i64 c'])).run Tryz.prog w = .ok (sameIt (n, a, b, c) (n', a', b', c')) w := by
  have u3 := Tryz.underlying9
  have a3 := Tryz.isAgg9
  have z3 := Tryz.sizeOf9
  have av : ∀ w, (isAgg 46).run Tryz.prog w = .ok true w := fun w => by kernel_rfl
  have zv : ∀ w, (Go.sizeOf 46).run Tryz.prog w = .ok 3 w := fun w => by kernel_rfl
  have hS : Tryz.prog.underlying 61 = some (.struct (Tryz.prog.fieldsOf 61)) := by kernel_rfl
  have hp : Tryz.prog.stoodInHeld 61 = false := by kernel_rfl
  have hv := fun w => equalVerD 9997 a b c a' b' c' w
  rw [show (10000 : Nat) = 9999 + 1 from rfl, run_equalIn_agg w 9999 61 _ _ hS hp]
  simp only [Program.fieldsOf, Tryz.underlying61]
  go_simp
  have key : sameIt (n, a, b, c) (n', a', b', c') = if n.toList = n'.toList then sameV3 a b c a' b' c' else false := by
    unfold sameIt sameV3
    by_cases h : n.toList = n'.toList
    · have hn := toList_inj' h
      subst hn
      rw [if_pos rfl, Bool.eq_iff_iff, decide_eq_true_iff, decide_eq_true_iff]
      exact ⟨fun e => ⟨congrArg (·.2.1) e, congrArg (·.2.2.1) e, congrArg (·.2.2.2) e⟩, fun ⟨e1, e2, e3⟩ => by rw [e1, e2, e3]⟩
    · rw [if_neg h, decide_eq_false_iff_not]
      intro e
      exact h (by rw [(Prod.mk.inj e).1])
  rw [key]
  by_cases h : n.toList = n'.toList
  · rw [if_pos h, if_pos h]
    cases sameV3 a b c a' b' c' <;> rfl
  · rw [if_neg h, if_neg h]
end Go.Proofs.YtheemhelioendaaGreatDoor
