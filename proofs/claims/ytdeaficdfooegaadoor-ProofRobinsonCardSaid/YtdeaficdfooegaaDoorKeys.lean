/- Keys of maps that are structs and arrays of integers. -/
import Derived.Test.YtdeaficdfooegaaDoorMaps
import Derived.Test.YtdeaficdfooegaaDoorArM
import Derived.Laws.StructEq
namespace Go.Proofs.YtdeaficdfooegaaDoor
open Go.RowKit
set_option linter.unusedVariables false

section
variable {α : Type} [DecidableEq α] {P : Program} {kt : TypeId} {enc : α → Value}

theorem findAsking_of (heq : ∀ (x y : α) (w : World), (Op.equal kt (enc x) (enc y)).run P w = .ok (decide (x = y)) w) (x : α) (w : World) : ∀ (es : List MapEntry) (ms : List (α × Value)) (i : Nat),
    es.map (fun e => (e.key, e.val)) = ms.map (fun p => (enc p.1, p.2)) → (Instr.findAsking kt (enc x) es i).run P w = .ok ((assocIdx x ms).map fun r => (r.1 + i, r.2)) w
  | [], [], i, _ => by simp [Instr.findAsking, assocIdx]
  | [], p :: l, _, h => by cases h
  | e :: es, [], _, h => by cases h
  | e :: es, p :: l, i, h => by
    simp only [List.map_cons, List.cons.injEq, Prod.mk.injEq] at h
    obtain ⟨⟨h1, h2⟩, h3⟩ := h
    simp only [Instr.findAsking, Sem.run_bind, h1, heq, Result.andThen_ok, assocIdx]
    by_cases e2 : x = p.1
    · subst e2; simp [h2]
    · have e3 : ¬ p.1 = x := fun h => e2 h.symm
      simp only [decide_eq_false e2, if_neg e3, Bool.false_eq_true, if_false, findAsking_of heq x w es l (i + 1) h3, Option.map_map]
      congr 2
      funext r
      simp [Function.comp]; omega

/-- Keys that are told apart by '=='. -/
theorem askKey (kd : TypeDesc) (hu : P.underlying kt = some kd) (hs : ∀ a b, Instr.sameNow kd a b = none) (heq : ∀ (x y : α) (w : World), (Op.equal kt (enc x) (enc y)).run P w = .ok (decide (x = y)) w)
    (hc : ∀ (b : Bool) (x : α) (w : World), (Instr.checkKey b 10000 kt (enc x)).run P w = .ok () w) (hb : ∀ x : α, Instr.sameBits 10000 (enc x) (enc x) = true) : KeyTy P kt enc where
  check := hc
  bits := hb
  find := by
    intro x ms es h w
    cases es with
    | nil => cases ms with
      | nil => simp [Instr.findKey, Instr.findNow, run_underlying hu, assocIdx]
      | cons p l => cases h
    | cons e es =>
      have h1 := findAsking_of heq x w (e :: es) ms 0 h
      simp only [Instr.findKey, Sem.run_bind, run_underlying hu, Result.andThen_ok, Instr.findNow, hs]
      rw [h1]; simp
end

def encNd (n : Nd) : Value := .agg #[.int .i64 n.1, .int .i64 n.2.1, .int .i64 n.2.2]

@[go_sem] theorem guardNode : Tryd.prog.eqGuardType Tryd.prog.depth 106 = false := by kernel_rfl

/-- Are two nodes one? -/
def sameNd (n n' : Nd) : Bool := decide (n = n')

@[go_sem] theorem equalNode (a b c a' b' c' : Int) (w : World) : (Op.equalIn 10000 106 (.agg #[.int .i64 a, .int .i64 b, .int .i64 c]) (.agg #[.int .i64 a', .int .i64 b', .int .i64 c'])).run Tryd.prog w = .ok (sameNd (a, b, c) (a', b', c')) w := by
  have u3 := Tryd.underlying3
  have a3 := Tryd.isAgg3
  have z3 := Tryd.sizeOf3
  have hS : Tryd.prog.underlying 106 = some (.struct (Tryd.prog.fieldsOf 106)) := by kernel_rfl
  have hp : Tryd.prog.stoodInHeld 106 = false := by kernel_rfl
  rw [show (10000 : Nat) = 9999 + 1 from rfl, run_equalIn_agg w 9999 106 _ _ hS hp]
  simp only [Program.fieldsOf, Tryd.underlying106]
  go_simp
  by_cases h1 : a = a' <;> by_cases h2 : b = b' <;> by_cases h3 : c = c' <;> simp [h1, h2, h3, sameNd]

theorem checkNode (n : Nat) (b : Bool) (x y z : Int) (w : World) : (Instr.checkKey b (n + 1 + 1) 106 (.agg #[.int .i64 x, .int .i64 y, .int .i64 z])).run Tryd.prog w = .ok () w := by
  have u3 := Tryd.underlying3
  have a3 := Tryd.isAgg3
  have z3 := Tryd.sizeOf3
  have k3 := fun x w => checkKey_int (P := Tryd.prog) u3 n b x w
  rw [Instr.checkKey]
  simp only [Sem.run_bind, run_underlying Tryd.underlying106, Result.andThen_ok]
  rw [← Array.forIn_toList]
  simp only [List.forIn_cons, List.forIn_nil]
  go_simp

theorem nodeKey : KeyTy Tryd.prog 106 encNd :=
  askKey _ Tryd.underlying106 (fun a b => by cases a <;> cases b <;> rfl) (fun x y w => by
    obtain ⟨a, l, h⟩ := x
    obtain ⟨a', l', h'⟩ := y
    exact equalNode a l h a' l' h' w) (fun b n w => checkNode 9998 b n.1 n.2.1 n.2.2 w) (fun n => by simp [encNd, Instr.sameBits])
end Go.Proofs.YtdeaficdfooegaaDoor
