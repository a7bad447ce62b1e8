/- Operations in a frame that is a letter: on ranges, versions, numbers. -/
import Derived.Test.YtpnchjbdjcihfaaGreatDoorTxtG
import Derived.Test.YtpnchjbdjcihfaaGreatDoorOrdW
namespace Go.Proofs.YtpnchjbdjcihfaaGreatDoor
open Go.RowKit
set_option linter.unusedVariables false
section
variable {a : Act} {o : Oper}
theorem run_loadR {s b n c : Nat} {x : Option Addr} {w : World} (hop : o.op = .load 24 (.tmp s)) (hs : a.tmps[s]? = some (.pointer (some ⟨b, 0, none⟩))) (hc : w.cell? ⟨b, 0, none⟩ = some (.slice x n c)) :
    (execOp a.eval o).run Tryz.prog w = .ok (.value (.agg #[.slice x n c])) w := by
  obtain ⟨d, op, t, p, af, g⟩ := o
  subst hop
  simp [go_sem, hs, hc]
theorem run_loadV {s b : Nat} {x y z : Int} {w : World} (hop : o.op = .load 35 (.tmp s)) (hs : a.tmps[s]? = some (.pointer (some ⟨b, 0, none⟩))) (h0 : w.cell? ⟨b, 0, none⟩ = some (.int .i64 x)) (h1 : w.cell? ⟨b, 1, none⟩ = some (.int .i64 y)) (h2 : w.cell? ⟨b, 2, none⟩ = some (.int .i64 z)) :
    (execOp a.eval o).run Tryz.prog w = .ok (.value (.agg #[.int .i64 x, .int .i64 y, .int .i64 z])) w := by
  obtain ⟨d, op, t, p, af, g⟩ := o
  subst hop
  simp [go_sem, hs, h0, h1, h2]
theorem run_loadI {s b k : Nat} {x : Int} {w : World} (hop : o.op = .load 3 (.tmp s)) (hs : a.tmps[s]? = some (.pointer (some ⟨b, k, none⟩))) (h0 : w.cell? ⟨b, k, none⟩ = some (.int .i64 x)) :
    (execOp a.eval o).run Tryz.prog w = .ok (.value (.int .i64 x)) w := by
  obtain ⟨d, op, t, p, af, g⟩ := o
  subst hop
  simp [go_sem, hs, h0]
theorem run_ix0 {s b : Nat} {w : World} (hop : o.op = .indexAddr 35 (.tmp s) (.const (.int .i64 0))) (hs : a.tmps[s]? = some (.pointer (some ⟨b, 0, none⟩))) :
    (execOp a.eval o).run Tryz.prog w = .ok (.value (.pointer (some ⟨b, 0, none⟩))) w := by
  obtain ⟨d, op, t, p, af, g⟩ := o
  subst hop
  simp [go_sem, hs]
theorem run_ix1 {s b : Nat} {w : World} (hop : o.op = .indexAddr 35 (.tmp s) (.const (.int .i64 1))) (hs : a.tmps[s]? = some (.pointer (some ⟨b, 0, none⟩))) :
    (execOp a.eval o).run Tryz.prog w = .ok (.value (.pointer (some ⟨b, 1, none⟩))) w := by
  obtain ⟨d, op, t, p, af, g⟩ := o
  subst hop
  simp [go_sem, hs]
theorem run_not {s : Nat} {t1 : TypeId} {bb : Bool} {w : World} (hop : o.op = .unOp .not t1 (.tmp s)) (ht : t1 = 4) (hs : a.tmps[s]? = some (.bool bb)) : (execOp a.eval o).run Tryz.prog w = .ok (.value (.bool (!bb))) w := by
  obtain ⟨d, op, t, p, af, g⟩ := o
  subst ht
  subst hop
  simp [go_sem, hs]
theorem run_eqB {s1 s2 : Nat} {bb : Bool} {w : World} (hop : o.op = .binOp .eql 4 (.tmp s1) (.tmp s2) 4) (h1 : a.tmps[s1]? = some (.bool bb)) (h2 : a.tmps[s2]? = some (.bool bb)) : (execOp a.eval o).run Tryz.prog w = .ok (.value (.bool true)) w := by
  obtain ⟨d, op, t, p, af, g⟩ := o
  subst hop
  simp [go_sem, h1, h2]
theorem run_eqI {s1 s2 : Nat} {x y : Int} {w : World} (hop : o.op = .binOp .eql 3 (.tmp s1) (.tmp s2) 3) (h1 : a.tmps[s1]? = some (.int .i64 x)) (h2 : a.tmps[s2]? = some (.int .i64 y)) (h : x = y) : (execOp a.eval o).run Tryz.prog w = .ok (.value (.bool true)) w := by
  obtain ⟨d, op, t, p, af, g⟩ := o
  subst hop
  subst h
  simp [go_sem, h1, h2]
theorem run_lss0 {s : Nat} {C : Int} {w : World} (hop : o.op = .binOp .lss 3 (.tmp s) (.const (.int .i64 0)) 3) (h1 : a.tmps[s]? = some (.int .i64 C)) : (execOp a.eval o).run Tryz.prog w = .ok (.value (.bool (decide (C < 0)))) w := by
  obtain ⟨d, op, t, p, af, g⟩ := o
  subst hop
  simp [go_sem, h1]
theorem run_geq0 {s : Nat} {C : Int} {w : World} (hop : o.op = .binOp .geq 3 (.tmp s) (.const (.int .i64 0)) 3) (h1 : a.tmps[s]? = some (.int .i64 C)) : (execOp a.eval o).run Tryz.prog w = .ok (.value (.bool (decide (0 ≤ C)))) w := by
  obtain ⟨d, op, t, p, af, g⟩ := o
  subst hop
  simp [go_sem, h1]
theorem run_leq0 {s : Nat} {C : Int} {w : World} (hop : o.op = .binOp .leq 3 (.tmp s) (.const (.int .i64 0)) 3) (h1 : a.tmps[s]? = some (.int .i64 C)) : (execOp a.eval o).run Tryz.prog w = .ok (.value (.bool (decide (C ≤ 0)))) w := by
  obtain ⟨d, op, t, p, af, g⟩ := o
  subst hop
  simp [go_sem, h1]
theorem run_gtr0 {s : Nat} {C : Int} {w : World} (hop : o.op = .binOp .gtr 3 (.tmp s) (.const (.int .i64 0)) 3) (h1 : a.tmps[s]? = some (.int .i64 C)) : (execOp a.eval o).run Tryz.prog w = .ok (.value (.bool (decide (0 < C)))) w := by
  obtain ⟨d, op, t, p, af, g⟩ := o
  subst hop
  simp [go_sem, h1]
theorem run_eql0 {s : Nat} {C : Int} {w : World} (hop : o.op = .binOp .eql 3 (.tmp s) (.const (.int .i64 0)) 3) (h1 : a.tmps[s]? = some (.int .i64 C)) : (execOp a.eval o).run Tryz.prog w = .ok (.value (.bool (C == 0))) w := by
  obtain ⟨d, op, t, p, af, g⟩ := o
  subst hop
  simp [go_sem, h1]
theorem run_call1 {f s1 : Nat} {ts : Array TypeId} {v1 : Value} {ca : Call} (hop : o.op = .call ca) (hca : ca = { callee := .value (.func f), args := #[.tmp s1], argTypes := ts }) (h1 : a.tmps[s1]? = some v1) (hf : ∀ w, Sem.run Tryz.prog (callFunc f #[v1]) w = .ok (.enter f #[v1]) w) :
    ∀ w, (execOp a.eval o).run Tryz.prog w = .ok (.enter f #[v1]) w := by
  intro w
  obtain ⟨d, op, t, p, af, g⟩ := o
  subst hca
  subst hop
  simp [go_sem, h1, hf]
theorem run_call2 {f s1 s2 : Nat} {ts : Array TypeId} {v1 v2 : Value} {ca : Call} (hop : o.op = .call ca) (hca : ca = { callee := .value (.func f), args := #[.tmp s1, .tmp s2], argTypes := ts }) (h1 : a.tmps[s1]? = some v1) (h2 : a.tmps[s2]? = some v2) (hf : ∀ w, Sem.run Tryz.prog (callFunc f #[v1, v2]) w = .ok (.enter f #[v1, v2]) w) :
    ∀ w, (execOp a.eval o).run Tryz.prog w = .ok (.enter f #[v1, v2]) w := by
  intro w
  obtain ⟨d, op, t, p, af, g⟩ := o
  subst hca
  subst hop
  simp [go_sem, h1, h2, hf]
theorem run_clo1c {f s0 : Nat} {ts : Array TypeId} {v1 cp : Value} {ca : Call} (hop : o.op = .call ca) (hca : ca = { callee := .value (.tmp s0), args := #[.const v1], argTypes := ts }) (h0 : a.tmps[s0]? = some (.func (.func f) #[] #[cp])) (hf : ∀ w, Sem.run Tryz.prog (callFunc f #[v1, cp]) w = .ok (.enter f #[v1, cp]) w) :
    ∀ w, (execOp a.eval o).run Tryz.prog w = .ok (.enter f #[v1, cp]) w := by
  intro w
  obtain ⟨d, op, t, p, af, g⟩ := o
  subst hca
  subst hop
  simp [go_sem, h0, hf]
end
end Go.Proofs.YtpnchjbdjcihfaaGreatDoor
