import Derived.Test.YtmlfelbkgoplhaaGreatDoorZrPkE
set_option linter.unusedVariables false
set_option linter.unusedSimpArgs false
namespace Go.Proofs.YtmlfelbkgoplhaaGreatDoor
open Go.RowKit
def enc2 (k : Int × Int) : Value:=.agg #[.int .i64 k.1,.int .i64 k.2]
theorem zrS (a b a' b' : Int) (w : World) : (Op.equalIn 10000 255 (.agg #[.int .i64 a,.int .i64 b]) (.agg #[.int .i64 a',.int .i64 b'])).run Tryz.prog w = .ok (decide ((a,b) = (a',b'))) w:=by
 have u3:=Tryz.underlying3
 have a3:=Tryz.isAgg3
 have z3:=Tryz.sizeOf3
 rw [show (10000 : Nat) = 9999 + 1 from rfl,Op.equalIn]
 simp only [Sem.run_bind,run_underlying Tryz.underlying255,Result.andThen_ok]
 simp only [Std.Legacy.Range.forIn_eq_forIn_range',Std.Legacy.Range.size,Nat.sub_zero,Nat.add_sub_cancel,Nat.div_one,List.range'_succ,List.range'_zero,List.forIn_cons,List.forIn_nil]
 go_simp
 by_cases h1 : a = a' <;> by_cases h2 : b = b' <;> simp [h1,h2]
theorem zr0 (n : Nat) (b : Bool) (x y : Int) (w : World) : (Instr.checkKey b (n + 1 + 1) 255 (.agg #[.int .i64 x,.int .i64 y])).run Tryz.prog w = .ok () w:=by
 have u3:=Tryz.underlying3
 have a3:=Tryz.isAgg3
 have z3:=Tryz.sizeOf3
 have k3:=fun x w => zdU (P:=Tryz.prog) u3 n b x w
 rw [Instr.checkKey]
 simp only [Sem.run_bind,run_underlying Tryz.underlying255,Result.andThen_ok]
 simp only [Std.Legacy.Range.forIn_eq_forIn_range',Std.Legacy.Range.size,Nat.sub_zero,Nat.add_sub_cancel,Nat.div_one,List.range'_succ,List.range'_zero,List.forIn_cons,List.forIn_nil]
 go_simp
theorem key2 : zez Tryz.prog 255 enc2 :=
 zr5 _ Tryz.underlying255 (fun a b => by cases a <;> cases b <;> rfl) (fun x y w => by
  obtain ⟨a,b⟩:=x
  obtain ⟨a',b'⟩:=y
  exact zrS a b a' b' w) (fun b n w => zr0 9998 b n.1 n.2 w) (fun n => by simp [enc2,Instr.sameBits])
