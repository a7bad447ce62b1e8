import Derived.Test.YtmlfelbkgoplhaaGreatDoorZfPkA
import Derived.WalkKit
import Derived.WalkSpells
import Derived.WalkLawsBesides
import Derived.Deep.LoopGhost
import Derived.Lib.Hide
import Derived.LaidEql
import Derived.Stop.Asserts
import Derived.RowKitTokens
set_option linter.unusedVariables false
namespace Go.Proofs.YtmlfelbkgoplhaaGreatDoor
open Go.RowKit Go.Extern.Stop Go.Stop Go.Extern
def zV (w : World) : Prop:=w.cell? ⟨0,0,none⟩ = some (.iface 258 (.agg #[.pointer (some ⟨10,33,none⟩)]))
theorem zV.lt {w : World} (h : zV w) : 0 < w.heap.size:=by
 rcases Nat.lt_or_ge 0 w.heap.size with h1 | h1
 · exact h1
 · unfold zV at h;simp [World.cell?,Array.getElem?_eq_none h1] at h
theorem zV.below {w w' : World} (h : zV w) (hb : Below w.heap.size w w') : zV w':=by
 unfold zV;rw [hb.cell (p:=⟨0,0,none⟩) h.lt];exact h
theorem zfN (t : Addr) (w : World) : (ReflectliteValue.unpack (.iface 123 (.pointer (some t)))).run Tryz.prog w
 = .ok (.agg #[.pointer (some ⟨10,123,none⟩),.pointer (some ⟨w.heap.size,0,none⟩),.int .u64 150]) (w.alloc (.cells #[.pointer (some t)] 123)):=by kernel_rfl
theorem zkU (a : Addr) (w : World) : (ReflectliteValue.methodAny (ReflectliteValue.valueError "reflectlite.Value.Type" 0) (fun t _ _ _ => ReflectliteType.toType t) #[.agg #[.pointer (some ⟨10, 123, none⟩), .pointer (some a), .int .u64 150]]).run Tryz.prog w
 = .ok (.iface 258 (.agg #[.pointer (some ⟨10,123,none⟩)])) w:=by kernel_rfl
theorem zdK (h : Value) (w : World) : (Go.method 501 258 (.agg #[h]) "Kind").run Tryz.prog w = .ok (306, h) w := by kernel_rfl
theorem zkY (w : World) : ((ReflectliteType.abiMethod fun t => (fun a : Nat => Value.int IntKind.u8 (a : Int)) <$> Rtype.kind t) #[.pointer (some ⟨10,123,none⟩)]).run Tryz.prog w = .ok (.int .u8 22) w:=by kernel_rfl
theorem zkT (w : World) : ((ReflectliteType.abiMethod fun t => (fun a : Nat => Value.int IntKind.u8 (a : Int)) <$> Rtype.kind t) #[.pointer (some ⟨10,45,none⟩)]).run Tryz.prog w = .ok (.int .u8 2) w:=by kernel_rfl
theorem zqn (z : Sem Value) (f : TypeId → Addr → Nat → Nat → Sem Value) (v : Value) :
 ReflectliteValue.method z f #[v] = (do match ← ReflectliteValue.parts v with | none => z | some (t,a,fl) => f t a fl (fl % 32)):=rfl
theorem zjg (a : Addr) (w : World) : (ReflectliteValue.parts (.agg #[.pointer (some ⟨10,123,none⟩),.pointer (some a),.int .u64 150])).run Tryz.prog w = .ok (some (123,a,150)) w:=by kernel_rfl
theorem zkR (a p : Addr) (W : World) (ha : W.cell? a = some (.pointer (some p))) :
 (ReflectliteValue.method (ReflectliteValue.valueError "reflectlite.Value.IsNil" 0) ReflectliteValue.isNil #[.agg #[.pointer (some ⟨10, 123, none⟩), .pointer (some a), .int .u64 150]]).run Tryz.prog W = .ok (.bool false) W := by
 rw [zqn]
 simp only [Sem.run_bind,zjg,Result.andThen]
 simp [ReflectliteValue.isNil,loadVar,isAgg,underlying,ha,Result.andThen]
theorem zdj (h : Value) (w : World) : (Go.method 501 258 (.agg #[h]) "Elem").run Tryz.prog w = .ok (320, .agg #[h]) w := by kernel_rfl
theorem zaa (h : Value) (w : World) : (Go.method 501 258 (.agg #[h]) "Implements").run Tryz.prog w = .ok (321, .agg #[h]) w := by kernel_rfl
theorem j5 (h : Value) (w : World) : (Go.method 501 258 (.agg #[h]) "AssignableTo").run Tryz.prog w = .ok (318, .agg #[h]) w := by kernel_rfl
theorem zkQ (w : World) : (ReflectliteType.method ReflectliteType.elem #[.agg #[.pointer (some ⟨10,123,none⟩)]]).run Tryz.prog w = .ok (.iface 258 (.agg #[.pointer (some ⟨10,45,none⟩)])) w:=by kernel_rfl
theorem zc7 (w : World) : (ReflectliteType.relation "Implements" ReflectliteType.implements_ #[.agg #[.pointer (some ⟨10, 45, none⟩)], .iface 258 (.agg #[.pointer (some ⟨10, 33, none⟩)])]).run Tryz.prog w = .ok (.bool true) w := by kernel_rfl
theorem zgJ (v : Value) (w : World) : (ReflectliteType.typeOf #[.iface 45 v]).run Tryz.prog w = .ok (.iface 258 (.agg #[.pointer (some ⟨10,45,none⟩)])) w:=by kernel_rfl
theorem zdE (w : World) : (ReflectliteType.relation "AssignableTo" ReflectliteType.assignableTo #[.agg #[.pointer (some ⟨10, 45, none⟩)], .iface 258 (.agg #[.pointer (some ⟨10, 45, none⟩)])]).run Tryz.prog w = .ok (.bool true) w := by kernel_rfl
theorem zfE (k : Int) (w : World) : (ReflectliteValue.unpack (.iface 45 (.int .i64 k))).run Tryz.prog w
 = .ok (.agg #[.pointer (some ⟨10,45,none⟩),.pointer (some ⟨w.heap.size,0,none⟩),.int .u64 130]) (w.alloc (.cells #[.int .i64 k] 45)):=by kernel_rfl
theorem zlU (w : World) : (Rtype.elem? 123).run Tryz.prog w = .ok (some 45) w:=by kernel_rfl
theorem asMkE (p : Addr) (w : World) : (ReflectliteValue.mk 45 p ReflectliteValue.flagAddr).run Tryz.prog w = .ok (.agg #[.pointer (some ⟨10,45,none⟩),.pointer (some p),.int .u64 386]) w:=by kernel_rfl
theorem zli (a p : Addr) (W : World) (ha : W.cell? a = some (.pointer (some p))) :
 (ReflectliteValue.method (ReflectliteValue.valueError "reflectlite.Value.Elem" 0) ReflectliteValue.elem #[.agg #[.pointer (some ⟨10, 123, none⟩), .pointer (some a), .int .u64 150]]).run Tryz.prog W
  = .ok (.agg #[.pointer (some ⟨10,45,none⟩),.pointer (some p),.int .u64 386]) W:=by
 rw [zqn]
 simp only [Sem.run_bind,zjg,Result.andThen]
 simp [ReflectliteValue.elem,loadVar,isAgg,underlying,ha,Result.andThen,zlU,asMkE]
theorem asRls (v x : Value) : ReflectliteValue.set #[v,x] = (do
 let (some (dst,a,fl),some (src,b,_)):=(← ReflectliteValue.parts v,← ReflectliteValue.parts x)
  | unsupported (.noEntry "extern/(internal/reflectlite.Value).Set.zeroValue")
 if fl / ReflectliteValue.flagAddr % 2 == 0 then unsupported (.noEntry "extern/(internal/reflectlite.Value).Set.unaddressable")
 let val ← loadVar src b
 if ← Rtype.directlyAssignable dst src then storeVar dst a val
 else if ← Rtype.implements dst src then
  if (← Rtype.kind src) == 20 then
   match val with
   | .nilIface => unsupported (.noEntry "extern/reflectlite: a nil value of one interface type handed on as a value of another")
   | _ => storeVar dst a val
  else storeVar dst a (.iface src val)
 else panicString ("reflectlite.Set: value of type " ++ (← Rtype.spelt src) ++ " is not assignable to type " ++ (← Rtype.spelt dst))
 pure (.tuple #[])):=rfl
theorem zmC (a : Addr) (w : World) : (ReflectliteValue.parts (.agg #[.pointer (some ⟨10,45,none⟩),.pointer (some a),.int .u64 386])).run Tryz.prog w = .ok (some (45,a,386)) w:=by kernel_rfl
theorem znn (a : Addr) (w : World) : (ReflectliteValue.parts (.agg #[.pointer (some ⟨10,45,none⟩),.pointer (some a),.int .u64 130])).run Tryz.prog w = .ok (some (45,a,130)) w:=by kernel_rfl
theorem zoJ (w : World) : (Rtype.directlyAssignable 45 45).run Tryz.prog w = .ok true w:=by kernel_rfl
theorem zqy (ta b : Addr) (k : Int) (old : Value) (W : World) (hb : W.cell? b = some (.int .i64 k)) (ht : W.cell? ta = some old) (hf : W.frozen? ta = false) :
 (ReflectliteValue.set #[.agg #[.pointer (some ⟨10,45,none⟩),.pointer (some ta),.int .u64 386],.agg #[.pointer (some ⟨10,45,none⟩),.pointer (some b),.int .u64 130]]).run Tryz.prog W
  = .ok (.tuple #[]) (W.setCell ta (.int .i64 k)):=by
 rw [asRls]
 simp only [Sem.run_bind,zmC,znn,Result.andThen]
 simp [ReflectliteValue.flagAddr,loadVar,isAgg,underlying,hb,Result.andThen,zoJ,storeVar,Value.cells,storeCells,Addr.add]
 rw [run_store Tryz.prog W ta _ _ (by rfl)]
 simp [ht,hf]
set_option maxRecDepth 100000 in
set_option maxHeartbeats 4000000 in
theorem znP (k : Int) (t : Addr) (old : Value) (w : World) (hg : zV w) (ht0 : w.cell? t = some old) (hf0 : w.frozen? t = false) :
 Calls Tryz.prog 56 #[.iface 45 (.int .i64 k),.iface 123 (.pointer (some t))] w fun ev w' => ev = .returned (.bool true) ∧ w' = ((((w.alloc (.cells #[.pointer (some t)] 123)).alloc (.cells #[.pointer (some ⟨10,123,none⟩),.pointer (some ⟨w.heap.size,0,none⟩),.int .u64 150] 198)).alloc (.cells #[.pointer (some ⟨10,123,none⟩),.pointer (some ⟨w.heap.size,0,none⟩),.int .u64 150] 198)).alloc (.cells #[.int .i64 k] 45)).setCell t (.int .i64 k):=by
 have h6:=@run_callFunc_extern Tryz.prog 109 _ (fun args => ReflectliteValue.unpack (args.getD 0 (.tuple #[]))) Tryz.func109 (by kernel_rfl) (by kernel_rfl) (by kernel_rfl) (by kernel_rfl)
 have h7 := @run_callFunc_extern Tryz.prog 110 _ (ReflectliteValue.methodAny (ReflectliteValue.valueError "reflectlite.Value.Type" 0) (fun t _ _ _ => ReflectliteType.toType t)) Tryz.func110 (by kernel_rfl) (by kernel_rfl) (by kernel_rfl) (by kernel_rfl)
 have h8 := @run_callFunc_extern Tryz.prog 111 _ (ReflectliteValue.method (ReflectliteValue.valueError "reflectlite.Value.IsNil" 0) ReflectliteValue.isNil) Tryz.func111 (by kernel_rfl) (by kernel_rfl) (by kernel_rfl) (by kernel_rfl)
 have h27:=@run_callFunc_extern Tryz.prog 306 _ (ReflectliteType.abiMethod fun t => do pure (.int .u8 (← Rtype.kind t))) Tryz.func306 (by kernel_rfl) (by kernel_rfl) (by kernel_rfl) (by kernel_rfl)
 have h37:=@run_callFunc_extern Tryz.prog 320 _ (ReflectliteType.method ReflectliteType.elem) Tryz.func320 (by kernel_rfl) (by kernel_rfl) (by kernel_rfl) (by kernel_rfl)
 have h38 := @run_callFunc_extern Tryz.prog 321 _ (ReflectliteType.relation "Implements" ReflectliteType.implements_) Tryz.func321 (by kernel_rfl) (by kernel_rfl) (by kernel_rfl) (by kernel_rfl)
 have h10:=@run_callFunc_extern Tryz.prog 162 _ ReflectliteType.typeOf Tryz.func162 (by kernel_rfl) (by kernel_rfl) (by kernel_rfl) (by kernel_rfl)
 have h35 := @run_callFunc_extern Tryz.prog 318 _ (ReflectliteType.relation "AssignableTo" ReflectliteType.assignableTo) Tryz.func318 (by kernel_rfl) (by kernel_rfl) (by kernel_rfl) (by kernel_rfl)
 have h11 := @run_callFunc_extern Tryz.prog 163 _ (ReflectliteValue.method (ReflectliteValue.valueError "reflectlite.Value.Elem" 0) ReflectliteValue.elem) Tryz.func163 (by kernel_rfl) (by kernel_rfl) (by kernel_rfl) (by kernel_rfl)
 have h12:=@run_callFunc_extern Tryz.prog 164 _ ReflectliteValue.set Tryz.func164 (by kernel_rfl) (by kernel_rfl) (by kernel_rfl) (by kernel_rfl)
 have tO:=zgJ
 have mA:=j5
 have a25:=zdE
 have v25:=zfE
 have f6:=zfN
 have f7:=zkU
 have mK:=zdK
 have mE:=zdj
 have mI:=zaa
 have k27:=zkY
 have k25:=zkT
 have e27:=zkQ
 have i25:=zc7
 have n8:=zkR ⟨w.heap.size,0,none⟩ t ((w.alloc (.cells #[.pointer (some t)] 123)).alloc (.cells #[.pointer (some ⟨10,123,none⟩),.pointer (some ⟨w.heap.size,0,none⟩),.int .u64 150] 198)) (by simp)
 have hlt : 0 < w.heap.size:=hg.lt
 have hg2 : ((w.alloc (.cells #[.pointer (some t)] 123)).alloc (.cells #[.pointer (some ⟨10,123,none⟩),.pointer (some ⟨w.heap.size,0,none⟩),.int .u64 150] 198)).cell? ⟨0,0,none⟩ = some (.iface 258 (.agg #[.pointer (some ⟨10,33,none⟩)])):=by
  rw [World.cell?_alloc_lt _ _ ⟨0,0,none⟩ (by simp),World.cell?_alloc_lt _ _ ⟨0,0,none⟩ hlt];exact hg
 have htl : t.block < w.heap.size:=by
  rcases Nat.lt_or_ge t.block w.heap.size with h | h
  · exact h
  · simp [World.cell?,Array.getElem?_eq_none h] at ht0
 have el:=zli ⟨w.heap.size,0,none⟩ t (((w.alloc (.cells #[.pointer (some t)] 123)).alloc (.cells #[.pointer (some ⟨10,123,none⟩),.pointer (some ⟨w.heap.size,0,none⟩),.int .u64 150] 198)).alloc (.cells #[.pointer (some ⟨10,123,none⟩),.pointer (some ⟨w.heap.size,0,none⟩),.int .u64 150] 198)) (by rw [World.cell?_alloc_lt _ _ ⟨w.heap.size,0,none⟩ (by simp;omega)];simp)
 have st:=zqy t ⟨w.heap.size + 1 + 1 + 1,0,none⟩ k old ((((w.alloc (.cells #[.pointer (some t)] 123)).alloc (.cells #[.pointer (some ⟨10,123,none⟩),.pointer (some ⟨w.heap.size,0,none⟩),.int .u64 150] 198)).alloc (.cells #[.pointer (some ⟨10,123,none⟩),.pointer (some ⟨w.heap.size,0,none⟩),.int .u64 150] 198)).alloc (.cells #[.int .i64 k] 45))
  (by rw [World.cell?_alloc_at _ _ _ _ (by simp)];rfl)
  (by rw [World.cell?_alloc_lt _ _ t (by simp;omega),World.cell?_alloc_lt _ _ t (by simp;omega),World.cell?_alloc_lt _ _ t (by simp;omega),World.cell?_alloc_lt _ _ t htl];exact ht0)
  (by rw [World.frozen?_alloc_old _ _ t (by simp;omega),World.frozen?_alloc_old _ _ t (by simp;omega),World.frozen?_alloc_old _ _ t (by simp;omega),World.frozen?_alloc_old _ _ t (Nat.ne_of_lt htl)];exact hf0)
 clear hg
 go_enter Tryz.func56,Tryz.ntmps56
 go_wp2
 refine wp_loop_rounds 1 ?_
 rw [rounds_succ]
 go_wp2
 go_ret
 exact ⟨rfl,rfl⟩
set_option maxHeartbeats 4000000 in
theorem zcY (k : Int) (w : World) (hg : zV w) : Calls Tryz.prog 16 #[.iface 45 (.int .i64 k)] w fun e w' => e = .returned (.int .i64 k) ∧ Below w.heap.size w w':=by
 have ha:=znP k ⟨w.heap.size,0,none⟩ (.int .i64 0) (w.alloc (.cells #[.int .i64 0] 45)) (hg.below (zba)) (by simp) (by simp)
 have Ha:=hid ha;clear ha hg
 go_enter Tryz.func16,Tryz.ntmps16
 go_wp2_with (go_at_call 56;refine Ha.out.mono ?_;rintro e w' ⟨rfl,rfl⟩)
 go_ret
 exact ⟨rfl,((((zba).alloc (by simp only [zy];omega) _).alloc (by simp only [zy];omega) _).alloc (by simp only [zy];omega) _).alloc (by simp only [zy];omega) _⟩
theorem zmh (v : Value) (w : World) : (ReflectliteType.typeOf #[.iface 156 v]).run Tryz.prog w = .ok (.iface 258 (.agg #[.pointer (some ⟨10,156,none⟩)])) w:=by kernel_rfl
theorem zgy (w : World) : (ReflectliteType.relation "AssignableTo" ReflectliteType.assignableTo #[.agg #[.pointer (some ⟨10, 156, none⟩)], .iface 258 (.agg #[.pointer (some ⟨10, 45, none⟩)])]).run Tryz.prog w = .ok (.bool false) w := by kernel_rfl
theorem zqI (v : Value) (xT : TypeId) (w : World) : (Instr.typeAssert (.iface 156 v) xT 263 true).run Tryz.prog w = .ok (.tuple #[.nilIface,.bool false]) w:=run_typeAssert_lacksB Tryz.underlying263 (by kernel_rfl) (by kernel_rfl) v xT w
theorem zmq (v : Value) (xT : TypeId) (w : World) : (Instr.typeAssert (.iface 156 v) xT 266 true).run Tryz.prog w = .ok (.tuple #[.iface 156 v,.bool true]) w:=run_typeAssert_hasB Tryz.underlying266 (by kernel_rfl) v xT w
theorem zf8 (h : Value) (w : World) : (Go.method 501 156 h "Unwrap").run Tryz.prog w = .ok (313, h) w := by kernel_rfl
set_option maxRecDepth 100000 in
set_option maxHeartbeats 4000000 in
theorem as_at (p : Nat) (k pl : Int) (t : Addr) (old : Value) (w : World) (hg : zV w) (hp : w.heap[p]? = some (.cells #[.int .i64 k,.int .i64 pl] 158 (0,0))) (ht0 : w.cell? t = some old) (hf0 : w.frozen? t = false) :
 Calls Tryz.prog 56 #[.iface 156 (.pointer (some ⟨p,0,none⟩)),.iface 123 (.pointer (some t))] w fun ev w' => ev = .returned (.bool true) ∧ w' = ((((w.alloc (.cells #[.pointer (some t)] 123)).alloc (.cells #[.pointer (some ⟨10,123,none⟩),.pointer (some ⟨w.heap.size,0,none⟩),.int .u64 150] 198)).alloc (.cells #[.pointer (some ⟨10,123,none⟩),.pointer (some ⟨w.heap.size,0,none⟩),.int .u64 150] 198)).alloc (.cells #[.int .i64 k] 45)).setCell t (.int .i64 k):=by
 have h6:=@run_callFunc_extern Tryz.prog 109 _ (fun args => ReflectliteValue.unpack (args.getD 0 (.tuple #[]))) Tryz.func109 (by kernel_rfl) (by kernel_rfl) (by kernel_rfl) (by kernel_rfl)
 have h7 := @run_callFunc_extern Tryz.prog 110 _ (ReflectliteValue.methodAny (ReflectliteValue.valueError "reflectlite.Value.Type" 0) (fun t _ _ _ => ReflectliteType.toType t)) Tryz.func110 (by kernel_rfl) (by kernel_rfl) (by kernel_rfl) (by kernel_rfl)
 have h8 := @run_callFunc_extern Tryz.prog 111 _ (ReflectliteValue.method (ReflectliteValue.valueError "reflectlite.Value.IsNil" 0) ReflectliteValue.isNil) Tryz.func111 (by kernel_rfl) (by kernel_rfl) (by kernel_rfl) (by kernel_rfl)
 have h27:=@run_callFunc_extern Tryz.prog 306 _ (ReflectliteType.abiMethod fun t => do pure (.int .u8 (← Rtype.kind t))) Tryz.func306 (by kernel_rfl) (by kernel_rfl) (by kernel_rfl) (by kernel_rfl)
 have h37:=@run_callFunc_extern Tryz.prog 320 _ (ReflectliteType.method ReflectliteType.elem) Tryz.func320 (by kernel_rfl) (by kernel_rfl) (by kernel_rfl) (by kernel_rfl)
 have h38 := @run_callFunc_extern Tryz.prog 321 _ (ReflectliteType.relation "Implements" ReflectliteType.implements_) Tryz.func321 (by kernel_rfl) (by kernel_rfl) (by kernel_rfl) (by kernel_rfl)
 have h10:=@run_callFunc_extern Tryz.prog 162 _ ReflectliteType.typeOf Tryz.func162 (by kernel_rfl) (by kernel_rfl) (by kernel_rfl) (by kernel_rfl)
 have h35 := @run_callFunc_extern Tryz.prog 318 _ (ReflectliteType.relation "AssignableTo" ReflectliteType.assignableTo) Tryz.func318 (by kernel_rfl) (by kernel_rfl) (by kernel_rfl) (by kernel_rfl)
 have h11 := @run_callFunc_extern Tryz.prog 163 _ (ReflectliteValue.method (ReflectliteValue.valueError "reflectlite.Value.Elem" 0) ReflectliteValue.elem) Tryz.func163 (by kernel_rfl) (by kernel_rfl) (by kernel_rfl) (by kernel_rfl)
 have h12:=@run_callFunc_extern Tryz.prog 164 _ ReflectliteValue.set Tryz.func164 (by kernel_rfl) (by kernel_rfl) (by kernel_rfl) (by kernel_rfl)
 have tO:=zgJ
 have mA:=j5
 have a25:=zdE
 have v25:=zfE
 have f6:=zfN
 have f7:=zkU
 have mK:=zdK
 have mE:=zdj
 have mI:=zaa
 have k27:=zkY
 have k25:=zkT
 have e27:=zkQ
 have i25:=zc7
 have n8:=zkR ⟨w.heap.size,0,none⟩ t ((w.alloc (.cells #[.pointer (some t)] 123)).alloc (.cells #[.pointer (some ⟨10,123,none⟩),.pointer (some ⟨w.heap.size,0,none⟩),.int .u64 150] 198)) (by simp)
 have tA:=zmh
 have aA:=zgy
 have s1:=zqI
 have s2:=zmq
 have mU:=zf8
 have hp3 : (((w.alloc (.cells #[.pointer (some t)] 123)).alloc (.cells #[.pointer (some ⟨10,123,none⟩),.pointer (some ⟨w.heap.size,0,none⟩),.int .u64 150] 198)).alloc (.cells #[.pointer (some ⟨10,123,none⟩),.pointer (some ⟨w.heap.size,0,none⟩),.int .u64 150] 198)).cell? ⟨p,0,none⟩ = some (.int .i64 k):=by
  rw [cell_of_row _ p _ _ _ _ (zh (zh (zh hp)))];rfl
 have hlt : 0 < w.heap.size:=hg.lt
 have hg2 : ((w.alloc (.cells #[.pointer (some t)] 123)).alloc (.cells #[.pointer (some ⟨10,123,none⟩),.pointer (some ⟨w.heap.size,0,none⟩),.int .u64 150] 198)).cell? ⟨0,0,none⟩ = some (.iface 258 (.agg #[.pointer (some ⟨10,33,none⟩)])):=by
  rw [World.cell?_alloc_lt _ _ ⟨0,0,none⟩ (by simp),World.cell?_alloc_lt _ _ ⟨0,0,none⟩ hlt];exact hg
 have htl : t.block < w.heap.size:=by
  rcases Nat.lt_or_ge t.block w.heap.size with h | h
  · exact h
  · simp [World.cell?,Array.getElem?_eq_none h] at ht0
 have el:=zli ⟨w.heap.size,0,none⟩ t (((w.alloc (.cells #[.pointer (some t)] 123)).alloc (.cells #[.pointer (some ⟨10,123,none⟩),.pointer (some ⟨w.heap.size,0,none⟩),.int .u64 150] 198)).alloc (.cells #[.pointer (some ⟨10,123,none⟩),.pointer (some ⟨w.heap.size,0,none⟩),.int .u64 150] 198)) (by rw [World.cell?_alloc_lt _ _ ⟨w.heap.size,0,none⟩ (by simp;omega)];simp)
 have st:=zqy t ⟨w.heap.size + 1 + 1 + 1,0,none⟩ k old ((((w.alloc (.cells #[.pointer (some t)] 123)).alloc (.cells #[.pointer (some ⟨10,123,none⟩),.pointer (some ⟨w.heap.size,0,none⟩),.int .u64 150] 198)).alloc (.cells #[.pointer (some ⟨10,123,none⟩),.pointer (some ⟨w.heap.size,0,none⟩),.int .u64 150] 198)).alloc (.cells #[.int .i64 k] 45))
  (by rw [World.cell?_alloc_at _ _ _ _ (by simp)];rfl)
  (by rw [World.cell?_alloc_lt _ _ t (by simp;omega),World.cell?_alloc_lt _ _ t (by simp;omega),World.cell?_alloc_lt _ _ t (by simp;omega),World.cell?_alloc_lt _ _ t htl];exact ht0)
  (by rw [World.frozen?_alloc_old _ _ t (by simp;omega),World.frozen?_alloc_old _ _ t (by simp;omega),World.frozen?_alloc_old _ _ t (by simp;omega),World.frozen?_alloc_old _ _ t (Nat.ne_of_lt htl)];exact hf0)
 clear hg hp
 go_enter Tryz.func56,Tryz.ntmps56
 go_wp2
 refine wp_loop_rounds 2 ?_
 rw [rounds_succ]
 go_wp2
 rw [rounds_succ]
 go_wp2
 go_ret
 exact ⟨rfl,rfl⟩
set_option maxHeartbeats 4000000 in
theorem zpI (p : Nat) (k pl : Int) (w : World) (hg : zV w) (hp : w.heap[p]? = some (.cells #[.int .i64 k,.int .i64 pl] 158 (0,0))) : Calls Tryz.prog 16 #[.iface 156 (.pointer (some ⟨p,0,none⟩))] w fun e w' => e = .returned (.int .i64 k) ∧ Below w.heap.size w w':=by
 have ha:=as_at p k pl ⟨w.heap.size,0,none⟩ (.int .i64 0) (w.alloc (.cells #[.int .i64 0] 45)) (hg.below (zba)) (zh hp) (by simp) (by simp)
 have Ha:=hid ha;clear ha hg hp
 go_enter Tryz.func16,Tryz.ntmps16
 go_wp2_with (go_at_call 56;refine Ha.out.mono ?_;rintro e w' ⟨rfl,rfl⟩)
 go_ret
 exact ⟨rfl,((((zba).alloc (by simp only [zy];omega) _).alloc (by simp only [zy];omega) _).alloc (by simp only [zy];omega) _).alloc (by simp only [zy];omega) _⟩
