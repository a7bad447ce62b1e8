import Derived.Test.YtmlfelbkgoplhaaGreatDoorZfFixA
import Derived.Test.YtmlfelbkgoplhaaGreatDoorZfPkU
set_option linter.unusedVariables false
set_option linter.unusedSimpArgs false
namespace Go.Proofs.YtmlfelbkgoplhaaGreatDoor
open Go.RowKit
theorem zph {B : Nat} {w W : World} (h : Below B w W.drew) : Below B w W:=⟨h.os,h.tape,h.output,h.size,h.block⟩
theorem bl1 {w W : World} {o : Obj} (h : Below w.heap.size w W) : Below w.heap.size w (W.alloc o):=h.alloc h.size _
theorem bd1 {w W : World} {o : Obj} (h : Below w.heap.size w W.drew) : Below w.heap.size w (W.alloc o).drew:=((zph h).alloc (zph h).size _).drew
section
variable (w : World) (a b c d : Obj)
theorem h10 : (w.alloc a).heap[w.heap.size]? = some a:=za rfl
theorem h21 : ((w.alloc a).alloc b).heap[w.heap.size + 1]? = some b:=za (by simp)
theorem h31 : (((w.alloc a).alloc b).alloc c).heap[w.heap.size + 1]? = some b:=zh (h21 w a b)
end
theorem own_ne {g k n c : Nat} (h : g ≠ k) : (Value.slice (some ⟨g,0,none⟩) n c).ownBlock ≠ some k:=fun e => h (by injection e)
theorem zqM {α : Type} {W : World} {base z k : Nat} {T T' : TypeId} {enc : α → List Value} {v : Value} {xs : List α} {cs : Array Value} (hr : zo W base T z enc v xs) (hk : W.heap[k]? = some (.cells cs T' (0,0))) (hT : T' ≠ T) : v.ownBlock ≠ some k:=by
 rcases hr.2 with ⟨rfl,_⟩ | ⟨g,cap,cur,rfl,_,hg,_⟩
 · intro e;cases e
 ·
  intro e
  have e2 : g = k:=by injection e
  rw [e2,hk] at hg
  injection hg with hg
  injection hg with _ h2 _
  exact hT h2
theorem zhR {α : Type} {W w16 : World} {base z k : Nat} {T T' : TypeId} {enc : α → List Value} {v : Value} {xs : List α} {cs : Array Value} (hr : zo W base T z enc v xs) (hk16 : ∀ k,k < W.heap.size → v.ownBlock ≠ some k → w16.heap[k]? = W.heap[k]?) (hk : W.heap[k]? = some (.cells cs T' (0,0))) (hT : T' ≠ T) : w16.heap[k]? = some (.cells cs T' (0,0)) :=
 (hk16 k (zlb hk) (zqM hr hk hT)).trans hk
theorem zlW {W : World} {g : Nat} {x : Int} (h : W.heap[g]? = some (.cells #[.int .i64 x] 3 (0,0))) : yM W 0 (.slice (some ⟨g,0,none⟩) 1 1) [x] :=
 ⟨rfl,.inr ⟨g,1,#[.int .i64 x],rfl,znz _,h,znr _,by decide,rfl,rfl⟩⟩
theorem zmE {V m : Nat} {l : List (List Int)} {x : Int} (h : Good (V : Int) l) (hm : m ≤ 199) (hx : x ≠ 0 ∧ -(V : Int) ≤ x ∧ x ≤ V) : Good (V : Int) (l.take m ++ [[x]]):=by
 refine ⟨h.1,h.2.1,?_,fun c hc => ?_⟩
 · rw [List.length_append,List.length_take,List.length_singleton];omega
 ·
  rcases List.mem_append.1 hc with q | q
  · exact h.2.2.2 c (List.mem_of_mem_take q)
  ·
   rw [List.mem_singleton.1 q]
   exact ⟨by simp,zaN (fun y hy => by rw [List.mem_singleton.1 hy];exact hx)⟩
theorem zbK {W : World} {ops : Array Oper} {o : Oper} {a : Act} {K : Act → World → Prop} {Q : Exit → Act → World → Prop} {E : Prop} (hgd : o.guard = none) (s x : Operand)
 (ho : o.op = .call { callee:=.builtin .append,args:=#[s,x],argTypes:=#[25,25] })
 (base : Nat) (v : Value) (xs : List Value) (hs : a.eval s = v) (hr : zo W base 64 1 qI v xs)
 (q : Nat) (hx : a.eval x = .slice (some ⟨q,0,none⟩) 1 1) (y : Value) (hq : W.heap[q]? = some (.cells #[y] 64 (0,0))) (h1 : y.oneCell' = true) (n1 : Nat) (hn1 : xs.length + 1 = n1) (hn : xs.length + 1 ≤ 1000000) (hbase : base ≤ W.heap.size)
 (h : ∀ g cap w',zo w' base 64 1 qI (.slice (some ⟨g,0,none⟩) n1 cap) (xs ++ [y]) → Below base W w' → (∀ k,k < W.heap.size → v.ownBlock ≠ some k → w'.heap[k]? = W.heap[k]?) → K (a.put o.dst (.slice (some ⟨g,0,none⟩) n1 cap)) w') :
 if Region.wanted o (yielded ops a.tmps) = true then Oper.wp Tryz.prog o a W K Q else E:=by
 subst hn1
 obtain ⟨i0,hi,hz0,hz1,hz2⟩:=info_parts zcV
 exact xq hgd s x 64 25 1 24 qI (fun _ => rfl) y (fun u hu => by rw [List.mem_singleton.1 hu];exact h1) ho i0 (.slice none 0 0) Tryz.underlying25 hi hz0 hz1 hz2 rfl (by decide) (by decide) base v xs hs hr #[y] rfl q hq hx hn hbase (fun g cap w' h1 h2 h3 _ => h g cap w' h1 h2 h3)
theorem ziB {W w16 : World} {base V m : Nat} {us : List Value} {ls : List (List Int)} {v : Value} {g : Nat} {x : Int} (hr : zo w16 base 64 1 qI v (us.take m ++ [.slice (some ⟨g,0,none⟩) 1 1])) (hall : yG (fun v c => yM w16 0 v c) us ls) (hl : w16.heap[g]? = some (.cells #[.int .i64 x] 3 (0,0))) (hg : Good (V : Int) ls) (hV : V ≤ 10) (hm : m ≤ 199) (hx : x ≠ 0 ∧ -(V : Int) ≤ x ∧ x ≤ V) (hW : Below w16.heap.size w16 W) :
 Calls Tryz.prog 21 #[.int .i64 V,v] W fun e w' => (∃ (holds : Bool) (vals : Nat) (a : Option Addr) (n c : Nat),e = .returned (.tuple #[.agg #[.bool holds,.int .u64 vals,.slice a n c],.nilIface]) ∧ (holds = true ↔ zcz (ls.take m ++ [[x]]))) ∧ Below W.heap.size W w':=by
 have hc:=(zkb m hr hall (zlW hl)).below hW
 have hgm:=zmE hg hm hx
 exact zjM V v _ W (hc.rows (by have:=hgm.2.2.1;omega) (fun c hc => by have:=(hgm.2.2.2 c hc).1;omega)) hgm (zkp _ (by omega))
