import Derived.Test.YtmlfelbkgoplhaaGreatDoorZfPkO
set_option linter.unusedVariables false
set_option linter.unusedSimpArgs false
namespace Go.Proofs.YtmlfelbkgoplhaaGreatDoor
open Go.RowKit
theorem zfF {W : World} {base g : Nat} (hb : base ≤ g) (hk : W.heap[g]? = some (.cells #[] 64 (0,0))) : zo W base 64 1 qI (.slice (some ⟨g,0,none⟩) 0 0) [] :=
 ⟨by simp [xP],.inr ⟨g,0,#[],rfl,hb,hk,znr _,znz _,rfl,rfl⟩⟩
theorem zqo : ∀ vs : List Value,xP qI vs = vs
 | [] => rfl
 | v :: vs => by
  have:=zqo vs
  unfold xP at this ⊢
  rw [List.flatMap_cons,this]
  rfl
theorem zfQ {w : World} (base : Nat) (t ty e : TypeId) (i : TypeInfo) (size c : Nat) (ht : Tryz.prog.underlying t = some (.slice e)) (hi : Tryz.prog.info? e = some i)
 (v : Value) (n : Nat) (xs : List Value) (hown : w.ownsRow base e size v n xs) :
 (Builtin.append_ #[t,t] ty #[v,.slice none 0 c]).run Tryz.prog w = .ok v w:=by
 rcases hown.2 with ⟨rfl,rfl⟩ | ⟨g,cap,cur,rfl,_,_,hnc,_⟩
 · simp [Builtin.append_,run_underlying ht,sizeOf,typeInfo,hi,Builtin.lenOf,Builtin.firstCells]
 · simp [Builtin.append_,run_underlying ht,sizeOf,typeInfo,hi,Builtin.lenOf,Builtin.firstCells,hnc,storeCells]
theorem zb9 {W : World} {ops : Array Oper} {o : Oper} {a : Act} {K : Act → World → Prop} {Q : Exit → Act → World → Prop} {E : Prop} (hgd : o.guard = none) (s x : Operand)
 (ho : o.op = .call { callee:=.builtin .append,args:=#[s,x],argTypes:=#[25,25] })
 (base : Nat) (v : Value) (xs : List Value) (hs : a.eval s = v) (hr : zo W base 64 1 qI v xs)
 (ad : Option Addr) (m c : Nat) (hx : a.eval x = .slice ad m c) (vs : List Value) (hl : vs.length = m) (hcell : ∀ (j : Nat) (u : Value),vs[j]? = some u → ∃ b o,ad = some ⟨b,o,none⟩ ∧ W.cell? ⟨b,o + j,none⟩ = some u) (h1 : ∀ u ∈ vs,u.oneCell' = true)
 (hn : xs.length + m ≤ 1000000) (hbase : base ≤ W.heap.size)
 (h : ∀ v' w',zo w' base 64 1 qI v' (xs ++ vs) → Below base W w' → (∀ k,k < W.heap.size → v.ownBlock ≠ some k → w'.heap[k]? = W.heap[k]?) → K (a.put o.dst v') w') :
 if Region.wanted o (yielded ops a.tmps) = true then Oper.wp Tryz.prog o a W K Q else E:=by
 have hw : Region.wanted o (yielded ops a.tmps) = true:=by simp [Region.wanted,hgd]
 rw [if_pos hw]
 obtain ⟨i0,hi,hz0,hz1,hz2⟩:=info_parts zcV
 cases ad with
 | none =>
  have e : vs = []:=by
   cases vs with
   | nil => rfl
   | cons y l => obtain ⟨b,o,e,_⟩:=hcell 0 y rfl;cases e
  subst e
  obtain rfl : m = 0:=by simpa using hl.symm
  have hrun:=zfQ (w:=W) base 25 o.type 64 i0 1 c Tryz.underlying25 hi v _ _ hr
  unfold Oper.wp execOp
  simp only [ho,resolve,invoke,builtin,Sem.run_bind,Sem.run_pure,Result.andThen_ok,List.map_toArray,List.map_cons,List.map_nil,hs,hx,hrun]
  exact h v W (by rw [List.append_nil];exact hr) (Below.refl _ _) (fun k _ _ => rfl)
 | some ad =>
  obtain ⟨v',w',hrun,h2,h3,_,_⟩:=run_append_own_at (P:=Tryz.prog) W base 25 o.type 64 i0 (.slice none 0 0) 1 24 Tryz.underlying25 hi hz0 hz1 hz2 rfl (by decide) v xs.length _ hr ad m c vs (by omega) (fun j u hu => by
   obtain ⟨b,o,e,hc⟩:=hcell j u hu
   obtain rfl:=Option.some.inj e
   rw [show (⟨b,o,none⟩ : Addr).add j = ⟨b,o + j,none⟩ from by simp [Addr.add]]
   exact hc) h1 (by simp only [maxLen];omega) (by omega) hbase
  unfold Oper.wp execOp
  simp only [ho,resolve,invoke,builtin,Sem.run_bind,Sem.run_pure,Result.andThen_ok,List.map_toArray,List.map_cons,List.map_nil,hs,hx,hrun]
  refine h v' w' ?_ ((Below.refl _ _).grown h3 hbase (fun j hj => (hr.lt hj).1)) (fun k hk hne => h3.block k hk (fun e => hne e.symm))
  unfold zo
  rw [List.length_append,hl]
  rw [zqo] at h2 ⊢
  exact h2
theorem zrJ {W : World} {base : Nat} {a : Option Addr} {n c : Nat} {us : List Value} (h : zo W base 64 1 qI (.slice a n c) us) (m j : Nat) (u : Value) (hu : (us.take m)[j]? = some u) : ∃ b o,a = some ⟨b,o,none⟩ ∧ W.cell? ⟨b,o + j,none⟩ = some u:=by
 have hu2 : us[j]? = some u:=by
  rw [List.getElem?_take] at hu
  split at hu
  · exact hu
  · cases hu
 have hj:=(List.getElem?_eq_some_iff.1 hu2).1
 obtain ⟨g,rfl,_,_⟩:=zo.at h (by omega)
 refine ⟨g,0,rfl,?_⟩
 have hc:=zo.cell zaZ h hj (j:=0) (by decide) rfl
 rw [Nat.mul_one,Nat.add_zero] at hc
 rw [Nat.zero_add,hc]
 congr 1
 exact (List.getElem?_eq_some_iff.1 hu2).2
theorem oneV {W : World} {us : List Value} {ls : List (List Int)} (h : yG (fun v c => yM W 0 v c) us ls) : ∀ u ∈ us,u.oneCell' = true:=by
 intro u hu
 obtain ⟨k,hk,rfl⟩:=List.getElem_of_mem hu
 have h1:=h.get k hk (by rw [← h.len];exact hk)
 obtain ⟨a,c,e,_,_⟩:=zo.shape h1
 rw [e]
 rfl
theorem yG.takes {α β : Type} {R : α → β → Prop} : ∀ (m : Nat) {ps : List α} {bs : List β},yG R ps bs → yG R (ps.take m) (bs.take m)
 | 0,_,_,_ => trivial
 | m + 1,[],[],_ => trivial
 | m + 1,_ :: _,_ :: _,h => ⟨h.1,yG.takes m h.2⟩
theorem zkb {W : World} {base : Nat} {v u : Value} {us : List Value} {ls : List (List Int)} {x : List Int} (m : Nat) (hr : zo W base 64 1 qI v (us.take m ++ [u])) (h : yG (fun v c => yM W 0 v c) us ls) (hu : yM W 0 u x) : zak W base v (ls.take m ++ [x]) :=
 ⟨_,hr,yG.snoc hu (yG.takes m h)⟩
