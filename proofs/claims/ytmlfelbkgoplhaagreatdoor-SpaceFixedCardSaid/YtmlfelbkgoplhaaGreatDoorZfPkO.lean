import Derived.Test.YtmlfelbkgoplhaaGreatDoorZfPkP
import Derived.Deep.RegionHeld3
import Derived.BigRegion
set_option linter.unusedVariables false
namespace Go.Proofs.YtmlfelbkgoplhaaGreatDoor
open Go.RowKit
def qI (v : Value) : List Value:=[v]
structure zbZ (w : World) (pr : Nat) (n : Int) (vc vf : Value) (vs : List Value) (rc : List (Int × List Int)) (W : World) : Prop where
 box : W.heap[pr]? = some (.cells #[.int .i64 n,vc,vf] 27 (0,0))
 row : zo W w.heap.size 64 1 qI vc vs
 cls : yG (fun v c => yM W 0 v c) vs (yB rc)
 frm : yM W w.heap.size vf (jO rc)
 apart : ∀ v ∈ vs,∀ b,v.ownBlock = some b → vf.ownBlock ≠ some b
 bel : Below w.heap.size w W
 here : w.heap.size ≤ pr
theorem xV {α β : Type} {R Q : α → β → Prop} : ∀ {ps : List α} {bs : List β},(∀ a ∈ ps,∀ b,R a b → Q a b) → yG R ps bs → yG Q ps bs
 | [],[],_,_ => trivial
 | a :: ps,b :: bs,h,k => ⟨h a (List.mem_cons_self ..) b k.1,xV (fun a ha => h a (List.mem_cons_of_mem _ ha)) k.2⟩
theorem zbZ.below {w : World} {pr : Nat} {n : Int} {vc vf : Value} {vs : List Value} {rc : List (Int × List Int)} {W W' : World} (h : zbZ w pr n vc vf vs rc W) (hb : Below W.heap.size W W') : zbZ w pr n vc vf vs rc W' :=
 ⟨(hb.block _ (zlb h.box)).trans h.box,h.row.below hb,xV (fun a _ b k => zo.below k hb) h.cls,zo.below h.frm hb,h.apart,h.bel.trans (hb.mono h.bel.size),h.here⟩
theorem zcV : (Tryz.prog.info? 64).map (fun i => (i.zero,i.size,i.bytes)) = some (some (.slice none 0 0),1,24):=by kernel_rfl
theorem zaF : Tryz.prog.underlying 25 = some (.slice 64):=by kernel_rfl
theorem zaZ (v : Value) : (qI v).length = 1:=rfl
set_option maxHeartbeats 1000000 in
theorem xq {α : Type} {W : World} {ops : Array Oper} {o : Oper} {a : Act} {K : Act → World → Prop} {Q : Exit → Act → World → Prop} {E : Prop} (hgd : o.guard = none) (s x : Operand) (T S : TypeId) (z bytes : Nat) (enc : α → List Value) (hz : ∀ x,(enc x).length = z) (y : α) (h1 : ∀ u ∈ enc y,u.oneCell' = true)
 (ho : o.op = .call { callee:=.builtin .append,args:=#[s,x],argTypes:=#[S,S] })
 (i : TypeInfo) (zv : Value) (hu : Tryz.prog.underlying S = some (.slice T)) (hi : Tryz.prog.info? T = some i) (hzero : i.zero = some zv) (hsize : i.size = z) (hby : i.bytes = bytes) (hzs : zv.cells.size = z) (hzp : 0 < z) (hbb : bytes ≤ 1000)
 (base : Nat) (v : Value) (xs : List α) (hs : a.eval s = v) (hr : zo W base T z enc v xs) (cs : Array Value) (hcs : cs.toList = enc y)
 (q : Nat) (hq : W.heap[q]? = some (.cells cs T (0,0))) (hx : a.eval x = .slice (some ⟨q,0,none⟩) 1 1) (hn : xs.length + 1 ≤ 1000000) (hbase : base ≤ W.heap.size)
 (h : ∀ g cap w',zo w' base T z enc (.slice (some ⟨g,0,none⟩) (xs.length + 1) cap) (xs ++ [y]) → Below base W w' → (∀ k,k < W.heap.size → v.ownBlock ≠ some k → w'.heap[k]? = W.heap[k]?) → (v.ownBlock = some g ∨ W.heap.size ≤ g) → K (a.put o.dst (.slice (some ⟨g,0,none⟩) (xs.length + 1) cap)) w') :
 if Region.wanted o (yielded ops a.tmps) = true then Oper.wp Tryz.prog o a W K Q else E:=by
 have hb2 : (xs.length + 1) * bytes ≤ 140737488355328:=by
  have : (xs.length + 1) * bytes ≤ 1000000 * 1000:=Nat.mul_le_mul hn hbb
  omega
 refine step_append_lies _ hgd s x S ho base T i zv z bytes hu hi hzero hsize hby hzs hzp v xs.length _ hs hr ⟨q,0,none⟩ 1 1 (enc y) hx (by rw [hz];omega) (fun j u hu => World.news_of_block hq j u (by rw [hcs];exact hu)) h1 (by decide) (by simp only [maxLen];omega) hb2 hbase _ rfl (fun g cap w' h2 h3 h4 _ => ?_)
 refine h g cap w' ?_ ?_ (fun k hk hne => h3.block k hk (fun e => hne e.symm)) (h4.imp id (fun e => by omega))
 ·
  unfold zo
  rw [zao,List.length_append]
  exact h2
 · exact (Below.refl _ _).grown h3 hbase (fun j hj => (hr.lt hj).1)
structure qR (pr : Nat) (vc0 vf0 vc vf : Value) (W0 W : World) : Prop where
 siz : W0.heap.size ≤ W.heap.size
 kept : ∀ j,j < W0.heap.size → j ≠ pr → vc0.ownBlock ≠ some j → vf0.ownBlock ≠ some j → W.heap[j]? = W0.heap[j]?
 own1 : ∀ j,j < W0.heap.size → vc.ownBlock = some j → vc0.ownBlock = some j
 own2 : ∀ j,j < W0.heap.size → vf.ownBlock = some j → vf0.ownBlock = some j
theorem qR.refl (pr : Nat) (vc vf : Value) (W : World) : qR pr vc vf vc vf W W:=⟨znr _,fun _ _ _ _ _ => rfl,fun _ _ h => h,fun _ _ h => h⟩
theorem qR.trans {pr : Nat} {v0 f0 v1 f1 v2 f2 : Value} {W0 W1 W2 : World} (h : qR pr v0 f0 v1 f1 W0 W1) (k : qR pr v1 f1 v2 f2 W1 W2) : qR pr v0 f0 v2 f2 W0 W2 :=
 ⟨Nat.le_trans h.siz k.siz,fun j h1 h2 h3 h4 => (k.kept j (Nat.lt_of_lt_of_le h1 h.siz) h2 (fun e => h3 (h.own1 j h1 e)) (fun e => h4 (h.own2 j h1 e))).trans (h.kept j h1 h2 h3 h4),fun j h1 e => h.own1 j h1 (k.own1 j (Nat.lt_of_lt_of_le h1 h.siz) e),fun j h1 e => h.own2 j h1 (k.own2 j (Nat.lt_of_lt_of_le h1 h.siz) e)⟩
theorem qR.of_below (pr : Nat) (vc vf : Value) {W W' : World} (h : Below W.heap.size W W') : qR pr vc vf vc vf W W':=⟨h.size,fun j h1 _ _ _ => h.block j h1,fun _ _ h => h,fun _ _ h => h⟩
theorem qR.below {pr : Nat} {v0 f0 v1 f1 : Value} {W0 W1 W2 : World} (h : qR pr v0 f0 v1 f1 W0 W1) (k : Below W1.heap.size W1 W2) : qR pr v0 f0 v1 f1 W0 W2:=h.trans (.of_below pr v1 f1 k)
theorem qR.yI {T : TypeId} {w : World} {pr : Nat} {n : Int} {v0 f0 v1 f1 : Value} {vs : List Value} {rc : List (Int × List Int)} {W0 W1 : World} (h : qR pr v0 f0 v1 f1 W0 W1) (hr : zbZ w pr n v0 f0 vs rc W0) (h1 : T ≠ 27) (h2 : T ≠ 64) (h3 : T ≠ 3) : yD T W0 W1:=fun j cur e => by
 refine h.kept j (zlb e) (fun q => ?_) (fun q => ?_) (fun q => ?_)
 · rw [q,hr.box] at e;simp only [Option.some.injEq,Obj.cells.injEq] at e;exact h1 e.2.1.symm
 · obtain ⟨cur2,e2⟩:=hr.row.ty _ q;rw [e2] at e;simp only [Option.some.injEq,Obj.cells.injEq] at e;exact h2 e.2.1.symm
 · obtain ⟨cur2,e2⟩:=zo.ty hr.frm _ q;rw [e2] at e;simp only [Option.some.injEq,Obj.cells.injEq] at e;exact h3 e.2.1.symm
structure AI (W0 : World) (vc0 vf0 : Value) (w : World) (pr : Nat) (n : Int) (vs0 : List Value) (rc : List (Int × List Int)) (vl : Value) (c : List Int) (x1 x2 vc vf : Value) (vs : List Value) (fs : List Int) (W : World) : Prop where
 box : W.heap[pr]? = some (.cells #[.int .i64 n,x1,x2] 27 (0,0))
 row : zo W w.heap.size 64 1 qI vc vs
 cls : yG (fun v c => yM W 0 v c) vs0 (yB rc)
 lie : yM W 0 vl c
 frm : yM W w.heap.size vf fs
 apart : ∀ v ∈ vs0,∀ b,v.ownBlock = some b → vf.ownBlock ≠ some b
 apl : ∀ b,vl.ownBlock = some b → vf.ownBlock ≠ some b
 bel : Below w.heap.size w W
 here : w.heap.size ≤ pr
 stay : qR pr vc0 vf0 vc vf W0 W
section
variable {W0 : World} {vc0 vf0 : Value} {w : World} {pr : Nat} {n : Int} {vs0 : List Value} {rc : List (Int × List Int)} {vl : Value} {c : List Int} {x1 x2 vc vf : Value} {vs : List Value} {fs : List Int} {W W' : World}
theorem AI.below (h : AI W0 vc0 vf0 w pr n vs0 rc vl c x1 x2 vc vf vs fs W) (hb : Below W.heap.size W W') : AI W0 vc0 vf0 w pr n vs0 rc vl c x1 x2 vc vf vs fs W' :=
 ⟨(hb.block _ (zlb h.box)).trans h.box,h.row.below hb,xV (fun a _ b k => zo.below k hb) h.cls,zo.below h.lie hb,zo.below h.frm hb,h.apart,h.apl,h.bel.trans (hb.mono h.bel.size),h.here,h.stay.below hb⟩
theorem AI.app1 (h : AI W0 vc0 vf0 w pr n vs0 rc vl c x1 x2 vc vf vs fs W) {g k0 c0 : Nat} {y : Value} (hr : zo W' w.heap.size 64 1 qI (.slice (some ⟨g,0,none⟩) k0 c0) (vs ++ [y])) (hB : Below w.heap.size W W') (hk : ∀ k,k < W.heap.size → vc.ownBlock ≠ some k → W'.heap[k]? = W.heap[k]?) (hg : vc.ownBlock = some g ∨ W.heap.size ≤ g) : AI W0 vc0 vf0 w pr n vs0 rc vl c x1 x2 (.slice (some ⟨g,0,none⟩) k0 c0) vf (vs ++ [y]) fs W':=by
 have hty:=h.row.ty
 have h1 : yD 3 W W':=.grow hk hty (by decide)
 have h2 : yD 27 W W':=.grow hk hty (by decide)
 refine ⟨(h2 pr _ h.box).trans h.box,hr,xV (fun a _ b k => zo.yI k h1) h.cls,zo.yI h.lie h1,zo.yI h.frm h1,h.apart,h.apl,h.bel.trans hB,h.here,h.stay.trans ⟨hB.size,fun j a1 _ a3 _ => hk j a1 a3,fun j a1 e => ?_,fun _ _ h => h⟩⟩
 have e3 : g = j:=by simpa [Value.ownBlock] using e
 rcases hg with q | q
 · rw [q,e3]
 · omega
theorem AI.zke (h : AI W0 vc0 vf0 w pr n vs0 rc vl c x1 x2 vc vf vs fs W) {g k0 c0 : Nat} {y : Int} (hr : zo W' w.heap.size 3 1 yF (.slice (some ⟨g,0,none⟩) k0 c0) (fs ++ [y])) (hB : Below w.heap.size W W') (hk : ∀ k,k < W.heap.size → vf.ownBlock ≠ some k → W'.heap[k]? = W.heap[k]?) (hg : vf.ownBlock = some g ∨ W.heap.size ≤ g) : AI W0 vc0 vf0 w pr n vs0 rc vl c x1 x2 vc (.slice (some ⟨g,0,none⟩) k0 c0) vs (fs ++ [y]) W':=by
 have hty:=zo.ty h.frm
 have h1 : yD 64 W W':=.grow hk hty (by decide)
 have h2 : yD 27 W W':=.grow hk hty (by decide)
 have key : ∀ {v : Value} {c : List Int},yM W 0 v c → (∀ b,v.ownBlock = some b → vf.ownBlock ≠ some b) → yM W' 0 v c ∧ ∀ b,v.ownBlock = some b → (Value.slice (some ⟨g,0,none⟩) k0 c0).ownBlock ≠ some b:=fun h ha => by
  refine ⟨zo.keep h (fun b e => hk b (zo.lt h e).2 (ha b e)),fun b e e2 => ?_⟩
  have hb:=(zo.lt h e).2
  have e3 : g = b:=by simpa [Value.ownBlock] using e2
  rcases hg with q | q
  · exact ha b e (by rw [q,e3])
  · omega
 refine ⟨(h2 pr _ h.box).trans h.box,h.row.yI h1,xV (fun a ha b k => (key k (h.apart a ha)).1) h.cls,(key h.lie h.apl).1,hr,fun v hv b e => ?_,(key h.lie h.apl).2,h.bel.trans hB,h.here,h.stay.trans ⟨hB.size,fun j a1 _ _ a4 => hk j a1 a4,fun _ _ h => h,fun j a1 e => by
  have e3 : g = j:=by simpa [Value.ownBlock] using e
  rcases hg with q | q
  · rw [q,e3]
  · omega⟩⟩
 obtain ⟨b',_,hr'⟩:=zdZ h.cls v hv
 exact (key hr' (h.apart v hv)).2 b e
theorem AI.set (h : AI W0 vc0 vf0 w pr n vs0 rc vl c x1 x2 vc vf vs fs W) (j : Nat) (u y1 y2 : Value) (hb : (W.setCell ⟨pr,j,none⟩ u).heap[pr]? = some (.cells #[.int .i64 n,y1,y2] 27 (0,0))) : AI W0 vc0 vf0 w pr n vs0 rc vl c y1 y2 vc vf vs fs (W.setCell ⟨pr,j,none⟩ u):=by
 have h1 : yD 3 W (W.setCell ⟨pr,j,none⟩ u):=.set h.box (by decide) j u
 have h2 : yD 64 W (W.setCell ⟨pr,j,none⟩ u):=.set h.box (by decide) j u
 exact ⟨hb,h.row.yI h2,xV (fun a _ b k => zo.yI k h1) h.cls,zo.yI h.lie h1,zo.yI h.frm h1,h.apart,h.apl,h.bel.setCell (p:=⟨pr,j,none⟩) h.here _,h.here,h.stay.trans ⟨by simp,fun i _ a2 _ _ => zhc _ _ _ _ (by show i ≠ pr;exact a2),fun _ _ h => h,fun _ _ h => h⟩⟩
end
theorem zcO {w : World} {p : Nat} {a b c : Value} {T : TypeId} (h : w.heap[p]? = some (.cells #[a,b,c] T (0,0))) : w.cell? ⟨p,1,none⟩ = some b ∧ w.cell? ⟨p,2,none⟩ = some c ∧ w.frozen? ⟨p,1,none⟩ = false ∧ w.frozen? ⟨p,2,none⟩ = false:=by
 refine ⟨by rw [cell_of_row w p _ _ _ _ h];rfl,by rw [cell_of_row w p _ _ _ _ h];rfl,?_,?_⟩
 all_goals simp [World.frozen?,h]
theorem zhH {W0 : World} {vc0 vf0 : Value} {w : World} {pr : Nat} {n f : Int} {vs : List Value} {rc : List (Int × List Int)} {vl : Value} {c : List Int} {vc vf : Value} {fs : List Int} {W : World} (e : fs = jO rc) (h : AI W0 vc0 vf0 w pr n vs rc vl c vc vf vc vf (vs ++ [vl]) (fs ++ [f]) W) : zbZ w pr n vc vf (vs ++ [vl]) (rc ++ [(f,c)]) W ∧ qR pr vc0 vf0 vc vf W0 W:=by
 subst e
 refine ⟨⟨h.box,h.row,?_,?_,fun v hv b hb => ?_,h.bel,h.here⟩,h.stay⟩
 · rw [zmS];exact h.cls.snoc h.lie
 · rw [zjT];exact h.frm
 ·
  rcases List.mem_append.1 hv with q | q
  · exact h.apart v q b hb
  · rw [List.mem_singleton.1 q] at hb;exact h.apl b hb
set_option maxRecDepth 100000 in
set_option maxHeartbeats 16000000 in
theorem zfd (w0 : World) (pr : Nat) (n f : Int) (vs : List Value) (rc : List (Int × List Int)) (vc vf : Value) (a : Option Addr) (c0 : Nat) (c : List Int) (w : World) (h : zbZ w0 pr n vc vf vs rc w) (hl : yM w 0 (.slice a c.length c0) c) (hap : ∀ b,(Value.slice a c.length c0).ownBlock = some b → vf.ownBlock ≠ some b) (hn : rc.length ≤ 100000) (hvl : vs.length = rc.length) :
 Calls Tryz.prog 98 #[.int .i64 f,.slice a c.length c0,.pointer (some ⟨pr,0,none⟩)] w fun e w' => e = .returned (.tuple #[]) ∧ ∃ vc' vf',zbZ w0 pr n vc' vf' (vs ++ [.slice a c.length c0]) (rc ++ [(f,c)]) w' ∧ qR pr vc vf vc' vf' w w':=by
 obtain ⟨iL,hiL,hzL0,hzL1,hzL2⟩:=info_parts zcV
 obtain ⟨iI,hiI,hzI0,hzI1,hzI2⟩:=info_parts zdO
 obtain ⟨a1,c1,rfl,_,_⟩:=h.row.shape
 obtain ⟨a2,c2,rfl,_,_⟩:=zo.shape h.frm
 have hfl : (jO rc).length = rc.length:=List.length_map ..
 have HP0:=hid (show AI w (.slice a1 vs.length c1) (.slice a2 (jO rc).length c2) w0 pr n vs rc (.slice a c.length c0) c (.slice a1 vs.length c1) (.slice a2 (jO rc).length c2) (.slice a1 vs.length c1) (.slice a2 (jO rc).length c2) vs (jO rc) w from ⟨h.box,h.row,h.cls,hl,h.frm,h.apart,hap,h.bel,h.here,qR.refl _ _ _ _⟩)
 have HiL:=hid hiL;have HzL0:=hid hzL0;have HzL1:=hid hzL1;have HzL2:=hid hzL2;have HiI:=hid hiI;have HzI0:=hid hzI0;have HzI1:=hid hzI1;have HzI2:=hid hzI2
 obtain ⟨fs,hfs⟩ : ∃ fs,fs = jO rc:=⟨_,rfl⟩
 rw [← hfs] at HP0 hfl
 have Hfs:=hid hfs
 have HP7:=hid (HP0.out.below ((Below.refl w.heap.size w).drew))
 have hn1 : vs.length ≤ 100000:=by omega
 have hn2 : fs.length ≤ 100000:=by omega
 clear hvl hfl hn
 clear h hl hap hiL hzL0 hzL1 hzL2 hiI hzI0 hzI1 hzI2 hfs HP0
 have hmx : Tryz.prog.follows .mixedOrders = true:=by kernel_rfl
 go_enter Tryz.func98,Tryz.ntmps98
 refine wp_region_noPanic ?_
 refine wp_region_any hmx ?_
 change wpAny _ _ _ _ _ _ _ w.drew
 refine zbf (S:=fun w' => ∃ vc' vf' vs' fs',AI w (.slice a1 vs.length c1) (.slice a2 fs.length c2) w0 pr n vs rc (.slice a c.length c0) c (.slice a1 vs.length c1) (.slice a2 fs.length c2) vc' vf' vs' fs' w') (D:=fun i => i == 11 || i == 12 || i == 13) _ _ _ _ ?_
 have hS : ∃ vc' vf' vs' fs',AI w (.slice a1 vs.length c1) (.slice a2 fs.length c2) w0 pr n vs rc (.slice a c.length c0) c (.slice a1 vs.length c1) (.slice a2 fs.length c2) vc' vf' vs' fs' w.drew:=⟨_,_,_,_,HP7.out⟩
 obtain ⟨w7,hw7⟩ : ∃ w7,w7 = w.drew:=⟨_,rfl⟩
 rw [← hw7] at HP7 hS ⊢
 clear hw7
 refine zTk 0 (.pointer (some ⟨pr,1,none⟩)) rfl (by kernel_rfl) (fun _ _ _ h => h) (Or.inl ⟨by rfl,fun w9 hS9 => by (obtain ⟨_,_,_,_,h9⟩:=hS9;obtain ⟨q1,q2,_,_⟩:=zcO h9.box;clear h9;go_simp)⟩) hS ?_
 try simp only [Act.put,List.getElem_toArray,List.getElem_cons_zero,List.setIfInBounds_toArray,List.set_cons_zero,List.set_cons_succ]
 refine zTk 1 (.slice a1 vs.length c1) rfl (by kernel_rfl) (fun _ _ _ h => h) (Or.inl ⟨by rfl,fun w9 hS9 => by (obtain ⟨_,_,_,_,h9⟩:=hS9;obtain ⟨q1,q2,_,_⟩:=zcO h9.box;clear h9;go_simp)⟩) hS ?_
 try simp only [Act.put,zs1,zs2,zs3,zs4,zs5,zs6]
 refine zTk 2 (.slice a c.length c0) rfl (by kernel_rfl) (fun _ _ _ h => h) (Or.inl ⟨by rfl,fun w9 hS9 => by (obtain ⟨_,_,_,_,h9⟩:=hS9;obtain ⟨q1,q2,_,_⟩:=zcO h9.box;clear h9;go_simp)⟩) hS ?_
 try simp only [Act.put,zs1,zs2,zs3,zs4,zs5,zs6]
 refine zTk 5 (.pointer (some ⟨pr,2,none⟩)) rfl (by kernel_rfl) (fun _ _ _ h => h) (Or.inl ⟨by rfl,fun w9 hS9 => by (obtain ⟨_,_,_,_,h9⟩:=hS9;obtain ⟨q1,q2,_,_⟩:=zcO h9.box;clear h9;go_simp)⟩) hS ?_
 try simp only [Act.put,zs1,zs2,zs3,zs4,zs5,zs6]
 refine zTk 6 (.slice a2 fs.length c2) rfl (by kernel_rfl) (fun _ _ _ h => h) (Or.inl ⟨by rfl,fun w9 hS9 => by (obtain ⟨_,_,_,_,h9⟩:=hS9;obtain ⟨q1,q2,_,_⟩:=zcO h9.box;clear h9;go_simp)⟩) hS ?_
 try simp only [Act.put,zs1,zs2,zs3,zs4,zs5,zs6]
 refine zTk 7 (.int .i64 f) rfl (by kernel_rfl) (fun _ _ _ h => h) (Or.inl ⟨by rfl,fun w9 hS9 => by (obtain ⟨_,_,_,_,h9⟩:=hS9;obtain ⟨q1,q2,_,_⟩:=zcO h9.box;clear h9;go_simp)⟩) hS ?_
 try simp only [Act.put,zs1,zs2,zs3,zs4,zs5,zs6]
 clear hS
 refine zw (rs:=[3,8]) (by kernel_rfl) (by simp) ?_
 refine ze.cons rfl (fun K hK => ?_) (ze.cons rfl (fun K hK => ?_) (ze.nil))
 ·
  skip
  go_simp
  have h:=HP7.out.below ((Below.refl _ _).alloc (znr _) (.cells #[.slice a c.length c0] 64))
  have hq : (w7.alloc (.cells #[.slice a c.length c0] 64)).heap[w7.heap.size]? = some (.cells #[.slice a c.length c0] 64 (0,0)):=za rfl
  refine hK.out _ _ (.inr ⟨_,_,_,_,h⟩) ?_
  clear hK K
  obtain ⟨q1,hqe⟩ : ∃ q,q = w7.heap.size:=⟨_,rfl⟩
  rw [← hqe] at hq ⊢
  clear hqe
  generalize w7.alloc (.cells #[.slice a c.length c0] 64) = w8 at h hq ⊢
  have HP8:=hid h;have HQ1_8:=hid hq;clear h hq
  try simp only [Act.put,zs1,zs2,zs3,zs4,zs5,zs6]
  refine zw (rs:=[4,8]) (by kernel_rfl) (by simp) ?_
  refine ze.cons rfl (fun K hK => ?_) (ze.cons rfl (fun K hK => ?_) (ze.nil))
  ·
   skip
   refine xq (W:=w8) (by rfl) (.tmp 6) (.tmp 8) 64 25 1 24 qI zaZ (.slice a c.length c0) (fun u hu => by simp only [qI,List.mem_singleton] at hu;subst hu;rfl) (by rfl) iL _ zaF HiL.out HzL0.out HzL1.out HzL2.out rfl (by decide) (by decide) w0.heap.size (.slice a1 vs.length c1) vs rfl HP8.out.row _ rfl q1 HQ1_8.out (by rfl) (by omega) HP8.out.bel.size (fun g1 d1 w9 hr hB hk hg => ?_)
   have h:=HP8.out.app1 hr hB hk hg
   refine hK.out _ _ (.inr ⟨_,_,_,_,h⟩) ?_
   clear hK K
   have HP9:=hid h;clear h hr hB hk hg
   try simp only [Act.put,zs1,zs2,zs3,zs4,zs5,zs6]
   have hS : ∃ vc' vf' vs' fs',AI w (.slice a1 vs.length c1) (.slice a2 fs.length c2) w0 pr n vs rc (.slice a c.length c0) c (.slice a1 vs.length c1) (.slice a2 fs.length c2) vc' vf' vs' fs' w9:=⟨_,_,_,_,HP9.out⟩
   refine zTk 10 (.pointer (some ⟨pr,1,none⟩)) rfl (by kernel_rfl) (fun _ _ _ h => h) (Or.inl ⟨by rfl,fun w9 hS9 => by (obtain ⟨_,_,_,_,h9⟩:=hS9;obtain ⟨q1,q2,_,_⟩:=zcO h9.box;clear h9;go_simp)⟩) hS ?_
   try simp only [Act.put,zs1,zs2,zs3,zs4,zs5,zs6]
   clear hS
   refine zw (rs:=[8]) (by kernel_rfl) (by simp) ?_
   refine ze.cons rfl (fun K hK => ?_) (ze.nil)
   go_simp
   have h:=HP9.out.below ((Below.refl _ _).alloc (znr _) (.cells #[.int .i64 f] 3))
   have hq : (w9.alloc (.cells #[.int .i64 f] 3)).heap[w9.heap.size]? = some (.cells #[.int .i64 f] 3 (0,0)):=za rfl
   refine hK.out _ _ (.inr ⟨_,_,_,_,h⟩) ?_
   clear hK K
   obtain ⟨q2,hqe⟩ : ∃ q,q = w9.heap.size:=⟨_,rfl⟩
   rw [← hqe] at hq ⊢
   clear hqe
   generalize w9.alloc (.cells #[.int .i64 f] 3) = w10 at h hq ⊢
   have HP10:=hid h;have HQ2_10:=hid hq;clear h hq
   try simp only [Act.put,zs1,zs2,zs3,zs4,zs5,zs6]
   refine zw (rs:=[9]) (by kernel_rfl) (by simp) ?_
   refine ze.cons rfl (fun K hK => ?_) (ze.nil)
   refine xq (W:=w10) (by rfl) (.tmp 11) (.tmp 13) 3 23 1 8 yF (fun _ => rfl) f (fun u hu => by simp only [yF,List.mem_singleton] at hu;subst hu;rfl) (by rfl) iI _ qO HiI.out HzI0.out HzI1.out HzI2.out rfl (by decide) (by decide) w0.heap.size (.slice a2 fs.length c2) fs rfl HP10.out.frm _ rfl q2 HQ2_10.out (by rfl) (by omega) HP10.out.bel.size (fun g2 d2 w11 hr hB hk hg => ?_)
   have h:=HP10.out.zke hr hB hk hg
   refine hK.out _ _ (.inr ⟨_,_,_,_,h⟩) ?_
   clear hK K
   have HP11:=hid h;clear h hr hB hk hg
   try simp only [Act.put,zs1,zs2,zs3,zs4,zs5,zs6]
   refine zw (rs:=[11]) (by kernel_rfl) (by simp) ?_
   refine ze.cons rfl (fun K hK => ?_) (ze.nil)
   have kb:=HP11.out.box;have kl:=zlb kb
   obtain ⟨kc1,kc2,kc3,kc4⟩:=zcO kb
   have h:=HP11.out.set 1 (.slice (some ⟨g1,0,none⟩) (vs.length + 1) d1) (.slice (some ⟨g1,0,none⟩) (vs.length + 1) d1) (.slice a2 fs.length c2) (heap_set kb 1 _)
   go_simp
   refine hK.out _ _ (.inl rfl) ?_
   clear hK K kb kl kc1 kc2 kc3 kc4
   generalize w11.setCell ⟨pr,1,none⟩ (.slice (some ⟨g1,0,none⟩) (vs.length + 1) d1) = w12 at h ⊢
   have HP12:=hid h;clear h
   try simp only [Act.put,zs1,zs2,zs3,zs4,zs5,zs6]
   refine zw (rs:=[12]) (by kernel_rfl) (by simp) ?_
   refine ze.cons rfl (fun K hK => ?_) (ze.nil)
   go_simp
   refine hK.out _ _ (.inl rfl) ?_
   clear hK K
   try simp only [Act.put,zs1,zs2,zs3,zs4,zs5,zs6]
   refine zw (rs:=[13]) (by kernel_rfl) (by simp) ?_
   refine ze.cons rfl (fun K hK => ?_) (ze.nil)
   have kb:=HP12.out.box;have kl:=zlb kb
   obtain ⟨kc1,kc2,kc3,kc4⟩:=zcO kb
   have h:=HP12.out.set 2 (.slice (some ⟨g2,0,none⟩) (fs.length + 1) d2) (.slice (some ⟨g1,0,none⟩) (vs.length + 1) d1) (.slice (some ⟨g2,0,none⟩) (fs.length + 1) d2) (heap_set kb 2 _)
   go_simp
   refine hK.out _ _ (.inl rfl) ?_
   clear hK K kb kl kc1 kc2 kc3 kc4
   generalize w12.setCell ⟨pr,2,none⟩ (.slice (some ⟨g2,0,none⟩) (fs.length + 1) d2) = w13 at h ⊢
   have HP13:=hid h;clear h
   try simp only [Act.put,zs1,zs2,zs3,zs4,zs5,zs6]
   refine qf (by kernel_rfl) (NoPanic.normal ?_) _
   go_wp2_with fail
   go_end0
   have h13:=zhH Hfs.out HP13.out
   rw [Hfs.out] at h13
   exact ⟨rfl,_,_,h13⟩
  ·
   skip
   go_simp
   have h:=HP8.out.below ((Below.refl _ _).alloc (znr _) (.cells #[.int .i64 f] 3))
   have hq : (w8.alloc (.cells #[.int .i64 f] 3)).heap[w8.heap.size]? = some (.cells #[.int .i64 f] 3 (0,0)):=za rfl
   have hq1:=zh (o:=(.cells #[.int .i64 f] 3)) HQ1_8.out
   refine hK.out _ _ (.inr ⟨_,_,_,_,h⟩) ?_
   clear hK K
   obtain ⟨q2,hqe⟩ : ∃ q,q = w8.heap.size:=⟨_,rfl⟩
   rw [← hqe] at hq ⊢
   clear hqe
   generalize w8.alloc (.cells #[.int .i64 f] 3) = w9 at h hq hq1 ⊢
   have HP9:=hid h;have HQ2_9:=hid hq;have HQ1_9:=hid hq1;clear h hq hq1
   try simp only [Act.put,zs1,zs2,zs3,zs4,zs5,zs6]
   refine zw (rs:=[4]) (by kernel_rfl) (by simp) ?_
   refine ze.cons rfl (fun K hK => ?_) (ze.nil)
   refine xq (W:=w9) (by rfl) (.tmp 6) (.tmp 8) 64 25 1 24 qI zaZ (.slice a c.length c0) (fun u hu => by simp only [qI,List.mem_singleton] at hu;subst hu;rfl) (by rfl) iL _ zaF HiL.out HzL0.out HzL1.out HzL2.out rfl (by decide) (by decide) w0.heap.size (.slice a1 vs.length c1) vs rfl HP9.out.row _ rfl q1 HQ1_9.out (by rfl) (by omega) HP9.out.bel.size (fun g1 d1 w10 hr hB hk hg => ?_)
   have h:=HP9.out.app1 hr hB hk hg
   have hq2:=(hk q2 (zlb HQ2_9.out) (fun e => by obtain ⟨cur,e2⟩:=HP9.out.row.ty _ e;have e3:=HQ2_9.out;rw [e2] at e3;simp at e3)).trans HQ2_9.out
   refine hK.out _ _ (.inr ⟨_,_,_,_,h⟩) ?_
   clear hK K
   have HP10:=hid h;have HQ2_10:=hid hq2;clear h hr hB hk hg hq2
   try simp only [Act.put,zs1,zs2,zs3,zs4,zs5,zs6]
   have hS : ∃ vc' vf' vs' fs',AI w (.slice a1 vs.length c1) (.slice a2 fs.length c2) w0 pr n vs rc (.slice a c.length c0) c (.slice a1 vs.length c1) (.slice a2 fs.length c2) vc' vf' vs' fs' w10:=⟨_,_,_,_,HP10.out⟩
   refine zTk 10 (.pointer (some ⟨pr,1,none⟩)) rfl (by kernel_rfl) (fun _ _ _ h => h) (Or.inl ⟨by rfl,fun w9 hS9 => by (obtain ⟨_,_,_,_,h9⟩:=hS9;obtain ⟨q1,q2,_,_⟩:=zcO h9.box;clear h9;go_simp)⟩) hS ?_
   try simp only [Act.put,zs1,zs2,zs3,zs4,zs5,zs6]
   clear hS
   refine zw (rs:=[9]) (by kernel_rfl) (by simp) ?_
   refine ze.cons rfl (fun K hK => ?_) (ze.nil)
   refine xq (W:=w10) (by rfl) (.tmp 11) (.tmp 13) 3 23 1 8 yF (fun _ => rfl) f (fun u hu => by simp only [yF,List.mem_singleton] at hu;subst hu;rfl) (by rfl) iI _ qO HiI.out HzI0.out HzI1.out HzI2.out rfl (by decide) (by decide) w0.heap.size (.slice a2 fs.length c2) fs rfl HP10.out.frm _ rfl q2 HQ2_10.out (by rfl) (by omega) HP10.out.bel.size (fun g2 d2 w11 hr hB hk hg => ?_)
   have h:=HP10.out.zke hr hB hk hg
   refine hK.out _ _ (.inr ⟨_,_,_,_,h⟩) ?_
   clear hK K
   have HP11:=hid h;clear h hr hB hk hg
   try simp only [Act.put,zs1,zs2,zs3,zs4,zs5,zs6]
   refine zw (rs:=[11]) (by kernel_rfl) (by simp) ?_
   refine ze.cons rfl (fun K hK => ?_) (ze.nil)
   have kb:=HP11.out.box;have kl:=zlb kb
   obtain ⟨kc1,kc2,kc3,kc4⟩:=zcO kb
   have h:=HP11.out.set 1 (.slice (some ⟨g1,0,none⟩) (vs.length + 1) d1) (.slice (some ⟨g1,0,none⟩) (vs.length + 1) d1) (.slice a2 fs.length c2) (heap_set kb 1 _)
   go_simp
   refine hK.out _ _ (.inl rfl) ?_
   clear hK K kb kl kc1 kc2 kc3 kc4
   generalize w11.setCell ⟨pr,1,none⟩ (.slice (some ⟨g1,0,none⟩) (vs.length + 1) d1) = w12 at h ⊢
   have HP12:=hid h;clear h
   try simp only [Act.put,zs1,zs2,zs3,zs4,zs5,zs6]
   refine zw (rs:=[12]) (by kernel_rfl) (by simp) ?_
   refine ze.cons rfl (fun K hK => ?_) (ze.nil)
   go_simp
   refine hK.out _ _ (.inl rfl) ?_
   clear hK K
   try simp only [Act.put,zs1,zs2,zs3,zs4,zs5,zs6]
   refine zw (rs:=[13]) (by kernel_rfl) (by simp) ?_
   refine ze.cons rfl (fun K hK => ?_) (ze.nil)
   have kb:=HP12.out.box;have kl:=zlb kb
   obtain ⟨kc1,kc2,kc3,kc4⟩:=zcO kb
   have h:=HP12.out.set 2 (.slice (some ⟨g2,0,none⟩) (fs.length + 1) d2) (.slice (some ⟨g1,0,none⟩) (vs.length + 1) d1) (.slice (some ⟨g2,0,none⟩) (fs.length + 1) d2) (heap_set kb 2 _)
   go_simp
   refine hK.out _ _ (.inl rfl) ?_
   clear hK K kb kl kc1 kc2 kc3 kc4
   generalize w12.setCell ⟨pr,2,none⟩ (.slice (some ⟨g2,0,none⟩) (fs.length + 1) d2) = w13 at h ⊢
   have HP13:=hid h;clear h
   try simp only [Act.put,zs1,zs2,zs3,zs4,zs5,zs6]
   refine qf (by kernel_rfl) (NoPanic.normal ?_) _
   go_wp2_with fail
   go_end0
   have h13:=zhH Hfs.out HP13.out
   rw [Hfs.out] at h13
   exact ⟨rfl,_,_,h13⟩
 ·
  skip
  go_simp
  have h:=HP7.out.below ((Below.refl _ _).alloc (znr _) (.cells #[.int .i64 f] 3))
  have hq : (w7.alloc (.cells #[.int .i64 f] 3)).heap[w7.heap.size]? = some (.cells #[.int .i64 f] 3 (0,0)):=za rfl
  refine hK.out _ _ (.inr ⟨_,_,_,_,h⟩) ?_
  clear hK K
  obtain ⟨q2,hqe⟩ : ∃ q,q = w7.heap.size:=⟨_,rfl⟩
  rw [← hqe] at hq ⊢
  clear hqe
  generalize w7.alloc (.cells #[.int .i64 f] 3) = w8 at h hq ⊢
  have HP8:=hid h;have HQ2_8:=hid hq;clear h hq
  try simp only [Act.put,zs1,zs2,zs3,zs4,zs5,zs6]
  refine zw (rs:=[3]) (by kernel_rfl) (by simp) ?_
  refine ze.cons rfl (fun K hK => ?_) (ze.nil)
  go_simp
  have h:=HP8.out.below ((Below.refl _ _).alloc (znr _) (.cells #[.slice a c.length c0] 64))
  have hq : (w8.alloc (.cells #[.slice a c.length c0] 64)).heap[w8.heap.size]? = some (.cells #[.slice a c.length c0] 64 (0,0)):=za rfl
  have hq2:=zh (o:=(.cells #[.slice a c.length c0] 64)) HQ2_8.out
  refine hK.out _ _ (.inr ⟨_,_,_,_,h⟩) ?_
  clear hK K
  obtain ⟨q1,hqe⟩ : ∃ q,q = w8.heap.size:=⟨_,rfl⟩
  rw [← hqe] at hq ⊢
  clear hqe
  generalize w8.alloc (.cells #[.slice a c.length c0] 64) = w9 at h hq hq2 ⊢
  have HP9:=hid h;have HQ1_9:=hid hq;have HQ2_9:=hid hq2;clear h hq hq2
  try simp only [Act.put,zs1,zs2,zs3,zs4,zs5,zs6]
  refine zw (rs:=[4]) (by kernel_rfl) (by simp) ?_
  refine ze.cons rfl (fun K hK => ?_) (ze.nil)
  refine xq (W:=w9) (by rfl) (.tmp 6) (.tmp 8) 64 25 1 24 qI zaZ (.slice a c.length c0) (fun u hu => by simp only [qI,List.mem_singleton] at hu;subst hu;rfl) (by rfl) iL _ zaF HiL.out HzL0.out HzL1.out HzL2.out rfl (by decide) (by decide) w0.heap.size (.slice a1 vs.length c1) vs rfl HP9.out.row _ rfl q1 HQ1_9.out (by rfl) (by omega) HP9.out.bel.size (fun g1 d1 w10 hr hB hk hg => ?_)
  have h:=HP9.out.app1 hr hB hk hg
  have hq2:=(hk q2 (zlb HQ2_9.out) (fun e => by obtain ⟨cur,e2⟩:=HP9.out.row.ty _ e;have e3:=HQ2_9.out;rw [e2] at e3;simp at e3)).trans HQ2_9.out
  refine hK.out _ _ (.inr ⟨_,_,_,_,h⟩) ?_
  clear hK K
  have HP10:=hid h;have HQ2_10:=hid hq2;clear h hr hB hk hg hq2
  try simp only [Act.put,zs1,zs2,zs3,zs4,zs5,zs6]
  have hS : ∃ vc' vf' vs' fs',AI w (.slice a1 vs.length c1) (.slice a2 fs.length c2) w0 pr n vs rc (.slice a c.length c0) c (.slice a1 vs.length c1) (.slice a2 fs.length c2) vc' vf' vs' fs' w10:=⟨_,_,_,_,HP10.out⟩
  refine zTk 10 (.pointer (some ⟨pr,1,none⟩)) rfl (by kernel_rfl) (fun _ _ _ h => h) (Or.inl ⟨by rfl,fun w9 hS9 => by (obtain ⟨_,_,_,_,h9⟩:=hS9;obtain ⟨q1,q2,_,_⟩:=zcO h9.box;clear h9;go_simp)⟩) hS ?_
  try simp only [Act.put,zs1,zs2,zs3,zs4,zs5,zs6]
  clear hS
  refine zw (rs:=[9]) (by kernel_rfl) (by simp) ?_
  refine ze.cons rfl (fun K hK => ?_) (ze.nil)
  refine xq (W:=w10) (by rfl) (.tmp 11) (.tmp 13) 3 23 1 8 yF (fun _ => rfl) f (fun u hu => by simp only [yF,List.mem_singleton] at hu;subst hu;rfl) (by rfl) iI _ qO HiI.out HzI0.out HzI1.out HzI2.out rfl (by decide) (by decide) w0.heap.size (.slice a2 fs.length c2) fs rfl HP10.out.frm _ rfl q2 HQ2_10.out (by rfl) (by omega) HP10.out.bel.size (fun g2 d2 w11 hr hB hk hg => ?_)
  have h:=HP10.out.zke hr hB hk hg
  refine hK.out _ _ (.inr ⟨_,_,_,_,h⟩) ?_
  clear hK K
  have HP11:=hid h;clear h hr hB hk hg
  try simp only [Act.put,zs1,zs2,zs3,zs4,zs5,zs6]
  refine zw (rs:=[11]) (by kernel_rfl) (by simp) ?_
  refine ze.cons rfl (fun K hK => ?_) (ze.nil)
  have kb:=HP11.out.box;have kl:=zlb kb
  obtain ⟨kc1,kc2,kc3,kc4⟩:=zcO kb
  have h:=HP11.out.set 1 (.slice (some ⟨g1,0,none⟩) (vs.length + 1) d1) (.slice (some ⟨g1,0,none⟩) (vs.length + 1) d1) (.slice a2 fs.length c2) (heap_set kb 1 _)
  go_simp
  refine hK.out _ _ (.inl rfl) ?_
  clear hK K kb kl kc1 kc2 kc3 kc4
  generalize w11.setCell ⟨pr,1,none⟩ (.slice (some ⟨g1,0,none⟩) (vs.length + 1) d1) = w12 at h ⊢
  have HP12:=hid h;clear h
  try simp only [Act.put,zs1,zs2,zs3,zs4,zs5,zs6]
  refine zw (rs:=[12]) (by kernel_rfl) (by simp) ?_
  refine ze.cons rfl (fun K hK => ?_) (ze.nil)
  go_simp
  refine hK.out _ _ (.inl rfl) ?_
  clear hK K
  try simp only [Act.put,zs1,zs2,zs3,zs4,zs5,zs6]
  refine zw (rs:=[13]) (by kernel_rfl) (by simp) ?_
  refine ze.cons rfl (fun K hK => ?_) (ze.nil)
  have kb:=HP12.out.box;have kl:=zlb kb
  obtain ⟨kc1,kc2,kc3,kc4⟩:=zcO kb
  have h:=HP12.out.set 2 (.slice (some ⟨g2,0,none⟩) (fs.length + 1) d2) (.slice (some ⟨g1,0,none⟩) (vs.length + 1) d1) (.slice (some ⟨g2,0,none⟩) (fs.length + 1) d2) (heap_set kb 2 _)
  go_simp
  refine hK.out _ _ (.inl rfl) ?_
  clear hK K kb kl kc1 kc2 kc3 kc4
  generalize w12.setCell ⟨pr,2,none⟩ (.slice (some ⟨g2,0,none⟩) (fs.length + 1) d2) = w13 at h ⊢
  have HP13:=hid h;clear h
  try simp only [Act.put,zs1,zs2,zs3,zs4,zs5,zs6]
  refine qf (by kernel_rfl) (NoPanic.normal ?_) _
  go_wp2_with fail
  go_end0
  have h13:=zhH Hfs.out HP13.out
  rw [Hfs.out] at h13
  exact ⟨rfl,_,_,h13⟩
theorem zhu (i : Nat) (items : List zA) (k : Nat) : (za6 i items k).length ≤ i:=by
 unfold za6
 rw [List.length_map]
 exact Nat.le_trans (List.length_filter_le _ _) (by simp)
theorem zd2 (n : Nat) (items : List zA) (hn : n ≤ 24) : (jJ n items).length ≤ 24 * n:=by
 induction n with
 | zero => simp [jJ]
 | succ n ih =>
  rw [zf0,List.length_append]
  have:=zhu n items n
  have:=ih (by omega)
  omega
theorem zlH (items : List zA) (i : Nat) (x : zm) (hn : items.length ≤ 24) : (qZ items i x).length ≤ 24:=by
 unfold qZ
 split
 · simp
 ·
  split
  · simp
  ·
   split
   · rw [List.length_map];exact Nat.le_trans (jS _ _ _ _) hn
   · simp
theorem zcR (items : List zA) (hn : items.length ≤ 24) : ∀ (i : Nat) (l : List zm),(xu items i l).length ≤ 24 * l.length
 | i,[] => by simp [xu]
 | i,x :: l => by
  have h1:=zcR items hn (i + 1) l
  have h2:=zlH items i x hn
  simp only [xu,List.length_append,List.length_cons]
  omega
theorem yR {w : World} {p : Nat} {a b c : Value} {T : TypeId} (h : w.heap[p]? = some (.cells #[a,b,c] T (0,0))) : w.cell? ⟨p,0,none⟩ = some a ∧ w.cell? ⟨p,1,none⟩ = some b ∧ w.cell? ⟨p,2,none⟩ = some c:=by
 refine ⟨?_,?_,?_⟩
 all_goals (rw [cell_of_row w p _ _ _ _ h];rfl)
theorem zfY {w : World} {p : Nat} {a b c : Value} {T : TypeId} (h : w.heap[p]? = some (.cells #[a,b,c] T (0,0))) : w.frozen? ⟨p,0,none⟩ = false ∧ w.frozen? ⟨p,1,none⟩ = false ∧ w.frozen? ⟨p,2,none⟩ = false:=by
 refine ⟨?_,?_,?_⟩
 all_goals simp [World.frozen?,h]
theorem zdk {w : World} {p : Nat} {a b c : Value} {T : TypeId} (h : w.heap[p]? = some (.cells #[a,b,c] T (0,0))) (x y z : Value) : (((w.setCell ⟨p,0,none⟩ x).setCell ⟨p,1,none⟩ y).setCell ⟨p,2,none⟩ z).heap[p]? = some (.cells #[x,y,z] T (0,0)):=heap_set (heap_set (heap_set h 0 x) 1 y) 2 z
theorem xK {w : World} {p B : Nat} (hp : B ≤ p) (x y z : Value) : Below B w (((w.setCell ⟨p,0,none⟩ x).setCell ⟨p,1,none⟩ y).setCell ⟨p,2,none⟩ z):=(((Below.refl B w).setCell (p:=⟨p,0,none⟩) hp x).setCell (p:=⟨p,1,none⟩) hp y).setCell (p:=⟨p,2,none⟩) hp z
theorem qN {w : World} {p : Nat} {a b c : Value} {T S : TypeId} (h : w.heap[p]? = some (.cells #[a,b,c] T (0,0))) (hT : S ≠ T) (x y z : Value) : yD S w (((w.setCell ⟨p,0,none⟩ x).setCell ⟨p,1,none⟩ y).setCell ⟨p,2,none⟩ z) :=
 ((yD.set h hT 0 x).trans (yD.set (heap_set h 0 x) hT 1 y)).trans (yD.set (heap_set (heap_set h 0 x) 1 y) hT 2 z)
theorem zbZ.few {w : World} {pr : Nat} {n : Int} {vc vf : Value} {vs : List Value} {rc : List (Int × List Int)} {W : World} (h : zbZ w pr n vc vf vs rc W) : vs.length = rc.length:=by
 have:=h.cls.len
 rwa [yB,List.length_map] at this
def kM (w' : World) (base : Nat) (vc vf : Value) (rc : List (Int × List Int)) : Prop:=∃ vs,zo w' base 64 1 qI vc vs ∧ yG (fun v c => yM w' 0 v c) vs (yB rc) ∧ yM w' base vf (jO rc)
def OfP (ls : List zm) (items : List zA) (w : World) (e : Ending) (w' : World) : Prop :=
 ((∃ a1 c1 a2 c2,e = .returned (.tuple #[.agg #[.int .i64 (items.length : Nat),.slice a1 (zJ ls items).length c1,.slice a2 (zJ ls items).length c2],.nilIface]) ∧ (zJ ls items).length ≤ 200 ∧ kM w' w.heap.size (.slice a1 (zJ ls items).length c1) (.slice a2 (zJ ls items).length c2) (zJ ls items)) ∨
  (e = .returned (.tuple #[.agg #[.int .i64 0,.slice none 0 0,.slice none 0 0],.iface 45 (.int .i64 4)]) ∧ 200 < (zJ ls items).length)) ∧ Below w.heap.size w w'
theorem zjV {items : List zA} {i : Nat} {x : zm} (h : x.kind = 4) : qZ items i x = [((i : Int),(jf items x.name x.range).map fun k : Nat => (k : Int) + 1)]:=by unfold qZ;rw [if_pos h]
theorem zjf {items : List zA} {i : Nat} {x : zm} (h : x.kind = 2) : qZ items i x = [((i : Int),-(kP items x.item + 1) :: (jf items x.other x.range).map fun k : Nat => (k : Int) + 1)]:=by unfold qZ;rw [if_neg (by omega),if_pos h]
theorem zik {items : List zA} {i : Nat} {x : zm} (h : x.kind = 3) : qZ items i x = (jf items x.other x.range).map fun k : Nat => ((i : Int),[-(kP items x.item + 1),-(k : Int) - 1]):=by unfold qZ;rw [if_neg (by omega),if_neg (by omega),if_pos h]
theorem zj7 {items : List zA} {i : Nat} {x : zm} (h4 : x.kind ≠ 4) (h2 : x.kind ≠ 2) (h3 : x.kind ≠ 3) : qZ items i x = []:=by unfold qZ;rw [if_neg h4,if_neg h2,if_neg h3]
theorem zaE {α β : Type} (f : α → β) (l : List α) {j : Nat} (h : j < l.length) : (l.take (j + 1)).map f = (l.take j).map f ++ [f l[j]]:=by rw [List.take_succ_eq_append_getElem h,List.map_append];rfl
set_option maxHeartbeats 1000000 in
theorem zd5 {α : Type} {W : World} {ops : Array Oper} {rest : List Oper} {o : Oper} {a : Act} {Q : Exit → Act → World → Prop} (hgd : o.guard = none) (s x : Operand) (T S : TypeId) (z bytes : Nat) (enc : α → List Value) (hz : ∀ x,(enc x).length = z) (y : α) (h1 : ∀ u ∈ enc y,u.oneCell' = true)
 (ho : o.op = .call { callee:=.builtin .append,args:=#[s,x],argTypes:=#[S,S] })
 (i : TypeInfo) (zv : Value) (hu : Tryz.prog.underlying S = some (.slice T)) (hi : Tryz.prog.info? T = some i) (hzero : i.zero = some zv) (hsize : i.size = z) (hby : i.bytes = bytes) (hzs : zv.cells.size = z) (hzp : 0 < z) (hbb : bytes ≤ 1000)
 (base : Nat) (v : Value) (xs : List α) (hs : a.eval s = v) (hr : zo W base T z enc v xs) (cs : Array Value) (hcs : cs.toList = enc y)
 (q : Nat) (hq : q = W.heap.size) (hx : a.eval x = .slice (some ⟨q,0,none⟩) 1 1) (hn : xs.length + 1 ≤ 1000000) (hbase : base ≤ W.heap.size)
 (h : ∀ g cap w',zo w' base T z enc (.slice (some ⟨g,0,none⟩) (xs.length + 1) cap) (xs ++ [y]) → Below base W w' → (∀ k,k < W.heap.size → v.ownBlock ≠ some k → w'.heap[k]? = W.heap[k]?) → (v.ownBlock = some g ∨ W.heap.size ≤ g) → wpList Tryz.prog ops Q rest (a.put o.dst (.slice (some ⟨g,0,none⟩) (xs.length + 1) cap)) w') : wpList Tryz.prog ops Q (o :: rest) a (W.alloc (.cells cs T)):=by
 subst hq
 have hal : Below W.heap.size W (W.alloc (.cells cs T)):=zba
 have hb : (W.alloc (.cells cs T)).heap[W.heap.size]? = some (.cells cs T (0,0)):=za rfl
 have hr':=hr.below hal
 have hb2 : (xs.length + 1) * bytes ≤ 140737488355328:=by
  have : (xs.length + 1) * bytes ≤ 1000000 * 1000:=Nat.mul_le_mul hn hbb
  omega
 refine wpList_append_lies _ hgd s x S ho base T i zv z bytes hu hi hzero hsize hby hzs hzp v xs.length _ hs hr' ⟨W.heap.size,0,none⟩ 1 1 (enc y) hx (by rw [hz];omega) (fun j u hu => World.news_of_block hb j u (by rw [hcs];exact hu)) h1 (by decide) (by simp only [maxLen];omega) hb2 (by simp;omega) _ rfl (fun g cap w' h2 h3 h4 _ => ?_)
 refine h g cap w' ?_ ?_ (fun k hk hne => (h3.block k (by simp;omega) (fun e => hne e.symm)).trans (hal.block k hk)) ?_
 ·
  unfold zo
  rw [zao,List.length_append]
  exact h2
 · exact (hal.mono hbase).grown h3 (by simp;omega) (fun j hj => (hr'.lt hj).1)
 ·
  rcases h4 with h4 | h4
  · exact .inl h4
  · rw [zy] at h4;exact .inr (by omega)
theorem ja {W : World} {ops : Array Oper} {rest : List Oper} {o : Oper} {a : Act} {Q : Exit → Act → World → Prop} (hgd : o.guard = none) (s x : Operand)
 (ho : o.op = .call { callee:=.builtin .append,args:=#[s,x],argTypes:=#[23,23] })
 (base : Nat) (v : Value) (xs : List Int) (hs : a.eval s = v) (hr : yM W base v xs) (y : Int)
 (q : Nat) (hq : q = W.heap.size) (hx : a.eval x = .slice (some ⟨q,0,none⟩) 1 1) (hn : xs.length + 1 ≤ 1000000) (hbase : base ≤ W.heap.size)
 (h : ∀ g cap w',yM w' base (.slice (some ⟨g,0,none⟩) (xs.length + 1) cap) (xs ++ [y]) → Below base W w' → (∀ k,k < W.heap.size → v.ownBlock ≠ some k → w'.heap[k]? = W.heap[k]?) → (v.ownBlock = some g ∨ W.heap.size ≤ g) → wpList Tryz.prog ops Q rest (a.put o.dst (.slice (some ⟨g,0,none⟩) (xs.length + 1) cap)) w') : wpList Tryz.prog ops Q (o :: rest) a (W.alloc (.cells #[.int .i64 y] 3)):=by
 obtain ⟨i0,hi0,hz0,hz1,hz2⟩:=info_parts zdO
 exact zd5 hgd s x 3 23 1 8 yF (fun _ => rfl) y (fun u hu => by simp only [yF,List.mem_singleton] at hu;subst hu;rfl) ho i0 _ qO hi0 hz0 hz1 hz2 rfl (by decide) (by decide) base v xs hs hr _ rfl q hq hx hn hbase h
theorem zbZ.fresh {w : World} {pr : Nat} {n : Int} {vc vf : Value} {vs : List Value} {rc : List (Int × List Int)} {W : World} (h : zbZ w pr n vc vf vs rc W) {W' : World} {base : Nat} {v : Value} {xs : List Int} (hv : yM W' base v xs) (hb : W.heap.size ≤ base) : ∀ b,v.ownBlock = some b → vf.ownBlock ≠ some b:=fun b e e2 => by
 have h1:=(zo.lt hv e).1
 have h2:=(zo.lt h.frm e2).2
 omega
theorem zqC : ∀ l : List Int,List.flatMap (fun x => [Value.int IntKind.i64 x]) l = List.map (fun x => Value.int IntKind.i64 x) l
 | [] => rfl
 | x :: l => by rw [List.flatMap_cons,zqC l];rfl
theorem zde {w : World} {q : Nat} {xs : List Int} {cs : Array Value} (hc : cs.toList = xs.map (fun x : Int => Value.int .i64 x)) (h : w.heap[q]? = some (.cells cs 3 (0,0))) (hn : xs.length ≤ 1000) (base : Nat) (hb : base ≤ q) : yM w base (.slice (some ⟨q,0,none⟩) xs.length xs.length) xs:=by
 have hl : (xP yF xs) = cs.toList:=by
  rw [hc];unfold xP yF;exact zqC xs
 have hsz : cs.size = xs.length:=by rw [← Array.length_toList,hc,List.length_map]
 refine ⟨by rw [hl];simp [hsz],.inr ⟨q,xs.length,cs,rfl,hb,h,znr _,by unfold maxLen;omega,by omega,?_⟩⟩
 rw [hl,Nat.mul_one,List.take_of_length_le (by simp [hsz])]
set_option maxRecDepth 100000 in
set_option maxHeartbeats 32000000 in
theorem zns (p : Nat) (vl vi : Value) (ls : List zm) (items : List zA) (w : World) (h : zds w p vl vi ls items) (ho : zbu ls items) : Calls Tryz.prog 44 #[.pointer (some ⟨p,0,none⟩)] w (OfP ls items w):=by
 have hn24 : items.length ≤ 24:=by rw [ho.perm.length_eq];exact ho.most
 have hl100:=ho.few
 have hR : (zJ ls items).length ≤ 3000:=by
  unfold zJ
  rw [List.length_append]
  have:=zd2 items.length items hn24
  have:=zcR items hn24 0 ls
  omega
 obtain ⟨wA,hwA⟩ : ∃ wA,wA = w.alloc (.cells #[.int .i64 0,.slice none 0 0,.slice none 0 0] 27):=⟨_,rfl⟩
 have hbA : Below w.heap.size w wA:=by rw [hwA];exact zba
 have hres : wA.heap[w.heap.size]? = some (.cells #[.int .i64 0,.slice none 0 0,.slice none 0 0] 27 (0,0)):=by rw [hwA];exact za rfl
 have HIt:=hid (zgQ p vl vi ls items wA (h.below hbA) (by omega))
 have HA:=hid (h.below hbA);have HbA:=hid hbA;have Hres:=hid hres;have HR:=hid hR;have Hok:=hid ho
 clear h hbA hres hR ho
 go_enter Tryz.func44,Tryz.ntmps44
 go_upto_region 1 with fail
 rw [← hwA]
 clear hwA
 go_wp2_with fail
 refine HIt.out.mono ?_
 rintro e w1 ⟨⟨v1,rfl,hit⟩,hb1⟩
 obtain ⟨ai,ci,rfl,hl1,hm1⟩:=zo.shape hit
 obtain ⟨w2,hw2⟩ : ∃ w2,w2 = w1.alloc (.cells #[.int .i64 (items.length : Nat),.slice none 0 0,.slice none 0 0] 27):=⟨_,rfl⟩
 have hI0 : zbZ w1 w1.heap.size (items.length : Nat) (.slice none 0 0) (.slice none 0 0) [] [] w2:=by
  rw [hw2]
  exact ⟨za rfl,zo.nil _ _ _ _ _,trivial,zo.nil _ _ _ _ _,fun v hv => (by cases hv),zba,znr _⟩
 have HI0:=hid hI0;have Hit:=hid hit;have HA1:=hid (HA.out.below hb1)
 have Hb1:=hid (HbA.out.trans (hb1.mono HbA.out.size));have Hres1:=hid ((hb1.block _ (zlb Hres.out)).trans Hres.out)
 have HsA:=hid (zlb Hres.out)
 clear hI0 hit hb1 HIt HA HbA Hres
 go_upto_region 3 with fail
 rw [← hw2]
 clear hw2
 obtain ⟨pr,hpr⟩ : ∃ pr,pr = w1.heap.size:=⟨_,rfl⟩
 rw [← hpr] at HI0 ⊢
 have Hpr:=hid hpr
 clear hpr
 go_wp2_with fail
 go_loopg [29] items.length (fun gk i wr => ∃ (k : Nat) (vc vf : Value) (vs : List Value),k ≤ items.length ∧ gk = items.length - k ∧ i = .int .i64 k ∧ zbZ w1 pr (items.length : Nat) vc vf vs (jJ k items) wr)
 case atStart => exact ⟨0,_,_,[],znz _,rfl,rfl,HI0.out⟩
 case round =>
  obtain ⟨k,vc,vf,vs,hk,rfl,rfl,hI⟩:=hrel
  obtain ⟨wo,rfl⟩ : ∃ y,y = wr:=⟨_,rfl⟩
  by_cases hlt : k < items.length
  ·
   have hi : (k : Int) < (items.length : Int):=by omega
   have hito:=z8.below Hit.out hI.bel
   obtain ⟨g,rfl,hg,_⟩:=zo.at hito (by omega)
   obtain ⟨c1,c2,c3,c4⟩:=hito.cells hlt
   obtain ⟨it,hite⟩ : ∃ it,it = xG items k:=⟨_,rfl⟩
   rw [← zbq hlt,← hite] at c1 c2 c3 c4
   obtain ⟨m,x,y,z⟩:=it
   simp only at c1 c2 c3 c4
   obtain ⟨wB,hwB⟩ : ∃ q,q = wo.alloc (.cells #[.string m,.int .i64 x,.int .i64 y,.int .i64 z] 94):=⟨_,rfl⟩
   have hbB : Below wo.heap.size wo wB:=by rw [hwB];exact zba
   have hkB : wB.heap[wo.heap.size]? = some (.cells #[.string m,.int .i64 x,.int .i64 y,.int .i64 z] 94 (0,0)):=by rw [hwB];exact za rfl
   have hIB:=hI.below hbB
   have hci : (k : Int) ≤ (ci : Int):=by omega
   have hprl:=zlb hI.box
   have hlc : ∀ b,vc.ownBlock = some b → b < wo.heap.size:=fun b e => (zo.lt hI.row e).2
   have hlf : ∀ b,vf.ownBlock = some b → b < wo.heap.size:=fun b e => (zo.lt hI.frm e).2
   have HIB:=hid hIB;have HkB:=hid hkB;have Hlc:=hid hlc;have Hlf:=hid hlf;have Hprl:=hid hprl;have Hite:=hid hite;have Hhl:=hid (hIB.bel)
   clear hI hbB hkB hIB hprl hlc hlf hito hite
   go_upto_region 7 with fail
   rw [← hwB]
   clear hwB c1 c2 c3 c4
   go_wp2_with fail
   go_loopg [38] k (fun gk i wr => ∃ (j : Nat) (vc' vf' : Value) (vs' : List Value),j ≤ k ∧ gk = k - j ∧ i = .int .i64 j ∧ zbZ w1 pr (items.length : Nat) vc' vf' vs' (jJ k items ++ za6 j items k) wr ∧ qR pr vc vf vc' vf' wB wr)
   case atStart => exact ⟨0,_,_,_,znz _,rfl,rfl,by simpa [za6] using HIB.out,qR.refl _ _ _ _⟩
   case round =>
    obtain ⟨j,vc',vf',vs',hj,rfl,rfl,hJ,hS⟩:=hrel
    obtain ⟨wi,rfl⟩ : ∃ y,y = wr:=⟨_,rfl⟩
    by_cases hjl : j < k
    ·
     have hji : (j : Int) < (k : Int):=by omega
     have hitj:=z8.below Hit.out hJ.bel
     obtain ⟨c1,c2,c3,c4⟩:=hitj.cells (show j < items.length by omega)
     have hsu:=zkB j items k
     rw [← Hite.out] at hsu
     obtain ⟨it2,hite2⟩ : ∃ it,it = xG items j:=⟨_,rfl⟩
     rw [← zbq (show j < items.length by omega),← hite2] at c1 c2 c3 c4
     rw [← hite2] at hsu
     obtain ⟨m2,x2,y2,z2⟩:=it2
     simp only at c1 c2 c3 c4 hsu
     obtain ⟨wC,hwC⟩ : ∃ q,q = wi.alloc (.cells #[.string m2,.int .i64 x2,.int .i64 y2,.int .i64 z2] 94):=⟨_,rfl⟩
     have hbC : Below wi.heap.size wi wC:=by rw [hwC];exact zba
     have hkC : wC.heap[wi.heap.size]? = some (.cells #[.string m2,.int .i64 x2,.int .i64 y2,.int .i64 z2] 94 (0,0)):=by rw [hwC];exact za rfl
     have hkb:=(hS.kept wo.heap.size (zlb HkB.out) (by have:=Hprl.out;omega) (fun e => by have:=Hlc.out _ e;omega) (fun e => by have:=Hlf.out _ e;omega)).trans HkB.out
     have hkb2:=(hbC.block _ (zlb hkb)).trans hkb
     obtain ⟨b1,b2,b3,b4⟩:=zdS hkb2
     obtain ⟨d1,d2,d3,d4⟩:=zdS hkC
     have hJC:=hJ.below hbC
     have hSC:=hS.below hbC
     have HJC:=hid hJC;have HSC:=hid hSC;have Hsu:=hid hsu
     clear hJ hS hbC hkC hkb hkb2 hJC hSC hsu hitj hite2
     by_cases hnm : m2 = m
     ·
      have tN : (m2.toList == m.toList) = true:=by rw [hnm];simp
      have Hnm:=hid hnm
      clear hnm
      obtain ⟨wD,hwD⟩ : ∃ q,q = wC.alloc (.cells #[.int .i64 (-(j : Int) - 1),.int .i64 (-(k : Int) - 1)] 3):=⟨_,rfl⟩
      have hbD : Below wC.heap.size wC wD:=by rw [hwD];exact zba
      have hkD : wD.heap[wC.heap.size]? = some (.cells #[.int .i64 (-(j : Int) - 1),.int .i64 (-(k : Int) - 1)] 3 (0,0)):=by rw [hwD];exact za rfl
      have hJD:=HJC.out.below hbD
      have hlit:=zde (xs:=[-(j : Int) - 1,-(k : Int) - 1]) rfl hkD (by simp) 0 (znz _)
      have hfre:=HJC.out.fresh (zde (xs:=[-(j : Int) - 1,-(k : Int) - 1]) rfl hkD (by simp) wC.heap.size (znr _)) (znr _)
      have hrl : (jJ k items ++ za6 j items k).length ≤ 100000:=by
       rw [List.length_append]
       have:=zd2 k items (by omega)
       have:=zhu j items k
       omega
      have HAdd:=hid (zfd w1 pr (items.length : Nat) (-1) vs' _ vc' vf' (some ⟨wC.heap.size,0,none⟩) 2 [-(j : Int) - 1,-(k : Int) - 1] wD hJD hlit hfre hrl hJD.few)
      have HSD:=hid (HSC.out.below hbD)
      clear hbD hkD hJD hlit hfre hrl HSC
      go_upto_region 10 with fail
      rw [← hwC]
      clear hwC
      go_wp2_with fail
      rw [← hwD]
      clear hwD
      refine HAdd.out.mono ?_
      rintro e w9 ⟨rfl,vc9,vf9,h9,s9⟩
      have H9:=hid h9;have S9:=hid (HSD.out.trans s9)
      clear h9 s9 HAdd HSD
      go_wp2_with fail
      go_roundg (k - (j + 1))
      case measure => omega
      case rel => exact ⟨j + 1,vc9,vf9,_,by omega,rfl,by go_num,by rw [Hsu.out,if_pos Hnm.out,← List.append_assoc];exact H9.out,S9.out⟩
     ·
      have tN : (m2.toList == m.toList) = false:=by rw [beq_eq_false_iff_ne];exact fun q => hnm (qi q)
      have Hnm:=hid hnm
      clear hnm
      go_upto_region 10 with fail
      rw [← hwC]
      clear hwC
      go_wp2_with fail
      go_roundg (k - (j + 1))
      case measure => omega
      case rel => exact ⟨j + 1,vc',vf',_,by omega,rfl,by go_num,by rw [Hsu.out,if_neg Hnm.out,List.append_nil];exact HJC.out,HSC.out⟩
    ·
     obtain rfl : j = k:=by omega
     have HJ:=hid hJ
     clear hJ hS
     go_wp2_with fail
     go_roundg (items.length - (j + 1))
     case measure => omega
     case rel => exact ⟨j + 1,vc',vf',_,by omega,rfl,by go_num,by rw [zf0];exact HJ.out⟩
  ·
   obtain rfl : k = items.length:=by omega
   have HLi:=hid (zlS p vl vi ls items wo (HA1.out.below hI.bel) (by omega))
   have HI:=hid hI
   clear hI hlt
   go_wp2_with fail
   refine HLi.out.mono ?_
   rintro e w4 ⟨⟨v4,rfl,hl4⟩,hb4⟩
   obtain ⟨al,cl,rfl,hll,hlm⟩:=hl4.row.shape
   have HI4:=hid (HI.out.below hb4);have Hl4:=hid hl4
   clear hl4 hb4 HI HLi
   go_wp2_with fail
   go_loopg [62] ls.length (fun gk i wr => ∃ (k : Nat) (vc' vf' : Value) (vs' : List Value),k ≤ ls.length ∧ gk = ls.length - k ∧ i = .int .i64 k ∧ zbZ w1 pr (items.length : Nat) vc' vf' vs' (jJ items.length items ++ xu items 0 (ls.take k)) wr ∧ qR pr vc vf vc' vf' w4 wr)
   case atStart => exact ⟨0,_,_,_,znz _,rfl,rfl,by simpa [xu] using HI4.out,qR.refl _ _ _ _⟩
   case round =>
    obtain ⟨k,vc',vf',vs',hk,rfl,rfl,hJ,hS⟩:=hrel
    obtain ⟨wo,rfl⟩ : ∃ y,y = wr:=⟨_,rfl⟩
    by_cases hlt : k < ls.length
    ·
     have hi : (k : Int) < (ls.length : Int):=by omega
     have hlw:=Hl4.out.yI (hS.yI HI4.out (by decide) (by decide) (by decide)) (hS.yI HI4.out (by decide) (by decide) (by decide))
     obtain ⟨g,rfl,hg,_⟩:=hlw.row.at (by omega)
     obtain ⟨c0,c1,c2,c3,c4,c5,c6⟩:=hlw.cells hlt
     have hin:=hlw.ins _ (List.getElem_mem hlt)
     have hsu:=ziC items ls k hlt
     obtain ⟨lx,hlx⟩ : ∃ lx,lx = ls[k]:=⟨_,rfl⟩
     have hmem : lx ∈ ls:=by rw [hlx];exact List.getElem_mem hlt
     rw [← hlx] at c0 c1 c2 c3 c4 c5 c6 hin hsu
     obtain ⟨kd,nm,a,b,c,ot,rg,rv⟩:=lx
     have hrg:=hin.rng
     simp only at c0 c1 c2 c3 c4 c5 c6 hrg
     obtain ⟨ar,cr,rfl,_,_⟩:=hrg.shape
     obtain ⟨wB,hwB⟩ : ∃ q,q = wo.alloc (.cells #[.int .i64 kd,.string nm,.int .i64 a,.int .i64 b,.int .i64 c,.string ot,.slice ar rg.length cr] 77):=⟨_,rfl⟩
     have hbB : Below wo.heap.size wo wB:=by rw [hwB];exact zba
     have hkB : wB.heap[wo.heap.size]? = some (.cells #[.int .i64 kd,.string nm,.int .i64 a,.int .i64 b,.int .i64 c,.string ot,.slice ar rg.length cr] 77 (0,0)):=by rw [hwB];exact za rfl
     obtain ⟨k0,k1,k2,k3,k4,k5,k6⟩:=kz hkB
     have hJB:=hJ.below hbB
     have hcB:=HA1.out.below hJB.bel
     obtain ⟨NU,hNU⟩ : ∃ NU,NU = kP items (nm,a,b,c):=⟨_,rfl⟩
     have hnu : -1 ≤ NU ∧ NU < 24:=by rcases zcQ items (nm,a,b,c) with ⟨_,h1,h2⟩ | ⟨_,h1⟩ <;> omega
     have HN:=hid (zdW p 0 vl vi items nm a b c wB hcB.box hcB.its)
     rw [← hNU] at HN
     have hrl : (jJ items.length items ++ xu items 0 (ls.take k)).length ≤ 10000:=by
      rw [List.length_append]
      have:=zd2 items.length items hn24
      have:=zcR items hn24 0 (ls.take k)
      rw [List.length_take] at this
      omega
     have HJB:=hid hJB;have HSB:=hid (hS.below hbB);have HrB:=hid (hrg.below (show Below wo.heap.size wo wB from hbB));have HkB:=hid hkB;have Hsu:=hid hsu;have HNU:=hid hNU;have Hrl:=hid hrl
     have Hhs:=hid (zlb hJ.box)
     have hlc : ∀ b,vc'.ownBlock = some b → b < wo.heap.size:=fun b e => (zo.lt hJ.row e).2
     have hlf : ∀ b,vf'.ownBlock = some b → b < wo.heap.size:=fun b e => (zo.lt hJ.frm e).2
     have Hlc:=hid hlc;have Hlf:=hid hlf
     clear hJ hS hlw hin hrg hbB hkB hJB hcB hNU hrl hlc hlf hlx hsu hmem
     go_upto_region 18 with fail
     rw [← hwB]
     clear hwB c0 c1 c2 c3 c4 c5 c6
     go_wp2_with fail
     refine HN.out.mono ?_
     rintro e w5 ⟨rfl,hb5⟩
     have hk5:=(hb5.block _ (zlb HkB.out)).trans HkB.out
     have HJ5:=hid (HJB.out.below hb5);have HS5:=hid (HSB.out.below hb5);have Hr5:=hid (HrB.out.below hb5);have Hk5:=hid hk5
     have Hs5:=hid (show wo.heap.size < w5.heap.size from zlb hk5)
     clear k0 k1 k2 k3 k4 k5 k6 HJB HSB HrB HkB HN
     obtain ⟨k0,k1,k2,k3,k4,k5,k6⟩:=kz hk5
     clear hk5 hb5
     have hnu1:=hnu.1;have hnu2:=hnu.2
     clear hnu
     by_cases hk4 : kd = 4
     ·
      subst hk4
      have HAm:=hid (zd9 p vl vi (.slice ar rg.length cr) ls items nm rg w5 (HA1.out.below HJ5.out.bel) Hr5.out (by omega))
      obtain ⟨am,ham⟩ : ∃ am,am = jf items nm rg:=⟨_,rfl⟩
      rw [← ham] at HAm
      obtain ⟨az,haz⟩ : ∃ az,az = am.map (fun k : Nat => (k : Int)):=⟨_,rfl⟩
      rw [← haz] at HAm
      have hal : az.length ≤ 24:=by rw [haz,List.length_map,ham];exact Nat.le_trans (jS _ _ _ _) hn24
      have haw : ∀ i (hi : i < az.length),0 ≤ az[i] ∧ az[i] < 24:=fun i hi => by
       have h1 : az[i] ∈ az:=List.getElem_mem hi
       generalize az[i] = q at h1
       rw [haz] at h1
       obtain ⟨t,ht,rfl⟩:=List.mem_map.1 h1
       rw [ham] at ht
       have:=zbb ht
       omega
      have Ham:=hid ham;have Haz:=hid haz;have Haw:=hid haw
      clear ham haz haw
      go_wp2_with fail
      refine HAm.out.mono ?_
      rintro e w6 ⟨⟨v6,rfl,hz6⟩,hb6⟩
      obtain ⟨az6,cz6,rfl,hzl,hzm⟩:=zo.shape hz6
      have HZ6:=hid hz6;have HB6:=hid hb6;have HW6:=hid (zo.nil w6 w5.heap.size 3 1 yF);have Hap6:=hid (show ∀ b,(Value.slice az6 az.length cz6).ownBlock = some b → (Value.slice none 0 0).ownBlock ≠ some b from fun b _ e => by simp [Value.ownBlock] at e)
      clear hz6 hb6 HAm k0 k1 k2 k3 k4 k5 k6
      go_wp2_with fail
      go_loopg [13,85] az.length (fun gk vo i wr => ∃ j : Nat,j ≤ az.length ∧ gk = az.length - j ∧ i = .int .i64 j ∧ yM wr w5.heap.size vo ((az.take j).map (fun x => x + 1)) ∧ Below w5.heap.size w5 wr ∧ yM wr w5.heap.size (.slice az6 az.length cz6) az ∧ (∀ b,(Value.slice az6 az.length cz6).ownBlock = some b → vo.ownBlock ≠ some b))
      case atStart => exact ⟨0,znz _,rfl,rfl,HW6.out,HB6.out,HZ6.out,Hap6.out⟩
      case round =>
       obtain ⟨j,hj,rfl,rfl,hwv,hbw,hz,hap⟩:=hrel
       obtain ⟨wi,rfl⟩ : ∃ y,y = wr:=⟨_,rfl⟩
       obtain ⟨ss,hss⟩ : ∃ ss,ss = (az.take j).map (fun x => x + 1):=⟨_,rfl⟩
       rw [← hss] at hwv
       obtain ⟨ao,co,rfl,_,_⟩:=zo.shape hwv
       have hsw:=hbw.size
       by_cases hjl : j < az.length
       ·
        have hji : (j : Int) < (az.length : Int):=by omega
        obtain ⟨gz,rfl,hgz,_⟩:=zo.at hz (by omega)
        have hc:=zo.cell (enc:=yF) (z:=1) (fun _ => rfl) hz hjl (j:=0) (by decide) rfl
        rw [Nat.mul_one,Nat.add_zero] at hc
        have hss1 : ss.length ≤ j + 1:=by rw [hss];simp only [List.length_map,List.length_take];omega
        have hsu:=zaE (fun x : Int => x + 1) az hjl
        have hw:=Haw.out j hjl
        obtain ⟨X,hX⟩ : ∃ X,X = az[j]:=⟨_,rfl⟩
        rw [← hX] at hc hsu hw
        have hw1:=hw.1;have hw2:=hw.2
        have Hwv:=hid hwv;have Hbw:=hid hbw;have Hz:=hid hz;have Hap:=hid hap;have Hss:=hid hss;have Hsu:=hid hsu
        clear hwv hbw hz hap hss hsu hX hw HW6 HB6 HZ6 Hap6
        go_wp2_with (at_builtin;refine ja rfl (.tmp 89) (.tmp 92) rfl w5.heap.size (.slice ao ss.length co) ss rfl Hwv.out (X + 1) _ rfl rfl (by omega) (by omega) ?_;intro g9 c9 w9 ho9 hb9 hk9 hg9;have Ho9:=hid ho9;have Hb9:=hid hb9;have Hk9:=hid hk9;have Hg9:=hid hg9;clear ho9 hb9 hk9 hg9)
        go_roundg (az.length - (j + 1))
        case measure => omega
        case rel => exact ⟨j + 1,by omega,rfl,by go_num,by rw [Hsu.out,← Hss.out];exact Ho9.out,Hbw.out.trans Hb9.out,zo.keep Hz.out (fun b e => Hk9.out b (zo.lt Hz.out e).2 (Hap.out b e)),fun b e e2 => by
         have e3 : g9 = b:=by simpa [Value.ownBlock] using e2
         have h1:=(zo.lt Hz.out e).2
         rcases Hg9.out with q | q
         · exact Hap.out b e (by rw [q,e3])
         · omega⟩
       ·
        obtain rfl : j = az.length:=by omega
        rw [List.take_length] at hss
        have hRi:=HJ5.out.below hbw
        have hfre:=HJ5.out.fresh hwv (znr _)
        have HAdd:=hid (zfd w1 pr (items.length : Nat) (k : Nat) vs' _ vc' vf' ao co ss wi hRi (zo.less hwv (znz _)) hfre (by have:=Hrl.out;omega) hRi.few)
        have HSo:=hid (HS5.out.below hbw);have Hss:=hid hss
        clear hwv hbw hz hap hss hRi hfre HW6 HB6 HZ6 Hap6
        go_wp2_with fail
        refine HAdd.out.mono ?_
        rintro e w9 ⟨rfl,vc9,vf9,h9,s9⟩
        have H9:=hid h9;have S9:=hid (HSo.out.trans s9)
        clear h9 s9 HAdd HSo
        go_wp2_with fail
        go_roundg (ls.length - (k + 1))
        case measure => omega
        case rel => exact ⟨k + 1,vc9,vf9,_,by omega,rfl,by go_num,by have h9:=H9.out;rw [Hsu.out,zjV rfl,← List.append_assoc,← Ham.out];rw [Hss.out,Haz.out,List.map_map] at h9;exact h9,S9.out⟩
     ·
      have t4 : (kd == 4) = false:=by rw [beq_eq_false_iff_ne];exact hk4
      have Hk4:=hid hk4;clear hk4
      by_cases hk2 : kd = 2
      ·
       subst hk2
       go_upto_region 29 with (at_builtin;refine ja rfl (.tmp 101) (.tmp 104) rfl w5.heap.size (.slice none 0 0) [] rfl (zo.nil _ _ _ _ _) (-(NU + 1)) _ rfl rfl (by decide) (znr _) ?_;intro g0 c0 wv ho0 hb0 hk0 hg0;have Ho0:=hid ho0;have Hb0:=hid hb0;clear ho0 hb0 hk0 hg0)
       have hkv:=(Hb0.out.block _ (zlb Hk5.out)).trans Hk5.out
       clear k0 k1 k2 k3 k4 k5 k6
       obtain ⟨k0,k1,k2,k3,k4,k5,k6⟩:=kz hkv
       clear hkv
       have HAm:=hid (zd9 p vl vi (.slice ar rg.length cr) ls items ot rg wv (HA1.out.below (HJ5.out.below Hb0.out).bel) (Hr5.out.below Hb0.out) (by omega))
       obtain ⟨am,ham⟩ : ∃ am,am = jf items ot rg:=⟨_,rfl⟩
       rw [← ham] at HAm
       obtain ⟨az,haz⟩ : ∃ az,az = am.map (fun k : Nat => (k : Int)):=⟨_,rfl⟩
       rw [← haz] at HAm
       have hal : az.length ≤ 24:=by rw [haz,List.length_map,ham];exact Nat.le_trans (jS _ _ _ _) hn24
       have haw : ∀ i (hi : i < az.length),0 ≤ az[i] ∧ az[i] < 24:=fun i hi => by
        have h1 : az[i] ∈ az:=List.getElem_mem hi
        generalize az[i] = q at h1
        rw [haz] at h1
        obtain ⟨t,ht,rfl⟩:=List.mem_map.1 h1
        rw [ham] at ht
        have:=zbb ht
        omega
       have Ham:=hid ham;have Haz:=hid haz;have Haw:=hid haw
       clear ham haz haw
       go_wp2_with fail
       refine HAm.out.mono ?_
       rintro e w6 ⟨⟨v6,rfl,hz6⟩,hb6⟩
       obtain ⟨az6,cz6,rfl,hzl,hzm⟩:=zo.shape hz6
       have HZ6:=hid (zo.less hz6 Hb0.out.size);have HB6:=hid (Hb0.out.trans (hb6.mono Hb0.out.size));have HW6:=hid (zo.below Ho0.out hb6);have Hap6:=hid (show ∀ b,(Value.slice az6 az.length cz6).ownBlock = some b → (Value.slice (some ⟨g0,0,none⟩) 1 c0).ownBlock ≠ some b from fun b e e2 => by have h1:=(zo.lt hz6 e).1;have h2:=(zo.lt Ho0.out e2).2;omega)
       clear hz6 hb6 HAm k0 k1 k2 k3 k4 k5 k6
       go_wp2_with fail
       go_loopg [13,113] az.length (fun gk vo i wr => ∃ j : Nat,j ≤ az.length ∧ gk = az.length - j ∧ i = .int .i64 j ∧ yM wr w5.heap.size vo (-(NU + 1) :: (az.take j).map (fun x => x + 1)) ∧ Below w5.heap.size w5 wr ∧ yM wr w5.heap.size (.slice az6 az.length cz6) az ∧ (∀ b,(Value.slice az6 az.length cz6).ownBlock = some b → vo.ownBlock ≠ some b))
       case atStart => exact ⟨0,znz _,rfl,rfl,HW6.out,HB6.out,HZ6.out,Hap6.out⟩
       case round =>
        obtain ⟨j,hj,rfl,rfl,hwv,hbw,hz,hap⟩:=hrel
        obtain ⟨wi,rfl⟩ : ∃ y,y = wr:=⟨_,rfl⟩
        obtain ⟨ss,hss⟩ : ∃ ss,ss = -(NU + 1) :: (az.take j).map (fun x => x + 1):=⟨_,rfl⟩
        rw [← hss] at hwv
        obtain ⟨ao,co,rfl,_,_⟩:=zo.shape hwv
        have hsw:=hbw.size
        by_cases hjl : j < az.length
        ·
         have hji : (j : Int) < (az.length : Int):=by omega
         obtain ⟨gz,rfl,hgz,_⟩:=zo.at hz (by omega)
         have hc:=zo.cell (enc:=yF) (z:=1) (fun _ => rfl) hz hjl (j:=0) (by decide) rfl
         rw [Nat.mul_one,Nat.add_zero] at hc
         have hss1 : ss.length ≤ j + 1:=by rw [hss];simp only [List.length_map,List.length_cons,List.length_take];omega
         have hsu:=zaE (fun x : Int => x + 1) az hjl
         have hw:=Haw.out j hjl
         obtain ⟨X,hX⟩ : ∃ X,X = az[j]:=⟨_,rfl⟩
         rw [← hX] at hc hsu hw
         have hw1:=hw.1;have hw2:=hw.2
         have Hwv:=hid hwv;have Hbw:=hid hbw;have Hz:=hid hz;have Hap:=hid hap;have Hss:=hid hss;have Hsu:=hid hsu
         clear hwv hbw hz hap hss hsu hX hw HW6 HB6 HZ6 Hap6
         go_wp2_with (at_builtin;refine ja rfl (.tmp 117) (.tmp 120) rfl w5.heap.size (.slice ao ss.length co) ss rfl Hwv.out (X + 1) _ rfl rfl (by omega) (by omega) ?_;intro g9 c9 w9 ho9 hb9 hk9 hg9;have Ho9:=hid ho9;have Hb9:=hid hb9;have Hk9:=hid hk9;have Hg9:=hid hg9;clear ho9 hb9 hk9 hg9)
         go_roundg (az.length - (j + 1))
         case measure => omega
         case rel => exact ⟨j + 1,by omega,rfl,by go_num,by rw [Hsu.out,← List.cons_append,← Hss.out];exact Ho9.out,Hbw.out.trans Hb9.out,zo.keep Hz.out (fun b e => Hk9.out b (zo.lt Hz.out e).2 (Hap.out b e)),fun b e e2 => by
          have e3 : g9 = b:=by simpa [Value.ownBlock] using e2
          have h1:=(zo.lt Hz.out e).2
          rcases Hg9.out with q | q
          · exact Hap.out b e (by rw [q,e3])
          · omega⟩
        ·
         obtain rfl : j = az.length:=by omega
         rw [List.take_length] at hss
         have hRi:=HJ5.out.below hbw
         have hfre:=HJ5.out.fresh hwv (znr _)
         have HAdd:=hid (zfd w1 pr (items.length : Nat) (k : Nat) vs' _ vc' vf' ao co ss wi hRi (zo.less hwv (znz _)) hfre (by have:=Hrl.out;omega) hRi.few)
         have HSo:=hid (HS5.out.below hbw);have Hss:=hid hss
         clear hwv hbw hz hap hss hRi hfre HW6 HB6 HZ6 Hap6
         go_wp2_with fail
         refine HAdd.out.mono ?_
         rintro e w9 ⟨rfl,vc9,vf9,h9,s9⟩
         have H9:=hid h9;have S9:=hid (HSo.out.trans s9)
         clear h9 s9 HAdd HSo
         go_wp2_with fail
         go_roundg (ls.length - (k + 1))
         case measure => omega
         case rel => exact ⟨k + 1,vc9,vf9,_,by omega,rfl,by go_num,by have h9:=H9.out;rw [Hsu.out,zjf rfl,← List.append_assoc,← Ham.out];rw [Hss.out,Haz.out,List.map_map,HNU.out] at h9;exact h9,S9.out⟩
      ·
       have t2 : (kd == 2) = false:=by rw [beq_eq_false_iff_ne];exact hk2
       have Hk2:=hid hk2;clear hk2
       by_cases hk3 : kd = 3
       ·
        subst hk3
        have HAm:=hid (zd9 p vl vi (.slice ar rg.length cr) ls items ot rg w5 (HA1.out.below HJ5.out.bel) Hr5.out (by omega))
        obtain ⟨am,ham⟩ : ∃ am,am = jf items ot rg:=⟨_,rfl⟩
        rw [← ham] at HAm
        obtain ⟨az,haz⟩ : ∃ az,az = am.map (fun k : Nat => (k : Int)):=⟨_,rfl⟩
        rw [← haz] at HAm
        have hal : az.length ≤ 24:=by rw [haz,List.length_map,ham];exact Nat.le_trans (jS _ _ _ _) hn24
        have haw : ∀ i (hi : i < az.length),0 ≤ az[i] ∧ az[i] < 24:=fun i hi => by
         have h1 : az[i] ∈ az:=List.getElem_mem hi
         generalize az[i] = q at h1
         rw [haz] at h1
         obtain ⟨t,ht,rfl⟩:=List.mem_map.1 h1
         rw [ham] at ht
         have:=zbb ht
         omega
        have Ham:=hid ham;have Haz:=hid haz;have Haw:=hid haw
        clear ham haz haw
        go_wp2_with fail
        refine HAm.out.mono ?_
        rintro e w6 ⟨⟨v6,rfl,hz6⟩,hb6⟩
        obtain ⟨az6,cz6,rfl,hzl,hzm⟩:=zo.shape hz6
        have HZ6:=hid hz6;have HJ6:=hid (HJ5.out.below hb6);have HS6:=hid (HS5.out.below hb6)
        clear hz6 hb6 HAm k0 k1 k2 k3 k4 k5 k6
        go_wp2_with fail
        go_loopg [136] az.length (fun gk i wr => ∃ (j : Nat) (vc2 vf2 : Value) (vs2 : List Value),j ≤ az.length ∧ gk = az.length - j ∧ i = .int .i64 j ∧ zbZ w1 pr (items.length : Nat) vc2 vf2 vs2 (jJ items.length items ++ xu items 0 (ls.take k) ++ (az.take j).map (fun x : Int => ((k : Int),[-(NU + 1),-x - 1]))) wr ∧ qR pr vc' vf' vc2 vf2 w6 wr)
        case atStart => exact ⟨0,_,_,_,znz _,rfl,rfl,by simpa using HJ6.out,qR.refl _ _ _ _⟩
        case round =>
         obtain ⟨j,vc2,vf2,vs2,hj,rfl,rfl,hL,hT⟩:=hrel
         obtain ⟨wi,rfl⟩ : ∃ y,y = wr:=⟨_,rfl⟩
         by_cases hjl : j < az.length
         ·
          have hji : (j : Int) < (az.length : Int):=by omega
          have hz : yM wi w5.heap.size (.slice az6 az.length cz6) az:=zo.keep HZ6.out (fun b e => hT.kept b (zo.lt HZ6.out e).2 (fun q => by obtain ⟨cur,e2⟩:=zo.ty HZ6.out b e;rw [q,HJ6.out.box] at e2;simp at e2) (fun q => by have h1:=Hlc.out b q;have h2:=(zo.lt HZ6.out e).1;have h3:=Hs5.out;omega) (fun q => by have h1:=Hlf.out b q;have h2:=(zo.lt HZ6.out e).1;have h3:=Hs5.out;omega))
          obtain ⟨gz,rfl,hgz,_⟩:=zo.at hz (by omega)
          have hc:=zo.cell (enc:=yF) (z:=1) (fun _ => rfl) hz hjl (j:=0) (by decide) rfl
          rw [Nat.mul_one,Nat.add_zero] at hc
          have hsu:=zaE (fun x : Int => ((k : Int),[-(NU + 1),-x - 1])) az hjl
          have hw:=Haw.out j hjl
          obtain ⟨X,hX⟩ : ∃ X,X = az[j]:=⟨_,rfl⟩
          rw [← hX] at hc hsu hw
          have hw1:=hw.1;have hw2:=hw.2
          obtain ⟨wD,hwD⟩ : ∃ q,q = wi.alloc (.cells #[.int .i64 (-(NU + 1)),.int .i64 (-X - 1)] 3):=⟨_,rfl⟩
          have hbD : Below wi.heap.size wi wD:=by rw [hwD];exact zba
          have hkD : wD.heap[wi.heap.size]? = some (.cells #[.int .i64 (-(NU + 1)),.int .i64 (-X - 1)] 3 (0,0)):=by rw [hwD];exact za rfl
          have hJD:=hL.below hbD
          have hlit:=zde (xs:=[-(NU + 1),-X - 1]) rfl hkD (by simp) 0 (znz _)
          have hfre:=hL.fresh (zde (xs:=[-(NU + 1),-X - 1]) rfl hkD (by simp) wi.heap.size (znr _)) (znr _)
          have hrl2 : (jJ items.length items ++ xu items 0 (ls.take k) ++ (az.take j).map (fun x : Int => ((k : Int),[-(NU + 1),-x - 1]))).length ≤ 100000:=by
           rw [List.length_append,List.length_map,List.length_take]
           have:=Hrl.out
           omega
          have HAdd:=hid (zfd w1 pr (items.length : Nat) (k : Nat) vs2 _ vc2 vf2 (some ⟨wi.heap.size,0,none⟩) 2 [-(NU + 1),-X - 1] wD hJD hlit hfre hrl2 hJD.few)
          have HTD:=hid (hT.below hbD);have Hsu2:=hid hsu
          clear hbD hkD hJD hlit hfre hrl2 hL hT hz hsu hX hw
          go_wp2_with fail
          rw [← hwD]
          clear hwD
          refine HAdd.out.mono ?_
          rintro e w9 ⟨rfl,vc9,vf9,h9,s9⟩
          have H9:=hid h9;have S9:=hid (HTD.out.trans s9)
          clear h9 s9 HAdd HTD
          go_wp2_with fail
          go_roundg (az.length - (j + 1))
          case measure => omega
          case rel => exact ⟨j + 1,vc9,vf9,_,by omega,rfl,by go_num,by rw [Hsu2.out,← List.append_assoc];exact H9.out,S9.out⟩
         ·
          obtain rfl : j = az.length:=by omega
          have HL:=hid hL;have HT:=hid (HS6.out.trans hT)
          clear hL hT
          go_wp2_with fail
          go_roundg (ls.length - (k + 1))
          case measure => omega
          case rel => exact ⟨k + 1,vc2,vf2,_,by omega,rfl,by go_num,by have h9:=HL.out;rw [Hsu.out,zik rfl,← List.append_assoc,← Ham.out];rw [List.take_length,Haz.out,List.map_map,HNU.out] at h9;exact h9,HT.out⟩
       ·
        have t3 : (kd == 3) = false:=by rw [beq_eq_false_iff_ne];exact hk3
        have Hk3:=hid hk3;clear hk3
        go_wp2_with fail
        go_roundg (ls.length - (k + 1))
        case measure => omega
        case rel => exact ⟨k + 1,vc',vf',_,by omega,rfl,by go_num,by rw [Hsu.out,zj7 Hk4.out Hk2.out Hk3.out,List.append_nil];exact HJ5.out,HS5.out⟩
    ·
     obtain rfl : k = ls.length:=by omega
     rw [List.take_length] at hJ
     obtain ⟨rc,hrc⟩ : ∃ rc,rc = zJ ls items:=⟨_,rfl⟩
     change zbZ w1 pr (items.length : Nat) vc' vf' vs' (zJ ls items) _ at hJ
     have HRc:=hid hrc
     have hle:=HR.out
     rw [← hrc] at hJ hle
     have hfw:=hJ.few
     have hvs:=hJ.row;have hfs:=hJ.frm
     obtain ⟨a1,c1,rfl,_,_⟩:=hJ.row.shape
     obtain ⟨a2,c2,rfl,_,_⟩:=zo.shape hJ.frm
     have hfl : (jO rc).length = rc.length:=List.length_map ..
     rw [hfw,hfl] at hJ
     have hbx:=hJ.box
     have hbw:=hJ.bel
     have hres:=(hbw.block _ (zlb Hres1.out)).trans Hres1.out
     have Hvs:=hid hJ.row;have Hfs:=hid hJ.frm;have Hcl:=hid hJ.cls;have Hbw:=hid (Hb1.out.trans (hbw.mono Hb1.out.size));have Hres:=hid hres;have Hbx:=hid hbx
     obtain ⟨b0,b1,b2⟩:=yR hbx
     clear hJ hS hvs hfs hfw hfl hbx hbw hres hrc
     obtain ⟨r0,r1,r2⟩:=zfY Hres.out
     obtain ⟨z0,z1,z2⟩:=yR Hres.out
     have hrs:=zlb Hres.out
     obtain ⟨L,hL⟩ : ∃ L,L = rc.length:=⟨_,rfl⟩
     rw [← hL] at b1 b2 hle
     have HL:=hid hL;clear hL
     by_cases h200 : 200 < L
     ·
      have t2 : decide (200 < (L : Int)) = true:=by simp;omega
      have H200:=hid h200;clear h200
      go_wp2_with fail
      have hk:=zdk Hres.out (.int .i64 0) (.slice none 0 0) (.slice none 0 0)
      have hbl:=xK (w:=wo) (znr w.heap.size) (.int .i64 0) (.slice none 0 0) (.slice none 0 0)
      generalize ((wo.setCell ⟨w.heap.size,0,none⟩ (.int .i64 0)).setCell ⟨w.heap.size,1,none⟩ (.slice none 0 0)).setCell ⟨w.heap.size,2,none⟩ (.slice none 0 0) = wZ at hk hbl ⊢
      obtain ⟨q0,q1,q2⟩:=yR hk
      exact bodyPost_ret (v:=.tuple #[.agg #[.int .i64 0,.slice none 0 0,.slice none 0 0],.iface 45 (.int .i64 4)]) (by simp [results,Tryz.results44,go_sem,q0,q1,q2]) rfl ⟨.inr ⟨rfl,by rw [← HRc.out,← HL.out];exact H200.out⟩,Hbw.out.trans hbl⟩
     ·
      have t2 : decide (200 < (L : Int)) = false:=by simp;omega
      have H200:=hid h200;clear h200
      go_wp2_with fail
      have hk:=zdk Hres.out (.int .i64 (items.length : Nat)) (.slice a1 L c1) (.slice a2 L c2)
      have hbl:=xK (w:=wo) (znr w.heap.size) (.int .i64 (items.length : Nat)) (.slice a1 L c1) (.slice a2 L c2)
      have hkT:=qN (S:=3) Hres.out (by decide) (.int .i64 (items.length : Nat)) (.slice a1 L c1) (.slice a2 L c2)
      have hkC:=qN (S:=64) Hres.out (by decide) (.int .i64 (items.length : Nat)) (.slice a1 L c1) (.slice a2 L c2)
      generalize ((wo.setCell ⟨w.heap.size,0,none⟩ (.int .i64 (items.length : Nat))).setCell ⟨w.heap.size,1,none⟩ (.slice a1 L c1)).setCell ⟨w.heap.size,2,none⟩ (.slice a2 L c2) = wZ at hk hbl hkT hkC ⊢
      obtain ⟨q0,q1,q2⟩:=yR hk
      have hls : w.heap.size ≤ w1.heap.size:=Hb1.out.size
      refine bodyPost_ret (v:=.tuple #[.agg #[.int .i64 (items.length : Nat),.slice a1 L c1,.slice a2 L c2],.nilIface]) (by simp [results,Tryz.results44,go_sem,q0,q1,q2]) rfl ⟨.inl ⟨a1,c1,a2,c2,?_⟩,Hbw.out.trans hbl⟩
      rw [← HRc.out,← HL.out]
      have hv:=Hvs.out;have hf:=Hfs.out
      rw [← HL.out] at hv hf
      exact ⟨rfl,by have:=H200.out;omega,_,(hv.yI hkC).less hls,xV (fun a _ b k => zo.yI k hkT) Hcl.out,(zo.yI hf hkT).less hls⟩
def zax (w : World) (v : Value) (xs : List Bool) : Prop :=
 ∃ a b o c,v = .slice a xs.length c ∧ (xs ≠ [] → a = some ⟨b,o,none⟩) ∧ xs.length ≤ c ∧ c ≤ maxLen ∧ (∀ i,i < xs.length → w.cell? ⟨b,o + i,none⟩ = some (.bool (xs.getD i false))) ∧ (xs ≠ [] → b < w.heap.size)
theorem zax.below {w w' : World} {v : Value} {xs : List Bool} (h : zax w v xs) (hb : Below w.heap.size w w') : zax w' v xs:=by
 obtain ⟨a,b,o,c,h1,h2,h3,h4,h5,h6⟩:=h
 exact ⟨a,b,o,c,h1,h2,h3,h4,fun i hi => by rw [hb.cell (h6 (by intro e;subst e;simp at hi))];exact h5 i hi,fun e => Nat.lt_of_lt_of_le (h6 e) hb.size⟩
theorem zax.shape {w : World} {v : Value} {xs : List Bool} (h : zax w v xs) : ∃ a c,v = .slice a xs.length c ∧ xs.length ≤ c ∧ c ≤ 9223372036854775807:=by
 obtain ⟨a,b,o,c,rfl,_,h3,h4,_⟩:=h
 exact ⟨a,c,rfl,h3,by unfold maxLen at h4;omega⟩
theorem zax.at {w : World} {a : Option Addr} {n c : Nat} {xs : List Bool} (h : zax w (.slice a n c) xs) {k : Nat} (hk : k < xs.length) : ∃ b o,a = some ⟨b,o,none⟩ ∧ w.cell? ⟨b,o + k,none⟩ = some (.bool xs[k]):=by
 obtain ⟨_,b,o,_,hh,h2,_,_,h5,_⟩:=h
 cases hh
 refine ⟨b,o,h2 (by intro e;subst e;simp at hk),?_⟩
 rw [h5 k hk];simp [hk]
theorem yG.get {α β : Type} {R : α → β → Prop} : ∀ {ps : List α} {bs : List β},yG R ps bs → ∀ (k : Nat) (h : k < ps.length) (h' : k < bs.length),R ps[k] bs[k]
 | p :: ps,b :: bs,h,0,_,_ => h.1
 | p :: ps,b :: bs,h,k + 1,h1,h2 => yG.get h.2 k (by simpa using h1) (by simpa using h2)
theorem kM.below {w w' : World} {base : Nat} {vc vf : Value} {rc : List (Int × List Int)} (h : kM w base vc vf rc) (hb : Below w.heap.size w w') : kM w' base vc vf rc:=by
 obtain ⟨vs,h1,h2,h3⟩:=h
 exact ⟨vs,h1.below hb,xV (fun a _ b k => zo.below k hb) h2,zo.below h3 hb⟩
def zak (w : World) (base : Nat) (v : Value) (ls : List (List Int)) : Prop:=∃ us,zo w base 64 1 qI v us ∧ yG (fun v c => yM w 0 v c) us ls
theorem zak.below {w w' : World} {base : Nat} {v : Value} {ls : List (List Int)} (h : zak w base v ls) (hb : Below w.heap.size w w') : zak w' base v ls:=by
 obtain ⟨us,h1,h2⟩:=h
 exact ⟨us,h1.below hb,xV (fun a _ b k => zo.below k hb) h2⟩
theorem zak.shape {w : World} {base : Nat} {v : Value} {ls : List (List Int)} (h : zak w base v ls) : ∃ a c,v = .slice a ls.length c ∧ ls.length ≤ c ∧ c ≤ 9223372036854775807:=by
 obtain ⟨us,h1,h2⟩:=h
 have:=h2.len
 rw [← this]
 exact h1.shape
theorem zak.less {w : World} {base base' : Nat} {v : Value} {ls : List (List Int)} (h : zak w base v ls) (hb : base' ≤ base) : zak w base' v ls:=by
 obtain ⟨us,h1,h2⟩:=h
 exact ⟨us,h1.less hb,h2⟩
theorem zak.grow {W w9 : World} {base g n c0 : Nat} {ao : Option Addr} {co : Nat} {ls : List (List Int)} {c : List Int} {y : Value} {us : List Value} (hy : yM W 0 y c) (hv : yG (fun v c => yM W 0 v c) us ls) (hr : zo w9 base 64 1 qI (.slice (some ⟨g,0,none⟩) n c0) (us ++ [y])) (hk : yD 3 W w9) : zak w9 base (.slice (some ⟨g,0,none⟩) n c0) (ls ++ [c]) :=
 ⟨_,hr,yG.snoc (zo.yI hy hk) (xV (fun a _ b k => zo.yI k hk) hv)⟩
theorem yM.ints {w : World} {base : Nat} {v : Value} {xs : List Int} (h : yM w base v xs) (hn : xs.length ≤ 100000) : zD w v xs:=by
 have hc:=fun (g n c : Nat) (e : v = .slice (some ⟨g,0,none⟩) n c) => (show yM w base (.slice (some ⟨g,0,none⟩) n c) xs from e ▸ h)
 obtain ⟨h0,⟨h1,h2⟩ | ⟨g,cap,cur,e,h1,h2,h3,h4,h5,h6⟩⟩:=h
 ·
  have e : xs = []:=List.eq_nil_of_length_eq_zero h2
  subst e
  exact ⟨none,0,0,0,h1,fun q => absurd rfl q,znr _,znz _,fun i hi => (by simp at hi),fun q => absurd rfl q,znz _⟩
 ·
  refine ⟨_,g,0,cap,e,fun _ => rfl,h3,h4,fun i hi => ?_,fun _ => (Array.getElem?_eq_some_iff.1 h2).1,by omega⟩
  have:=zo.cell (enc:=yF) (z:=1) (fun _ => rfl) (hc _ _ _ e) hi (j:=0) (by decide) rfl
  rw [Nat.mul_one,Nat.add_zero] at this
  rw [Nat.zero_add,this]
  simp [hi]
theorem zak.rows {w : World} {base : Nat} {v : Value} {ls : List (List Int)} (h : zak w base v ls) (hl : ls.length ≤ 100000) (hc : ∀ c ∈ ls,c.length ≤ 100000) : xw w v ls:=by
 obtain ⟨us,h1,h2⟩:=h
 have hlen:=h2.len
 have hat:=fun (g n c : Nat) (e : v = .slice (some ⟨g,0,none⟩) n c) => (show zo w base 64 1 qI (.slice (some ⟨g,0,none⟩) n c) us from e ▸ h1)
 obtain ⟨a,c,e,q1,q2⟩:=h1.shape
 refine ⟨a,?_⟩
 cases hu : us with
 | nil =>
  have e0 : ls = []:=List.eq_nil_of_length_eq_zero (by rw [← hlen,hu];rfl)
  subst e0
  rw [hu] at e q1
  exact ⟨0,0,c,e,fun q => absurd rfl q,q1,by unfold maxLen;omega,fun q => absurd rfl q,znz _,fun i hi => (by simp at hi)⟩
 | cons u0 ur =>
  have hne : 0 < us.length:=by rw [hu];simp
  obtain ⟨g,rfl,hg,_⟩:=zo.at (e ▸ h1) hne
  refine ⟨g,0,c,by rw [← hlen];exact e,fun _ => rfl,by rw [← hlen];exact q1,by unfold maxLen;omega,fun _ => hg,by omega,fun i hi => ?_⟩
  have hi2 : i < us.length:=by rw [hlen];exact hi
  have hcell:=zo.cell zaZ (hat _ _ _ e) hi2 (j:=0) (by decide) rfl
  rw [Nat.mul_one,Nat.add_zero] at hcell
  refine ⟨us[i],by rw [Nat.zero_add];exact hcell,?_⟩
  have:=h2.get i hi2 hi
  have hd : ls.getD i [] = ls[i]:=by simp [hi]
  rw [hd]
  exact yM.ints this (hc _ (List.getElem_mem hi))
theorem zjI {x y : zm} (h : x.same y) (items : List zA) (i : Nat) : qZ items i x = qZ items i y:=by
 have hi:=zdQ h
 obtain ⟨h0,h1,h2,h3,h4,h5,h6⟩:=h
 unfold qZ
 rw [h0,h1,h5,h6,hi]
theorem zez (items : List zA) : ∀ {a b : List zm} (i : Nat),yG zm.same a b → xu items i a = xu items i b
 | [],[],_,_ => rfl
 | x :: a,y :: b,i,h => by rw [xu,xu,zjI h.1,zez items (i + 1) h.2]
theorem zjO {a b : List zm} (h : yG zm.same a b) (items : List zA) : zJ a items = zJ b items:=by
 unfold zJ;rw [zez items 0 h]
def ReadP (s : ByteArray) (most : Int) (w : World) (e : Ending) (w' : World) : Prop :=
 ((∃ p ls items a1 c1 a2 c2,e = .returned (.tuple #[.pointer (some ⟨p,0,none⟩),.agg #[.int .i64 (items.length : Nat),.slice a1 (zJ ls items).length c1,.slice a2 (zJ ls items).length c2],.bool true]) ∧ zbP w' p ls items ∧ qD s ls ∧ s.size ≤ 1500 ∧ (zJ ls items).length ≤ 200 ∧ (items.length : Int) ≤ most ∧ kM w' w.heap.size (.slice a1 (zJ ls items).length c1) (.slice a2 (zJ ls items).length c2) (zJ ls items)) ∨
  (e = .returned (.tuple #[.pointer none,.agg #[.int .i64 0,.slice none 0 0,.slice none 0 0],.bool false]) ∧ (1500 < s.size ∨ (∀ ls,qD s ls → ¬ jW ls) ∨ ∃ ls items,qD s ls ∧ zbu ls items ∧ (200 < (zJ ls items).length ∨ most < items.length)))) ∧ Below w.heap.size w w'
set_option maxRecDepth 100000 in
set_option maxHeartbeats 16000000 in
theorem zpc (s : ByteArray) (most : Int) (w : World) (hm : s.size ≤ 9223372036854775807) (hmo : 0 ≤ most ∧ most ≤ 1000) (hL : xQ w) (hT : zV w) : Calls Tryz.prog 9 #[.string s,.int .i64 most] w (ReadP s most w):=by
 obtain ⟨wA,hwA⟩ : ∃ wA,wA = w.alloc (.cells #[.int .i64 0,.slice none 0 0,.slice none 0 0] 27):=⟨_,rfl⟩
 have hbA : Below w.heap.size w wA:=by rw [hwA];exact zba
 have hkA : wA.heap[w.heap.size]? = some (.cells #[.int .i64 0,.slice none 0 0,.slice none 0 0] 27 (0,0)):=by rw [hwA];exact za rfl
 have HP:=hid (zfn s wA hm (hL.below hbA) (hT.below hbA))
 have HbA:=hid hbA;have HkA:=hid hkA
 obtain ⟨r0,r1,r2⟩:=zfY hkA
 obtain ⟨z0,z1,z2⟩:=yR hkA
 have hlA:=zlb hkA
 by_cases hs : 1500 < s.size
 ·
  have hd : decide (1500 < (s.size : Int)) = true:=by simp;omega
  have Hs:=hid hs
  clear hL hT hbA hkA hs HP hm
  go_enter Tryz.func9,Tryz.ntmps9
  go_upto_region 1 with fail
  rw [← hwA]
  clear hwA
  go_wp2_with fail
  have hk:=zdk HkA.out (.int .i64 0) (.slice none 0 0) (.slice none 0 0)
  have hbl:=xK (w:=wA) (znr w.heap.size) (.int .i64 0) (.slice none 0 0) (.slice none 0 0)
  generalize ((wA.setCell ⟨w.heap.size,0,none⟩ (.int .i64 0)).setCell ⟨w.heap.size,1,none⟩ (.slice none 0 0)).setCell ⟨w.heap.size,2,none⟩ (.slice none 0 0) = wZ at hk hbl ⊢
  obtain ⟨q0,q1,q2⟩:=yR hk
  exact bodyPost_ret (v:=.tuple #[.pointer none,.agg #[.int .i64 0,.slice none 0 0,.slice none 0 0],.bool false]) (by simp [results,Tryz.results9,go_sem,q0,q1,q2]) rfl ⟨.inr ⟨rfl,.inl Hs.out⟩,HbA.out.trans hbl⟩
 ·
  have hd : decide (1500 < (s.size : Int)) = false:=by simp;omega
  have Hs:=hid hs
  clear hL hT hbA hkA hs hm r0 r1 r2 z0 z1 z2
  go_enter Tryz.func9,Tryz.ntmps9
  go_upto_region 1 with fail
  rw [← hwA]
  clear hwA
  go_wp2_with fail
  refine HP.out.mono ?_
  rintro e w1 ⟨⟨p,ls,items,rfl,hcat,_,_,hls⟩ | ⟨er,rfl,her,hno⟩,hb1⟩
  ·
   obtain ⟨hok,vl,vi,hat⟩:=hcat
   have HO:=hid (zns p vl vi ls items w1 hat hok)
   have Hok:=hid hok;have Hat:=hid hat;have Hls:=hid hls;have HB1:=hid (HbA.out.trans (hb1.mono HbA.out.size));have Hk1:=hid ((hb1.block _ (zlb HkA.out)).trans HkA.out)
   clear hok hat hls hb1 HP
   go_wp2_with fail
   refine HO.out.mono ?_
   rintro e w2 ⟨⟨a1,c1,a2,c2,rfl,hr,hin⟩ | ⟨rfl,hr⟩,hb2⟩
   ·
    have hn24 : items.length ≤ 24:=by rw [Hok.out.perm.length_eq];exact Hok.out.most
    have hk2:=(hb2.block _ (zlb Hk1.out)).trans Hk1.out
    have HB2:=hid (HB1.out.trans (hb2.mono HB1.out.size));have HAt2:=hid (Hat.out.below hb2);have Hk2:=hid hk2
    have hin2 : kM w2 w.heap.size (.slice a1 (zJ ls items).length c1) (.slice a2 (zJ ls items).length c2) (zJ ls items):=by
     obtain ⟨vs,h1,h2,h3⟩:=hin
     exact ⟨vs,h1.less HB1.out.size,h2,zo.less h3 HB1.out.size⟩
    obtain ⟨L,hL⟩ : ∃ L,L = (zJ ls items).length:=⟨_,rfl⟩
    rw [← hL] at hin2 hr ⊢
    obtain ⟨w3,hw3⟩ : ∃ w3,w3 = w2.alloc (.cells #[.int .i64 (items.length : Nat),.slice a1 L c1,.slice a2 L c2] 27):=⟨_,rfl⟩
    have hb3 : Below w2.heap.size w2 w3:=by rw [hw3];exact zba
    have hk3 : w3.heap[w2.heap.size]? = some (.cells #[.int .i64 (items.length : Nat),.slice a1 L c1,.slice a2 L c2] 27 (0,0)):=by rw [hw3];exact za rfl
    have hkr:=(hb3.block _ (zlb hk2)).trans hk2
    have HL:=hid hL;have Hin:=hid (hin2.below hb3);have Hr:=hid hr;have HB3:=hid (HB2.out.trans (hb3.mono HB2.out.size));have HAt3:=hid (HAt2.out.below hb3);have Hkr:=hid hkr
    obtain ⟨y0,y1,y2⟩:=yR hk3
    obtain ⟨r0,r1,r2⟩:=zfY hkr
    obtain ⟨z0,z1,z2⟩:=yR hkr
    have hlr:=zlb hkr
    clear hL hin2 hr hb3 hk2 hkr hk3 hin hb2 HO
    go_upto_region 7 with fail
    rw [← hw3]
    clear hw3
    by_cases hmi : most < items.length
    ·
     have t1 : decide (most < (items.length : Int)) = true:=decide_eq_true hmi
     have Hmi:=hid hmi;clear hmi
     go_wp2_with fail
     have hk:=zdk Hkr.out (.int .i64 0) (.slice none 0 0) (.slice none 0 0)
     have hbl:=xK (w:=w3) (znr w.heap.size) (.int .i64 0) (.slice none 0 0) (.slice none 0 0)
     generalize ((w3.setCell ⟨w.heap.size,0,none⟩ (.int .i64 0)).setCell ⟨w.heap.size,1,none⟩ (.slice none 0 0)).setCell ⟨w.heap.size,2,none⟩ (.slice none 0 0) = wZ at hk hbl ⊢
     obtain ⟨q0,q1,q2⟩:=yR hk
     exact bodyPost_ret (v:=.tuple #[.pointer none,.agg #[.int .i64 0,.slice none 0 0,.slice none 0 0],.bool false]) (by simp [results,Tryz.results9,go_sem,q0,q1,q2]) rfl ⟨.inr ⟨rfl,.inr (.inr ⟨ls,items,Hls.out,Hok.out,.inr Hmi.out⟩)⟩,HB3.out.trans hbl⟩
    ·
     have t1 : decide (most < (items.length : Int)) = false:=decide_eq_false hmi
     have Hmi:=hid hmi;clear hmi
     go_wp2_with fail
     go_region
     all_goals go_wp2_with fail
     have hk:=zdk Hkr.out (.int .i64 (items.length : Nat)) (.slice a1 L c1) (.slice a2 L c2)
     have hbl:=xK (w:=w3) (znr w.heap.size) (.int .i64 (items.length : Nat)) (.slice a1 L c1) (.slice a2 L c2)
     have hkT:=qN (S:=3) Hkr.out (by decide) (.int .i64 (items.length : Nat)) (.slice a1 L c1) (.slice a2 L c2)
     have hkC:=qN (S:=64) Hkr.out (by decide) (.int .i64 (items.length : Nat)) (.slice a1 L c1) (.slice a2 L c2)
     have hk1:=qN (S:=226) Hkr.out (by decide) (.int .i64 (items.length : Nat)) (.slice a1 L c1) (.slice a2 L c2)
     have hk2:=qN (S:=77) Hkr.out (by decide) (.int .i64 (items.length : Nat)) (.slice a1 L c1) (.slice a2 L c2)
     have hk3:=qN (S:=94) Hkr.out (by decide) (.int .i64 (items.length : Nat)) (.slice a1 L c1) (.slice a2 L c2)
     have hk4:=qN (S:=142) Hkr.out (by decide) (.int .i64 (items.length : Nat)) (.slice a1 L c1) (.slice a2 L c2)
     generalize ((w3.setCell ⟨w.heap.size,0,none⟩ (.int .i64 (items.length : Nat))).setCell ⟨w.heap.size,1,none⟩ (.slice a1 L c1)).setCell ⟨w.heap.size,2,none⟩ (.slice a2 L c2) = wZ at hk hbl hkT hkC hk1 hk2 hk3 hk4 ⊢
     have hdr : Below wZ.heap.size wZ wZ.drew:=(Below.refl _ _).drew
     have hcat : zbP wZ.drew p ls items:=(zbP.yI ⟨Hok.out,vl,vi,HAt3.out⟩ hk1 hk2 hk3 hk4).below hdr
     obtain ⟨q0,q1,q2⟩:=yR hk
     obtain ⟨vs,h1,h2,h3⟩:=Hin.out
     have hin9 : kM wZ.drew w.heap.size (.slice a1 L c1) (.slice a2 L c2) (zJ ls items):=kM.below ⟨vs,h1.yI hkC,xV (fun a _ b k => zo.yI k hkT) h2,zo.yI h3 hkT⟩ hdr
     refine bodyPost_ret (v:=.tuple #[.pointer (some ⟨p,0,none⟩),.agg #[.int .i64 (items.length : Nat),.slice a1 L c1,.slice a2 L c2],.bool true]) (by simp [results,Tryz.results9,go_sem,q0,q1,q2]) rfl ⟨.inl ⟨p,ls,items,a1,c1,a2,c2,?_⟩,(HB3.out.trans hbl).drew⟩
     rw [← HL.out]
     exact ⟨rfl,hcat,Hls.out,by have:=Hs.out;omega,Hr.out,by have:=Hmi.out;omega,hin9⟩
   ·
    have hk2:=(hb2.block _ (zlb Hk1.out)).trans Hk1.out
    have HB2:=hid (HB1.out.trans (hb2.mono HB1.out.size))
    obtain ⟨w3,hw3⟩ : ∃ w3,w3 = w2.alloc (.cells #[.int .i64 0,.slice none 0 0,.slice none 0 0] 27):=⟨_,rfl⟩
    have hb3 : Below w2.heap.size w2 w3:=by rw [hw3];exact zba
    have hkr:=(hb3.block _ (zlb hk2)).trans hk2
    have HB3:=hid (HB2.out.trans (hb3.mono HB2.out.size));have Hkr:=hid hkr;have Hr:=hid hr
    obtain ⟨r0,r1,r2⟩:=zfY hkr
    obtain ⟨z0,z1,z2⟩:=yR hkr
    have hlr:=zlb hkr
    clear hr hb3 hk2 hkr hb2 HO
    go_upto_region 7 with fail
    rw [← hw3]
    clear hw3
    go_wp2_with fail
    have hk:=zdk Hkr.out (.int .i64 0) (.slice none 0 0) (.slice none 0 0)
    have hbl:=xK (w:=w3) (znr w.heap.size) (.int .i64 0) (.slice none 0 0) (.slice none 0 0)
    generalize ((w3.setCell ⟨w.heap.size,0,none⟩ (.int .i64 0)).setCell ⟨w.heap.size,1,none⟩ (.slice none 0 0)).setCell ⟨w.heap.size,2,none⟩ (.slice none 0 0) = wZ at hk hbl ⊢
    obtain ⟨q0,q1,q2⟩:=yR hk
    exact bodyPost_ret (v:=.tuple #[.pointer none,.agg #[.int .i64 0,.slice none 0 0,.slice none 0 0],.bool false]) (by simp [results,Tryz.results9,go_sem,q0,q1,q2]) rfl ⟨.inr ⟨rfl,.inr (.inr ⟨ls,items,Hls.out,Hok.out,.inl Hr.out⟩)⟩,HB3.out.trans hbl⟩
  ·
   have HB1:=hid (HbA.out.trans (hb1.mono HbA.out.size));have Hk1:=hid ((hb1.block _ (zlb HkA.out)).trans HkA.out)
   have Hno:=hid (show ∀ ls,qD s ls → ¬ jW ls from fun ls h => hno ls (by have:=Hs.out;omega) h)
   obtain ⟨r0,r1,r2⟩:=zfY Hk1.out
   obtain ⟨z0,z1,z2⟩:=yR Hk1.out
   have hlr:=zlb Hk1.out
   obtain ⟨te,xe,rfl⟩ : ∃ te xe,er = .iface te xe:=by
    rcases her with ⟨_,rfl⟩ | ⟨_,_,_,rfl,_⟩
    · exact ⟨_,_,rfl⟩
    · exact ⟨_,_,rfl⟩
   clear hno hb1 HP her
   go_wp2_with fail
   have hk:=zdk Hk1.out (.int .i64 0) (.slice none 0 0) (.slice none 0 0)
   have hbl:=xK (w:=w1) (znr w.heap.size) (.int .i64 0) (.slice none 0 0) (.slice none 0 0)
   generalize ((w1.setCell ⟨w.heap.size,0,none⟩ (.int .i64 0)).setCell ⟨w.heap.size,1,none⟩ (.slice none 0 0)).setCell ⟨w.heap.size,2,none⟩ (.slice none 0 0) = wZ at hk hbl ⊢
   obtain ⟨q0,q1,q2⟩:=yR hk
   exact bodyPost_ret (v:=.tuple #[.pointer none,.agg #[.int .i64 0,.slice none 0 0,.slice none 0 0],.bool false]) (by simp [results,Tryz.results9,go_sem,q0,q1,q2]) rfl ⟨.inr ⟨rfl,.inr (.inl Hno.out)⟩,HB1.out.trans hbl⟩
