import Derived.Test.YtmlfelbkgoplhaaGreatDoorZfFixR21
set_option linter.unusedVariables false
set_option linter.unusedSimpArgs false
namespace Go.Proofs.YtmlfelbkgoplhaaGreatDoor
open Go.RowKit
noncomputable def zk : Array Oper:=(Tryz.f5.body.bind (zdf 22)).getD #[]
theorem zqv : ∃ o,zk[0]? = some o ∧ o.op = .fieldAddr 27 (.tmp 8) 0 ∧ o.dst = some 124 ∧ o.guard = none ∧ zZ o [] = true:=opf (x:=(.fieldAddr 27 (.tmp 8) 0,some 124,none)) (by kernel_rfl)
theorem zqw : ∃ o,zk[1]? = some o ∧ o.op = .load 3 (.tmp 124) ∧ o.dst = some 125 ∧ o.guard = none ∧ zZ o [0] = true:=opf (x:=(.load 3 (.tmp 124),some 125,none)) (by kernel_rfl)
theorem zp9 : ∃ o,zk[2]? = some o ∧ o.op = .buildSlice 25 0 #[] ∧ o.dst = some 126 ∧ o.guard = none ∧ zZ o [] = true:=opf (x:=(.buildSlice 25 0 #[],some 126,none)) (by kernel_rfl)
theorem zqs : ∃ o,zk[3]? = some o ∧ o.op = .fieldAddr 27 (.tmp 8) 1 ∧ o.dst = some 127 ∧ o.guard = none ∧ zZ o [] = true:=opf (x:=(.fieldAddr 27 (.tmp 8) 1,some 127,none)) (by kernel_rfl)
theorem zqd : ∃ o,zk[4]? = some o ∧ o.op = .load 25 (.tmp 127) ∧ o.dst = some 128 ∧ o.guard = none ∧ zZ o [3] = true:=opf (x:=(.load 25 (.tmp 127),some 128,none)) (by kernel_rfl)
theorem zqA : ∃ o,zk[5]? = some o ∧ o.op = .fieldAddr 27 (.tmp 8) 1 ∧ o.dst = some 129 ∧ o.guard = none ∧ zZ o [] = true:=opf (x:=(.fieldAddr 27 (.tmp 8) 1,some 129,none)) (by kernel_rfl)
theorem zqp : ∃ o,zk[6]? = some o ∧ o.op = .load 25 (.tmp 129) ∧ o.dst = some 130 ∧ o.guard = none ∧ zZ o [5] = true:=opf (x:=(.load 25 (.tmp 129),some 130,none)) (by kernel_rfl)
theorem zqx : ∃ o,zk[7]? = some o ∧ o.op = .call { callee:=.builtin .len,args:=#[.tmp 130],argTypes:=#[25] } ∧ o.dst = some 131 ∧ o.guard = none ∧ zZ o [6] = true:=opf (x:=(.call { callee:=.builtin .len,args:=#[.tmp 130],argTypes:=#[25] },some 131,none)) (by kernel_rfl)
theorem zqB : ∃ o,zk[8]? = some o ∧ o.op = .call { callee:=.builtin .min,args:=#[.tmp 131,.const (.int .i64 199)],argTypes:=#[3,3] } ∧ o.dst = some 132 ∧ o.guard = none ∧ zZ o [7] = true:=opf (x:=(.call { callee:=.builtin .min,args:=#[.tmp 131,.const (.int .i64 199)],argTypes:=#[3,3] },some 132,none)) (by kernel_rfl)
theorem zqr : ∃ o,zk[9]? = some o ∧ o.op = .slice 25 (.tmp 128) none (some (.tmp 132)) none ∧ o.dst = some 133 ∧ o.guard = none ∧ zZ o [4,8] = true:=opf (x:=(.slice 25 (.tmp 128) none (some (.tmp 132)) none,some 133,none)) (by kernel_rfl)
theorem zoc : ∃ o,zk[10]? = some o ∧ o.op = .call { callee:=.builtin .append,args:=#[.tmp 126,.tmp 133],argTypes:=#[25,25] } ∧ o.dst = some 134 ∧ o.guard = none ∧ zZ o [2,9] = true:=opf (x:=(.call { callee:=.builtin .append,args:=#[.tmp 126,.tmp 133],argTypes:=#[25,25] },some 134,none)) (by kernel_rfl)
theorem zoq : ∃ o,zk[11]? = some o ∧ o.op = .move (.tmp 2) ∧ o.dst = some 135 ∧ o.guard = none ∧ zZ o [] = true:=opf (x:=(.move (.tmp 2),some 135,none)) (by kernel_rfl)
theorem zou : ∃ o,zk[12]? = some o ∧ o.op = .binOp .add 3 (.tmp 135) (.const (.int .i64 1)) 3 ∧ o.dst = some 136 ∧ o.guard = none ∧ zZ o [11] = true:=opf (x:=(.binOp .add 3 (.tmp 135) (.const (.int .i64 1)) 3,some 136,none)) (by kernel_rfl)
theorem zos : ∃ o,zk[13]? = some o ∧ o.op = .buildSlice 64 1 #[(0,.tmp 136)] ∧ o.dst = some 137 ∧ o.guard = none ∧ zZ o [12] = true:=opf (x:=(.buildSlice 64 1 #[(0,.tmp 136)],some 137,none)) (by kernel_rfl)
theorem zoO : ∃ o,zk[14]? = some o ∧ o.op = .buildSlice 25 1 #[(0,.tmp 137)] ∧ o.dst = some 138 ∧ o.guard = none ∧ zZ o [13] = true:=opf (x:=(.buildSlice 25 1 #[(0,.tmp 137)],some 138,none)) (by kernel_rfl)
theorem zkv : ∃ o,zk[15]? = some o ∧ o.op = .call { callee:=.builtin .append,args:=#[.tmp 134,.tmp 138],argTypes:=#[25,25] } ∧ o.dst = some 139 ∧ o.guard = none ∧ zZ o [10,14] = true:=opf (x:=(.call { callee:=.builtin .append,args:=#[.tmp 134,.tmp 138],argTypes:=#[25,25] },some 139,none)) (by kernel_rfl)
theorem znC : ∃ o,zk[16]? = some o ∧ o.op = .call { callee:=.value (.func 21),args:=#[.tmp 125,.tmp 139],argTypes:=#[3,25] } ∧ o.dst = some 140 ∧ o.guard = none ∧ zZ o [1,15] = true:=opf (x:=(.call { callee:=.value (.func 21),args:=#[.tmp 125,.tmp 139],argTypes:=#[3,25] },some 140,none)) (by kernel_rfl)
theorem zjQ : ∃ o,zk[17]? = some o ∧ o.op = .move (.tmp 140) ∧ o.dst = some 123 ∧ o.guard = none ∧ zZ o [16] = true:=opf (x:=(.move (.tmp 140),some 123,none)) (by kernel_rfl)
theorem zn7 : ∃ o,zk[18]? = some o ∧ o.op = .extract (.tmp 123) 0 ∧ o.dst = some 141 ∧ o.guard = none ∧ zZ o [17] = true:=opf (x:=(.extract (.tmp 123) 0,some 141,none)) (by kernel_rfl)
theorem zof : ∃ o,zk[19]? = some o ∧ o.op = .extract (.tmp 123) 1 ∧ o.dst = some 142 ∧ o.guard = none ∧ zZ o [17] = true:=opf (x:=(.extract (.tmp 123) 1,some 142,none)) (by kernel_rfl)
theorem zjx : ∃ o,zk[20]? = some o ∧ o.op = .alloc 56 ∧ o.dst = some 21 ∧ o.guard = none ∧ zZ o [] = true:=opf (x:=(.alloc 56,some 21,none)) (by kernel_rfl)
theorem zoK : ∃ o,zk[21]? = some o ∧ o.op = .store 56 (.tmp 21) (.tmp 141) ∧ o.dst = none ∧ o.guard = none ∧ zZ o [20,18] = true:=opf (x:=(.store 56 (.tmp 21) (.tmp 141),none,none)) (by kernel_rfl)
theorem zn8 : ∃ o,zk[22]? = some o ∧ o.op = .assign (.tmp 142) ∧ o.dst = some 15 ∧ o.guard = none ∧ zZ o [19] = true:=opf (x:=(.assign (.tmp 142),some 15,none)) (by kernel_rfl)
theorem zb2 : zk.size = 23:=by kernel_rfl
theorem zaV {l : Array Bool} (hs : l.size = zk.size) : l.getD 1000 false = false:=by
 rw [Array.getD_eq_getD_getElem?,Array.getElem?_eq_none (by rw [hs,zb2];decide)];rfl
def xX (wA : World) (p1 V L m c1 pv : Nat) (lit : Int) (a1 : Option Addr) (us : List Value) (P0 : Prop) (l : Array Bool) (i : Nat) (v : Value) (w : World) : Prop:=match i with
 | 0 => v = .pointer (some ⟨p1,0,none⟩)
 | 1 => v = .int .i64 V
 | 2 => ∃ g,v = .slice (some ⟨g,0,none⟩) 0 0 ∧ wA.heap.size ≤ g ∧ w.heap[g]? = some (.cells #[] 64 (0,0))
 | 3 => v = .pointer (some ⟨p1,1,none⟩)
 | 4 => v = .slice a1 L c1
 | 5 => v = .pointer (some ⟨p1,1,none⟩)
 | 6 => v = .slice a1 L c1
 | 7 => v = .int .i64 L
 | 8 => v = .int .i64 m
 | 9 => v = .slice a1 m c1
 | 10 => zo w wA.heap.size 64 1 qI v (us.take m)
 | 11 => v = .int .i64 pv
 | 12 => v = .int .i64 lit
 | 13 => ∃ g,v = .slice (some ⟨g,0,none⟩) 1 1 ∧ w.heap[g]? = some (.cells #[.int .i64 lit] 3 (0,0))
 | 14 => ∃ q g,v = .slice (some ⟨q,0,none⟩) 1 1 ∧ w.heap[q]? = some (.cells #[.slice (some ⟨g,0,none⟩) 1 1] 64 (0,0)) ∧ w.heap[g]? = some (.cells #[.int .i64 lit] 3 (0,0))
 | 15 => ∃ g,zo w wA.heap.size 64 1 qI v (us.take m ++ [.slice (some ⟨g,0,none⟩) 1 1]) ∧ w.heap[g]? = some (.cells #[.int .i64 lit] 3 (0,0))
 | 16 => GotF P0 v
 | 17 => GotF P0 v
 | 18 => ∃ (holds : Bool) (vals : Nat) (a8 : Option Addr) (n8 c8 : Nat),v = .agg #[.bool holds,.int .u64 vals,.slice a8 n8 c8] ∧ (holds = true ↔ P0)
 | 19 => v = .nilIface
 | 20 => ∃ blk c0 c1 c2,v = .pointer (some ⟨blk,0,none⟩) ∧ wA.heap.size ≤ blk ∧ w.heap[blk]? = some (.cells #[c0,c1,c2] 56 (0,0)) ∧ (l.getD 21 false = true → ∃ (holds : Bool) (vals : Nat) (a8 : Option Addr) (n8 c8 : Nat),c0 = .bool holds ∧ c1 = .int .u64 vals ∧ c2 = .slice a8 n8 c8 ∧ (holds = true ↔ P0))
 | 21 => True
 | 22 => v = .nilIface
 | _ => True
def jY (i : Nat) : Nat:=match i with
 | 2 => 10
 | 14 => 15
 | 10 => 15
 | 15 => 16
 | _ => 1000
section
variable {wA : World} {p1 V L m c1 pv : Nat} {lit : Int} {a1 : Option Addr} {us : List Value} {P0 : Prop}
theorem xH {l : Array Bool} {i j : Nat} {v : Value} {w : World} (hi : i ≠ 21) (h : xX wA p1 V L m c1 pv lit a1 us P0 l j v w) : xX wA p1 V L m c1 pv lit a1 us P0 (l.setIfInBounds i true) j v w:=by
 rcases (Nat.decEq j 20) with e | e
 ·
  unfold xX at h ⊢
  split at h <;> first | exact h | (exact absurd rfl e) | trivial
 ·
  subst e
  obtain ⟨blk,x0,x1,x2,e1,e2,e3,e4⟩:=h
  refine ⟨blk,x0,x1,x2,e1,e2,e3,fun h => e4 ?_⟩
  rw [Array.getD_eq_getD_getElem?,Array.getElem?_setIfInBounds_ne hi] at h
  rw [Array.getD_eq_getD_getElem?];exact h
theorem zfU {l : Array Bool} {j : Nat} {v : Value} {w w' : World} (hb : Below w.heap.size w w') (h : xX wA p1 V L m c1 pv lit a1 us P0 l j v w) : xX wA p1 V L m c1 pv lit a1 us P0 l j v w':=by
 have k : ∀ {b : Nat} {o : Obj},w.heap[b]? = some o → w'.heap[b]? = some o:=fun {b o} e => (hb.block b (Array.getElem?_eq_some_iff.1 e).1).trans e
 by_cases c2 : j = 2
 · subst c2;obtain ⟨g,e1,e2,e3⟩:=h;exact ⟨g,e1,e2,k e3⟩
 by_cases c3 : j = 10
 · subst c3;exact zo.below h hb
 by_cases c4 : j = 13
 · subst c4;obtain ⟨g,e1,e2⟩:=h;exact ⟨g,e1,k e2⟩
 by_cases c5 : j = 14
 · subst c5;obtain ⟨q,g,e1,e2,e3⟩:=h;exact ⟨q,g,e1,k e2,k e3⟩
 by_cases c6 : j = 15
 · subst c6;obtain ⟨g,e1,e2⟩:=h;exact ⟨g,e1.below hb,k e2⟩
 by_cases c7 : j = 20
 · subst c7;obtain ⟨blk,x0,x1,x2,e1,e2,e3,e4⟩:=h;exact ⟨blk,x0,x1,x2,e1,e2,k e3,e4⟩
 unfold xX at h ⊢
 split at h <;> first | exact h | (exfalso;first | exact c2 rfl | exact c3 rfl | exact c4 rfl | exact c5 rfl | exact c6 rfl | exact c7 rfl) | trivial
theorem zrB {l : Array Bool} {j z : Nat} {v : Value} {w w' : World} {cz : Array Value} {T : TypeId} (hz : w.heap[z]? = some (.cells cz T (0,0))) (hk : ∀ k,k < w.heap.size → k ≠ z → w'.heap[k]? = w.heap[k]?) (hj : j ≠ 2 ∧ j ≠ 10 ∧ j ≠ 15) (hc : (T = 64 ∧ cz = #[]) ∨ T = 56) (hA : T = 56 → j ≠ 20) (h : xX wA p1 V L m c1 pv lit a1 us P0 l j v w) : xX wA p1 V L m c1 pv lit a1 us P0 l j v w':=by
 have k : ∀ {b : Nat} {cs : Array Value} {T' : TypeId},(T' ≠ T ∨ cs ≠ cz) → w.heap[b]? = some (.cells cs T' (0,0)) → w'.heap[b]? = some (.cells cs T' (0,0)):=fun {b cs T'} hne e => (hk b (Array.getElem?_eq_some_iff.1 e).1 (fun hb => by subst hb;obtain ⟨q1,q2⟩:=zcv e hz;rcases hne with q | q <;> first | exact q q2 | exact q q1)).trans e
 by_cases c4 : j = 13
 · subst c4;obtain ⟨g,e1,e2⟩:=h;exact ⟨g,e1,k (by rcases hc with ⟨rfl,_⟩ | rfl <;> exact .inl (by decide)) e2⟩
 by_cases c5 : j = 14
 · subst c5;obtain ⟨q,g,e1,e2,e3⟩:=h;exact ⟨q,g,e1,k (by rcases hc with ⟨_,rfl⟩ | rfl;exact .inr (by simp);exact .inl (by decide)) e2,k (by rcases hc with ⟨rfl,_⟩ | rfl <;> exact .inl (by decide)) e3⟩
 by_cases c7 : j = 20
 · subst c7;obtain ⟨blk,x0,x1,x2,e1,e2,e3,e4⟩:=h;exact ⟨blk,x0,x1,x2,e1,e2,k (by rcases hc with ⟨rfl,_⟩ | rfl;exact .inl (by decide);exact absurd rfl (hA rfl)) e3,e4⟩
 unfold xX at h ⊢
 split at h <;> first | exact h | (exfalso;first | exact hj.1 rfl | exact hj.2.1 rfl | exact hj.2.2 rfl | exact c4 rfl | exact c5 rfl | exact c7 rfl) | trivial
theorem zpk {l l' : Array Bool} {j : Nat} {v : Value} {w : World} (hj : j ≠ 20) (h : xX wA p1 V L m c1 pv lit a1 us P0 l j v w) : xX wA p1 V L m c1 pv lit a1 us P0 l' j v w:=by
 unfold xX at h ⊢
 split at h <;> first | exact h | (exact absurd rfl hj) | trivial
theorem zq5 {l : Array Bool} {j z : Nat} {v : Value} {w w' : World} {cz : Array Value} {T : TypeId} (hz : w.heap[z]? = some (.cells cz T (0,0))) (hT : T ≠ 64 ∧ T ≠ 3) (hk : ∀ k,k < w.heap.size → k ≠ z → w'.heap[k]? = w.heap[k]?) (hj : j ≠ 20) (h : xX wA p1 V L m c1 pv lit a1 us P0 l j v w) : xX wA p1 V L m c1 pv lit a1 us P0 l j v w':=by
 have k : ∀ {b : Nat} {cs : Array Value} {T' : TypeId} {f : Nat × Nat},T' ≠ T → w.heap[b]? = some (.cells cs T' f) → w'.heap[b]? = w.heap[b]?:=fun {b cs T' f} hne e => hk b (Array.getElem?_eq_some_iff.1 e).1 (fun hb => by subst hb;exact hne (zcv e hz).2)
 have kr : ∀ {v : Value} {xs : List Value},zo w wA.heap.size 64 1 qI v xs → zo w' wA.heap.size 64 1 qI v xs:=fun {v xs} h => h.keep (fun b e => by
  rcases h.2 with ⟨q,_⟩ | ⟨g,cap,cur,q,_,hg,_⟩
  · rw [q] at e;cases e
  ·
   rw [q] at e
   have e2 : g = b:=by injection e
   rw [← e2];exact k (Ne.symm hT.1) hg)
 by_cases c2 : j = 2
 · subst c2;obtain ⟨g,e1,e2,e3⟩:=h;exact ⟨g,e1,e2,(k (Ne.symm hT.1) e3).trans e3⟩
 by_cases c3 : j = 10
 · subst c3;exact kr h
 by_cases c4 : j = 13
 · subst c4;obtain ⟨g,e1,e2⟩:=h;exact ⟨g,e1,(k (Ne.symm hT.2) e2).trans e2⟩
 by_cases c5 : j = 14
 · subst c5;obtain ⟨q,g,e1,e2,e3⟩:=h;exact ⟨q,g,e1,(k (Ne.symm hT.1) e2).trans e2,(k (Ne.symm hT.2) e3).trans e3⟩
 by_cases c6 : j = 15
 · subst c6;obtain ⟨g,e1,e2⟩:=h;exact ⟨g,kr e1,(k (Ne.symm hT.2) e2).trans e2⟩
 unfold xX at h ⊢
 split at h <;> first | exact h | (exfalso;first | exact c2 rfl | exact c3 rfl | exact c4 rfl | exact c5 rfl | exact c6 rfl | exact hj rfl) | trivial
end
section
variable {Q : Exit → Act → World → Prop} {a0 : Act} {wA : World} {p1 V L m c1 pv : Nat} {lit : Int} {a1 : Option Addr} {us : List Value} {ls : List (List Int)} {P0 : Prop} {o : Oper}
theorem s22_0 (h8 : a0.tmps[8]? = some (.pointer (some ⟨p1,0,none⟩))) (ho : zk[0]? = some o) : yg Tryz.prog zk Q a0 jY (Below wA.heap.size wA) (xX wA p1 V L m c1 pv lit a1 us P0) 0 o:=by
 obtain ⟨o',ho',hop,hdst,hg,hdep⟩:=zqv
 obtain rfl : o = o':=Option.some.inj (ho.symm.trans ho')
 intro l a w F hs h0 ha K hK
 have hd:=zB hdep ha
 have hsi : 0 < l.size:=by rw [hs];exact (Array.getElem?_eq_some_iff.1 ho).1
 have e8:=F.old (d:=8) (by kernel_rfl) h8
 exact zx hg (v:=.pointer (some ⟨p1,0,none⟩)) (w':=w) (by simp [go_sem,execOp,hop,e8]) hK F.base rfl (fun j oj u hj _ _ _ _ _ h => xH (by decide) h)
theorem s22_3 (h8 : a0.tmps[8]? = some (.pointer (some ⟨p1,0,none⟩))) (ho : zk[3]? = some o) : yg Tryz.prog zk Q a0 jY (Below wA.heap.size wA) (xX wA p1 V L m c1 pv lit a1 us P0) 3 o:=by
 obtain ⟨o',ho',hop,hdst,hg,hdep⟩:=zqs
 obtain rfl : o = o':=Option.some.inj (ho.symm.trans ho')
 intro l a w F hs h0 ha K hK
 have hd:=zB hdep ha
 have hsi : 3 < l.size:=by rw [hs];exact (Array.getElem?_eq_some_iff.1 ho).1
 have e8:=F.old (d:=8) (by kernel_rfl) h8
 exact zx hg (v:=.pointer (some ⟨p1,1,none⟩)) (w':=w) (by simp [go_sem,execOp,hop,e8]) hK F.base rfl (fun j oj u hj _ _ _ _ _ h => xH (by decide) h)
theorem s22_5 (h8 : a0.tmps[8]? = some (.pointer (some ⟨p1,0,none⟩))) (ho : zk[5]? = some o) : yg Tryz.prog zk Q a0 jY (Below wA.heap.size wA) (xX wA p1 V L m c1 pv lit a1 us P0) 5 o:=by
 obtain ⟨o',ho',hop,hdst,hg,hdep⟩:=zqA
 obtain rfl : o = o':=Option.some.inj (ho.symm.trans ho')
 intro l a w F hs h0 ha K hK
 have hd:=zB hdep ha
 have hsi : 5 < l.size:=by rw [hs];exact (Array.getElem?_eq_some_iff.1 ho).1
 have e8:=F.old (d:=8) (by kernel_rfl) h8
 exact zx hg (v:=.pointer (some ⟨p1,1,none⟩)) (w':=w) (by simp [go_sem,execOp,hop,e8]) hK F.base rfl (fun j oj u hj _ _ _ _ _ h => xH (by decide) h)
theorem s22_1 (HC : ∀ W,Below wA.heap.size wA W → W.cell? ⟨p1,0,none⟩ = some (.int .i64 V) ∧ W.cell? ⟨p1,1,none⟩ = some (.slice a1 L c1)) (ho : zk[1]? = some o) : yg Tryz.prog zk Q a0 jY (Below wA.heap.size wA) (xX wA p1 V L m c1 pv lit a1 us P0) 1 o:=by
 obtain ⟨o',ho',hop,hdst,hg,hdep⟩:=zqw
 obtain rfl : o = o':=Option.some.inj (ho.symm.trans ho')
 intro l a w F hs h0 ha K hK
 have hd:=zB hdep ha
 have hsi : 1 < l.size:=by rw [hs];exact (Array.getElem?_eq_some_iff.1 ho).1
 obtain ⟨o_pf,po_pf,_,pd_pf,_⟩:=zqv
 obtain ⟨v_pf,e_pf,t_pf,g_pf⟩:=F.at_ po_pf pd_pf (hd 0 (by simp)) (zaV hs)
 obtain ⟨q1,q2⟩:=HC w F.base
 have g1 : v_pf = _:=g_pf
 rw [g1] at t_pf
 exact zx hg (v:=.int .i64 V) (w':=w) (by simp [go_sem,execOp,hop,t_pf,q1]) hK F.base rfl (fun j oj u hj _ _ _ _ _ h => xH (by decide) h)
theorem s22_4 (HC : ∀ W,Below wA.heap.size wA W → W.cell? ⟨p1,0,none⟩ = some (.int .i64 V) ∧ W.cell? ⟨p1,1,none⟩ = some (.slice a1 L c1)) (ho : zk[4]? = some o) : yg Tryz.prog zk Q a0 jY (Below wA.heap.size wA) (xX wA p1 V L m c1 pv lit a1 us P0) 4 o:=by
 obtain ⟨o',ho',hop,hdst,hg,hdep⟩:=zqd
 obtain rfl : o = o':=Option.some.inj (ho.symm.trans ho')
 intro l a w F hs h0 ha K hK
 have hd:=zB hdep ha
 have hsi : 4 < l.size:=by rw [hs];exact (Array.getElem?_eq_some_iff.1 ho).1
 obtain ⟨o_pf2,po_pf2,_,pd_pf2,_⟩:=zqs
 obtain ⟨v_pf2,e_pf2,t_pf2,g_pf2⟩:=F.at_ po_pf2 pd_pf2 (hd 3 (by simp)) (zaV hs)
 obtain ⟨q1,q2⟩:=HC w F.base
 have g1 : v_pf2 = _:=g_pf2
 rw [g1] at t_pf2
 exact zx hg (v:=.slice a1 L c1) (w':=w) (by simp [go_sem,execOp,hop,t_pf2,q2]) hK F.base rfl (fun j oj u hj _ _ _ _ _ h => xH (by decide) h)
theorem s22_6 (HC : ∀ W,Below wA.heap.size wA W → W.cell? ⟨p1,0,none⟩ = some (.int .i64 V) ∧ W.cell? ⟨p1,1,none⟩ = some (.slice a1 L c1)) (ho : zk[6]? = some o) : yg Tryz.prog zk Q a0 jY (Below wA.heap.size wA) (xX wA p1 V L m c1 pv lit a1 us P0) 6 o:=by
 obtain ⟨o',ho',hop,hdst,hg,hdep⟩:=zqp
 obtain rfl : o = o':=Option.some.inj (ho.symm.trans ho')
 intro l a w F hs h0 ha K hK
 have hd:=zB hdep ha
 have hsi : 6 < l.size:=by rw [hs];exact (Array.getElem?_eq_some_iff.1 ho).1
 obtain ⟨o_pf3,po_pf3,_,pd_pf3,_⟩:=zqA
 obtain ⟨v_pf3,e_pf3,t_pf3,g_pf3⟩:=F.at_ po_pf3 pd_pf3 (hd 5 (by simp)) (zaV hs)
 obtain ⟨q1,q2⟩:=HC w F.base
 have g1 : v_pf3 = _:=g_pf3
 rw [g1] at t_pf3
 exact zx hg (v:=.slice a1 L c1) (w':=w) (by simp [go_sem,execOp,hop,t_pf3,q2]) hK F.base rfl (fun j oj u hj _ _ _ _ _ h => xH (by decide) h)
theorem s22_7 (ho : zk[7]? = some o) : yg Tryz.prog zk Q a0 jY (Below wA.heap.size wA) (xX wA p1 V L m c1 pv lit a1 us P0) 7 o:=by
 obtain ⟨o',ho',hop,hdst,hg,hdep⟩:=zqx
 obtain rfl : o = o':=Option.some.inj (ho.symm.trans ho')
 intro l a w F hs h0 ha K hK
 have hd:=zB hdep ha
 have hsi : 7 < l.size:=by rw [hs];exact (Array.getElem?_eq_some_iff.1 ho).1
 obtain ⟨o_row2,po_row2,_,pd_row2,_⟩:=zqp
 obtain ⟨v_row2,e_row2,t_row2,g_row2⟩:=F.at_ po_row2 pd_row2 (hd 6 (by simp)) (zaV hs)
 have q_row2 : v_row2 = _:=g_row2
 rw [q_row2] at e_row2 t_row2
 exact zx hg (v:=.int .i64 L) (w':=w) (by simp [go_sem,execOp,hop,t_row2]) hK F.base rfl (fun j oj u hj _ _ _ _ _ h => xH (by decide) h)
theorem s22_8 (hm : m = min L 199) (ho : zk[8]? = some o) : yg Tryz.prog zk Q a0 jY (Below wA.heap.size wA) (xX wA p1 V L m c1 pv lit a1 us P0) 8 o:=by
 obtain ⟨o',ho',hop,hdst,hg,hdep⟩:=zqB
 obtain rfl : o = o':=Option.some.inj (ho.symm.trans ho')
 intro l a w F hs h0 ha K hK
 have hd:=zB hdep ha
 have hsi : 8 < l.size:=by rw [hs];exact (Array.getElem?_eq_some_iff.1 ho).1
 obtain ⟨o_len,po_len,_,pd_len,_⟩:=zqx
 obtain ⟨v_len,e_len,t_len,g_len⟩:=F.at_ po_len pd_len (hd 7 (by simp)) (zaV hs)
 have q_len : v_len = _:=g_len
 rw [q_len] at e_len t_len
 have hmin : min (L : Int) 199 = (m : Int):=by omega
 exact zx hg (v:=.int .i64 m) (w':=w) (by simp [go_sem,execOp,hop,t_len,hmin]) hK F.base rfl (fun j oj u hj _ _ _ _ _ h => xH (by decide) h)
theorem s22_9 (hm : m = min L 199) (hcL : L ≤ c1 ∧ c1 ≤ maxLen) (ho : zk[9]? = some o) : yg Tryz.prog zk Q a0 jY (Below wA.heap.size wA) (xX wA p1 V L m c1 pv lit a1 us P0) 9 o:=by
 obtain ⟨o',ho',hop,hdst,hg,hdep⟩:=zqr
 obtain rfl : o = o':=Option.some.inj (ho.symm.trans ho')
 intro l a w F hs h0 ha K hK
 have hd:=zB hdep ha
 have hsi : 9 < l.size:=by rw [hs];exact (Array.getElem?_eq_some_iff.1 ho).1
 obtain ⟨o_row,po_row,_,pd_row,_⟩:=zqd
 obtain ⟨v_row,e_row,t_row,g_row⟩:=F.at_ po_row pd_row (hd 4 (by simp)) (zaV hs)
 obtain ⟨o_min,po_min,_,pd_min,_⟩:=zqB
 obtain ⟨v_min,e_min,t_min,g_min⟩:=F.at_ po_min pd_min (hd 8 (by simp)) (zaV hs)
 have q_row : v_row = _:=g_row
 rw [q_row] at e_row t_row
 have q_min : v_min = _:=g_min
 rw [q_min] at e_min t_min
 have hm0 : (0 : Int) ≤ (m : Int):=by omega
 have hmc : (m : Int) ≤ (c1 : Int):=by omega
 exact zx hg (v:=.slice a1 m c1) (w':=w) (by simp [go_sem,execOp,hop,t_row,t_min,hm0,hmc]) hK F.base rfl (fun j oj u hj _ _ _ _ _ h => xH (by decide) h)
theorem zrx (h2 : a0.tmps[2]? = some (.int .i64 pv)) (ho : zk[11]? = some o) : yg Tryz.prog zk Q a0 jY (Below wA.heap.size wA) (xX wA p1 V L m c1 pv lit a1 us P0) 11 o:=by
 obtain ⟨o',ho',hop,hdst,hg,hdep⟩:=zoq
 obtain rfl : o = o':=Option.some.inj (ho.symm.trans ho')
 intro l a w F hs h0 ha K hK
 have hd:=zB hdep ha
 have hsi : 11 < l.size:=by rw [hs];exact (Array.getElem?_eq_some_iff.1 ho).1
 have e2:=F.old (d:=2) (by kernel_rfl) h2
 exact zx hg (v:=.int .i64 pv) (w':=w) (by simp [go_sem,execOp,hop,e2]) hK F.base rfl (fun j oj u hj _ _ _ _ _ h => xH (by decide) h)
theorem zrg (hlit : IntKind.i64.wrap ((pv : Int) + 1) = lit) (ho : zk[12]? = some o) : yg Tryz.prog zk Q a0 jY (Below wA.heap.size wA) (xX wA p1 V L m c1 pv lit a1 us P0) 12 o:=by
 obtain ⟨o',ho',hop,hdst,hg,hdep⟩:=zou
 obtain rfl : o = o':=Option.some.inj (ho.symm.trans ho')
 intro l a w F hs h0 ha K hK
 have hd:=zB hdep ha
 have hsi : 12 < l.size:=by rw [hs];exact (Array.getElem?_eq_some_iff.1 ho).1
 obtain ⟨o_mv,po_mv,_,pd_mv,_⟩:=zoq
 obtain ⟨v_mv,e_mv,t_mv,g_mv⟩:=F.at_ po_mv pd_mv (hd 11 (by simp)) (zaV hs)
 have q_mv : v_mv = _:=g_mv
 rw [q_mv] at e_mv t_mv
 exact zx hg (v:=.int .i64 lit) (w':=w) (by simp [go_sem,execOp,hop,t_mv,hlit]) hK F.base rfl (fun j oj u hj _ _ _ _ _ h => xH (by decide) h)
theorem s22_2 (ho : zk[2]? = some o) : yg Tryz.prog zk Q a0 jY (Below wA.heap.size wA) (xX wA p1 V L m c1 pv lit a1 us P0) 2 o:=by
 obtain ⟨o',ho',hop,hdst,hg,hdep⟩:=zp9
 obtain rfl : o = o':=Option.some.inj (ho.symm.trans ho')
 intro l a w F hs h0 ha K hK
 have hd:=zB hdep ha
 have hsi : 2 < l.size:=by rw [hs];exact (Array.getElem?_eq_some_iff.1 ho).1
 exact zx hg (v:=.slice (some ⟨w.heap.size,0,none⟩) 0 0) (w':=w.alloc (.cells #[] 64 (0,0))) (by simp [go_sem,execOp,hop]) hK (F.base.alloc F.base.size _) ⟨_,rfl,F.base.size,za rfl⟩ (fun j oj u hj _ _ _ _ _ h => xH (by decide) (zfU (bl1 (Below.refl _ _)) h))
theorem zqZ (ho : zk[13]? = some o) : yg Tryz.prog zk Q a0 jY (Below wA.heap.size wA) (xX wA p1 V L m c1 pv lit a1 us P0) 13 o:=by
 obtain ⟨o',ho',hop,hdst,hg,hdep⟩:=zos
 obtain rfl : o = o':=Option.some.inj (ho.symm.trans ho')
 intro l a w F hs h0 ha K hK
 have hd:=zB hdep ha
 have hsi : 13 < l.size:=by rw [hs];exact (Array.getElem?_eq_some_iff.1 ho).1
 obtain ⟨o_lit,po_lit,_,pd_lit,_⟩:=zou
 obtain ⟨v_lit,e_lit,t_lit,g_lit⟩:=F.at_ po_lit pd_lit (hd 12 (by simp)) (zaV hs)
 have q_lit : v_lit = _:=g_lit
 rw [q_lit] at e_lit t_lit
 exact zx hg (v:=.slice (some ⟨w.heap.size,0,none⟩) 1 1) (w':=w.alloc (.cells #[.int .i64 lit] 3 (0,0))) (by simp [go_sem,execOp,hop,t_lit]) hK (F.base.alloc F.base.size _) ⟨_,rfl,za rfl⟩ (fun j oj u hj _ _ _ _ _ h => xH (by decide) (zfU (bl1 (Below.refl _ _)) h))
theorem zq6 (ho : zk[14]? = some o) : yg Tryz.prog zk Q a0 jY (Below wA.heap.size wA) (xX wA p1 V L m c1 pv lit a1 us P0) 14 o:=by
 obtain ⟨o',ho',hop,hdst,hg,hdep⟩:=zoO
 obtain rfl : o = o':=Option.some.inj (ho.symm.trans ho')
 intro l a w F hs h0 ha K hK
 have hd:=zB hdep ha
 have hsi : 14 < l.size:=by rw [hs];exact (Array.getElem?_eq_some_iff.1 ho).1
 obtain ⟨o_ilit,po_ilit,_,pd_ilit,_⟩:=zos
 obtain ⟨v_ilit,e_ilit,t_ilit,g_ilit⟩:=F.at_ po_ilit pd_ilit (hd 13 (by simp)) (zaV hs)
 obtain ⟨g,rfl,q1⟩:=g_ilit
 exact zx hg (v:=.slice (some ⟨w.heap.size,0,none⟩) 1 1) (w':=w.alloc (.cells #[.slice (some ⟨g,0,none⟩) 1 1] 64 (0,0))) (by simp [go_sem,execOp,hop,t_ilit]) hK (F.base.alloc F.base.size _) ⟨_,g,rfl,za rfl,zh q1⟩ (fun j oj u hj _ _ _ _ _ h => xH (by decide) (zfU (bl1 (Below.refl _ _)) h))
theorem zqH (ho : zk[20]? = some o) : yg Tryz.prog zk Q a0 jY (Below wA.heap.size wA) (xX wA p1 V L m c1 pv lit a1 us P0) 20 o:=by
 obtain ⟨o',ho',hop,hdst,hg,hdep⟩:=zjx
 obtain rfl : o = o':=Option.some.inj (ho.symm.trans ho')
 intro l a w F hs h0 ha K hK
 have hd:=zB hdep ha
 have hsi : 20 < l.size:=by rw [hs];exact (Array.getElem?_eq_some_iff.1 ho).1
 have hns : l.getD 21 false = false:=by
  cases e : l.getD 21 false with
  | false => rfl
  | true =>
   obtain ⟨o_s,po_s,_,_,_,hdep_s⟩:=zoK
   exact absurd (F.closed _ _ po_s e _ hdep_s 20 (by simp)) (by rw [h0];decide)
 exact zx hg (v:=.pointer (some ⟨w.heap.size,0,none⟩)) (w':=w.alloc (.cells #[.bool false,.int .u64 0,.slice none 0 0] 56 (0,0))) (by simp [go_sem,execOp,hop]) hK (F.base.alloc F.base.size _) ⟨_,_,_,_,rfl,F.base.size,za rfl,fun h => absurd h (by rw [Array.getD_eq_getD_getElem?,Array.getElem?_setIfInBounds_ne (by decide),← Array.getD_eq_getD_getElem?,hns];decide)⟩ (fun j oj u hj _ _ _ _ _ h => xH (by decide) (zfU (bl1 (Below.refl _ _)) h))
theorem zqQ (ho : zk[17]? = some o) : yg Tryz.prog zk Q a0 jY (Below wA.heap.size wA) (xX wA p1 V L m c1 pv lit a1 us P0) 17 o:=by
 obtain ⟨o',ho',hop,hdst,hg,hdep⟩:=zjQ
 obtain rfl : o = o':=Option.some.inj (ho.symm.trans ho')
 intro l a w F hs h0 ha K hK
 have hd:=zB hdep ha
 have hsi : 17 < l.size:=by rw [hs];exact (Array.getElem?_eq_some_iff.1 ho).1
 obtain ⟨o_call,po_call,_,pd_call,_⟩:=znC
 obtain ⟨v_call,e_call,t_call,g_call⟩:=F.at_ po_call pd_call (hd 16 (by simp)) (zaV hs)
 obtain ⟨holds,vals,a8,n8,c8,rfl,hh⟩:=g_call
 exact zx hg (v:=.tuple #[.agg #[.bool holds,.int .u64 vals,.slice a8 n8 c8],.nilIface]) (w':=w) (by simp [go_sem,execOp,hop,t_call]) hK F.base ⟨holds,vals,a8,n8,c8,rfl,hh⟩ (fun j oj u hj _ _ _ _ _ h => xH (by decide) h)
theorem zqV (ho : zk[18]? = some o) : yg Tryz.prog zk Q a0 jY (Below wA.heap.size wA) (xX wA p1 V L m c1 pv lit a1 us P0) 18 o:=by
 obtain ⟨o',ho',hop,hdst,hg,hdep⟩:=zn7
 obtain rfl : o = o':=Option.some.inj (ho.symm.trans ho')
 intro l a w F hs h0 ha K hK
 have hd:=zB hdep ha
 have hsi : 18 < l.size:=by rw [hs];exact (Array.getElem?_eq_some_iff.1 ho).1
 obtain ⟨o_mv2,po_mv2,_,pd_mv2,_⟩:=zjQ
 obtain ⟨v_mv2,e_mv2,t_mv2,g_mv2⟩:=F.at_ po_mv2 pd_mv2 (hd 17 (by simp)) (zaV hs)
 obtain ⟨holds,vals,a8,n8,c8,rfl,hh⟩:=g_mv2
 exact zx hg (v:=.agg #[.bool holds,.int .u64 vals,.slice a8 n8 c8]) (w':=w) (by simp [go_sem,execOp,hop,t_mv2]) hK F.base ⟨holds,vals,a8,n8,c8,rfl,hh⟩ (fun j oj u hj _ _ _ _ _ h => xH (by decide) h)
theorem zrf (ho : zk[19]? = some o) : yg Tryz.prog zk Q a0 jY (Below wA.heap.size wA) (xX wA p1 V L m c1 pv lit a1 us P0) 19 o:=by
 obtain ⟨o',ho',hop,hdst,hg,hdep⟩:=zof
 obtain rfl : o = o':=Option.some.inj (ho.symm.trans ho')
 intro l a w F hs h0 ha K hK
 have hd:=zB hdep ha
 have hsi : 19 < l.size:=by rw [hs];exact (Array.getElem?_eq_some_iff.1 ho).1
 obtain ⟨o_mv2,po_mv2,_,pd_mv2,_⟩:=zjQ
 obtain ⟨v_mv2,e_mv2,t_mv2,g_mv2⟩:=F.at_ po_mv2 pd_mv2 (hd 17 (by simp)) (zaV hs)
 obtain ⟨holds,vals,a8,n8,c8,rfl,hh⟩:=g_mv2
 exact zx hg (v:=.nilIface) (w':=w) (by simp [go_sem,execOp,hop,t_mv2]) hK F.base rfl (fun j oj u hj _ _ _ _ _ h => xH (by decide) h)
theorem zrK (ho : zk[22]? = some o) : yg Tryz.prog zk Q a0 jY (Below wA.heap.size wA) (xX wA p1 V L m c1 pv lit a1 us P0) 22 o:=by
 obtain ⟨o',ho',hop,hdst,hg,hdep⟩:=zn8
 obtain rfl : o = o':=Option.some.inj (ho.symm.trans ho')
 intro l a w F hs h0 ha K hK
 have hd:=zB hdep ha
 have hsi : 22 < l.size:=by rw [hs];exact (Array.getElem?_eq_some_iff.1 ho).1
 obtain ⟨o_x1,po_x1,_,pd_x1,_⟩:=zof
 obtain ⟨v_x1,e_x1,t_x1,g_x1⟩:=F.at_ po_x1 pd_x1 (hd 19 (by simp)) (zaV hs)
 have q_x1 : v_x1 = _:=g_x1
 rw [q_x1] at e_x1 t_x1
 exact zx hg (v:=.nilIface) (w':=w) (by simp [go_sem,execOp,hop,t_x1]) hK F.base rfl (fun j oj u hj _ _ _ _ _ h => xH (by decide) h)
theorem zrc (hm : m = min L 199) (hul : us.length = L) (hcL : L ≤ c1 ∧ c1 ≤ maxLen) (HU : ∀ W,Below wA.heap.size wA W → ∀ (j : Nat) (u : Value),(us.take m)[j]? = some u → ∃ b o,a1 = some ⟨b,o,none⟩ ∧ W.cell? ⟨b,o + j,none⟩ = some u) (HU1 : ∀ u ∈ us.take m,u.oneCell' = true) (ho : zk[10]? = some o) : yg Tryz.prog zk Q a0 jY (Below wA.heap.size wA) (xX wA p1 V L m c1 pv lit a1 us P0) 10 o:=by
 obtain ⟨o',ho',hop,hdst,hg,hdep⟩:=zoc
 obtain rfl : o = o':=Option.some.inj (ho.symm.trans ho')
 intro l a w F hs h0 ha K hK
 have hd:=zB hdep ha
 have hsi : 10 < l.size:=by rw [hs];exact (Array.getElem?_eq_some_iff.1 ho).1
 obtain ⟨o_emp,po_emp,_,pd_emp,_⟩:=zp9
 obtain ⟨v_emp,e_emp,t_emp,g_emp⟩:=F.at_ po_emp pd_emp (hd 2 (by simp)) h0
 obtain ⟨o_cut,po_cut,_,pd_cut,_⟩:=zqr
 obtain ⟨v_cut,e_cut,t_cut,g_cut⟩:=F.at_ po_cut pd_cut (hd 9 (by simp)) (zaV hs)
 obtain ⟨g,rfl,q1,q2⟩:=g_emp
 have q_cut : v_cut = _:=g_cut
 rw [q_cut] at e_cut
 have hUl : (us.take m).length = m:=by rw [List.length_take];omega
 refine zb9 hg (.tmp 126) (.tmp 133) hop wA.heap.size _ [] e_emp (zfF q1 q2) a1 m c1 e_cut (us.take m) hUl (fun j u hu => HU w F.base j u hu) HU1 (by simp;omega) F.base.size (fun v' w' hr hb hk => ?_)
 refine hK v' w' (F.base.trans hb) (by rw [List.nil_append] at hr;exact hr) (fun j oj u hj _ h1 h2 h3 _ h => xH (by decide) ?_)
 refine zrB q2 (fun k hk1 hk2 => hk k hk1 (own_ne (Ne.symm hk2))) ⟨fun e => h3 (by rw [e];rfl),hj,fun e => ?_⟩ (.inl ⟨rfl,rfl⟩) (fun e => absurd e (by decide)) h
 subst e
 obtain ⟨o_s,po_s,_,_,_,hdep_s⟩:=zkv
 exact absurd (F.closed _ _ po_s h1 _ hdep_s 10 (by simp)) (by rw [h0];decide)
theorem zrl (hm : m = min L 199) (hul : us.length = L) (hcL : L ≤ c1 ∧ c1 ≤ maxLen) (ho : zk[15]? = some o) : yg Tryz.prog zk Q a0 jY (Below wA.heap.size wA) (xX wA p1 V L m c1 pv lit a1 us P0) 15 o:=by
 obtain ⟨o',ho',hop,hdst,hg,hdep⟩:=zkv
 obtain rfl : o = o':=Option.some.inj (ho.symm.trans ho')
 intro l a w F hs h0 ha K hK
 have hd:=zB hdep ha
 have hsi : 15 < l.size:=by rw [hs];exact (Array.getElem?_eq_some_iff.1 ho).1
 obtain ⟨o_app1,po_app1,_,pd_app1,_⟩:=zoc
 obtain ⟨v_app1,e_app1,t_app1,g_app1⟩:=F.at_ po_app1 pd_app1 (hd 10 (by simp)) h0
 obtain ⟨o_clit,po_clit,_,pd_clit,_⟩:=zoO
 obtain ⟨v_clit,e_clit,t_clit,g_clit⟩:=F.at_ po_clit pd_clit (hd 14 (by simp)) h0
 obtain ⟨q,g,rfl,q1,q2⟩:=g_clit
 have hr1 : zo w wA.heap.size 64 1 qI v_app1 (us.take m):=g_app1
 have hUl : (us.take m).length = m:=by rw [List.length_take];omega
 refine zbK hg (.tmp 134) (.tmp 138) hop wA.heap.size _ _ e_app1 hr1 q e_clit _ q1 rfl (m + 1) (by rw [hUl]) (by rw [hUl];omega) F.base.size (fun g' cap w' hr hb hk => ?_)
 refine hK _ w' (F.base.trans hb) ⟨g,hr,zhR hr1 hk q2 (by decide)⟩ (fun j oj u hj hoj h1 h2 h3 _ h => xH (by decide) ?_)
 have kk : ∀ {b : Nat} {cs : Array Value} {T' : TypeId},T' ≠ 64 → w.heap[b]? = some (.cells cs T' (0,0)) → w'.heap[b]? = some (.cells cs T' (0,0)):=fun {b cs T'} hne e => zhR hr1 hk e hne
 by_cases c2 : j = 2
 · subst c2;exact absurd h2 (by rw [show jY 2 = 10 from rfl,hd 10 (by simp)];decide)
 by_cases c4 : j = 13
 · subst c4;obtain ⟨g,e1,e2⟩:=h;exact ⟨g,e1,kk (by decide) e2⟩
 by_cases c7 : j = 20
 · subst c7;obtain ⟨blk,x0,x1,x2,e1,e2,e3,e4⟩:=h;exact ⟨blk,x0,x1,x2,e1,e2,kk (by decide) e3,e4⟩
 by_cases c3 : j = 10
 · subst c3;exact absurd rfl h3
 by_cases c5 : j = 14
 · subst c5;exact absurd rfl h3
 unfold xX at h ⊢
 split at h <;> first | exact h | (exfalso;first | exact c2 rfl | exact c3 rfl | exact c4 rfl | exact c5 rfl | exact c7 rfl | exact hj rfl) | trivial
theorem zqJ (HAll : ∀ W,Below wA.heap.size wA W → yG (fun v c => yM W 0 v c) us ls) (hgd : Good (V : Int) ls) (hV : V ≤ 10) (hm : m ≤ 199) (hx : lit ≠ 0 ∧ -(V : Int) ≤ lit ∧ lit ≤ V) (hP : P0 ↔ zcz (ls.take m ++ [[lit]])) (ho : zk[16]? = some o) : yg Tryz.prog zk Q a0 jY (Below wA.heap.size wA) (xX wA p1 V L m c1 pv lit a1 us P0) 16 o:=by
 obtain ⟨o',ho',hop,hdst,hg,hdep⟩:=znC
 obtain rfl : o = o':=Option.some.inj (ho.symm.trans ho')
 intro l a w F hs h0 ha K hK
 have hd:=zB hdep ha
 have hsi : 16 < l.size:=by rw [hs];exact (Array.getElem?_eq_some_iff.1 ho).1
 obtain ⟨o_V,po_V,_,pd_V,_⟩:=zqw
 obtain ⟨v_V,e_V,t_V,g_V⟩:=F.at_ po_V pd_V (hd 1 (by simp)) (zaV hs)
 obtain ⟨o_app2,po_app2,_,pd_app2,_⟩:=zkv
 obtain ⟨v_app2,e_app2,t_app2,g_app2⟩:=F.at_ po_app2 pd_app2 (hd 15 (by simp)) h0
 obtain ⟨g,q1,q2⟩:=g_app2
 have q_V : v_V = _:=g_V
 rw [q_V] at e_V t_V
 have hc:=ziB (W:=w) q1 (HAll w F.base) q2 hgd hV hm hx (Below.refl _ _)
 have hw : Region.wanted o (yielded zk a.tmps) = true:=by unfold Region.wanted;rw [hg]
 rw [if_pos hw]
 have hr : (execOp a.eval o).run Tryz.prog w = .ok (.enter 21 #[.int .i64 V,v_app2]) w:=by simp [go_sem,execOp,hop,t_V,t_app2]
 unfold Oper.wp
 rw [hr,Oper.upon_enter]
 refine hc.mono ?_
 rintro e w' ⟨⟨holds,vals,a8,n8,c8,rfl,h8⟩,hb⟩
 exact hK _ w' (F.base.trans (hb.mono F.base.size)) ⟨holds,vals,a8,n8,c8,rfl,by rw [hP];exact h8⟩ (fun j oj u hj _ _ _ _ _ h => xH (by decide) (zfU hb h))
theorem zqY (ho : zk[21]? = some o) : yg Tryz.prog zk Q a0 jY (Below wA.heap.size wA) (xX wA p1 V L m c1 pv lit a1 us P0) 21 o:=by
 obtain ⟨o',ho',hop,hdst,hg,hdep⟩:=zoK
 obtain rfl : o = o':=Option.some.inj (ho.symm.trans ho')
 intro l a w F hs h0 ha K hK
 have hd:=zB hdep ha
 have hsi : 21 < l.size:=by rw [hs];exact (Array.getElem?_eq_some_iff.1 ho).1
 obtain ⟨o_alloc,po_alloc,_,pd_alloc,_⟩:=zjx
 obtain ⟨v_alloc,e_alloc,t_alloc,g_alloc⟩:=F.at_ po_alloc pd_alloc (hd 20 (by simp)) (zaV hs)
 obtain ⟨o_x0,po_x0,_,pd_x0,_⟩:=zn7
 obtain ⟨v_x0,e_x0,t_x0,g_x0⟩:=F.at_ po_x0 pd_x0 (hd 18 (by simp)) (zaV hs)
 obtain ⟨blk,c0,c1',c2,rfl,q1,q2,_⟩:=g_alloc
 obtain ⟨holds,vals,a8,n8,c8,rfl,h8⟩:=g_x0
 obtain ⟨f0,f1,f2⟩:=zfY q2
 obtain ⟨z0,z1,z2⟩:=yR q2
 have hlt:=(Array.getElem?_eq_some_iff.1 q2).1
 refine zfq hg (w':=((w.setCell ⟨blk,0,none⟩ (.bool holds)).setCell ⟨blk,1,none⟩ (.int .u64 vals)).setCell ⟨blk,2,none⟩ (.slice a8 n8 c8)) (by simp [go_sem,execOp,hop,t_alloc,t_x0,f0,f1,f2,z0,z1,z2]) hK (F.base.trans (xK q1 _ _ _)) trivial (fun j oj u hj hoj h1 h2 h3 hu h => ?_)
 by_cases c7 : j = 20
 ·
  subst c7
  have hju : u = .pointer (some ⟨blk,0,none⟩):=by
   obtain rfl : oj = o_alloc:=Option.some.inj (hoj.symm.trans po_alloc)
   exact Option.some.inj ((hu _ pd_alloc).symm.trans t_alloc)
  exact ⟨blk,_,_,_,hju,q1,zdk q2 _ _ _,fun _ => ⟨holds,vals,a8,n8,c8,rfl,rfl,rfl,h8⟩⟩
 ·
  refine zpk (l:=l) c7 ?_
  exact zq5 (z:=blk) q2 (by decide) (fun k hk1 hk2 => by rw [zhc _ _ _ _ (by exact hk2),zhc _ _ _ _ (by exact hk2),zhc _ _ _ _ (by exact hk2)]) c7 h
end
theorem lat22 : zcL zk = true:=by kernel_rfl
theorem dst22 : zeP zk 206 = true:=by kernel_rfl
theorem zrt : znB zk = [124,125,126,127,128,129,130,131,132,133,134,135,136,137,138,139,140,123,141,142,21,15]:=by kernel_rfl
set_option maxRecDepth 100000 in
set_option maxHeartbeats 4000000 in
theorem zlY {u0 u1 u3 u4 u5 u6 u7 u9 u10 u11 u12 u13 u14 u15 u16 u17 u18 u19 u20 u21 u22 u23 u24 u25 u26 u27 u28 u29 u30 u31 u32 u33 u34 u35 u36 u37 u38 u39 u40 u41 u42 u43 u44 u45 u46 u47 u48 u49 u50 u51 u52 u53 u54 u55 u56 u57 u58 u59 u60 u61 u62 u63 u64 u65 u66 u67 u68 u69 u70 u71 u72 u73 u74 u75 u76 u77 u78 u79 u80 u81 u82 u83 u84 u85 u86 u87 u88 u89 u90 u91 u92 u93 u94 u95 u96 u97 u98 u99 u100 u101 u102 u103 u104 u105 u106 u107 u108 u109 u110 u111 u112 u113 u114 u115 u116 u117 u118 u119 u120 u121 u122 u123 u124 u125 u126 u127 u128 u129 u130 u131 u132 u133 u134 u135 u136 u137 u138 u139 u140 u141 u142 u143 u144 u145 u146 u147 u148 u149 u150 u151 u152 u153 u154 u155 u156 u157 u158 u159 u160 u161 u162 u163 u164 u165 u166 u167 u168 u169 u170 u171 u172 u173 u174 u175 u176 u177 u178 u179 u180 u181 u182 u183 u184 u185 u186 u187 u188 u189 u190 u191 u192 u193 u194 u195 u196 u197 u198 u199 u200 u201 u202 u203 u204 u205 : Value} {Q : Exit → Act → World → Prop} (a1 : Option Addr) (L c1 V m m1 pv p1 : Nat) (us : List Value) (ls : List (List Int)) (wA : World)
 (hm : m = min L 199) (hm1 : m1 = m + 1) (hul : us.length = L) (hcL : L ≤ c1 ∧ c1 ≤ maxLen)
 (HC : ∀ W,Below wA.heap.size wA W → W.cell? ⟨p1,0,none⟩ = some (.int .i64 V) ∧ W.cell? ⟨p1,1,none⟩ = some (.slice a1 L c1))
 (HU : ∀ W,Below wA.heap.size wA W → ∀ (j : Nat) (u : Value),(us.take m)[j]? = some u → ∃ b o,a1 = some ⟨b,o,none⟩ ∧ W.cell? ⟨b,o + j,none⟩ = some u)
 (HU1 : ∀ u ∈ us.take m,u.oneCell' = true) (HAll : ∀ W,Below wA.heap.size wA W → yG (fun v c => yM W 0 v c) us ls) (hg : Good (V : Int) ls) (hV : V ≤ 10) (hpl : pv < V)
 (hQ : ∀ (x123 x124 x125 x126 x127 x128 x129 x130 x131 x132 x133 x134 x135 x136 x137 x138 x139 x140 x141 x142 : Value) (blk : Nat) (holds : Bool) (vals : Nat) (a8 : Option Addr) (n8 c8 : Nat) (wz : World),wz.heap[blk]? = some (.cells #[.bool holds,.int .u64 vals,.slice a8 n8 c8] 56 (0,0)) → Below wA.heap.size wA wz → (holds = true ↔ zcz (ls.take m ++ [[(pv : Int) + 1]])) → Q .normal ⟨#[u0,u1,.int .i64 pv,u3,u4,u5,u6,u7,.pointer (some ⟨p1,0,none⟩),u9,u10,u11,u12,u13,u14,.nilIface,u16,u17,u18,u19,u20,.pointer (some ⟨blk,0,none⟩),u22,u23,u24,u25,u26,u27,u28,u29,u30,u31,u32,u33,u34,u35,u36,u37,u38,u39,u40,u41,u42,u43,u44,u45,u46,u47,u48,u49,u50,u51,u52,u53,u54,u55,u56,u57,u58,u59,u60,u61,u62,u63,u64,u65,u66,u67,u68,u69,u70,u71,u72,u73,u74,u75,u76,u77,u78,u79,u80,u81,u82,u83,u84,u85,u86,u87,u88,u89,u90,u91,u92,u93,u94,u95,u96,u97,u98,u99,u100,u101,u102,u103,u104,u105,u106,u107,u108,u109,u110,u111,u112,u113,u114,u115,u116,u117,u118,u119,u120,u121,u122,x123,x124,x125,x126,x127,x128,x129,x130,x131,x132,x133,x134,x135,x136,x137,x138,x139,x140,x141,x142,u143,u144,u145,u146,u147,u148,u149,u150,u151,u152,u153,u154,u155,u156,u157,u158,u159,u160,u161,u162,u163,u164,u165,u166,u167,u168,u169,u170,u171,u172,u173,u174,u175,u176,u177,u178,u179,u180,u181,u182,u183,u184,u185,u186,u187,u188,u189,u190,u191,u192,u193,u194,u195,u196,u197,u198,u199,u200,u201,u202,u203,u204,u205],[]⟩ wz) :
 (Code.region 22 zk true).wp Tryz.prog Q ⟨#[u0,u1,.int .i64 pv,u3,u4,u5,u6,u7,.pointer (some ⟨p1,0,none⟩),u9,u10,u11,u12,u13,u14,u15,u16,u17,u18,u19,u20,u21,u22,u23,u24,u25,u26,u27,u28,u29,u30,u31,u32,u33,u34,u35,u36,u37,u38,u39,u40,u41,u42,u43,u44,u45,u46,u47,u48,u49,u50,u51,u52,u53,u54,u55,u56,u57,u58,u59,u60,u61,u62,u63,u64,u65,u66,u67,u68,u69,u70,u71,u72,u73,u74,u75,u76,u77,u78,u79,u80,u81,u82,u83,u84,u85,u86,u87,u88,u89,u90,u91,u92,u93,u94,u95,u96,u97,u98,u99,u100,u101,u102,u103,u104,u105,u106,u107,u108,u109,u110,u111,u112,u113,u114,u115,u116,u117,u118,u119,u120,u121,u122,u123,u124,u125,u126,u127,u128,u129,u130,u131,u132,u133,u134,u135,u136,u137,u138,u139,u140,u141,u142,u143,u144,u145,u146,u147,u148,u149,u150,u151,u152,u153,u154,u155,u156,u157,u158,u159,u160,u161,u162,u163,u164,u165,u166,u167,u168,u169,u170,u171,u172,u173,u174,u175,u176,u177,u178,u179,u180,u181,u182,u183,u184,u185,u186,u187,u188,u189,u190,u191,u192,u193,u194,u195,u196,u197,u198,u199,u200,u201,u202,u203,u204,u205],[]⟩ wA:=by
 have hwr : IntKind.i64.wrap ((pv : Int) + 1) = (pv : Int) + 1:=by simp only [IntKind.wrap_i64];omega
 have hm9 : m ≤ 199:=by omega
 have hx : ((pv : Int) + 1) ≠ 0 ∧ -(V : Int) ≤ ((pv : Int) + 1) ∧ ((pv : Int) + 1) ≤ V:=by omega
 obtain ⟨a0,ha0⟩ : ∃ a0 : Act,a0 = ⟨#[u0,u1,.int .i64 pv,u3,u4,u5,u6,u7,.pointer (some ⟨p1,0,none⟩),u9,u10,u11,u12,u13,u14,u15,u16,u17,u18,u19,u20,u21,u22,u23,u24,u25,u26,u27,u28,u29,u30,u31,u32,u33,u34,u35,u36,u37,u38,u39,u40,u41,u42,u43,u44,u45,u46,u47,u48,u49,u50,u51,u52,u53,u54,u55,u56,u57,u58,u59,u60,u61,u62,u63,u64,u65,u66,u67,u68,u69,u70,u71,u72,u73,u74,u75,u76,u77,u78,u79,u80,u81,u82,u83,u84,u85,u86,u87,u88,u89,u90,u91,u92,u93,u94,u95,u96,u97,u98,u99,u100,u101,u102,u103,u104,u105,u106,u107,u108,u109,u110,u111,u112,u113,u114,u115,u116,u117,u118,u119,u120,u121,u122,u123,u124,u125,u126,u127,u128,u129,u130,u131,u132,u133,u134,u135,u136,u137,u138,u139,u140,u141,u142,u143,u144,u145,u146,u147,u148,u149,u150,u151,u152,u153,u154,u155,u156,u157,u158,u159,u160,u161,u162,u163,u164,u165,u166,u167,u168,u169,u170,u171,u172,u173,u174,u175,u176,u177,u178,u179,u180,u181,u182,u183,u184,u185,u186,u187,u188,u189,u190,u191,u192,u193,u194,u195,u196,u197,u198,u199,u200,u201,u202,u203,u204,u205],[]⟩:=⟨_,rfl⟩
 have h8 : a0.tmps[8]? = some (.pointer (some ⟨p1,0,none⟩)):=by rw [ha0];rfl
 have h2 : a0.tmps[2]? = some (.int .i64 pv):=by rw [ha0];rfl
 have hsz : a0.tmps.size = 206:=by rw [ha0];rfl
 rw [← ha0]
 have key : ∀ i,i < 23 → ∀ o,zk[i]? = some o → yg Tryz.prog zk Q a0 jY (Below wA.heap.size wA) (xX wA p1 V L m c1 pv ((pv : Int) + 1) a1 us (zcz (ls.take m ++ [[(pv : Int) + 1]]))) i o:=fun i hi => match i,hi with
  | 0,_ => fun o ho => s22_0 h8 ho
  | 1,_ => fun o ho => s22_1 HC ho
  | 2,_ => fun o ho => s22_2  ho
  | 3,_ => fun o ho => s22_3 h8 ho
  | 4,_ => fun o ho => s22_4 HC ho
  | 5,_ => fun o ho => s22_5 h8 ho
  | 6,_ => fun o ho => s22_6 HC ho
  | 7,_ => fun o ho => s22_7  ho
  | 8,_ => fun o ho => s22_8 hm ho
  | 9,_ => fun o ho => s22_9 hm hcL ho
  | 10,_ => fun o ho => zrc hm hul hcL HU HU1 ho
  | 11,_ => fun o ho => zrx h2 ho
  | 12,_ => fun o ho => zrg hwr ho
  | 13,_ => fun o ho => zqZ  ho
  | 14,_ => fun o ho => zq6  ho
  | 15,_ => fun o ho => zrl hm hul hcL ho
  | 16,_ => fun o ho => zqJ HAll hg hV hm9 hx Iff.rfl ho
  | 17,_ => fun o ho => zqQ  ho
  | 18,_ => fun o ho => zqV  ho
  | 19,_ => fun o ho => zrf  ho
  | 20,_ => fun o ho => zqH  ho
  | 21,_ => fun o ho => zqY  ho
  | 22,_ => fun o ho => zrK  ho
  | k + 23,h => absurd h (by omega)
 refine zbx jY (Below wA.heap.size wA) (xX wA p1 V L m c1 pv ((pv : Int) + 1) a1 us (zcz (ls.take m ++ [[(pv : Int) + 1]]))) (by kernel_rfl) lat22 (by rw [hsz];exact dst22) (Below.refl _ wA).drew (zhD fun i o ho => ?_) (fun l a w' hall hs F => ?_)
 ·
  have ho' : zk[i]? = some o:=by simpa using ho
  have hi:=(Array.getElem?_eq_some_iff.1 ho').1
  rw [zb2] at hi
  rw [Nat.zero_add]
  exact key i hi o ho'
 ·
  obtain ⟨o1,q1,_,q2,_⟩:=zjx
  obtain ⟨v1,_,t1,g1⟩:=F.at_ q1 q2 (hall _ (by rw [zb2];decide)) (zaV hs)
  obtain ⟨blk,c0,c1',c2,rfl,e2,e3,e4⟩:=g1
  obtain ⟨holds,vals,a8,n8,c8,rfl,rfl,rfl,h8'⟩:=e4 (hall _ (by rw [zb2];decide))
  obtain ⟨o2,q3,_,q4,_⟩:=zn8
  obtain ⟨v2,_,t2,g2⟩:=F.at_ q3 q4 (hall _ (by rw [zb2];decide)) (zaV hs)
  have g2' : v2 = .nilIface:=g2
  subst g2'
  have k1 : a.tmps.getD 21 undef = .pointer (some ⟨blk,0,none⟩):=by rw [Array.getD_eq_getD_getElem?,t1];rfl
  have k2 : a.tmps.getD 15 undef = .nilIface:=by rw [Array.getD_eq_getD_getElem?,t2];rfl
  have fr:=F.frame
  rw [zrt] at fr
  simp only [List.foldl,k1,k2] at fr
  generalize a.tmps.getD 124 undef = x124 at fr
  generalize a.tmps.getD 125 undef = x125 at fr
  generalize a.tmps.getD 126 undef = x126 at fr
  generalize a.tmps.getD 127 undef = x127 at fr
  generalize a.tmps.getD 128 undef = x128 at fr
  generalize a.tmps.getD 129 undef = x129 at fr
  generalize a.tmps.getD 130 undef = x130 at fr
  generalize a.tmps.getD 131 undef = x131 at fr
  generalize a.tmps.getD 132 undef = x132 at fr
  generalize a.tmps.getD 133 undef = x133 at fr
  generalize a.tmps.getD 134 undef = x134 at fr
  generalize a.tmps.getD 135 undef = x135 at fr
  generalize a.tmps.getD 136 undef = x136 at fr
  generalize a.tmps.getD 137 undef = x137 at fr
  generalize a.tmps.getD 138 undef = x138 at fr
  generalize a.tmps.getD 139 undef = x139 at fr
  generalize a.tmps.getD 140 undef = x140 at fr
  generalize a.tmps.getD 123 undef = x123 at fr
  generalize a.tmps.getD 141 undef = x141 at fr
  generalize a.tmps.getD 142 undef = x142 at fr
  rw [ha0] at fr
  simp only [Act.put,List.setIfInBounds_toArray,List.set_cons_zero,List.set_cons_succ] at fr
  rw [fr]
  exact hQ x123 x124 x125 x126 x127 x128 x129 x130 x131 x132 x133 x134 x135 x136 x137 x138 x139 x140 x141 x142 blk holds vals a8 n8 c8 w' e3 F.base h8'
