import Derived.Deep.RegionHeld
import Derived.Test.YtmlfelbkgoplhaaGreatDoorZfLineW
import Derived.Test.YtmlfelbkgoplhaaGreatDoorZfNewW
set_option linter.unusedVariables false
namespace Go.Proofs.YtmlfelbkgoplhaaGreatDoor
open Go.RowKit
variable {P : Program} {ops : Array Oper} {Q : Exit → Act → World → Prop} {md : Region.Mode} {S : World → Prop} {D : Nat → Bool}
def jB (P : Program) (md : Region.Mode) (ops : Array Oper) (Q : Exit → Act → World → Prop) (S : World → Prop) (D : Nat → Bool) : Nat → Array Bool → Act → World → Prop
 | 0,listed,a,w => Region.ready md ops listed = [] ∧ Q .normal a w
 | fuel + 1,listed,a,w =>
  (Region.ready md ops listed = [] → Q .normal a w) ∧
  ∀ i ∈ Region.ready md ops listed,wpOp P ops Q i (fun a' w' => (D i = true ∨ S w') ∧ jB P md ops Q S D fuel (listed.setIfInBounds i true) a' w') a w
theorem zbf : ∀ (fuel : Nat) (listed : Array Bool) (a : Act) (w : World),jB P md ops Q S D fuel listed a w → wpAny P md ops Q fuel listed a w
 | 0,_,_,_,h => h
 | fuel + 1,_,_,_,h => ⟨h.1,fun i hi => wpOp_mono (fun a' w' h' => zbf fuel _ a' w' h'.2) (h.2 i hi)⟩
def zaU (md : Region.Mode) (ops : Array Oper) (i : Nat) : Nat → Nat → Bool
 | 0,_ => false
 | f + 1,j => match ops[j]? with | some o => o.after.any fun e => Region.binds md e && (e.on == i || zaU md ops i f e.on) | none => false
def Closed (md : Region.Mode) (ops : Array Oper) (listed : Array Bool) : Prop:=∀ (j : Nat) (oj : Oper),ops[j]? = some oj → listed[j]?.getD false = true → ∀ e ∈ oj.after,Region.binds md e = true → listed[e.on]?.getD false = true
def zhS (md : Region.Mode) (ops : Array Oper) (listed : Array Bool) : Bool:=(List.range ops.size).all fun j => !(listed[j]?.getD false) || (match ops[j]? with | some o => o.after.all fun e => !Region.binds md e || listed[e.on]?.getD false | none => true)
theorem zmO {listed : Array Bool} (h : zhS md ops listed = true) : Closed md ops listed:=by
 intro j oj hj hl e he hb
 have hlt : j < ops.size:=(Array.getElem?_eq_some_iff.1 hj).1
 have:=List.all_eq_true.1 h j (List.mem_range.2 hlt)
 rw [hl,hj] at this
 simp only [Bool.not_true,Bool.false_or] at this
 have h2:=Array.all_eq_true'.1 this e he
 rwa [hb,Bool.not_true,Bool.false_or] at h2
theorem zjb {l : Array Bool} {j k : Nat} (h : l[k]?.getD false = true) : (l.setIfInBounds j true)[k]?.getD false = true:=by
 rw [Array.getElem?_setIfInBounds]
 split
 ·
  rename_i e
  subst e
  split
  · rfl
  ·
   rename_i hk
   simp [Array.getElem?_eq_none (Nat.not_lt.1 hk)] at h
 · exact h
theorem zdl {i : Nat} {listed : Array Bool} (hc : Closed md ops listed) : ∀ (f j : Nat) (oj : Oper),ops[j]? = some oj → (∀ e ∈ oj.after,Region.binds md e = true → listed[e.on]?.getD false = true) → zaU md ops i f j = true → listed[i]?.getD false = true
 | 0,j,oj,_,_,h => by cases h
 | f + 1,j,oj,hj,ha,h => by
  unfold zaU at h
  rw [hj] at h
  simp only [Array.any_eq_true] at h
  obtain ⟨k,hk,h2⟩:=h
  simp only [Bool.and_eq_true,Bool.or_eq_true,beq_iff_eq] at h2
  obtain ⟨hb,h3⟩:=h2
  have hon:=ha _ (Array.getElem_mem hk) hb
  rcases h3 with h3 | h3
  · rw [← h3];exact hon
  ·
   cases ho : ops[oj.after[k].on]? with
   | none =>
    cases f with
    | zero => cases h3
    | succ f => unfold zaU at h3;rw [ho] at h3;cases h3
   | some ok => exact zdl hc f _ ok ho (fun e he hb => hc _ ok ho hon e he hb) h3
def waitsFor (md : Region.Mode) (ops : Array Oper) (D : Nat → Bool) (i : Nat) : Bool:=(List.range ops.size).all fun j => !D j || zaU md ops i ops.size j
theorem waitsFor_spec {i : Nat} (h : waitsFor md ops D i = true) {j : Nat} {oj : Oper} (hj : ops[j]? = some oj) (hd : D j = true) : zaU md ops i ops.size j = true:=by
 have hlt : j < ops.size:=(Array.getElem?_eq_some_iff.1 hj).1
 have:=List.all_eq_true.1 h j (List.mem_range.2 hlt)
 rwa [hd,Bool.not_true,Bool.false_or] at this
theorem zhU {i : Nat} {oi : Oper} {v : Value} (hi : ops[i]? = some oi) (hsel : ∀ (j : Nat) (o : Oper) cs b,ops[j]? = some o → o.op ≠ .select cs b) (hD : waitsFor md ops D i = true)
 (hQ : ∀ c a w,Q (.panic c) (a.put oi.dst v) w → Q (.panic c) a w) :
 ∀ (fuel : Nat) (listed : Array Bool) (a : Act) (w : World),
  (∀ j oj,ops[j]? = some oj → j ≠ i → listed.getD j true = false → (∀ e ∈ oj.after,Region.binds md e = true → e.on ≠ i) → oi.apart ops oj = true) →
  i ∈ Region.ready md ops listed → YieldsIf P ops S oi v a → S w → Closed md ops listed →
  jB P md ops Q S D fuel (listed.setIfInBounds i true) (a.put oi.dst v) w → jB P md ops Q S D (fuel + 1) listed a w:=by
 intro fuel
 induction fuel with
 | zero =>
  intro listed a w _ hr hy hS hcl H
  refine ⟨fun h => (by rw [h] at hr;cases hr),fun j hj => ?_⟩
  by_cases hji : j = i
  · subst hji;exact hy.wpOp hi hS ⟨.inr hS,H⟩
  ·
   have:=ready_mono hj hji
   rw [H.1] at this
   cases this
 | succ fuel ih =>
  intro listed a w hfree hr hy hS hcl H
  refine ⟨fun h => (by rw [h] at hr;cases hr),fun j hj => ?_⟩
  by_cases hji : j = i
  · subst hji;exact hy.wpOp hi hS ⟨.inr hS,H⟩
  ·
   have h1:=H.2 j (ready_mono hj hji)
   obtain ⟨hjun,oj,hoj,hall⟩:=mem_ready.1 hj
   have hi0 : listed[i]?.getD false = false:=by
    have h0:=(mem_ready.1 hr).1
    rcases Nat.lt_or_ge i listed.size with h' | h'
    · simp [h'] at h0 ⊢;exact h0
    · simp [Array.getElem?_eq_none h']
   have hall' : ∀ e ∈ oj.after,Region.binds md e = true → listed[e.on]?.getD false = true:=fun e he hb => by
    have h1:=hall e he hb
    rcases Nat.lt_or_ge e.on listed.size with h' | h'
    · simp [h'] at h1 ⊢;exact h1
    · simp [Array.getElem?_eq_none h'] at h1
   have hnot : ∀ e ∈ oj.after,Region.binds md e = true → e.on ≠ i:=fun e he hb heq => by
    have h1:=hall' e he hb
    rw [heq,hi0] at h1
    cases h1
   have hDj : D j = false:=by
    rw [Bool.eq_false_iff]
    intro hd
    have:=zdl hcl _ j oj hoj hall' (waitsFor_spec hD hoj hd)
    rw [hi0] at this
    cases this
   have hcl' : Closed md ops (listed.setIfInBounds j true):=fun k ok hk hl e he hb => by
    by_cases hkj : k = j
    ·
     subst hkj
     rw [hoj] at hk
     cases hk
     exact zjb (hall' e he hb)
    ·
     have : listed[k]?.getD false = true:=by rwa [Array.getElem?_setIfInBounds_ne (Ne.symm hkj)] at hl
     exact zjb (hcl k ok hk this e he hb)
   have h2:=wpOp_putIf hoj (hfree j oj hoj hji hjun hnot) (fun cs b => hsel i oi cs b hi) (fun cs b => hsel j oj cs b hoj) hQ hy h1
   have hfree' : ∀ k ok,ops[k]? = some ok → k ≠ i → (listed.setIfInBounds j true).getD k true = false →
    (∀ e ∈ ok.after,Region.binds md e = true → e.on ≠ i) → oi.apart ops ok = true:=fun k ok hk hki hun hno => by
    refine hfree k ok hk hki ?_ hno
    by_cases hjk : j = k
    · subst hjk;exact hjun
    · rw [getD_set_ne true hjk] at hun;exact hun
   refine wpOp_mono (fun a' w' h3 => ?_) h2
   have hS' : S w':=by
    rcases h3.2.1 with q | q
    · rw [hDj] at q;cases q
    · exact q
   refine ⟨.inr hS',ih (listed.setIfInBounds j true) a' w' hfree' (ready_mono hr (Ne.symm hji)) h3.1 hS' hcl' ?_⟩
   rw [Array.setIfInBounds_comm _ _ hji]
   exact h3.2.2
theorem ziZ {i : Nat} {oi : Oper} {v : Value} {fuel : Nat} {listed : Array Bool} {a : Act} {w : World} (hi : ops[i]? = some oi) (hD : waitsFor md ops D i = true)
 (hs : Region.noSelect ops = true) (hf : Region.free md ops listed i = true) (hr : (Region.ready md ops listed).contains i = true) (hc : zhS md ops listed = true)
 (hQ : ∀ c a w,Q (.panic c) (a.put oi.dst v) w → Q (.panic c) a w) (hy : YieldsIf P ops S oi v a) (hS : S w)
 (h : jB P md ops Q S D fuel (listed.setIfInBounds i true) (a.put oi.dst v) w) : jB P md ops Q S D (fuel + 1) listed a w :=
 zhU hi (Region.noSelect_spec hs) hD hQ fuel listed a w (Region.free_spec hi hf) (by simpa using hr) hy hS (zmO hc) h
theorem zTk (i : Nat) (v : Value) {oi : Oper} {fuel : Nat} {listed : Array Bool} {a : Act} {w : World} (hi : ops[i]? = some oi)
 (hb : (waitsFor md ops D i && Region.noSelect ops && Region.free md ops listed i && (Region.ready md ops listed).contains i && zhS md ops listed) = true)
 (hQ : ∀ c a w,Q (.panic c) (a.put oi.dst v) w → Q (.panic c) a w) (hy : YieldsIf P ops S oi v a) (hS : S w)
 (h : jB P md ops Q S D fuel (listed.setIfInBounds i true) (a.put oi.dst v) w) : jB P md ops Q S D (fuel + 1) listed a w:=by
 simp only [Bool.and_eq_true] at hb
 exact ziZ hi hb.1.1.1.1 hb.1.1.1.2 hb.1.1.2 hb.1.2 hb.2 hQ hy hS h
def ze (P : Program) (md : Region.Mode) (ops : Array Oper) (Q : Exit → Act → World → Prop) (S : World → Prop) (D : Nat → Bool) (fuel : Nat) (listed : Array Bool) (a : Act) (w : World) (rs : List Nat) : Prop :=
 ∀ i ∈ rs,wpOp P ops Q i (fun a' w' => (D i = true ∨ S w') ∧ jB P md ops Q S D fuel (listed.setIfInBounds i true) a' w') a w
theorem ze.nil {fuel : Nat} {listed : Array Bool} {a : Act} {w : World} : ze P md ops Q S D fuel listed a w []:=fun _ h => by cases h
theorem ze.cons {fuel : Nat} {listed : Array Bool} {a : Act} {w : World} {i : Nat} {o : Oper} {rs : List Nat} (ho : ops[i]? = some o)
 (h : ∀ K' : Act → World → Prop,Shut (∀ a w,(D i = true ∨ S w) → jB P md ops Q S D fuel (listed.setIfInBounds i true) a w → K' a w) → if Region.wanted o (yielded ops a.tmps) = true then Oper.wp P o a w K' Q else K' (a.put o.dst undef) w)
 (hs : ze P md ops Q S D fuel listed a w rs) : ze P md ops Q S D fuel listed a w (i :: rs):=fun j hj => by
 rcases List.mem_cons.1 hj with rfl | hj
 · exact wpOp_step ho (fun K' hK => h K' (fun a w hS hW => hK a w ⟨hS,hW⟩))
 · exact hs j hj
theorem zw {rs : List Nat} {fuel : Nat} {listed : Array Bool} {a : Act} {w : World} (hr : Region.ready md ops listed = rs) (hne : rs ≠ [])
 (h : ze P md ops Q S D fuel listed a w rs) : jB P md ops Q S D (fuel + 1) listed a w:=⟨fun h0 => absurd (hr ▸ h0) hne,hr ▸ h⟩
theorem qf {listed : Array Bool} {a : Act} {w : World} (hr : Region.ready md ops listed = []) (h : Q .normal a w) : ∀ fuel,jB P md ops Q S D fuel listed a w
 | 0 => ⟨hr,h⟩
 | _ + 1 => ⟨fun _ => h,by rw [hr];simp⟩
theorem zi6 {id : Nat} {a : Act} {w : World} (S : World → Prop) (D : Nat → Bool) (hm : P.follows .mixedOrders = true) (hS : S w.drew)
 (h : S w.drew → jB P .any ops Q S D ops.size (Array.replicate ops.size false) a w.drew) : (Code.region id ops true).wp P Q a w :=
 wp_region_any hm (zbf _ _ _ _ (h hS))
theorem zgA {id n r : Nat} {a : Act} {w : World} (S : World → Prop) (D : Nat → Bool) (hm : P.follows .mixedOrders = true) (hd : zfe ops = true) (hQ : ¬ LetsOut Q) (hS : S w.drew)
 (h : S w.drew → jB P .any ops Q S D ops.size (Array.replicate ops.size false) a w.drew) : (Code.region id ops true).wpIn (Fence.wide.inRound r) n P Q a w :=
 wpIn_region_any hm (zbL (zgd hd) hQ _ _ _ _ (zbf _ _ _ _ (h hS)))
end Go.Proofs.YtmlfelbkgoplhaaGreatDoor
namespace Go.Proofs.YtmlfelbkgoplhaaGreatDoor
open Go.RowKit
theorem zda {α β : Type} {R : α → β → Prop} : ∀ {ps : List α} {bs : List β},yG R ps bs → ∀ b ∈ bs,∃ p ∈ ps,R p b
 | [],[],_,b,hb => by cases hb
 | p :: ps,c :: bs,h,b,hb => by
  rcases List.mem_cons.1 hb with rfl | hb
  · exact ⟨p,List.mem_cons_self ..,h.1⟩
  ·
   obtain ⟨q,hq,hr⟩:=zda h.2 b hb
   exact ⟨q,List.mem_cons_of_mem _ hq,hr⟩
theorem zdZ {α β : Type} {R : α → β → Prop} : ∀ {ps : List α} {bs : List β},yG R ps bs → ∀ p ∈ ps,∃ b ∈ bs,R p b
 | [],[],_,b,hb => by cases hb
 | p :: ps,c :: bs,h,b,hb => by
  rcases List.mem_cons.1 hb with rfl | hb
  · exact ⟨c,List.mem_cons_self ..,h.1⟩
  ·
   obtain ⟨q,hq,hr⟩:=zdZ h.2 b hb
   exact ⟨q,List.mem_cons_of_mem _ hq,hr⟩
theorem zdQ {x y : zm} (h : x.same y) : x.item = y.item:=by
 obtain ⟨_,h1,h2,h3,h4,_⟩:=h
 unfold zm.item;rw [h1,h2,h3,h4]
theorem zjR {x y : zm} (h : x.same y) : zX x = zX y:=by
 obtain ⟨h0,h1,h2,h3,h4,h5,h6⟩:=h
 unfold zX;rw [h0,h1,h2,h3,h4,h5,h6]
theorem zae : ∀ {a b : List zm},yG zm.same a b → zM a = zM b
 | [],[],_ => rfl
 | x :: a,y :: b,h => by
  have ih:=zae h.2
  unfold zM at ih ⊢
  have e0:=h.1.1
  rw [List.filter_cons,List.filter_cons,e0]
  split
  · rw [List.map_cons,List.map_cons,ih,zdQ h.1]
  · exact ih
theorem ziH {a b : List zm} (h : yG zm.same a b) (ha : jW a) : jW b:=by
 refine ⟨by rw [← h.len];exact ha.few,fun y hy => ?_,by rw [← zae h];exact ha.twice,fun l hl hn => ha.names l hl (fun n hn' => ?_),by rw [← zae h];exact ha.most,fun y hy hk => ?_⟩
 ·
  obtain ⟨x,hx,hs⟩:=zda h y hy
  rw [← zjR hs];exact ha.check x hx
 ·
  obtain ⟨y,hy,h1,h2⟩:=hn n hn'
  obtain ⟨x,hx,hs⟩:=zda h y hy
  exact ⟨x,hx,hs.1.trans h1,hs.2.1.trans h2⟩
 ·
  obtain ⟨x,hx,hs⟩:=zda h y hy
  rw [← zae h,← zdQ hs]
  exact ha.there x hx (by rw [hs.1];exact hk)
def szl (l : List ByteArray) : Nat:=(l.map (fun x => x.size + 1)).sum
theorem zg3 (sep : ByteArray) (h1 : sep.size = 1) : ∀ (k : Nat) (s : ByteArray),szl (Lib.splitB sep 0 k s) ≤ s.size + 1
 | 0,s => by unfold szl;simp [Lib.splitB_zero]
 | k + 1,s => by
  rcases Lib.indexB_cases s sep with hm | ⟨i,hi,hroom⟩
  · rw [Lib.splitB_miss _ _ _ _ hm];unfold szl;simp
  ·
   rw [Lib.splitB_hit sep 0 k s i hi]
   have:=zg3 sep h1 k (s.extract (i + sep.size) s.size)
   unfold szl at this ⊢
   simp only [List.map_cons,List.sum_cons]
   simp at this ⊢
   omega
theorem zor {l : List ByteArray} {k : Nat} (h : k < l.length) : szl (l.take (k + 1)) = szl (l.take k) + (l[k].size + 1):=by
 unfold szl
 rw [List.take_succ_eq_append_getElem h]
 simp only [List.map_append,List.sum_append,List.map_cons,List.map_nil,List.sum_cons,List.sum_nil,Nat.add_zero]
theorem zq8 (l : List ByteArray) (k : Nat) : szl (l.take k) ≤ szl l:=by
 have h : szl l = szl (l.take k) + szl (l.drop k):=by
  have : szl (l.take k ++ l.drop k) = szl (l.take k) + szl (l.drop k):=by unfold szl;rw [List.map_append,List.sum_append]
  rwa [List.take_append_drop] at this
 omega
def yD (T : TypeId) (A B : World) : Prop:=∀ (k : Nat) (cur : Array Value),A.heap[k]? = some (.cells cur T (0,0)) → B.heap[k]? = A.heap[k]?
theorem yD.refl (T : TypeId) (A : World) : yD T A A:=fun _ _ _ => rfl
theorem yD.trans {T : TypeId} {A B C : World} (h : yD T A B) (h' : yD T B C) : yD T A C:=fun k cur e => (h' k cur ((h k cur e).trans e)).trans (h k cur e)
theorem yD.below {T : TypeId} {A B : World} (h : Below A.heap.size A B) : yD T A B:=fun k cur e => h.block k (zlb e)
theorem yD.set {T T' : TypeId} {A : World} {p : Nat} {cur : Array Value} (hp : A.heap[p]? = some (.cells cur T' (0,0))) (hne : T ≠ T') (j : Nat) (u : Value) : yD T A (A.setCell ⟨p,j,none⟩ u):=fun k cur' e => by
 refine zhc _ _ _ _ (fun e2 => ?_)
 subst e2
 rw [hp] at e
 simp only [Option.some.injEq,Obj.cells.injEq] at e
 exact hne e.2.1.symm
theorem yD.grow {T T' : TypeId} {A B : World} {v : Value} (h : ∀ k,k < A.heap.size → v.ownBlock ≠ some k → B.heap[k]? = A.heap[k]?) (hv : ∀ k,v.ownBlock = some k → ∃ cur,A.heap[k]? = some (.cells cur T' (0,0))) (hne : T ≠ T') : yD T A B:=fun k cur e => by
 refine h k (zlb e) (fun e2 => ?_)
 obtain ⟨cur',e3⟩:=hv k e2
 rw [e] at e3
 simp only [Option.some.injEq,Obj.cells.injEq] at e3
 exact hne e3.2.1
theorem yD.kept {T : TypeId} {A B : World} {p : Nat → Prop} (h : Kept p A B) (hp : ∀ k cur,p k → A.heap[k]? ≠ some (.cells cur T (0,0))) : yD T A B:=fun k cur e => h.block k (zlb e) (fun hk => hp k cur hk e)
theorem zo.ty {α : Type} {w : World} {base : Nat} {T : TypeId} {z : Nat} {enc : α → List Value} {v : Value} {xs : List α} (h : zo w base T z enc v xs) : ∀ k,v.ownBlock = some k → ∃ cur,w.heap[k]? = some (.cells cur T (0,0)):=fun k hk => by
 obtain ⟨h0,⟨h1,_⟩ | ⟨g,cap,cur,e,h1,h2,h3⟩⟩:=h
 · subst h1;cases hk
 · subst e;cases hk;exact ⟨cur,h2⟩
theorem zo.yI {α : Type} {w w' : World} {base : Nat} {T : TypeId} {z : Nat} {enc : α → List Value} {v : Value} {xs : List α} (h : zo w base T z enc v xs) (hk : yD T w w') : zo w' base T z enc v xs :=
 h.keep (fun b e => by obtain ⟨cur,h1⟩:=h.ty b e;exact hk b cur h1)
theorem yx.yI {w w' : World} {v : Value} {l : List Spn} (h : yx w v l) (hk : yD 226 w w') : yx w' v l:=by
 rcases h with h | ⟨g,cap,f,e,h1,h2,h3⟩
 · exact .inl h
 ·
  obtain ⟨cur,q1,q2⟩:=id h2
  exact .inr ⟨g,cap,f,e,h1,h2.keep (hk g cur q1),h3⟩
theorem zaq.yI {w w' : World} {x : zm} (h : zaq w x) (hk : yD 226 w w') : zaq w' x:=⟨h.rng.yI hk,h.few,h.can,h.sz1,h.sz2⟩
theorem xC.yI {w w' : World} {base : Nat} {v : Value} {ls : List zm} (h : xC w base v ls) (hk : yD 226 w w') (hk' : yD 77 w w') : xC w' base v ls:=⟨h.row.yI hk',fun x hx => (h.ins x hx).yI hk⟩
set_option maxHeartbeats 1000000 in
theorem qz {α : Type} {W : World} {ops : Array Oper} {o : Oper} {a : Act} {K : Act → World → Prop} {Q : Exit → Act → World → Prop} {E : Prop} (hgd : o.guard = none) (s x : Operand) (T S : TypeId) (z bytes : Nat) (enc : α → List Value) (hz : ∀ x,(enc x).length = z) (y : α) (h1 : ∀ u ∈ enc y,u.oneCell' = true)
 (ho : o.op = .call { callee:=.builtin .append,args:=#[s,x],argTypes:=#[S,S] })
 (i : TypeInfo) (zv : Value) (hu : Tryz.prog.underlying S = some (.slice T)) (hi : Tryz.prog.info? T = some i) (hzero : i.zero = some zv) (hsize : i.size = z) (hby : i.bytes = bytes) (hzs : zv.cells.size = z) (hzp : 0 < z) (hbb : bytes ≤ 1000)
 (base : Nat) (v : Value) (xs : List α) (hs : a.eval s = v) (hr : zo W base T z enc v xs) (cs : Array Value) (hcs : cs.toList = enc y)
 (q : Nat) (hq : W.heap[q]? = some (.cells cs T (0,0))) (hx : a.eval x = .slice (some ⟨q,0,none⟩) 1 1) (hn : xs.length + 1 ≤ 1000000) (hbase : base ≤ W.heap.size)
 (h : ∀ g cap w',zo w' base T z enc (.slice (some ⟨g,0,none⟩) (xs.length + 1) cap) (xs ++ [y]) → Below base W w' → (∀ k,k < W.heap.size → v.ownBlock ≠ some k → w'.heap[k]? = W.heap[k]?) → K (a.put o.dst (.slice (some ⟨g,0,none⟩) (xs.length + 1) cap)) w') :
 if Region.wanted o (yielded ops a.tmps) = true then Oper.wp Tryz.prog o a W K Q else E:=by
 have hb2 : (xs.length + 1) * bytes ≤ 140737488355328:=by
  have : (xs.length + 1) * bytes ≤ 1000000 * 1000:=Nat.mul_le_mul hn hbb
  omega
 refine step_append_lies _ hgd s x S ho base T i zv z bytes hu hi hzero hsize hby hzs hzp v xs.length _ hs hr ⟨q,0,none⟩ 1 1 (enc y) hx (by rw [hz];omega) (fun j u hu => World.news_of_block hq j u (by rw [hcs];exact hu)) h1 (by decide) (by simp only [maxLen];omega) hb2 hbase _ rfl (fun g cap w' h2 h3 h4 _ => ?_)
 refine h g cap w' ?_ ?_ (fun k hk hne => h3.block k hk (fun e => hne e.symm))
 ·
  unfold zo
  rw [zao,List.length_append]
  exact h2
 · exact (Below.refl _ _).grown h3 hbase (fun j hj => (hr.lt hj).1)
def full (l : List ByteArray) : List ByteArray:=l.filter fun p => decide (0 < p.size)
theorem zh0 {l : List ByteArray} {k : Nat} (h : k < l.length) (h0 : l[k].size = 0) : full (l.take (k + 1)) = full (l.take k):=by
 unfold full
 rw [List.take_succ_eq_append_getElem h,List.filter_append]
 simp [h0]
theorem zlL {l : List ByteArray} {k : Nat} (h : k < l.length) (h0 : 0 < l[k].size) : full (l.take (k + 1)) = full (l.take k) ++ [l[k]]:=by
 unfold full
 rw [List.take_succ_eq_append_getElem h,List.filter_append]
 simp [h0]
theorem zo8 {l : List ByteArray} {k : Nat} (h : k < l.length) (h0 : 0 < l[k].size) : l[k] ∈ full l:=List.mem_filter.2 ⟨List.getElem_mem h,by simpa using h0⟩
structure PLs (n : Nat) (vl vp : Value) (ls : List zm) (ps : List Int) (W : World) : Prop where
 lines : xC W (n + 8) vl ls
 far : ∀ y ∈ ls,∀ b,y.rv.ownBlock = some b → n + 8 ≤ b
 ints : yM W (n + 8) vp ps
theorem PLs.stay {n : Nat} {vl vp : Value} {ls : List zm} {ps : List Int} {A B : World} (h : PLs n vl vp ls ps A) (hk : ∀ j cur T,n + 8 ≤ j → A.heap[j]? = some (.cells cur T (0,0)) → B.heap[j]? = A.heap[j]?) : PLs n vl vp ls ps B:=by
 have hr : ∀ {α : Type} {T : TypeId} {z : Nat} {enc : α → List Value} {v : Value} {xs : List α},zo A (n + 8) T z enc v xs → zo B (n + 8) T z enc v xs:=fun h => h.keep (fun b e => by
  obtain ⟨cur,h1⟩:=h.ty b e
  exact hk b cur _ (h.lt e).1 h1)
 refine ⟨⟨hr h.lines.row,fun x hx => ?_⟩,h.far,hr h.ints⟩
 have hx':=h.lines.ins x hx
 refine ⟨?_,hx'.few,hx'.can,hx'.sz1,hx'.sz2⟩
 rcases hx'.rng with q | ⟨g,cap,f,e,h1,h2,h3⟩
 · exact .inl q
 ·
  obtain ⟨cur,q1,q2⟩:=id h2
  exact .inr ⟨g,cap,f,e,h1,h2.keep (hk g cur _ (h.far x hx g (by rw [e];rfl)) q1),h3⟩
theorem PLs.below {n : Nat} {vl vp : Value} {ls : List zm} {ps : List Int} {A B : World} (h : PLs n vl vp ls ps A) (hb : Below A.heap.size A B) : PLs n vl vp ls ps B:=h.stay fun j cur T _ e => hb.block j (zlb e)
theorem PLs.shape {n : Nat} {vl vp : Value} {ls : List zm} {ps : List Int} {A : World} (h : PLs n vl vp ls ps A) : (∃ a c,vl = .slice a ls.length c) ∧ ∃ a c,vp = .slice a ps.length c:=by
 obtain ⟨a,c,e,_⟩:=h.lines.row.shape
 obtain ⟨a',c',e',_⟩:=zo.shape h.ints
 exact ⟨⟨a,c,e⟩,⟨a',c',e'⟩⟩
structure PVs (n : Nat) (w : World) (a b : Value) (at_ : Int) (W : World) : Prop where
 k0 : W.heap[n]? = some (.cells #[.pointer none] 24 (0,0))
 k1 : W.heap[n + 1]? = some (.cells #[.nilIface] 33 (0,0))
 k2 : W.heap[n + 1 + 1]? = some (.cells #[a] 69 (0,0))
 k3 : W.heap[n + 1 + 1 + 1]? = some (.cells #[b] 23 (0,0))
 k4 : W.heap[n + 1 + 1 + 1 + 1]? = some (.cells #[.int .i64 at_] 3 (0,0))
 bel : Below n w W
theorem PVs.kept {n : Nat} {w : World} {a b : Value} {at_ : Int} {A B : World} (h : PVs n w a b at_ A) (hn : n ≤ w.heap.size) (hb : ∀ j,j < n + 5 → B.heap[j]? = A.heap[j]?) (hB : Below n A B) : PVs n w a b at_ B :=
 ⟨(hb _ (by omega)).trans h.k0,(hb _ (by omega)).trans h.k1,(hb _ (by omega)).trans h.k2,(hb _ (by omega)).trans h.k3,(hb _ (by omega)).trans h.k4,h.bel.trans hB⟩
theorem PVs.below {n : Nat} {w : World} {a b : Value} {at_ : Int} {A B : World} (h : PVs n w a b at_ A) (hn : n ≤ w.heap.size) (hb : Below (n + 8) A B) : PVs n w a b at_ B:=h.kept hn (fun j hj => hb.block j (by omega)) (hb.mono (by omega))
theorem PVs.lt {n : Nat} {w : World} {a b : Value} {at_ : Int} {A : World} (h : PVs n w a b at_ A) : n + 5 ≤ A.heap.size:=by have:=zlb h.k4;omega
def zhv (n : Nat) (w : World) (xs : List ByteArray) (k : Nat) (W : World) : Prop :=
 ∃ vl vp ls ps,PVs n w vl vp (szl (xs.take k) : Nat) W ∧ PLs n vl vp ls ps W ∧ ps.length = ls.length ∧ yG qK (full (xs.take k)) ls ∧ ls.length ≤ szl (xs.take k)
def ziq (n : Nat) (w : World) (xs : List ByteArray) (W : World) : Prop :=
 ∃ p q pl,W.heap[n]? = some (.cells #[.pointer none] 24 (0,0)) ∧ W.heap[n + 1]? = some (.cells #[.iface 156 (.pointer (some ⟨p,0,none⟩))] 33 (0,0)) ∧
  W.heap[p]? = some (.cells #[.int .i64 q,.int .i64 pl] 158 (0,0)) ∧ (∀ ls,¬ yG qK (full xs) ls) ∧ Below n w W
theorem zhv.stay {n N : Nat} {w : World} {xs : List ByteArray} {k : Nat} {A B : World} {p : Nat → Prop} (hn : n ≤ w.heap.size) (hN : n + 8 ≤ N) (h : zhv n w xs k A) (hp : ∀ j,p j → j = n + 1 + 1 + 1 + 1 + 1 ∨ N ≤ j ∧ ∃ r,A.heap[j]? = some (.loop r)) (hK : Kept p A B) : zhv n w xs k B:=by
 obtain ⟨vl,vp,ls,ps,h1,h2,h3⟩:=h
 have no : ∀ j,j < n + 5 → ¬ p j:=fun j hj hq => by rcases hp j hq with e | ⟨e,_⟩ <;> omega
 refine ⟨vl,vp,ls,ps,h1.kept hn (fun j hj => hK.block j (by have:=h1.lt;omega) (no j hj)) (hK.below (fun j hj => no j (by omega)) (by have:=h1.lt;omega)),h2.stay (fun j cur T hj e => hK.block j (zlb e) (fun hq => ?_)),h3⟩
 rcases hp j hq with e2 | ⟨_,r,e2⟩
 · omega
 · rw [e] at e2;cases e2
theorem ziq.stay {n N : Nat} {w : World} {xs : List ByteArray} {A B : World} {p : Nat → Prop} (hn : n ≤ w.heap.size) (hN : n + 8 ≤ N) (h : ziq n w xs A) (hp : ∀ j,p j → N ≤ j ∧ ∃ r,A.heap[j]? = some (.loop r)) (hK : Kept p A B) : ziq n w xs B:=by
 obtain ⟨q,k,pl,h1,h2,h3,h4,h5⟩:=h
 have no : ∀ j,j < n + 5 → ¬ p j:=fun j hj hq => by obtain ⟨e,_⟩:=hp j hq;omega
 refine ⟨q,k,pl,hK.at h1 (no _ (by omega)),hK.at h2 (no _ (by omega)),hK.at h3 (fun hq => ?_),h4,h5.trans (hK.below (fun j hj => no j (by omega)) (Nat.le_trans hn h5.size))⟩
 obtain ⟨_,r,e⟩:=hp q hq
 rw [h3] at e;cases e
structure PS (n l D : Nat) (rl : Loop) (w W2 : World) (bw : Nat) (a b : Value) (at_ : Int) (x : zm) (vl vp : Value) (ls : List zm) (ps : List Int) (W : World) : Prop where
 vars : PVs n w a b at_ W
 pl : PLs n vl vp ls ps W
 box : W.heap[bw]? = some (.cells (zT x).toArray 77 (0,0))
 here : zaq W x
 loop : W.heap[l]? = some (.loop rl)
 zgp : W.heap[D]? = some (.deferred (some []))
 same : ∀ j,n + 5 ≤ j → j < n + 8 → W.heap[j]? = W2.heap[j]?
 siz : W2.heap.size ≤ W.heap.size
 n8 : n + 8 ≤ W.heap.size
section
variable {n l D : Nat} {rl : Loop} {w W2 : World} {bw : Nat} {a b : Value} {at_ : Int} {x : zm} {vl vp : Value} {ls : List zm} {ps : List Int} {W W' : World}
theorem PS.below (hn : n ≤ w.heap.size) (h : PS n l D rl w W2 bw a b at_ x vl vp ls ps W) (hb : Below W.heap.size W W') : PS n l D rl w W2 bw a b at_ x vl vp ls ps W' :=
 ⟨h.vars.below hn (hb.mono h.n8),h.pl.below hb,(hb.block _ (zlb h.box)).trans h.box,h.here.below hb,(hb.block _ (zlb h.loop)).trans h.loop,(hb.block _ (zlb h.zgp)).trans h.zgp,fun j h1 h2 => (hb.block j (by have:=h.n8;omega)).trans (h.same j h1 h2),Nat.le_trans h.siz hb.size,Nat.le_trans h.n8 hb.size⟩
theorem PS.cells (h : PS n l D rl w W2 bw a b at_ x vl vp ls ps W) : W.cell? ⟨n + 1 + 1,0,none⟩ = some a ∧ W.cell? ⟨n + 1 + 1 + 1,0,none⟩ = some b ∧ W.cell? ⟨n + 1 + 1 + 1 + 1,0,none⟩ = some (.int .i64 at_):=⟨zco h.vars.k2,zco h.vars.k3,zco h.vars.k4⟩
theorem PS.app1 (hn : n ≤ w.heap.size) (h : PS n l D rl w W2 bw a b at_ x vl vp ls ps W) (hfar : ∀ q,x.rv.ownBlock = some q → n + 8 ≤ q) {v' : Value} (hr : zo W' (n + 8) 77 7 zT v' (ls ++ [x])) (hB : Below (n + 8) W W')
 (hk : ∀ k,k < W.heap.size → vl.ownBlock ≠ some k → W'.heap[k]? = W.heap[k]?) (hne : vl.ownBlock ≠ some bw) : PS n l D rl w W2 bw a b at_ x v' vp (ls ++ [x]) ps W':=by
 have hty:=h.pl.lines.row.ty
 have hsp : yD 226 W W':=.grow hk hty (by decide)
 have hin : yD 3 W W':=.grow hk hty (by decide)
 have hno : ∀ (j : Nat) (o : Obj),W.heap[j]? = some o → o.isCells = false → W'.heap[j]? = W.heap[j]?:=fun j o e ho => hk j (zlb e) (fun e2 => by
  obtain ⟨cur,e3⟩:=hty j e2
  rw [e] at e3;cases e3;cases ho)
 refine ⟨h.vars.below hn hB,⟨⟨hr,fun y hy => ?_⟩,fun y hy => ?_,zo.yI h.pl.ints hin⟩,(hk bw (zlb h.box) hne).trans h.box,h.here.yI hsp,(hno l _ h.loop rfl).trans h.loop,(hno D _ h.zgp rfl).trans h.zgp,fun j h1 h2 => (hB.block j (by omega)).trans (h.same j h1 h2),Nat.le_trans h.siz hB.size,Nat.le_trans h.n8 hB.size⟩
 ·
  rcases List.mem_append.1 hy with hy | hy
  · exact (h.pl.lines.ins y hy).yI hsp
  · rw [List.mem_singleton] at hy;subst hy;exact h.here.yI hsp
 ·
  rcases List.mem_append.1 hy with hy | hy
  · exact h.pl.far y hy
  · rw [List.mem_singleton] at hy;subst hy;exact hfar
theorem PS.zke (hn : n ≤ w.heap.size) (h : PS n l D rl w W2 bw a b at_ x vl vp ls ps W) {y : Int} {v' : Value} (hr : zo W' (n + 8) 3 1 yF v' (ps ++ [y])) (hB : Below (n + 8) W W')
 (hk : ∀ k,k < W.heap.size → vp.ownBlock ≠ some k → W'.heap[k]? = W.heap[k]?) : PS n l D rl w W2 bw a b at_ x vl v' ls (ps ++ [y]) W':=by
 have hty:=zo.ty h.pl.ints
 have hsp : yD 226 W W':=.grow hk hty (by decide)
 have hli : yD 77 W W':=.grow hk hty (by decide)
 have hno : ∀ (j : Nat) (o : Obj),W.heap[j]? = some o → o.isCells = false → W'.heap[j]? = W.heap[j]?:=fun j o e ho => hk j (zlb e) (fun e2 => by
  obtain ⟨cur,e3⟩:=hty j e2
  rw [e] at e3;cases e3;cases ho)
 exact ⟨h.vars.below hn hB,⟨h.pl.lines.yI hsp hli,h.pl.far,hr⟩,(hli bw _ h.box).trans h.box,h.here.yI hsp,(hno l _ h.loop rfl).trans h.loop,(hno D _ h.zgp rfl).trans h.zgp,fun j h1 h2 => (hB.block j (by omega)).trans (h.same j h1 h2),Nat.le_trans h.siz hB.size,Nat.le_trans h.n8 hB.size⟩
theorem PS.set (hn : n ≤ w.heap.size) (h : PS n l D rl w W2 bw a b at_ x vl vp ls ps W) (hbw : n + 8 ≤ bw) (hl : n + 8 ≤ l) (hD : n + 8 ≤ D) {p : Nat} (hp : n ≤ p) (hp2 : p < n + 5) (u : Value) (a' b' : Value) (at' : Int) (hv : PVs n w a' b' at' (W.setCell ⟨p,0,none⟩ u)) : PS n l D rl w W2 bw a' b' at' x vl vp ls ps (W.setCell ⟨p,0,none⟩ u):=by
 have hk : ∀ j,j ≠ p → (W.setCell ⟨p,0,none⟩ u).heap[j]? = W.heap[j]?:=fun j hj => zhc _ _ _ _ (by show j ≠ p;exact hj)
 have hs : (W.setCell ⟨p,0,none⟩ u).heap.size = W.heap.size:=by simp
 exact ⟨hv,h.pl.stay (fun j _ _ hj _ => hk j (by omega)),(hk bw (by omega)).trans h.box,h.here.yI (fun j cur e => hk j (fun e2 => by
  rw [e2] at e
  have hd : p = n ∨ p = n + 1 ∨ p = n + 1 + 1 ∨ p = n + 1 + 1 + 1 ∨ p = n + 1 + 1 + 1 + 1:=by omega
  rcases hd with q | q | q | q | q <;> rw [q] at e
  · rw [h.vars.k0] at e;simp at e
  · rw [h.vars.k1] at e;simp at e
  · rw [h.vars.k2] at e;simp at e
  · rw [h.vars.k3] at e;simp at e
  · rw [h.vars.k4] at e;simp at e)),(hk l (by omega)).trans h.loop,(hk D (by omega)).trans h.zgp,fun j h1 h2 => (hk j (by omega)).trans (h.same j h1 h2),by rw [hs];exact h.siz,by rw [hs];exact h.n8⟩
theorem PVs.set2 (hn : n ≤ w.heap.size) (h : PVs n w a b at_ W) (u : Value) : PVs n w u b at_ (W.setCell ⟨n + 1 + 1,0,none⟩ u):=by
 have hk : ∀ j,j ≠ n + 1 + 1 → (W.setCell ⟨n + 1 + 1,0,none⟩ u).heap[j]? = W.heap[j]?:=fun j hj => zhc _ _ _ _ (by show j ≠ n + 1 + 1;exact hj)
 exact ⟨(hk _ (by omega)).trans h.k0,(hk _ (by omega)).trans h.k1,one_setCell h.k2,(hk _ (by omega)).trans h.k3,(hk _ (by omega)).trans h.k4,h.bel.setCell (p:=⟨n + 1 + 1,0,none⟩) (by show n ≤ n + 1 + 1;omega) _⟩
theorem PVs.zbB (hn : n ≤ w.heap.size) (h : PVs n w a b at_ W) (u : Value) : PVs n w a u at_ (W.setCell ⟨n + 1 + 1 + 1,0,none⟩ u):=by
 have hk : ∀ j,j ≠ n + 1 + 1 + 1 → (W.setCell ⟨n + 1 + 1 + 1,0,none⟩ u).heap[j]? = W.heap[j]?:=fun j hj => zhc _ _ _ _ (by show j ≠ n + 1 + 1 + 1;exact hj)
 exact ⟨(hk _ (by omega)).trans h.k0,(hk _ (by omega)).trans h.k1,(hk _ (by omega)).trans h.k2,one_setCell h.k3,(hk _ (by omega)).trans h.k4,h.bel.setCell (p:=⟨n + 1 + 1 + 1,0,none⟩) (by show n ≤ n + 1 + 1 + 1;omega) _⟩
theorem PVs.set4 (hn : n ≤ w.heap.size) (h : PVs n w a b at_ W) (u : Int) : PVs n w a b u (W.setCell ⟨n + 1 + 1 + 1 + 1,0,none⟩ (.int .i64 u)):=by
 have hk : ∀ j,j ≠ n + 1 + 1 + 1 + 1 → (W.setCell ⟨n + 1 + 1 + 1 + 1,0,none⟩ (.int .i64 u)).heap[j]? = W.heap[j]?:=fun j hj => zhc _ _ _ _ (by show j ≠ n + 1 + 1 + 1 + 1;exact hj)
 exact ⟨(hk _ (by omega)).trans h.k0,(hk _ (by omega)).trans h.k1,(hk _ (by omega)).trans h.k2,(hk _ (by omega)).trans h.k3,one_setCell h.k4,h.bel.setCell (p:=⟨n + 1 + 1 + 1 + 1,0,none⟩) (by show n ≤ n + 1 + 1 + 1 + 1;omega) _⟩
end
end Go.Proofs.YtmlfelbkgoplhaaGreatDoor
namespace Go.Proofs.YtmlfelbkgoplhaaGreatDoor
open Go.RowKit
attribute [local go_sem] Oper.semAt_some
def zlh (s : ByteArray) (w : World) (e : Ending) (w' : World) : Prop :=
 ((∃ p ls items,e = .returned (.tuple #[.pointer (some ⟨p,0,none⟩),.nilIface]) ∧ zbP w' p ls items ∧ w.heap.size ≤ p ∧ s.size ≤ 20000 ∧ qD s ls) ∨
  (∃ er,e = .returned (.tuple #[.pointer none,er]) ∧ zby w' er ∧ ∀ ls,s.size ≤ 20000 → qD s ls → ¬ jW ls)) ∧ Below w.heap.size w w'
theorem znK {w : World} {er : Value} (h : zby w er) (hT : zV w) : ∃ t x,er = .iface t x ∧ Calls Tryz.prog 16 #[.iface t x] w fun e w' => (∃ q : Int,e = .returned (.int .i64 q)) ∧ Below w.heap.size w w':=by
 rcases h with ⟨k,rfl⟩ | ⟨p,k,pl,rfl,h⟩
 · exact ⟨_,_,rfl,(zcY k w hT).mono (fun e w' h => ⟨⟨k,h.1⟩,h.2⟩)⟩
 · exact ⟨_,_,rfl,(zpI p k pl w hT h).mono (fun e w' h => ⟨⟨k,h.1⟩,h.2⟩)⟩
def zbC (n : Nat) (at_ : Nat) (W : World) : Prop:=(∃ x,W.heap[n]? = some (.cells #[x] 24 (0,0))) ∧ (∃ y,W.heap[n + 1]? = some (.cells #[y] 33 (0,0))) ∧ W.heap[n + 1 + 1 + 1 + 1]? = some (.cells #[.int .i64 at_] 3 (0,0))
theorem zbC.cell {n at_ : Nat} {W : World} (h : zbC n at_ W) : W.cell? ⟨n + 1 + 1 + 1 + 1,0,none⟩ = some (.int .i64 at_):=zco h.2.2
theorem zbC.below {n at_ : Nat} {W W' : World} (h : zbC n at_ W) (hb : Below W.heap.size W W') : zbC n at_ W':=by
 obtain ⟨⟨x,h1⟩,⟨y,h2⟩,h3⟩:=h
 exact ⟨⟨x,(hb.block _ (zlb h1)).trans h1⟩,⟨y,(hb.block _ (zlb h2)).trans h2⟩,(hb.block _ (zlb h3)).trans h3⟩
theorem zbC.alloc {n at_ : Nat} {W : World} (h : zbC n at_ W) (o : Obj) : zbC n at_ (W.alloc o):=h.below (zba)
theorem zbC.set0 {n at_ : Nat} {W : World} (h : zbC n at_ W) (u : Value) : zbC n at_ (W.setCell ⟨n,0,none⟩ u):=by
 obtain ⟨⟨x,h1⟩,⟨y,h2⟩,h3⟩:=h
 exact ⟨⟨u,one_setCell h1⟩,⟨y,(zhc _ _ _ _ (by show n + 1 ≠ n;omega)).trans h2⟩,(zhc _ _ _ _ (by show n + 1 + 1 + 1 + 1 ≠ n;omega)).trans h3⟩
theorem zbC.set1 {n at_ : Nat} {W : World} (h : zbC n at_ W) (u : Value) : zbC n at_ (W.setCell ⟨n + 1,0,none⟩ u):=by
 obtain ⟨⟨x,h1⟩,⟨y,h2⟩,h3⟩:=h
 exact ⟨⟨x,(zhc _ _ _ _ (by show n ≠ n + 1;omega)).trans h1⟩,⟨u,one_setCell h2⟩,(zhc _ _ _ _ (by show n + 1 + 1 + 1 + 1 ≠ n + 1;omega)).trans h3⟩
theorem zbC.facts {n at_ : Nat} {W : World} (h : zbC n at_ W) : (∃ x,W.cell? ⟨n,0,none⟩ = some x) ∧ W.frozen? ⟨n,0,none⟩ = false ∧ n < W.heap.size ∧ (∃ y,W.cell? ⟨n + 1,0,none⟩ = some y) ∧ W.frozen? ⟨n + 1,0,none⟩ = false ∧ n + 1 < W.heap.size:=by
 obtain ⟨⟨x,h1⟩,⟨y,h2⟩,h3⟩:=h
 exact ⟨⟨x,zco h1⟩,zfo h1,zlb h1,⟨y,zco h2⟩,zfo h2,zlb h2⟩
abbrev zp7 (n : Nat) : Nat → Prop:=ze6 (n + 1 + 1 + 1 + 1 + 1) (n + 1 + 1 + 1 + 1 + 1 + 1) (n + 1 + 1 + 1 + 1 + 1 + 1 + 1)
theorem zil {n l D : Nat} {w W2 w7 We : World} {xs : List ByteArray} {p : Nat} {q pl : Int} {a b : Value} {at_ : Int} (hn : n ≤ w.heap.size) (hgl : 4 < n) (hI : PVs n w a b at_ W2) (hb : Below W2.heap.size W2 w7)
 (hl : ∃ r,W2.heap[l]? = some (.loop r)) (hd : W2.heap[D]? = some (.deferred (some []))) (hlD : n + 8 ≤ l ∧ n + 8 ≤ D) (hsz : n + 8 ≤ W2.heap.size)
 (hK : Kept (fun j => j = n ∨ j = n + 1) w7 We) (h0 : We.heap[n]? = some (.cells #[.pointer none] 24 (0,0))) (h1 : We.heap[n + 1]? = some (.cells #[.iface 156 (.pointer (some ⟨p,0,none⟩))] 33 (0,0)))
 (hp : We.heap[p]? = some (.cells #[.int .i64 q,.int .i64 pl] 158 (0,0))) (hno : ∀ ls,¬ yG qK (full xs) ls) :
 xZ (fun j => zp7 n j ∨ j = l ∨ j = D) W2 We ∧ ziq n w xs We:=by
 have hKK : Kept (fun j => j = n ∨ j = n + 1) W2 We:=(Kept.of_below hb).trans hK
 obtain ⟨r,hl⟩:=hl
 refine ⟨.ze5 hKK (fun j hj => ?_),⟨p,q,pl,h0,h1,hp,hno,hI.bel.trans (hKK.below (fun j hj => by omega) (by omega))⟩⟩
 rcases hj with (rfl | rfl | rfl | rfl) | rfl | rfl
 · omega
 · omega
 · omega
 · omega
 · exact ⟨zlb hl,by omega⟩
 · exact ⟨zlb hd,by omega⟩
theorem zh5 {n l D kx : Nat} {w W2 W7 : World} {xs : List ByteArray} {a b vl vp : Value} {at2 at_ at' : Int} {ls : List zm} {ps : List Int} (hn : n ≤ w.heap.size) (hgl : 4 < n) (hI : PVs n w a b at2 W2) (hv : PVs n w vl vp at_ W7) (hpl : PLs n vl vp ls ps W7)
 (hlen : ps.length = ls.length) (hall : yG qK (full (xs.take (kx + 1))) ls) (hfew : ls.length ≤ szl (xs.take (kx + 1))) (hsz : W2.heap.size ≤ W7.heap.size) (hsame : ∀ j,n + 5 ≤ j → j < n + 8 → W7.heap[j]? = W2.heap[j]?)
 (hl : W7.heap[l]? = W2.heap[l]?) (hd : W7.heap[D]? = W2.heap[D]?) (hl8 : n + 8 ≤ l) (hD8 : n + 8 ≤ D) (e : at' = (szl (xs.take (kx + 1)) : Nat)) :
 xZ (fun j => zp7 n j ∨ j = l ∨ j = D) W2 (W7.setCell ⟨n + 1 + 1 + 1 + 1,0,none⟩ (.int .i64 at')) ∧ zhv n w xs (kx + 1) (W7.setCell ⟨n + 1 + 1 + 1 + 1,0,none⟩ (.int .i64 at')):=by
 subst e
 have hk : ∀ j,j ≠ n + 1 + 1 + 1 + 1 → (W7.setCell ⟨n + 1 + 1 + 1 + 1,0,none⟩ (.int .i64 (szl (xs.take (kx + 1)) : Nat))).heap[j]? = W7.heap[j]?:=fun j hj => zhc _ _ _ _ (by show j ≠ n + 1 + 1 + 1 + 1;exact hj)
 refine ⟨⟨by simpa using hsz,fun j hj => ?_⟩,_,_,ls,ps,hv.set4 hn _,hpl.stay (fun j _ _ hj _ => hk j (by omega)),hlen,hall,hfew⟩
 rcases hj with (rfl | rfl | rfl | rfl) | rfl | rfl
 · exact (hk _ (by omega)).trans (hsame _ (by omega) (by omega))
 · exact (hk _ (by omega)).trans (hsame _ (by omega) (by omega))
 · exact (hk _ (by omega)).trans (hsame _ (by omega) (by omega))
 · exact (hk _ (by omega)).trans ((hv.bel.block _ hgl).trans (hI.bel.block _ hgl).symm)
 · exact (hk _ (by omega)).trans hl
 · exact (hk _ (by omega)).trans hd
theorem zbP.yI {w w' : World} {p : Nat} {ls : List zm} {items : List zA} (h : zbP w p ls items) (k1 : yD 226 w w') (k2 : yD 77 w w') (k3 : yD 94 w w') (k4 : yD 142 w w') : zbP w' p ls items:=by
 obtain ⟨h0,vl,vi,h⟩:=h
 exact ⟨h0,vl,vi,(k4 p _ h.box).trans h.box,h.lines.yI k1 k2,zo.yI h.its k3⟩
theorem za5 {n D : Nat} {w W1 : World} {x y : Value} (hn : n ≤ w.heap.size) (h0 : W1.heap[n]? = some (.cells #[x] 24 (0,0))) (h1 : W1.heap[n + 1]? = some (.cells #[y] 33 (0,0))) (hb : Below n w W1) (hd : W1.heap[D]? = some (.deferred (some []))) (hD : n + 8 ≤ D) (hnD : w.heap.size ≤ D) :
 (W1.putObj D (.deferred none)).cell? ⟨n,0,none⟩ = some x ∧ (W1.putObj D (.deferred none)).cell? ⟨n + 1,0,none⟩ = some y ∧ Below n w (W1.putObj D (.deferred none)) ∧ (∀ j,j ≠ D → (W1.putObj D (.deferred none)).heap[j]? = W1.heap[j]?) :=
 ⟨zco ((World.putObj_heap_other (by omega)).trans h0),zco ((World.putObj_heap_other (by omega)).trans h1),hb.trans (belowK_b (w:=w) hn _ D _ _ hnD hd rfl rfl),fun j hj => World.putObj_heap_other hj⟩
theorem zh2 {n D : Nat} {w W1 : World} {x0 y0 : Value} (x y : Value) (h0 : W1.heap[n]? = some (.cells #[x0] 24 (0,0))) (h1 : W1.heap[n + 1]? = some (.cells #[y0] 33 (0,0))) (hb : Below n w W1) (hd : W1.heap[D]? = some (.deferred (some []))) (hD : n + 8 ≤ D) :
 ((W1.setCell ⟨n,0,none⟩ x).setCell ⟨n + 1,0,none⟩ y).heap[n]? = some (.cells #[x] 24 (0,0)) ∧ ((W1.setCell ⟨n,0,none⟩ x).setCell ⟨n + 1,0,none⟩ y).heap[n + 1]? = some (.cells #[y] 33 (0,0)) ∧ Below n w ((W1.setCell ⟨n,0,none⟩ x).setCell ⟨n + 1,0,none⟩ y) ∧
 ((W1.setCell ⟨n,0,none⟩ x).setCell ⟨n + 1,0,none⟩ y).heap[D]? = some (.deferred (some [])) ∧ (∀ j,j ≠ n → j ≠ n + 1 → ((W1.setCell ⟨n,0,none⟩ x).setCell ⟨n + 1,0,none⟩ y).heap[j]? = W1.heap[j]?):=by
 have hk : ∀ j,j ≠ n → j ≠ n + 1 → ((W1.setCell ⟨n,0,none⟩ x).setCell ⟨n + 1,0,none⟩ y).heap[j]? = W1.heap[j]?:=fun j h h' => (zhc _ _ _ _ (by show j ≠ n + 1;exact h')).trans (zhc _ _ _ _ (by show j ≠ n;exact h))
 exact ⟨(zhc _ _ _ _ (by show n ≠ n + 1;omega)).trans (one_setCell h0),one_setCell ((zhc _ _ _ _ (by show n + 1 ≠ n;omega)).trans h1),(hb.setCell (p:=⟨n,0,none⟩) (znr _) _).setCell (p:=⟨n + 1,0,none⟩) (Nat.le_succ _) _,(hk D (by omega) (by omega)).trans hd,hk⟩
theorem zm7 {n D : Nat} {w W1 : World} {x0 y0 : Value} (y : Value) (h0 : W1.heap[n]? = some (.cells #[x0] 24 (0,0))) (h1 : W1.heap[n + 1]? = some (.cells #[y0] 33 (0,0))) (hb : Below n w W1) (hd : W1.heap[D]? = some (.deferred (some []))) (hD : n + 8 ≤ D) :
 (W1.setCell ⟨n + 1,0,none⟩ y).heap[n]? = some (.cells #[x0] 24 (0,0)) ∧ (W1.setCell ⟨n + 1,0,none⟩ y).heap[n + 1]? = some (.cells #[y] 33 (0,0)) ∧ Below n w (W1.setCell ⟨n + 1,0,none⟩ y) ∧
 (W1.setCell ⟨n + 1,0,none⟩ y).heap[D]? = some (.deferred (some [])) ∧ (∀ j,j ≠ n + 1 → (W1.setCell ⟨n + 1,0,none⟩ y).heap[j]? = W1.heap[j]?):=by
 have hk : ∀ j,j ≠ n + 1 → (W1.setCell ⟨n + 1,0,none⟩ y).heap[j]? = W1.heap[j]?:=fun j h' => zhc _ _ _ _ (by show j ≠ n + 1;exact h')
 exact ⟨(hk n (by omega)).trans h0,one_setCell h1,hb.setCell (p:=⟨n + 1,0,none⟩) (Nat.le_succ _) _,(hk D (by omega)).trans hd,hk⟩
theorem zch {T : TypeId} {n D : Nat} {W1 W2 : World} {x0 y0 : Value} (hT0 : T ≠ 24) (hT1 : T ≠ 33) (h0 : W1.heap[n]? = some (.cells #[x0] 24 (0,0))) (h1 : W1.heap[n + 1]? = some (.cells #[y0] 33 (0,0))) (hd : W1.heap[D]? = some (.deferred (some [])))
 (hk : ∀ j,j ≠ n → j ≠ n + 1 → j ≠ D → W2.heap[j]? = W1.heap[j]?) : yD T W1 W2:=fun j cur e => by
 refine hk j (fun q => ?_) (fun q => ?_) (fun q => ?_)
 · rw [q,h0] at e;simp only [Option.some.injEq,Obj.cells.injEq] at e;exact hT0 e.2.1.symm
 · rw [q,h1] at e;simp only [Option.some.injEq,Obj.cells.injEq] at e;exact hT1 e.2.1.symm
 · rw [q,hd] at e;cases e
structure SA (n q g : Nat) (k pl : Int) (vp : Value) (j : Nat) (v : Int) (W : World) : Prop where
 b0 : ∃ x,W.heap[n]? = some (.cells #[x] 24 (0,0))
 b1 : ∃ y,W.heap[n + 1]? = some (.cells #[y] 33 (0,0))
 b3 : W.heap[n + 1 + 1 + 1]? = some (.cells #[vp] 23 (0,0))
 bq : W.heap[q]? = some (.cells #[.int .i64 k,.int .i64 pl] 158 (0,0))
 bg : ∃ cur : Array Value,W.heap[g]? = some (.cells cur 3 (0,0)) ∧ cur[j]? = some (.int .i64 v)
section
variable {n q g : Nat} {k pl : Int} {vp : Value} {j : Nat} {v : Int} {W W' : World}
theorem SA.move (h : SA n q g k pl vp j v W) (h0 : ∃ x,W'.heap[n]? = some (.cells #[x] 24 (0,0))) (h1 : ∃ y,W'.heap[n + 1]? = some (.cells #[y] 33 (0,0))) (hk : ∀ i,i ≠ n → i ≠ n + 1 → i < W.heap.size → W'.heap[i]? = W.heap[i]?) : SA n q g k pl vp j v W':=by
 obtain ⟨⟨x,b0⟩,⟨y,b1⟩,b3,bq,cur,bg,bj⟩:=h
 refine ⟨h0,h1,(hk _ (by omega) (by omega) (zlb b3)).trans b3,(hk _ (fun e => ?_) (fun e => ?_) (zlb bq)).trans bq,cur,(hk _ (fun e => ?_) (fun e => ?_) (zlb bg)).trans bg,bj⟩
 · rw [e,b0] at bq;simp at bq
 · rw [e,b1] at bq;simp at bq
 · rw [e,b0] at bg;simp at bg
 · rw [e,b1] at bg;simp at bg
theorem SA.below (h : SA n q g k pl vp j v W) (hb : Below W.heap.size W W') : SA n q g k pl vp j v W':=by
 obtain ⟨⟨x,b0⟩,⟨y,b1⟩,b3,bq,cur,bg,bj⟩:=h
 exact ⟨⟨x,(hb.block _ (zlb b0)).trans b0⟩,⟨y,(hb.block _ (zlb b1)).trans b1⟩,(hb.block _ (zlb b3)).trans b3,(hb.block _ (zlb bq)).trans bq,cur,(hb.block _ (zlb bg)).trans bg,bj⟩
theorem SA.alloc (h : SA n q g k pl vp j v W) (o : Obj) : SA n q g k pl vp j v (W.alloc o):=h.below (zba)
theorem SA.set0 (h : SA n q g k pl vp j v W) (u : Value) : SA n q g k pl vp j v (W.setCell ⟨n,0,none⟩ u):=by
 obtain ⟨x,b0⟩:=h.b0
 obtain ⟨y,b1⟩:=h.b1
 exact h.move ⟨u,one_setCell b0⟩ ⟨y,(zhc _ _ _ _ (by show n + 1 ≠ n;omega)).trans b1⟩ (fun i h0 h1 _ => zhc _ _ _ _ (by show i ≠ n;exact h0))
theorem SA.set1 (h : SA n q g k pl vp j v W) (u : Value) : SA n q g k pl vp j v (W.setCell ⟨n + 1,0,none⟩ u):=by
 obtain ⟨x,b0⟩:=h.b0
 obtain ⟨y,b1⟩:=h.b1
 exact h.move ⟨x,(zhc _ _ _ _ (by show n ≠ n + 1;omega)).trans b0⟩ ⟨u,one_setCell b1⟩ (fun i h0 h1 _ => zhc _ _ _ _ (by show i ≠ n + 1;exact h1))
theorem SA.facts (h : SA n q g k pl vp j v W) : (∃ x,W.cell? ⟨n,0,none⟩ = some x) ∧ W.frozen? ⟨n,0,none⟩ = false ∧ n < W.heap.size ∧ (∃ y,W.cell? ⟨n + 1,0,none⟩ = some y) ∧ W.frozen? ⟨n + 1,0,none⟩ = false ∧ n + 1 < W.heap.size:=by
 obtain ⟨x,b0⟩:=h.b0
 obtain ⟨y,b1⟩:=h.b1
 exact ⟨⟨x,zco b0⟩,zfo b0,zlb b0,⟨y,zco b1⟩,zfo b1,zlb b1⟩
theorem SA.cells (h : SA n q g k pl vp j v W) : W.cell? ⟨n + 1 + 1 + 1,0,none⟩ = some vp ∧ W.cell? ⟨q,0,none⟩ = some (.int .i64 k) ∧ W.cell? ⟨q,1,none⟩ = some (.int .i64 pl) ∧ W.cell? ⟨g,j,none⟩ = some (.int .i64 v):=by
 obtain ⟨c0,c1,_,_⟩:=ko h.bq
 obtain ⟨cur,bg,bj⟩:=h.bg
 exact ⟨zco h.b3,c0,c1,by rw [cell_of_row W g _ cur _ _ bg];exact bj⟩
end
theorem zru (w : World) : (Instr.typeAssert .nilIface 33 156 true).run Tryz.prog w = .ok (.tuple #[.pointer none,.bool false]) w:=by kernel_rfl
theorem znf (k : Int) (w : World) : (Instr.typeAssert (.iface 45 (.int .i64 k)) 33 156 true).run Tryz.prog w = .ok (.tuple #[.pointer none,.bool false]) w:=by kernel_rfl
theorem ta_at (q : Nat) (w : World) : (Instr.typeAssert (.iface 156 (.pointer (some ⟨q,0,none⟩))) 33 156 true).run Tryz.prog w = .ok (.tuple #[.pointer (some ⟨q,0,none⟩),.bool true]) w:=by kernel_rfl
set_option maxRecDepth 100000 in
set_option maxHeartbeats 16000000 in
theorem zh7 (s : ByteArray) (w : World) (hs : s.size ≤ 20000) (hL : xQ w) (hT : zV w) : Calls Tryz.prog 33 #[.string s] w (zlh s w):=by
 have hsep : 1 ≤ nlB.size:=by decide
 have hsum:=zg3 nlB (by decide) (Lib.countB s nlB) s
 have hd : decide (20000 < (s.size : Int)) = false:=by simp;omega
 refine (callsIn_wide (n:=3)).1 ?_
 refine callsIn_of_wp_marks Tryz.func33 rfl trivial ?_ rfl
 simp only [Tryz.ntmps33,List.size_toArray,List.length_cons,List.length_nil,Nat.reduceAdd,Nat.reduceSub,Array.replicate_succ,Array.replicate_zero,List.push_toArray,List.append_toArray,List.nil_append,List.cons_append]
 gi_wp2_with fail
 refine ⟨trivial,?_⟩
 refine (callsIn_wide.2 (zk9 _ _ _)).mono ?_
 rintro e w' ⟨rfl,rfl⟩
 gi_wp2_with fail
 obtain ⟨n,hn⟩ : ∃ n,n = w.heap.size:=⟨_,rfl⟩
 obtain ⟨W0,hW0⟩ : ∃ W0,W0 = ((((((((w.alloc (.cells #[.pointer none] 24)).alloc (.cells #[.nilIface] 33)).alloc (.cells #[.slice none 0 0] 69)).alloc (.cells #[.slice none 0 0] 23)).alloc (.cells #[.int .i64 0] 3)).alloc (.cells #[.string s] 9)).alloc (.cells #[.string ⟨#[10]⟩] 9)).alloc (.cells #[.int .i64 0] 3)):=⟨_,rfl⟩
 have hz0 : W0.heap.size = n + 8:=by rw [hW0,hn];simp
 have hb0 : Below n w W0:=by rw [hW0,hn];exact (((((((zba).alloc (by simp) _).alloc (by simp;omega) _).alloc (by simp;omega) _).alloc (by simp;omega) _).alloc (by simp;omega) _).alloc (by simp;omega) _).alloc (by simp;omega) _
 have k0 : W0.heap[n]? = some (.cells #[.pointer none] 24 (0,0)):=by rw [hW0,hn];exact zh (zh (zh (zh (zh (zh (zh (za rfl)))))))
 have k1 : W0.heap[n + 1]? = some (.cells #[.nilIface] 33 (0,0)):=by rw [hW0,hn];exact zh (zh (zh (zh (zh (zh (za (by simp)))))))
 have k2 : W0.heap[n + 1 + 1]? = some (.cells #[.slice none 0 0] 69 (0,0)):=by rw [hW0,hn];exact zh (zh (zh (zh (zh (za (by simp))))))
 have k3 : W0.heap[n + 1 + 1 + 1]? = some (.cells #[.slice none 0 0] 23 (0,0)):=by rw [hW0,hn];exact zh (zh (zh (zh (za (by simp)))))
 have k4 : W0.heap[n + 1 + 1 + 1 + 1]? = some (.cells #[.int .i64 0] 3 (0,0)):=by rw [hW0,hn];exact zh (zh (zh (za (by simp))))
 have k5 : W0.heap[n + 1 + 1 + 1 + 1 + 1]? = some (.cells #[.string s] 9 (0,0)):=by rw [hW0,hn];exact zh (zh (za (by simp)))
 have k6 : W0.heap[n + 1 + 1 + 1 + 1 + 1 + 1]? = some (.cells #[.string nlB] 9 (0,0)):=by rw [hW0,hn];exact zh (za (by simp))
 have k7 : W0.heap[n + 1 + 1 + 1 + 1 + 1 + 1 + 1]? = some (.cells #[.int .i64 0] 3 (0,0)):=by rw [hW0,hn];exact za (by simp)
 have hL0:=hL.below (by rw [← hn];exact hb0)
 obtain ⟨mm,hmm⟩:=hL0.len
 have hspl : zgj (n + 1 + 1 + 1 + 1 + 1) (n + 1 + 1 + 1 + 1 + 1 + 1) (n + 1 + 1 + 1 + 1 + 1 + 1 + 1) s nlB W0:=⟨k5,k6,k7,mm,hmm⟩
 have hgl : 4 < n:=by
  obtain ⟨m',hm'⟩:=hL.len
  rw [hn];exact World.block_lt_of_cell? _ _ hm'
 have hne : zlj (n + 1 + 1 + 1 + 1 + 1) (n + 1 + 1 + 1 + 1 + 1 + 1) (n + 1 + 1 + 1 + 1 + 1 + 1 + 1):=⟨by omega,by omega,by omega⟩
 have hit:=zfj (n + 1 + 1 + 1 + 1 + 1) (n + 1 + 1 + 1 + 1 + 1 + 1) (n + 1 + 1 + 1 + 1 + 1 + 1 + 1) s nlB W0 hsep (by omega) hspl hne
 rw [← hn,← hW0]
 change szl (zbO s) ≤ s.size + 1 at hsum
 change zkP _ _ _ _ (zbO s) _ _ _ at hit
 have h00 : zhv n w (zbO s) 0 W0:=⟨_,_,[],[],⟨k0,k1,k2,k3,k4,hb0⟩,⟨xC.nil _ _,fun y hy => (by cases hy),zo.nil _ _ _ _ _⟩,rfl,trivial,znz _⟩
 have hnle : n ≤ w.heap.size:=by omega
 have hnle2 : w.heap.size ≤ n:=by omega
 have Hsum:=hid hsum;have HL:=hid hL;have HT:=hid hT;have Hz0:=hid hz0;have Hn:=hid hn
 have hpc : ∀ ls,yG qK (full (zbO s)) ls ↔ qD s ls:=fun R => Iff.rfl
 have Hpc:=hid hpc
 have hz1 : n + 8 ≤ W0.heap.size:=by omega
 have HbT:=hid (show ∀ W',Below n w W' → xQ W' ∧ zV W' from fun W' h => ⟨hL.below (by rw [← hn];exact h),hT.below (by rw [← hn];exact h)⟩)
 obtain ⟨iL,hiL,hzL0,hzL1,hzL2⟩:=info_parts zie
 obtain ⟨iI,hiI,hzI0,hzI1,hzI2⟩:=info_parts zdO
 have HiL:=hid hiL;have HzL0:=hid hzL0;have HzL1:=hid hzL1;have HzL2:=hid hzL2;have HiI:=hid hiI;have HzI0:=hid hzI0;have HzI1:=hid hzI1;have HzI2:=hid hzI2
 clear hpc hn hW0 hz0 hsum hL hT hiL hzL0 hzL1 hzL2 hiI hzI0 hzI1 hzI2
 generalize zbO s = xs at *
 refine zg9 (gf:=176) (lb:=#[.pointer (some ⟨n + 1 + 1 + 1 + 1 + 1 + 1,0,none⟩),.pointer (some ⟨n + 1 + 1 + 1 + 1 + 1,0,none⟩),.pointer (some ⟨n + 1 + 1 + 1 + 1 + 1 + 1 + 1,0,none⟩)]) rfl (enters_of Tryz.func176 (by kernel_rfl) rfl) hit rfl ?keep ?q
  (zhv n w xs) (ziq n w xs) ?hI ?hIx h00 ?round ?done ?stop
 case keep =>
  rintro j (rfl | rfl | rfl | rfl) <;> omega
 case q =>
  rintro j rfl
  omega
 case hI =>
  intro k A B p h hp hK
  exact h.stay hnle (by omega : n + 8 ≤ W0.heap.size) hp hK
 case hIx =>
  intro A B p h hp hK
  exact h.stay hnle (by omega : n + 8 ≤ W0.heap.size) hp hK
 case round =>
  intro l D kx hk W hl hD hi hlo hdf
  gi_wp2_with fail
  refine ⟨trivial,fun W2 hI2 hl2 hd2 => ?_⟩
  obtain ⟨vl,vp,ls,ps,hv,hpl,hlen,hall,hfew⟩:=hI2
  have htk:=zor hk
  have hsl:=zq8 xs (kx + 1)
  have hf0:=zh0 hk
  have hf1:=zlL hk
  have hmem:=zo8 hk
  generalize xs[kx] = pc at htk hf0 hf1 hmem ⊢
  have hpcs : pc.size ≤ 20000:=by have:=Hsum.out;omega
  have hat : (szl (xs.take kx) : Int) ≤ 1000000:=by have:=Hsum.out;omega
  have hat0 : (0 : Int) ≤ (szl (xs.take kx) : Int):=by omega
  obtain ⟨rl,hrl⟩:=hl2
  obtain ⟨⟨al,cl,rfl⟩,ap,cp,rfl⟩:=hpl.shape
  have hn8 : n + 8 ≤ W2.heap.size:=by have:=zlb hrl;omega
  have hlsN : ls.length ≤ 30000:=by have:=Hsum.out;omega
  have hpsN : ps.length ≤ 30000:=by omega
  have Hv:=hid hv;have Hpl:=hid hpl;have Hlen:=hid hlen;have Hall:=hid hall;have Hfew:=hid hfew
  have Htk:=hid htk;have Hrl:=hid hrl;have Hd2:=hid hd2
  have Hl8:=hid (show n + 8 ≤ l by omega);have HD8:=hid (show n + 8 ≤ D by omega)
  clear htk hsl hrl hd2 hv hpl hlen hall hfew hi hlo hdf hit h00 hspl k0 k1 k2 k3 k4 k5 k6 k7 hb0 hL0 hmm hl hD
  by_cases h0 : pc.size = 0
  ·
   skip
   have te : pc.toList.isEmpty = true:=kU.2 (ByteArray.ext (Array.eq_empty_of_size_eq_zero h0))
   have hf:=hf0 h0
   have Hf:=hid hf
   have kc1:=zco Hv.out.k4;have kc2:=zfo Hv.out.k4;have kc3:=zlb Hv.out.k4
   clear hf hf0 hf1 hmem h0
   gi_wp2_with fail
   exact zh5 hnle hgl Hv.out Hv.out Hpl.out Hlen.out (by rw [Hf.out];exact Hall.out) (by have:=Hfew.out;have:=Htk.out;omega) (znr _) (fun j _ _ => rfl) rfl rfl Hl8.out HD8.out (by have:=Htk.out;omega)
  ·
   have te : pc.toList.isEmpty = false:=by
    rw [Bool.eq_false_iff]
    intro q
    rw [kU.1 q] at h0
    exact h0 rfl
   have h0' : 0 < pc.size:=Nat.pos_of_ne_zero h0
   have Hf1:=hid (hf1 h0');have Hmem:=hid (hmem h0')
   have HPL:=hid (zgu pc W2 hpcs (HbT.out W2 Hv.out.bel).1 (HbT.out W2 Hv.out.bel).2)
   clear hf0 hf1 hmem h0 h0'
   gi_wp2_with fail
   refine ⟨trivial,?_⟩
   refine (CallsIn.inRound l (callsIn_wide.2 HPL.out)).mono ?_
   rintro e w5 ⟨⟨x,rfl,hR,hx,hfx⟩ | ⟨k,nm,a,b,c,ot,va,vn,vc,er,rfl,her,hno⟩,hb5⟩
   ·
    skip
    obtain ⟨kd,nm,a,b,c,ot,rg,rv⟩:=x
    have hrg:=hx.rng
    simp only at hrg
    obtain ⟨ar,cr,rfl,_,_⟩:=hrg.shape
    have hone:=zbN hx
    obtain ⟨W6,hW6⟩ : ∃ W6,W6 = w5.alloc (.cells #[.int .i64 kd,.string nm,.int .i64 a,.int .i64 b,.int .i64 c,.string ot,.slice ar rg.length cr] 77):=⟨_,rfl⟩
    have hal : Below w5.heap.size w5 W6:=by rw [hW6];exact zba
    have hz5:=hb5.size
    have hbo:=hb5.trans (hal.mono hz5)
    have hps : PS n l D rl w W2 w5.heap.size (.slice al ls.length cl) (.slice ap ps.length cp) (szl (xs.take kx) : Nat) ⟨kd,nm,a,b,c,ot,rg,.slice ar rg.length cr⟩ (.slice al ls.length cl) (.slice ap ps.length cp) ls ps W6:=⟨Hv.out.below hnle (hbo.mono hn8),Hpl.out.below hbo,by rw [hW6];exact za rfl,hx.below hal,(hbo.block _ (zlb Hrl.out)).trans Hrl.out,(hbo.block _ (zlb Hd2.out)).trans Hd2.out,fun j h1 h2 => hbo.block j (by omega),hbo.size,by have:=hbo.size;omega⟩
    have Hne:=hid (show (Value.slice al ls.length cl).ownBlock ≠ some w5.heap.size from fun e => by have:=(Hpl.out.lines.row.lt e).2;omega)
    have Hfx:=hid (show ∀ q,(Value.slice ar rg.length cr).ownBlock = some q → n + 8 ≤ q from fun q hq => by have:=hfx q hq;omega)
    have Hbw:=hid (show n + 8 ≤ w5.heap.size by omega)
    have HR:=hid hR;have Hone:=hid hone;have HP6:=hid hps
    clear hR hx hfx hb5 hrg hone hal hbo hps hz5 HPL
    simp only [zT]
    gi_upto_region 12 with fail
    rw [← hW6]
    clear hW6
    have hmx : Tryz.prog.follows .mixedOrders = true:=by kernel_rfl
    have HP7:=hid (HP6.out.below hnle ((Below.refl W6.heap.size W6).drew))
    refine zgA (fun w' => ∃ vl' vp' ls' ps',PS n l D rl w W2 w5.heap.size (.slice al ls.length cl) (.slice ap ps.length cp) (szl (xs.take kx) : Nat) ⟨kd,nm,a,b,c,ot,rg,.slice ar rg.length cr⟩ vl' vp' ls' ps' w') (fun i => i == 8 || i == 9) hmx (by kernel_rfl) (fun ⟨_,_,h⟩ => h) ⟨_,_,_,_,HP7.out⟩ (fun hS => ?_)
    obtain ⟨w7,hw7⟩ : ∃ w7,w7 = W6.drew:=⟨_,rfl⟩
    rw [← hw7] at HP7 hS ⊢
    clear hw7 HP6
    refine zTk 0 (.slice al ls.length cl) rfl (by kernel_rfl) (fun _ _ _ h => h) (Or.inl ⟨by rfl,fun w9 hS9 => by (obtain ⟨_,_,_,_,h9⟩:=hS9;have hc9:=h9.cells.1;clear h9;go_simp)⟩) hS ?_
    try simp only [Act.put,List.getElem_toArray,List.getElem_cons_zero,List.setIfInBounds_toArray,List.set_cons_zero,List.set_cons_succ]
    refine zTk 1 (.agg #[.int .i64 kd,.string nm,.int .i64 a,.int .i64 b,.int .i64 c,.string ot,.slice ar rg.length cr]) rfl (by kernel_rfl) (fun _ _ _ h => h) (Or.inl ⟨by rfl,fun w9 hS9 => by (obtain ⟨_,_,_,_,h9⟩:=hS9;have hb9 : w9.heap[w5.heap.size]? = some (.cells #[.int .i64 kd,.string nm,.int .i64 a,.int .i64 b,.int .i64 c,.string ot,.slice ar rg.length cr] 77 (0,0)):=h9.box;obtain ⟨y0,y1,y2,y3,y4,y5,y6⟩:=kz hb9;clear hb9;clear h9;go_simp)⟩) hS ?_
    try simp only [Act.put,zs1,zs2,zs3,zs4,zs5,zs6]
    refine zTk 4 (.slice ap ps.length cp) rfl (by kernel_rfl) (fun _ _ _ h => h) (Or.inl ⟨by rfl,fun w9 hS9 => by (obtain ⟨_,_,_,_,h9⟩:=hS9;have hc9:=h9.cells.2.1;clear h9;go_simp)⟩) hS ?_
    try simp only [Act.put,zs1,zs2,zs3,zs4,zs5,zs6]
    refine zTk 5 (.int .i64 (szl (xs.take kx) : Nat)) rfl (by kernel_rfl) (fun _ _ _ h => h) (Or.inl ⟨by rfl,fun w9 hS9 => by (obtain ⟨_,_,_,_,h9⟩:=hS9;have hc9:=h9.cells.2.2;clear h9;go_simp)⟩) hS ?_
    try simp only [Act.put,zs1,zs2,zs3,zs4,zs5,zs6]
    clear hS
    refine zw (rs:=[2,6]) (by kernel_rfl) (by simp) ?_
    refine ze.cons rfl (fun K hK => ?_) (ze.cons rfl (fun K hK => ?_) (ze.nil))
    ·
     skip
     go_simp
     have h:=HP7.out.below hnle ((Below.refl _ _).alloc (znr _) (.cells #[.int .i64 kd,.string nm,.int .i64 a,.int .i64 b,.int .i64 c,.string ot,.slice ar rg.length cr] 77))
     have hq : (w7.alloc (.cells #[.int .i64 kd,.string nm,.int .i64 a,.int .i64 b,.int .i64 c,.string ot,.slice ar rg.length cr] 77)).heap[w7.heap.size]? = some (.cells #[.int .i64 kd,.string nm,.int .i64 a,.int .i64 b,.int .i64 c,.string ot,.slice ar rg.length cr] 77 (0,0)):=za rfl
     refine hK.out _ _ (.inr ⟨_,_,_,_,h⟩) ?_
     clear hK K
     obtain ⟨q1,hqe⟩ : ∃ q,q = w7.heap.size:=⟨_,rfl⟩
     rw [← hqe] at hq ⊢
     clear hqe
     generalize w7.alloc (.cells #[.int .i64 kd,.string nm,.int .i64 a,.int .i64 b,.int .i64 c,.string ot,.slice ar rg.length cr] 77) = w8 at h hq ⊢
     have HP8:=hid h;have HQ1_8:=hid hq;clear h hq
     try simp only [Act.put,zs1,zs2,zs3,zs4,zs5,zs6]
     refine zw (rs:=[3,6]) (by kernel_rfl) (by simp) ?_
     refine ze.cons rfl (fun K hK => ?_) (ze.cons rfl (fun K hK => ?_) (ze.nil))
     ·
      skip
      refine qz (W:=w8) (by rfl) (.tmp 36) (.tmp 38) 77 69 7 88 zT y9 ⟨kd,nm,a,b,c,ot,rg,.slice ar rg.length cr⟩ Hone.out (by rfl) iL _ jV HiL.out HzL0.out HzL1.out HzL2.out rfl (by decide) (by decide) (n + 8) (.slice al ls.length cl) ls rfl HP8.out.pl.lines.row _ rfl q1 HQ1_8.out (by rfl) (by omega) (by have:=HP8.out.n8;omega) (fun g1 c1 w9 hr hB hk => ?_)
      have h:=HP8.out.app1 hnle Hfx.out hr hB hk Hne.out
      refine hK.out _ _ (.inr ⟨_,_,_,_,h⟩) ?_
      clear hK K
      have HP9:=hid h;clear h hr hB hk
      try simp only [Act.put,zs1,zs2,zs3,zs4,zs5,zs6]
      refine zw (rs:=[6]) (by kernel_rfl) (by simp) ?_
      refine ze.cons rfl (fun K hK => ?_) (ze.nil)
      go_simp
      have h:=HP9.out.below hnle ((Below.refl _ _).alloc (znr _) (.cells #[.int .i64 (szl (xs.take kx) : Nat)] 3))
      have hq : (w9.alloc (.cells #[.int .i64 (szl (xs.take kx) : Nat)] 3)).heap[w9.heap.size]? = some (.cells #[.int .i64 (szl (xs.take kx) : Nat)] 3 (0,0)):=za rfl
      refine hK.out _ _ (.inr ⟨_,_,_,_,h⟩) ?_
      clear hK K
      obtain ⟨q2,hqe⟩ : ∃ q,q = w9.heap.size:=⟨_,rfl⟩
      rw [← hqe] at hq ⊢
      clear hqe
      generalize w9.alloc (.cells #[.int .i64 (szl (xs.take kx) : Nat)] 3) = w10 at h hq ⊢
      have HP10:=hid h;have HQ2_10:=hid hq;clear h hq
      try simp only [Act.put,zs1,zs2,zs3,zs4,zs5,zs6]
      refine zw (rs:=[7]) (by kernel_rfl) (by simp) ?_
      refine ze.cons rfl (fun K hK => ?_) (ze.nil)
      refine qz (W:=w10) (by rfl) (.tmp 40) (.tmp 42) 3 23 1 8 yF (fun _ => rfl) (szl (xs.take kx) : Nat) (fun u hu => by simp only [yF,List.mem_singleton] at hu;subst hu;rfl) (by rfl) iI _ qO HiI.out HzI0.out HzI1.out HzI2.out rfl (by decide) (by decide) (n + 8) (.slice ap ps.length cp) ps rfl HP10.out.pl.ints _ rfl q2 HQ2_10.out (by rfl) (by omega) (by have:=HP10.out.n8;omega) (fun g2 c2 w11 hr hB hk => ?_)
      have h:=HP10.out.zke hnle hr hB hk
      refine hK.out _ _ (.inr ⟨_,_,_,_,h⟩) ?_
      clear hK K
      have HP11:=hid h;clear h hr hB hk
      try simp only [Act.put,zs1,zs2,zs3,zs4,zs5,zs6]
      refine zw (rs:=[8]) (by kernel_rfl) (by simp) ?_
      refine ze.cons rfl (fun K hK => ?_) (ze.nil)
      have kc:=HP11.out.vars.k2
      have kc1:=zco kc;have kc2:=zfo kc;have kc3:=zlb kc
      have h:=HP11.out.set hnle Hbw.out Hl8.out HD8.out (p:=n + 1 + 1) (by omega) (by omega) (.slice (some ⟨g1,0,none⟩) (ls.length + 1) c1) _ _ _ (HP11.out.vars.set2 hnle _)
      go_simp
      refine hK.out _ _ (.inl rfl) ?_
      clear hK K kc kc1 kc2 kc3
      generalize w11.setCell ⟨n + 1 + 1,0,none⟩ (.slice (some ⟨g1,0,none⟩) (ls.length + 1) c1) = w12 at h ⊢
      have HP12:=hid h;clear h
      try simp only [Act.put,zs1,zs2,zs3,zs4,zs5,zs6]
      refine zw (rs:=[9]) (by kernel_rfl) (by simp) ?_
      refine ze.cons rfl (fun K hK => ?_) (ze.nil)
      have kc:=HP12.out.vars.k3
      have kc1:=zco kc;have kc2:=zfo kc;have kc3:=zlb kc
      have h:=HP12.out.set hnle Hbw.out Hl8.out HD8.out (p:=n + 1 + 1 + 1) (by omega) (by omega) (.slice (some ⟨g2,0,none⟩) (ps.length + 1) c2) _ _ _ (HP12.out.vars.zbB hnle _)
      go_simp
      refine hK.out _ _ (.inl rfl) ?_
      clear hK K kc kc1 kc2 kc3
      generalize w12.setCell ⟨n + 1 + 1 + 1,0,none⟩ (.slice (some ⟨g2,0,none⟩) (ps.length + 1) c2) = w13 at h ⊢
      have HP13:=hid h;clear h
      try simp only [Act.put,zs1,zs2,zs3,zs4,zs5,zs6]
      refine qf (by kernel_rfl) ?_ _
      have kc:=HP13.out.vars.k4
      have kc1:=zco kc;have kc2:=zfo kc;have kc3:=zlb kc
      clear kc
      gi_wp2_with fail
      exact zh5 hnle hgl Hv.out HP13.out.vars HP13.out.pl (by rw [List.length_append,List.length_append,Hlen.out];rfl) (by rw [Hf1.out];exact Hall.out.snoc HR.out) (by rw [List.length_append];have:=Hfew.out;have:=Htk.out;simp only [List.length_cons,List.length_nil];omega) HP13.out.siz HP13.out.same (HP13.out.loop.trans Hrl.out.symm) (HP13.out.zgp.trans Hd2.out.symm) Hl8.out HD8.out (by have:=Htk.out;omega)
     ·
      skip
      go_simp
      have h:=HP8.out.below hnle ((Below.refl _ _).alloc (znr _) (.cells #[.int .i64 (szl (xs.take kx) : Nat)] 3))
      have hq : (w8.alloc (.cells #[.int .i64 (szl (xs.take kx) : Nat)] 3)).heap[w8.heap.size]? = some (.cells #[.int .i64 (szl (xs.take kx) : Nat)] 3 (0,0)):=za rfl
      have hq1:=zh (o:=(.cells #[.int .i64 (szl (xs.take kx) : Nat)] 3)) HQ1_8.out
      refine hK.out _ _ (.inr ⟨_,_,_,_,h⟩) ?_
      clear hK K
      obtain ⟨q2,hqe⟩ : ∃ q,q = w8.heap.size:=⟨_,rfl⟩
      rw [← hqe] at hq ⊢
      clear hqe
      generalize w8.alloc (.cells #[.int .i64 (szl (xs.take kx) : Nat)] 3) = w9 at h hq hq1 ⊢
      have HP9:=hid h;have HQ2_9:=hid hq;have HQ1_9:=hid hq1;clear h hq hq1
      try simp only [Act.put,zs1,zs2,zs3,zs4,zs5,zs6]
      refine zw (rs:=[3]) (by kernel_rfl) (by simp) ?_
      refine ze.cons rfl (fun K hK => ?_) (ze.nil)
      refine qz (W:=w9) (by rfl) (.tmp 36) (.tmp 38) 77 69 7 88 zT y9 ⟨kd,nm,a,b,c,ot,rg,.slice ar rg.length cr⟩ Hone.out (by rfl) iL _ jV HiL.out HzL0.out HzL1.out HzL2.out rfl (by decide) (by decide) (n + 8) (.slice al ls.length cl) ls rfl HP9.out.pl.lines.row _ rfl q1 HQ1_9.out (by rfl) (by omega) (by have:=HP9.out.n8;omega) (fun g1 c1 w10 hr hB hk => ?_)
      have h:=HP9.out.app1 hnle Hfx.out hr hB hk Hne.out
      have hq2:=(hk q2 (zlb HQ2_9.out) (fun e => by obtain ⟨cur,e2⟩:=HP9.out.pl.lines.row.ty _ e;have e3:=HQ2_9.out;rw [e2] at e3;simp at e3)).trans HQ2_9.out
      refine hK.out _ _ (.inr ⟨_,_,_,_,h⟩) ?_
      clear hK K
      have HP10:=hid h;have HQ2_10:=hid hq2;clear h hr hB hk hq2
      try simp only [Act.put,zs1,zs2,zs3,zs4,zs5,zs6]
      refine zw (rs:=[7]) (by kernel_rfl) (by simp) ?_
      refine ze.cons rfl (fun K hK => ?_) (ze.nil)
      refine qz (W:=w10) (by rfl) (.tmp 40) (.tmp 42) 3 23 1 8 yF (fun _ => rfl) (szl (xs.take kx) : Nat) (fun u hu => by simp only [yF,List.mem_singleton] at hu;subst hu;rfl) (by rfl) iI _ qO HiI.out HzI0.out HzI1.out HzI2.out rfl (by decide) (by decide) (n + 8) (.slice ap ps.length cp) ps rfl HP10.out.pl.ints _ rfl q2 HQ2_10.out (by rfl) (by omega) (by have:=HP10.out.n8;omega) (fun g2 c2 w11 hr hB hk => ?_)
      have h:=HP10.out.zke hnle hr hB hk
      refine hK.out _ _ (.inr ⟨_,_,_,_,h⟩) ?_
      clear hK K
      have HP11:=hid h;clear h hr hB hk
      try simp only [Act.put,zs1,zs2,zs3,zs4,zs5,zs6]
      refine zw (rs:=[8]) (by kernel_rfl) (by simp) ?_
      refine ze.cons rfl (fun K hK => ?_) (ze.nil)
      have kc:=HP11.out.vars.k2
      have kc1:=zco kc;have kc2:=zfo kc;have kc3:=zlb kc
      have h:=HP11.out.set hnle Hbw.out Hl8.out HD8.out (p:=n + 1 + 1) (by omega) (by omega) (.slice (some ⟨g1,0,none⟩) (ls.length + 1) c1) _ _ _ (HP11.out.vars.set2 hnle _)
      go_simp
      refine hK.out _ _ (.inl rfl) ?_
      clear hK K kc kc1 kc2 kc3
      generalize w11.setCell ⟨n + 1 + 1,0,none⟩ (.slice (some ⟨g1,0,none⟩) (ls.length + 1) c1) = w12 at h ⊢
      have HP12:=hid h;clear h
      try simp only [Act.put,zs1,zs2,zs3,zs4,zs5,zs6]
      refine zw (rs:=[9]) (by kernel_rfl) (by simp) ?_
      refine ze.cons rfl (fun K hK => ?_) (ze.nil)
      have kc:=HP12.out.vars.k3
      have kc1:=zco kc;have kc2:=zfo kc;have kc3:=zlb kc
      have h:=HP12.out.set hnle Hbw.out Hl8.out HD8.out (p:=n + 1 + 1 + 1) (by omega) (by omega) (.slice (some ⟨g2,0,none⟩) (ps.length + 1) c2) _ _ _ (HP12.out.vars.zbB hnle _)
      go_simp
      refine hK.out _ _ (.inl rfl) ?_
      clear hK K kc kc1 kc2 kc3
      generalize w12.setCell ⟨n + 1 + 1 + 1,0,none⟩ (.slice (some ⟨g2,0,none⟩) (ps.length + 1) c2) = w13 at h ⊢
      have HP13:=hid h;clear h
      try simp only [Act.put,zs1,zs2,zs3,zs4,zs5,zs6]
      refine qf (by kernel_rfl) ?_ _
      have kc:=HP13.out.vars.k4
      have kc1:=zco kc;have kc2:=zfo kc;have kc3:=zlb kc
      clear kc
      gi_wp2_with fail
      exact zh5 hnle hgl Hv.out HP13.out.vars HP13.out.pl (by rw [List.length_append,List.length_append,Hlen.out];rfl) (by rw [Hf1.out];exact Hall.out.snoc HR.out) (by rw [List.length_append];have:=Hfew.out;have:=Htk.out;simp only [List.length_cons,List.length_nil];omega) HP13.out.siz HP13.out.same (HP13.out.loop.trans Hrl.out.symm) (HP13.out.zgp.trans Hd2.out.symm) Hl8.out HD8.out (by have:=Htk.out;omega)
    ·
     skip
     go_simp
     have h:=HP7.out.below hnle ((Below.refl _ _).alloc (znr _) (.cells #[.int .i64 (szl (xs.take kx) : Nat)] 3))
     have hq : (w7.alloc (.cells #[.int .i64 (szl (xs.take kx) : Nat)] 3)).heap[w7.heap.size]? = some (.cells #[.int .i64 (szl (xs.take kx) : Nat)] 3 (0,0)):=za rfl
     refine hK.out _ _ (.inr ⟨_,_,_,_,h⟩) ?_
     clear hK K
     obtain ⟨q2,hqe⟩ : ∃ q,q = w7.heap.size:=⟨_,rfl⟩
     rw [← hqe] at hq ⊢
     clear hqe
     generalize w7.alloc (.cells #[.int .i64 (szl (xs.take kx) : Nat)] 3) = w8 at h hq ⊢
     have HP8:=hid h;have HQ2_8:=hid hq;clear h hq
     try simp only [Act.put,zs1,zs2,zs3,zs4,zs5,zs6]
     refine zw (rs:=[2]) (by kernel_rfl) (by simp) ?_
     refine ze.cons rfl (fun K hK => ?_) (ze.nil)
     go_simp
     have h:=HP8.out.below hnle ((Below.refl _ _).alloc (znr _) (.cells #[.int .i64 kd,.string nm,.int .i64 a,.int .i64 b,.int .i64 c,.string ot,.slice ar rg.length cr] 77))
     have hq : (w8.alloc (.cells #[.int .i64 kd,.string nm,.int .i64 a,.int .i64 b,.int .i64 c,.string ot,.slice ar rg.length cr] 77)).heap[w8.heap.size]? = some (.cells #[.int .i64 kd,.string nm,.int .i64 a,.int .i64 b,.int .i64 c,.string ot,.slice ar rg.length cr] 77 (0,0)):=za rfl
     have hq2:=zh (o:=(.cells #[.int .i64 kd,.string nm,.int .i64 a,.int .i64 b,.int .i64 c,.string ot,.slice ar rg.length cr] 77)) HQ2_8.out
     refine hK.out _ _ (.inr ⟨_,_,_,_,h⟩) ?_
     clear hK K
     obtain ⟨q1,hqe⟩ : ∃ q,q = w8.heap.size:=⟨_,rfl⟩
     rw [← hqe] at hq ⊢
     clear hqe
     generalize w8.alloc (.cells #[.int .i64 kd,.string nm,.int .i64 a,.int .i64 b,.int .i64 c,.string ot,.slice ar rg.length cr] 77) = w9 at h hq hq2 ⊢
     have HP9:=hid h;have HQ1_9:=hid hq;have HQ2_9:=hid hq2;clear h hq hq2
     try simp only [Act.put,zs1,zs2,zs3,zs4,zs5,zs6]
     refine zw (rs:=[3]) (by kernel_rfl) (by simp) ?_
     refine ze.cons rfl (fun K hK => ?_) (ze.nil)
     refine qz (W:=w9) (by rfl) (.tmp 36) (.tmp 38) 77 69 7 88 zT y9 ⟨kd,nm,a,b,c,ot,rg,.slice ar rg.length cr⟩ Hone.out (by rfl) iL _ jV HiL.out HzL0.out HzL1.out HzL2.out rfl (by decide) (by decide) (n + 8) (.slice al ls.length cl) ls rfl HP9.out.pl.lines.row _ rfl q1 HQ1_9.out (by rfl) (by omega) (by have:=HP9.out.n8;omega) (fun g1 c1 w10 hr hB hk => ?_)
     have h:=HP9.out.app1 hnle Hfx.out hr hB hk Hne.out
     have hq2:=(hk q2 (zlb HQ2_9.out) (fun e => by obtain ⟨cur,e2⟩:=HP9.out.pl.lines.row.ty _ e;have e3:=HQ2_9.out;rw [e2] at e3;simp at e3)).trans HQ2_9.out
     refine hK.out _ _ (.inr ⟨_,_,_,_,h⟩) ?_
     clear hK K
     have HP10:=hid h;have HQ2_10:=hid hq2;clear h hr hB hk hq2
     try simp only [Act.put,zs1,zs2,zs3,zs4,zs5,zs6]
     refine zw (rs:=[7]) (by kernel_rfl) (by simp) ?_
     refine ze.cons rfl (fun K hK => ?_) (ze.nil)
     refine qz (W:=w10) (by rfl) (.tmp 40) (.tmp 42) 3 23 1 8 yF (fun _ => rfl) (szl (xs.take kx) : Nat) (fun u hu => by simp only [yF,List.mem_singleton] at hu;subst hu;rfl) (by rfl) iI _ qO HiI.out HzI0.out HzI1.out HzI2.out rfl (by decide) (by decide) (n + 8) (.slice ap ps.length cp) ps rfl HP10.out.pl.ints _ rfl q2 HQ2_10.out (by rfl) (by omega) (by have:=HP10.out.n8;omega) (fun g2 c2 w11 hr hB hk => ?_)
     have h:=HP10.out.zke hnle hr hB hk
     refine hK.out _ _ (.inr ⟨_,_,_,_,h⟩) ?_
     clear hK K
     have HP11:=hid h;clear h hr hB hk
     try simp only [Act.put,zs1,zs2,zs3,zs4,zs5,zs6]
     refine zw (rs:=[8]) (by kernel_rfl) (by simp) ?_
     refine ze.cons rfl (fun K hK => ?_) (ze.nil)
     have kc:=HP11.out.vars.k2
     have kc1:=zco kc;have kc2:=zfo kc;have kc3:=zlb kc
     have h:=HP11.out.set hnle Hbw.out Hl8.out HD8.out (p:=n + 1 + 1) (by omega) (by omega) (.slice (some ⟨g1,0,none⟩) (ls.length + 1) c1) _ _ _ (HP11.out.vars.set2 hnle _)
     go_simp
     refine hK.out _ _ (.inl rfl) ?_
     clear hK K kc kc1 kc2 kc3
     generalize w11.setCell ⟨n + 1 + 1,0,none⟩ (.slice (some ⟨g1,0,none⟩) (ls.length + 1) c1) = w12 at h ⊢
     have HP12:=hid h;clear h
     try simp only [Act.put,zs1,zs2,zs3,zs4,zs5,zs6]
     refine zw (rs:=[9]) (by kernel_rfl) (by simp) ?_
     refine ze.cons rfl (fun K hK => ?_) (ze.nil)
     have kc:=HP12.out.vars.k3
     have kc1:=zco kc;have kc2:=zfo kc;have kc3:=zlb kc
     have h:=HP12.out.set hnle Hbw.out Hl8.out HD8.out (p:=n + 1 + 1 + 1) (by omega) (by omega) (.slice (some ⟨g2,0,none⟩) (ps.length + 1) c2) _ _ _ (HP12.out.vars.zbB hnle _)
     go_simp
     refine hK.out _ _ (.inl rfl) ?_
     clear hK K kc kc1 kc2 kc3
     generalize w12.setCell ⟨n + 1 + 1 + 1,0,none⟩ (.slice (some ⟨g2,0,none⟩) (ps.length + 1) c2) = w13 at h ⊢
     have HP13:=hid h;clear h
     try simp only [Act.put,zs1,zs2,zs3,zs4,zs5,zs6]
     refine qf (by kernel_rfl) ?_ _
     have kc:=HP13.out.vars.k4
     have kc1:=zco kc;have kc2:=zfo kc;have kc3:=zlb kc
     clear kc
     gi_wp2_with fail
     exact zh5 hnle hgl Hv.out HP13.out.vars HP13.out.pl (by rw [List.length_append,List.length_append,Hlen.out];rfl) (by rw [Hf1.out];exact Hall.out.snoc HR.out) (by rw [List.length_append];have:=Hfew.out;have:=Htk.out;simp only [List.length_cons,List.length_nil];omega) HP13.out.siz HP13.out.same (HP13.out.loop.trans Hrl.out.symm) (HP13.out.zgp.trans Hd2.out.symm) Hl8.out HD8.out (by have:=Htk.out;omega)
   ·
    skip
    obtain ⟨W6,hW6⟩ : ∃ W6,W6 = w5.alloc (.cells #[.int .i64 k,.string nm,.int .i64 a,.int .i64 b,.int .i64 c,.string ot,.slice va vn vc] 77):=⟨_,rfl⟩
    have hb6 : Below w5.heap.size w5 W6:=by rw [hW6];exact zba
    have hz5:=hb5.size
    have hbo6:=hb5.trans (hb6.mono hz5)
    have hbn6:=(Hv.out.bel.trans (hbo6.mono (by omega))).drew
    obtain ⟨t,x,rfl,htl⟩:=znK (her.below (hb6.drew)) (HbT.out _ hbn6).2
    have HTl:=hid htl;have Hb6:=hid hbo6
    have Hno2:=hid (show ∀ ls,¬ yG qK (full xs) ls from fun ls hls => by obtain ⟨y,_,hy⟩:=zdZ hls _ Hmem.out;exact hno y hy)
    have hvs:=Hv.out.below hnle (hbo6.mono hn8)
    have HS:=hid (show zbC n (szl (xs.take kx) : Nat) W6.drew from ⟨⟨_,hvs.k0⟩,⟨_,hvs.k1⟩,hvs.k4⟩)
    clear hb6 hbn6 hbo6 htl her hno hvs hb5 hz5 HPL
    gi_upto_region 11 with fail
    rw [← hW6]
    clear hW6
    have hmx : Tryz.prog.follows .mixedOrders = true:=by kernel_rfl
    refine qV (zbC n (szl (xs.take kx) : Nat)) hmx (by kernel_rfl) (fun ⟨_,_,h⟩ => h) HS.out (fun hS => ?_)
    refine wpAnyH_take (i:=0) (v:=.iface t x) rfl (by kernel_rfl) (by kernel_rfl) (by kernel_rfl) (fun _ _ _ h => h) (Or.inl ⟨by rfl,fun w9 hS9 => by (have hc9:=hS9.cell;clear hS9;go_simp)⟩) hS ?_
    try simp only [Act.put,List.getElem_toArray,List.getElem_cons_zero,List.setIfInBounds_toArray,List.set_cons_zero,List.set_cons_succ]
    refine wpAnyH_take (i:=2) (v:=.int .i64 (szl (xs.take kx) : Nat)) rfl (by kernel_rfl) (by kernel_rfl) (by kernel_rfl) (fun _ _ _ h => h) (Or.inl ⟨by rfl,fun w9 hS9 => by (have hc9:=hS9.cell;clear hS9;go_simp)⟩) hS ?_
    try simp only [Act.put,zs1,zs2,zs3,zs4,zs5,zs6]
    refine wpAnyH_ready (rs:=[1]) (by kernel_rfl) (by simp) ?_
    refine AllReadyH.cons rfl (fun K hK => ?_) AllReadyH.nil
    go_simp
    refine HTl.out.mono ?_
    rintro e w7 ⟨⟨q,rfl⟩,hb7⟩
    have Hb7:=hid (Hb6.out.drew.trans (hb7.mono Hb6.out.size));have HS7:=hid (HS.out.below hb7)
    clear hb7
    refine hK.out _ _ HS7.out (fun hS => ?_)
    clear hK K
    try simp only [Act.put,zs1,zs2,zs3,zs4,zs5,zs6]
    refine wpAnyH_take (i:=3) (v:=.agg #[.int .i64 q,.int .i64 (szl (xs.take kx) : Nat)]) rfl (by kernel_rfl) (by kernel_rfl) (by kernel_rfl) (fun _ _ _ h => h) (Or.inl ⟨by rfl,fun w9 hS9 => by (have hc9:=hS9.cell;clear hS9;go_simp)⟩) hS ?_
    try simp only [Act.put,zs1,zs2,zs3,zs4,zs5,zs6]
    refine wpAnyH_ready (rs:=[4,6]) (by kernel_rfl) (by simp) ?_
    refine AllReadyH.cons rfl (fun K hK => ?_) (AllReadyH.cons rfl (fun K hK => ?_) AllReadyH.nil)
    ·
     go_simp
     refine hK.out _ _ (HS7.out.alloc _) (fun hS => ?_)
     clear hK K
     try simp only [Act.put,zs1,zs2,zs3,zs4,zs5,zs6]
     refine wpAnyH_take (i:=5) (v:=.iface 156 (.pointer (some ⟨w7.heap.size,0,none⟩))) rfl (by kernel_rfl) (by kernel_rfl) (by kernel_rfl) (fun _ _ _ h => h) (Or.inl ⟨by rfl,fun w9 hS9 => by (have hc9:=hS9.cell;clear hS9;go_simp)⟩) hS ?_
     try simp only [Act.put,zs1,zs2,zs3,zs4,zs5,zs6]
     refine wpAnyH_ready (rs:=[6]) (by kernel_rfl) (by simp) ?_
     refine AllReadyH.cons rfl (fun K hK => ?_) AllReadyH.nil
     have hx8:=(HS7.out.alloc (.cells #[.int .i64 q,.int .i64 (szl (xs.take kx) : Nat)] 158)).facts
     obtain ⟨⟨x8,y1⟩,y2,y3,⟨x9,y4⟩,y5,y6⟩:=hx8
     go_simp
     refine hK.out _ _ ((HS7.out.alloc _).set0 _) (fun hS => ?_)
     clear hK K y1 y2 y3 y4 y5 y6
     try simp only [Act.put,zs1,zs2,zs3,zs4,zs5,zs6]
     refine wpAnyH_ready (rs:=[7]) (by kernel_rfl) (by simp) ?_
     refine AllReadyH.cons rfl (fun K hK => ?_) AllReadyH.nil
     have hx8:=((HS7.out.alloc (.cells #[.int .i64 q,.int .i64 (szl (xs.take kx) : Nat)] 158)).set0 (.pointer none)).facts
     obtain ⟨⟨x8,y1⟩,y2,y3,⟨x9,y4⟩,y5,y6⟩:=hx8
     go_simp
     refine hK.out _ _ (((HS7.out.alloc _).set0 _).set1 _) (fun hS => ?_)
     clear hK K y1 y2 y3 y4 y5 y6
     try simp only [Act.put,zs1,zs2,zs3,zs4,zs5,zs6]
     refine wpAnyH_done (by kernel_rfl) ?_ _
     gi_wp2_with fail
     obtain ⟨⟨x8,g1⟩,⟨x9,g2⟩,g3⟩:=HS7.out
     exact zil hnle hgl Hv.out Hb7.out ⟨rl,Hrl.out⟩ Hd2.out ⟨Hl8.out,HD8.out⟩ hn8 (((Kept.alloc _ _ _).trans (Kept.set _ ⟨n,0,none⟩ _ (.inl rfl))).trans (Kept.set _ ⟨n + 1,0,none⟩ _ (.inr rfl))) ((zhc _ _ _ _ (by show n ≠ n + 1;omega)).trans (one_setCell (zh g1))) (one_setCell ((zhc _ _ _ _ (by show n + 1 ≠ n;omega)).trans (zh g2))) ((zhc _ _ _ _ (by have:=zlb g2;show w7.heap.size ≠ n + 1;omega)).trans ((zhc _ _ _ _ (by have:=zlb g1;show w7.heap.size ≠ n;omega)).trans (za rfl))) Hno2.out
    ·
     have hx8:=HS7.out.facts
     obtain ⟨⟨x8,y1⟩,y2,y3,⟨x9,y4⟩,y5,y6⟩:=hx8
     go_simp
     refine hK.out _ _ (HS7.out.set0 _) (fun hS => ?_)
     clear hK K y1 y2 y3 y4 y5 y6
     try simp only [Act.put,zs1,zs2,zs3,zs4,zs5,zs6]
     refine wpAnyH_ready (rs:=[4]) (by kernel_rfl) (by simp) ?_
     refine AllReadyH.cons rfl (fun K hK => ?_) AllReadyH.nil
     go_simp
     refine hK.out _ _ ((HS7.out.set0 _).alloc _) (fun hS => ?_)
     clear hK K
     try simp only [Act.put,zs1,zs2,zs3,zs4,zs5,zs6]
     refine wpAnyH_take (i:=5) (v:=.iface 156 (.pointer (some ⟨w7.heap.size,0,none⟩))) rfl (by kernel_rfl) (by kernel_rfl) (by kernel_rfl) (fun _ _ _ h => h) (Or.inl ⟨by rfl,fun w9 hS9 => by (have hc9:=hS9.cell;clear hS9;go_simp)⟩) hS ?_
     try simp only [Act.put,zs1,zs2,zs3,zs4,zs5,zs6]
     refine wpAnyH_ready (rs:=[7]) (by kernel_rfl) (by simp) ?_
     refine AllReadyH.cons rfl (fun K hK => ?_) AllReadyH.nil
     have hx8:=((HS7.out.set0 (.pointer none)).alloc (.cells #[.int .i64 q,.int .i64 (szl (xs.take kx) : Nat)] 158)).facts
     obtain ⟨⟨x8,y1⟩,y2,y3,⟨x9,y4⟩,y5,y6⟩:=hx8
     go_simp
     refine hK.out _ _ (((HS7.out.set0 _).alloc _).set1 _) (fun hS => ?_)
     clear hK K y1 y2 y3 y4 y5 y6
     try simp only [Act.put,zs1,zs2,zs3,zs4,zs5,zs6]
     refine wpAnyH_done (by kernel_rfl) ?_ _
     gi_wp2_with fail
     obtain ⟨⟨x8,g1⟩,⟨x9,g2⟩,g3⟩:=HS7.out
     exact zil hnle hgl Hv.out Hb7.out ⟨rl,Hrl.out⟩ Hd2.out ⟨Hl8.out,HD8.out⟩ hn8 (((Kept.set _ ⟨n,0,none⟩ _ (.inl rfl)).trans (Kept.alloc _ _ _)).trans (Kept.set _ ⟨n + 1,0,none⟩ _ (.inr rfl))) ((zhc _ _ _ _ (by show n ≠ n + 1;omega)).trans (zh (one_setCell g1))) (one_setCell (zh ((zhc _ _ _ _ (by show n + 1 ≠ n;omega)).trans g2))) ((zhc _ _ _ _ (by have:=zlb g2;show w7.heap.size ≠ n + 1;omega)).trans (za (by simp))) Hno2.out
 case done =>
  intro D W hD hi hdf
  obtain ⟨vl,vp,ls,ps,hv,hpl,hlen,hall,hfew⟩:=hi
  rw [List.take_length] at hv hall hfew
  obtain ⟨⟨al,cl,rfl⟩,ap,cp,rfl⟩:=hpl.shape
  have hD8 : n + 8 ≤ D:=by omega
  have hls : qD s ls:=(Hpc.out ls).1 hall
  have kc2:=zco hv.k2
  have HN:=hid (zps (n + 8) (.slice al ls.length cl) ls W hpl.lines)
  have Hv:=hid hv;have Hpl:=hid hpl;have Hlen:=hid hlen;have Hls:=hid hls;have Hdf:=hid hdf
  clear hv hpl hlen hall hfew hls hdf hit h00 hspl k0 k1 k2 k3 k4 k5 k6 k7 hb0 hL0 hmm
  gi_wp2_with fail
  refine ⟨trivial,?_⟩
  refine (callsIn_wide.2 HN.out).mono ?_
  have taN:=zru;have taE:=znf;have taA:=ta_at
  rintro e w1 ⟨⟨p,items,rfl,hcat,hp⟩ | ⟨er,rfl,hno,⟨k,rfl⟩ | ⟨q,k,pl,rfl,hq,hpl0,hpl1⟩⟩,hb1⟩
  ·
   have k0:=(hb1.block _ (zlb Hv.out.k0)).trans Hv.out.k0
   have k1:=(hb1.block _ (zlb Hv.out.k1)).trans Hv.out.k1
   have kd:=(hb1.block _ (zlb Hdf.out)).trans Hdf.out
   have hb:=Hv.out.bel.trans (hb1.mono (by have:=Hv.out.lt;omega))
   have z0:=zco k0;have z1:=zco k1;have f0:=zfo k0;have f1:=zfo k1;have l0:=zlb k0;have l1:=zlb k1
   obtain ⟨g0,g1,g2,g3,g4⟩:=zh2 (.pointer (some ⟨p,0,none⟩)) .nilIface k0 k1 hb kd hD8
   obtain ⟨e1,e2,e3,e4⟩:=za5 hnle g0 g1 g2 g3 hD8 (by omega)
   have hkk : ∀ j,j ≠ n → j ≠ n + 1 → j ≠ D → (((w1.setCell ⟨n,0,none⟩ (.pointer (some ⟨p,0,none⟩))).setCell ⟨n + 1,0,none⟩ .nilIface).putObj D (.deferred none)).heap[j]? = w1.heap[j]?:=fun j h0 h1 h2 => (e4 j h2).trans (g4 j h0 h1)
   have hc2:=hcat.yI (zch (by decide) (by decide) k0 k1 kd hkk) (zch (by decide) (by decide) k0 k1 kd hkk) (zch (by decide) (by decide) k0 k1 kd hkk) (zch (by decide) (by decide) k0 k1 kd hkk)
   have G3:=hid g3;have E1:=hid e1;have E2:=hid e2;have E3:=hid e3;have HC:=hid hc2;have HP:=hid (show w.heap.size ≤ p by have:=Hv.out.bel.size;omega)
   clear g0 g1 g2 g3 g4 e1 e2 e3 e4 hkk hc2 hcat hp hb kd k0 k1 hb1 HN
   gi_wp2_with fail
   refine ⟨by simp,.inl ⟨_,_,rfl,run_takeDeferred G3.out,?_⟩⟩
   refine ⟨.tuple #[.pointer (some ⟨p,0,none⟩),.nilIface],?_,.inl ⟨p,ls,items,rfl,HC.out,HP.out,hs,Hls.out⟩,by rw [← Hn.out];exact E3.out⟩
   simp [results,Tryz.f33,go_sem,E1.out,E2.out]
  ·
   have k0:=(hb1.block _ (zlb Hv.out.k0)).trans Hv.out.k0
   have k1:=(hb1.block _ (zlb Hv.out.k1)).trans Hv.out.k1
   have kd:=(hb1.block _ (zlb Hdf.out)).trans Hdf.out
   have hb:=Hv.out.bel.trans (hb1.mono (by have:=Hv.out.lt;omega))
   have z0:=zco k0;have z1:=zco k1;have f0:=zfo k0;have f1:=zfo k1;have l0:=zlb k0;have l1:=zlb k1
   obtain ⟨g0,g1,g2,g3,g4⟩:=zh2 (.pointer none) (.iface 45 (.int .i64 k)) k0 k1 hb kd hD8
   obtain ⟨e1,e2,e3,e4⟩:=za5 hnle g0 g1 g2 g3 hD8 (by omega)
   have G3:=hid g3;have E1:=hid e1;have E2:=hid e2;have E3:=hid e3;have Hno:=hid hno
   clear g0 g1 g2 g3 g4 e1 e2 e3 e4 hno hb kd k0 k1 hb1 HN
   gi_wp2_with fail
   refine ⟨by simp,.inl ⟨_,_,rfl,run_takeDeferred G3.out,?_⟩⟩
   refine ⟨.tuple #[.pointer none,.iface 45 (.int .i64 k)],?_,.inr ⟨_,rfl,.inl ⟨k,rfl⟩,fun ls' _ hls' hok => Hno.out (ziH (hls'.one Hls.out) hok)⟩,by rw [← Hn.out];exact E3.out⟩
   simp [results,Tryz.f33,go_sem,E1.out,E2.out]
  ·
   skip
   have k0:=(hb1.block _ (zlb Hv.out.k0)).trans Hv.out.k0
   have k1:=(hb1.block _ (zlb Hv.out.k1)).trans Hv.out.k1
   have k3:=(hb1.block _ (zlb Hv.out.k3)).trans Hv.out.k3
   have kd:=(hb1.block _ (zlb Hdf.out)).trans Hdf.out
   have hb:=Hv.out.bel.trans (hb1.mono (by have:=Hv.out.lt;omega))
   obtain ⟨j,rfl⟩ : ∃ j : Nat,pl = (j : Int):=⟨pl.toNat,by omega⟩
   have hj : j < ps.length:=by have:=Hlen.out;omega
   have hrow : zo w1 (n + 8) 3 1 yF (.slice ap ps.length cp) ps:=zo.below Hpl.out.ints hb1
   obtain ⟨g,rfl,hg,_⟩:=zo.at hrow (by omega)
   have hcell:=zo.cell (enc:=yF) (z:=1) (fun _ => rfl) hrow (k:=j) hj (j:=0) Nat.one_pos (u:=.int .i64 ps[j]) rfl
   obtain ⟨cur,hcur⟩:=zo.ty hrow g rfl
   rw [cell_of_row w1 g _ cur _ _ hcur,Nat.mul_one,Nat.add_zero] at hcell
   obtain ⟨v,hv⟩ : ∃ v,v = ps[j]:=⟨_,rfl⟩
   rw [← hv] at hcell
   have HS:=hid (SA.below (show SA n q g k j (.slice (some ⟨g,0,none⟩) ps.length cp) j v w1 from ⟨⟨_,k0⟩,⟨_,k1⟩,k3,hq,cur,hcur,hcell⟩) ((Below.refl w1.heap.size w1).drew))
   have hdr : Below w1.heap.size w1 w1.drew:=(Below.refl _ _).drew
   have HK:=hid (show ∃ x y,w1.drew.heap[n]? = some (.cells #[x] 24 (0,0)) ∧ w1.drew.heap[n + 1]? = some (.cells #[y] 33 (0,0)) ∧ w1.drew.heap[D]? = some (.deferred (some [])) ∧ Below n w w1.drew from ⟨_,_,(hdr.block _ (zlb k0)).trans k0,(hdr.block _ (zlb k1)).trans k1,(hdr.block _ (zlb kd)).trans kd,hb.trans (hdr.mono (Nat.le_of_lt (zlb k0)))⟩)
   have Hno:=hid (show ∀ ls',qD s ls' → ¬ jW ls' from fun ls' hls' hok => hno (ziH (hls'.one Hls.out) hok))
   clear k0 k1 k3 kd hb hrow hcell hcur hq hno hb1 HN hv hdr hg
   gi_upto_region 17 with fail
   have hmx : Tryz.prog.follows .mixedOrders = true:=by kernel_rfl
   refine wpIn_wide.2 (wp_region_noPanic ?_)
   refine zi6 (SA n q g k j (.slice (some ⟨g,0,none⟩) ps.length cp) j v) (fun _ => false) hmx HS.out (fun hS => ?_)
   obtain ⟨w7,hw7⟩ : ∃ w7,w7 = w1.drew:=⟨_,rfl⟩
   rw [← hw7] at HS HK hS ⊢
   clear hw7
   refine zTk 0 (.pointer (some ⟨q,0,none⟩)) rfl (by kernel_rfl) (fun _ _ _ h => h) (Or.inl ⟨by rfl,fun w9 hS9 => by (obtain ⟨c1,c2,c3,c4⟩:=hS9.cells;clear hS9;go_simp)⟩) hS ?_
   try simp only [Act.put,List.getElem_toArray,List.getElem_cons_zero,List.setIfInBounds_toArray,List.set_cons_zero,List.set_cons_succ]
   refine zTk 1 (.pointer (some ⟨q,0,none⟩)) rfl (by kernel_rfl) (fun _ _ _ h => h) (Or.inl ⟨by rfl,fun w9 hS9 => by (obtain ⟨c1,c2,c3,c4⟩:=hS9.cells;clear hS9;go_simp)⟩) hS ?_
   try simp only [Act.put,zs1,zs2,zs3,zs4,zs5,zs6]
   refine zTk 2 (.pointer (some ⟨q,0,none⟩)) rfl (by kernel_rfl) (fun _ _ _ h => h) (Or.inl ⟨by rfl,fun w9 hS9 => by (obtain ⟨c1,c2,c3,c4⟩:=hS9.cells;clear hS9;go_simp)⟩) hS ?_
   try simp only [Act.put,zs1,zs2,zs3,zs4,zs5,zs6]
   refine zTk 3 (.int .i64 k) rfl (by kernel_rfl) (fun _ _ _ h => h) (Or.inl ⟨by rfl,fun w9 hS9 => by (obtain ⟨c1,c2,c3,c4⟩:=hS9.cells;clear hS9;go_simp)⟩) hS ?_
   try simp only [Act.put,zs1,zs2,zs3,zs4,zs5,zs6]
   refine zTk 4 (.slice (some ⟨g,0,none⟩) ps.length cp) rfl (by kernel_rfl) (fun _ _ _ h => h) (Or.inl ⟨by rfl,fun w9 hS9 => by (obtain ⟨c1,c2,c3,c4⟩:=hS9.cells;clear hS9;go_simp)⟩) hS ?_
   try simp only [Act.put,zs1,zs2,zs3,zs4,zs5,zs6]
   refine zTk 5 (.pointer (some ⟨q,0,none⟩)) rfl (by kernel_rfl) (fun _ _ _ h => h) (Or.inl ⟨by rfl,fun w9 hS9 => by (obtain ⟨c1,c2,c3,c4⟩:=hS9.cells;clear hS9;go_simp)⟩) hS ?_
   try simp only [Act.put,zs1,zs2,zs3,zs4,zs5,zs6]
   refine zTk 6 (.pointer (some ⟨q,0,none⟩)) rfl (by kernel_rfl) (fun _ _ _ h => h) (Or.inl ⟨by rfl,fun w9 hS9 => by (obtain ⟨c1,c2,c3,c4⟩:=hS9.cells;clear hS9;go_simp)⟩) hS ?_
   try simp only [Act.put,zs1,zs2,zs3,zs4,zs5,zs6]
   refine zTk 7 (.pointer (some ⟨q,1,none⟩)) rfl (by kernel_rfl) (fun _ _ _ h => h) (Or.inl ⟨by rfl,fun w9 hS9 => by (obtain ⟨c1,c2,c3,c4⟩:=hS9.cells;clear hS9;go_simp)⟩) hS ?_
   try simp only [Act.put,zs1,zs2,zs3,zs4,zs5,zs6]
   refine zTk 8 (.int .i64 j) rfl (by kernel_rfl) (fun _ _ _ h => h) (Or.inl ⟨by rfl,fun w9 hS9 => by (obtain ⟨c1,c2,c3,c4⟩:=hS9.cells;clear hS9;go_simp)⟩) hS ?_
   try simp only [Act.put,zs1,zs2,zs3,zs4,zs5,zs6]
   refine zTk 9 (.pointer (some ⟨g,j,none⟩)) rfl (by kernel_rfl) (fun _ _ _ h => h) (Or.inl ⟨by rfl,fun w9 hS9 => by (obtain ⟨c1,c2,c3,c4⟩:=hS9.cells;clear hS9;go_simp)⟩) hS ?_
   try simp only [Act.put,zs1,zs2,zs3,zs4,zs5,zs6]
   refine zTk 10 (.int .i64 v) rfl (by kernel_rfl) (fun _ _ _ h => h) (Or.inl ⟨by rfl,fun w9 hS9 => by (obtain ⟨c1,c2,c3,c4⟩:=hS9.cells;clear hS9;go_simp)⟩) hS ?_
   try simp only [Act.put,zs1,zs2,zs3,zs4,zs5,zs6]
   refine zTk 11 (.agg #[.int .i64 k,.int .i64 v]) rfl (by kernel_rfl) (fun _ _ _ h => h) (Or.inl ⟨by rfl,fun w9 hS9 => by (obtain ⟨c1,c2,c3,c4⟩:=hS9.cells;clear hS9;go_simp)⟩) hS ?_
   try simp only [Act.put,zs1,zs2,zs3,zs4,zs5,zs6]
   refine zw (rs:=[12,14]) (by kernel_rfl) (by simp) ?_
   refine ze.cons rfl (fun K hK => ?_) (ze.cons rfl (fun K hK => ?_) ze.nil)
   ·
    go_simp
    refine hK.out _ _ (.inr (HS.out.alloc _)) ?_
    have hS:=HS.out.alloc (.cells #[.int .i64 k,.int .i64 v] 158)
    clear hK K
    try simp only [Act.put,zs1,zs2,zs3,zs4,zs5,zs6]
    refine zTk 13 (.iface 156 (.pointer (some ⟨w7.heap.size,0,none⟩))) rfl (by kernel_rfl) (fun _ _ _ h => h) (Or.inl ⟨by rfl,fun w9 hS9 => by (obtain ⟨c1,c2,c3,c4⟩:=hS9.cells;clear hS9;go_simp)⟩) hS ?_
    try simp only [Act.put,zs1,zs2,zs3,zs4,zs5,zs6]
    refine zw (rs:=[14]) (by kernel_rfl) (by simp) ?_
    refine ze.cons rfl (fun K hK => ?_) ze.nil
    have hx8:=(HS.out.alloc (.cells #[.int .i64 k,.int .i64 v] 158)).facts
    obtain ⟨⟨x8,y1⟩,y2,y3,⟨x9,y4⟩,y5,y6⟩:=hx8
    go_simp
    refine hK.out _ _ (.inr ((HS.out.alloc (.cells #[.int .i64 k,.int .i64 v] 158)).set0 (.pointer none))) ?_
    have hS:=hid ((HS.out.alloc (.cells #[.int .i64 k,.int .i64 v] 158)).set0 (.pointer none))
    replace hS:=hS.out
    clear hK K y1 y2 y3 y4 y5 y6
    try simp only [Act.put,zs1,zs2,zs3,zs4,zs5,zs6]
    refine zw (rs:=[15]) (by kernel_rfl) (by simp) ?_
    refine ze.cons rfl (fun K hK => ?_) ze.nil
    have hx8:=((HS.out.alloc (.cells #[.int .i64 k,.int .i64 v] 158)).set0 (.pointer none)).facts
    obtain ⟨⟨x8,y1⟩,y2,y3,⟨x9,y4⟩,y5,y6⟩:=hx8
    go_simp
    refine hK.out _ _ (.inr (((HS.out.alloc (.cells #[.int .i64 k,.int .i64 v] 158)).set0 (.pointer none)).set1 (.iface 156 (.pointer (some ⟨w7.heap.size,0,none⟩))))) ?_
    have hS:=hid (((HS.out.alloc (.cells #[.int .i64 k,.int .i64 v] 158)).set0 (.pointer none)).set1 (.iface 156 (.pointer (some ⟨w7.heap.size,0,none⟩))))
    replace hS:=hS.out
    clear hK K y1 y2 y3 y4 y5 y6
    try simp only [Act.put,zs1,zs2,zs3,zs4,zs5,zs6]
    refine qf (by kernel_rfl) (NoPanic.normal ?_) _
    obtain ⟨x8,y8,g0,g1,g2,g3⟩:=HK.out
    obtain ⟨f0,f1,f2,f3,f4⟩:=zh2 (.pointer none) (.iface 156 (.pointer (some ⟨w7.heap.size,0,none⟩))) (zh (o:=(.cells #[.int .i64 k,.int .i64 v] 158)) g0) (zh (o:=(.cells #[.int .i64 k,.int .i64 v] 158)) g1) (g3.alloc (Nat.le_of_lt (zlb g0)) (.cells #[.int .i64 k,.int .i64 v] 158)) (zh (o:=(.cells #[.int .i64 k,.int .i64 v] 158)) g2) hD8
    obtain ⟨e1,e2,e3,e4⟩:=za5 hnle f0 f1 f2 f3 hD8 (by omega)
    have e5:=(e4 w7.heap.size (by have:=zlb g2;omega)).trans ((f4 w7.heap.size (by have:=zlb g0;omega) (by have:=zlb g1;omega)).trans (za rfl))
    have F3:=hid f3;have E1:=hid e1;have E2:=hid e2;have E3:=hid e3;have E5:=hid e5
    clear f0 f1 f2 f3 f4 e1 e2 e3 e4 e5 g0 g1 g2 g3 HK HS
    gi_wp2_with fail
    refine ⟨by simp,.inl ⟨_,_,rfl,run_takeDeferred F3.out,?_⟩⟩
    refine ⟨.tuple #[.pointer none,.iface 156 (.pointer (some ⟨w7.heap.size,0,none⟩))],?_,.inr ⟨_,rfl,.inr ⟨_,k,v,rfl,E5.out⟩,fun ls' _ hls' => Hno.out ls' hls'⟩,by rw [← Hn.out];exact E3.out⟩
    simp [results,Tryz.f33,go_sem,E1.out,E2.out]
   ·
    have hx8:=HS.out.facts
    obtain ⟨⟨x8,y1⟩,y2,y3,⟨x9,y4⟩,y5,y6⟩:=hx8
    go_simp
    refine hK.out _ _ (.inr (HS.out.set0 (.pointer none))) ?_
    clear hK K y1 y2 y3 y4 y5 y6
    try simp only [Act.put,zs1,zs2,zs3,zs4,zs5,zs6]
    refine zw (rs:=[12]) (by kernel_rfl) (by simp) ?_
    refine ze.cons rfl (fun K hK => ?_) ze.nil
    go_simp
    refine hK.out _ _ (.inr ((HS.out.set0 (.pointer none)).alloc _)) ?_
    have hS:=(HS.out.set0 (.pointer none)).alloc (.cells #[.int .i64 k,.int .i64 v] 158)
    clear hK K
    try simp only [Act.put,zs1,zs2,zs3,zs4,zs5,zs6]
    refine zTk 13 (.iface 156 (.pointer (some ⟨w7.heap.size,0,none⟩))) rfl (by kernel_rfl) (fun _ _ _ h => h) (Or.inl ⟨by rfl,fun w9 hS9 => by (obtain ⟨c1,c2,c3,c4⟩:=hS9.cells;clear hS9;go_simp)⟩) hS ?_
    try simp only [Act.put,zs1,zs2,zs3,zs4,zs5,zs6]
    refine zw (rs:=[15]) (by kernel_rfl) (by simp) ?_
    refine ze.cons rfl (fun K hK => ?_) ze.nil
    have hx8:=((HS.out.set0 (.pointer none)).alloc (.cells #[.int .i64 k,.int .i64 v] 158)).facts
    obtain ⟨⟨x8,y1⟩,y2,y3,⟨x9,y4⟩,y5,y6⟩:=hx8
    go_simp
    refine hK.out _ _ (.inr (((HS.out.set0 (.pointer none)).alloc (.cells #[.int .i64 k,.int .i64 v] 158)).set1 (.iface 156 (.pointer (some ⟨w7.heap.size,0,none⟩))))) ?_
    have hS:=hid (((HS.out.set0 (.pointer none)).alloc (.cells #[.int .i64 k,.int .i64 v] 158)).set1 (.iface 156 (.pointer (some ⟨w7.heap.size,0,none⟩))))
    replace hS:=hS.out
    clear hK K y1 y2 y3 y4 y5 y6
    try simp only [Act.put,zs1,zs2,zs3,zs4,zs5,zs6]
    refine qf (by kernel_rfl) (NoPanic.normal ?_) _
    obtain ⟨x8,y8,g0,g1,g2,g3⟩:=HK.out
    obtain ⟨f0,f1,f2,f3,f4⟩:=zm7 (W1:=(w7.setCell ⟨n,0,none⟩ (.pointer none)).alloc (.cells #[.int .i64 k,.int .i64 v] 158)) (.iface 156 (.pointer (some ⟨w7.heap.size,0,none⟩))) (zh (one_setCell g0)) (zh ((zhc _ _ _ _ (by show n + 1 ≠ n;omega)).trans g1)) ((g3.setCell (p:=⟨n,0,none⟩) (znr _) _).alloc (by simp;exact Nat.le_of_lt (zlb g0)) _) (zh ((zhc _ _ _ _ (by show D ≠ n;omega)).trans g2)) hD8
    obtain ⟨e1,e2,e3,e4⟩:=za5 hnle f0 f1 f2 f3 hD8 (by omega)
    have e5:=(e4 w7.heap.size (by have:=zlb g2;omega)).trans ((f4 w7.heap.size (by have:=zlb g1;omega)).trans (za (by simp)))
    have F3:=hid f3;have E1:=hid e1;have E2:=hid e2;have E3:=hid e3;have E5:=hid e5
    clear f0 f1 f2 f3 f4 e1 e2 e3 e4 e5 g0 g1 g2 g3 HK HS
    gi_wp2_with fail
    refine ⟨by simp,.inl ⟨_,_,rfl,run_takeDeferred F3.out,?_⟩⟩
    refine ⟨.tuple #[.pointer none,.iface 156 (.pointer (some ⟨w7.heap.size,0,none⟩))],?_,.inr ⟨_,rfl,.inr ⟨_,k,v,rfl,E5.out⟩,fun ls' _ hls' => Hno.out ls' hls'⟩,by rw [← Hn.out];exact E3.out⟩
    simp [results,Tryz.f33,go_sem,E1.out,E2.out]
 case stop =>
  intro D W hD hi hdf
  obtain ⟨p,q,pl,h1,h2,h3,h4,h5⟩:=hi
  have hD8 : n + 8 ≤ D:=by omega
  obtain ⟨e1,e2,e3,e4⟩:=za5 hnle h1 h2 h5 hdf hD8 (by omega)
  have hpD : p ≠ D:=by intro e;subst e;rw [h3] at hdf;cases hdf
  have e5:=(e4 p hpD).trans h3
  refine ⟨by simp,.inl ⟨_,_,rfl,run_takeDeferred hdf,?_⟩⟩
  refine ⟨.tuple #[.pointer none,.iface 156 (.pointer (some ⟨p,0,none⟩))],?_,.inr ⟨_,rfl,.inr ⟨p,q,pl,rfl,e5⟩,fun ls' _ hls' _ => h4 ls' ((Hpc.out ls').2 hls')⟩,by rw [← Hn.out];exact e3⟩
  simp [results,Tryz.f33,go_sem,e1,e2]
theorem zfn (s : ByteArray) (w : World) (hm : s.size ≤ 9223372036854775807) (hL : xQ w) (hT : zV w) : Calls Tryz.prog 33 #[.string s] w (zlh s w):=by
 by_cases hs : s.size ≤ 20000
 · exact zh7 s w hs hL hT
 ·
  have hd : decide (20000 < (s.size : Int)) = true:=by simp;omega
  have Hs:=hid hs
  clear hs hL hT
  go_enter Tryz.func33,Tryz.ntmps33
  go_wp2_with fail
  exact bodyPost_ret (v:=.tuple #[.pointer none,.iface 45 (.int .i64 4)]) (by simp [results,Tryz.results33,go_sem]) rfl ⟨.inr ⟨_,rfl,.inl ⟨4,rfl⟩,fun ls h => absurd h Hs.out⟩,(zba).alloc (by simp) _⟩
