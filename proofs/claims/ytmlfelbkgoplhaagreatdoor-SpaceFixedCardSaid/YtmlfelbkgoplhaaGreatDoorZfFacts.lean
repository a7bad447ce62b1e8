import Derived.Test.YtmlfelbkgoplhaaGreatDoorZfU
import Derived.Deep.RegionHeld3
import Derived.WalkKit
set_option linter.unusedVariables false
set_option linter.unusedSimpArgs false
namespace Go.Proofs.YtmlfelbkgoplhaaGreatDoor
open Go.RowKit
section
variable {P : Program} {ops : Array Oper} {Q : Exit → Act → World → Prop}
def zcL (ops : Array Oper) : Bool:=(List.range ops.size).all fun i => match ops[i]? with
 | some o => o.after.all fun e => !Region.binds .any e || decide (e.on < i)
 | none => true
theorem zlB (h : zcL ops = true) {i : Nat} {o : Oper} (ho : ops[i]? = some o) : ∀ e ∈ o.after,Region.binds .any e = true → e.on < i:=by
 intro e he hb
 have hi:=(Array.getElem?_eq_some_iff.1 ho).1
 unfold zcL at h
 have:=List.all_eq_true.1 h i (List.mem_range.2 hi)
 rw [ho] at this
 simp only [Array.all_eq_true',Bool.or_eq_true,Bool.not_eq_true',decide_eq_true_eq] at this
 rcases this e he with h1 | h1
 · rw [hb] at h1;cases h1
 · exact h1
theorem zgG {l : Array Bool} {i : Nat} (h : i ∈ Region.ready .any ops l) : ∃ o,ops[i]? = some o ∧ l.getD i true = false ∧ ∀ e ∈ o.after,Region.binds .any e = true → l.getD e.on false = true:=by
 unfold Region.ready at h
 rw [List.mem_filter] at h
 obtain ⟨h1,h2⟩:=h
 have hi:=List.mem_range.1 h1
 refine ⟨ops[i],Array.getElem?_eq_getElem hi,?_,?_⟩
 · simp only [Bool.and_eq_true,Bool.not_eq_true'] at h2;exact h2.1
 ·
  simp only [Bool.and_eq_true] at h2
  have h3:=h2.2
  rw [Array.getElem?_eq_getElem hi] at h3
  simp only [Option.map_some,Option.getD_some,Array.all_eq_true',Bool.or_eq_true,Bool.not_eq_true'] at h3
  intro e he hb
  rcases h3 e he with h4 | h4
  · rw [hb] at h4;cases h4
  · exact h4
theorem ready_nil (hl : zcL ops = true) {l : Array Bool} (hs : l.size = ops.size) (hr : Region.ready .any ops l = []) : ∀ i,i < ops.size → l.getD i true = true:=by
 intro i
 induction i using Nat.strongRecOn with
 | _ i ih =>
  intro hi
  cases e : l.getD i true with
  | true => rfl
  | false =>
   exfalso
   have : i ∈ Region.ready .any ops l:=by
    unfold Region.ready
    rw [List.mem_filter]
    refine ⟨List.mem_range.2 hi,?_⟩
    rw [e,Array.getElem?_eq_getElem hi]
    simp only [Bool.not_false,Bool.true_and,Option.map_some,Option.getD_some,Array.all_eq_true',Bool.or_eq_true,Bool.not_eq_true']
    intro x hx
    cases hb : Region.binds .any x with
    | false => exact .inl rfl
    | true =>
    have hlt:=zlB hl (Array.getElem?_eq_getElem hi) x hx hb
    have h2:=ih x.on hlt (by omega)
    refine .inr ?_
    rw [Array.getD_eq_getD_getElem?,Array.getElem?_eq_getElem (by omega)] at h2 ⊢
    exact h2
   rw [hr] at this
   cases this
def ziP (n : Nat) (l : Array Bool) : Nat:=(List.range n).countP fun i => !l.getD i true
theorem zmf {n i : Nat} {l : Array Bool} (hi : i < n) (hs : l.size = n) (h0 : l.getD i true = false) : ziP n (l.setIfInBounds i true) + 1 = ziP n l:=by
 have hg : ∀ j,(l.setIfInBounds i true).getD j true = if j = i then true else l.getD j true:=by
  intro j
  rw [Array.getD_eq_getD_getElem?,Array.getElem?_setIfInBounds,Array.getD_eq_getD_getElem?]
  by_cases e : i = j
  · subst e;rw [if_pos rfl,if_pos rfl];split <;> rfl
  · rw [if_neg e,if_neg (Ne.symm e)]
 unfold ziP
 have key : ∀ m,m ≤ n → (List.range m).countP (fun j => !(l.setIfInBounds i true).getD j true) + (if i < m then 1 else 0) = (List.range m).countP (fun j => !l.getD j true):=by
  intro m
  induction m with
  | zero => intro _;simp
  | succ m ih =>
   intro hm
   have:=ih (by omega)
   rw [List.range_succ,List.countP_append,List.countP_append,List.countP_singleton,List.countP_singleton,hg]
   by_cases e : m = i
   ·
    subst e
    rw [if_pos rfl,h0]
    simp at this ⊢
    omega
   ·
    rw [if_neg e]
    have e2 : (if i < m + 1 then 1 else 0 : Nat) = if i < m then 1 else 0:=by
     by_cases h1 : i < m
     · rw [if_pos h1,if_pos (by omega)]
     · rw [if_neg h1,if_neg (by omega)]
    rw [e2]
    omega
 have:=key n (znr _)
 rw [if_pos hi] at this
 exact this
theorem zhi (Inv : Array Bool → Act → World → Prop) (hl : zcL ops = true)
 (hstep : ∀ l a w i o,l.size = ops.size → ops[i]? = some o → l.getD i true = false → (∀ e ∈ o.after,Region.binds .any e = true → l.getD e.on false = true) → Inv l a w → wpOp P ops Q i (fun a' w' => Inv (l.setIfInBounds i true) a' w') a w)
 (hdone : ∀ l a w,l.size = ops.size → (∀ i,i < ops.size → l.getD i true = true) → Inv l a w → Q .normal a w) :
 ∀ (n : Nat) (l : Array Bool) (a : Act) (w : World),l.size = ops.size → ziP ops.size l ≤ n → Inv l a w → wpAny P .any ops Q n l a w
 | 0,l,a,w,hs,hn,hi => by
  have hall : ∀ i,i < ops.size → l.getD i true = true:=by
   intro i hlt
   unfold ziP at hn
   have h0 : (List.range ops.size).countP (fun i => !l.getD i true) = 0:=by omega
   rw [List.countP_eq_zero] at h0
   have:=h0 i (List.mem_range.2 hlt)
   simpa using this
  refine ⟨?_,hdone l a w hs hall hi⟩
  cases e : Region.ready .any ops l with
  | nil => rfl
  | cons i r =>
   obtain ⟨o,ho,h1,_⟩:=zgG (i:=i) (l:=l) (by rw [e];exact List.mem_cons_self ..)
   rw [hall i (Array.getElem?_eq_some_iff.1 ho).1] at h1
   cases h1
 | n + 1,l,a,w,hs,hn,hi => by
  refine ⟨fun hr => hdone l a w hs (ready_nil hl hs hr) hi,fun i hr => ?_⟩
  obtain ⟨o,ho,h1,h2⟩:=zgG hr
  have hlt:=(Array.getElem?_eq_some_iff.1 ho).1
  refine wpOp_mono (fun a' w' h3 => ?_) (hstep l a w i o hs ho h1 h2 hi)
  have:=zmf hlt hs h1
  exact zhi Inv hl hstep hdone n _ a' w' (by simpa using hs) (by omega) h3
end
def zZ (o : Oper) (ds : List Nat) : Bool:=ds.all fun j => o.after.any fun e => Region.binds .any e && e.on == j
theorem zB {o : Oper} {ds : List Nat} {l : Array Bool} (h : zZ o ds = true) (ha : ∀ e ∈ o.after,Region.binds .any e = true → l.getD e.on false = true) (j : Nat) (hj : j ∈ ds) : l.getD j false = true:=by
 unfold zZ at h
 have:=List.all_eq_true.1 h j hj
 obtain ⟨e,he,hb⟩:=Array.any_eq_true'.1 this
 simp only [Bool.and_eq_true,beq_iff_eq] at hb
 rw [← hb.2]
 exact ha e he hb.1
structure Facts (ops : Array Oper) (a0 : Act) (till : Nat → Nat) (B : World → Prop) (G : Array Bool → Nat → Value → World → Prop) (l : Array Bool) (a : Act) (w : World) : Prop where
 base : B w
 size : a.tmps.size = a0.tmps.size
 df : a.defers = a0.defers
 keep : ∀ j,(∀ i o,ops[i]? = some o → o.dst = some j → l.getD i false = false) → a.tmps[j]? = a0.tmps[j]?
 closed : ∀ i o,ops[i]? = some o → l.getD i false = true → ∀ ds,zZ o ds = true → ∀ j ∈ ds,l.getD j false = true
 fact : ∀ i o,ops[i]? = some o → l.getD i false = true → l.getD (till i) false = false → ∃ v,(∀ d,o.dst = some d → a.tmps[d]? = some v) ∧ G l i v w
def zeP (ops : Array Oper) (n : Nat) : Bool:=decide ((ops.toList.filterMap (·.dst)).Nodup) && (ops.toList.filterMap (·.dst)).all (fun d => decide (d < n))
theorem zic {α : Type} {f : α → Option Nat} : ∀ {l : List α},(l.filterMap f).Nodup → ∀ (i j : Nat) (x y : α) (d : Nat),l[i]? = some x → l[j]? = some y → f x = some d → f y = some d → i = j
 | [],_,i,j,x,y,d,h,_,_,_ => by simp at h
 | z :: l,hn,i,j,x,y,d,hx,hy,fx,fy => by
  have hn' : (l.filterMap f).Nodup:=by
   rw [List.filterMap_cons] at hn
   split at hn
   · exact hn
   · exact (List.nodup_cons.1 hn).2
  have hz : ∀ (k : Nat) (u : α),l[k]? = some u → f u = some d → f z ≠ some d:=by
   intro k u hu fu fz
   rw [List.filterMap_cons,fz] at hn
   exact (List.nodup_cons.1 hn).1 (List.mem_filterMap.2 ⟨u,List.mem_of_getElem? hu,fu⟩)
  cases i with
  | zero =>
   cases j with
   | zero => rfl
   | succ j =>
    simp only [List.getElem?_cons_zero,Option.some.injEq] at hx
    subst hx
    exact absurd fx (hz j y (by simpa using hy) fy)
  | succ i =>
   cases j with
   | zero =>
    simp only [List.getElem?_cons_zero,Option.some.injEq] at hy
    subst hy
    exact absurd fy (hz i x (by simpa using hx) fx)
   | succ j =>
    rw [zic hn' i j x y d (by simpa using hx) (by simpa using hy) fx fy]
section
variable {P : Program} {ops : Array Oper} {Q : Exit → Act → World → Prop} {a0 : Act} {till : Nat → Nat} {B : World → Prop} {G : Array Bool → Nat → Value → World → Prop}
theorem znE {n : Nat} (h : zeP ops n = true) {i j : Nat} {o oj : Oper} {d : Nat} (ho : ops[i]? = some o) (hj : ops[j]? = some oj) (e1 : o.dst = some d) (e2 : oj.dst = some d) : i = j:=by
 unfold zeP at h
 simp only [Bool.and_eq_true,decide_eq_true_eq] at h
 exact zic h.1 i j o oj d (by simpa using ho) (by simpa using hj) e1 e2
theorem zop {n : Nat} (h : zeP ops n = true) {i : Nat} {o : Oper} {d : Nat} (ho : ops[i]? = some o) (e1 : o.dst = some d) : d < n:=by
 unfold zeP at h
 simp only [Bool.and_eq_true,List.all_eq_true,decide_eq_true_eq] at h
 exact h.2 d (List.mem_filterMap.2 ⟨o,List.mem_of_getElem? (by simpa using ho : ops.toList[i]? = some o),e1⟩)
theorem zcw {l : Array Bool} {i j : Nat} (hi : i < l.size) : (l.setIfInBounds i true).getD j false = if j = i then true else l.getD j false:=by
 rw [Array.getD_eq_getD_getElem?,Array.getElem?_setIfInBounds,Array.getD_eq_getD_getElem?]
 by_cases e : i = j
 · subst e;rw [if_pos rfl,if_pos rfl,if_pos hi];rfl
 · rw [if_neg e,if_neg (Ne.symm e)]
theorem Facts.step {l : Array Bool} {a : Act} {w w' : World} {i : Nat} {o : Oper} {v : Value} (hd : zeP ops a0.tmps.size = true) (F : Facts ops a0 till B G l a w) (hs : l.size = ops.size) (ho : ops[i]? = some o) (ha : ∀ e ∈ o.after,Region.binds .any e = true → l.getD e.on false = true) (hB : B w') (hG : G (l.setIfInBounds i true) i v w')
 (hoth : ∀ j oj u,j ≠ i → ops[j]? = some oj → l.getD j false = true → l.getD (till j) false = false → till j ≠ i → (∀ d,oj.dst = some d → a.tmps[d]? = some u) → G l j u w → G (l.setIfInBounds i true) j u w') : Facts ops a0 till B G (l.setIfInBounds i true) (a.put o.dst v) w':=by
 have hi:=(Array.getElem?_eq_some_iff.1 ho).1
 have hsz : (a.put o.dst v).tmps.size = a.tmps.size:=by
  cases o.dst <;> simp [Act.put]
 have hdf : (a.put o.dst v).defers = a.defers:=by
  cases o.dst <;> simp [Act.put]
 have hne : ∀ k,o.dst ≠ some k → (a.put o.dst v).tmps[k]? = a.tmps[k]?:=by
  intro k hk
  cases e : o.dst with
  | none => simp [Act.put]
  | some d =>
   rw [e] at hk
   simp only [Act.put]
   exact Array.getElem?_setIfInBounds_ne (fun h => hk (by rw [h]))
 refine ⟨hB,hsz.trans F.size,hdf.trans F.df,fun k hk => ?_,fun j oj hj h1 ds hds x hx => ?_,fun j oj hj h1 h2 => ?_⟩
 ·
  rw [hne k (fun e => by
   have:=hk i o ho e
   rw [zcw (by omega),if_pos rfl] at this
   cases this)]
  refine F.keep k (fun j oj hj e => ?_)
  have:=hk j oj hj e
  rw [zcw (by omega)] at this
  split at this
  · cases this
  · exact this
 ·
  rw [zcw (by omega)] at h1 ⊢
  split
  · rfl
  by_cases e : j = i
  ·
   subst e
   rw [ho] at hj
   injection hj with hj
   subst hj
   exact zB hds ha x hx
  ·
   rw [if_neg e] at h1
   exact F.closed j oj hj h1 ds hds x hx
 ·
  rw [zcw (by omega)] at h1 h2
  by_cases e : j = i
  ·
   subst e
   rw [ho] at hj
   injection hj with hj
   subst hj
   refine ⟨v,fun d hd' => ?_,hG⟩
   rw [hd']
   simp only [Act.put]
   have:=zop hd ho hd'
   simp [F.size,this]
  ·
   rw [if_neg e] at h1
   by_cases e2 : till j = i
   · rw [if_pos e2] at h2;cases h2
   ·
    rw [if_neg e2] at h2
    obtain ⟨u,hu,hgu⟩:=F.fact j oj hj h1 h2
    refine ⟨u,fun d hd' => ?_,hoth j oj u e hj h1 h2 e2 hu hgu⟩
    rw [hne d (fun h => e (znE hd hj ho hd' h))]
    exact hu d hd'
def zkE (ops : Array Oper) (B : World → Prop) (G : Array Bool → Nat → Value → World → Prop) (till : Nat → Nat) (l : Array Bool) (i : Nat) (o : Oper) (a : Act) (w : World) (K : Act → World → Prop) : Prop :=
 ∀ v w',B w' → G (l.setIfInBounds i true) i v w' → (∀ j oj u,j ≠ i → ops[j]? = some oj → l.getD j false = true → l.getD (till j) false = false → till j ≠ i → (∀ d,oj.dst = some d → a.tmps[d]? = some u) → G l j u w → G (l.setIfInBounds i true) j u w') → K (a.put o.dst v) w'
def yg (P : Program) (ops : Array Oper) (Q : Exit → Act → World → Prop) (a0 : Act) (till : Nat → Nat) (B : World → Prop) (G : Array Bool → Nat → Value → World → Prop) (i : Nat) (o : Oper) : Prop :=
 ∀ l a w,Facts ops a0 till B G l a w → l.size = ops.size → l.getD i false = false → (∀ e ∈ o.after,Region.binds .any e = true → l.getD e.on false = true) →
  ∀ K,zkE ops B G till l i o a w K → if Region.wanted o (yielded ops a.tmps) = true then Oper.wp P o a w K Q else K (a.put o.dst undef) w
def zj3 (St : Nat → Oper → Prop) : Nat → List Oper → Prop
 | _,[] => True
 | k,o :: r => St k o ∧ zj3 St (k + 1) r
theorem zj3.get {St : Nat → Oper → Prop} : ∀ {k : Nat} {os : List Oper},zj3 St k os → ∀ i o,os[i]? = some o → St (k + i) o
 | k,[],_,i,o,h => by simp at h
 | k,x :: r,hh,0,o,h => by
  simp only [List.getElem?_cons_zero,Option.some.injEq] at h
  subst h;exact hh.1
 | k,x :: r,hh,i + 1,o,h => by
  have:=zj3.get hh.2 i o (by simpa using h)
  rwa [show k + (i + 1) = k + 1 + i by omega]
theorem zbx {id : Nat} {w : World} (till : Nat → Nat) (B : World → Prop) (G : Array Bool → Nat → Value → World → Prop) (hm : P.follows .mixedOrders = true) (hl : zcL ops = true) (hd : zeP ops a0.tmps.size = true) (h0 : B w.drew)
 (hstep : zj3 (yg P ops Q a0 till B G) 0 ops.toList)
 (hdone : ∀ l a w',(∀ i,i < ops.size → l.getD i false = true) → l.size = ops.size → Facts ops a0 till B G l a w' → Q .normal a w') : (Code.region id ops true).wp P Q a0 w:=by
 refine wp_region_any hm ?_
 refine zhi (fun l a w => Facts ops a0 till B G l a w) hl ?_ ?_ _ _ _ _ (by simp) ?_ ?_
 ·
  intro l a w i o hs ho h1 h2 F
  have hi:=(Array.getElem?_eq_some_iff.1 ho).1
  have st:=zj3.get hstep i o (by simpa using ho)
  rw [Nat.zero_add] at st
  have h3 : l.getD i false = false:=by
   rw [Array.getD_eq_getD_getElem?,Array.getElem?_eq_getElem (by omega)] at h1 ⊢
   exact h1
  exact wpOp_step ho (fun K hK => st l a w F hs h3 h2 K (fun v w' hB hG hoth => hK _ _ (Facts.step hd F hs ho h2 hB hG hoth)))
 ·
  intro l a w hs hall F
  refine hdone l a w (fun i hi => ?_) hs F
  have:=hall i hi
  rw [Array.getD_eq_getD_getElem?,Array.getElem?_eq_getElem (by omega)] at this ⊢
  exact this
 · exact Nat.le_trans (List.countP_le_length) (by simp)
 ·
  have h9 : ∀ i,(Array.replicate ops.size false).getD i false = true → False:=fun i h1 => by
   rw [Array.getD_eq_getD_getElem?,Array.getElem?_replicate] at h1
   split at h1 <;> cases h1
  exact ⟨h0,rfl,rfl,fun j _ => rfl,fun i o ho h1 => (h9 i h1).elim,fun i o ho h1 _ => (h9 i h1).elim⟩
end
theorem opf {ops : Array Oper} {i : Nat} {x : Op × Option Nat × Option (Nat × Bool)} {ds : List Nat} (h : (ops[i]?).map (fun o => ((o.op,o.dst,o.guard),zZ o ds)) = some (x,true)) : ∃ o,ops[i]? = some o ∧ o.op = x.1 ∧ o.dst = x.2.1 ∧ o.guard = x.2.2 ∧ zZ o ds = true:=by
 cases e : ops[i]? with
 | none => rw [e] at h;cases h
 | some o =>
  rw [e] at h
  simp only [Option.map_some,Option.some.injEq,Prod.mk.injEq] at h
  obtain ⟨h1,h2⟩:=h
  subst h1
  exact ⟨o,rfl,rfl,rfl,rfl,h2⟩
section
variable {P : Program} {ops : Array Oper} {Q : Exit → Act → World → Prop} {a0 : Act} {till : Nat → Nat} {B : World → Prop} {G : Array Bool → Nat → Value → World → Prop}
theorem Facts.at_ {l : Array Bool} {a : Act} {w : World} (F : Facts ops a0 till B G l a w) {j d : Nat} {o : Oper} (ho : ops[j]? = some o) (hd : o.dst = some d) (h1 : l.getD j false = true) (h2 : l.getD (till j) false = false) : ∃ v,a.eval (.tmp d) = v ∧ a.tmps[d]? = some v ∧ G l j v w:=by
 obtain ⟨v,hv,hg⟩:=F.fact j o ho h1 h2
 exact ⟨v,by simp [Act.eval,Array.getD_eq_getD_getElem?,hv d hd],hv d hd,hg⟩
def zod (ops : Array Oper) (d : Nat) : Bool:=ops.all fun o => o.dst != some d
theorem Facts.old {l : Array Bool} {a : Act} {w : World} (F : Facts ops a0 till B G l a w) {d : Nat} {v : Value} (hn : zod ops d = true) (h0 : a0.tmps[d]? = some v) : a.tmps[d]? = some v:=by
 have h:=F.keep d (fun i o ho hd => by
  unfold zod at hn
  simp only [Array.all_eq_true',bne_iff_ne] at hn
  exact absurd hd (hn o (Array.mem_of_getElem? ho)))
 exact h.trans h0
theorem zx {i : Nat} {o : Oper} {l : Array Bool} {a : Act} {w w' : World} {v : Value} {K : Act → World → Prop} {E : Prop} (hg : o.guard = none) (hr : (execOp a.eval o).run P w = .ok (.value v) w') (hK : zkE ops B G till l i o a w K) (hB : B w') (hG : G (l.setIfInBounds i true) i v w')
 (hoth : ∀ j oj u,j ≠ i → ops[j]? = some oj → l.getD j false = true → l.getD (till j) false = false → till j ≠ i → (∀ d,oj.dst = some d → a.tmps[d]? = some u) → G l j u w → G (l.setIfInBounds i true) j u w') :
 if Region.wanted o (yielded ops a.tmps) = true then Oper.wp P o a w K Q else E:=by
 have hw : Region.wanted o (yielded ops a.tmps) = true:=by unfold Region.wanted;rw [hg]
 rw [if_pos hw]
 unfold Oper.wp
 rw [hr,Oper.upon_value]
 exact hK v w' hB hG hoth
theorem zfq {i : Nat} {o : Oper} {l : Array Bool} {a : Act} {w w' : World} {K : Act → World → Prop} {E : Prop} (hg : o.guard = none) (hr : (execOp a.eval o).run P w = .ok .skip w') (hK : zkE ops B G till l i o a w K) (hB : B w') (hG : G (l.setIfInBounds i true) i undef w')
 (hoth : ∀ j oj u,j ≠ i → ops[j]? = some oj → l.getD j false = true → l.getD (till j) false = false → till j ≠ i → (∀ d,oj.dst = some d → a.tmps[d]? = some u) → G l j u w → G (l.setIfInBounds i true) j u w') :
 if Region.wanted o (yielded ops a.tmps) = true then Oper.wp P o a w K Q else E:=by
 have hw : Region.wanted o (yielded ops a.tmps) = true:=by unfold Region.wanted;rw [hg]
 rw [if_pos hw]
 unfold Oper.wp
 rw [hr,Oper.upon_skip]
 exact hK undef w' hB hG hoth
end
theorem zhD {St : Nat → Oper → Prop} : ∀ {k : Nat} {os : List Oper},(∀ i o,os[i]? = some o → St (k + i) o) → zj3 St k os
 | k,[],_ => trivial
 | k,x :: r,h => ⟨h 0 x rfl,zhD (fun i o ho => by
  have:=h (i + 1) o (by simpa using ho)
  rwa [show k + (i + 1) = k + 1 + i by omega] at this)⟩
theorem zgV (x : Nat → Value) : ∀ (ds : List Nat) (a : Act),(ds.foldl (fun b d => b.put (some d) (x d)) a).tmps.size = a.tmps.size ∧ (ds.foldl (fun b d => b.put (some d) (x d)) a).defers = a.defers ∧
 ∀ j,(ds.foldl (fun b d => b.put (some d) (x d)) a).tmps[j]? = if j ∈ ds ∧ j < a.tmps.size then some (x j) else a.tmps[j]?
 | [],a => ⟨rfl,rfl,fun j => by simp⟩
 | d :: ds,a => by
  obtain ⟨h1,h2,h3⟩:=zgV x ds (a.put (some d) (x d))
  have hs : (a.put (some d) (x d)).tmps.size = a.tmps.size:=by simp [Act.put]
  refine ⟨by rw [List.foldl_cons,h1,hs],by rw [List.foldl_cons,h2];simp [Act.put],fun j => ?_⟩
  rw [List.foldl_cons,h3,hs]
  by_cases c1 : j ∈ ds ∧ j < a.tmps.size
  · rw [if_pos c1,if_pos ⟨List.mem_cons_of_mem _ c1.1,c1.2⟩]
  ·
   rw [if_neg c1]
   simp only [Act.put]
   rw [Array.getElem?_setIfInBounds]
   by_cases c2 : d = j
   ·
    subst c2
    rw [if_pos rfl]
    by_cases c3 : d < a.tmps.size
    · rw [if_pos c3,if_pos ⟨List.mem_cons_self ..,c3⟩]
    · rw [if_neg c3,if_neg (fun h => c3 h.2),Array.getElem?_eq_none (by omega)]
   ·
    rw [if_neg c2,if_neg (fun h => c1 ⟨by
     rcases List.mem_cons.1 h.1 with e | e
     · exact absurd e.symm c2
     · exact e,h.2⟩)]
theorem zkc {a a' : Act} (ds : List Nat) (hsz : a'.tmps.size = a.tmps.size) (hdf : a'.defers = a.defers) (hk : ∀ j,j ∉ ds → a'.tmps[j]? = a.tmps[j]?) : a' = ds.foldl (fun b d => b.put (some d) (a'.tmps.getD d undef)) a:=by
 obtain ⟨h1,h2,h3⟩:=zgV (fun d => a'.tmps.getD d undef) ds a
 have ht : a'.tmps = (ds.foldl (fun b d => b.put (some d) (a'.tmps.getD d undef)) a).tmps:=by
  refine Array.ext_getElem? fun j => ?_
  rw [h3]
  by_cases c : j ∈ ds ∧ j < a.tmps.size
  · rw [if_pos c,Array.getD_eq_getD_getElem?,Array.getElem?_eq_getElem (by omega)];rfl
  ·
   rw [if_neg c]
   by_cases c2 : j < a.tmps.size
   · exact hk j (fun h => c ⟨h,c2⟩)
   · rw [Array.getElem?_eq_none (by omega),Array.getElem?_eq_none (by omega)]
 cases a'
 simp only at ht hdf h2
 generalize List.foldl _ a ds = r at ht h2
 cases r
 simp only at ht h2
 rw [ht,hdf,h2]
def znB (ops : Array Oper) : List Nat:=ops.toList.filterMap (·.dst)
theorem Facts.frame {ops : Array Oper} {a0 : Act} {till : Nat → Nat} {B : World → Prop} {G : Array Bool → Nat → Value → World → Prop} {l : Array Bool} {a : Act} {w : World} (F : Facts ops a0 till B G l a w) : a = (znB ops).foldl (fun b d => b.put (some d) (a.tmps.getD d undef)) a0 :=
 zkc _ F.size F.df (fun j hj => F.keep j (fun i o ho hd => absurd (List.mem_filterMap.2 ⟨o,List.mem_of_getElem? (by simpa using ho : ops.toList[i]? = some o),hd⟩) hj))
