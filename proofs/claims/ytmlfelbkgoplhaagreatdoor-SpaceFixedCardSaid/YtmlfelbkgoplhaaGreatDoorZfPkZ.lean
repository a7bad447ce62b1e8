import Derived.Test.YtmlfelbkgoplhaaGreatDoorZfPkU
import Derived.Test.YtmlfelbkgoplhaaGreatDoorZfPkK
set_option linter.unusedVariables false
set_option linter.unusedSimpArgs false
namespace Go.Proofs.YtmlfelbkgoplhaaGreatDoor
open Go.RowKit
def ziu (v : Nat) : Int → Bool:=fun u => decide (0 ≤ u) && v.testBit u.toNat
def zhP (val : Int → Bool) (x : Int) : Bool:=if 0 < x then val (x - 1) else !val (-x - 1)
def clV (c : List Int) (val : Int → Bool) : Bool:=c.any (zhP val)
def ze0 (l : List (List Int)) (val : Int → Bool) : Bool:=l.all fun c => clV c val
theorem zqL {v : Nat} {x : Int} (hx : x ≠ 0) : zhP (ziu v) x = ku v x:=by
 unfold zhP ku ziu
 by_cases h : 0 < x
 · rw [if_pos h,if_pos h,decide_eq_true (show 0 ≤ x - 1 by omega),Bool.true_and,show (x - 1).toNat = x.toNat - 1 by omega]
 · rw [if_neg h,if_neg h,decide_eq_true (show x < 0 by omega),decide_eq_true (show 0 ≤ -x - 1 by omega),Bool.true_and,Bool.true_and,show (-x - 1).toNat = (-x).toNat - 1 by omega]
theorem any_congr {α : Type} {p q : α → Bool} : ∀ {l : List α},(∀ x ∈ l,p x = q x) → l.any p = l.any q
 | [],_ => rfl
 | x :: l,h => by rw [List.any_cons,List.any_cons,h x (by simp),any_congr fun y hy => h y (by simp [hy])]
theorem all_congr {α : Type} {p q : α → Bool} : ∀ {l : List α},(∀ x ∈ l,p x = q x) → l.all p = l.all q
 | [],_ => rfl
 | x :: l,h => by rw [List.all_cons,List.all_cons,h x (by simp),all_congr fun y hy => h y (by simp [hy])]
theorem clV_B {v : Nat} {c : List Int} (h : qY c) : clV c (ziu v) = clB v c:=any_congr fun x hx => zqL (h x hx)
theorem zri {v : Nat} {l : List (List Int)} (h : ∀ c ∈ l,qY c) : ze0 l (ziu v) = j6 v l:=all_congr fun c hc => clV_B (h c hc)
def zo0 (x : Int) : Int × Bool:=if 0 < x then (x - 1,true) else (-x - 1,false)
theorem zql (c : List Int) (val : Int → Bool) : clV c val = ClD (c.map zo0) val:=by
 unfold clV ClD
 rw [List.any_map]
 refine any_congr fun x _ => ?_
 unfold zhP zo0
 simp only [Function.comp]
 by_cases h : 0 < x
 · rw [if_pos h,if_pos h];cases val (x - 1) <;> rfl
 · rw [if_neg h,if_neg h];cases val (-x - 1) <;> rfl
theorem zo7 (c : List Int) (x : Int) (val : Int → Bool) : clV (c ++ [x]) val = (clV c val || zhP val x):=by
 unfold clV
 rw [List.any_append];simp
theorem zmF (l : List (List Int)) (c : List Int) (val : Int → Bool) : ze0 (l ++ [c]) val = (ze0 l val && clV c val):=by
 unfold ze0
 rw [List.all_append];simp
theorem znA {V : Int} {l : List (List Int)} (h : ∀ c ∈ l,∀ x ∈ c,x ≠ 0 ∧ -V ≤ x ∧ x ≤ V) {val val' : Int → Bool} (he : ∀ u,0 ≤ u → u < V → val u = val' u) : ze0 l val = ze0 l val' :=
 all_congr fun c hc => any_congr fun x hx => by
  obtain ⟨h0,h1,h2⟩:=h c hc x hx
  unfold zhP
  by_cases e : 0 < x
  · rw [if_pos e,if_pos e,he _ (by omega) (by omega)]
  · rw [if_neg e,if_neg e,he _ (by omega) (by omega)]
theorem zk7 (f : Nat → Bool) : ∀ n : Nat,∃ v,v < 2 ^ n ∧ ∀ j,j < n → v.testBit j = f j
 | 0 => ⟨0,by decide,fun j hj => absurd hj (Nat.not_lt_zero _)⟩
 | n + 1 => by
  obtain ⟨v,h1,h2⟩:=zk7 f n
  cases e : f n with
  | false =>
   refine ⟨v,Nat.lt_of_lt_of_le h1 (Nat.pow_le_pow_right (by decide) (Nat.le_succ _)),fun j hj => ?_⟩
   rcases Nat.lt_or_ge j n with q | q
   · exact h2 j q
   ·
    have : j = n:=by omega
    subst this
    rw [e,Nat.testBit_lt_two_pow h1]
  | true =>
   refine ⟨v ||| 2 ^ n,Nat.or_lt_two_pow (Nat.lt_of_lt_of_le h1 (Nat.pow_le_pow_right (by decide) (Nat.le_succ _))) (Nat.pow_lt_pow_right (by decide) (Nat.lt_succ_self _)),fun j hj => ?_⟩
   rw [Nat.testBit_or,Nat.testBit_two_pow]
   rcases Nat.lt_or_ge j n with q | q
   · rw [h2 j q,decide_eq_false (by omega),Bool.or_false]
   ·
    have : j = n:=by omega
    subst this
    rw [e,decide_eq_true rfl,Bool.or_true]
def zaw : Nat → Cells → Int → List Nat
 | 0,_,_ => []
 | f + 1,c,h => match getM c h with
  | none => []
  | some n => (h - 2).toNat :: (zaw f c n.2.1 ++ zaw f c n.2.2)
theorem zf6 {f : Nat} {c : Cells} {h : Int} (e : getM c h = none) : zaw (f + 1) c h = []:=by simp only [zaw,e]
theorem zcU {f : Nat} {c : Cells} {h : Int} {n : Nd} (e : getM c h = some n) : zaw (f + 1) c h = (h - 2).toNat :: (zaw f c n.2.1 ++ zaw f c n.2.2):=by simp only [zaw,e]
theorem zdV {V : Int} {c : Cells} (o : COk V c) : ∀ (f : Nat) (h : Int),(zaw f c h).length + 1 ≤ 2 ^ (V - zl c h).toNat
 | 0,_ => Nat.one_le_two_pow
 | f + 1,h => by
  cases e : getM c h with
  | none => rw [zf6 e];exact Nat.one_le_two_pow
  | some n =>
   obtain ⟨_,_,_,_,k3,k4⟩:=o.ok.kids e
   obtain ⟨j,_,hj,_⟩:=getM_some e
   have hv:=o.vlt j n hj
   rw [zcU e,yt e]
   have h1:=zdV o f n.2.1
   have h2:=zdV o f n.2.2
   have h3:=xM (show (V - zl c n.2.1).toNat ≤ (V - (n.1 + 1)).toNat by omega)
   have h4:=xM (show (V - zl c n.2.2).toNat ≤ (V - (n.1 + 1)).toNat by omega)
   have h5:=zaJ hv
   simp only [List.length_cons,List.length_append]
   omega
theorem zc1 {f : Nat} {c : Cells} {k : Nat} {n : Nd} (hn : c.at k = some n) : k ∈ zaw (f + 1) c ((k : Int) + 2):=by
 rw [zcU ((qb k).trans hn),show (((k : Int) + 2) - 2).toNat = k by omega]
 exact List.mem_cons_self
theorem zce {c : Cells} (o : Ok c) {k k' : Nat} {n n' : Nd} (hn : c.at k = some n) (hn' : c.at k' = some n') (e : n.2.1 = (k' : Int) + 2 ∨ n.2.2 = (k' : Int) + 2) : ∀ (f : Nat) (h : Int),(24 - zl c h).toNat < f → k ∈ zaw f c h → k' ∈ zaw f c h
 | 0,_,hf,_ => absurd hf (Nat.not_lt_zero _)
 | f + 1,h,hf,hm => by
  cases g : getM c h with
  | none => rw [zf6 g] at hm;cases hm
  | some m =>
   obtain ⟨m1,m2,_,_,k3,k4⟩:=o.kids g
   rw [yt g] at hf
   have t1:=zcf o m.2.1;have t2:=zcf o m.2.2
   rw [zcU g] at hm ⊢
   rcases List.mem_cons.1 hm with h1 | hm
   ·
    obtain ⟨j,rfl,hj,_⟩:=getM_some g
    obtain rfl : k = j:=by omega
    have : m = n:=by rw [hn] at hj;exact (Option.some.inj hj).symm
    subst this
    obtain ⟨f',rfl⟩ : ∃ f',f = f' + 1:=⟨f - 1,by omega⟩
    refine List.mem_cons_of_mem _ (List.mem_append.2 ?_)
    rcases e with e | e
    · rw [e];exact .inl (zc1 hn')
    · rw [e];exact .inr (zc1 hn')
   ·
    refine List.mem_cons_of_mem _ (List.mem_append.2 ?_)
    rcases List.mem_append.1 hm with hm | hm
    · exact .inl (zce o hn hn' e f _ (by omega) hm)
    · exact .inr (zce o hn hn' e f _ (by omega) hm)
theorem zl9 {c : Cells} (o : Ok c) {h : Int} {k : Nat} (hr : jC c [h] k) : k ∈ zaw 25 c h:=by
 have hf : (24 - zl c h).toNat < 25:=by have:=zcf o h;omega
 refine Rch.ind (Q:=fun k => k ∈ zaw 25 c h) (fun k hu hm => ?_) (fun k k' h1 ih hu e => ?_) (fun k k' h1 ih hu e => ?_) hr
 ·
  obtain ⟨n,hn⟩:=Option.isSome_iff_exists.1 hu
  rw [← List.mem_singleton.1 hm];exact zc1 (f:=24) hn
 ·
  obtain ⟨m,hm⟩:=jC.used h1
  obtain ⟨n,hn⟩:=Option.isSome_iff_exists.1 hu
  rw [hm] at e
  exact zce o hm hn (.inl e) 25 h hf ih
 ·
  obtain ⟨m,hm⟩:=jC.used h1
  obtain ⟨n,hn⟩:=Option.isSome_iff_exists.1 hu
  rw [hm] at e
  exact zce o hm hn (.inr e) 25 h hf ih
theorem zgq {V : Int} {c : Cells} (o : COk V c) (h : Int) : cnt (qF c [h]) + 1 ≤ 2 ^ V.toNat:=by
 have t:=zcf o.ok h
 refine Nat.le_trans ?_ (Nat.le_trans (zdV o 25 h) (xM (by omega)))
 rw [zhl]
 refine Nat.succ_le_succ (kR (List.Pairwise.filter _ List.nodup_range) (fun k hk => ?_))
 obtain ⟨_,hk⟩:=List.mem_filter.1 hk
 obtain ⟨n,hn⟩:=Option.isSome_iff_exists.1 hk
 exact zl9 o.ok (yH.1 hn).1
structure ClI (V : Nat) (st0 st : Sp) (c : List Int) (one : Int) : Prop where
 sok : SOk V st
 ext : Ext st0.c st.c
 has : zG st.c one = true
 den : ∀ val,den st.c one val = clV c val
 few : cnt st.c ≤ cnt st0.c + c.length * (V + 1)
theorem ClI.start {V : Nat} {st0 : Sp} (so : SOk V st0) : ClI V st0 st0 [] 0:=⟨so,Ext.refl _,jk _,fun val => zbX _ _,by simp⟩
def qX (st : Sp) (x : Int) : Sp × Int × Nat:=if 0 < x then zjq st (x - 1) true else zjq st (-x - 1) false
structure zqN (V : Nat) (st0 st : Sp) (c : List Int) (one x : Int) : Prop where
 err1 : (qX st x).2.2 = 0
 sok : SOk V (qX st x).1
 ha : zG (qX st x).1.c one = true
 hb : zG (qX st x).1.c (qX st x).2.1 = true
 hr : cnt (qX st x).1.c + 2 ^ (V : Int).toNat ≤ (qX st x).1.c.length + 1
 err2 : (kI (qX st x).1 one 1 (qX st x).2.1).2.2 = 0
 next : ClI V st0 (kI (qX st x).1 one 1 (qX st x).2.1).1 (c ++ [x]) (kI (qX st x).1 one 1 (qX st x).2.1).2.1
theorem ClI.next {V : Nat} (hV : V ≤ 24) {st0 st : Sp} {c : List Int} {one x : Int} (h : ClI V st0 st c one) (hx : x ≠ 0 ∧ -(V : Int) ≤ x ∧ x ≤ V) (hr : cnt st0.c + (c.length + 1) * (V + 1) + 2 ^ V ≤ st0.c.length + 1) : zqN V st0 st c one x:=by
 have hp:=Nat.two_pow_pos V
 have hl:=h.ext.len
 have hc:=h.few
 have hm : (c.length + 1) * (V + 1) = c.length * (V + 1) + (V + 1):=by rw [Nat.add_mul,Nat.one_mul]
 have L : ROk V st (qX st x) (fun val => zhP val x) 1:=by
  unfold qX
  by_cases e : 0 < x
  ·
   rw [if_pos e]
   exact (zk6 (by omega) true (by omega) (by omega) h.sok (by omega)).of rfl fun val => by unfold zhP;rw [if_pos e];cases val (x - 1) <;> rfl
  ·
   rw [if_neg e]
   exact (zk6 (by omega) false (by omega) (by omega) h.sok (by omega)).of rfl fun val => by unfold zhP;rw [if_neg e];cases val (-x - 1) <;> rfl
 have lc:=L.cnt;have ll:=L.ext.len
 have ha:=L.zrp h.has
 have hpe : 2 ^ (V : Int).toNat = 2 ^ V:=by simp
 have hr2 : cnt (qX st x).1.c + 2 ^ (V : Int).toNat ≤ (qX st x).1.c.length + 1:=by rw [hpe];omega
 have O:=zk4 (by omega) L.sok ha (qw _) L.has hr2
 have k1 : zcB (qX st x).1.c one:=⟨c.map zo0,fun val => by rw [zkL L h.sok h.has,h.den,zql]⟩
 have k2 : zcB (qX st x).1.c (qX st x).2.1:=⟨[zo0 x],fun val => by
  rw [L.den,← List.map_singleton (f:=zo0),← zql];unfold clV;simp⟩
 have hcnt:=zl4 (by omega) L.sok ha L.has hr2 k1 k2
 refine ⟨L.err,L.sok,ha,L.has,hr2,O.err,O.sok,h.ext.trans (L.ext.trans O.ext),O.has,fun val => ?_,?_⟩
 ·
  rw [O.den,zkL L h.sok h.has,h.den,zbg,L.den,zo7]
  cases clV c val <;> simp
 ·
  rw [List.length_append,List.length_singleton]
  have : cnt (kI (qX st x).1 one 1 (qX st x).2.1).1.c ≤ cnt (qX st x).1.c + (V : Int).toNat:=hcnt
  simp only [Int.toNat_natCast] at this
  omega
structure zej (V R : Nat) (l : List (List Int)) (st : Sp) (all : Int) : Prop where
 sok : SOk V st
 len : st.c.length = R
 has : zG st.c all = true
 den : ∀ val,den st.c all val = ze0 l val
 few : cnt st.c + 1 ≤ 2 ^ V
theorem zej.start (V R : Nat) : zej V R [] ⟨List.replicate R none,fun _ => none⟩ 1 :=
 ⟨SOk.none (COk.empty V R),by simp,qw _,fun val => zbg _ _,by
  have h : cnt (List.replicate R none : Cells) = 0:=by unfold cnt;rw [List.countP_replicate];simp
  dsimp only;rw [h];exact Nat.one_le_two_pow⟩
structure zp0 (V R : Nat) (l : List (List Int)) (st st1 : Sp) (all : Int) (c : List Int) (h : Int) : Prop where
 ha : zG st1.c all = true
 hr : cnt st1.c + 2 ^ (V : Int).toNat ≤ st1.c.length + 1
 err : (kI st1 all h 0).2.2 = 0
 ok : Ok (kI st1 all h 0).1.c
 has : zG (kI st1 all h 0).1.c (kI st1 all h 0).2.1 = true
 next : zej V R (l ++ [c]) (zpn (kI st1 all h 0).1 [(kI st1 all h 0).2.1]) (kI st1 all h 0).2.1
theorem zej.next {V R : Nat} (hV : V ≤ 24) {l : List (List Int)} {st st1 : Sp} {all : Int} {c : List Int} {h : Int} (i : zej V R l st all) (k : ClI V st st1 c h) (hr : 2 * 2 ^ V + c.length * (V + 1) ≤ R + 1) : zp0 V R l st st1 all c h:=by
 have hp:=Nat.two_pow_pos V
 have hl:=k.ext.len
 have hl0:=i.len
 have hc:=k.few
 have hc0:=i.few
 have ha:=k.ext.has i.has
 have hpe : 2 ^ (V : Int).toNat = 2 ^ V:=by simp
 have hr2 : cnt st1.c + 2 ^ (V : Int).toNat ≤ st1.c.length + 1:=by rw [hpe];omega
 have O:=zk4 (by omega) k.sok ha k.has (jk _) hr2
 have hm : (kI st1 all h 0).2.1 ∈ [(kI st1 all h 0).2.1]:=by simp
 refine ⟨ha,hr2,O.err,O.sok.ok,O.has,SOk.none (O.sok.cells.sweep _),?_,zcP O.has (fun j e => by
  have g:=O.has
  rw [e] at g
  exact zev g (by rw [← e];simp)),fun val => ?_,?_⟩
 ·
  show (qF _ _).length = R
  rw [kZ,O.ext.len,hl,hl0]
 ·
  rw [zgx O.sok hm O.has,O.den,qH i.sok.ok k.sok.ok k.ext val all i.has,i.den,k.den,zbX,zmF]
  cases ze0 l val <;> simp
 ·
  have:=zgq O.sok.cells (kI st1 all h 0).2.1
  rw [hpe] at this
  exact this
def zra (V : Nat) (s : Sb) (st0 : Sp) (c : List Int) (w : World) (e : Ending) (w' : World) : Prop :=
 ∃ st h,e = .returned (.tuple #[.int .i64 h,.nilIface]) ∧ IsSpace w' s V st ∧ Only s.mem w w' ∧ ClI V st0 st c h
theorem zmz (st : Sp) (b : Int) : kI st 1 b 0 = (st,b,0):=by
 unfold kI
 rw [qJ,if_pos (.inl rfl)]
set_option maxRecDepth 100000 in
set_option maxHeartbeats 8000000 in
theorem ziF (V : Nat) (hV : V ≤ 10) (g : Nat) (vc : Value) (c : List Int) (w : World) (s : Sb) (st0 : Sp) (hs : IsSpace w s V st0) (so : SOk V st0) (hg : w.heap[g]? = some (.cells #[vc] 64 (0,0))) (hgs : ¬ s.mem g) (hc : ∀ w',Only s.mem w w' → yM w' 0 vc c)
 (hx : ∀ x ∈ c,x ≠ 0 ∧ -(V : Int) ≤ x ∧ x ≤ V) (hn : c.length ≤ 100) (hr : cnt st0.c + c.length * (V + 1) + 2 ^ V ≤ st0.c.length + 1) :
 Calls Tryz.prog 47 #[.pointer (some ⟨s.ps,0,none⟩),.slice (some ⟨g,0,none⟩) 1 1] w (zra V s st0 c w):=by
 have hgc : ∀ w',Only s.mem w w' → w'.cell? ⟨g,0,none⟩ = some vc:=fun w' ho => zco ((ho.block _ (zlb hg) hgs).trans hg)
 obtain ⟨a,cap,rfl,_,_⟩:=zo.shape (hc w (Only.refl _ _))
 have g0:=hgc w (Only.refl _ _)
 have Hs:=hid hs;have Hso:=hid so;have Hgc:=hid hgc;have Hc:=hid hc;have Hx:=hid hx;have Hr:=hid hr;have HV:=hid hV
 clear hs so hg hgs hc hx hr hV hgc
 go_enter Tryz.func47,Tryz.ntmps47
 go_wp2_with fail
 go_loopg [6,22] 1 (fun gk al i wr => (gk = 1 ∧ al = .int .i64 1 ∧ i = .int .i64 0 ∧ w = wr) ∨ (gk = 0 ∧ ∃ st h,al = .int .i64 h ∧ i = .int .i64 1 ∧ IsSpace wr s V st ∧ Only s.mem w wr ∧ ClI V st0 st c h))
 case atStart => exact .inl ⟨rfl,rfl,rfl,rfl⟩
 case round =>
  rcases hrel with ⟨rfl,rfl,rfl,rfl⟩ | ⟨rfl,st,h,rfl,rfl,hsp,hon,hcl⟩
  ·
   go_wp2_with fail
   go_loopg [9,28] c.length (fun gk on i wx => ∃ (k : Nat) (one : Int) (st : Sp),k ≤ c.length ∧ gk = c.length - k ∧ on = .int .i64 one ∧ i = .int .i64 k ∧ IsSpace wx s V st ∧ ClI V st0 st (c.take k) one ∧ Only s.mem w wx)
   case atStart => exact ⟨0,0,st0,znz _,rfl,rfl,rfl,Hs.out,ClI.start Hso.out,Only.refl _ _⟩
   case round =>
    obtain ⟨k,one,st,hk,rfl,rfl,rfl,hsp,hcl,hon⟩:=hrel
    obtain ⟨wo,rfl⟩ : ∃ y,y = wr:=⟨_,rfl⟩
    by_cases hlt : k < c.length
    ·
     have hi : (k : Int) < (c.length : Int):=by omega
     have hrow:=Hc.out wo hon
     obtain ⟨b,rfl,_,_⟩:=zo.at hrow (by omega)
     have hcx:=zo.cell (enc:=yF) (z:=1) (fun _ => rfl) hrow (k:=k) hlt (j:=0) (by decide) rfl
     rw [Nat.mul_one,Nat.add_zero] at hcx
     have hxk:=Hx.out _ (List.getElem_mem hlt)
     have htk : c.take (k + 1) = c.take k ++ [c[k]]:=List.take_succ_eq_append_getElem hlt
     have hlen : (c.take k).length = k:=by rw [List.length_take];omega
     obtain ⟨x,hxe⟩ : ∃ x,x = c[k]:=⟨_,rfl⟩
     rw [← hxe] at hcx hxk htk
     have hnx:=hcl.next (x:=x) (by have:=HV.out;omega) hxk (by
      rw [hlen]
      have h1:=Hr.out
      have h2 : (k + 1) * (V + 1) ≤ c.length * (V + 1):=Nat.mul_le_mul_right _ hlt
      omega)
     have hV24 : (V : Int) ≤ 24:=by have:=HV.out;omega
     have hlw:=fun (is : Bool) h0 h1 => zpW (V : Int) (if is then x - 1 else -x - 1) is wo s st hsp h0 h1
     obtain ⟨n1,n2,n3,n4,n5,n6,n7⟩:=hnx
     rw [← htk] at n7
     have Hon:=hid hon;have H24:=hid hV24
     clear hrow htk hon hcl hsp hlen hxe hV24
     by_cases hp : x < 0
     ·
      have t1 : decide (x < 0) = true:=decide_eq_true hp
      have w1 : IntKind.i64.wrap (-x) = -x:=IntWalk.i64_in _ (by have:=H24.out;have:=hxk.2.1;omega)
      have w2 : IntKind.i64.wrap (-x - 1) = -x - 1:=IntWalk.i64_in _ (by have:=H24.out;have:=hxk.2.1;omega)
      have hL:=hlw false (by simp only [Bool.false_eq_true,if_false];omega) (by simp only [Bool.false_eq_true,if_false];have:=hxk.2.1;omega)
      simp only [Bool.false_eq_true,if_false] at hL
      have hls : zjq st (-x - 1) false = qX st x:=by unfold qX;rw [if_neg (by omega)]
      rw [hls] at hL
      generalize hr2 : kI (qX st x).1 one 1 (qX st x).2.1 = r2 at n6 n7
      generalize qX st x = r at n1 n2 n3 n4 n5 hr2 hL
      have HL:=hid hL;have N1:=hid n1;have N6:=hid n6;have N7:=hid n7;have N2:=hid n2;have N3:=hid n3;have N4:=hid n4;have N5:=hid n5;have Hr2:=hid hr2
      clear hL hlw hls hxk hp n1 n2 n3 n4 n5 n6 n7 hr2
      go_wp2_with fail
      refine HL.out.mono ?_
      rintro e w5 ⟨rfl,hs5,ho5⟩
      rw [N1.out]
      simp only [zdX,if_true]
      have hO:=zon (V : Int) H24.out one r.2.1 w5 s r.1 hs5 N2.out N3.out N4.out N5.out
      rw [Hr2.out] at hO
      have HO:=hid hO;have Ho5:=hid ho5
      clear hO ho5 hs5 HL
      go_wp2_with fail
      refine HO.out.mono ?_
      rintro e w6 ⟨rfl,hs6,ho6⟩
      rw [N6.out]
      simp only [zdX,if_true]
      have Hs6:=hid hs6;have Ho6:=hid ho6
      clear hs6 ho6 HO
      go_wp2_with fail
      go_roundg (c.length - (k + 1))
      case measure => omega
      case rel => exact ⟨k + 1,r2.2.1,r2.1,by omega,rfl,rfl,by go_num,Hs6.out,N7.out,(Hon.out.trans Ho5.out).trans Ho6.out⟩
     ·
      have t1 : decide (x < 0) = false:=decide_eq_false hp
      have w1 : IntKind.i64.wrap (x - 1) = x - 1:=IntWalk.i64_in _ (by have:=H24.out;have:=hxk.2.2;have:=hxk.1;omega)
      have hL:=hlw true (by simp only [if_true];have:=hxk.1;omega) (by simp only [if_true];have:=hxk.2.2;omega)
      simp only [if_true] at hL
      have hls : zjq st (x - 1) true = qX st x:=by unfold qX;rw [if_pos (by have:=hxk.1;omega)]
      rw [hls] at hL
      generalize hr2 : kI (qX st x).1 one 1 (qX st x).2.1 = r2 at n6 n7
      generalize qX st x = r at n1 n2 n3 n4 n5 hr2 hL
      have HL:=hid hL;have N1:=hid n1;have N6:=hid n6;have N7:=hid n7;have N2:=hid n2;have N3:=hid n3;have N4:=hid n4;have N5:=hid n5;have Hr2:=hid hr2
      clear hL hlw hls hxk hp n1 n2 n3 n4 n5 n6 n7 hr2
      go_wp2_with fail
      refine HL.out.mono ?_
      rintro e w5 ⟨rfl,hs5,ho5⟩
      rw [N1.out]
      simp only [zdX,if_true]
      have hO:=zon (V : Int) H24.out one r.2.1 w5 s r.1 hs5 N2.out N3.out N4.out N5.out
      rw [Hr2.out] at hO
      have HO:=hid hO;have Ho5:=hid ho5
      clear hO ho5 hs5 HL
      go_wp2_with fail
      refine HO.out.mono ?_
      rintro e w6 ⟨rfl,hs6,ho6⟩
      rw [N6.out]
      simp only [zdX,if_true]
      have Hs6:=hid hs6;have Ho6:=hid ho6
      clear hs6 ho6 HO
      go_wp2_with fail
      go_roundg (c.length - (k + 1))
      case measure => omega
      case rel => exact ⟨k + 1,r2.2.1,r2.1,by omega,rfl,rfl,by go_num,Hs6.out,N7.out,(Hon.out.trans Ho5.out).trans Ho6.out⟩
    ·
     obtain rfl : k = c.length:=by omega
     rw [List.take_length] at hcl
     have hV24 : (V : Int) ≤ 24:=by have:=HV.out;omega
     have hA:=zlc (V : Int) hV24 1 one wo s st hsp hcl.sok (qw _) hcl.has (by
      have h1:=Hr.out;have h2:=hcl.few;have h3:=hcl.ext.len
      simp only [Int.toNat_natCast];omega)
     rw [zmz] at hA
     have HA:=hid hA;have Hcl:=hid hcl;have Hon:=hid hon
     clear hA hcl hon hsp hV24 hlt
     go_wp2_with fail
     refine HA.out.mono ?_
     rintro e w7 ⟨rfl,hs7,ho7⟩
     simp only [zdX,if_true]
     have Hs7:=hid hs7;have Ho7:=hid ho7
     clear hs7 ho7 HA
     go_wp2_with fail
     go_roundg 0
     case measure => omega
     case rel => exact .inr ⟨rfl,st,one,rfl,by go_num,Hs7.out,Hon.out.trans Ho7.out,Hcl.out⟩
  ·
   have Hsp:=hid hsp;have Hon:=hid hon;have Hcl:=hid hcl
   clear hsp hon hcl
   go_wp2_with fail
   go_ret2
   exact ⟨st,h,rfl,Hsp.out,Hon.out,Hcl.out⟩
def zpE (V R : Nat) (l : List (List Int)) (w : World) (e : Ending) (w' : World) : Prop :=
 (∃ q s st all,e = .returned (.tuple #[.pointer (some ⟨q,0,none⟩),.nilIface]) ∧ w'.heap[q]? = some (.cells #[.pointer (some ⟨s.ps,0,none⟩),.int .i64 all] 40 (0,0)) ∧ IsSpace w' s V st ∧ zej V R l st all ∧ w.heap.size ≤ q ∧ w.heap.size ≤ s.ps ∧ (∀ k,s.mem k → w.heap.size ≤ k)) ∧ Below w.heap.size w w'
set_option maxRecDepth 100000 in
set_option maxHeartbeats 16000000 in
theorem zhw (p : Nat) (vl vi : Value) (ls : List zm) (items : List zA) (R : Nat) (w : World) (h : zds w p vl vi ls items) (ho : zbu ls items) (h10 : items.length ≤ 10) (h200 : (zJ ls items).length ≤ 200) (hR : 1 ≤ R ∧ R ≤ 4000) (hr : ∀ c ∈ yB (zJ ls items),2 * 2 ^ items.length + c.length * (items.length + 1) ≤ R + 1) :
 Calls Tryz.prog 11 #[.pointer (some ⟨p,0,none⟩),.int .i64 R] w (zpE items.length R (yB (zJ ls items)) w):=by
 have HO:=hid (zns p vl vi ls items w h ho)
 have hgood:=zfz ho h200
 have hx : ∀ c ∈ yB (zJ ls items),c.length ≤ 100 ∧ ∀ x ∈ c,x ≠ 0 ∧ -(items.length : Int) ≤ x ∧ x ≤ items.length:=by
  have hg:=zhm ho.few (zfR ho h200 (by omega))
  intro c hc
  exact ⟨by have:=(hg.1.2.2.2 c hc).1;omega,fun x hx => qg (hg.1.2.2.2 c hc).2 hx⟩
 obtain ⟨rc,hrc⟩ : ∃ rc,rc = zJ ls items:=⟨_,rfl⟩
 obtain ⟨V,hV⟩ : ∃ V,V = items.length:=⟨_,rfl⟩
 have HOk:=hid ho
 have Hrc:=hid hrc;have HVe:=hid hV
 rw [← hrc] at hx h200 hr ⊢
 rw [← hV] at hx h10 hr ⊢
 have Hx:=hid hx;have Hr:=hid hr;have H10:=hid h10;have H200:=hid h200;have HR:=hid hR
 clear hx hr h10 h200 hR h ho hgood hrc hV
 go_enter Tryz.func11,Tryz.ntmps11
 go_wp2_with fail
 refine HO.out.mono ?_
 rintro e w2 ⟨⟨a1,c1,a2,c2,rfl,hlen,hin⟩ | ⟨rfl,hlen⟩,hb2⟩
 ·
  rw [← Hrc.out] at hin hlen ⊢
  rw [← HVe.out]
  obtain ⟨us,hus,hul⟩:=zeC hin
  obtain ⟨L,hL⟩ : ∃ L,L = rc.length:=⟨_,rfl⟩
  rw [← hL] at hus ⊢
  have hLu : us.length = L:=by
   obtain ⟨_,_,e,_,_⟩:=hus.shape
   simp only [Value.slice.injEq] at e
   exact e.2.1.symm
  have hLc : (yB rc).length = L:=by rw [hL];unfold yB;simp
  have hV24 : (V : Int) ≤ 24:=by have:=H10.out;omega
  obtain ⟨w3,hw3⟩ : ∃ w3,w3 = w2.alloc (.cells #[.int .i64 V,.slice a1 L c1,.slice a2 L c2] 27):=⟨_,rfl⟩
  have hb3 : Below w2.heap.size w2 w3:=by rw [hw3];exact zba
  have hk3 : w3.heap[w2.heap.size]? = some (.cells #[.int .i64 V,.slice a1 L c1,.slice a2 L c2] 27 (0,0)):=by rw [hw3];exact za rfl
  have HF:=hid (show ∀ W,Below w2.heap.size w2 W → zo W w.heap.size 64 1 qI (.slice a1 L c1) us ∧ yG (fun v c => yM W 0 v c) us (yB rc) from fun W hW => ⟨hus.below hW,xV (fun a _ b k => zo.below k hW) hul⟩)
  have HN:=hid (zn9 (V : Int) R w3 (by omega) hV24 HR.out.1 HR.out.2)
  obtain ⟨y0,y1,y2⟩:=yR hk3
  have HLu:=hid hLu;have HLc:=hid hLc;have Hb2:=hid hb2;have Hb3:=hid hb3;have Hk3:=hid hk3;have HL:=hid hL;have H24:=hid hV24
  clear hLu hLc hb2 hb3 hk3 hL hV24 hus hul hin hlen HO
  go_upto_region 4 with fail
  rw [← hw3]
  clear hw3
  go_wp2_with fail
  refine HN.out.mono ?_
  rintro e w4 ⟨⟨s,rfl,_,hs4,hps,hmem⟩,hb4⟩
  obtain ⟨q0,q1,q2⟩:=yR ((hb4.block _ (zlb Hk3.out)).trans Hk3.out)
  have hB24 : Below w2.heap.size w2 w4:=Hb3.out.trans (hb4.mono Hb3.out.size)
  have HB:=hid (show ∀ W,Only s.mem w4 W → Below w2.heap.size w2 W from fun W ho => hB24.trans (ho.below hB24.size (fun k hk => Nat.le_trans Hb3.out.size (hmem k hk))))
  have Hs4:=hid hs4;have Hps:=hid hps;have Hmem:=hid hmem
  clear hs4 hps hmem hb4 hB24 HN y0 y1 y2
  go_wp2_with fail
  clear q0 q1 q2
  have hL2 : L ≤ 200:=by rw [HL.out];exact H200.out
  go_loopg [9,35] L (fun gk al i wr => ∃ (k : Nat) (all : Int) (st : Sp),k ≤ L ∧ gk = L - k ∧ al = .int .i64 all ∧ i = .int .i64 k ∧ IsSpace wr s V st ∧ zej V R ((yB rc).take k) st all ∧ Only s.mem w4 wr)
  case atStart => exact ⟨0,1,_,znz _,rfl,rfl,rfl,Hs4.out,zej.start V R,Only.refl _ _⟩
  case round =>
   obtain ⟨k,all,st,hk,rfl,rfl,rfl,hsp,hsi,hon⟩:=hrel
   obtain ⟨wo,rfl⟩ : ∃ y,y = wr:=⟨_,rfl⟩
   have hbo:=HB.out wo hon
   obtain ⟨hrow,hall⟩:=HF.out wo hbo
   by_cases hlt : k < L
   ·
    have hi : (k : Int) < (L : Int):=by omega
    have hku : k < us.length:=by rw [HLu.out];exact hlt
    have hkc : k < (yB rc).length:=by rw [HLc.out];exact hlt
    obtain ⟨g,rfl,hg,_⟩:=zo.at hrow (by omega)
    have hcx:=zo.cell (enc:=qI) (z:=1) zaZ hrow (k:=k) hku (j:=0) (by decide) rfl
    rw [Nat.mul_one,Nat.add_zero] at hcx
    have hout:=hall.get k hku hkc
    have htk : (yB rc).take (k + 1) = (yB rc).take k ++ [(yB rc)[k]]:=List.take_succ_eq_append_getElem hkc
    have hxk:=Hx.out _ (List.getElem_mem hkc)
    have hrk:=Hr.out _ (List.getElem_mem hkc)
    obtain ⟨c,hce⟩ : ∃ c,c = (yB rc)[k]:=⟨_,rfl⟩
    rw [← hce] at hout htk hxk hrk
    obtain ⟨u,hue⟩ : ∃ u,u = us[k]:=⟨_,rfl⟩
    rw [← hue] at hcx hout
    obtain ⟨ag,cg,rfl,_,_⟩:=zo.shape hout
    obtain ⟨wA,hwA⟩ : ∃ wA,wA = wo.alloc (.cells #[.slice ag c.length cg] 64):=⟨_,rfl⟩
    have hbA : Below wo.heap.size wo wA:=by rw [hwA];exact zba
    have hkA : wA.heap[wo.heap.size]? = some (.cells #[.slice ag c.length cg] 64 (0,0)):=by rw [hwA];exact za rfl
    have honA : Only s.mem w4 wA:=hon.trans (Only.of_below hbA rfl)
    have hclA : ∀ w',Only s.mem wA w' → yM w' 0 (.slice ag c.length cg) c:=fun w' ho => by
     have h9:=((HF.out w' (HB.out w' (honA.trans ho))).2).get k hku hkc
     rw [← hce,← hue] at h9
     exact h9
    have HC:=hid (ziF V H10.out wo.heap.size _ c wA s st (hsp.below hbA) hsi.sok hkA (fun hm => by have:=hsp.lt hm;omega) hclA hxk.2 hxk.1 (by have:=hsi.few;have:=hsi.len;omega))
    have Hon:=hid honA;have Htk:=hid htk;have Hsi:=hid hsi;have Hrk:=hid hrk;have HwA:=hid hwA
    clear hrow hall hout htk hxk hrk hce hue hbA hkA honA hclA hsp hsi hon hbo hku hkc hg hwA
    go_wp2_with fail
    rw [← HwA.out]
    refine HC.out.mono ?_
    rintro e w5 ⟨st1,h,rfl,hs5,ho5,hcl⟩
    obtain ⟨n1,n2,n3,n4,n5,n6⟩:=Hsi.out.next (by have:=H10.out;omega) hcl Hrk.out
    rw [← Htk.out] at n6
    have hA:=zlc (V : Int) H24.out all h w5 s st1 hs5 hcl.sok n1 hcl.has n2
    generalize kI st1 all h 0 = r at n3 n4 n5 n6 hA
    have HA:=hid hA;have Ho5:=hid ho5;have N3:=hid n3;have N4:=hid n4;have N5:=hid n5;have N6:=hid n6
    clear hA ho5 hs5 hcl n1 n2 n3 n4 n5 n6 HC
    go_wp2_with fail
    refine HA.out.mono ?_
    rintro e w6 ⟨rfl,hs6,ho6⟩
    rw [N3.out]
    simp only [zdX,if_true]
    obtain ⟨wB,hwB⟩ : ∃ wB,wB = w6.alloc (.cells #[.int .i64 r.2.1] 3):=⟨_,rfl⟩
    have hbB : Below w6.heap.size w6 wB:=by rw [hwB];exact zba
    have hkB : wB.heap[w6.heap.size]? = some (.cells #[.int .i64 r.2.1] 3 (0,0)):=by rw [hwB];exact za rfl
    have hint : zD wB (.slice (some ⟨w6.heap.size,0,none⟩) 1 1) [r.2.1]:=zkC (n:=1) (c:=1) [r.2.1] hkB rfl rfl (znr _) (by decide) (by simp)
    have hle : r.2.1 ≤ 9223372036854775807:=by have:=xB N5.out;have:=hs6.ar.len;have:=hs6.ar.room.2;omega
    have hF:=zoA (V : Int) _ [r.2.1] wB s r.1 (hs6.below hbB) N4.out hint (by simp) (by simpa using hle)
    obtain ⟨nq,hnq⟩ : ∃ nq,nq = zpm r.1 [r.2.1]:=⟨_,rfl⟩
    rw [← hnq] at hF
    have HFr:=hid hF;have Ho6:=hid (ho6.trans (Only.of_below hbB rfl));have HwB:=hid hwB
    clear hF ho6 hbB hkB hint hle hnq hwB hs6 HA
    go_wp2_with fail
    rw [← HwB.out]
    refine HFr.out.mono ?_
    rintro e w7 ⟨rfl,hs7,ho7⟩
    have Hs7:=hid hs7;have Ho7:=hid ho7
    clear hs7 ho7 HFr
    go_wp2_with fail
    go_roundg (L - (k + 1))
    case measure => omega
    case rel => exact ⟨k + 1,r.2.1,_,by omega,rfl,rfl,by go_num,Hs7.out,N6.out,(Hon.out.trans Ho5.out).trans (Ho6.out.trans Ho7.out)⟩
   ·
    obtain rfl : k = L:=by omega
    have htk : (yB rc).take k = yB rc:=by rw [← HLc.out];exact List.take_length
    rw [htk] at hsi
    have hbA : Below wo.heap.size wo (wo.alloc (.cells #[.pointer (some ⟨s.ps,0,none⟩),.int .i64 all] 40)):=zba
    have Hsi:=hid hsi;have Hsp:=hid (hsp.below hbA);have Hbo:=hid hbo;have HbA:=hid hbA
    clear hsi hsp hbo hbA hon hrow hall htk hlt
    go_wp2_with fail
    go_ret2
    refine ⟨⟨wo.heap.size,s,st,all,rfl,za rfl,Hsp.out,Hsi.out,?_,?_,?_⟩,?_⟩
    · have:=Hb2.out.size;have:=Hbo.out.size;omega
    · have:=Hb2.out.size;have:=Hb3.out.size;have:=Hps.out;omega
    · intro j hj;have:=Hb2.out.size;have:=Hb3.out.size;have:=Hmem.out j hj;omega
    · exact Hb2.out.trans ((Hbo.out.trans (HbA.out.mono Hbo.out.size)).mono Hb2.out.size)
 ·
  rw [← Hrc.out] at hlen
  exact absurd H200.out (by omega)
