import Derived.Test.YtmlfelbkgoplhaaGreatDoorZrPkE
set_option linter.unusedVariables false
namespace Go.Proofs.YtmlfelbkgoplhaaGreatDoor
def zed : Nat → Cells → Int → (Int → Bool) → Bool
 | 0,_,_,_ => false
 | f + 1,c,h,val => match getM c h with
  | none => h == 1
  | some n => if val n.1 then zed f c n.2.2 val else zed f c n.2.1 val
theorem ze3 {f : Nat} {c : Cells} {h : Int} (e : getM c h = none) (val : Int → Bool) : zed (f + 1) c h val = (h == 1):=by simp only [zed,e]
theorem zeV {f : Nat} {c : Cells} {h : Int} {n : Nd} (e : getM c h = some n) (val : Int → Bool) : zed (f + 1) c h val = if val n.1 then zed f c n.2.2 val else zed f c n.2.1 val:=by simp only [zed,e]
def den (c : Cells) (h : Int) (val : Int → Bool) : Bool:=zed 25 c h val
def yw (val : Int → Bool) (v : Int) (b : Bool) : Int → Bool:=fun u => if u = v then b else val u
theorem zK {c : Cells} {h : Int} {n : Nd} (g : getM c h = some n) : zk c h = n.1:=by unfold zk;rw [g]
theorem qH {c : Cells} {h : Int} (g : getM c h = none) : zk c h = 24:=by unfold zk;rw [g]
theorem Ok.kids {c : Cells} (o : Ok c) {h : Int} {n : Nd} (g : getM c h = some n) :
 0 ≤ n.1 ∧ n.1 < 24 ∧ zx c n.2.1 = true ∧ zx c n.2.2 = true ∧ n.1 < zk c n.2.1 ∧ n.1 < zk c n.2.2:=by
 obtain ⟨k,rfl,h1,_⟩:=getM_some g
 exact ⟨(o.var k n h1).1,(o.var k n h1).2,(o.low k n h1).1,(o.high k n h1).1,(o.low k n h1).2,(o.high k n h1).2⟩
theorem zdB {c : Cells} {h : Int} {n : Nd} (g : getM c h = some n) : zx c h = true:=by unfold zx;rw [g];simp
theorem zcU {c : Cells} (o : Ok c) (val : Int → Bool) : ∀ (f g : Nat) (h : Int),(24 - zk c h).toNat < f → f ≤ g → zed f c h val = zed g c h val
 | 0,_,_,h1,_ => absurd h1 (Nat.not_lt_zero _)
 | f + 1,0,_,_,h2 => absurd h2 (by omega)
 | f + 1,g + 1,h,h1,h2 => by
  cases e : getM c h with
  | none => rw [ze3 e,ze3 e]
  | some n =>
   obtain ⟨k1,k2,_,_,k3,k4⟩:=o.kids e
   rw [zK e] at h1
   rw [zeV e,zeV e,zcU o val f g n.2.1 (by omega) (by omega),zcU o val f g n.2.2 (by omega) (by omega)]
theorem zbk {c : Cells} (o : Ok c) {h : Int} {n : Nd} (e : getM c h = some n) (val : Int → Bool) : den c h val = if val n.1 then den c n.2.2 val else den c n.2.1 val:=by
 obtain ⟨k1,k2,_,_,k3,k4⟩:=o.kids e
 show zed (24 + 1) c h val = if val n.1 then zed 25 c n.2.2 val else zed 25 c n.2.1 val
 rw [zeV e,zcU o val 24 25 n.2.1 (by omega) (by omega),zcU o val 24 25 n.2.2 (by omega) (by omega)]
theorem zc3 {c : Cells} {h : Int} (e : getM c h = none) (val : Int → Bool) : den c h val = (h == 1):=ze3 (f:=24) e val
theorem jH {c : Cells} (o : Ok c) {Q : Int → Prop} (h0 : ∀ h,getM c h = none → Q h) (h1 : ∀ h n,getM c h = some n → Q n.2.1 → Q n.2.2 → Q h) : ∀ h,Q h:=by
 have key : ∀ (f : Nat) (h : Int),(24 - zk c h).toNat < f → Q h:=by
  intro f
  induction f with
  | zero => intro h hf;exact absurd hf (Nat.not_lt_zero _)
  | succ f ih =>
   intro h hf
   cases e : getM c h with
   | none => exact h0 h e
   | some n =>
    obtain ⟨k1,k2,_,_,k3,k4⟩:=o.kids e
    rw [zK e] at hf
    exact h1 h n e (ih _ (by omega)) (ih _ (by omega))
 exact fun h => key _ h (Nat.lt_succ_self _)
theorem zfP {c c' : Cells} (o : Ok c) (o' : Ok c') (e : Ext c c') (val : Int → Bool) : ∀ h,zx c h = true → den c' h val = den c h val:=by
 refine jH o (Q:=fun h => zx c h = true → den c' h val = den c h val) (fun h g hh => ?_) (fun h n g ih1 ih2 hh => ?_)
 · rw [zc3 g,zc3 ((e.get_eq hh).trans g)]
 ·
  obtain ⟨_,_,k1,k2,_,_⟩:=o.kids g
  rw [zbk o g,zbk o' (e.get g),ih1 k1,ih2 k2]
theorem zeo {c : Cells} (o : Ok c) {v : Int} (b : Bool) (val : Int → Bool) : ∀ h,v < zk c h → den c h (yw val v b) = den c h val:=by
 refine jH o (Q:=fun h => v < zk c h → den c h (yw val v b) = den c h val) (fun h g hv => ?_) (fun h n g ih1 ih2 hv => ?_)
 · rw [zc3 g,zc3 g]
 ·
  obtain ⟨_,_,k1,k2,k3,k4⟩:=o.kids g
  rw [zK g] at hv
  rw [zbk o g,zbk o g,ih1 (by omega),ih2 (by omega)]
  have : yw val v b n.1 = val n.1:=by unfold yw;rw [if_neg (by omega)]
  rw [this]
theorem zf4 {c : Cells} (o : Ok c) {h : Int} {n : Nd} (g : getM c h = some n) (val : Int → Bool) : den c h (yw val n.1 true) = den c n.2.2 val:=by
 obtain ⟨_,_,k1,k2,k3,k4⟩:=o.kids g
 rw [zbk o g,zeo o true val n.2.2 k4]
 simp [yw]
theorem ziA {c : Cells} (o : Ok c) {h : Int} {n : Nd} (g : getM c h = some n) (val : Int → Bool) : den c h (yw val n.1 false) = den c n.2.1 val:=by
 obtain ⟨_,_,k1,k2,k3,k4⟩:=o.kids g
 rw [zbk o g,zeo o false val n.2.1 k3]
 simp [yw]
def Red (c : Cells) : Prop:=∀ k n,c.at k = some n → n.2.1 ≠ n.2.2
theorem canon {c : Cells} (o : Ok c) (r : Red c) : ∀ (f : Nat) (h h' : Int),(24 - zk c h).toNat < f → (24 - zk c h').toNat < f → zx c h = true → zx c h' = true → (∀ val,den c h val = den c h' val) → h = h'
 | 0,_,_,h1,_,_,_,_ => absurd h1 (Nat.not_lt_zero _)
 | f + 1,h,h',hf,hf',hh,hh',he => by
  have node_case : ∀ {x x' : Int} {n : Nd},getM c x = some n → n.1 < zk c x' → (24 - zk c x).toNat < f + 1 → (∀ val,den c x val = den c x' val) → False:=by
   intro x x' n g hlt hx hd
   obtain ⟨k,rfl,hk,_⟩:=getM_some g
   obtain ⟨b1,b2,k1,k2,k3,k4⟩:=o.kids g
   rw [zK g] at hx
   refine r k n hk (canon o r f n.2.1 n.2.2 (by omega) (by omega) k1 k2 (fun val => ?_))
   rw [← ziA o g val,← zf4 o g val,hd,hd,zeo o _ _ _ hlt,zeo o _ _ _ hlt]
  cases g : getM c h with
  | none =>
   cases g' : getM c h' with
   | none =>
    have h2:=he (fun _ => true)
    rw [zc3 g,zc3 g'] at h2
    rcases yc hh g with rfl | rfl <;> rcases yc hh' g' with rfl | rfl
    · rfl
    · exact absurd h2 (by decide)
    · exact absurd h2 (by decide)
    · rfl
   | some n' => exact (node_case g' (by rw [qH g];exact (o.kids g').2.1) hf' (fun val => (he val).symm)).elim
  | some n =>
   cases g' : getM c h' with
   | none => exact (node_case g (by rw [qH g'];exact (o.kids g).2.1) hf he).elim
   | some n' =>
    rcases Int.lt_trichotomy n.1 n'.1 with h3 | h3 | h3
    · exact (node_case g (by rw [zK g'];exact h3) hf he).elim
    ·
     obtain ⟨b1,b2,k1,k2,k3,k4⟩:=o.kids g
     obtain ⟨b1',b2',k1',k2',k3',k4'⟩:=o.kids g'
     rw [zK g] at hf
     rw [zK g'] at hf'
     have e1:=canon o r f n.2.1 n'.2.1 (by omega) (by omega) k1 k1' (fun val => by rw [← ziA o g val,← ziA o g' val,h3];exact he _)
     have e2:=canon o r f n.2.2 n'.2.2 (by omega) (by omega) k2 k2' (fun val => by rw [← zf4 o g val,← zf4 o g' val,h3];exact he _)
     obtain ⟨k,rfl,hk,_⟩:=getM_some g
     obtain ⟨k',rfl,hk',_⟩:=getM_some g'
     have : n = n':=by
      obtain ⟨a,b,d⟩:=n
      obtain ⟨a',b',d'⟩:=n'
      simp only at h3 e1 e2
      rw [h3,e1,e2]
     subst this
     rw [o.uniq k k' n hk hk']
    · exact (node_case g' (by rw [zK g];exact h3) hf' (fun val => (he val).symm)).elim
structure Sp where
 c : Cells
 q : Int × Int × Int → Option Int
def putQ (q : Int × Int × Int → Option Int) (k : Int × Int × Int) (h : Int) : Int × Int × Int → Option Int:=fun k' => if k = k' then some h else q k'
def min3 (a b c : Int) : Int:=min (min a b) c
def hitM (s : Sp) (k : Int × Int × Int) : Option Int:=match s.q k with
 | some h => if zx s.c h then some h else none
 | none => none
structure SOk (V : Int) (s : Sp) : Prop where
 ok : Ok s.c
 red : Red s.c
 vlt : ∀ k n,s.c.at k = some n → n.1 < V
 mem : ∀ a b c h,s.q (a,b,c) = some h → zx s.c a = true ∧ zx s.c b = true ∧ zx s.c c = true ∧ zx s.c h = true ∧ (∀ val,den s.c h val = if den s.c a val then den s.c b val else den s.c c val) ∧ min3 (zk s.c a) (zk s.c b) (zk s.c c) ≤ zk s.c h
theorem zhq {V v : Int} (h : v < V) : 2 ^ (V - v).toNat = 2 ^ (V - (v + 1)).toNat + 2 ^ (V - (v + 1)).toNat:=by
 have : (V - v).toNat = (V - (v + 1)).toNat + 1:=by omega
 rw [this,Nat.pow_succ];omega
theorem zai {a b : Nat} (h : a ≤ b) : 2 ^ a ≤ 2 ^ b:=Nat.pow_le_pow_right (by decide) h
theorem two_pow_pos (a : Nat) : 1 ≤ 2 ^ a:=Nat.one_le_two_pow
theorem SOk.hit {V : Int} {st : Sp} (so : SOk V st) (a b c : Int) : hitM st (a,b,c) = st.q (a,b,c):=by
 unfold hitM
 cases e : st.q (a,b,c) with
 | none => rfl
 | some h => simp only [(so.mem a b c h e).2.2.2.1,if_true]
def ClD (L : List (Int × Bool)) (val : Int → Bool) : Bool:=L.any fun p => val p.1 == p.2
def IsCl (c : Cells) (h : Int) : Prop:=∃ L,∀ val,den c h val = ClD L val
theorem IsCl.ext {c c' : Cells} (o : Ok c) (o' : Ok c') (e : Ext c c') {h : Int} (hh : zx c h = true) (k : IsCl c h) : IsCl c' h:=by
 obtain ⟨L,hL⟩:=k
 exact ⟨L,fun val => by rw [zfP o o' e val h hh,hL]⟩
structure COk (V : Int) (c : Cells) : Prop where
 ok : Ok c
 red : Red c
 vlt : ∀ k n,c.at k = some n → n.1 < V
theorem SOk.cells {V : Int} {s : Sp} (h : SOk V s) : COk V s.c:=⟨h.ok,h.red,h.vlt⟩
theorem SOk.more {V : Int} {c c' : Cells} {q : Int × Int × Int → Option Int} (h : SOk V ⟨c,q⟩) (e : Ext c c') (o : COk V c') : SOk V ⟨c',q⟩:=by
 refine ⟨o.ok,o.red,o.vlt,fun a b x y hm => ?_⟩
 obtain ⟨n1,n2,n3,n4,n5,n6⟩:=h.mem a b x y hm
 have D : ∀ {z : Int},zx c z = true → ∀ val,den c' z val = den c z val:=fun hx val => zfP h.ok o.ok e val _ hx
 exact ⟨e.has n1,e.has n2,e.has n3,e.has n4,fun val => by dsimp only;rw [D n1,D n2,D n3,D n4];exact n5 val,by dsimp only at n6 ⊢;rw [e.top n1,e.top n2,e.top n3,e.top n4];exact n6⟩
theorem SOk.none {V : Int} {c : Cells} (o : COk V c) : SOk V ⟨c,fun _ => none⟩:=⟨o.ok,o.red,o.vlt,fun _ _ _ _ h => by cases h⟩
theorem COk.empty (V : Int) (R : Nat) : COk V (List.replicate R none):=by
 have hat : ∀ k,Cells.at (List.replicate R none) k = none:=fun k => by unfold Cells.at;simp only [List.getD_eq_getElem?_getD,List.getElem?_replicate];split <;> rfl
 exact ⟨⟨fun k n h => (by rw [hat] at h;cases h),fun k n h => (by rw [hat] at h;cases h),fun k n h => (by rw [hat] at h;cases h),fun j k n h => (by rw [hat] at h;cases h)⟩,fun k n h => (by rw [hat] at h;cases h),fun k n h => (by rw [hat] at h;cases h)⟩
theorem COk.zgL {V : Int} {c : Cells} (o : COk V c) (l : List Int) : COk V (xk c l) :=
 ⟨zeI o.ok l,fun k n h => o.red k n (yt.1 h).2,fun k n h => o.vlt k n (yt.1 h).2⟩
abbrev Done:=Int → Option Int
def putD (d : Done) (h x : Int) : Done:=fun k => if h = k then some x else d k
structure DOk (c : Cells) (d : Done) (v : Int) (is : Bool) : Prop where
 at_ : ∀ k x,d k = some x → zx c k = true ∧ zx c x = true ∧ (∀ val,den c x val = den c k (yw val v is)) ∧ zk c k ≤ zk c x
theorem DOk.ext {c c' : Cells} {d : Done} {v : Int} {is : Bool} (h : DOk c d v is) (o : Ok c) (o' : Ok c') (e : Ext c c') : DOk c' d v is :=
 ⟨fun k x hk => by
  obtain ⟨h1,h2,h3,h4⟩:=h.at_ k x hk
  exact ⟨e.has h1,e.has h2,fun val => by rw [zfP o o' e val _ h2,zfP o o' e _ _ h1];exact h3 val,by rw [e.top h1,e.top h2];exact h4⟩⟩
