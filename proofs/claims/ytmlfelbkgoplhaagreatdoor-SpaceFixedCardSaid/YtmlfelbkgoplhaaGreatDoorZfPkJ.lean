import Derived.Test.YtmlfelbkgoplhaaGreatDoorZfPkE
set_option linter.unusedVariables false
namespace Go.Proofs.YtmlfelbkgoplhaaGreatDoor
def zdx : Nat → Cells → Int → (Int → Bool) → Bool
 | 0,_,_,_ => false
 | f + 1,c,h,val => match getM c h with
  | none => h == 1
  | some n => if val n.1 then zdx f c n.2.2 val else zdx f c n.2.1 val
theorem zen {f : Nat} {c : Cells} {h : Int} (e : getM c h = none) (val : Int → Bool) : zdx (f + 1) c h val = (h == 1):=by simp only [zdx,e]
theorem zee {f : Nat} {c : Cells} {h : Int} {n : Nd} (e : getM c h = some n) (val : Int → Bool) : zdx (f + 1) c h val = if val n.1 then zdx f c n.2.2 val else zdx f c n.2.1 val:=by simp only [zdx,e]
def den (c : Cells) (h : Int) (val : Int → Bool) : Bool:=zdx 25 c h val
def yS (val : Int → Bool) (v : Int) (b : Bool) : Int → Bool:=fun u => if u = v then b else val u
theorem yt {c : Cells} {h : Int} {n : Nd} (g : getM c h = some n) : zl c h = n.1:=by unfold zl;rw [g]
theorem kL {c : Cells} {h : Int} (g : getM c h = none) : zl c h = 24:=by unfold zl;rw [g]
theorem Ok.kids {c : Cells} (o : Ok c) {h : Int} {n : Nd} (g : getM c h = some n) :
 0 ≤ n.1 ∧ n.1 < 24 ∧ zG c n.2.1 = true ∧ zG c n.2.2 = true ∧ n.1 < zl c n.2.1 ∧ n.1 < zl c n.2.2:=by
 obtain ⟨k,rfl,h1,_⟩:=getM_some g
 exact ⟨(o.var k n h1).1,(o.var k n h1).2,(o.low k n h1).1,(o.high k n h1).1,(o.low k n h1).2,(o.high k n h1).2⟩
theorem zkf {c : Cells} {h : Int} {n : Nd} (g : getM c h = some n) : zG c h = true:=by unfold zG;rw [g];simp
theorem zcl {c : Cells} (o : Ok c) (val : Int → Bool) : ∀ (f g : Nat) (h : Int),(24 - zl c h).toNat < f → f ≤ g → zdx f c h val = zdx g c h val
 | 0,_,_,h1,_ => absurd h1 (Nat.not_lt_zero _)
 | f + 1,0,_,_,h2 => absurd h2 (by omega)
 | f + 1,g + 1,h,h1,h2 => by
  cases e : getM c h with
  | none => rw [zen e,zen e]
  | some n =>
   obtain ⟨k1,k2,_,_,k3,k4⟩:=o.kids e
   rw [yt e] at h1
   rw [zee e,zee e,zcl o val f g n.2.1 (by omega) (by omega),zcl o val f g n.2.2 (by omega) (by omega)]
theorem xY {c : Cells} (o : Ok c) {h : Int} {n : Nd} (e : getM c h = some n) (val : Int → Bool) : den c h val = if val n.1 then den c n.2.2 val else den c n.2.1 val:=by
 obtain ⟨k1,k2,_,_,k3,k4⟩:=o.kids e
 show zdx (24 + 1) c h val = if val n.1 then zdx 25 c n.2.2 val else zdx 25 c n.2.1 val
 rw [zee e,zcl o val 24 25 n.2.1 (by omega) (by omega),zcl o val 24 25 n.2.2 (by omega) (by omega)]
theorem xD {c : Cells} {h : Int} (e : getM c h = none) (val : Int → Bool) : den c h val = (h == 1):=zen (f:=24) e val
theorem zbX (c : Cells) (val : Int → Bool) : den c 0 val = false:=by rw [xD (j4 c (.inl rfl))];rfl
theorem zbg (c : Cells) (val : Int → Bool) : den c 1 val = true:=by rw [xD (j4 c (.inr rfl))];rfl
theorem zdh {c : Cells} (o : Ok c) {Q : Int → Prop} (h0 : ∀ h,getM c h = none → Q h) (h1 : ∀ h n,getM c h = some n → Q n.2.1 → Q n.2.2 → Q h) : ∀ h,Q h:=by
 have key : ∀ (f : Nat) (h : Int),(24 - zl c h).toNat < f → Q h:=by
  intro f
  induction f with
  | zero => intro h hf;exact absurd hf (Nat.not_lt_zero _)
  | succ f ih =>
   intro h hf
   cases e : getM c h with
   | none => exact h0 h e
   | some n =>
    obtain ⟨k1,k2,_,_,k3,k4⟩:=o.kids e
    rw [yt e] at hf
    exact h1 h n e (ih _ (by omega)) (ih _ (by omega))
 exact fun h => key _ h (Nat.lt_succ_self _)
theorem qH {c c' : Cells} (o : Ok c) (o' : Ok c') (e : Ext c c') (val : Int → Bool) : ∀ h,zG c h = true → den c' h val = den c h val:=by
 refine zdh o (Q:=fun h => zG c h = true → den c' h val = den c h val) (fun h g hh => ?_) (fun h n g ih1 ih2 hh => ?_)
 · rw [xD g,xD ((e.get_eq hh).trans g)]
 ·
  obtain ⟨_,_,k1,k2,_,_⟩:=o.kids g
  rw [xY o g,xY o' (e.get g),ih1 k1,ih2 k2]
theorem zbc {c : Cells} (o : Ok c) {v : Int} (b : Bool) (val : Int → Bool) : ∀ h,v < zl c h → den c h (yS val v b) = den c h val:=by
 refine zdh o (Q:=fun h => v < zl c h → den c h (yS val v b) = den c h val) (fun h g hv => ?_) (fun h n g ih1 ih2 hv => ?_)
 · rw [xD g,xD g]
 ·
  obtain ⟨_,_,k1,k2,k3,k4⟩:=o.kids g
  rw [yt g] at hv
  rw [xY o g,xY o g,ih1 (by omega),ih2 (by omega)]
  have : yS val v b n.1 = val n.1:=by unfold yS;rw [if_neg (by omega)]
  rw [this]
theorem zaW {c : Cells} (o : Ok c) {h : Int} {n : Nd} (g : getM c h = some n) (val : Int → Bool) : den c h (yS val n.1 true) = den c n.2.2 val:=by
 obtain ⟨_,_,k1,k2,k3,k4⟩:=o.kids g
 rw [xY o g,zbc o true val n.2.2 k4]
 simp [yS]
theorem zcd {c : Cells} (o : Ok c) {h : Int} {n : Nd} (g : getM c h = some n) (val : Int → Bool) : den c h (yS val n.1 false) = den c n.2.1 val:=by
 obtain ⟨_,_,k1,k2,k3,k4⟩:=o.kids g
 rw [xY o g,zbc o false val n.2.1 k3]
 simp [yS]
def Red (c : Cells) : Prop:=∀ k n,c.at k = some n → n.2.1 ≠ n.2.2
theorem canon {c : Cells} (o : Ok c) (r : Red c) : ∀ (f : Nat) (h h' : Int),(24 - zl c h).toNat < f → (24 - zl c h').toNat < f → zG c h = true → zG c h' = true → (∀ val,den c h val = den c h' val) → h = h'
 | 0,_,_,h1,_,_,_,_ => absurd h1 (Nat.not_lt_zero _)
 | f + 1,h,h',hf,hf',hh,hh',he => by
  have node_case : ∀ {x x' : Int} {n : Nd},getM c x = some n → n.1 < zl c x' → (24 - zl c x).toNat < f + 1 → (∀ val,den c x val = den c x' val) → False:=by
   intro x x' n g hlt hx hd
   obtain ⟨k,rfl,hk,_⟩:=getM_some g
   obtain ⟨b1,b2,k1,k2,k3,k4⟩:=o.kids g
   rw [yt g] at hx
   refine r k n hk (canon o r f n.2.1 n.2.2 (by omega) (by omega) k1 k2 (fun val => ?_))
   rw [← zcd o g val,← zaW o g val,hd,hd,zbc o _ _ _ hlt,zbc o _ _ _ hlt]
  cases g : getM c h with
  | none =>
   cases g' : getM c h' with
   | none =>
    have h2:=he (fun _ => true)
    rw [xD g,xD g'] at h2
    rcases yK hh g with rfl | rfl <;> rcases yK hh' g' with rfl | rfl
    · rfl
    · exact absurd h2 (by decide)
    · exact absurd h2 (by decide)
    · rfl
   | some n' => exact (node_case g' (by rw [kL g];exact (o.kids g').2.1) hf' (fun val => (he val).symm)).elim
  | some n =>
   cases g' : getM c h' with
   | none => exact (node_case g (by rw [kL g'];exact (o.kids g).2.1) hf he).elim
   | some n' =>
    rcases Int.lt_trichotomy n.1 n'.1 with h3 | h3 | h3
    · exact (node_case g (by rw [yt g'];exact h3) hf he).elim
    ·
     obtain ⟨b1,b2,k1,k2,k3,k4⟩:=o.kids g
     obtain ⟨b1',b2',k1',k2',k3',k4'⟩:=o.kids g'
     rw [yt g] at hf
     rw [yt g'] at hf'
     have e1:=canon o r f n.2.1 n'.2.1 (by omega) (by omega) k1 k1' (fun val => by rw [← zcd o g val,← zcd o g' val,h3];exact he _)
     have e2:=canon o r f n.2.2 n'.2.2 (by omega) (by omega) k2 k2' (fun val => by rw [← zaW o g val,← zaW o g' val,h3];exact he _)
     obtain ⟨k,rfl,hk,_⟩:=getM_some g
     obtain ⟨k',rfl,hk',_⟩:=getM_some g'
     have : n = n':=by
      obtain ⟨a,b,d⟩:=n
      obtain ⟨a',b',d'⟩:=n'
      simp only at h3 e1 e2
      rw [h3,e1,e2]
     subst this
     rw [o.uniq k k' n hk hk']
    · exact (node_case g' (by rw [yt g];exact h3) hf' (fun val => (he val).symm)).elim
theorem zgf {c : Cells} (o : Ok c) (r : Red c) {h h' : Int} (hh : zG c h = true) (hh' : zG c h' = true) (he : ∀ val,den c h val = den c h' val) : h = h' :=
 canon o r ((24 - zl c h).toNat + (24 - zl c h').toNat + 1) h h' (by omega) (by omega) hh hh' he
def qj (c : Cells) (v low high : Int) : Cells × Int × Nat:=if low = high then (c,low,0) else mkM c (v,low,high)
def atM (c : Cells) (h v : Int) : Int × Int:=match getM c h with
 | some n => if n.1 = v then (n.2.1,n.2.2) else (h,h)
 | none => (h,h)
structure Sp where
 c : Cells
 q : Int × Int × Int → Option Int
def zl5 (q : Int × Int × Int → Option Int) (k : Int × Int × Int) (h : Int) : Int × Int × Int → Option Int:=fun k' => if k = k' then some h else q k'
def yJ (a b c : Int) : Int:=min (min a b) c
def zjl (s : Sp) (k : Int × Int × Int) : Option Int:=match s.q k with
 | some h => if zG s.c h then some h else none
 | none => none
def qJ : Nat → Sp → Int → Int → Int → Sp × Int × Nat
 | 0,s,_,_,_ => (s,0,99)
 | f + 1,s,a,b,c =>
  if a = 1 ∨ b = c then (s,b,0) else if a = 0 then (s,c,0) else
  match zjl s (a,b,c) with
  | some h => (s,h,0)
  | none =>
   let v:=yJ (zl s.c a) (zl s.c b) (zl s.c c)
   let r1:=qJ f s (atM s.c a v).1 (atM s.c b v).1 (atM s.c c v).1
   if r1.2.2 ≠ 0 then (r1.1,0,r1.2.2) else
   let r2:=qJ f r1.1 (atM s.c a v).2 (atM s.c b v).2 (atM s.c c v).2
   if r2.2.2 ≠ 0 then (r2.1,0,r2.2.2) else
   let r3:=qj r2.1.c v r1.2.1 r2.2.1
   (⟨r3.1,if r3.2.2 = 0 then zl5 r2.1.q (a,b,c) r3.2.1 else r2.1.q⟩,r3.2.1,r3.2.2)
structure SOk (V : Int) (s : Sp) : Prop where
 ok : Ok s.c
 red : Red s.c
 vlt : ∀ k n,s.c.at k = some n → n.1 < V
 mem : ∀ a b c h,s.q (a,b,c) = some h → zG s.c a = true ∧ zG s.c b = true ∧ zG s.c c = true ∧ zG s.c h = true ∧ (∀ val,den s.c h val = if den s.c a val then den s.c b val else den s.c c val) ∧ yJ (zl s.c a) (zl s.c b) (zl s.c c) ≤ zl s.c h
theorem Ok.xL {c : Cells} (o : Ok c) (h : Int) : 0 ≤ zl c h ∧ zl c h ≤ 24:=zcf o h
structure zq0 (c : Cells) (v l h : Int) (r : Cells × Int × Nat) : Prop where
 err : r.2.2 = 0
 ext : Ext c r.1
 ok : Ok r.1
 red : Red r.1
 has : zG r.1 r.2.1 = true
 den : ∀ val,den r.1 r.2.1 val = if val v then den c h val else den c l val
 top : v ≤ zl r.1 r.2.1
 cnt : cnt r.1 ≤ cnt c + 1
 old : ∀ k n,r.1.at k = some n → c.at k = some n ∨ n = (v,l,h)
theorem zbi {c : Cells} (o : Ok c) (rd : Red c) {v l h : Int} (v0 : 0 ≤ v) (v1 : v < 24) (hl : zG c l = true) (hh : zG c h = true) (tl : v < zl c l) (th : v < zl c h) (hr : cnt c < c.length) : zq0 c v l h (qj c v l h):=by
 by_cases e : l = h
 ·
  subst e
  have hn : qj c v l l = (c,l,0):=by unfold qj;rw [if_pos rfl]
  rw [hn]
  exact ⟨rfl,Ext.refl c,o,rd,hl,fun val => by simp,by dsimp only;omega,by simp,fun k n h => .inl h⟩
 ·
  have hn : qj c v l h = mkM c (v,l,h):=by unfold qj;rw [if_neg e]
  have hb : zas c (v,l,h) = 0:=zgW v0 v1 hl hh tl th
  have he:=zoQ hb hr
  have hext:=zpY c (v,l,h)
  have hok:=zrH o (v,l,h)
  have hg:=zpv he
  have hold : ∀ k n,(mkM c (v,l,h)).1.at k = some n → c.at k = some n ∨ n = (v,l,h):=by
   intro k n hk
   unfold mkM at hk
   rw [if_neg (by simp [hb])] at hk
   split at hk
   · exact .inl hk
   ·
    split at hk
    ·
     rename_i j hj
     rw [at_set _ (xA hj).1] at hk
     split at hk
     · cases hk;exact .inr rfl
     · exact .inl hk
    · exact .inl hk
  rw [hn]
  refine ⟨he,hext,hok,fun k n hk => ?_,zkf hg,fun val => ?_,?_,zk0 c _,hold⟩
  ·
   rcases hold k n hk with h1 | rfl
   · exact rd k n h1
   · exact e
  · rw [xY hok hg,qH o hok hext val l hl,qH o hok hext val h hh]
  · rw [yt hg];exact Int.le_refl _
structure AtOk (c : Cells) (h v : Int) (r : Int × Int) : Prop where
 zdH : zG c r.1 = true
 kK : zG c r.2 = true
 den1 : ∀ val,den c r.1 val = den c h (yS val v false)
 den2 : ∀ val,den c r.2 val = den c h (yS val v true)
 ziU : v < zl c r.1
 zjo : v < zl c r.2
theorem za0 {c : Cells} (o : Ok c) {h v : Int} (hh : zG c h = true) (hv : v ≤ zl c h) (hv2 : v < 24) : AtOk c h v (atM c h v):=by
 unfold atM
 cases g : getM c h with
 | none =>
  have:=kL g
  exact ⟨hh,hh,fun val => by dsimp only;rw [xD g,xD g],fun val => by dsimp only;rw [xD g,xD g],by dsimp only;omega,by dsimp only;omega⟩
 | some n =>
  obtain ⟨b1,b2,k1,k2,k3,k4⟩:=o.kids g
  have ht:=yt g
  dsimp only
  split
  ·
   rename_i e
   subst e
   exact ⟨k1,k2,fun val => (zcd o g val).symm,fun val => (zaW o g val).symm,k3,k4⟩
  ·
   rename_i e
   have : v < zl c h:=by omega
   exact ⟨hh,hh,fun val => (zbc o _ val h this).symm,fun val => (zbc o _ val h this).symm,this,this⟩
theorem zg7 (val : Int → Bool) (v : Int) : yS val v (val v) = val:=by
 funext u;unfold yS;split
 · rename_i e;rw [e]
 · rfl
theorem zaJ {V v : Int} (h : v < V) : 2 ^ (V - v).toNat = 2 ^ (V - (v + 1)).toNat + 2 ^ (V - (v + 1)).toNat:=by
 have : (V - v).toNat = (V - (v + 1)).toNat + 1:=by omega
 rw [this,Nat.pow_succ];omega
theorem xM {a b : Nat} (h : a ≤ b) : 2 ^ a ≤ 2 ^ b:=Nat.pow_le_pow_right (by decide) h
theorem two_pow_pos (a : Nat) : 1 ≤ 2 ^ a:=Nat.one_le_two_pow
structure IteOk (V : Int) (s : Sp) (a b c : Int) (r : Sp × Int × Nat) : Prop where
 err : r.2.2 = 0
 sok : SOk V r.1
 ext : Ext s.c r.1.c
 has : zG r.1.c r.2.1 = true
 den : ∀ val,den r.1.c r.2.1 val = if den s.c a val then den s.c b val else den s.c c val
 top : yJ (zl s.c a) (zl s.c b) (zl s.c c) ≤ zl r.1.c r.2.1
 cnt : cnt r.1.c + 1 ≤ cnt s.c + 2 ^ (V - yJ (zl s.c a) (zl s.c b) (zl s.c c)).toNat
theorem zmU {s : Sp} {k : Int × Int × Int} {h : Int} (e : zjl s k = some h) : s.q k = some h:=by
 unfold zjl at e
 cases h1 : s.q k with
 | none => rw [h1] at e;cases e
 | some h' =>
  rw [h1] at e
  simp only at e
  split at e
  · exact e
  · cases e
theorem zaY (V : Int) (hV : V ≤ 24) : ∀ (f : Nat) (s : Sp) (a b c : Int),SOk V s → zG s.c a = true → zG s.c b = true → zG s.c c = true → (24 - yJ (zl s.c a) (zl s.c b) (zl s.c c)).toNat < f →
 cnt s.c + 2 ^ (V - yJ (zl s.c a) (zl s.c b) (zl s.c c)).toNat ≤ s.c.length + 1 → IteOk V s a b c (qJ f s a b c)
 | 0,_,_,_,_,_,_,_,_,hf,_ => absurd hf (Nat.not_lt_zero _)
 | f + 1,s,a,b,c,so,ha,hb,hc,hf,hr => by
  have ta:=so.ok.xL a
  have tb:=so.ok.xL b
  have tc:=so.ok.xL c
  have p1:=two_pow_pos (V - yJ (zl s.c a) (zl s.c b) (zl s.c c)).toNat
  by_cases h1 : a = 1 ∨ b = c
  ·
   have e : qJ (f + 1) s a b c = (s,b,0):=by rw [qJ,if_pos h1]
   rw [e]
   refine ⟨rfl,so,Ext.refl _,hb,fun val => ?_,by unfold yJ;dsimp only;omega,by dsimp only;omega⟩
   rcases h1 with rfl | rfl
   · simp [zbg]
   · simp
  ·
   by_cases h0 : a = 0
   ·
    have e : qJ (f + 1) s a b c = (s,c,0):=by rw [qJ,if_neg h1,if_pos h0]
    rw [e]
    refine ⟨rfl,so,Ext.refl _,hc,fun val => ?_,by unfold yJ;dsimp only;omega,by dsimp only;omega⟩
    subst h0;simp [zbX]
   ·
    cases hq : zjl s (a,b,c) with
    | some h =>
     have e : qJ (f + 1) s a b c = (s,h,0):=by rw [qJ,if_neg h1,if_neg h0,hq]
     rw [e]
     obtain ⟨_,_,_,m1,m2,m3⟩:=so.mem a b c h (zmU hq)
     exact ⟨rfl,so,Ext.refl _,m1,m2,m3,by dsimp only;omega⟩
    | none =>
     obtain ⟨v,hv⟩ : ∃ v,v = yJ (zl s.c a) (zl s.c b) (zl s.c c):=⟨_,rfl⟩
     have hva : v ≤ zl s.c a:=by rw [hv];unfold yJ;omega
     have hvb : v ≤ zl s.c b:=by rw [hv];unfold yJ;omega
     have hvc : v ≤ zl s.c c:=by rw [hv];unfold yJ;omega
     have hv0 : 0 ≤ v:=by rw [hv];unfold yJ;omega
     obtain ⟨n,g⟩ : ∃ n,getM s.c a = some n:=by
      cases g : getM s.c a with
      | some n => exact ⟨n,rfl⟩
      | none =>
       rcases yK ha g with e | e
       · exact absurd e h0
       · exact absurd (.inl e) h1
     have hvV : v < V:=by
      have h2:=yt g
      obtain ⟨k,rfl,h3,_⟩:=getM_some g
      have:=so.vlt k n h3
      omega
     have A:=za0 so.ok ha hva (by omega)
     have B:=za0 so.ok hb hvb (by omega)
     have C:=za0 so.ok hc hvc (by omega)
     have m1 : v + 1 ≤ yJ (zl s.c (atM s.c a v).1) (zl s.c (atM s.c b v).1) (zl s.c (atM s.c c v).1):=by have:=A.ziU;have:=B.ziU;have:=C.ziU;unfold yJ;omega
     have w1:=xM (show (V - yJ (zl s.c (atM s.c a v).1) (zl s.c (atM s.c b v).1) (zl s.c (atM s.c c v).1)).toNat ≤ (V - (v + 1)).toNat by omega)
     have sp:=zaJ hvV
     have p2:=two_pow_pos (V - (v + 1)).toNat
     rw [← hv] at hr hf
     have r1:=zaY V hV f s (atM s.c a v).1 (atM s.c b v).1 (atM s.c c v).1 so A.zdH B.zdH C.zdH (by omega) (by omega)
     have e : qJ (f + 1) s a b c = (let r1:=qJ f s (atM s.c a v).1 (atM s.c b v).1 (atM s.c c v).1
      if r1.2.2 ≠ 0 then (r1.1,0,r1.2.2) else
      let r2:=qJ f r1.1 (atM s.c a v).2 (atM s.c b v).2 (atM s.c c v).2
      if r2.2.2 ≠ 0 then (r2.1,0,r2.2.2) else
      let r3:=qj r2.1.c v r1.2.1 r2.2.1
      (⟨r3.1,if r3.2.2 = 0 then zl5 r2.1.q (a,b,c) r3.2.1 else r2.1.q⟩,r3.2.1,r3.2.2)):=by rw [qJ,if_neg h1,if_neg h0,hq,hv]
     rw [e]
     generalize qJ f s (atM s.c a v).1 (atM s.c b v).1 (atM s.c c v).1 = R1 at r1 ⊢
     have E1:=r1.ext
     have c1:=r1.cnt
     have ht2 : ∀ {x : Int},zG s.c x = true → zl R1.1.c x = zl s.c x:=fun hx => E1.top hx
     have m2 : v + 1 ≤ yJ (zl R1.1.c (atM s.c a v).2) (zl R1.1.c (atM s.c b v).2) (zl R1.1.c (atM s.c c v).2):=by
      rw [ht2 A.kK,ht2 B.kK,ht2 C.kK];have:=A.zjo;have:=B.zjo;have:=C.zjo;unfold yJ;omega
     have w2:=xM (show (V - yJ (zl R1.1.c (atM s.c a v).2) (zl R1.1.c (atM s.c b v).2) (zl R1.1.c (atM s.c c v).2)).toNat ≤ (V - (v + 1)).toNat by omega)
     have L1:=E1.len
     have r2:=zaY V hV f R1.1 (atM s.c a v).2 (atM s.c b v).2 (atM s.c c v).2 r1.sok (E1.has A.kK) (E1.has B.kK) (E1.has C.kK) (by omega) (by omega)
     have er1 : ¬ (R1.2.2 ≠ 0):=by rw [r1.err];simp
     simp only [if_neg er1]
     generalize qJ f R1.1 (atM s.c a v).2 (atM s.c b v).2 (atM s.c c v).2 = R2 at r2 ⊢
     have E2:=r2.ext
     have c2:=r2.cnt
     have L2:=E2.len
     have er2 : ¬ (R2.2.2 ≠ 0):=by rw [r2.err];simp
     simp only [if_neg er2]
     have t1 : v < zl R2.1.c R1.2.1:=by rw [E2.top r1.has];have:=r1.top;omega
     have t2 : v < zl R2.1.c R2.2.1:=by have:=r2.top;omega
     have r3:=zbi r2.sok.ok r2.sok.red hv0 (by omega) (E2.has r1.has) r2.has t1 t2 (by omega)
     generalize qj R2.1.c v R1.2.1 R2.2.1 = R3 at r3 ⊢
     have E3:=r3.ext
     have c3:=r3.cnt
     have E:=(E1.trans E2).trans E3
     have hden : ∀ val,den R3.1 R3.2.1 val = if den s.c a val then den s.c b val else den s.c c val:=by
      intro val
      rw [r3.den]
      cases hb' : val v
      ·
       have hs : yS val v false = val:=by rw [← hb'];exact zg7 val v
       simp only [Bool.false_eq_true,if_false]
       rw [qH r1.sok.ok r2.sok.ok E2 val _ r1.has,r1.den,A.den1,B.den1,C.den1,hs]
      ·
       have hs : yS val v true = val:=by rw [← hb'];exact zg7 val v
       simp only [if_true]
       rw [r2.den,qH so.ok r1.sok.ok E1 val _ A.kK,qH so.ok r1.sok.ok E1 val _ B.kK,qH so.ok r1.sok.ok E1 val _ C.kK,A.den2,B.den2,C.den2,hs]
     have D : ∀ {x : Int},zG s.c x = true → ∀ val,den R3.1 x val = den s.c x val:=fun hx val => qH so.ok r3.ok E val _ hx
     rw [if_pos r3.err]
     refine ⟨r3.err,⟨r3.ok,r3.red,fun k m hk => ?_,fun a' b' c' h' hm => ?_⟩,E,r3.has,hden,by rw [← hv];exact r3.top,by rw [← hv];dsimp only;omega⟩
     ·
      rcases r3.old k m hk with h3 | rfl
      · exact r2.sok.vlt k m h3
      · exact hvV
     ·
      unfold zl5 at hm
      dsimp only at hm ⊢
      split at hm
      ·
       rename_i e4
       simp only [Prod.mk.injEq] at e4
       obtain ⟨rfl,rfl,rfl⟩:=e4
       cases hm
       refine ⟨E.has ha,E.has hb,E.has hc,r3.has,fun val => ?_,?_⟩
       · rw [D ha,D hb,D hc];exact hden val
       · rw [E.top ha,E.top hb,E.top hc,← hv];exact r3.top
      ·
       obtain ⟨n1,n2,n3,n4,n5,n6⟩:=r2.sok.mem a' b' c' h' hm
       have D2 : ∀ {x : Int},zG R2.1.c x = true → ∀ val,den R3.1 x val = den R2.1.c x val:=fun hx val => qH r2.sok.ok r3.ok E3 val _ hx
       exact ⟨E3.has n1,E3.has n2,E3.has n3,E3.has n4,fun val => by rw [D2 n1,D2 n2,D2 n3,D2 n4];exact n5 val,by rw [E3.top n1,E3.top n2,E3.top n3,E3.top n4];exact n6⟩
theorem SOk.hit {V : Int} {st : Sp} (so : SOk V st) (a b c : Int) : zjl st (a,b,c) = st.q (a,b,c):=by
 unfold zjl
 cases e : st.q (a,b,c) with
 | none => rfl
 | some h => simp only [(so.mem a b c h e).2.2.2.1,if_true]
theorem zlp {V : Int} (hV : V ≤ 24) {f : Nat} {s : Sp} {a b c : Int} (so : SOk V s) (ha : zG s.c a = true) (hb : zG s.c b = true) (hc : zG s.c c = true) (hf : (24 - yJ (zl s.c a) (zl s.c b) (zl s.c c)).toNat < f + 1)
 (hr : cnt s.c + 2 ^ (V - yJ (zl s.c a) (zl s.c b) (zl s.c c)).toNat ≤ s.c.length + 1) (h1 : ¬ (a = 1 ∨ b = c)) (h0 : ¬ a = 0) (hq : s.q (a,b,c) = none) {v : Int} (hv : v = yJ (zl s.c a) (zl s.c b) (zl s.c c)) :
 ∃ R1 R2 R3,R1 = qJ f s (atM s.c a v).1 (atM s.c b v).1 (atM s.c c v).1 ∧ R2 = qJ f R1.1 (atM s.c a v).2 (atM s.c b v).2 (atM s.c c v).2 ∧ R3 = qj R2.1.c v R1.2.1 R2.2.1 ∧
  qJ (f + 1) s a b c = (⟨R3.1,zl5 R2.1.q (a,b,c) R3.2.1⟩,R3.2.1,0) ∧ AtOk s.c a v (atM s.c a v) ∧ AtOk s.c b v (atM s.c b v) ∧ AtOk s.c c v (atM s.c c v) ∧ v < V ∧
  (24 - yJ (zl s.c (atM s.c a v).1) (zl s.c (atM s.c b v).1) (zl s.c (atM s.c c v).1)).toNat < f ∧ cnt s.c + 2 ^ (V - yJ (zl s.c (atM s.c a v).1) (zl s.c (atM s.c b v).1) (zl s.c (atM s.c c v).1)).toNat ≤ s.c.length + 1 ∧
  (24 - yJ (zl R1.1.c (atM s.c a v).2) (zl R1.1.c (atM s.c b v).2) (zl R1.1.c (atM s.c c v).2)).toNat < f ∧ cnt R1.1.c + 2 ^ (V - yJ (zl R1.1.c (atM s.c a v).2) (zl R1.1.c (atM s.c b v).2) (zl R1.1.c (atM s.c c v).2)).toNat ≤ R1.1.c.length + 1 ∧
  R1.2.2 = 0 ∧ R2.2.2 = 0 ∧ R3.2.2 = 0 ∧ SOk V R1.1 ∧ SOk V R2.1 ∧ Ext s.c R1.1.c ∧ Ext R1.1.c R2.1.c ∧ zG R1.1.c R1.2.1 = true ∧ zG R2.1.c R2.2.1 = true:=by
 have ta:=so.ok.xL a
 have tb:=so.ok.xL b
 have tc:=so.ok.xL c
 have hva : v ≤ zl s.c a:=by rw [hv];unfold yJ;omega
 have hvb : v ≤ zl s.c b:=by rw [hv];unfold yJ;omega
 have hvc : v ≤ zl s.c c:=by rw [hv];unfold yJ;omega
 have hv0 : 0 ≤ v:=by rw [hv];unfold yJ;omega
 obtain ⟨n,g⟩ : ∃ n,getM s.c a = some n:=by
  cases g : getM s.c a with
  | some n => exact ⟨n,rfl⟩
  | none =>
   rcases yK ha g with e | e
   · exact absurd e h0
   · exact absurd (.inl e) h1
 have hvV : v < V:=by
  have h2:=yt g
  obtain ⟨k,rfl,h3,_⟩:=getM_some g
  have:=so.vlt k n h3
  omega
 have A:=za0 so.ok ha hva (by omega)
 have B:=za0 so.ok hb hvb (by omega)
 have C:=za0 so.ok hc hvc (by omega)
 have m1 : v + 1 ≤ yJ (zl s.c (atM s.c a v).1) (zl s.c (atM s.c b v).1) (zl s.c (atM s.c c v).1):=by have:=A.ziU;have:=B.ziU;have:=C.ziU;unfold yJ;omega
 have w1:=xM (show (V - yJ (zl s.c (atM s.c a v).1) (zl s.c (atM s.c b v).1) (zl s.c (atM s.c c v).1)).toNat ≤ (V - (v + 1)).toNat by omega)
 have sp:=zaJ hvV
 have p2:=two_pow_pos (V - (v + 1)).toNat
 rw [← hv] at hr hf
 have r1:=zaY V hV f s (atM s.c a v).1 (atM s.c b v).1 (atM s.c c v).1 so A.zdH B.zdH C.zdH (by omega) (by omega)
 obtain ⟨R1,hR1⟩ : ∃ R,R = qJ f s (atM s.c a v).1 (atM s.c b v).1 (atM s.c c v).1:=⟨_,rfl⟩
 rw [← hR1] at r1
 have E1:=r1.ext
 have c1:=r1.cnt
 have ht2 : ∀ {x : Int},zG s.c x = true → zl R1.1.c x = zl s.c x:=fun hx => E1.top hx
 have m2 : v + 1 ≤ yJ (zl R1.1.c (atM s.c a v).2) (zl R1.1.c (atM s.c b v).2) (zl R1.1.c (atM s.c c v).2):=by
  rw [ht2 A.kK,ht2 B.kK,ht2 C.kK];have:=A.zjo;have:=B.zjo;have:=C.zjo;unfold yJ;omega
 have w2:=xM (show (V - yJ (zl R1.1.c (atM s.c a v).2) (zl R1.1.c (atM s.c b v).2) (zl R1.1.c (atM s.c c v).2)).toNat ≤ (V - (v + 1)).toNat by omega)
 have L1:=E1.len
 have r2:=zaY V hV f R1.1 (atM s.c a v).2 (atM s.c b v).2 (atM s.c c v).2 r1.sok (E1.has A.kK) (E1.has B.kK) (E1.has C.kK) (by omega) (by omega)
 obtain ⟨R2,hR2⟩ : ∃ R,R = qJ f R1.1 (atM s.c a v).2 (atM s.c b v).2 (atM s.c c v).2:=⟨_,rfl⟩
 rw [← hR2] at r2
 have E2:=r2.ext
 have c2:=r2.cnt
 have L2:=E2.len
 have t1 : v < zl R2.1.c R1.2.1:=by rw [E2.top r1.has];have:=r1.top;omega
 have t2 : v < zl R2.1.c R2.2.1:=by have:=r2.top;omega
 have r3:=zbi r2.sok.ok r2.sok.red hv0 (by omega) (E2.has r1.has) r2.has t1 t2 (by omega)
 refine ⟨R1,R2,_,hR1,hR2,rfl,?_,A,B,C,hvV,by omega,by omega,by omega,by omega,r1.err,r2.err,r3.err,r1.sok,r2.sok,E1,E2,r1.has,r2.has⟩
 have hh : zjl s (a,b,c) = none:=by rw [so.hit];exact hq
 rw [qJ,if_neg h1,if_neg h0,hh]
 simp only [← hv]
 rw [← hR1,if_neg (by rw [r1.err];simp),← hR2,if_neg (by rw [r2.err];simp),r3.err]
 simp
def ClD (L : List (Int × Bool)) (val : Int → Bool) : Bool:=L.any fun p => val p.1 == p.2
def zcB (c : Cells) (h : Int) : Prop:=∃ L,∀ val,den c h val = ClD L val
theorem zpu (val : Int → Bool) : ClD [(0,true),(0,false)] val = true:=by unfold ClD;cases h : val 0 <;> simp [h]
theorem zhA {L : List (Int × Bool)} {val : Int → Bool} {p : Int × Bool} (hp : p ∈ L) (h : val p.1 = p.2) : ClD L val = true:=by
 unfold ClD
 rw [List.any_eq_true]
 exact ⟨p,hp,by rw [h];simp⟩
theorem zhE {L : List (Int × Bool)} {v : Int} {b : Bool} (hn : (v,b) ∉ L) (val : Int → Bool) : ClD L (yS val v b) = ClD (L.filter fun p => decide (p.1 ≠ v)) val:=by
 unfold ClD
 rw [Bool.eq_iff_iff,List.any_eq_true,List.any_eq_true]
 constructor
 ·
  rintro ⟨p,hp,h⟩
  by_cases e : p.1 = v
  ·
   refine absurd hp ?_
   unfold yS at h
   rw [if_pos e] at h
   have : p = (v,b):=Prod.ext e (show p.2 = b from (show b = p.2 by simpa using h).symm)
   rw [this];exact hn
  ·
   refine ⟨p,List.mem_filter.2 ⟨hp,by simpa using e⟩,?_⟩
   unfold yS at h
   rw [if_neg e] at h
   exact h
 ·
  rintro ⟨p,hp,h⟩
  obtain ⟨h1,h2⟩:=List.mem_filter.1 hp
  have e : ¬ p.1 = v:=by simpa using h2
  refine ⟨p,h1,?_⟩
  unfold yS
  rw [if_neg e]
  exact h
theorem ziz {L : List (Int × Bool)} (v : Int) (b : Bool) : ∃ L',∀ val,ClD L (yS val v b) = ClD L' val:=by
 by_cases h : (v,b) ∈ L
 · exact ⟨[(0,true),(0,false)],fun val => by rw [zpu];exact zhA h (by unfold yS;rw [if_pos rfl])⟩
 · exact ⟨_,fun val => zhE h val⟩
theorem zcB.ext {c c' : Cells} (o : Ok c) (o' : Ok c') (e : Ext c c') {h : Int} (hh : zG c h = true) (k : zcB c h) : zcB c' h:=by
 obtain ⟨L,hL⟩:=k
 exact ⟨L,fun val => by rw [qH o o' e val h hh,hL]⟩
theorem zlq {V : Int} {s : Sp} (so : SOk V s) {h : Int} {n : Nd} (g : getM s.c h = some n) (k : zcB s.c h) : (n.2.1 = 1 ∨ n.2.2 = 1) ∧ zcB s.c n.2.1 ∧ zcB s.c n.2.2:=by
 obtain ⟨L,hL⟩:=k
 obtain ⟨b1,b2,k1,k2,k3,k4⟩:=so.ok.kids g
 have hlo : ∀ val,den s.c n.2.1 val = ClD L (yS val n.1 false):=fun val => by rw [← zcd so.ok g,hL]
 have hhi : ∀ val,den s.c n.2.2 val = ClD L (yS val n.1 true):=fun val => by rw [← zaW so.ok g,hL]
 refine ⟨?_,?_,?_⟩
 ·
  by_cases e1 : (n.1,false) ∈ L
  · exact .inl (zgf so.ok so.red k1 (qw _) fun val => by rw [hlo,zbg];exact zhA e1 (by unfold yS;rw [if_pos rfl]))
  ·
   by_cases e2 : (n.1,true) ∈ L
   · exact .inr (zgf so.ok so.red k2 (qw _) fun val => by rw [hhi,zbg];exact zhA e2 (by unfold yS;rw [if_pos rfl]))
   ·
    exfalso
    obtain ⟨j,rfl,hj,_⟩:=getM_some g
    exact so.red j n hj (zgf so.ok so.red k1 k2 fun val => by rw [hlo,hhi,zhE e1,zhE e2])
 ·
  obtain ⟨L',h'⟩:=ziz (L:=L) n.1 false
  exact ⟨L',fun val => by rw [hlo,h']⟩
 ·
  obtain ⟨L',h'⟩:=ziz (L:=L) n.1 true
  exact ⟨L',fun val => by rw [hhi,h']⟩
theorem zp8 {V : Int} {s : Sp} (so : SOk V s) {x v : Int} (k : zcB s.c x) : zcB s.c (atM s.c x v).1 ∧ zcB s.c (atM s.c x v).2:=by
 unfold atM
 cases g : getM s.c x with
 | none => exact ⟨k,k⟩
 | some n =>
  dsimp only
  split
  · exact (zlq so g k).2
  · exact ⟨k,k⟩
theorem zoS {V : Int} {s : Sp} (so : SOk V s) {x v : Int} (k : zcB s.c x) (ht : zl s.c x = v) (hv : v < 24) : (atM s.c x v).1 = 1 ∨ (atM s.c x v).2 = 1:=by
 unfold atM
 cases g : getM s.c x with
 | none => rw [kL g] at ht;omega
 | some n =>
  rw [yt g] at ht
  dsimp only
  rw [if_pos ht]
  exact (zlq so g k).1
theorem zeh (f : Nat) (s : Sp) (a b c : Int) (h : a = 1 ∨ b = c) : (qJ f s a b c).1 = s:=by
 cases f with
 | zero => rfl
 | succ f => rw [qJ,if_pos h]
theorem zl7 (c : Cells) (v l h : Int) : cnt (qj c v l h).1 ≤ cnt c + 1:=by
 unfold qj
 split
 · exact Nat.le_succ _
 · exact zk0 c _
theorem at_end (c : Cells) (v : Int) : atM c 1 v = (1,1):=by
 unfold atM
 rw [j4 c (.inr rfl)]
theorem zkI {V : Int} (hV : V ≤ 24) : ∀ (f : Nat) (s : Sp) (a h : Int),SOk V s → zG s.c a = true → zG s.c h = true → (24 - yJ (zl s.c a) (zl s.c 1) (zl s.c h)).toNat < f →
 cnt s.c + 2 ^ (V - yJ (zl s.c a) (zl s.c 1) (zl s.c h)).toNat ≤ s.c.length + 1 → zcB s.c a → zcB s.c h → cnt (qJ f s a 1 h).1.c ≤ cnt s.c + (V - yJ (zl s.c a) (zl s.c 1) (zl s.c h)).toNat
 | 0,_,_,_,_,_,_,hf,_,_,_ => absurd hf (Nat.not_lt_zero _)
 | f + 1,s,a,h,so,ha,hh,hf,hr,ka,kh => by
  by_cases h1 : a = 1 ∨ (1 : Int) = h
  · rw [zeh _ _ _ _ _ h1];omega
  ·
   by_cases h0 : a = 0
   · rw [qJ,if_neg h1,if_pos h0];dsimp only;omega
   ·
    cases hq : s.q (a,1,h) with
    | some x =>
     have : zjl s (a,1,h) = some x:=by rw [so.hit];exact hq
     rw [qJ,if_neg h1,if_neg h0,this];dsimp only;omega
    | none =>
     obtain ⟨v,hv⟩ : ∃ v,v = yJ (zl s.c a) (zl s.c 1) (zl s.c h):=⟨_,rfl⟩
     obtain ⟨R1,R2,R3,e1,e2,e3,e,A,B,C,hvV,f1,r1,f2,r2,_,_,_,so1,so2,x1,x2,_,_⟩:=zlp hV so ha (qw _) hh hf hr h1 h0 hq hv
     rw [e,← hv]
     have n3:=zl7 R2.1.c v R1.2.1 R2.2.1
     rw [← e3] at n3
     show cnt R3.1 ≤ _
     rw [at_end] at e1 e2 f1 r1 f2 r2
     have t1 : zl s.c 1 = 24:=kL (j4 _ (.inr rfl))
     have t1' : zl R1.1.c 1 = 24:=kL (j4 _ (.inr rfl))
     have ca:=zp8 so (v:=v) ka
     have ch:=zp8 so (v:=v) kh
     have hone : ((atM s.c a v).1 = 1 ∨ (atM s.c h v).1 = 1) ∨ ((atM s.c a v).2 = 1 ∨ (atM s.c h v).2 = 1):=by
      by_cases q : zl s.c a = v
      ·
       rcases zoS so ka q (by omega) with q | q
       · exact .inl (.inl q)
       · exact .inr (.inl q)
      ·
       have q2 : zl s.c h = v:=by
        unfold yJ at hv
        omega
       rcases zoS so kh q2 (by omega) with q | q
       · exact .inl (.inr q)
       · exact .inr (.inr q)
     have hA1:=A.ziU;have hA2:=A.zjo;have hC1:=C.ziU;have hC2:=C.zjo
     rcases hone with q | q
     ·
      have s1 : R1.1 = s:=by rw [e1];exact zeh _ _ _ _ _ (q.imp id (fun w => w.symm))
      have c2:=zkI hV f R1.1 (atM s.c a v).2 (atM s.c h v).2 so1 (x1.has A.kK) (x1.has C.kK) f2 r2 (ca.2.ext so.ok so1.ok x1 A.kK) (ch.2.ext so.ok so1.ok x1 C.kK)
      rw [← e2] at c2
      rw [x1.top A.kK,x1.top C.kK,t1'] at c2
      rw [s1] at c2
      unfold yJ at c2
      omega
     ·
      have s2 : R2.1 = R1.1:=by rw [e2];exact zeh _ _ _ _ _ (q.imp id (fun w => w.symm))
      have c1:=zkI hV f s (atM s.c a v).1 (atM s.c h v).1 so A.zdH C.zdH f1 r1 ca.1 ch.1
      rw [← e1,t1] at c1
      rw [s2] at n3
      unfold yJ at c1
      omega
theorem zl4 {V : Int} (hV : V ≤ 24) {s : Sp} {a h : Int} (so : SOk V s) (ha : zG s.c a = true) (hh : zG s.c h = true) (hr : cnt s.c + 2 ^ V.toNat ≤ s.c.length + 1) (ka : zcB s.c a) (kh : zcB s.c h) : cnt (qJ 25 s a 1 h).1.c ≤ cnt s.c + V.toNat:=by
 have p1:=so.ok.xL a;have p2:=so.ok.xL h;have p3:=so.ok.xL 1
 have hp : 0 ≤ yJ (zl s.c a) (zl s.c 1) (zl s.c h):=by unfold yJ;omega
 have h1:=xM (show (V - yJ (zl s.c a) (zl s.c 1) (zl s.c h)).toNat ≤ V.toNat by omega)
 have:=zkI hV 25 s a h so ha hh (by omega) (by omega) ka kh
 omega
structure COk (V : Int) (c : Cells) : Prop where
 ok : Ok c
 red : Red c
 vlt : ∀ k n,c.at k = some n → n.1 < V
theorem SOk.cells {V : Int} {s : Sp} (h : SOk V s) : COk V s.c:=⟨h.ok,h.red,h.vlt⟩
theorem SOk.more {V : Int} {c c' : Cells} {q : Int × Int × Int → Option Int} (h : SOk V ⟨c,q⟩) (e : Ext c c') (o : COk V c') : SOk V ⟨c',q⟩:=by
 refine ⟨o.ok,o.red,o.vlt,fun a b x y hm => ?_⟩
 obtain ⟨n1,n2,n3,n4,n5,n6⟩:=h.mem a b x y hm
 have D : ∀ {z : Int},zG c z = true → ∀ val,den c' z val = den c z val:=fun hx val => qH h.ok o.ok e val _ hx
 exact ⟨e.has n1,e.has n2,e.has n3,e.has n4,fun val => by dsimp only;rw [D n1,D n2,D n3,D n4];exact n5 val,by dsimp only at n6 ⊢;rw [e.top n1,e.top n2,e.top n3,e.top n4];exact n6⟩
theorem SOk.none {V : Int} {c : Cells} (o : COk V c) : SOk V ⟨c,fun _ => none⟩:=⟨o.ok,o.red,o.vlt,fun _ _ _ _ h => by cases h⟩
theorem COk.empty (V : Int) (R : Nat) : COk V (List.replicate R none):=by
 have hat : ∀ k,Cells.at (List.replicate R none) k = none:=fun k => by unfold Cells.at;simp only [List.getD_eq_getElem?_getD,List.getElem?_replicate];split <;> rfl
 exact ⟨⟨fun k n h => (by rw [hat] at h;cases h),fun k n h => (by rw [hat] at h;cases h),fun k n h => (by rw [hat] at h;cases h),fun j k n h => (by rw [hat] at h;cases h)⟩,fun k n h => (by rw [hat] at h;cases h),fun k n h => (by rw [hat] at h;cases h)⟩
theorem COk.sweep {V : Int} {c : Cells} (o : COk V c) (l : List Int) : COk V (qF c l) :=
 ⟨zgK o.ok l,fun k n h => o.red k n (yH.1 h).2,fun k n h => o.vlt k n (yH.1 h).2⟩
abbrev Done:=Int → Option Int
def putD (d : Done) (h x : Int) : Done:=fun k => if h = k then some x else d k
structure DOk (c : Cells) (d : Done) (v : Int) (is : Bool) : Prop where
 at_ : ∀ k x,d k = some x → zG c k = true ∧ zG c x = true ∧ (∀ val,den c x val = den c k (yS val v is)) ∧ zl c k ≤ zl c x
theorem DOk.ext {c c' : Cells} {d : Done} {v : Int} {is : Bool} (h : DOk c d v is) (o : Ok c) (o' : Ok c') (e : Ext c c') : DOk c' d v is :=
 ⟨fun k x hk => by
  obtain ⟨h1,h2,h3,h4⟩:=h.at_ k x hk
  exact ⟨e.has h1,e.has h2,fun val => by rw [qH o o' e val _ h2,qH o o' e _ _ h1];exact h3 val,by rw [e.top h1,e.top h2];exact h4⟩⟩
abbrev FnB:=(Int → Bool) → Bool
def zqm (b : Bool) : Nat:=if b then 1 else 0
def kE (V : Int) : Nat → FnB → (Int → Bool) → Nat
 | 0,D,val => zqm (D val)
 | k + 1,D,val => kE V k D (yS val (V - (k + 1 : Nat)) false) + kE V k D (yS val (V - (k + 1 : Nat)) true)
theorem zcK {V : Int} : ∀ (k : Nat) (D D' : FnB) (val : Int → Bool),(∀ val',(∀ u,u < V - k → val' u = val u) → D val' = D' val') → kE V k D val = kE V k D' val
 | 0,D,D',val,h => by rw [kE,kE,h val (fun _ _ => rfl)]
 | k + 1,D,D',val,h => by
  have key : ∀ b,kE V k D (yS val (V - (k + 1 : Nat)) b) = kE V k D' (yS val (V - (k + 1 : Nat)) b):=fun b => zcK k D D' _ (fun val' hv => h val' (fun u hu => by
   rw [hv u (by omega)];unfold yS;rw [if_neg (by omega)]))
  rw [kE,kE,key,key]
theorem ze7 {V : Int} : ∀ (k : Nat) (D : FnB) (val : Int → Bool),kE V k D val ≤ 2 ^ k
 | 0,D,val => by unfold kE zqm;split <;> simp
 | k + 1,D,val => by
  have h1:=ze7 (V:=V) k D (yS val (V - (k + 1 : Nat)) false)
  have h2:=ze7 (V:=V) k D (yS val (V - (k + 1 : Nat)) true)
  rw [kE,Nat.pow_succ];omega
def qd (V : Int) (c : Cells) (h : Int) : Int:=min (zl c h) V
def zdi (V : Int) : Nat → Cells → Int → Nat
 | 0,_,_ => 0
 | f + 1,c,h => match getM c h with
  | none => h.toNat
  | some n => zdi V f c n.2.1 * 2 ^ (qd V c n.2.1 - n.1 - 1).toNat + zdi V f c n.2.2 * 2 ^ (qd V c n.2.2 - n.1 - 1).toNat
def q9 (V : Int) (c : Cells) (h : Int) : Nat:=zdi V 25 c h
theorem zd8 {V : Int} {f : Nat} {c : Cells} {h : Int} (e : getM c h = none) : zdi V (f + 1) c h = h.toNat:=by simp only [zdi,e]
theorem zek {V : Int} {f : Nat} {c : Cells} {h : Int} {n : Nd} (e : getM c h = some n) : zdi V (f + 1) c h = zdi V f c n.2.1 * 2 ^ (qd V c n.2.1 - n.1 - 1).toNat + zdi V f c n.2.2 * 2 ^ (qd V c n.2.2 - n.1 - 1).toNat:=by simp only [zdi,e]
theorem zcn {V : Int} {c : Cells} (o : Ok c) : ∀ (f g : Nat) (h : Int),(24 - zl c h).toNat < f → f ≤ g → zdi V f c h = zdi V g c h
 | 0,_,_,h1,_ => absurd h1 (Nat.not_lt_zero _)
 | f + 1,0,_,_,h2 => absurd h2 (by omega)
 | f + 1,g + 1,h,h1,h2 => by
  cases e : getM c h with
  | none => rw [zd8 e,zd8 e]
  | some n =>
   obtain ⟨k1,k2,_,_,k3,k4⟩:=o.kids e
   rw [yt e] at h1
   rw [zek e,zek e,zcn o f g n.2.1 (by omega) (by omega),zcn o f g n.2.2 (by omega) (by omega)]
theorem zju {V : Int} {c : Cells} (o : Ok c) {h : Int} {n : Nd} (e : getM c h = some n) : q9 V c h = q9 V c n.2.1 * 2 ^ (qd V c n.2.1 - n.1 - 1).toNat + q9 V c n.2.2 * 2 ^ (qd V c n.2.2 - n.1 - 1).toNat:=by
 obtain ⟨k1,k2,_,_,k3,k4⟩:=o.kids e
 show zdi V (24 + 1) c h = zdi V 25 c n.2.1 * _ + zdi V 25 c n.2.2 * _
 rw [zek e,zcn o 24 25 n.2.1 (by omega) (by omega),zcn o 24 25 n.2.2 (by omega) (by omega)]
theorem zlv {V : Int} {c : Cells} {h : Int} (e : getM c h = none) : q9 V c h = h.toNat:=zd8 (f:=24) e
theorem zdA {V : Int} {c : Cells} (hV : V ≤ 24) (o : COk V c) : ∀ (k : Nat) (h : Int) (val : Int → Bool),zG c h = true → V - k ≤ qd V c h → kE V k (den c h) val = q9 V c h * 2 ^ (qd V c h - (V - k)).toNat
 | 0,h,val,hh,hc => by
  have e : getM c h = none:=by
   cases g : getM c h with
   | none => rfl
   | some n =>
    obtain ⟨j,rfl,h1,_⟩:=getM_some g
    have:=o.vlt j n h1
    have:=yt g
    unfold qd at hc;omega
  have hct : (qd V c h - (V - (0 : Nat))).toNat = 0:=by unfold qd;omega
  rw [kE,xD e,zlv e,hct]
  rcases yK hh e with rfl | rfl <;> rfl
 | k + 1,h,val,hh,hc => by
  by_cases he : qd V c h = V - (k + 1 : Nat)
  ·
   have ht : zl c h = V - (k + 1 : Nat):=by unfold qd at he;omega
   cases g : getM c h with
   | none => have:=kL g;omega
   | some n =>
    obtain ⟨b1,b2,k1,k2,k3,k4⟩:=o.ok.kids g
    have h1:=yt g
    have hn : n.1 = V - (k + 1 : Nat):=by omega
    have lo:=zdA hV o k n.2.1 (yS val n.1 false) k1 (by unfold qd;omega)
    have hi:=zdA hV o k n.2.2 (yS val n.1 true) k2 (by unfold qd;omega)
    have c1 : kE V k (den c h) (yS val n.1 false) = kE V k (den c n.2.1) (yS val n.1 false):=zcK k _ _ _ (fun val' hv => by
     rw [xY o.ok g,hv n.1 (by omega)];simp [yS])
    have c2 : kE V k (den c h) (yS val n.1 true) = kE V k (den c n.2.2) (yS val n.1 true):=zcK k _ _ _ (fun val' hv => by
     rw [xY o.ok g,hv n.1 (by omega)];simp [yS])
    rw [kE,← hn,c1,c2,lo,hi,zju o.ok g,show (qd V c h - n.1).toNat = 0 by omega,Nat.pow_zero,Nat.mul_one,
     show qd V c n.2.1 - (V - (k : Nat)) = qd V c n.2.1 - n.1 - 1 by omega,show qd V c n.2.2 - (V - (k : Nat)) = qd V c n.2.2 - n.1 - 1 by omega]
  ·
   have i1:=zdA hV o k h (yS val (V - (k + 1 : Nat)) false) hh (by omega)
   have i2:=zdA hV o k h (yS val (V - (k + 1 : Nat)) true) hh (by omega)
   rw [kE,i1,i2,← Nat.mul_add]
   congr 1
   rw [show (qd V c h - (V - (k + 1 : Nat))).toNat = (qd V c h - (V - (k : Nat))).toNat + 1 by omega,Nat.pow_succ];omega
theorem zlt {V : Nat} {c : Cells} (hV : V ≤ 24) (o : COk V c) {h : Int} (hh : zG c h = true) (val : Int → Bool) : q9 V c h * 2 ^ (qd V c h).toNat = kE V V (den c h) val:=by
 have t:=(o.ok.xL h).1
 rw [zdA (by omega) o V h val hh (by unfold qd;omega),show qd V c h - ((V : Int) - (V : Nat)) = qd V c h by omega]
theorem zmn {V : Nat} {c : Cells} (hV : V ≤ 24) (o : COk V c) {h : Int} (hh : zG c h = true) : q9 V c h * 2 ^ (qd V c h).toNat ≤ 2 ^ 24:=by
 rw [zlt hV o hh (fun _ => false)]
 exact Nat.le_trans (ze7 _ _ _) (Nat.pow_le_pow_right (by decide) hV)
