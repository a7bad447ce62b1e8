import Derived.Test.YtmlfelbkgoplhaaGreatDoorZrPkYC
import Derived.Deep.CutRange
import Derived.Deep.CutBlock
import Derived.BigQuiet
import Derived.Deep.RegionHeld3
import Derived.OneCell
set_option linter.unusedVariables false
set_option linter.unusedSimpArgs false
namespace Go.Proofs.YtmlfelbkgoplhaaGreatDoor
open Go.RowKit
structure SZ (V : Nat) (c c' : Cells) (x : Int) : Prop where
 zok : ZOk V c'
 ext : Ext c c'
 has : zx c' x = true
 cnt : yh ((V : Int) - 3) c' ≤ yh ((V : Int) - 3) c + 42
def zoi (s : Fb) (V : Nat) (c : Cells) (w : World) (e : Ending) (w' : World) : Prop :=
 ∃ c' x,e = .returned (.tuple #[.int .i64 x,.nilIface]) ∧ zw w' s V c' ∧ Only s.b.mem w w' ∧ SZ V c c' x
section
variable {V : Nat} {c c' : Cells} {a b x : Int} {k : Kd} {s : Fb} {w w' : World} {e : Ending}
theorem WOk.sz (hV : V ≤ 6) (o : ZOk V c) (h : WOk V ((V : Int) - 3) k c c' a b x) : SZ V c c' x:=by
 have h1:=h.cnt
 have h2:=zY o.ok a;have h3:=zY o.ok b
 have h4:=k.zqG (a:=((V : Int) - 3 - min (zk c a) (zk c b)).toNat) (by omega)
 exact ⟨h.zok,h.ext,h.has,by omega⟩
theorem LOk.sz (hV : V ≤ 6) (o : ZOk V c) (h : LOk V ((V : Int) - 3) c c' a x) : SZ V c c' x:=by
 have h1:=h.cnt
 have h2:=zY o.ok a
 have h4:=zpf (a:=((V : Int) - 3 - zk c a).toNat) (by omega)
 exact ⟨h.zok,h.ext,h.has,by omega⟩
theorem zcb.sz (hV : V ≤ 6) {y : Int} (h : zcb V ((V : Int) - 3) c c' 0 y x) : SZ V c c' x:=by
 have h1:=h.cnt
 exact ⟨h.zok,h.ext,h.has,by omega⟩
theorem zgD (V : Nat) : hiB (V : Int) ((V : Int) - 3) = 256:=by unfold hiB;rw [if_neg (by omega)]
theorem zf0.sz (hV : V ≤ 6) (o : ZOk V c) (h : zf0 V ((V : Int) - 3) k s c a b w e w') : zoi s V c w e w':=by
 obtain ⟨c1,y,h1,h2,h3,h4⟩:=h;exact ⟨c1,y,h1,h2,h3,h4.sz hV o⟩
theorem zl5.sz (hV : V ≤ 6) (o : ZOk V c) (h : zl5 V ((V : Int) - 3) s c a w e w') : zoi s V c w e w':=by
 obtain ⟨c1,y,h1,h2,h3,h4⟩:=h;exact ⟨c1,y,h1,h2,h3,h4.sz hV o⟩
theorem ziZ.sz (hV : V ≤ 6) {y : Int} (h : ziZ V ((V : Int) - 3) s c y w e w') : zoi s V c w e w':=by
 obtain ⟨c1,y,h1,h2,h3,h4⟩:=h;exact ⟨c1,y,h1,h2,h3,h4.sz hV⟩
end
structure ZSt (w wr : World) (s : Fb) (V : Nat) (c : Cells) (va : Value) (out : List Int) : Prop where
 sp : zw wr s V c
 only : Only s.b.mem w wr
 own : wr.ownsRow w.heap.size 3 1 va out.length (out.map (Value.int .i64))
 off : ∀ k,s.b.mem k → k < w.heap.size
section
variable {w wr w2 : World} {s : Fb} {V : Nat} {c c' : Cells} {va : Value} {out : List Int}
theorem ZSt.grow (h : ZSt w wr s V c va out) (hb : Below wr.heap.size wr w2) : ZSt w w2 s V c va out :=
 ⟨h.sp.below hb,h.only.trans (Only.of_below hb rfl),ownsRow_below h.own hb,h.off⟩
theorem ZSt.step (h : ZSt w wr s V c va out) (ho : Only s.b.mem wr w2) (hs : zw w2 s V c') : ZSt w w2 s V c' va out :=
 ⟨hs,h.only.trans ho,ziK h.own ho h.off,h.off⟩
theorem ZSt.push (h : ZSt w wr s V c va out) {x : Int} {v' : Value} (hlt : s.ps < w.heap.size) (ho : w2.ownsRow w.heap.size 3 1 v' (out.length + 1) (out.map (Value.int .i64) ++ [.int .i64 x])) (hg : (wr.alloc (.cells #[.int .i64 x] 3)).grownBy w2 va.ownBlock) : ZSt w w2 s V c v' (out ++ [x]):=by
 have h1:=h.grow (w2:=wr.alloc (.cells #[.int .i64 x] 3)) (zba)
 have hv : ∀ k,va.ownBlock = some k → w.heap.size ≤ k:=fun k hk => (h.own.lt k hk).1
 have hsz:=h.only.size
 have hb : Below w.heap.size (wr.alloc (.cells #[.int .i64 x] 3)) w2:=(Below.refl _ _).grown hg (by simp;omega) hv
 have hon : Only (fun k => w.heap.size ≤ k) (wr.alloc (.cells #[.int .i64 x] 3)) w2:=⟨hb.os,hb.tape,hb.output,hb.size,fun k hk hn => hb.block k (by omega)⟩
 refine ⟨h1.sp.only hon (by omega) (fun k hk => by have:=h.off k hk;omega),?_,by simpa using ho,h.off⟩
 exact ⟨hb.os.trans h1.only.os,hb.tape.trans h1.only.tape,hb.output.trans h1.only.output,Nat.le_trans h1.only.size hb.size,fun k hk hn => (hb.block k hk).trans (h1.only.block k hk hn)⟩
end
structure zjx (V : Nat) (c : Cells) (out : List Int) : Prop where
 zok : ZOk V c
 has : ∀ h ∈ out,zx c h = true
 ne : 0 < out.length
theorem zjx.at_ {V : Nat} {c : Cells} {out : List Int} (h : zjx V c out) (a : Int) : zx c (zrv out a) = true:=by
 have hl:=zph a h.ne
 refine h.has _ ?_
 unfold zrv
 rw [List.getD_eq_getElem?_getD,List.getElem?_eq_getElem hl]
 exact List.getElem_mem hl
theorem zjx.free {V : Nat} {c : Cells} {keep : List Int} (zo : ZOk V c) (hk : ∀ h ∈ keep,zx c h = true) (hn : 0 < keep.length) : zjx V (xk c keep) keep :=
 ⟨zo.zgL keep,fun h hm => zbH (hk h hm) (fun k e => by subst e;exact zcj (hk _ hm) hm),hn⟩
theorem zjx.next {V : Nat} {c c' : Cells} {out : List Int} {x : Int} (f : zjx V c out) (h : SZ V c c' x) : zjx V (xk c' (out ++ [x])) (out ++ [x]):=by
 refine zjx.free h.zok (fun y hy => ?_) (by simp)
 rcases List.mem_append.1 hy with hy | hy
 · exact h.ext.has (f.has y hy)
 · rw [List.mem_singleton.1 hy];exact h.has
set_option maxHeartbeats 1000000 in
theorem zdg (va vb : Value) (ys : List Nat) (w : World) (ha : IsU w va ys) (hb : IsU w vb ys) :
 Calls Tryz.prog 43 #[va,vb] w fun e w' => e = .returned (.bool true) ∧ Below w.heap.size w w':=by
 obtain ⟨a1,c1,rfl,hl1,hc1⟩:=ha.shape
 obtain ⟨a2,c2,rfl,hl2,hc2⟩:=hb.shape
 have hq : ((ys.length : Int) != (ys.length : Int)) = false:=by simp
 have hlq : (ys.length != ys.length) = false:=by simp
 have Ha:=hid ha;have Hb:=hid hb;clear ha hb
 go_enter Tryz.func43,Tryz.ntmps43
 go_wp2_with fail
 go_loopg [5] ys.length (fun gk i wr => ∃ k : Nat,k ≤ ys.length ∧ gk = ys.length - k ∧ i = .int .i64 k ∧ Below w.heap.size w wr)
 case atStart => exact ⟨0,znz _,rfl,rfl,Below.refl _ _⟩
 case round =>
  obtain ⟨k,hk,rfl,rfl,hbw⟩:=hrel
  have Hbw:=hid hbw;clear hbw
  by_cases hlt : k < ys.length
  ·
   obtain ⟨b1,rfl,lb1,g1⟩:=(Ha.out.below Hbw.out).addr hlt
   obtain ⟨b2,rfl,lb2,g2⟩:=(Hb.out.below Hbw.out).addr hlt
   have g1:=g1 k hlt
   have g2:=g2 k hlt
   obtain ⟨x,hx⟩ : ∃ x,x = ys[k]:=⟨_,rfl⟩
   rw [← hx] at g1 g2
   have i1 : (k : Int) < (ys.length : Int):=by omega
   have e0 : (x != x) = false:=by simp
   clear hx
   go_wp2_with fail
   go_quiet (fail)
   go_wp2_with fail
   go_roundg (ys.length - (k + 1))
   case measure => omega
   case rel => exact ⟨k + 1,by omega,rfl,by go_num,kP Hbw.out _⟩
  ·
   obtain rfl : k = ys.length:=by omega
   go_wp2_with fail
   go_ret
   exact ⟨rfl,Hbw.out⟩
theorem zmv {α : Type} [DecidableEq α] : ∀ (l m : List α),l.Nodup → (∀ x ∈ l,x ∈ m) → l.length ≤ m.length
 | [],_,_,_ => znz _
 | x :: l,m,hn,hs => by
  rw [List.nodup_cons] at hn
  have hx:=hs x List.mem_cons_self
  have h1:=zmv l (m.erase x) hn.2 (fun y hy => (List.mem_erase_of_ne (fun e => hn.1 (by rw [← e];exact hy))).2 (hs y (List.mem_cons_of_mem _ hy)))
  rw [List.length_erase_of_mem hx] at h1
  have h2:=List.length_pos_of_mem hx
  rw [List.length_cons];omega
def zeA (L : Int) : Nat → Cells → Int → List Nat
 | 0,_,_ => []
 | f + 1,c,h => match getM c h with
  | none => []
  | some n => if n.1 < L then (h - 2).toNat :: (zeA L f c n.2.1 ++ zeA L f c n.2.2) else []
theorem zhC {L : Int} {f : Nat} {c : Cells} {h : Int} (e : getM c h = none) : zeA L (f + 1) c h = []:=by simp only [zeA,e]
theorem ze4 {L : Int} {f : Nat} {c : Cells} {h : Int} {n : Nd} (e : getM c h = some n) : zeA L (f + 1) c h = if n.1 < L then (h - 2).toNat :: (zeA L f c n.2.1 ++ zeA L f c n.2.2) else []:=by simp only [zeA,e]
theorem zgG {L : Int} {c : Cells} (o : Ok c) : ∀ (f : Nat) (h : Int),(zeA L f c h).length ≤ yD (L - zk c h).toNat
 | 0,_ => znz _
 | f + 1,h => by
  cases e : getM c h with
  | none => rw [zhC e];exact znz _
  | some n =>
   obtain ⟨_,_,_,_,k3,k4⟩:=o.kids e
   rw [ze4 e,zK e]
   split
   ·
    rename_i hl
    have h1:=zgG (L:=L) o f n.2.1
    have h2:=zgG (L:=L) o f n.2.2
    have h3:=zU (show (L - zk c n.2.1).toNat ≤ (L - (n.1 + 1)).toNat by omega)
    have h4:=zU (show (L - zk c n.2.2).toNat ≤ (L - (n.1 + 1)).toNat by omega)
    have h5:=zaq L n.1
    rw [if_pos hl] at h5
    simp only [List.length_cons,List.length_append]
    omega
   · exact znz _
theorem zeR {L : Int} {f : Nat} {c : Cells} {k : Nat} {n : Nd} (hn : c.at k = some n) (hl : n.1 < L) : k ∈ zeA L (f + 1) c ((k : Int) + 2):=by
 rw [ze4 ((yO k).trans hn),if_pos hl,show (((k : Int) + 2) - 2).toNat = k by omega]
 exact List.mem_cons_self
theorem zdW {L : Int} {c : Cells} (o : Ok c) {k k' : Nat} {n n' : Nd} (hn : c.at k = some n) (hn' : c.at k' = some n') (hl : n'.1 < L) (e : n.2.1 = (k' : Int) + 2 ∨ n.2.2 = (k' : Int) + 2) : ∀ (f : Nat) (h : Int),(24 - zk c h).toNat < f → k ∈ zeA L f c h → k' ∈ zeA L f c h
 | 0,_,hf,_ => absurd hf (Nat.not_lt_zero _)
 | f + 1,h,hf,hm => by
  cases g : getM c h with
  | none => rw [zhC g] at hm;cases hm
  | some m =>
   obtain ⟨m1,m2,_,_,k3,k4⟩:=o.kids g
   rw [zK g] at hf
   have t1:=zY o m.2.1;have t2:=zY o m.2.2
   rw [ze4 g] at hm ⊢
   split at hm
   ·
    rename_i hml
    rw [if_pos hml]
    rcases List.mem_cons.1 hm with h1 | hm
    ·
     obtain ⟨j,rfl,hj,_⟩:=getM_some g
     obtain rfl : k = j:=by omega
     have : m = n:=by rw [hn] at hj;exact (Option.some.inj hj).symm
     subst this
     obtain ⟨f',rfl⟩ : ∃ f',f = f' + 1:=⟨f - 1,by omega⟩
     refine List.mem_cons_of_mem _ (List.mem_append.2 ?_)
     rcases e with e | e
     · rw [e];exact .inl (zeR hn' hl)
     · rw [e];exact .inr (zeR hn' hl)
    ·
     refine List.mem_cons_of_mem _ (List.mem_append.2 ?_)
     rcases List.mem_append.1 hm with hm | hm
     · exact .inl (zdW o hn hn' hl e f _ (by omega) hm)
     · exact .inr (zdW o hn hn' hl e f _ (by omega) hm)
   · cases hm
theorem zo1 {L : Int} {c : Cells} (o : Ok c) {h : Int} {k : Nat} (hr : jk c [h] k) : ∀ n,c.at k = some n → n.1 < L → k ∈ zeA L 25 c h:=by
 have hf : (24 - zk c h).toNat < 25:=by have:=zY o h;omega
 have hinc : ∀ {j j' : Nat} {m m' : Nd},c.at j = some m → c.at j' = some m' → (m.2.1 = (j' : Int) + 2 ∨ m.2.2 = (j' : Int) + 2) → m.1 < m'.1:=fun {j j' m m'} hj hj' e => by
  obtain ⟨_,_,_,_,k3,k4⟩:=o.kids ((yO _).trans hj)
  rcases e with e | e
  · rw [e,zK ((yO _).trans hj')] at k3;exact k3
  · rw [e,zK ((yO _).trans hj')] at k4;exact k4
 refine Rch.ind (Q:=fun k => ∀ n,c.at k = some n → n.1 < L → k ∈ zeA L 25 c h) (fun k hu hm n hn hl => ?_) (fun k k' h1 ih hu e n hn hl => ?_) (fun k k' h1 ih hu e n hn hl => ?_) hr
 · rw [← List.mem_singleton.1 hm];exact zeR (f:=24) hn hl
 ·
  obtain ⟨m,hm⟩:=jk.used h1
  rw [hm] at e
  have h2:=hinc hm hn (.inl e)
  exact zdW o hm hn hl (.inl e) 25 h hf (ih m hm (by omega))
 ·
  obtain ⟨m,hm⟩:=jk.used h1
  rw [hm] at e
  have h2:=hinc hm hn (.inr e)
  exact zdW o hm hn hl (.inr e) 25 h hf (ih m hm (by omega))
theorem zcM {L : Int} {c : Cells} (o : Ok c) (h : Int) : yh L (xk c [h]) ≤ yD (L - zk c h).toNat:=by
 refine Nat.le_trans ?_ (zgG (L:=L) o 25 h)
 rw [zgf]
 refine zmv _ _ (List.Pairwise.filter _ List.nodup_range) (fun k hk => ?_)
 obtain ⟨_,hk⟩:=List.mem_filter.1 hk
 cases e : (xk c [h]).at k with
 | none => rw [e] at hk;cases hk
 | some n =>
  rw [e] at hk
  obtain ⟨h1,h2⟩:=yt.1 e
  exact zo1 o h1 n h2 (by simpa [zdc] using hk)
theorem zbx {P : Program} {α : Type} [DecidableEq α] {w : World} {ops : Array Oper} {rest : List Oper} {o : Oper} {a : Act} {Q : Exit → Act → World → Prop}
 (hg : o.guard = none) (m x v : Operand) (t : TypeId) (hop : o.op = Op.insert t m x v) {kt et : TypeId} {enc : α → Value} (K : zez P kt enc) (ht : P.underlying t = some (.map kt et))
 {b : Nat} (hm : a.eval m = .map (some b)) {l : List (α × Value)} (h : MapOf w b enc l) {k : α} (hx : a.eval x = enc k) (u : Value) (hv : a.eval v = u)
 (hK : ∀ ob,MapOf (zy w b ob) b enc (zN l k u) → wpList P ops Q rest (a.put o.dst undef) (zy w b ob)) :
 wpList P ops Q (o :: rest) a w:=by
 refine wpList_plain hg fun K' hK' => ?_
 obtain ⟨ob,hrun,h2⟩:=h.update K ht k u
 unfold Oper.wp
 simp only [execOp,hop,hm,hx,hv,hrun,Sem.run_bind,Result.andThen_ok,Sem.run_pure]
 exact hK' _ _ (hK ob h2)
structure zd1 (ct c : Cells) (h x : Int) : Prop where
 has : zx c x = true
 z : ∀ s,Z c x s ↔ Z ct h s
 top : zk ct h ≤ zk c x
theorem zd1.ext {ct c c' : Cells} {h x : Int} (g : zd1 ct c h x) (o : Ok c) (o' : Ok c') (e : Ext c c') : zd1 ct c' h x :=
 ⟨e.has g.has,fun s => (jL o o' e x g.has s).trans (g.z s),by rw [e.top g.has];exact g.top⟩
def za2 (w : World) (md : Nat) (ct c : Cells) : Prop:=∃ mq : List (Int × Value),MapOf w md (Value.int .i64) mq ∧ (assoc mq 0).isSome = true ∧ (assoc mq 1).isSome = true ∧ ∀ k v,assoc mq k = some v → ∃ x,v = .int .i64 x ∧ zd1 ct c k x
section
variable {w w2 : World} {md : Nat} {ct c c' : Cells}
theorem za2.lt (h : za2 w md ct c) : md < w.heap.size:=by obtain ⟨mq,h1,_⟩:=h;exact h1.lt
theorem za2.keep (h : za2 w md ct c) (hb : w2.heap[md]? = w.heap[md]?) : za2 w2 md ct c:=by
 obtain ⟨mq,h1,h2⟩:=h;exact ⟨mq,h1.yX hb,h2⟩
theorem za2.below (h : za2 w md ct c) (hb : Below w.heap.size w w2) : za2 w2 md ct c:=h.keep (hb.block _ h.lt)
theorem za2.ext (h : za2 w md ct c) (o : Ok c) (o' : Ok c') (e : Ext c c') : za2 w md ct c':=by
 obtain ⟨mq,h1,h2,h3,h4⟩:=h
 exact ⟨mq,h1,h2,h3,fun k v hv => by obtain ⟨x,e1,g⟩:=h4 k v hv;exact ⟨x,e1,g.ext o o' e⟩⟩
theorem za2.put {mq : List (Int × Value)} (h2 : (assoc mq 0).isSome = true) (h3 : (assoc mq 1).isSome = true) (h4 : ∀ k v,assoc mq k = some v → ∃ x,v = .int .i64 x ∧ zd1 ct c k x) {h x : Int} (g : zd1 ct c h x) {o : Obj} (hm : MapOf (zy w md o) md (Value.int .i64) (zN mq h (.int .i64 x))) : za2 (zy w md o) md ct c:=by
 refine ⟨_,hm,?_,?_,fun k v hv => ?_⟩
 ·
  rw [xw];split
  · rfl
  · exact h2
 ·
  rw [xw];split
  · rfl
  · exact h3
 ·
  rw [xw] at hv
  split at hv
  · rename_i e;subst e;cases hv;exact ⟨x,rfl,g⟩
  · exact h4 k v hv
end
structure CpOk (V L : Int) (ct c c' : Cells) (h x : Int) : Prop where
 zok : ZOk V c'
 ext : Ext c c'
 good : zd1 ct c' h x
 cnt : yh L c' ≤ yh L c + yD (L - zk ct h).toNat
theorem zny {V L : Int} {ct c c1 c2 : Cells} {h x1 x2 : Int} {n : Nd} {r : Cells × Int × Nat} (ot : ZOk V ct) (g : getM ct h = some n) (K1 : CpOk V L ct c c1 n.2.1 x1) (K2 : CpOk V L ct c1 c2 n.2.2 x2) (N : zfb L c2 n.1 x1 x2 r) : CpOk V L ct c r.1 h r.2.1:=by
 obtain ⟨b1,b2,k1,k2,k3,k4⟩:=ot.ok.kids g
 have hvV : n.1 < V:=by obtain ⟨k,_,h1,_⟩:=getM_some g;exact ot.vlt k n h1
 have c1':=K1.cnt;have c2':=K2.cnt;have c3':=N.cnt
 have m1:=zU (show (L - zk ct n.2.1).toNat ≤ (L - (n.1 + 1)).toNat by omega)
 have m2:=zU (show (L - zk ct n.2.2).toNat ≤ (L - (n.1 + 1)).toNat by omega)
 have cs:=zaq L n.1
 refine ⟨zbs K2.zok hvV N,(K1.ext.trans K2.ext).trans N.ext,⟨N.has,fun s => (N.z s).trans ?_,by rw [zK g];exact N.top⟩,by rw [zK g];omega⟩
 have e1 : ∀ s,Z c2 x1 s ↔ Z ct n.2.1 s:=fun s => (jL K1.zok.ok K2.zok.ok K2.ext x1 K1.good.has s).trans (K1.good.z s)
 rw [kD e1 K2.good.z s,za1 ot.ok g]
 exact Iff.rfl
structure zc8 (w wr : World) (s t : Fb) (V : Int) (ct c : Cells) (md : Nat) (n : Nd) : Prop where
 sp : zw wr s V c
 tp : zw wr t V ct
 done : za2 wr md ct c
 only : Only (yR s md) w wr
 off : ∀ k,yR s md k → k < w.heap.size
 lt : w.heap.size + 1 < wr.heap.size
 nb : wr.heap[w.heap.size + 1]? = some (.cells #[.int .i64 n.1,.int .i64 n.2.1,.int .i64 n.2.2] 117 (0,0))
structure zpJ (s t : Fb) (md : Nat) : Prop where
 s1 : ¬ s.b.mem md
 s2 : s.ps ≠ md
 t1 : ¬ yR s md t.ps
 t2 : ∀ k,t.b.mem k → ¬ yR s md k
section
variable {w wr w2 : World} {s t : Fb} {V : Int} {ct c c' : Cells} {md : Nat} {n : Nd}
theorem zc8.step (h : zc8 w wr s t V ct c md n) (q : zpJ s t md) (ho : Only (yR s md) wr w2) (hs : zw w2 s V c') (hd : za2 w2 md ct c') : zc8 w w2 s t V ct c' md n:=by
 have hn : ¬ yR s md (w.heap.size + 1):=fun hk => by have:=h.off _ hk;omega
 exact ⟨hs,h.tp.only ho q.t1 q.t2,hd,h.only.trans ho,h.off,Nat.lt_of_lt_of_le h.lt ho.size,(ho.block _ h.lt hn).trans h.nb⟩
theorem zc8.node (h : zc8 w wr s t V ct c md n) (q : zpJ s t md) (ho : Only s.b.mem wr w2) (hs : zw w2 s V c') (o : Ok c) (o' : Ok c') (e : Ext c c') : zc8 w w2 s t V ct c' md n :=
 h.step q (ho.mono fun _ hk => .inl hk) hs ((h.done.keep (ho.block _ h.done.lt q.s1)).ext o o' e)
theorem zc8.put (h : zc8 w wr s t V ct c md n) (q : zpJ s t md) {mq : List (Int × Value)} (h2 : (assoc mq 0).isSome = true) (h3 : (assoc mq 1).isSome = true) (h4 : ∀ k v,assoc mq k = some v → ∃ x,v = .int .i64 x ∧ zd1 ct c k x) {a x : Int} (g : zd1 ct c a x) {o : Obj} (hm : MapOf (zy wr md o) md (Value.int .i64) (zN mq a (.int .i64 x))) :
 zc8 w (zy wr md o) s t V ct c md n:=by
 have ho : Only (· = md) wr (zy wr md o):=⟨rfl,rfl,rfl,by simp [zy],fun k _ hk => yC o hk⟩
 exact h.step q (ho.mono fun _ hk => .inr hk) (h.sp.only ho q.s2 (fun k hk e => q.s1 (e ▸ hk))) (za2.put h2 h3 h4 g hm)
theorem zmM (h : zw w s V c) (ht : zw w t V ct) (hd : za2 w md ct c) (X : Obj) : zc8 w ((w.alloc X).alloc (.cells #[.int .i64 n.1,.int .i64 n.2.1,.int .i64 n.2.2] 117)) s t V ct c md n:=by
 have hb : Below w.heap.size w ((w.alloc X).alloc (.cells #[.int .i64 n.1,.int .i64 n.2.1,.int .i64 n.2.2] 117)):=(zba).alloc (by simp) _
 have l:=hd.lt
 exact ⟨h.below hb,ht.below hb,hd.below hb,Only.of_below hb rfl,fun k hk => hk.elim (fun hk => h.lt hk) (fun hk => hk ▸ l),by simp,za (by simp)⟩
theorem zc8.b0 (h : zc8 w wr s t V ct c md n) : wr.cell? ⟨w.heap.size + 1,0,none⟩ = some (.int .i64 n.1):=by rw [cell_of_row wr _ _ _ _ _ h.nb];rfl
theorem zc8.b1 (h : zc8 w wr s t V ct c md n) : wr.cell? ⟨w.heap.size + 1,1,none⟩ = some (.int .i64 n.2.1):=by rw [cell_of_row wr _ _ _ _ _ h.nb];rfl
theorem zc8.b2 (h : zc8 w wr s t V ct c md n) : wr.cell? ⟨w.heap.size + 1,2,none⟩ = some (.int .i64 n.2.2):=by rw [cell_of_row wr _ _ _ _ _ h.nb];rfl
end
def CPost (V L : Int) (s : Fb) (md : Nat) (ct c : Cells) (h : Int) (w : World) (e : Ending) (w' : World) : Prop :=
 ∃ c' x,e = .returned (.tuple #[.int .i64 x,.nilIface]) ∧ zw w' s V c' ∧ za2 w' md ct c' ∧ Only (yR s md) w w' ∧ CpOk V L ct c c' h x
set_option maxRecDepth 100000 in
set_option maxHeartbeats 8000000 in
theorem zms {V L : Int} (hV : V ≤ 24) (hL : V ≤ L + 3) {s t : Fb} (md : Nat) (q : zpJ s t md) {ct : Cells} (ot : ZOk V ct) : ∀ (f : Nat) (h : Int) (w : World) (c : Cells),zw w s V c → zw w t V ct → za2 w md ct c → ZOk V c → zx ct h = true → (24 - zk ct h).toNat < f → yh L c + yD (L - zk ct h).toNat + hiB V L < c.length →
 Calls Tryz.prog 151 #[.pointer (some ⟨s.ps,0,none⟩),.pointer (some ⟨t.ps,0,none⟩),.int .i64 h,.map (some md)] w (CPost V L s md ct c h w)
 | 0,_,_,_,_,_,_,_,_,hf,_ => absurd hf (Nat.not_lt_zero _)
 | f + 1,h,w,c,hs,ht,hd,zo,hh,hf,hr => by
  have Hih:=hid (zms hV hL md q ot (s:=s) f)
  obtain ⟨mq,hmq,hm0,hm1,hmv⟩:=hd
  have hd : za2 w md ct c:=⟨mq,hmq,hm0,hm1,hmv⟩
  have Hq:=hid q;have Hot:=hid ot
  cases e : assoc mq h with
  | some v =>
   obtain ⟨x,rfl,gd⟩:=hmv h v e
   have Hs:=hid hs;have Hd:=hid hd;have Hz:=hid zo;have Hgd:=hid gd;have Hmq:=hid hmq;have He:=hid e
   clear hs ht hd zo hh hf hr hm0 hm1 hmv gd hmq e q ot
   go_enter Tryz.func151,Tryz.ntmps151
   go_wp2_with (at_lookup;refine xA rfl (.tmp 19) (.tmp 20) 245 true rfl (kt:=3) (et:=3) (enc:=Value.int .i64) (zbC Tryz.underlying3) Tryz.underlying245 (zeg _) (b:=md) rfl (l:=mq) Hmq.out (k:=h) rfl ?_;rw [He.out];simp only [Option.getD_some,Option.isSome_some,if_true])
   go_ret2
   exact ⟨c,x,rfl,Hs.out,Hd.out,Only.refl _ _,Hz.out,Ext.refl _,Hgd.out,Nat.le_add_right _ _⟩
  | none =>
   cases g : getM ct h with
   | none =>
    exfalso
    rcases yc hh g with rfl | rfl
    · rw [e] at hm0;cases hm0
    · rw [e] at hm1;cases hm1
   | some n =>
    obtain ⟨u,lo,hi⟩:=n
    obtain ⟨b1,b2,k1,k2,k3,k4⟩:=ot.ok.kids g
    have htop:=zK g
    dsimp only at b1 b2 k1 k2 k3 k4 htop
    rw [htop] at hf hr
    have hkt:=zmM (n:=(u,lo,hi)) hs ht hd (.cells #[.int .i64 u,.int .i64 lo,.int .i64 hi] 117)
    have hg:=zbB h w t.b ct ht.ar (ht.le hh)
    rw [g] at hg
    have c0:=ht.s0
    have lps:=ht.lps
    have m1:=zU (show (L - zk ct lo).toNat ≤ (L - (u + 1)).toNat by omega)
    have m2:=zU (show (L - zk ct hi).toNat ≤ (L - (u + 1)).toNat by omega)
    have cs:=zaq L u
    have hf1 : (24 - zk ct lo).toNat < f:=by omega
    have hf2 : (24 - zk ct hi).toNat < f:=by omega
    have hq1:=Hih.out lo _ c hkt.sp hkt.tp hkt.done zo k1 hf1 (by omega)
    have He:=hid e;have Hmq:=hid hmq;have Hg:=hid hg;have G:=hid g;have Hkt:=hid hkt;have Hz:=hid zo;have Hr:=hid hr;have B1:=hid b1;have B2:=hid b2;have K1:=hid k1;have K2:=hid k2;have K3:=hid k3;have K4:=hid k4;have M1:=hid m1;have M2:=hid m2;have Hcs:=hid cs;have Hf2:=hid hf2;have Hq1:=hid hq1
    clear e hmq hg g hkt zo hr b1 b2 k1 k2 k3 k4 m1 m2 cs hf1 hf2 hq1 htop hs ht hd hh hf hm0 hm1 hmv q ot
    go_enter Tryz.func151,Tryz.ntmps151
    go_wp2_with (at_lookup;refine xA rfl (.tmp 19) (.tmp 20) 245 true rfl (kt:=3) (et:=3) (enc:=Value.int .i64) (zbC Tryz.underlying3) Tryz.underlying245 (zeg _) (b:=md) rfl (l:=mq) Hmq.out (k:=h) rfl ?_;rw [He.out];simp only [Option.getD_none,Option.isSome_none,if_true])
    refine Hg.out.mono ?_
    rintro e w1 ⟨rfl,rfl⟩
    simp only [zaC,qh,Option.getD_some,Option.isSome_some]
    go_wp2_with fail
    have ti:=Hkt.out;clear Hkt c0
    generalize (w.alloc (.cells #[.int .i64 u,.int .i64 lo,.int .i64 hi] 117)).alloc (.cells #[.int .i64 u,.int .i64 lo,.int .i64 hi] 117) = w2 at ti Hq1 ⊢
    refine Hq1.out.mono ?_
    rintro e w3 ⟨c1,x1,rfl,hs3,hd3,ho3,p1⟩
    have t3:=ti.step Hq.out ho3 hs3 hd3
    have d2:=t3.b2
    dsimp only at d2
    have hl1:=p1.ext.len;have hn1:=p1.cnt
    have hq2:=Hih.out hi w3 c1 t3.sp t3.tp t3.done p1.zok K2.out Hf2.out (by have:=Hr.out;have:=M1.out;have:=M2.out;have:=Hcs.out;omega)
    have Hq2:=hid hq2;have T3:=hid t3;have P1:=hid p1
    clear hq2 t3 p1 hs3 hd3 ho3 ti Hq1 hl1 hn1
    go_wp2_with fail
    refine Hq2.out.mono ?_
    rintro e w4 ⟨c2,x2,rfl,hs4,hd4,ho4,p2⟩
    have t4:=T3.out.step Hq.out ho4 hs4 hd4
    have d0:=t4.b0
    dsimp only at d0
    have h1c2 : zx c2 x1 = true:=p2.ext.has P1.out.good.has
    have u1 : u < zk c2 x1:=by rw [p2.ext.top P1.out.good.has];have:=P1.out.good.top;have:=K3.out;omega
    have u2 : u < zk c2 x2:=by have:=p2.good.top;have:=K4.out;omega
    have hn:=ku L p2.zok.ok p2.zok.red B1.out B2.out h1c2 p2.good.has u1 u2 (by
     have h5:=zbg p2.zok hL;have h6:=Hr.out;have h7:=Hcs.out;have h8:=P1.out.ext.len;have h8':=p2.ext.len;have h9:=P1.out.cnt;have h9':=p2.cnt;have:=M1.out;have:=M2.out;omega)
    have mk:=zny Hot.out G.out P1.out p2 hn
    have hq:=zad u x1 x2 w4 s V c2 t4.sp (t4.sp.le h1c2) (t4.sp.le p2.good.has)
    have hnx:=hn.ext;have hnok:=hn.ok
    rw [hn.err] at hq
    simp only [ziB,if_true] at hq
    generalize jY c2 u x1 x2 = R at hq mk hnx hnok
    obtain ⟨c4,x4,n4⟩:=R
    dsimp only at hq mk hnx hnok
    have Hq4:=hid hq;have Hmk:=hid mk;have T4:=hid t4;have Hnx:=hid hnx;have Hnok:=hid hnok;have P2:=hid p2
    clear hq mk t4 hnx hnok p2 hn h1c2 u1 u2 hs4 hd4 ho4 Hq2 d2 T3
    go_wp2_with fail
    refine Hq4.out.mono ?_
    rintro e w5 ⟨rfl,hs5,ho5⟩
    have t5:=T4.out.node Hq.out ho5 hs5 P2.out.zok.ok Hnok.out Hnx.out
    obtain ⟨mq5,hmq5,hm50,hm51,hmv5⟩:=t5.done
    have T5:=hid t5;have Hmq5:=hid hmq5;have Hm50:=hid hm50;have Hm51:=hid hm51;have Hmv5:=hid hmv5
    clear t5 hmq5 hm50 hm51 hmv5 hs5 ho5 d0 Hq4 T4
    go_wp2_with (at_mapUpdate;refine yY rfl (.tmp 68) (.tmp 69) (.tmp 70) 245 rfl (kt:=3) (et:=3) (enc:=Value.int .i64) (zbC Tryz.underlying3) Tryz.underlying245 (b:=md) rfl (l:=mq5) Hmq5.out (k:=h) rfl (.int .i64 x4) rfl ?_;intro ob hob;have hi8:=T5.out.put Hq.out Hm50.out Hm51.out Hmv5.out Hmk.out.good hob;have Hi8:=hid hi8;clear hi8 hob T5;generalize zy w5 md ob = w8 at Hi8 ⊢)
    go_ret2
    exact ⟨c4,x4,rfl,Hi8.out.sp,Hi8.out.done,Hi8.out.only,Hmk.out⟩
structure zal (c : Cells) (h : Int) (F : Fam) : Prop where
 has : zx c h = true
 z : ∀ s,Z c h s ↔ F s
theorem zal.up {c c' : Cells} {h : Int} {F : Fam} (m : zal c h F) (o : Ok c) (o' : Ok c') (e : Ext c c') : zal c' h F:=⟨e.has m.has,fun s => (jL o o' e h m.has s).trans (m.z s)⟩
theorem zal.same {V : Int} {c : Cells} {h h' : Int} {F F' : Fam} (o : ZOk V c) (m : zal c h F) (m' : zal c h' F') (e : ∀ s,F s ↔ F' s) : h = h' :=
 zih o.ok o.red m.has m'.has (fun s => (m.z s).trans ((e s).trans (m'.z s).symm))
theorem zal.zgL {V : Int} {c : Cells} {h : Int} {F : Fam} {keep : List Int} (m : zal c h F) (o : ZOk V c) (hm : h ∈ keep) : zal (xk c keep) h F:=by
 have key : ∀ (h : Int),(∀ k : Nat,h = (k : Int) + 2 → jk c keep k) → zx c h = true → ∀ s,Z (xk c keep) h s ↔ Z c h s:=by
  refine jH o.ok (Q:=fun h => (∀ k : Nat,h = (k : Int) + 2 → jk c keep k) → zx c h = true → ∀ s,Z (xk c keep) h s ↔ Z c h s) (fun h g hk hh s => ?_) (fun h n g ih1 ih2 hk hh s => ?_)
  · rw [zaA g,zaA (qg _ (yc hh g))]
  ·
   obtain ⟨k,rfl,hn,_⟩:=getM_some g
   have hr:=hk k rfl
   have g' : getM (xk c keep) ((k : Int) + 2) = some n:=by rw [yO];exact yt.2 ⟨hr,hn⟩
   obtain ⟨_,_,k1,k2,_,_⟩:=o.ok.kids g
   rw [za1 o.ok g,za1 (zeI o.ok keep) g']
   have r1 : ∀ k' : Nat,n.2.1 = (k' : Int) + 2 → jk c keep k':=fun k' e => by
    rcases xE k1 with e2 | e2 | ⟨k3,n3,e2,h5,_⟩
    · omega
    · omega
    ·
     obtain rfl : k3 = k':=by omega
     exact hr.low hn h5 e
   have r2 : ∀ k' : Nat,n.2.2 = (k' : Int) + 2 → jk c keep k':=fun k' e => by
    rcases xE k2 with e2 | e2 | ⟨k3,n3,e2,h5,_⟩
    · omega
    · omega
    ·
     obtain rfl : k3 = k':=by omega
     exact hr.high hn h5 e
   split
   · exact ih2 r2 k2 _
   · exact ih1 r1 k1 _
 have hr : ∀ k : Nat,h = (k : Int) + 2 → jk c keep k:=fun k e => by subst e;exact zcj m.has hm
 exact ⟨zbH m.has hr,fun s => (key h hr m.has s).trans (m.z s)⟩
section
variable (A B C : Fam) (s : St)
end
theorem qM (y : Nat) (j : Nat) : smN y (j : Int) = y.testBit j:=by unfold smN;simp
theorem zbI (y : Nat) {u : Int} (h : ¬ 0 ≤ u) : smN y u = false:=by unfold smN;rw [decide_eq_false h];rfl
theorem zl4 {y x : Nat} : Sub (smN y) (smN x) ↔ ∀ j,y.testBit j = true → x.testBit j = true:=by
 constructor
 ·
  intro h j hj
  have:=h (j : Int) (by rw [qM];exact hj)
  rwa [qM] at this
 ·
  intro h u hu
  by_cases h0 : 0 ≤ u
  ·
   obtain ⟨j,rfl⟩ : ∃ j : Nat,u = j:=⟨u.toNat,by omega⟩
   rw [qM] at hu ⊢
   exact h j hu
  · rw [zbI y h0] at hu;cases hu
theorem zmo {y x : Nat} (h : smN y = smN x) : y = x:=Nat.eq_of_testBit_eq fun j => by
 have:=congrFun h (j : Int)
 rwa [qM,qM] at this
theorem zju {V : Nat} (hV : V ≤ 24) {y : Nat} (hy : y < 2 ^ V) : yH V 0 (y : Int) = smN y:=by
 have hp : 2 ^ V ≤ 2 ^ 24:=Nat.pow_le_pow_right (by decide) hV
 funext u
 by_cases h0 : 0 ≤ u
 ·
  obtain ⟨j,rfl⟩ : ∃ j : Nat,u = j:=⟨u.toNat,by omega⟩
  by_cases hj : j < V
  · rw [zft _ _ _ _ h0 (by omega),qM,znb y (by omega) j (by omega)]
  ·
   rw [qM,Nat.testBit_lt_two_pow (Nat.lt_of_lt_of_le hy (Nat.pow_le_pow_right (by decide) (by omega)))]
   unfold yH;rw [decide_eq_false (show ¬ (j : Int) < V by omega)];simp
 · rw [zbI y h0,zcE _ _ _ _ (by omega)]
def zpZ (s : St) : Nat → Nat
 | 0 => 0
 | m + 1 => zpZ s m ||| (if s (m : Int) = true then 2 ^ m else 0)
theorem zkf (s : St) : ∀ (m j : Nat),(zpZ s m).testBit j = (decide (j < m) && s (j : Int))
 | 0,j => by simp [zpZ]
 | m + 1,j => by
  rw [zpZ,Nat.testBit_or,zkf s m j]
  by_cases e : j = m
  ·
   subst e
   cases h : s (j : Int) <;> simp [Nat.testBit_two_pow_self]
  ·
   have h2 : (if s (m : Int) = true then 2 ^ m else 0).testBit j = false:=by
    split
    · rw [Nat.testBit_two_pow];simp;omega
    · simp
   rw [h2,Bool.or_false]
   by_cases h : j < m
   · rw [decide_eq_true h,decide_eq_true (show j < m + 1 by omega)]
   · rw [decide_eq_false h,decide_eq_false (show ¬ j < m + 1 by omega)]
theorem zqu {s : St} (h : ∀ u,s u = true → 0 ≤ u ∧ u < 24) : smN (zpZ s 24) = s:=by
 funext u
 by_cases h0 : 0 ≤ u
 ·
  obtain ⟨j,rfl⟩ : ∃ j : Nat,u = j:=⟨u.toNat,by omega⟩
  rw [qM,zkf]
  by_cases hj : j < 24
  · rw [decide_eq_true hj];simp
  ·
   rw [decide_eq_false hj]
   cases e : s (j : Int)
   · rfl
   · have:=(h _ e).2;omega
 ·
  rw [zbI _ h0]
  cases e : s u
  · rfl
  · exact absurd (h _ e).1 h0
def zgl (V : Int) (zs : List Nat) : Fam:=fun s => (∀ u,s u = true → 0 ≤ u ∧ u < V) ∧ ∀ z ∈ zs,∃ u,s u = true ∧ smN z u = true
def zqv (V : Int) (F : Fam) : Fam:=fun s => (∀ u,s u = true → 0 ≤ u ∧ u < V) ∧ ∀ t,F t → ∃ u,s u = true ∧ t u = true
def zhr (v : Int) : St:=fun u => decide (u = v)
def zjb (k : Int) (z : Nat) : Fam:=fun s => ∃ v,0 ≤ v ∧ v < k ∧ smN z v = true ∧ s = zhr v
theorem zf9 {H J : Fam} (h1 : ∀ s,J s → H s) (h2 : ∀ s,H s → ∃ j,J j ∧ Sub j s) (s : St) : xL J s ↔ xL H s:=by
 constructor
 ·
  rintro ⟨hj,hm⟩
  refine ⟨h1 s hj,fun t ht hs => ?_⟩
  obtain ⟨j,hj2,hjt⟩:=h2 t ht
  have e:=hm j hj2 (hjt.trans hs)
  subst e
  exact Sub.antisymm hs hjt
 ·
  rintro ⟨hh,hm⟩
  obtain ⟨j,hj,hjs⟩:=h2 s hh
  have e:=hm j (h1 j hj) hjs
  subst e
  exact ⟨hj,fun t ht hs => hm t (h1 t ht) hs⟩
theorem zmT {V : Int} (hV : V ≤ 24) (zs : List Nat) : Small (zgl V zs):=fun s hs u hu => by have:=hs.1 u hu;omega
theorem znx {V : Int} (s : St) : (∀ u,s u = false) ↔ xL (zgl V []) s:=by
 have h0 : zgl V [] (fun _ => false):=⟨fun u hu => (by cases hu),fun z hz => (by cases hz)⟩
 constructor
 ·
  intro h
  have e : s = fun _ => false:=funext h
  subst e
  exact ⟨h0,fun t _ hs => by
   funext u
   cases e : t u
   · rfl
   · exact absurd (hs u e) (by simp)⟩
 ·
  intro h
  have:=h.2 _ h0 (fun u hu => by cases hu)
  intro u;rw [← this]
theorem zq7 {a b s : St} (h1 : Sub a s) (h2 : Sub b s) : Sub (zaG a b) s:=fun u hu => by
 unfold zaG at hu
 rcases Bool.or_eq_true_iff.1 hu with h | h
 · exact h1 u h
 · exact h2 u h
theorem zo8 {V : Int} (hV : V ≤ 24) (zs : List Nat) (z : Nat) (s : St) : xL (Kd.join.sem (xL (zgl V zs)) (zjb V z)) s ↔ xL (zgl V (zs ++ [z])) s:=by
 refine zf9 (fun s hs => ?_) (fun s hs => ?_) s
 ·
  simp only [Kd.sem] at hs
  obtain ⟨a,b,ha,⟨v,v0,v1,v2,rfl⟩,rfl⟩:=hs
  refine ⟨fun u hu => ?_,fun y hy => ?_⟩
  ·
   unfold zaG at hu
   rcases Bool.or_eq_true_iff.1 hu with h | h
   · exact ha.1.1 u h
   ·
    have : u = v:=by simpa [zhr] using h
    omega
  ·
   rcases List.mem_append.1 hy with hy | hy
   ·
    obtain ⟨u,h1,h2⟩:=ha.1.2 y hy
    exact ⟨u,by unfold zaG;rw [h1];rfl,h2⟩
   ·
    rw [List.mem_singleton.1 hy]
    exact ⟨v,by unfold zaG zhr;simp,v2⟩
 ·
  have h1 : zgl V zs s:=⟨hs.1,fun y hy => hs.2 y (List.mem_append_left _ hy)⟩
  obtain ⟨a,ha,has⟩:=zj7 (zmT hV zs) h1
  obtain ⟨v,hv,hzv⟩:=hs.2 z (List.mem_append_right _ (List.mem_singleton.2 rfl))
  have hb:=hs.1 v hv
  refine ⟨zaG a (zhr v),?_,zq7 has (fun u hu => ?_)⟩
  · simp only [Kd.sem];exact ⟨a,zhr v,ha,⟨v,hb.1,hb.2,hzv,rfl⟩,rfl⟩
  ·
   have : u = v:=by simpa [zhr] using hu
   rw [this];exact hv
theorem zmH {V : Int} {F : Fam} {ys : List Nat} (hF : Small F) (hm : ∀ y,y ∈ ys ↔ F (smN y)) (s : St) : zgl V ys s ↔ zqv V F s:=by
 constructor
 ·
  rintro ⟨h1,h2⟩
  refine ⟨h1,fun t ht => ?_⟩
  have e:=zqu (hF t ht)
  have:=h2 _ ((hm _).2 (by rw [e];exact ht))
  rwa [e] at this
 ·
  rintro ⟨h1,h2⟩
  exact ⟨h1,fun z hz => h2 _ ((hm z).1 hz)⟩
theorem zlm {V : Int} {F G : Fam} (h : ∀ s,F s ↔ G s) (s : St) : zqv V F s ↔ zqv V G s:=by
 constructor
 · rintro ⟨h1,h2⟩;exact ⟨h1,fun t ht => h2 t ((h t).2 ht)⟩
 · rintro ⟨h1,h2⟩;exact ⟨h1,fun t ht => h2 t ((h t).1 ht)⟩
theorem zd5 (k : Nat) : (2 : Int) ^ k = ((2 ^ k : Nat) : Int):=by simp
theorem zpm {V k : Nat} (hV : V ≤ 24) (hk : k < V) : yH V 0 ((2 : Int) ^ k) = zhr (k : Int):=by
 have hlt : 2 ^ k < 2 ^ V:=Nat.pow_lt_pow_right (by decide) hk
 rw [zd5,zju hV hlt]
 funext u
 unfold zhr
 by_cases h0 : 0 ≤ u
 ·
  obtain ⟨j,rfl⟩ : ∃ j : Nat,u = j:=⟨u.toNat,by omega⟩
  rw [qM,Nat.testBit_two_pow]
  by_cases e : k = j
  · subst e;simp
  · rw [decide_eq_false e,decide_eq_false (by omega)]
 · rw [zbI _ h0,decide_eq_false (by omega)]
theorem zmR {k : Nat} (hk : k < 24) : IntKind.u64.wrap ((2 : Int) ^ k) = (2 : Int) ^ k:=by
 have h1 : (2 : Nat) ^ k < 2 ^ 24:=Nat.pow_lt_pow_right (by decide) hk
 rw [zd5,IntKind.wrap_u64]
 generalize (2 : Nat) ^ k = q at h1 ⊢
 omega
theorem pow_div {V k : Nat} (hk : k < V) : (2 : Int) ^ k / 2 ^ (V : Int).toNat = 0:=by
 have hlt : 2 ^ k < 2 ^ V:=Nat.pow_lt_pow_right (by decide) hk
 rw [Int.toNat_natCast,zd5,zd5]
 generalize (2 : Nat) ^ k = q at hlt ⊢
 generalize (2 : Nat) ^ V = r at hlt ⊢
 exact Int.ediv_eq_zero_of_lt (by omega) (by omega)
theorem zpb (y : Nat) (hy : y < 18446744073709551616) (j : Nat) (hj : j < 64) : (bits .and .u64 ((y : Int) / 2 ^ j) 1 == 0) = !y.testBit j:=by
 have e2 : (y : Int) / 2 ^ j = ((y / 2 ^ j : Nat) : Int):=by simp
 rw [e2,show (1 : Int) = ((1 : Nat) : Int) by rfl,bits_and_u64_nat _ _ (Nat.lt_of_le_of_lt (Nat.div_le_self _ _) hy) (by decide)]
 have h3 : y / 2 ^ j &&& 1 = (y / 2 ^ j) % 2:=Nat.and_one_is_mod _
 have h5 : y.testBit j = decide (y / 2 ^ j % 2 = 1):=Nat.testBit_eq_decide_div_mod_eq
 rw [h3,h5]
 rcases Nat.mod_two_eq_zero_or_one (y / 2 ^ j) with h4 | h4 <;> rw [h4] <;> rfl
theorem zkT (z : Nat) (s : St) : False ↔ zjb 0 z s:=⟨False.elim,fun ⟨v,h1,h2,_⟩ => by omega⟩
theorem zqx {z k : Nat} (h : z.testBit k = false) (s : St) : zjb (k : Int) z s ↔ zjb ((k : Int) + 1) z s:=by
 constructor
 · rintro ⟨v,h1,h2,h3,h4⟩;exact ⟨v,h1,by omega,h3,h4⟩
 ·
  rintro ⟨v,h1,h2,h3,h4⟩
  refine ⟨v,h1,?_,h3,h4⟩
  by_cases e : v = k
  · subst e;rw [qM,h] at h3;cases h3
  · omega
theorem zqc {z k : Nat} (h : z.testBit k = true) (s : St) : (zjb (k : Int) z s ∨ s = zhr (k : Int)) ↔ zjb ((k : Int) + 1) z s:=by
 constructor
 ·
  rintro (⟨v,h1,h2,h3,h4⟩ | h4)
  · exact ⟨v,h1,by omega,h3,h4⟩
  · exact ⟨k,by omega,by omega,by rw [qM];exact h,h4⟩
 ·
  rintro ⟨v,h1,h2,h3,h4⟩
  by_cases e : v = k
  · subst e;exact .inr h4
  · exact .inl ⟨v,h1,by omega,h3,h4⟩
structure HtOk (V L : Int) (c c' : Cells) (h x : Int) : Prop where
 zok : ZOk V c'
 ext : Ext c c'
 has : zx c' x = true
 z : ∀ s,Z c' x s ↔ xL (zqv V (Z c h)) s
 cnt : yh L c' ≤ yh L c + yD L.toNat
def zrM (V L : Int) (s : Fb) (c : Cells) (h : Int) (w : World) (e : Ending) (w' : World) : Prop :=
 ∃ c' x,e = .returned (.tuple #[.int .i64 x,.nilIface]) ∧ zw w' s V c' ∧ Only s.b.mem w w' ∧ HtOk V L c c' h x
structure TOk (V : Nat) (ct : Cells) (out : Int) (zs : List Nat) : Prop where
 zok : ZOk V ct
 len : ct.length = 4000
 low : yh ((V : Int) - 3) ct ≤ yD ((V : Int) - 3).toNat
 has : zx ct out = true
 z : ∀ s,Z ct out s ↔ xL (zgl V zs) s
structure IOk (V : Nat) (c0 ct : Cells) (one : Int) (k : Nat) (z : Nat) : Prop where
 zok : ZOk V ct
 ext : Ext c0 ct
 low : yh ((V : Int) - 3) ct ≤ yh ((V : Int) - 3) c0 + k * (4 + yD 4)
 has : zx ct one = true
 z : ∀ s,Z ct one s ↔ zjb (k : Int) z s
theorem zn1 {V : Nat} {c0 : Cells} (o : ZOk V c0) (z : Nat) : IOk V c0 c0 0 0 z :=
 ⟨o,Ext.refl _,by omega,qB _,fun s => ⟨fun h => absurd h (zbP _ _),fun h => ((zkT z s).2 h).elim⟩⟩
theorem zrF {V : Nat} {c0 ct : Cells} {one : Int} {k z : Nat} (i : IOk V c0 ct one k z) (h : z.testBit k = false) : IOk V c0 ct one (k + 1) z :=
 ⟨i.zok,i.ext,by have:=i.low;rw [Nat.add_mul];omega,i.has,fun s => (i.z s).trans (by rw [zqx h];rfl)⟩
theorem zqP {V : Nat} (hV : V ≤ 7) {c0 ct c1 c2 : Cells} {one x y : Int} {k z : Nat} (hk : k < V) (i : IOk V c0 ct one k z) (h : z.testBit k = true) (a : zcb V ((V : Int) - 3) ct c1 0 ((2 : Int) ^ k) x) (b : WOk V ((V : Int) - 3) .or c1 c2 one x y) : IOk V c0 c2 y (k + 1) z:=by
 have h1:=a.cnt;have h2:=b.cnt;have h3:=i.low
 have t1:=zY a.zok.ok one;have t2:=zY a.zok.ok x
 have h4 : Kd.or.cost ((V : Int) - 3 - min (zk c1 one) (zk c1 x)).toNat ≤ yD 4:=zU (by omega)
 refine ⟨b.zok,(i.ext.trans a.ext).trans b.ext,by rw [Nat.add_mul];omega,b.has,fun s => (b.z s).trans ?_⟩
 rw [← show (zjb (k : Int) z s ∨ s = zhr (k : Int)) ↔ zjb ((k + 1 : Nat) : Int) z s from zqc h s]
 simp only [Kd.sem]
 rw [jL i.zok.ok a.zok.ok a.ext one i.has,i.z,a.z,zpm (by omega) hk]
theorem zp4 {V : Nat} (hV : V ≤ 7) {ct c1 c2 c3 : Cells} {out one x y : Int} {zs : List Nat} {z : Nat} (t : TOk V ct out zs) (i : IOk V ct c1 one V z) (j : WOk V ((V : Int) - 3) .join c1 c2 out one x) (l : LOk V ((V : Int) - 3) c2 c3 x y) : TOk V (xk c3 [y]) y (zs ++ [z]):=by
 have hr : ∀ k : Nat,y = (k : Int) + 2 → jk c3 [y] k:=fun k e => by subst e;exact zcj l.has (List.mem_singleton.2 rfl)
 have fm:=(zal.zgL (keep:=[y]) ⟨l.has,l.z⟩ l.zok (List.mem_singleton.2 rfl))
 refine ⟨l.zok.zgL _,?_,?_,fm.has,fun s => (fm.z s).trans ?_⟩
 · rw [j6,l.ext.len,j.ext.len,i.ext.len,t.len]
 ·
  refine Nat.le_trans (zcM l.zok.ok y) (zU ?_)
  have:=zY l.zok.ok y;omega
 ·
  rw [← zo8 (V:=(V : Int)) (by omega) zs z s]
  refine jy (fun s => (j.z s).trans (Kd.join.qZ (fun s => ?_) i.z s)) s
  rw [jL t.zok.ok i.zok.ok i.ext out t.has,t.z]
theorem zlZ {w : World} {md : Nat} {ct c : Cells} (h : MapOf w md (Value.int .i64) (zN (zN [] (0 : Int) (.int .i64 0)) (1 : Int) (.int .i64 1))) : za2 w md ct c:=by
 refine ⟨_,h,by rw [xw,xw];simp,by rw [xw];simp,fun k v hv => ?_⟩
 rw [xw,xw] at hv
 split at hv
 ·
  rename_i e;subst e;cases hv
  exact ⟨1,rfl,zbe _,fun s => (zhX c s).trans (zhX ct s).symm,by rw [qH (qg c (.inr rfl)),qH (qg ct (.inr rfl))];exact Int.le_refl _⟩
 ·
  split at hv
  ·
   rename_i e;subst e;cases hv
   exact ⟨0,rfl,qB _,fun s => ⟨fun h => absurd h (zbP _ _),fun h => absurd h (zbP _ _)⟩,by rw [qH (qg c (.inl rfl)),qH (qg ct (.inl rfl))];exact Int.le_refl _⟩
  · cases hv
set_option maxRecDepth 100000 in
set_option maxHeartbeats 20000000 in
theorem zor (V : Nat) (hV : V ≤ 7) (h : Int) (w : World) (s : Fb) (c : Cells) (hs : zw w s V c) (zo : ZOk V c) (hh : zx c h = true) (hr : yh ((V : Int) - 3) c + yD ((V : Int) - 3).toNat + hiB V ((V : Int) - 3) < c.length) :
 Calls Tryz.prog 96 #[.pointer (some ⟨s.ps,0,none⟩),.int .i64 h] w (zrM V ((V : Int) - 3) s c h w):=by
 have hp : ((2 ^ (V : Int).toNat : Nat) : Int) ≤ 65536:=by
  have : 2 ^ V ≤ 2 ^ 7:=Nat.pow_le_pow_right (by decide) hV
  rw [Int.toNat_natCast];omega
 have hF:=ziM (V:=(V : Int)) (by omega) zo h
 have q0:=ziq (V:=V) (by omega) (by omega) h 65536 w s c hs zo hh hp
 have hmm:=@run_makeMap Tryz.prog
 have Q0:=hid q0;have Hs:=hid hs;have Hz:=hid zo;have Hh:=hid hh;have Hr:=hid hr;have HF:=hid hF
 clear q0 hs zo hh hr hF hp
 go_enter Tryz.func96,Tryz.ntmps96
 go_wp2_with fail
 refine Q0.out.mono ?_
 rintro e w1 ⟨vA,ys,rfl,hua,hsa,hma,hla,hb1⟩
 obtain ⟨aA,cA,rfl,hA1,hA2⟩:=hua.shape
 have hs1:=Hs.out.below hb1
 have s1:=hs1.s1
 have Hua:=hid hua;have Hma:=hid hma;have Hla:=hid hla;have Hb1:=hid hb1;have Hs1:=hid hs1
 clear hua hsa hma hla hb1 hs1 Q0
 go_wp2_with fail
 refine (zkK V 4000 w1 (by omega) (by omega) (by decide) (by decide)).mono ?_
 rintro e w2 ⟨⟨t,rfl,hR,ht2,htp,htm⟩,hb2⟩
 have hl0 : yh ((V : Int) - 3) (List.replicate 4000 none) = 0:=by unfold yh;rw [List.countP_replicate];simp [zdc]
 have ht0 : TOk V (List.replicate 4000 none) 1 []:=⟨ZOk.empty V 4000,List.length_replicate,by rw [hl0];exact znz _,zbe _,fun s => (zhX _ s).trans (znx s)⟩
 have hs2:=Hs1.out.below hb2
 have Ht2:=hid ht2;have Htp:=hid htp;have Htm:=hid htm;have Hb2:=hid hb2;have Ht0:=hid ht0;have Hs2:=hid hs2
 clear ht2 htp htm hb2 ht0 hl0 hs2 hR s1 Hs1
 go_wp2_with fail
 have hcO4 : yD 4 = 15:=rfl
 have HcO4:=hid hcO4;clear hcO4
 go_loopg [9,38] ys.length (fun gk o i wr => ∃ (k : Nat) (out : Int) (ct : Cells),k ≤ ys.length ∧ gk = ys.length - k ∧ o = .int .i64 out ∧ i = .int .i64 k ∧ zw wr t V ct ∧ TOk V ct out (ys.take k) ∧ Only t.b.mem w2 wr)
 case atStart => exact ⟨0,1,_,znz _,rfl,rfl,rfl,Ht2.out,Ht0.out,Only.refl _ _⟩
 case round =>
  obtain ⟨k,out,ct,hk,rfl,rfl,rfl,ht,tk,hon⟩:=hrel
  obtain ⟨wo,hwo⟩ : ∃ wo : World,wo = wr:=⟨_,rfl⟩
  subst hwo
  have hbo : Below w1.heap.size w1 wo:=Hb2.out.trans (hon.below Hb2.out.size Htm.out)
  by_cases hlt : k < ys.length
  ·
   obtain ⟨bA,rfl,lA,gA0⟩:=(Hua.out.below hbo).addr hlt
   have gA:=gA0 k hlt
   clear gA0
   have hz24:=Hla.out _ (List.getElem_mem hlt)
   have htk1 : ys.take (k + 1) = ys.take k ++ [ys[k]]:=List.take_succ_eq_append_getElem hlt
   obtain ⟨z,hz⟩ : ∃ z,z = ys[k]:=⟨_,rfl⟩
   rw [← hz] at gA hz24 htk1
   have hz64 : z < 18446744073709551616:=by
    have : 2 ^ (V : Int).toNat ≤ 2 ^ 7:=Nat.pow_le_pow_right (by decide) (by rw [Int.toNat_natCast];exact hV)
    omega
   have hso:=Hs2.out.only hon (fun e => by have:=Htm.out _ e;have:=Hs2.out.lps;have:=Hs.out.lps;have:=Hb1.out.size;omega) (fun j hj e => by have:=Htm.out _ e;have:=Hs.out.lt hj;have:=Hb1.out.size;omega)
   have s1:=hso.s1
   have iA : (k : Int) < (ys.length : Int):=by omega
   have Ht:=hid ht;have Tk:=hid tk;have Hon:=hid hon;have Htk1:=hid htk1;have Hz64:=hid hz64
   clear ht tk hon hbo hz24 htk1 hz hz64 hso
   go_wp2_with fail
   clear gA
   go_loopg [12,46] V (fun gk o i wx => ∃ (j : Nat) (one : Int) (c1 : Cells),j ≤ V ∧ gk = V - j ∧ o = .int .i64 one ∧ i = .int .i64 j ∧ zw wx t V c1 ∧ IOk V ct c1 one j z ∧ Only t.b.mem wo wx)
   case atStart => exact ⟨0,0,ct,znz _,rfl,rfl,rfl,Ht.out,zn1 Tk.out.zok z,Only.refl _ _⟩
   case round =>
    clear s1
    obtain ⟨j,one,c1,hj,rfl,rfl,rfl,ht1,ik,ho1⟩:=hrel
    have Ht1:=hid ht1;have Ik:=hid ik;have Ho1:=hid ho1;clear ht1 ik ho1
    by_cases hjl : j < V
    ·
     have hbz:=zpb z Hz64.out j (by omega)
     have e1 : min ((j : Int).toNat) 64 = j:=by rw [Int.toNat_natCast];omega
     cases hb : z.testBit j
     ·
      rw [hb] at hbz
      have hin:=hid (zrF Ik.out hb)
      have hbz2 : (bits .and .u64 ((z : Int) / 2 ^ min j 64) 1 == 0) = true:=by rw [Nat.min_eq_left (by omega)];exact hbz
      have hbz1 : (bits .and .u64 ((z : Int) / 2 ^ j) 1 == 0) = true:=hbz
      have jV : (j : Int) < (V : Int):=by omega
      clear hb e1 hbz
      go_wp2_with fail
      go_roundg (V - (j + 1))
      case measure => omega
      case rel => exact ⟨j + 1,one,c1,by omega,rfl,rfl,by go_num,Ht1.out,hin.out,Ho1.out⟩
     ·
      rw [hb] at hbz
      have hbz2 : (bits .and .u64 ((z : Int) / 2 ^ min j 64) 1 == 0) = false:=by rw [Nat.min_eq_left (by omega)];exact hbz
      have hbz1 : (bits .and .u64 ((z : Int) / 2 ^ j) 1 == 0) = false:=hbz
      have jV : (j : Int) < (V : Int):=by omega
      have hpw:=zmR (k:=j) (by omega)
      have hli:=Ik.out.low
      have hcap : j * (4 + yD 4) ≤ 7 * (4 + yD 4):=Nat.mul_le_mul_right _ (by omega)
      have hct:=Tk.out.low;have hcl:=Tk.out.len;have hle:=Ik.out.ext.len
      have hcm : yD ((V : Int) - 3).toNat ≤ yD 4:=zU (by omega)
      have q1:=zmh (V:=V) (L:=(V : Int) - 3) (by omega) (by omega) (by omega) ((2 : Int) ^ j) wr c1 Ht1.out Ik.out.zok (pow_div hjl) (by rw [zgD];have:=HcO4.out;omega)
      have Q1:=hid q1;have Hb:=hid hb;have Hli:=hid (show yh ((V : Int) - 3) c1 ≤ 148 by have:=HcO4.out;omega);have Hle:=hid (hle.trans hcl)
      have Hpw:=hid hpw
      clear q1 hb e1 hbz hli hcap hct hcl hle hcm hpw
      go_wp2_with fail
      simp only [Hpw.out]
      refine Q1.out.mono ?_
      rintro e w5 ⟨c2,x,rfl,ht2,ho2,k1⟩
      have k1c:=k1.cnt
      have q2:=ziS (V:=V) (L:=(V : Int) - 3) (by omega) (by omega) one x w5 c2 ht2 k1.zok (k1.ext.has Ik.out.has) k1.has (by
       rw [zgD,k1.ext.len,Hle.out]
       have h4 : Kd.or.cost ((V : Int) - 3 - min (zk c2 one) (zk c2 x)).toNat ≤ yD 4:=zU (by have:=zY k1.zok.ok one;have:=zY k1.zok.ok x;omega)
       have:=HcO4.out;have:=Hli.out;omega)
      have Q2:=hid q2;have K1:=hid k1;have Ho2:=hid ho2
      clear q2 k1 ho2 ht2 k1c Q1
      go_wp2_with fail
      refine Q2.out.mono ?_
      rintro e w6 ⟨c3,y,rfl,ht3,ho3,k2⟩
      have Hin:=hid (zqP hV hjl Ik.out Hb.out K1.out k2);have Ht3:=hid ht3;have Ho3:=hid ho3
      clear k2 ht3 ho3 Q2
      go_wp2_with fail
      go_roundg (V - (j + 1))
      case measure => omega
      case rel => exact ⟨j + 1,y,c3,by omega,rfl,rfl,by go_num,Ht3.out,Hin.out,(Ho1.out.trans Ho2.out).trans Ho3.out⟩
    ·
     obtain rfl : V = j:=by omega
     have hli:=Ik.out.low
     have hcap : V * (4 + yD 4) ≤ 7 * (4 + yD 4):=Nat.mul_le_mul_right _ hV
     have hct:=Tk.out.low;have hcl:=Tk.out.len;have hle:=Ik.out.ext.len
     have hcm : yD ((V : Int) - 3).toNat ≤ yD 4:=zU (by omega)
     have hl148 : yh ((V : Int) - 3) c1 ≤ 148:=by have:=HcO4.out;omega
     have hlen : c1.length = 4000:=hle.trans hcl
     have hout:=Ik.out.ext.has Tk.out.has
     have hcj : Kd.join.cost ((V : Int) - 3 - min (zk c1 out) (zk c1 one)).toNat ≤ 190:=by
      have h4 : Kd.join.cost ((V : Int) - 3 - min (zk c1 out) (zk c1 one)).toNat ≤ Kd.join.cost 4:=Kd.join.zeL (by have:=zY Ik.out.zok.ok out;have:=zY Ik.out.zok.ok one;omega)
      have h5 : Kd.join.cost 4 = 190:=rfl
      omega
     have q1:=znu (V:=V) (L:=(V : Int) - 3) (by omega) (by omega) out one wr c1 Ht1.out Ik.out.zok hout Ik.out.has (by rw [zgD];omega)
     have Q1:=hid q1;have H148:=hid hl148;have Hlen:=hid hlen;have Hcj:=hid hcj
     clear q1 hli hcap hct hcl hle hcm hl148 hlen hout hcj
     go_wp2_with fail
     refine Q1.out.mono ?_
     rintro e w5 ⟨c2,x,rfl,ht2,ho2,k1⟩
     have k1c:=k1.cnt
     have hcl2 : jU ((V : Int) - 3 - zk c2 x).toNat ≤ 40:=by
      have h4 : jU ((V : Int) - 3 - zk c2 x).toNat ≤ jU 4:=zbS (by have:=zY k1.zok.ok x;omega)
      have h5 : jU 4 = 40:=rfl
      omega
     have q2:=zn9 (V:=V) (L:=(V : Int) - 3) (by omega) (by omega) x w5 c2 ht2 k1.zok k1.has (by rw [zgD,k1.ext.len,Hlen.out];have:=H148.out;have:=Hcj.out;omega)
     have Q2:=hid q2;have K1:=hid k1;have Ho2:=hid ho2
     clear q2 k1 ho2 ht2 k1c hcl2 Q1
     go_wp2_with fail
     refine Q2.out.mono ?_
     rintro e w6 ⟨c3,y,rfl,ht3,ho3,k2⟩
     have t0:=ht3.s0
     have lps:=ht3.lps
     have hb6 : Below w6.heap.size w6 (w6.alloc (.cells #[.int .i64 y] 3)):=zba
     have ht4:=ht3.below hb6
     have hint : zB (w6.alloc (.cells #[.int .i64 y] 3)) (.slice (some ⟨w6.heap.size,0,none⟩) 1 1) [y]:=zg0 (n:=1) (c:=1) [y] (za rfl) rfl rfl (znr _) (by decide) (by simp)
     have q3:=zin _ [y] _ t.b c3 ht4.ar k2.zok.ok hint (by simp) (by simpa using ht4.le k2.has)
     obtain ⟨nq,hnq⟩ : ∃ z : Int,z = (cnt c3 : Int) - (qU c3 [y]).length:=⟨_,rfl⟩
     rw [← hnq] at q3
     have Hnx:=hid (zp4 hV Tk.out Ik.out K1.out k2)
     have Q3:=hid q3;have Ht4:=hid ht4;have Ho3:=hid ho3
     clear q3 ht4 ht3 ho3 k2 hb6 hint hnq Q2
     go_wp2_with fail
     refine Q3.out.mono ?_
     rintro e w7 ⟨rfl,ha7,ho7⟩
     have Ht7:=hid (Ht4.out.arena ho7 ha7);have Ho7:=hid ho7
     clear ha7 ho7 t0 Q3
     go_wp2_with fail
     go_roundg (ys.length - (k + 1))
     case measure => omega
     case rel => exact ⟨k + 1,y,_,by omega,rfl,rfl,by go_num,Ht7.out,by rw [Htk1.out];exact Hnx.out,(((Hon.out.trans (Ho1.out.trans Ho2.out)).trans Ho3.out).alloc _).trans Ho7.out⟩
  ·
   obtain rfl : k = ys.length:=by omega
   rw [List.take_length] at tk
   have hso:=Hs2.out.only hon (fun e => by have:=Htm.out _ e;have:=Hs2.out.lps;have:=Hs.out.lps;have:=Hb1.out.size;omega) (fun j hj e => by have:=Htm.out _ e;have:=Hs.out.lt hj;have:=Hb1.out.size;omega)
   have hm0:=zbb wo (Value.int .i64)
   have hbm : Below wo.heap.size wo (wo.alloc (.map #[] 0)):=zba
   have hoff : zpJ s t wo.heap.size:=⟨fun hm => by have:=hso.lt hm;omega,by have:=hso.lps;omega,fun hm => by
    rcases hm with hm | hm
    · have:=Hs.out.lt hm;have:=Htp.out;have:=Hb1.out.size;omega
    · have:=ht.lps;omega,fun j hj hm => by
    rcases hm with hm | hm
    · have:=Hs.out.lt hm;have:=Htm.out j hj;have:=Hb1.out.size;omega
    · have:=ht.lt hj;omega⟩
   have hbw : Below w.heap.size w wo:=Hb1.out.trans (hbo.mono Hb1.out.size)
   have Hoff:=hid hoff;have Hso:=hid hso;have Ht:=hid ht;have Tk:=hid tk;have Hm0:=hid hm0;have Hbm:=hid hbm;have Hbw:=hid hbw
   clear hoff hso ht tk hm0 hbm hbw hon hbo
   go_wp2_with (first
    | (show wpList _ _ _ (Oper.mk none (.insert _ _ (.const (.int .i64 0)) _) _ _ _ _ :: _) _ _;refine zbx rfl (.tmp 105) (.const (.int .i64 0)) (.const (.int .i64 0)) 245 rfl (kt:=3) (et:=3) (enc:=Value.int .i64) (zbC Tryz.underlying3) Tryz.underlying245 (b:=wo.heap.size) rfl (l:=[]) Hm0.out (k:=0) rfl (.int .i64 0) rfl ?_;intro ob0 hob0;have hon0 : Only (· = wo.heap.size) wo (zy (wo.alloc (.map #[] 0)) wo.heap.size ob0):=(Only.of_below Hbm.out rfl).trans ⟨rfl,rfl,rfl,by simp [zy],fun k _ hk => yC ob0 hk⟩;have Hob0:=hid hob0;have Hon0:=hid hon0;clear hob0 hon0;generalize zy (wo.alloc (.map #[] 0)) wo.heap.size ob0 = wa at Hob0 Hon0 ⊢)
    | (show wpList _ _ _ (Oper.mk none (.insert _ _ (.const (.int .i64 1)) _) _ _ _ _ :: _) _ _;refine zbx rfl (.tmp 105) (.const (.int .i64 1)) (.const (.int .i64 1)) 245 rfl (kt:=3) (et:=3) (enc:=Value.int .i64) (zbC Tryz.underlying3) Tryz.underlying245 (b:=wo.heap.size) rfl (l:=zN [] (0 : Int) (.int .i64 0)) Hob0.out (k:=1) rfl (.int .i64 1) rfl ?_;intro ob1 hob1;have hon1 : Only (· = wo.heap.size) wo (zy wa wo.heap.size ob1):=Hon0.out.trans ⟨rfl,rfl,rfl,by simp [zy],fun k _ hk => yC ob1 hk⟩;have Hob1:=hid hob1;have Hon1:=hid hon1;clear hob1 hon1 Hob0 Hon0;generalize zy wa wo.heap.size ob1 = wb at Hob1 Hon1 ⊢))
   have hsb:=Hso.out.only Hon1.out (fun e => by have e2 : s.ps = wo.heap.size:=e;have:=Hso.out.lps;omega) (fun j hj e => by have e2 : j = wo.heap.size:=e;have:=Hso.out.lt hj;omega)
   have htb:=Ht.out.only Hon1.out (fun e => by have e2 : t.ps = wo.heap.size:=e;have:=Ht.out.lps;omega) (fun j hj e => by have e2 : j = wo.heap.size:=e;have:=Ht.out.lt hj;omega)
   have hco : yD ((V : Int) - 3 - zk ct out).toNat ≤ yD ((V : Int) - 3).toNat:=zU (by have:=zY Tk.out.zok.ok out;omega)
   have q:=zms (V:=V) (L:=(V : Int) - 3) (by omega) (by omega) wo.heap.size Hoff.out Tk.out.zok 25 out wb c hsb htb (zlZ Hob1.out) Hz.out Tk.out.has (by have:=zY Tk.out.zok.ok out;omega) (by have:=Hr.out;omega)
   refine q.mono ?_
   rintro e w9 ⟨c9,x9,rfl,hs9,hd9,ho9,k9⟩
   have Hs9:=hid hs9;have Ho9:=hid ho9;have K9:=hid k9;have Hco:=hid hco
   clear hs9 hd9 ho9 k9 q hsb htb hco
   go_wp2_with fail
   go_ret2
   refine ⟨c9,x9,rfl,Hs9.out,?_,K9.out.zok,K9.out.ext,K9.out.good.has,fun st => ?_,?_⟩
   ·
    have h1 : Only s.b.mem w wo:=Only.of_below Hbw.out rfl
    refine h1.trans (((Hon1.out.mono (S':=yR s wo.heap.size) (fun _ hk => .inr hk)).trans Ho9.out).cut2 (fun k hk hm => ?_))
    rcases hm with hm | hm
    · exact hm
    · omega
   ·
    rw [K9.out.good.z,Tk.out.z]
    exact jy (zmH HF.out Hma.out) st
   · have h1:=K9.out.cnt;have h2:=Hco.out;omega
