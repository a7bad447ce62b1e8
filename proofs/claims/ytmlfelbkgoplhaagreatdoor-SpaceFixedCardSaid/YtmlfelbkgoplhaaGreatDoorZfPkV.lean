import Derived.Test.YtmlfelbkgoplhaaGreatDoorZfPkN
import Derived.Test.YtmlfelbkgoplhaaGreatDoorZfPkK
import Derived.Deep.RegionHeld3
import Derived.Deep.CutBlock
import Derived.Laws.Bits64b
import Derived.Deep.QuietTactic
import Derived.BigQuiet
import Derived.BigRegion
import Derived.Laws.BytesArg
set_option linter.unusedVariables false
set_option linter.unusedSimpArgs false
namespace Go.Proofs.YtmlfelbkgoplhaaGreatDoor
open Go.RowKit
def zb1 (w : World) (md : Nat) (V : Int) (c : Cells) : Prop:=∃ mq : List (Int × Value),MapOf w md (Value.int .i64) mq ∧ ∀ k v,assoc mq k = some v → zY w v (q9 V c k)
theorem zb1.lt {w : World} {md : Nat} {V : Int} {c : Cells} (h : zb1 w md V c) : md < w.heap.size:=by obtain ⟨mq,h1,_⟩:=h;exact h1.lt
theorem zb1.below {w w' : World} {md : Nat} {V : Int} {c : Cells} (h : zb1 w md V c) (hb : Below w.heap.size w w') : zb1 w' md V c:=by
 obtain ⟨mq,h1,h2⟩:=h;exact ⟨mq,h1.qc (hb.block _ h1.lt),fun k v e => (h2 k v e).below hb⟩
theorem zY.zoe {w w' : World} {v : Value} {n md : Nat} {V : Int} {c : Cells} (h : zY w v n) (hm : zb1 w md V c) (ho : Only (· = md) w w') : zY w' v n:=by
 obtain ⟨mq,h1,_⟩:=hm;exact h.zdJ h1 ho
theorem jU.zoe {wr w2 : World} {B : Nat} {a : Option Addr} {c n md : Nat} {V : Int} {cs : Cells} (h : jU wr B a c n) (hm : zb1 wr md V cs) (ho : Only (· = md) wr w2) : jU w2 B a c n:=by
 refine ⟨(ho.block _ (zlb h.blk) (fun e => ?_)).trans h.blk,h.nat.zoe hm ho⟩
 obtain ⟨mq,⟨es,cl,hb,_⟩,_⟩:=hm
 have:=h.blk
 rw [e,hb] at this;cases this
structure CSt (w wr : World) (s : Sb) (V : Int) (st : Sp) (md : Nat) (n : Nd) (nb : Nat) : Prop where
 sp : IsSpace wr s V st
 done : zb1 wr md V st.c
 only : Only (· = md) w wr
 off : md < w.heap.size ∧ ¬ s.mem md ∧ s.ps ≠ md
 old : s.ps < w.heap.size ∧ ∀ k,s.mem k → k < w.heap.size
 nb1 : w.heap.size < nb ∧ nb < wr.heap.size
 b0 : wr.cell? ⟨nb,0,none⟩ = some (.int .i64 n.1)
 b1 : wr.cell? ⟨nb,1,none⟩ = some (.int .i64 n.2.1)
 b2 : wr.cell? ⟨nb,2,none⟩ = some (.int .i64 n.2.2)
 res : wr.heap[w.heap.size]? = some (.cells #[.slice none 0 0] 52 (0,0))
section
variable {w wr w2 : World} {s : Sb} {V : Int} {st : Sp} {md : Nat} {n : Nd} {nb : Nat}
theorem CSt.grow (h : CSt w wr s V st md n nb) (hb : Below wr.heap.size wr w2) : CSt w w2 s V st md n nb :=
 ⟨h.sp.below hb,h.done.below hb,h.only.trans (Only.of_below hb rfl),h.off,h.old,⟨h.nb1.1,Nat.lt_of_lt_of_le h.nb1.2 hb.size⟩,(hb.cell h.nb1.2).trans h.b0,(hb.cell h.nb1.2).trans h.b1,(hb.cell h.nb1.2).trans h.b2,(hb.block _ (zlb h.res)).trans h.res⟩
theorem CSt.step (h : CSt w wr s V st md n nb) (ho : Only (· = md) wr w2) (hd : zb1 w2 md V st.c) : CSt w w2 s V st md n nb:=by
 have hn : nb ≠ md:=by have:=h.off.1;have:=h.nb1.1;omega
 have hr : w.heap.size ≠ md:=by have:=h.off.1;omega
 exact ⟨h.sp.only ho h.off.2.2 (fun k hk e => h.off.2.1 (e ▸ hk)),hd,h.only.trans ho,h.off,h.old,⟨h.nb1.1,Nat.lt_of_lt_of_le h.nb1.2 ho.size⟩,(ho.cell h.nb1.2 hn).trans h.b0,(ho.cell h.nb1.2 hn).trans h.b1,(ho.cell h.nb1.2 hn).trans h.b2,(ho.block _ (zlb h.res) hr).trans h.res⟩
structure zll (w' : World) (s : Sb) (V : Int) (n : Nd) (nb : Nat) : Prop where
 c0 : w'.cell? ⟨s.ps,0,none⟩ = some (.pointer (some ⟨s.b.p,0,none⟩))
 c1 : w'.cell? ⟨s.ps,1,none⟩ = some (.int .i64 V)
 b0 : w'.cell? ⟨nb,0,none⟩ = some (.int .i64 n.1)
 b1 : w'.cell? ⟨nb,1,none⟩ = some (.int .i64 n.2.1)
 b2 : w'.cell? ⟨nb,2,none⟩ = some (.int .i64 n.2.2)
theorem zll.alloc {w' : World} (h : zll w' s V n nb) (o : Obj) : zll (w'.alloc o) s V n nb:=by
 have k : ∀ {p : Addr} {v : Value},w'.cell? p = some v → (w'.alloc o).cell? p = some v:=fun {p v} e => (World.cell?_alloc_some _ _ _ (by rw [e];rfl)).trans e
 exact ⟨k h.c0,k h.c1,k h.b0,k h.b1,k h.b2⟩
theorem CSt.held (h : CSt w wr s V st md n nb) : zll wr s V n nb:=⟨h.sp.s0,h.sp.s1,h.b0,h.b1,h.b2⟩
end
structure CW (w wr : World) (s : Sb) (V : Int) (st : Sp) (md : Nat) (n : Nd) (nb D B : Nat) : Prop where
 c : CSt w wr s V st md n nb
 zb : wr.heap[B]? = some (.cells #[.slice none 0 0] 52 (0,0))
 zd : wr.heap[D]? = some (.cells #[.slice none 0 0] 52 (0,0))
 lt : nb < D ∧ D ≤ B
section
variable {w wr w2 : World} {s : Sb} {V : Int} {st : Sp} {md : Nat} {n : Nd} {nb D B : Nat}
theorem CW.grow (h : CW w wr s V st md n nb D B) (hb : Below wr.heap.size wr w2) : CW w w2 s V st md n nb D B:=⟨h.c.grow hb,(hb.block _ (zlb h.zb)).trans h.zb,(hb.block _ (zlb h.zd)).trans h.zd,h.lt⟩
theorem CW.step (h : CW w wr s V st md n nb D B) (ho : Only (· = md) wr w2) (hd : zb1 w2 md V st.c) : CW w w2 s V st md n nb D B:=by
 have l0:=h.c.off.1;have l1:=h.c.nb1.1;have l2:=h.lt
 exact ⟨h.c.step ho hd,(ho.block _ (zlb h.zb) (fun e => by have e' : B = md:=e;omega)).trans h.zb,(ho.block _ (zlb h.zd) (fun e => by have e' : D = md:=e;omega)).trans h.zd,h.lt⟩
theorem CW.alloc (h : CW w wr s V st md n nb D B) : CW w (wr.alloc (.cells #[.slice none 0 0] 52)) s V st md n nb D wr.heap.size :=
 ⟨h.c.grow (zba),za rfl,zh h.zd,h.lt.1,Nat.le_of_lt (zlb h.zd)⟩
theorem CW.gap (h : CW w wr s V st md n nb D B) : D < wr.heap.size:=zlb h.zd
theorem CW.back (h : CW w wr s V st md n nb D B) : CW w wr s V st md n nb D D:=⟨h.c,h.zd,h.zd,h.lt.1,znr _⟩
theorem zb1.qC {wr : World} {md : Nat} {V : Int} {c : Cells} {R : Nat} (h : zb1 wr md V c) (hR : wr.heap[R]? = some (.cells #[.slice none 0 0] 52 (0,0))) (u : Value) : zb1 (wr.setCell ⟨R,0,none⟩ u) md V c:=by
 obtain ⟨mq,h1,h2⟩:=h
 have hn : md ≠ R:=fun e => by
  subst e
  obtain ⟨es,cl,hb,_⟩:=h1
  rw [hb] at hR;cases hR
 exact ⟨mq,h1.qc (zhc _ _ _ _ hn),fun k v e => (h2 k v e).qC hR u⟩
theorem CW.zfp (h : CW w wr s V st md n nb D B) (u : Value) : CSt w (wr.setCell ⟨B,0,none⟩ u) s V st md n nb:=by
 have l1:=h.c.nb1;have l2:=h.lt;have l3:=h.c.old
 have hb : ∀ k,k ≠ B → (wr.setCell ⟨B,0,none⟩ u).heap[k]? = wr.heap[k]?:=fun k hk => zhc _ _ _ _ hk
 have ho : Only (· = B) wr (wr.setCell ⟨B,0,none⟩ u):=⟨rfl,rfl,rfl,by simp,fun k _ hk => hb k hk⟩
 have hc : ∀ j,(wr.setCell ⟨B,0,none⟩ u).cell? ⟨nb,j,none⟩ = wr.cell? ⟨nb,j,none⟩:=fun j => ho.cell l1.2 (fun e => by have e' : nb = B:=e;omega)
 refine ⟨h.c.sp.only ho (fun e => by have e' : s.ps = B:=e;omega) (fun k hk e => by have:=l3.2 k hk;have e' : k = B:=e;omega),h.c.done.qC h.zb u,?_,h.c.off,h.c.old,⟨l1.1,by simpa using l1.2⟩,(hc 0).trans h.c.b0,(hc 1).trans h.c.b1,(hc 2).trans h.c.b2,(hb _ (by omega)).trans h.c.res⟩
 exact ⟨h.c.only.os,h.c.only.tape,h.c.only.output,by simpa using h.c.only.size,fun k hk hn => (hb k (by omega)).trans (h.c.only.block k hk hn)⟩
theorem CW.set (h : CW w wr s V st md n nb D B) (hD : D < B) (u : Value) : CW w (wr.setCell ⟨B,0,none⟩ u) s V st md n nb D D :=
 have e:=(zhc wr ⟨B,0,none⟩ u D (by simp;omega)).trans h.zd
 ⟨h.zfp u,e,e,h.lt.1,znr _⟩
theorem CW.put (h : CW w wr s V st md n nb D B) {a : Option Addr} {c k : Nat} (hn : zY wr (.agg #[.slice a (zf k).length c]) k) : jU (wr.setCell ⟨B,0,none⟩ (.slice a (zf k).length c)) B a c k:=⟨one_setCell h.zb,hn.qC h.zb _⟩
theorem jU.put {b : Option Addr} {d j : Nat} {E : Nat} (h : jU wr E b d j) (hw : CW w wr s V st md n nb D B) (hne : E ≠ B) (u : Value) : jU (wr.setCell ⟨B,0,none⟩ u) E b d j:=⟨(zhc _ _ _ _ hne).trans h.blk,h.nat.qC hw.zb _⟩
theorem CW.more (h : CW w wr s V st md n nb D B) (o : Obj) : CW w (wr.alloc o) s V st md n nb D D:=(h.grow (zba)).back
end
theorem CSt.putC {w wr : World} {s : Sb} {V : Int} {st : Sp} {md : Nat} {n : Nd} {nb : Nat} (h : CSt w wr s V st md n nb) {mq : List (Int × Value)} (hm : MapOf wr md (Value.int .i64) mq) (hmv : ∀ k v,assoc mq k = some v → zY wr v (q9 V st.c k)) {k : Int} {v : Value} (hn : zY wr v (q9 V st.c k)) {o : Obj} (ho : MapOf (zF wr md o) md (Value.int .i64) (zW mq k v)) :
 CSt w (zF wr md o) s V st md n nb ∧ ∀ (E : Nat) (b : Option Addr) (d j : Nat),jU wr E b d j → jU (zF wr md o) E b d j:=by
 have hon : Only (· = md) wr (zF wr md o):=⟨rfl,rfl,rfl,by simp [zF],fun k _ hk => yZ o hk⟩
 have hd : zb1 (zF wr md o) md V st.c:=⟨_,ho,fun k' v' e => by
  rw [zcm] at e
  split at e
  · rename_i e2;subst e2;cases e;exact hn.zdJ hm hon
  · exact (hmv k' v' e).zdJ hm hon⟩
 exact ⟨h.step hon hd,fun E b d j hb => hb.zoe h.done hon⟩
theorem CSt.fin {w wr : World} {s : Sb} {V : Int} {st : Sp} {md : Nat} {n : Nd} {nb : Nat} (h : CSt w wr s V st md n nb) (u : Value) : zb1 (wr.setCell ⟨w.heap.size,0,none⟩ u) md V st.c ∧ Only (· = md) w (wr.setCell ⟨w.heap.size,0,none⟩ u) :=
 ⟨h.done.qC h.res u,h.only.os,h.only.tape,h.only.output,by simpa using h.only.size,fun k hk hn => (zhc _ _ _ _ (by simp;omega)).trans (h.only.block k hk hn)⟩
theorem zm4 (a b : Int) : min a b = if b < a then b else a:=by split <;> omega
theorem zgP {V : Nat} {st : Sp} {h u : Int} (hV : V ≤ 24) (co : COk V st.c) (hh : zG st.c h = true) (u0 : 0 ≤ u) (ht : u < zl st.c h) (huV : u < V) :
 ∃ T : Nat,T ≤ 24 ∧ (qd V st.c h - u - 1).toNat = T ∧ (zf (q9 V st.c h * 2 ^ T)).length ≤ 1000000 ∧
  IntKind.i64.wrap (IntKind.i64.wrap ((if (V : Int) < zl st.c h then (V : Int) else zl st.c h) - u) - 1) = (T : Int):=by
 have hb:=zmn hV co hh
 have h24:=(co.ok.xL h).2
 have e : (if (V : Int) < zl st.c h then (V : Int) else zl st.c h) = qd V st.c h:=by unfold qd;split <;> omega
 rw [e]
 refine ⟨(qd V st.c h - u - 1).toNat,?_,rfl,zkX (Nat.le_trans (Nat.mul_le_mul_left _ (Nat.pow_le_pow_right (by decide) ?_)) hb),?_⟩
 · unfold qd;omega
 · unfold qd;omega
 · rw [IntWalk.i64_in (qd V st.c h - u) (by unfold qd;omega),IntWalk.i64_in _ (by unfold qd;omega)];unfold qd;omega
set_option maxRecDepth 100000 in
set_option maxHeartbeats 16000000 in
theorem zho (V : Nat) (hV : V ≤ 24) (md : Nat) : ∀ (f : Nat) (h : Int) (w : World) (s : Sb) (st : Sp),IsSpace w s V st → zb1 w md V st.c → (¬ s.mem md ∧ s.ps ≠ md) → COk V st.c → zG st.c h = true → (24 - zl st.c h).toNat < f →
 Calls Tryz.prog 57 #[.pointer (some ⟨s.ps,0,none⟩),.int .i64 h,.map (some md)] w fun e w' => ∃ v,e = .returned v ∧ zY w' v (q9 V st.c h) ∧ zb1 w' md V st.c ∧ Only (· = md) w w'
 | 0,_,_,_,_,_,_,_,_,_,hf => absurd hf (Nat.not_lt_zero _)
 | f + 1,h,w,s,st,hs,hd,hoff,co,hh,hf => by
  have Hih:=hid (zho V hV md f)
  have hlen:=hs.ar.len
  have hR:=hs.ar.room.2
  have lh : h ≤ 9223372036854775807:=by have:=xB hh;omega
  have c0:=hs.s0
  have lmd:=hd.lt
  have lps:=hs.lps
  have hbr : Below w.heap.size w (w.alloc (.cells #[.slice none 0 0] 52)):=zba
  have hg:=zca h _ s.b st.c (hs.ar.below hbr) lh
  have Hs:=hid hs;have Hd:=hid hd;have Hoff:=hid hoff;have Hco:=hid co;have Hhh:=hid hh;have Hf:=hid hf
  clear hs hd hoff co hh hf hlen hR hbr
  cases g : getM st.c h with
  | none =>
   rw [g] at hg
   have hcx:=zlv (V:=V) g
   have hn : h = ((h.toNat : Nat) : Int):=by have:=ziR Hhh.out;omega
   rw [hcx]
   have Hg:=hid hg;have Hn:=hid hn;clear hg g hcx hn
   go_enter Tryz.func57,Tryz.ntmps57
   go_wp2_with fail
   refine Hg.out.mono ?_
   rintro e w1 ⟨rfl,rfl⟩
   simp only [zav,qy,Option.getD_none,Option.isSome_none]
   go_wp2_with fail
   have hb : Below w.heap.size w (((w.alloc (.cells #[.slice none 0 0] 52)).alloc (.cells #[.int .i64 0,.int .i64 0,.int .i64 0] 117)).alloc (.cells #[.int .i64 0,.int .i64 0,.int .i64 0] 117)):=((zba).alloc (by simp) _).alloc (by simp only [zy];omega) _
   have hq:=zrd h.toNat (((w.alloc (.cells #[.slice none 0 0] 52)).alloc (.cells #[.int .i64 0,.int .i64 0,.int .i64 0] 117)).alloc (.cells #[.int .i64 0,.int .i64 0,.int .i64 0] 117)) (by omega)
   rw [← Hn.out] at hq
   refine hq.mono ?_
   rintro e w2 ⟨v,rfl,hv,hb2⟩
   obtain ⟨a8,c8,rfl⟩:=hv.shape
   have hr : Res w w2 52 (.slice none 0 0):=znT (zh (zh (za rfl))) hb hb2
   have c2:=hr.cell;have f2:=hr.free;have l2:=hr.lt
   have Hv:=hid hv;have Hr:=hid hr
   clear hv hb2 hb hq hr
   go_wp2_with fail
   exact bodyPost_ret (v:=.agg #[.slice a8 (zf h.toNat).length c8]) (by simp [results,Tryz.results57,go_sem,c2]) rfl ⟨_,rfl,Hv.out.qC Hr.out.blk _,Hd.out.below (Hr.out.set _),Only.of_below (Hr.out.set _) rfl⟩
  | some n =>
   obtain ⟨u,lo,hi⟩:=n
   obtain ⟨b1,b2,k1,k2,k3,k4⟩:=Hco.out.ok.kids g
   rw [g] at hg
   have hcx:=zju (V:=V) Hco.out.ok g
   have hvV : u < V:=by obtain ⟨k,rfl,h3,_⟩:=getM_some g;exact Hco.out.vlt k _ h3
   have htop:=yt g
   dsimp only at b1 b2 k1 k2 k3 k4 hcx htop
   have hb3 : Below w.heap.size w (((w.alloc (.cells #[.slice none 0 0] 52)).alloc (.cells #[.int .i64 u,.int .i64 lo,.int .i64 hi] 117)).alloc (.cells #[.int .i64 u,.int .i64 lo,.int .i64 hi] 117)):=((zba).alloc (by simp) _).alloc (by simp only [zy];omega) _
   have hts : CSt w (((w.alloc (.cells #[.slice none 0 0] 52)).alloc (.cells #[.int .i64 u,.int .i64 lo,.int .i64 hi] 117)).alloc (.cells #[.int .i64 u,.int .i64 lo,.int .i64 hi] 117)) s V st md (u,lo,hi) (w.heap.size + 1 + 1) :=
    ⟨Hs.out.below hb3,Hd.out.below hb3,Only.of_below hb3 rfl,⟨lmd,Hoff.out⟩,⟨lps,fun k hk => Hs.out.lt hk⟩,⟨by omega,by simp⟩,by rw [cell_of_row _ _ _ _ _ _ (za (by simp))];rfl,by rw [cell_of_row _ _ _ _ _ _ (za (by simp))];rfl,by rw [cell_of_row _ _ _ _ _ _ (za (by simp))];rfl,zh (zh (za rfl))⟩
   have Hg:=hid hg;have Hcx:=hid hcx;have Hts:=hid hts;have Hk1:=hid k1;have Hk2:=hid k2;have Hfuel:=hid (show (24 - zl st.c lo).toNat < f ∧ (24 - zl st.c hi).toNat < f by have:=Hf.out;omega)
   clear hg hcx hts hb3 g htop k1 k2
   go_enter Tryz.func57,Tryz.ntmps57
   go_wp2_with fail
   refine Hg.out.mono ?_
   rintro e w1 ⟨rfl,rfl⟩
   simp only [zav,qy,Option.getD_some,Option.isSome_some]
   obtain ⟨mq,hmq,hmv⟩:=Hd.out
   have Hmq:=hid (hmq.qc ((zoz w (.cells #[.slice none 0 0] 52) (.cells #[.int .i64 u,.int .i64 lo,.int .i64 hi] 117) (.cells #[.int .i64 u,.int .i64 lo,.int .i64 hi] 117)).block _ lmd));have Hmv:=hid hmv;clear hmq hmv
   cases ha : assoc mq h with
   | some v =>
    have hv:=Hmv.out h v ha
    obtain ⟨a8,c8,rfl⟩:=hv.shape
    have Ha:=hid ha;have Hv:=hid hv;clear ha hv
    go_wp2_with (at_lookup;refine xg rfl (.tmp 28) (.tmp 29) 125 true rfl (kt:=3) (et:=52) (enc:=Value.int .i64) (kg Tryz.underlying3) Tryz.underlying125 (zkK _) (b:=md) rfl (l:=mq) Hmq.out (k:=h) rfl ?_;rw [Ha.out];simp only [Option.getD_some,Option.isSome_some,if_true])
    exact bodyPost_ret (v:=.agg #[.slice a8 (zf (q9 V st.c h)).length c8]) (by simp [results,Tryz.results57,go_sem]) rfl ⟨_,rfl,Hv.out.below (zj4 _ _ _ _ _),Hd.out.below (zj4 _ _ _ _ _),Only.of_below (zj4 _ _ _ _ _) rfl⟩
   | none =>
    have Ha:=hid ha;clear ha
    go_wp2_with (at_lookup;refine xg rfl (.tmp 28) (.tmp 29) 125 true rfl (kt:=3) (et:=52) (enc:=Value.int .i64) (kg Tryz.underlying3) Tryz.underlying125 (zkK _) (b:=md) rfl (l:=mq) Hmq.out (k:=h) rfl ?_;rw [Ha.out];simp only [Option.getD_none,Option.isSome_none,if_true])
    have ti:=Hts.out.grow (w2:=(((w.alloc (.cells #[.slice none 0 0] 52)).alloc (.cells #[.int .i64 u,.int .i64 lo,.int .i64 hi] 117)).alloc (.cells #[.int .i64 u,.int .i64 lo,.int .i64 hi] 117)).alloc (.cells #[.slice none 0 0] 52)) (zba)
    have hz4 : ((((w.alloc (.cells #[.slice none 0 0] 52)).alloc (.cells #[.int .i64 u,.int .i64 lo,.int .i64 hi] 117)).alloc (.cells #[.int .i64 u,.int .i64 lo,.int .i64 hi] 117)).alloc (.cells #[.slice none 0 0] 52)).heap[w.heap.size + 1 + 1 + 1]? = some (.cells #[.slice none 0 0] 52 (0,0)):=za (by simp)
    clear Hts Hmq Hmv Ha
    generalize (((w.alloc (.cells #[.slice none 0 0] 52)).alloc (.cells #[.int .i64 u,.int .i64 lo,.int .i64 hi] 117)).alloc (.cells #[.int .i64 u,.int .i64 lo,.int .i64 hi] 117)).alloc (.cells #[.slice none 0 0] 52) = w4 at ti hz4 ⊢
    obtain ⟨nb,enb⟩ : ∃ b,b = w.heap.size + 1 + 1:=⟨_,rfl⟩
    rw [← enb] at ti ⊢
    obtain ⟨T1,hT1,eT1,hS1,hE1⟩:=zgP (h:=lo) hV Hco.out Hk1.out b1 k3 hvV
    obtain ⟨T2,hT2,eT2,hS2,hE2⟩:=zgP (h:=hi) hV Hco.out Hk2.out b1 k4 hvV
    have hlen:=Hs.out.ar.len;have hRR:=Hs.out.ar.room.2
    have hTop1:=fun w' (ha : zK w' s.b st.c) => jv lo w' s.b st.c ha (by have:=xB Hk1.out;omega)
    have hTop2:=fun w' (ha : zK w' s.b st.c) => jv hi w' s.b st.c ha (by have:=xB Hk2.out;omega)
    clear hlen hRR
    have Hcx2:=Hcx.out
    rw [eT1,eT2] at Hcx2
    clear Hcx eT1 eT2
    have Hcx:=hid Hcx2;clear Hcx2
    have g1:=(Hco.out.ok.xL lo).2;have g2:=(Hco.out.ok.xL hi).2
    generalize zl st.c lo = t1 at k3 hE1 hTop1 g1
    generalize zl st.c hi = t2 at k4 hE2 hTop2 g2
    have HS1:=hid hS1;have HS2:=hid hS2;have HT1:=hid hTop1;have HT2:=hid hTop2;have HE1:=hid hE1;have HE2:=hid hE2
    clear hS1 hS2 hTop1 hTop2 hE1 hE2
    have hcw0 : CW w w4 s V st md (u,lo,hi) nb (w.heap.size + 1 + 1 + 1) (w.heap.size + 1 + 1 + 1):=⟨ti,hz4,hz4,by omega,znr _⟩
    clear enb ti hz4
    obtain ⟨D,eD⟩ : ∃ z,z = w.heap.size + 1 + 1 + 1:=⟨_,rfl⟩
    rw [← eD] at hcw0
    clear eD
    have Hcw0:=hid hcw0;clear hcw0
    go_upto_region 7 with fail
    go_cut [11] from 35 to 56 (fun p wx => ∃ (BL : Nat) (aL : Option Addr) (cL : Nat),p = .pointer (some ⟨BL,0,none⟩) ∧ CW w wx s V st md (u,lo,hi) nb D D ∧ jU wx BL aL cL (q9 V st.c lo * 2 ^ T1))
    case first =>
     have hw0:=Hcw0.out.grow (w2:=w4.drew) ((Below.refl _ _).drew)
     have HIA:=hid (Hcw0.out.alloc.grow (w2:=(w4.alloc (.cells #[.slice none 0 0] 52)).drew) ((Below.refl _ _).drew))
     have h90:=hw0.c.held
     have h91:=zco hw0.zb;have h92:=zfo hw0.zb
     have HI:=hid hw0;have HD:=HI;clear hw0
     go_region_held3 (fun w' => w'.cell? ⟨s.ps,0,none⟩ = some (.pointer (some ⟨s.b.p,0,none⟩)) ∧ w'.cell? ⟨s.ps,1,none⟩ = some (.int .i64 V) ∧ w'.cell? ⟨nb,0,none⟩ = some (.int .i64 u) ∧ w'.cell? ⟨nb,1,none⟩ = some (.int .i64 lo) ∧ w'.cell? ⟨nb,2,none⟩ = some (.int .i64 hi))
      (first | exact ⟨h90.c0,h90.c1,h90.b0,h90.b1,h90.b2⟩ | exact ⟨(h90.alloc _).c0,(h90.alloc _).c1,(h90.alloc _).b0,(h90.alloc _).b1,(h90.alloc _).b2⟩ | exact ⟨(HI.out.zfp _).held.c0,(HI.out.zfp _).held.c1,(HI.out.zfp _).held.b0,(HI.out.zfp _).held.b1,(HI.out.zfp _).held.b2⟩ | go_keep)
      (first
       | (go_at_call 57;first | ((with_reducible refine (Hih.out lo _ s st HI.out.c.sp HI.out.c.done Hoff.out Hco.out Hk1.out Hfuel.out.1).mono ?_);rintro e w9 ⟨v9,rfl,hn9,hd9,ho9⟩;obtain ⟨a9,c9,rfl⟩:=hn9.shape;have hi9:=HI.out.step ho9 hd9;clear hd9 ho9;clear h90 h91 h92 HI;have HI:=hid hi9;have HN:=hid hn9;have h90:=hi9.c.held;have h91:=zco hi9.zb;have h92:=zfo hi9.zb;clear hn9 hi9) | (have hgap:=HI.out.gap;clear HD;have HD:=hid hgap;clear hgap;clear HI;have HI:=HIA;(with_reducible refine (Hih.out lo _ s st HI.out.c.sp HI.out.c.done Hoff.out Hco.out Hk1.out Hfuel.out.1).mono ?_);rintro e w9 ⟨v9,rfl,hn9,hd9,ho9⟩;obtain ⟨a9,c9,rfl⟩:=hn9.shape;have hi9:=HI.out.step ho9 hd9;clear hd9 ho9;clear h90 h91 h92 HI;have HI:=hid hi9;have HN:=hid hn9;have h90:=hi9.c.held;have h91:=zco hi9.zb;have h92:=zfo hi9.zb;clear hn9 hi9))
       | (go_at_call 59;first | ((with_reducible refine (HT1.out _ HI.out.c.sp.ar).mono ?_);rintro e w9 ⟨rfl,hb9⟩;have hi9:=HI.out.grow hb9;have hn9:=HN.out.below hb9;clear hb9;clear h90 h91 h92 HI HN;have HI:=hid hi9;have HN:=hid hn9;have h90:=hi9.c.held;have h91:=zco hi9.zb;have h92:=zfo hi9.zb;clear hn9 hi9) | (have hgap:=HI.out.gap;clear HD;have HD:=hid hgap;clear hgap;have hi9:=HI.out.alloc;clear HI;have HI:=hid hi9;clear hi9;have hn9:=HN.out.below (w':=World.alloc _ (.cells #[.slice none 0 0] 52)) (zba);clear HN;have HN:=hid hn9;clear hn9;(with_reducible refine (HT1.out _ HI.out.c.sp.ar).mono ?_);rintro e w9 ⟨rfl,hb9⟩;have hi9:=HI.out.grow hb9;have hn9:=HN.out.below hb9;clear hb9;clear h90 h91 h92 HI HN;have HI:=hid hi9;have HN:=hid hn9;have h90:=hi9.c.held;have h91:=zco hi9.zb;have h92:=zfo hi9.zb;clear hn9 hi9))
       | (go_at_call 58;(try rw [zm4 t1 (V : Int)]);rw [HE1.out];generalize (if (V : Int) < t1 then (V : Int) else t1) = m1;first | ((with_reducible refine (kW (q9 V st.c lo) T1 _ _ HN.out (by omega) HS1.out).mono ?_);rintro e w9 ⟨v9,rfl,hn9,hb9⟩;obtain ⟨a9,c9,rfl⟩:=hn9.shape;have hi9:=HI.out.grow hb9;clear hb9;clear h90 h91 h92 HI HN;have HI:=hid hi9;have HN:=hid hn9;have h90:=hi9.c.held;have h91:=zco hi9.zb;have h92:=zfo hi9.zb;clear hn9 hi9;dsimp only) | (have hgap:=HI.out.gap;clear HD;have HD:=hid hgap;clear hgap;have hi9:=HI.out.alloc;clear HI;have HI:=hid hi9;clear hi9;have hn9:=HN.out.below (w':=World.alloc _ (.cells #[.slice none 0 0] 52)) (zba);clear HN;have HN:=hid hn9;clear hn9;(with_reducible refine (kW (q9 V st.c lo) T1 _ _ HN.out (by omega) HS1.out).mono ?_);rintro e w9 ⟨v9,rfl,hn9,hb9⟩;obtain ⟨a9,c9,rfl⟩:=hn9.shape;have hi9:=HI.out.grow hb9;clear hb9;clear h90 h91 h92 HI HN;have HI:=hid hi9;have HN:=hid hn9;have h90:=hi9.c.held;have h91:=zco hi9.zb;have h92:=zfo hi9.zb;clear hn9 hi9;dsimp only)))
     all_goals (go_wp2_with fail;go_meet)
     all_goals first
      | exact ⟨_,_,_,rfl,HI.out.more _,jU.mk' HN.out⟩
      | exact ⟨_,_,_,rfl,HI.out.set HD.out _,HI.out.put HN.out⟩
    case rest =>
     clear Hcw0
     obtain ⟨BL,aL,cL,rfl,hcw,hnb⟩:=hcut
     have Hcw:=hid hcw;have Hnb:=hid hnb;clear hcw hnb
     obtain ⟨w5,rfl⟩ : ∃ x,x = wc:=⟨_,rfl⟩
     go_upto_region 8 with fail
     go_cut [12] from 57 to 78 (fun p wx => ∃ (BH : Nat) (aH : Option Addr) (cH : Nat),p = .pointer (some ⟨BH,0,none⟩) ∧ CW w wx s V st md (u,lo,hi) nb D D ∧ jU wx BL aL cL (q9 V st.c lo * 2 ^ T1) ∧ jU wx BH aH cH (q9 V st.c hi * 2 ^ T2))
     case first =>
      have hw0:=Hcw.out.grow (w2:=w5.drew) ((Below.refl _ _).drew)
      have HIA:=hid (Hcw.out.alloc.grow (w2:=(w5.alloc (.cells #[.slice none 0 0] 52)).drew) ((Below.refl _ _).drew))
      have HLA:=hid ((Hnb.out.more (.cells #[.slice none 0 0] 52)).below (w2:=(w5.alloc (.cells #[.slice none 0 0] 52)).drew) ((Below.refl _ _).drew))
      have HL:=hid (Hnb.out.below (w2:=w5.drew) ((Below.refl _ _).drew))
      have h90:=hw0.c.held
      have h91:=zco hw0.zb;have h92:=zfo hw0.zb
      have HI:=hid hw0;have HD:=HI;have HE:=HI;clear hw0
      go_region_held3 (fun w' => w'.cell? ⟨s.ps,0,none⟩ = some (.pointer (some ⟨s.b.p,0,none⟩)) ∧ w'.cell? ⟨s.ps,1,none⟩ = some (.int .i64 V) ∧ w'.cell? ⟨nb,0,none⟩ = some (.int .i64 u) ∧ w'.cell? ⟨nb,1,none⟩ = some (.int .i64 lo) ∧ w'.cell? ⟨nb,2,none⟩ = some (.int .i64 hi))
       (first | exact ⟨h90.c0,h90.c1,h90.b0,h90.b1,h90.b2⟩ | exact ⟨(h90.alloc _).c0,(h90.alloc _).c1,(h90.alloc _).b0,(h90.alloc _).b1,(h90.alloc _).b2⟩ | exact ⟨(HI.out.zfp _).held.c0,(HI.out.zfp _).held.c1,(HI.out.zfp _).held.b0,(HI.out.zfp _).held.b1,(HI.out.zfp _).held.b2⟩ | go_keep)
       (first
        | (go_at_call 57;first | ((with_reducible refine (Hih.out hi _ s st HI.out.c.sp HI.out.c.done Hoff.out Hco.out Hk2.out Hfuel.out.2).mono ?_);rintro e w9 ⟨v9,rfl,hn9,hd9,ho9⟩;obtain ⟨a9,c9,rfl⟩:=hn9.shape;have hl9:=HL.out.zoe HI.out.c.done ho9;clear HL;have HL:=hid hl9;clear hl9;have hi9:=HI.out.step ho9 hd9;clear hd9 ho9;clear h90 h91 h92 HI;have HI:=hid hi9;have HN:=hid hn9;have h90:=hi9.c.held;have h91:=zco hi9.zb;have h92:=zfo hi9.zb;clear hn9 hi9) | (have hgap:=Hcw.out.gap;clear HD;have HD:=hid hgap;clear hgap;have hgap:=Hnb.out.lt;clear HE;have HE:=hid hgap;clear hgap;clear HI;have HI:=HIA;clear HL;have HL:=HLA;(with_reducible refine (Hih.out hi _ s st HI.out.c.sp HI.out.c.done Hoff.out Hco.out Hk2.out Hfuel.out.2).mono ?_);rintro e w9 ⟨v9,rfl,hn9,hd9,ho9⟩;obtain ⟨a9,c9,rfl⟩:=hn9.shape;have hl9:=HL.out.zoe HI.out.c.done ho9;clear HL;have HL:=hid hl9;clear hl9;have hi9:=HI.out.step ho9 hd9;clear hd9 ho9;clear h90 h91 h92 HI;have HI:=hid hi9;have HN:=hid hn9;have h90:=hi9.c.held;have h91:=zco hi9.zb;have h92:=zfo hi9.zb;clear hn9 hi9))
        | (go_at_call 59;first | ((with_reducible refine (HT2.out _ HI.out.c.sp.ar).mono ?_);rintro e w9 ⟨rfl,hb9⟩;have hl9:=HL.out.below hb9;clear HL;have HL:=hid hl9;clear hl9;have hi9:=HI.out.grow hb9;have hn9:=HN.out.below hb9;clear hb9;clear h90 h91 h92 HI HN;have HI:=hid hi9;have HN:=hid hn9;have h90:=hi9.c.held;have h91:=zco hi9.zb;have h92:=zfo hi9.zb;clear hn9 hi9) | (have hgap:=HI.out.gap;clear HD;have HD:=hid hgap;clear hgap;have hgap:=HL.out.lt;clear HE;have HE:=hid hgap;clear hgap;have hi9:=HI.out.alloc;clear HI;have HI:=hid hi9;clear hi9;have hn9:=HN.out.below (w':=World.alloc _ (.cells #[.slice none 0 0] 52)) (zba);clear HN;have HN:=hid hn9;clear hn9;have hl9:=HL.out.more (.cells #[.slice none 0 0] 52);clear HL;have HL:=hid hl9;clear hl9;(with_reducible refine (HT2.out _ HI.out.c.sp.ar).mono ?_);rintro e w9 ⟨rfl,hb9⟩;have hl9:=HL.out.below hb9;clear HL;have HL:=hid hl9;clear hl9;have hi9:=HI.out.grow hb9;have hn9:=HN.out.below hb9;clear hb9;clear h90 h91 h92 HI HN;have HI:=hid hi9;have HN:=hid hn9;have h90:=hi9.c.held;have h91:=zco hi9.zb;have h92:=zfo hi9.zb;clear hn9 hi9))
        | (go_at_call 58;(try rw [zm4 t2 (V : Int)]);rw [HE2.out];generalize (if (V : Int) < t2 then (V : Int) else t2) = m2;first | ((with_reducible refine (kW (q9 V st.c hi) T2 _ _ HN.out (by omega) HS2.out).mono ?_);rintro e w9 ⟨v9,rfl,hn9,hb9⟩;obtain ⟨a9,c9,rfl⟩:=hn9.shape;have hl9:=HL.out.below hb9;clear HL;have HL:=hid hl9;clear hl9;have hi9:=HI.out.grow hb9;clear hb9;clear h90 h91 h92 HI HN;have HI:=hid hi9;have HN:=hid hn9;have h90:=hi9.c.held;have h91:=zco hi9.zb;have h92:=zfo hi9.zb;clear hn9 hi9;dsimp only) | (have hgap:=HI.out.gap;clear HD;have HD:=hid hgap;clear hgap;have hgap:=HL.out.lt;clear HE;have HE:=hid hgap;clear hgap;have hi9:=HI.out.alloc;clear HI;have HI:=hid hi9;clear hi9;have hn9:=HN.out.below (w':=World.alloc _ (.cells #[.slice none 0 0] 52)) (zba);clear HN;have HN:=hid hn9;clear hn9;have hl9:=HL.out.more (.cells #[.slice none 0 0] 52);clear HL;have HL:=hid hl9;clear hl9;(with_reducible refine (kW (q9 V st.c hi) T2 _ _ HN.out (by omega) HS2.out).mono ?_);rintro e w9 ⟨v9,rfl,hn9,hb9⟩;obtain ⟨a9,c9,rfl⟩:=hn9.shape;have hl9:=HL.out.below hb9;clear HL;have HL:=hid hl9;clear hl9;have hi9:=HI.out.grow hb9;clear hb9;clear h90 h91 h92 HI HN;have HI:=hid hi9;have HN:=hid hn9;have h90:=hi9.c.held;have h91:=zco hi9.zb;have h92:=zfo hi9.zb;clear hn9 hi9;dsimp only)))
      all_goals (go_wp2_with fail;go_meet)
      all_goals first
       | exact ⟨_,_,_,rfl,HI.out.more _,HL.out.more _,jU.mk' HN.out⟩
       | exact ⟨_,_,_,rfl,HI.out.set HD.out _,HL.out.put HI.out (Nat.ne_of_lt HE.out) _,HI.out.put HN.out⟩
     case rest =>
      clear Hcw Hnb
      obtain ⟨BH,aH,cH,rfl,hcw,hl,hh2⟩:=hcut
      have k1:=zco hl.blk;have k2:=zco hh2.blk
      have Hq:=hid (zpy (q9 V st.c lo * 2 ^ T1) (q9 V st.c hi * 2 ^ T2) _ _ _ hl.nat hh2.nat HS1.out HS2.out)
      rw [← Hcx.out] at Hq
      have Hcw:=hid hcw;clear hcw hl hh2
      go_wp2_with fail
      refine Hq.out.mono ?_
      rintro e w9 ⟨v9,rfl,hn9,hb9⟩
      obtain ⟨a9,c9,rfl⟩:=hn9.shape
      have hi9:=Hcw.out.grow hb9
      have hi10:=hi9.more (.cells #[.slice a9 (zf (q9 V st.c h)).length c9] 52)
      have hn10:=jU.mk' hn9
      obtain ⟨mq,hmq,hmv⟩:=hi10.c.done
      have Hi10:=hid hi10;have Hn10:=hid hn10;have Hmq:=hid hmq;have Hmv:=hid hmv
      clear Hcw Hq hn9 hb9 hi9 hi10 hn10 hmq hmv k1 k2
      go_wp2_with (at_mapUpdate;refine yu rfl (.tmp 82) (.tmp 83) (.tmp 84) 125 rfl (kt:=3) (et:=52) (enc:=Value.int .i64) (kg Tryz.underlying3) Tryz.underlying125 (b:=md) rfl (l:=mq) Hmq.out (k:=h) rfl (.agg #[.slice a9 (zf (q9 V st.c h)).length c9]) rfl ?_;intro ob hob;have hi11:=CSt.putC Hi10.out.c Hmq.out Hmv.out Hn10.out.nat hob;have hn11:=hi11.2 _ _ _ _ Hn10.out;have k3:=zco hn11.blk;have k4:=zco hi11.1.res;have k5:=zfo hi11.1.res;have k6:=zlb hi11.1.res;have Hi11:=hid hi11.1;have Hn11:=hid hn11;clear hob hi11 hn11 Hi10 Hn10 Hmq Hmv;generalize zF _ md ob = w11 at Hi11 Hn11 k3 k4 k5 k6 ⊢)
      exact bodyPost_ret (v:=.agg #[.slice a9 (zf (q9 V st.c h)).length c9]) (by simp [results,Tryz.results57,go_sem,k4]) rfl ⟨_,rfl,Hn11.out.nat.qC Hi11.out.res _,Hi11.out.fin _⟩
structure KSt (w wr : World) (s : Sb) (V : Int) (st : Sp) (bx : Nat) (sl : Value) : Prop where
 sp : IsSpace wr s V st
 below : Below w.heap.size w wr
 old : s.ps < w.heap.size
 res : wr.heap[w.heap.size]? = some (.cells #[.slice none 0 0] 52 (0,0))
 box : wr.heap[bx]? = some (.cells #[sl] 52 (0,0))
 lt : w.heap.size < bx
section
variable {w wr w2 : World} {s : Sb} {V : Int} {st : Sp} {bx : Nat} {sl : Value}
theorem KSt.grow (h : KSt w wr s V st bx sl) (hb : Below wr.heap.size wr w2) : KSt w w2 s V st bx sl :=
 ⟨h.sp.below hb,h.below.trans (hb.mono h.below.size),h.old,(hb.block _ (zlb h.res)).trans h.res,(hb.block _ (zlb h.box)).trans h.box,h.lt⟩
theorem KSt.cells (h : KSt w wr s V st bx sl) : wr.cell? ⟨s.ps,0,none⟩ = some (.pointer (some ⟨s.b.p,0,none⟩)) ∧ wr.cell? ⟨s.ps,1,none⟩ = some (.int .i64 V) ∧ wr.cell? ⟨bx,0,none⟩ = some sl:=⟨h.sp.s0,h.sp.s1,zco h.box⟩
theorem KSt.yR (h : KSt w wr s V st bx sl) (u : Value) : (wr.setCell ⟨w.heap.size,0,none⟩ u).cell? ⟨s.ps,0,none⟩ = some (.pointer (some ⟨s.b.p,0,none⟩)) ∧ (wr.setCell ⟨w.heap.size,0,none⟩ u).cell? ⟨s.ps,1,none⟩ = some (.int .i64 V) ∧ (wr.setCell ⟨w.heap.size,0,none⟩ u).cell? ⟨bx,0,none⟩ = some sl:=by
 have l1:=h.old;have l2:=h.lt
 refine ⟨?_,?_,?_⟩
 · rw [World.cell?_setCell_far _ _ _ _ (by dsimp only;omega)];exact h.cells.1
 · rw [World.cell?_setCell_far _ _ _ _ (by dsimp only;omega)];exact h.cells.2.1
 · rw [World.cell?_setCell_far _ _ _ _ (by dsimp only;omega)];exact h.cells.2.2
end
set_option maxRecDepth 100000 in
set_option maxHeartbeats 8000000 in
theorem zmj (V : Nat) (hV : V ≤ 24) (h : Int) (w : World) (s : Sb) (st : Sp) (hs : IsSpace w s V st) (co : COk V st.c) (hh : zG st.c h = true) :
 Calls Tryz.prog 20 #[.pointer (some ⟨s.ps,0,none⟩),.int .i64 h] w fun e w' => ∃ v,e = .returned (.tuple #[v,.nilIface]) ∧ zY w' v (kE V V (den st.c h) (fun _ => false)) ∧ Below w.heap.size w w':=by
 have hmm:=@run_makeMap Tryz.prog
 have hlen:=hs.ar.len
 have hR:=hs.ar.room.2
 have lh : h ≤ 9223372036854775807:=by have:=xB hh;omega
 have c0:=hs.s0
 have lps:=hs.lps
 have hsum:=zlt hV co hh (fun _ => false)
 obtain ⟨N,eN⟩ : ∃ N,N = kE V V (den st.c h) (fun _ => false):=⟨_,rfl⟩
 rw [← eN] at hsum ⊢
 have hN : N ≤ 2 ^ 24:=by rw [eN];exact Nat.le_trans (ze7 _ _ _) (Nat.pow_le_pow_right (by decide) hV)
 have hsh:=zkX hN
 have t0:=co.ok.xL h
 obtain ⟨T,eT⟩ : ∃ T : Nat,T = (qd V st.c h).toNat:=⟨_,rfl⟩
 rw [← eT] at hsum
 have hmin : (if (V : Int) < zl st.c h then (V : Int) else zl st.c h) = (T : Int):=by rw [eT];unfold qd;split <;> omega
 have hT : T ≤ 24:=by rw [eT];unfold qd;omega
 have hb0 : Below w.heap.size w (w.alloc (.cells #[.slice none 0 0] 52)):=zba
 have hha:=yN h _ s.b st.c (hs.ar.below hb0) lh
 rw [hh] at hha
 have hb1 : Below w.heap.size w ((w.alloc (.cells #[.slice none 0 0] 52)).alloc (.map #[] 0)):=hb0.alloc (by simp) _
 have hm0 : MapOf ((w.alloc (.cells #[.slice none 0 0] 52)).alloc (.map #[] 0)) (w.heap.size + 1) (Value.int .i64) ([] : List (Int × Value)):=by
  have:=zcc (w.alloc (.cells #[.slice none 0 0] 52)) (Value.int .i64)
  simpa using this
 have hct:=zho V hV (w.heap.size + 1) 25 h _ s st (hs.below hb1) ⟨[],hm0,fun k v e => by cases e⟩ ⟨fun hk => by have:=hs.lt hk;omega,by omega⟩ co hh (by omega)
 have htop:=fun w' (ha : zK w' s.b st.c) => jv h w' s.b st.c ha lh
 generalize zl st.c h = t1 at hmin htop t0
 have Hha:=hid hha;have Hct:=hid hct;have Hsum:=hid hsum;have Hsh:=hid hsh;have Hmin:=hid hmin;have Hs:=hid hs;have Htop:=hid htop;have Hb1:=hid hb1
 clear hha hct hsum hsh hmin hs hlen hR co hh hb0 hb1 hm0 eN eT hN htop t0
 go_enter Tryz.func20,Tryz.ntmps20
 go_wp2_with fail
 refine Hha.out.mono ?_
 rintro e w' ⟨rfl,rfl⟩
 go_wp2_with fail
 refine Hct.out.mono ?_
 rintro e w1 ⟨v1,rfl,hn1,hdd,ho1⟩
 clear hdd
 obtain ⟨a1,c1,rfl⟩:=hn1.shape
 have hbw : Below w.heap.size w w1:=Hb1.out.trans (ho1.below Hb1.out.size (fun k hk => by have e' : k = w.heap.size + 1:=hk;omega))
 have hres : w1.heap[w.heap.size]? = some (.cells #[.slice none 0 0] 52 (0,0)):=(ho1.block _ (by simp;omega) (fun e => by have e' : w.heap.size = w.heap.size + 1:=e;omega)).trans (zh (za rfl))
 have hk : KSt w (w1.alloc (.cells #[.slice a1 (zf (q9 V st.c h)).length c1] 52)) s V st w1.heap.size (.slice a1 (zf (q9 V st.c h)).length c1) :=
  ⟨(Hs.out.below hbw).below (zba),hbw.alloc hbw.size _,lps,zh hres,za rfl,zlb hres⟩
 have hn:=hn1.below (w':=w1.alloc (.cells #[.slice a1 (zf (q9 V st.c h)).length c1] 52)) (zba)
 have Hk:=hid hk;have Hn:=hid hn
 clear hk hn hn1 ho1 hbw hres Hct Hha Hs Hb1 c0
 go_upto_region 4 with fail
 generalize w1.alloc (.cells #[.slice a1 (zf (q9 V st.c h)).length c1] 52) = w2 at Hk Hn ⊢
 generalize w1.heap.size = bx at Hk ⊢
 clear w1
 have hk0:=Hk.out.grow (w2:=w2.drew) ((Below.refl _ _).drew)
 have h90:=hk0.cells
 have h91:=zco hk0.res;have h92:=zfo hk0.res
 have HI:=hid hk0;have HN:=hid (Hn.out.below (w':=w2.drew) ((Below.refl _ _).drew));clear hk0 Hk Hn
 go_region_held3 (fun w' => w'.cell? ⟨s.ps,0,none⟩ = some (.pointer (some ⟨s.b.p,0,none⟩)) ∧ w'.cell? ⟨s.ps,1,none⟩ = some (.int .i64 V) ∧ w'.cell? ⟨bx,0,none⟩ = some (.slice a1 (zf (q9 V st.c h)).length c1))
  (first | exact h90 | exact HI.out.yR _ | go_keep)
  (first
   | (go_at_call 59;(with_reducible refine (Htop.out _ HI.out.sp.ar).mono ?_);rintro e w9 ⟨rfl,hb9⟩;have hi9:=HI.out.grow hb9;have hn9:=HN.out.below hb9;clear h90 h91 h92 HI HN hb9;have HI:=hid hi9;have HN:=hid hn9;have h90:=hi9.cells;have h91:=zco hi9.res;have h92:=zfo hi9.res;clear hi9 hn9)
   | (go_at_call 58;(try rw [zm4 t1 (V : Int)]);rw [Hmin.out];(with_reducible refine (kW (q9 V st.c h) T _ _ HN.out (by omega) (by rw [Hsum.out];exact Hsh.out)).mono ?_);rintro e w9 ⟨v9,rfl,hn9,hb9⟩;obtain ⟨a9,c9,rfl⟩:=hn9.shape;have hi9:=HI.out.grow hb9;clear h90 h91 h92 HI HN hb9;have HI:=hid hi9;have HN:=hid hn9;have h90:=hi9.cells;have h91:=zco hi9.res;have h92:=zfo hi9.res;have h93:=zlb hi9.res;clear hi9 hn9;dsimp only))
 all_goals (go_wp2_with fail)
 all_goals (have hnn:=HN.out;rw [Hsum.out] at hnn)
 all_goals exact bodyPost_ret (v:=.tuple #[.agg #[.slice a9 (zf (q9 V st.c h * 2 ^ T)).length c9],.nilIface]) (by simp [results,Tryz.results20,go_sem,h91]) rfl ⟨_,rfl,by rw [Hsum.out];exact hnn.qC HI.out.res _,HI.out.below.setCell (by simp) _⟩
theorem zpq (h l : Nat) (hl : l < 4294967296) (hh : h < 4294967296) : bits .or .u64 ((h : Int) * 4294967296) (l : Int) = ((h * 4294967296 + l : Nat) : Int):=by
 have e : ((h : Int) * 4294967296) = ((h * 4294967296 : Nat) : Int):=by simp
 rw [e,bits_or_u64_nat _ _ (by omega) (by omega)]
 have h2:=Nat.shiftLeft_add_eq_or_of_lt (show l < 2 ^ 32 by omega) h
 rw [Nat.shiftLeft_eq] at h2
 rw [show (4294967296 : Nat) = 2 ^ 32 by rfl,← h2]
set_option maxHeartbeats 1000000 in
theorem zmR (hi lo d : Nat) (w : World) (h1 : hi < d) (h2 : lo < B32) (h3 : d < B32) :
 Calls Tryz.prog 157 #[.int .u32 hi,.int .u32 lo,.int .u32 d] w fun e w' => e = .returned (.tuple #[.int .u32 ((hi * B32 + lo) / d : Nat),.int .u32 ((hi * B32 + lo) % d : Nat)]) ∧ Below w.heap.size w w':=by
 unfold B32 at *
 have e1 : ((d : Int) != 0) = true:=by simp;omega
 have e2 : decide ((d : Int) ≤ (hi : Int)) = false:=by simp;omega
 have e3 : decide (d ≤ hi) = false:=by simp;omega
 have ho:=zpq hi lo h2 (by omega)
 have Ho:=hid ho;clear ho
 go_enter Tryz.func157,Tryz.ntmps157
 go_wp2_with fail
 rw [Ho.out]
 have hd : (hi * 4294967296 + lo) / d < 4294967296:=by
  have : hi * 4294967296 + lo < 4294967296 * d:=by
   have : (hi + 1) * 4294967296 ≤ d * 4294967296:=Nat.mul_le_mul_right _ h1
   omega
  exact Nat.div_lt_of_lt_mul (by rw [Nat.mul_comm d];exact this)
 have hm : (hi * 4294967296 + lo) % d < 4294967296:=by have:=Nat.mod_lt (hi * 4294967296 + lo) (show 0 < d by omega);omega
 have hN : hi * 4294967296 + lo < 18446744073709551616:=by omega
 obtain ⟨N,hNe⟩ : ∃ N,N = hi * 4294967296 + lo:=⟨_,rfl⟩
 rw [← hNe] at hd hm hN ⊢
 have HNe:=hid hNe;clear hNe
 have q1 : IntKind.u64.wrap ((N : Int) / (d : Int)) % 4294967296 = ((N / d : Nat) : Int):=by
  rw [← Int.natCast_ediv]
  generalize N / d = t at hd ⊢
  rw [IntKind.wrap_u64];omega
 have q2 : (N : Int) % (d : Int) % 4294967296 = ((N % d : Nat) : Int):=by
  rw [← Int.natCast_emod]
  generalize N % d = t at hm ⊢
  omega
 have hd0 : (d : Int) ≠ 0:=by omega
 have Q1:=hid q1;have Q2:=hid q2
 clear q1 q2 Ho e1 e2 e3 hd hm hN
 go_quiet (fail)
 go_wp2_with fail
 go_ret2
 rw [Q1.out,Q2.out,← HNe.out]
 exact ⟨rfl,qh (Below.refl _ _) _⟩
def yU (d : Nat) : List Nat → List Nat × Nat
 | [] => ([],0)
 | x :: xs => (((yU d xs).2 * B32 + x) / d :: (yU d xs).1,((yU d xs).2 * B32 + x) % d)
theorem zar {d : Nat} (h0 : 0 < d) (hd : d < B32) : ∀ xs,Limbs xs → (yU d xs).2 < d ∧ (yU d xs).1.length = xs.length ∧ Limbs (yU d xs).1 ∧ zR (yU d xs).1 * d + (yU d xs).2 = zR xs
 | [],_ => ⟨h0,rfl,fun x hx => (by cases hx),by simp [yU,zR]⟩
 | x :: xs,h => by
  have hx:=h x List.mem_cons_self
  obtain ⟨h1,h2,h3,h4⟩:=zar h0 hd xs (fun y hy => h y (List.mem_cons_of_mem _ hy))
  simp only [yU]
  generalize (yU d xs).1 = q at h2 h3 h4 ⊢
  generalize (yU d xs).2 = r at h1 h4 ⊢
  refine ⟨Nat.mod_lt _ h0,by simp [h2],fun y hy => ?_,?_⟩
  ·
   rcases List.mem_cons.1 hy with rfl | hy
   ·
    refine Nat.div_lt_of_lt_mul ?_
    have : (r + 1) * B32 ≤ d * B32:=Nat.mul_le_mul_right _ h1
    rw [Nat.add_mul,Nat.one_mul] at this
    omega
   · exact h3 y hy
  ·
   rw [zR,zR,← h4]
   have h5:=Nat.div_add_mod (r * B32 + x) d
   generalize (r * B32 + x) / d = a at h5 ⊢
   generalize (r * B32 + x) % d = b at h5 ⊢
   rw [Nat.add_mul,Nat.mul_add,Nat.mul_assoc,← Nat.mul_assoc B32,Nat.mul_comm a d,Nat.mul_comm B32 r]
   omega
theorem zg1 {d : Nat} (h0 : 0 < d) (hd : d < B32) {xs : List Nat} (hx : Limbs xs) : zR (yU d xs).1 = zR xs / d ∧ (yU d xs).2 = zR xs % d:=by
 obtain ⟨h1,_,_,h4⟩:=zar h0 hd xs hx
 rw [← h4,Nat.mul_comm]
 exact ⟨by rw [Nat.mul_add_div h0,Nat.div_eq_of_lt h1,Nat.add_zero],by rw [Nat.mul_add_mod,Nat.mod_eq_of_lt h1]⟩
theorem zgh {d : Nat} {xs : List Nat} {j : Nat} (hj : j < xs.length) : yU d (xs.drop j) = (((yU d (xs.drop (j + 1))).2 * B32 + xs[j]) / d :: (yU d (xs.drop (j + 1))).1,((yU d (xs.drop (j + 1))).2 * B32 + xs[j]) % d):=by
 rw [List.drop_eq_getElem_cons hj];rfl
structure ShI (W wr : World) (g : Nat) (outs xs : List Nat) (d k r : Nat) : Prop where
 mem : zc9 W wr g outs
 len : outs.length = xs.length
 at_ : outs.drop k = (yU d (xs.drop k)).1
 rest : r = (yU d (xs.drop k)).2
theorem ShI.next {W wr w2 : World} {g : Nat} {outs xs : List Nat} {d j r : Nat} (h : ShI W wr g outs xs d (j + 1) r) (hj : j < xs.length) (hw : zc9 W w2 g (outs.set j ((r * B32 + xs[j]) / d))) : ShI W w2 g (outs.set j ((r * B32 + xs[j]) / d)) xs d j ((r * B32 + xs[j]) % d):=by
 have hl:=h.len
 refine ⟨hw,by simp [hl],?_,?_⟩
 ·
  rw [zgh hj,← h.rest,← h.at_,List.drop_eq_getElem_cons (by simp;omega),List.drop_set_of_lt (by omega)]
  simp
 · rw [zgh hj,← h.rest]
set_option maxRecDepth 100000 in
set_option maxHeartbeats 8000000 in
theorem zlJ (d : Nat) (vs : Value) (xs : List Nat) (w : World) (h : zO w vs xs) (h0 : 0 < d) (hd : d < B32) (hl : xs.length ≤ 1000000) :
 Calls Tryz.prog 100 #[vs,.int .u32 d] w fun e w' => e = .returned (.tuple #[.slice (some ⟨w.heap.size,0,none⟩) xs.length xs.length,.int .u32 ((zR xs % d : Nat) : Int)]) ∧ zO w' (.slice (some ⟨w.heap.size,0,none⟩) xs.length xs.length) (yU d xs).1 ∧ Below w.heap.size w w':=by
 obtain ⟨av,cv,rfl,hl1,hl2⟩:=h.shape
 have hmk:=zhf xs.length (by omega)
 have hsv:=zg1 h0 hd h.limbs
 have H:=hid h;have Hsv:=hid hsv
 have hmd : madeCells #[.int .u32 0] xs.length = zeU (List.replicate xs.length 0):=by
  apply Array.toList_inj.1
  rw [toList_madeCells_one];simp [zeU]
 rw [hmd] at hmk
 have hm0 : zc9 w (w.alloc (.cells (zeU (List.replicate xs.length 0)) 161)) w.heap.size (List.replicate xs.length 0):=⟨zba,za rfl⟩
 have Hm0:=hid hm0
 clear h hm0 hsv hmd
 go_enter Tryz.func100,Tryz.ntmps100
 go_wp2_with fail
 clear hmk
 go_loopg [7,8] xs.length (fun gk cy i wr => ∃ (k r : Nat) (outs : List Nat),k = gk ∧ k ≤ xs.length ∧ i = .int .i64 ((k : Int) - 1) ∧ cy = .int .u32 r ∧ ShI w wr w.heap.size outs xs d k r)
 case atStart => exact ⟨xs.length,0,_,rfl,znr _,by go_num,rfl,Hm0.out,by simp,by simp [yU],by simp [yU]⟩
 case round =>
  clear Hm0
  obtain ⟨k,r,outs,rfl,hk,rfl,rfl,hI⟩:=hrel
  rcases Nat.eq_zero_or_pos k with hz | hz
  ·
   subst hz
   rw [show (((0 : Nat) : Int) - 1) = -1 by omega]
   have ho : outs = (yU d xs).1:=by have:=hI.at_;simpa using this
   have hr : r = zR xs % d:=by have:=hI.rest;rw [List.drop_zero] at this;rw [this,Hsv.out.2]
   have hsp:=zar h0 hd xs H.out.limbs
   have HI:=hid hI;have Ho:=hid ho;have Hr:=hid hr;have Hsp:=hid hsp
   clear hI ho hr hsp
   go_wp2_with fail
   go_ret2
   rw [← Hr.out]
   refine ⟨rfl,?_,HI.out.mem.below⟩
   rw [← Ho.out]
   exact j3 outs HI.out.mem.row (by simp [zeU]) HI.out.len.symm (znr _) (by unfold maxLen;omega) (by rw [Ho.out];exact Hsp.out.2.2.1)
  ·
   obtain ⟨j,rfl⟩ : ∃ j,k = j + 1:=⟨k - 1,by omega⟩
   rw [show (((j + 1 : Nat) : Int) - 1) = (j : Int) by omega]
   have hj : j < xs.length:=by omega
   have hrd : r < d:=by
    rw [hI.rest]
    exact (zar h0 hd (xs.drop (j + 1)) (fun x hx => H.out.limbs x (List.mem_of_mem_drop hx))).1
   obtain ⟨b1,o1,rfl,lb1⟩:=H.out.addr hj
   have g1:=(H.out.below hI.mem.below).get hj
   have hxj:=H.out.limbs _ (List.getElem_mem hj)
   have hnx:=fun w2 hw => hI.next (w2:=w2) hj hw
   generalize xs[j] = x at g1 hxj hnx
   have hq:=zmR r x d wr hrd hxj hd
   have hji : (j : Int) < xs.length:=by exact_mod_cast hj
   have hol : j < outs.length:=by rw [hI.len];exact hj
   have HI:=hid hI;have Hq:=hid hq;have Hnx:=hid hnx;have Hol:=hid hol
   clear hI hq hnx hol hxj hrd
   go_wp2_with fail
   refine Hq.out.mono ?_
   rintro e w3 ⟨rfl,hb3⟩
   have hm3 : zc9 w w3 w.heap.size outs:=⟨HI.out.mem.below.trans (hb3.mono HI.out.mem.below.size),(hb3.block _ (zlb HI.out.mem.row)).trans HI.out.mem.row⟩
   have c3:=hm3.cell Hol.out
   have f3:=hm3.free j
   have hset:=hm3.set j ((r * B32 + x) / d)
   have Hset:=hid (Hnx.out _ hset)
   clear hm3 hset hb3 Hq
   go_wp2_with fail
   go_roundg j
   case measure => omega
   case rel => exact ⟨j,_,_,rfl,by omega,by go_num,rfl,Hset.out⟩
def kC (w : World) (g cap n : Nat) (f : Nat → Nat) : Prop:=∃ cur : Array Value,w.heap[g]? = some (.cells cur 5 (0,0)) ∧ n ≤ cap ∧ cur.size = cap ∧ ∀ k,k < n → cur[k]? = some (.int .u8 (f k : Nat))
theorem kC.cell {w : World} {g cap n : Nat} {f : Nat → Nat} (h : kC w g cap n f) {k : Nat} (hk : k < n) : w.cell? ⟨g,k,none⟩ = some (.int .u8 (f k : Nat)):=by
 obtain ⟨cur,h1,_,_,h2⟩:=h;rw [cell_of_row w g k cur _ _ h1];exact h2 k hk
theorem kC.free {w : World} {g cap n : Nat} {f : Nat → Nat} (h : kC w g cap n f) (k : Nat) : w.frozen? ⟨g,k,none⟩ = false:=by
 obtain ⟨cur,h1,_⟩:=h;simp [World.frozen?,h1]
theorem kC.lt {w : World} {g cap n : Nat} {f : Nat → Nat} (h : kC w g cap n f) : g < w.heap.size:=by
 obtain ⟨cur,h1,_⟩:=h;exact (Array.getElem?_eq_some_iff.1 h1).1
theorem kC.drew {w : World} {g cap n : Nat} {f : Nat → Nat} (h : kC w g cap n f) (m : Nat) : kC (w.drewN m) g cap n f:=h
theorem kC.less {w : World} {g cap n m : Nat} {f : Nat → Nat} (h : kC w g cap n f) (hm : m ≤ n) : kC w g cap m f:=by
 obtain ⟨cur,h1,h2,h3,h4⟩:=h;exact ⟨cur,h1,by omega,h3,fun k hk => h4 k (by omega)⟩
theorem kC.keep {w w' : World} {g cap n : Nat} {f : Nat → Nat} (h : kC w g cap n f) (hb : w'.heap[g]? = w.heap[g]?) : kC w' g cap n f:=by
 obtain ⟨cur,h1,h2⟩:=h;exact ⟨cur,hb.trans h1,h2⟩
theorem kC.set {w : World} {g cap n : Nat} {f : Nat → Nat} (h : kC w g cap n f) (j v : Nat) : kC (w.setCell ⟨g,j,none⟩ (.int .u8 (v : Nat))) g cap n (fun k => if k = j then v else f k):=by
 obtain ⟨cur,h1,h2,h3,h4⟩:=h
 have hlt:=(Array.getElem?_eq_some_iff.1 h1).1
 have h' : w.heap[g] = .cells cur 5 (0,0):=(Array.getElem?_eq_some_iff.1 h1).2
 refine ⟨cur.setIfInBounds j (.int .u8 (v : Nat)),?_,h2,by simp [h3],fun k hk => ?_⟩
 ·
  show (w.heap.modify g _)[g]? = _
  rw [Array.getElem?_eq_getElem (by simpa using hlt),Array.getElem_modify_self,h']
  rfl
 ·
  dsimp only
  by_cases e : k = j
  ·
   subst e
   rw [Array.getElem?_setIfInBounds_self_of_lt (by omega),if_pos rfl]
  · rw [Array.getElem?_setIfInBounds_ne (fun e2 => e e2.symm),if_neg e];exact h4 k hk
theorem kC.same {w : World} {g cap n : Nat} {f f' : Nat → Nat} (h : kC w g cap n f) (e : ∀ k,k < n → f k = f' k) : kC w g cap n f':=by
 obtain ⟨cur,h1,h2,h3,h4⟩:=h;exact ⟨cur,h1,h2,h3,fun k hk => by rw [← e k hk];exact h4 k hk⟩
def zeX (n k : Nat) (f : Nat → Nat) : Nat → Nat:=fun x => if x < k ∨ n - k ≤ x then f (n - 1 - x) else f x
set_option maxRecDepth 100000 in
set_option maxHeartbeats 4000000 in
theorem zng (g cap n : Nat) (f : Nat → Nat) (w : World) (h : kC w g cap n f) (hn : n ≤ 20000000) :
 Calls Tryz.prog 102 #[.slice (some ⟨g,0,none⟩) n cap] w fun e w' => e = .returned (.tuple #[]) ∧ kC w' g cap n (fun k => f (n - 1 - k)) ∧ Only (· = g) w w':=by
 have hc : n ≤ cap:=by obtain ⟨_,_,h2,_⟩:=h;exact h2
 have H:=hid h;clear h
 go_enter Tryz.func102,Tryz.ntmps102
 go_wp2_with fail
 go_loopg [2,3] n (fun gk i j wr => ∃ k : Nat,2 * k ≤ n + 1 ∧ gk = n - k ∧ i = .int .i64 k ∧ j = .int .i64 ((n : Int) - 1 - k) ∧ kC wr g cap n (zeX n k f) ∧ Only (· = g) w wr)
 case atStart => exact ⟨0,by omega,rfl,rfl,by go_num,H.out.same (fun k hk => by unfold zeX;rw [if_neg (by omega)]),Only.refl _ _⟩
 case round =>
  clear H
  obtain ⟨k,hk,rfl,rfl,rfl,hr,ho⟩:=hrel
  have Hr:=hid hr;have Ho:=hid ho;clear hr ho
  by_cases hlt : (k : Int) < (n : Int) - 1 - k
  ·
   obtain ⟨j,hj⟩ : ∃ j : Nat,j = n - 1 - k:=⟨_,rfl⟩
   rw [show (n : Int) - 1 - k = (j : Int) by omega] at hlt ⊢
   have c1:=Hr.out.cell (k:=k) (by omega)
   have c2:=Hr.out.cell (k:=j) (by omega)
   have z1:=Hr.out.free k
   have z2:=Hr.out.free j
   have hjn : (j : Int) < n:=by omega
   have hkn : (k : Int) < n:=by omega
   have hset:=((Hr.out.drew 1).set k (zeX n k f j)).set j (zeX n k f k)
   have hnx : ∀ x,x < n → (if x = j then zeX n k f k else if x = k then zeX n k f j else zeX n k f x) = zeX n (k + 1) f x:=fun x hx => by
    unfold zeX
    by_cases e1 : x = j
    · rw [if_pos e1,if_neg (by omega),if_pos (by omega)];congr 1;omega
    ·
     rw [if_neg e1]
     by_cases e2 : x = k
     · rw [if_pos e2,if_neg (by omega),if_pos (by omega)];congr 1;omega
     ·
      rw [if_neg e2]
      by_cases e3 : x < k ∨ n - k ≤ x
      · rw [if_pos e3,if_pos (by omega)]
      · rw [if_neg e3,if_neg (by omega)]
   have Hset:=hid (hset.same hnx);have Hj:=hid hj
   clear hset hnx hj
   generalize zeX n k f k = u1 at c1 Hset
   generalize zeX n k f j = u2 at c2 Hset
   go_wp2_with fail
   go_region
   all_goals
    go_wp2_with fail
    go_roundg (n - (k + 1))
    case measure => omega
    case rel => exact ⟨k + 1,by have:=Hj.out;omega,rfl,by go_num,by have:=Hj.out;rw [show ((n : Int) - 1 - ((k + 1 : Nat) : Int)) = (j : Int) - 1 by omega],Hset.out,((Ho.out.drew).setCell (.inl rfl) _).setCell (.inl rfl) _⟩
  ·
   go_wp2_with fail
   go_end0
   refine ⟨rfl,Hr.out.same (fun x hx => ?_),Ho.out⟩
   unfold zeX
   by_cases e : x < k ∨ n - k ≤ x
   · rw [if_pos e]
   · rw [if_neg e];congr 1;omega
def d9 : Nat → Nat → List Nat
 | 0,_ => []
 | k + 1,r => (48 + r % 10) :: d9 k (r / 10)
def chunks (n : Nat) : List Nat:=if h : n = 0 then [] else d9 9 (n % 1000000000) ++ chunks (n / 1000000000)
termination_by n
decreasing_by exact Nat.div_lt_self (Nat.pos_of_ne_zero h) (by decide)
theorem zeG : chunks 0 = []:=by rw [chunks];simp
theorem zcM {n : Nat} (h : n ≠ 0) : chunks n = d9 9 (n % 1000000000) ++ chunks (n / 1000000000):=by rw [chunks];simp [h]
theorem ziM : ∀ k r,∀ x ∈ d9 k r,48 ≤ x ∧ x < 58
 | 0,_,x,h => by cases h
 | k + 1,r,x,h => by
  rw [d9] at h
  rcases List.mem_cons.1 h with rfl | h
  · omega
  · exact ziM k _ x h
theorem zkW : ∀ k r,r ≠ 0 → r < 10 ^ k → ∃ x ∈ d9 k r,x ≠ 48
 | 0,r,h0,h => by simp at h;exact absurd h h0
 | k + 1,r,h0,h => by
  by_cases e : r % 10 = 0
  ·
   have h1 : r / 10 ≠ 0:=by omega
   obtain ⟨x,hx,hne⟩:=zkW k (r / 10) h1 (by rw [Nat.pow_succ] at h;omega)
   exact ⟨x,List.mem_cons_of_mem _ hx,hne⟩
  · exact ⟨48 + r % 10,List.mem_cons_self,by omega⟩
theorem zfT {Q : Nat → Prop} (h0 : Q 0) (h1 : ∀ n,n ≠ 0 → Q (n / 1000000000) → Q n) (n : Nat) : Q n:=by
 induction n using Nat.strongRecOn with
 | _ n ih =>
  by_cases h : n = 0
  · subst h;exact h0
  · exact h1 n h (ih _ (Nat.div_lt_self (Nat.pos_of_ne_zero h) (by decide)))
theorem zhT (n : Nat) : ∀ x ∈ chunks n,48 ≤ x ∧ x < 58:=by
 refine zfT (Q:=fun n => ∀ x ∈ chunks n,48 ≤ x ∧ x < 58) (by rw [zeG];intro x h;cases h) (fun n h ih x hx => ?_) n
 rw [zcM h] at hx
 rcases List.mem_append.1 hx with hx | hx
 · exact ziM _ _ x hx
 · exact ih x hx
theorem zi2 (n : Nat) : n ≠ 0 → ∃ x ∈ chunks n,x ≠ 48:=by
 refine zfT (Q:=fun n => n ≠ 0 → ∃ x ∈ chunks n,x ≠ 48) (fun h => absurd rfl h) (fun n h ih _ => ?_) n
 rw [zcM h]
 by_cases e : n % 1000000000 = 0
 ·
  have h1 : n / 1000000000 ≠ 0:=by omega
  obtain ⟨x,hx,hne⟩:=ih h1
  exact ⟨x,List.mem_append_right _ hx,hne⟩
 ·
  obtain ⟨x,hx,hne⟩:=zkW 9 _ e (by omega)
  exact ⟨x,List.mem_append_left _ hx,hne⟩
def zgT (n : Nat) : List Nat:=if n = 0 then [48] else (chunks n).reverse.dropWhile (· == 48)
def zn2 (n : Nat) : ByteArray:=strOfNums ((zgT n).map fun x : Nat => (x : Int))
theorem zmB {l : List Nat} {k : Nat} (hk : k < l.length) (hne : l[k] ≠ 48) (h48 : ∀ x ∈ l.drop (k + 1),x = 48) : l.reverse.dropWhile (· == 48) = (l.take (k + 1)).reverse:=by
 conv => lhs;rw [← List.take_append_drop (k + 1) l]
 rw [List.reverse_append,List.dropWhile_append_of_pos (fun x hx => by simpa using h48 x (List.mem_reverse.1 hx))]
 rw [List.take_succ_eq_append_getElem hk,List.reverse_append,List.reverse_singleton,List.singleton_append,List.dropWhile_cons_of_neg (by simpa using hne)]
theorem zjc {m n : Nat} (h : m ≤ n) : (zf m).length ≤ (zf n).length:=by
 apply Classical.byContradiction
 intro hn
 have:=zeu (a:=n) (b:=m) (by omega)
 omega
theorem zq4 : (Tryz.prog.info? 5).map (fun i => (i.zero,i.size,i.bytes)) = some (some (.int .u8 0),1,1):=by kernel_rfl
theorem zmQ (x : Value) (w : World) : (Instr.field 52 (.agg #[x]) 0).run Tryz.prog w = .ok x w:=by kernel_rfl
def zd4 (l : List Nat) : List Value:=l.map fun x : Nat => Value.int .u8 (x : Int)
structure ziv (w : World) (vl : Value) (m : Nat) (vo : Value) : Prop where
 lim : zO w vl (zf m)
 off : ∀ b,vl.ownBlock = some b → vo.ownBlock ≠ some b ∧ b < w.heap.size
theorem ziv.grown {w w' : World} {vl vo v' : Value} {m : Nat} (h : ziv w vl m vo) (hg : w.grownBy w' vo.ownBlock) (hv : v'.ownBlock = vo.ownBlock ∨ v'.ownBlock = some w.heap.size) : ziv w' vl m v':=by
 refine ⟨?_,fun b hb => ?_⟩
 ·
  obtain ⟨a,b,o,c,h1,h2,h3,h4,h5,h6,h7⟩:=h.lim
  refine ⟨a,b,o,c,h1,h2,h3,h4,fun i hi => ?_,fun hne => Nat.lt_of_lt_of_le (h6 hne) hg.size,h7⟩
  have hne : zf m ≠ []:=by intro e;rw [e] at hi;simp at hi
  have hb : vl.ownBlock = some b:=by rw [h1,h2 hne];rfl
  rw [World.cell?_of_block (w:=w) (hg.block b (h6 hne) (fun e => (h.off b hb).1 e.symm))]
  exact h5 i hi
 ·
  have h1:=h.off b hb
  refine ⟨?_,Nat.lt_of_lt_of_le h1.2 hg.size⟩
  rcases hv with e | e
  · rw [e];exact h1.1
  · rw [e];intro e2;have:=Option.some.inj e2;omega
theorem ziv.below {w w' : World} {vl vo : Value} {m : Nat} (h : ziv w vl m vo) (hb : Below w.heap.size w w') : ziv w' vl m vo :=
 ⟨h.lim.below hb,fun b hb2 => ⟨(h.off b hb2).1,Nat.lt_of_lt_of_le (h.off b hb2).2 hb.size⟩⟩
theorem zoT (n : Nat) (va : Value) (w : World) (ha : zY w va n) :
 Calls Tryz.prog 23 #[va] w fun e w' => e = .returned (.bool (n == 0)) ∧ Below w.heap.size w w':=by
 obtain ⟨a,c,rfl⟩:=ha.shape
 have hz : (((zf n).length : Int) == 0) = (n == 0):=by
  by_cases e : n = 0
  · subst e;rw [yT];rfl
  ·
   have h1 : zf n ≠ []:=fun h => e (zcj h)
   have h2 : (zf n).length ≠ 0:=fun h => h1 (List.eq_nil_of_length_eq_zero h)
   rw [show (n == 0) = false by simpa using e]
   simp;omega
 have Hz:=hid hz;clear hz
 go_enter Tryz.func23,Tryz.ntmps23
 go_wp2_with fail
 go_ret
 rw [← Hz.out]
 exact ⟨rfl,zba⟩
theorem zlP {w : World} {base : Nat} {v : Value} {l : List Nat} (h : w.ownsRow base 5 1 v l.length (zd4 l)) (hp : 0 < l.length) : ∃ g cap,v = .slice (some ⟨g,0,none⟩) l.length cap ∧ base ≤ g ∧ kC w g cap l.length (fun k => l.getD k 0):=by
 rcases h.2 with ⟨_,h0⟩ | ⟨g,cap,cur,e,hg,hh,h3,h4,h5,h6⟩
 · omega
 ·
  refine ⟨g,cap,e,hg,cur,hh,h3,by omega,fun k hk => ?_⟩
  have h7 : (cur.toList.take (l.length * 1))[k]? = some (.int .u8 ((l.getD k 0 : Nat) : Int)):=by
   rw [h6];simp [zd4,hk]
  rw [List.getElem?_take] at h7
  split at h7
  · simpa using h7
  · cases h7
structure TxI (W wr : World) (vo vl : Value) (n m : Nat) (outs : List Nat) : Prop where
 below : Below W.heap.size W wr
 own : wr.ownsRow W.heap.size 5 1 vo outs.length (zd4 outs)
 off : ziv wr vl m vo
 val : outs ++ chunks m = chunks n
structure TxJ (W wr : World) (vo vl : Value) (n m r c : Nat) (outs : List Nat) : Prop where
 below : Below W.heap.size W wr
 own : wr.ownsRow W.heap.size 5 1 vo outs.length (zd4 outs)
 off : ziv wr vl m vo
 val : outs ++ (d9 (9 - c) r ++ chunks m) = chunks n
theorem TxJ.push {W wr w2 : World} {vo vl v' : Value} {n m r c : Nat} {outs : List Nat} (h : TxJ W wr vo vl n m r c outs) (hc : c < 9)
 (ho : w2.ownsRow W.heap.size 5 1 v' (outs.length + 1) (zd4 outs ++ [.int .u8 ((48 + r % 10 : Nat) : Int)])) (hg : (wr.alloc (.cells #[.int .u8 ((48 + r % 10 : Nat) : Int)] 5)).grownBy w2 vo.ownBlock)
 (hv : v'.ownBlock = vo.ownBlock ∨ v'.ownBlock = some (wr.alloc (.cells #[.int .u8 ((48 + r % 10 : Nat) : Int)] 5)).heap.size) : TxJ W w2 v' vl n m (r / 10) (c + 1) (outs ++ [48 + r % 10]):=by
 have hw:=h.below.size
 have hb1 : Below wr.heap.size wr (wr.alloc (.cells #[.int .u8 ((48 + r % 10 : Nat) : Int)] 5)):=zba
 have hvb : ∀ j,vo.ownBlock = some j → W.heap.size ≤ j:=fun j hj => (h.own.lt j hj).1
 have hb : Below W.heap.size (wr.alloc (.cells #[.int .u8 ((48 + r % 10 : Nat) : Int)] 5)) w2:=(Below.refl _ _).grown hg (by simp;omega) hvb
 refine ⟨(h.below.alloc hw _).trans hb,by simpa [zd4] using ho,(h.off.below hb1).grown hg hv,?_⟩
 have h1:=h.val
 rw [show 9 - c = (9 - (c + 1)) + 1 by omega,d9] at h1
 rw [List.append_assoc];exact h1
theorem TxI.start {W wr w2 w3 : World} {vo vl vl2 : Value} {n m : Nat} {outs : List Nat} (h : TxI W wr vo vl n m outs) (hm : m ≠ 0) (hb2 : Below wr.heap.size wr w2) (hb3 : Below w2.heap.size w2 w3) {g k c : Nat} (hg : g = wr.heap.size) (he : vl2 = .slice (some ⟨g,0,none⟩) k c) (hl : zO w3 vl2 (zf (m / 1000000000))) (hw : wr.heap.size < w2.heap.size) :
 TxJ W w3 vo vl2 n (m / 1000000000) (m % 1000000000) 0 outs:=by
 have hb : Below wr.heap.size wr w3:=hb2.trans (hb3.mono hb2.size)
 have hs3:=hb3.size
 refine ⟨h.below.trans (hb.mono h.below.size),ownsRow_below h.own hb,⟨hl,fun b hbb => ?_⟩,?_⟩
 ·
  rw [he] at hbb
  have hbg : b = g:=(Option.some.inj hbb).symm
  refine ⟨fun e => ?_,by omega⟩
  have:=(h.own.lt b e).2
  omega
 · rw [← h.val,zcM hm]
theorem TxJ.stop {W wr : World} {vo vl : Value} {n m r : Nat} {outs : List Nat} (h : TxJ W wr vo vl n m r 9 outs) : TxI W wr vo vl n m outs:=⟨h.below,h.own,h.off,h.val⟩
set_option maxRecDepth 100000 in
set_option maxHeartbeats 8000000 in
theorem zi8 (n : Nat) (va : Value) (w : World) (ha : zY w va n) (hl : (zf n).length ≤ 1000000) (hc : (chunks n).length ≤ 1000000) :
 Calls Tryz.prog 45 #[va] w fun e w' => e = .returned (.string (zn2 n)) ∧ Below w.heap.size w w':=by
 obtain ⟨i0,hi,hz0,hz1,hz2⟩:=info_parts zq4
 obtain ⟨a,ca,rfl⟩:=ha.shape
 have hb1 : Below w.heap.size w (w.alloc (.cells #[.slice a (zf n).length ca] 52)):=zba
 have hz:=zoT n _ _ (ha.below hb1)
 by_cases h0 : n = 0
 ·
  subst h0
  have Hz:=hid hz;clear hz ha hl hc
  rw [yT] at Hz hb1 ⊢
  have Hb1:=hid hb1;clear hb1
  go_enter Tryz.func45,Tryz.ntmps45
  go_wp2_with fail
  refine Hz.out.mono ?_
  rintro e w2 ⟨rfl,hb2⟩
  have Hb2:=hid hb2;clear hb2
  simp only [beq_self_eq_true]
  go_wp2_with fail
  go_ret
  exact ⟨rfl,Hb1.out.trans (Hb2.out.mono Hb1.out.size)⟩
 ·
  have hn0 : (n == 0) = false:=by simpa using h0
  rw [hn0] at hz
  have Hz:=hid hz;have Hb1:=hid hb1;have H0:=hid h0;have Hc:=hid hc;have Hl:=hid hl
  have hlim:=ha.limbs
  have Hlim:=hid hlim
  clear hz hb1 hn0 h0 hc hl ha hlim
  go_enter Tryz.func45,Tryz.ntmps45
  go_wp2_with fail
  refine Hz.out.mono ?_
  rintro e w2 ⟨rfl,hb2⟩
  have hbw:=Hb1.out.trans (hb2.mono Hb1.out.size)
  have hba : w2.heap[w.heap.size]? = some (.cells #[.slice a (zf n).length ca] 52 (0,0)):=(hb2.block _ (by simp)).trans (za rfl)
  have c1:=zco hba
  have hoff : ∀ b,(Value.slice a (zf n).length ca).ownBlock = some b → b < w2.heap.size:=fun b hb => by
   have hne : zf n ≠ []:=fun h => H0.out (zcj h)
   obtain ⟨_,b0,o0,_,h1,h2,_,_,_,h6,_⟩:=Hlim.out
   have e1:=h2 hne
   cases h1
   rw [e1] at hb
   have e2 : b = b0:=(Option.some.inj hb).symm
   have:=h6 hne;have:=hbw.size;omega
  have hst : TxI w2 w2 (.slice none 0 0) (.slice a (zf n).length ca) n n []:=⟨Below.refl _ _,World.ownsRow_nil _ _ _ _,⟨Hlim.out.below hbw,fun b hb => ⟨by simp [Value.ownBlock],hoff b hb⟩⟩,rfl⟩
  have Hst:=hid hst;have Hbw:=hid hbw
  clear hst hbw hb2 hba hoff
  go_wp2_with fail
  clear c1
  go_loopg [3,4] n (fun gk o l wr => ∃ (m : Nat) (outs : List Nat) (al : Option Addr) (cl : Nat),m = gk ∧ m ≤ n ∧ l = .slice al (zf m).length cl ∧ TxI w2 wr o l n m outs)
  case atStart => exact ⟨n,[],a,ca,rfl,znr _,rfl,Hst.out⟩
  case round =>
   clear Hst
   obtain ⟨m,outs,al,cl,rfl,hmn,rfl,hI⟩:=hrel
   obtain ⟨wo,hwo⟩ : ∃ wo : World,wo = wr:=⟨_,rfl⟩
   subst hwo
   have hmc : (zf m).length ≤ 1000000:=Nat.le_trans (zjc hmn) Hl.out
   have hcl : (chunks n).length ≤ 1000000:=Hc.out
   by_cases hm0 : m = 0
   ·
    subst hm0
    have hz : (zf 0).length = 0:=by rw [yT];rfl
    have hout : outs = chunks n:=by have:=hI.val;rw [zeG,List.append_nil] at this;exact this
    subst hout
    obtain ⟨x0,hx0,hne0⟩:=zi2 n H0.out
    have hpos : 0 < (chunks n).length:=List.length_pos_of_mem hx0
    obtain ⟨g,cap,rfl,hg,hrow⟩:=zlP hI.own hpos
    have Hrow:=hid hrow;have HI:=hid hI;have Hg:=hid hg;have Hcl:=hid hcl
    have Hx0:=hid (show ∃ x ∈ chunks n,x ≠ 48 from ⟨x0,hx0,hne0⟩)
    clear hrow hI hg hx0 hne0 hmc hcl
    rw [hz]
    go_wp2_with fail
    go_loopg [3] (chunks n).length (fun gk o wx => ∃ k : Nat,k + 1 = gk ∧ k + 1 ≤ (chunks n).length ∧ o = .slice (some ⟨g,0,none⟩) (k + 1) cap ∧ wx = wo ∧ ∀ x ∈ (chunks n).drop (k + 1),x = 48)
    case atStart => exact ⟨(chunks n).length - 1,by omega,by omega,by rw [show (chunks n).length - 1 + 1 = (chunks n).length by omega],rfl,fun x hx => by rw [show (chunks n).length - 1 + 1 = (chunks n).length by omega,List.drop_length] at hx;cases hx⟩
    case round =>
     obtain ⟨j,rfl,hj,rfl,rfl,h48⟩:=hrel
     have hjl : j < (chunks n).length:=by omega
     have c1:=Hrow.out.cell hjl
     have hgd : (chunks n).getD j 0 = (chunks n)[j]:=by simp [hjl]
     rw [hgd] at c1
     have hcap : (chunks n).length ≤ cap:=by obtain ⟨_,_,h2,_⟩:=Hrow.out;exact h2
     have hjc : j ≤ cap:=by omega
     have hjb : j ≤ 1000000:=by have:=Hcl.out;omega
     by_cases hx : (chunks n)[j] = 48
     ·
      rw [hx] at c1
      have hj0 : j ≠ 0:=by
       rintro rfl
       obtain ⟨x0,hx0,hne0⟩:=Hx0.out
       rw [← List.take_append_drop 1 (chunks n)] at hx0
       rcases List.mem_append.1 hx0 with h | h
       ·
        rw [List.take_succ_eq_append_getElem (by omega)] at h
        simp at h
        exact hne0 (h.trans hx)
       · exact hne0 (h48 x0 h)
      have h48b : ∀ x ∈ (chunks n).drop j,x = 48:=fun x hm => by
       rw [List.drop_eq_getElem_cons hjl] at hm
       rcases List.mem_cons.1 hm with e | e
       · rw [e];exact hx
       · exact h48 x e
      have H48:=hid h48b
      clear h48 h48b hx hgd
      go_wp2_with fail
      go_roundg j
      case measure => omega
      case rel => exact ⟨j - 1,by omega,by omega,by rw [show j - 1 + 1 = j by omega],rfl,by rw [show j - 1 + 1 = j by omega];exact H48.out⟩
     ·
      have hxr:=zhT n _ (List.getElem_mem hjl)
      have hne : (((chunks n)[j] : Nat) : Int) ≠ 48:=by omega
      have hne2 : ((((chunks n)[j] : Nat) : Int) == 48) = false:=by simpa using hne
      have hcz:=zmB hjl hx h48
      have hrv:=zng g cap (j + 1) _ wr (Hrow.out.less (show j + 1 ≤ (chunks n).length by omega)) (by have:=Hcl.out;omega)
      generalize (chunks n)[j] = x at c1 hne hne2
      have Hrv:=hid hrv;have Hcz:=hid hcz
      clear hrv hcz h48 hx hxr hgd hne
      go_wp2_with fail
      refine Hrv.out.mono ?_
      rintro e w5 ⟨rfl,hr5,ho5⟩
      have htx : (zgT n).length = j + 1:=by unfold zgT;rw [if_neg H0.out,Hcz.out];simp;omega
      have hcv:=run_convert_bytes_arg (P:=Tryz.prog) w5 147 5 Tryz.underlying147 Tryz.underlying5 g 0 (j + 1) cap ((zgT n).map fun x : Nat => (x : Int)) (by simp [htx]) (fun i hi => by
       rw [Nat.zero_add,hr5.cell hi]
       have e1 : (zgT n)[i]? = some ((chunks n).getD (j + 1 - 1 - i) 0):=by
        unfold zgT
        rw [if_neg H0.out,Hcz.out,List.getElem?_reverse (by simp;omega)]
        simp only [List.length_take]
        rw [List.getElem?_take_of_lt (by omega),List.getD_eq_getElem?_getD,show min (j + 1) (chunks n).length - 1 - i = j + 1 - 1 - i by omega]
        rw [List.getElem?_eq_getElem (by omega)];rfl
       simp [List.getD_eq_getElem?_getD,List.getElem?_map,e1]) 9 Tryz.underlying9
      have Hcv:=hid hcv;have Ho5:=hid ho5
      clear hcv hr5 ho5 Hrv
      have hcv:=Hcv.out
      go_wp2_with fail
      go_ret
      refine ⟨rfl,?_⟩
      have h1:=Hbw.out.trans (HI.out.below.mono Hbw.out.size)
      refine h1.trans (Ho5.out.below h1.size (fun k hk => ?_))
      have e5 : k = g:=hk
      have:=Hg.out;have:=Hbw.out.size;omega
   ·
    have hposN : 0 < (zf m).length:=by
     have h1 : zf m ≠ []:=fun h => hm0 (zcj h)
     have h2 : (zf m).length ≠ 0:=fun h => h1 (List.eq_nil_of_length_eq_zero h)
     omega
    have hq:=zlJ 1000000000 (.slice al (zf m).length cl) (zf m) wo hI.off.lim (by decide) (by decide) hmc
    have hsv:=zg1 (d:=1000000000) (by decide) (by decide) (zfM m)
    have hsp:=zar (d:=1000000000) (by decide) (by decide) (zf m) (zfM m)
    rw [qW] at hsv hq
    have HI:=hid hI;have Hq:=hid hq;have Hsv:=hid hsv;have Hsp:=hid hsp;have Hm0:=hid hm0
    clear hI hq hsv hsp hm0 hmc
    go_wp2_with fail
    refine Hq.out.mono ?_
    rintro e w3 ⟨rfl,hl3,hb3⟩
    have hl3b:=hl3
    rw [← Hsp.out.2.1] at hl3b
    have hq2:=zk8 _ _ _ w3 hl3b
    rw [Hsv.out.1,Hsp.out.2.1] at hq2
    have hwl:=hb3.size
    have hl1 : wo.heap.size < w3.heap.size:=by
     obtain ⟨a',b',o',c',e1,e2,_,_,_,e6,_⟩:=hl3b
     have hne : (yU 1000000000 (zf m)).1 ≠ []:=fun h => by have:=Hsp.out.2.1;rw [h] at this;simp at this;omega
     have:=e2 hne
     cases e1
     have e7 : wo.heap.size = b':=by have:=Option.some.inj this;exact congrArg Addr.block this
     have:=e6 hne;omega
    have Hq2:=hid hq2;have Hb3:=hid hb3;have Hl1:=hid hl1
    clear hq2 hl3 hl3b hb3 Hq hwl hl1
    go_wp2_with fail
    refine Hq2.out.mono ?_
    rintro e w4 ⟨k4,rfl,hn4,hb4⟩
    have hl4:=hn4.limbs
    have hk4 : k4 = (zf (m / 1000000000)).length:=by
     obtain ⟨_,_,e1,_,_⟩:=hl4.shape
     cases e1;rfl
    subst hk4
    have hj:=HI.out.start Hm0.out Hb3.out hb4 rfl rfl hl4 Hl1.out
    have hr0 : zR (zf m) % 1000000000 = m % 1000000000:=by rw [qW]
    have Hj:=hid hj;have Hr0:=hid hr0
    have hfn:=zmQ
    clear hj hl4 hn4 hb4 hr0 Hq2
    go_wp2_with fail
    clear hfn
    go_loopg [3,6,22] 9 (fun gk o r i wx => ∃ (c r' : Nat) (outs' : List Nat),c ≤ 9 ∧ gk = 9 - c ∧ r = .int .u32 r' ∧ i = .int .i64 c ∧ r' < 1000000000 ∧ TxJ w2 wx o (.slice (some ⟨wo.heap.size,0,none⟩) (zf (m / 1000000000)).length (zf m).length) n (m / 1000000000) r' c outs')
    case atStart => exact ⟨0,m % 1000000000,outs,by omega,rfl,by first | rfl | rw [Hr0.out],rfl,by omega,Hj.out⟩
    case round =>
     clear Hj
     obtain ⟨c,r',outs',hc9,rfl,rfl,rfl,hr9,hJ⟩:=hrel
     have hol : outs'.length ≤ 1000000:=by
      have:=congrArg List.length hJ.val
      simp only [List.length_append] at this
      omega
     by_cases hc : c < 9
     ·
      obtain ⟨ao,co,rfl⟩:=yw hJ.own
      have hdig : 48 + r' % 10 < 256:=by omega
      have hown:=hJ.own.alloc (.cells #[.int .u8 ((48 + r' % 10 : Nat) : Int)] 5)
      have hpush:=fun w7 v' => hJ.push (w2:=w7) (v':=v') hc
      have hbase : w2.heap.size ≤ (wr.alloc (.cells #[.int .u8 ((48 + r' % 10 : Nat) : Int)] 5)).heap.size:=by have:=hJ.below.size;simp;omega
      have hcast : ((48 + r' % 10 : Nat) : Int) = 48 + (r' : Int) % 10:=by omega
      rw [hcast] at hown hpush hbase
      have Hown:=hid hown;have Hpush:=hid hpush;have Hol:=hid hol
      clear hown hpush hdig hcast hJ hol
      go_wp2_with (at_builtin;refine yc _ rfl (.tmp 24) (.tmp 29) 147 rfl w2.heap.size 5 i0 (.int .u8 0) 1 1 Tryz.underlying147 hi hz0 hz1 hz2 rfl (by decide) _ _ _ rfl Hown.out _ 1 1 [.int .u8 (48 + (r' : Int) % 10)] rfl rfl (xI _ _ _ _ rfl) (by intro u hu;rw [List.mem_singleton.1 hu];rfl) (by have:=Hol.out;simp only [maxLen];omega) (by have:=Hol.out;omega) hbase ?_;intro v' w7 hown7 hgrow7 hor7;have Hf7:=hid (Hpush.out _ _ hown7 hgrow7 hor7);obtain ⟨a7,c7,rfl⟩:=yw hown7;clear hown7 hgrow7 hor7)
      go_roundg (9 - (c + 1))
      case measure => omega
      case rel => exact ⟨c + 1,r' / 10,_,by omega,rfl,by go_num,by go_num,by omega,Hf7.out⟩
     ·
      obtain rfl : c = 9:=by omega
      have Hs:=hid hJ.stop
      clear hJ hol
      go_wp2_with fail
      go_roundg (m / 1000000000)
      case measure => have:=Hm0.out;omega
      case rel => exact ⟨m / 1000000000,outs',_,_,rfl,by omega,rfl,Hs.out⟩
