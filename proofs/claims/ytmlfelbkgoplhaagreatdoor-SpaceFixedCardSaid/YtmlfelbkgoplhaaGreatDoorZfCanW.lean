import Derived.Test.YtmlfelbkgoplhaaGreatDoorZfSolF
import Derived.Test.YtmlfelbkgoplhaaGreatDoorZfPkV
set_option linter.unusedVariables false
set_option linter.unusedSimpArgs false
namespace Go.Proofs.YtmlfelbkgoplhaaGreatDoor
open Go.RowKit
def zhQ (w : World) (md : Nat) (c : Cells) (v : Int) (is : Bool) : Prop:=∃ mq : List (Int × Value),MapOf w md (Value.int .i64) mq ∧ ∀ k x,assoc mq k = some x → x = .bool (jc c v is k)
theorem zhQ.lt {w : World} {md : Nat} {c : Cells} {v : Int} {is : Bool} (h : zhQ w md c v is) : md < w.heap.size:=by obtain ⟨mq,h1,_⟩:=h;exact h1.lt
theorem zhQ.below {w w' : World} {md : Nat} {c : Cells} {v : Int} {is : Bool} (h : zhQ w md c v is) (hb : Below w.heap.size w w') : zhQ w' md c v is:=by
 obtain ⟨mq,h1,h2⟩:=h;exact ⟨mq,h1.qc (hb.block _ h1.lt),h2⟩
theorem zdc (w : World) : (zeroValue 4).run Tryz.prog w = .ok (.bool false) w:=by kernel_rfl
structure zeT (w : World) (q : Nat) (s : Sb) (V : Int) (st : Sp) (all : Int) (md : Nat) (v : Int) (is : Bool) : Prop where
 sp : IsSpace w s V st
 bx : w.heap[q]? = some (.cells #[.pointer (some ⟨s.ps,0,none⟩),.int .i64 all] 40 (0,0))
 mp : zhQ w md st.c v is
 off1 : ¬ s.mem md
 off2 : s.ps ≠ md
 off3 : q ≠ md
section
variable {w w2 : World} {q : Nat} {s : Sb} {V : Int} {st : Sp} {all : Int} {md : Nat} {v : Int} {is : Bool}
theorem zeT.below (h : zeT w q s V st all md v is) (hb : Below w.heap.size w w2) : zeT w2 q s V st all md v is :=
 ⟨h.sp.below hb,(hb.block _ (zlb h.bx)).trans h.bx,h.mp.below hb,h.off1,h.off2,h.off3⟩
theorem zeT.step (h : zeT w q s V st all md v is) (ho : Only (· = md) w w2) (hm : zhQ w2 md st.c v is) : zeT w2 q s V st all md v is :=
 ⟨h.sp.only ho h.off2 (fun k hk e => h.off1 (e ▸ hk)),(ho.block _ (zlb h.bx) h.off3).trans h.bx,hm,h.off1,h.off2,h.off3⟩
theorem zeT.cells (h : zeT w q s V st all md v is) : w.cell? ⟨q,0,none⟩ = some (.pointer (some ⟨s.ps,0,none⟩)) ∧ w.cell? ⟨s.ps,0,none⟩ = some (.pointer (some ⟨s.b.p,0,none⟩)):=⟨(zbp h.bx).1,h.sp.s0⟩
theorem zeT.put {mq : List (Int × Value)} (h : zeT w q s V st all md v is) (hmv : ∀ k x,assoc mq k = some x → x = .bool (jc st.c v is k)) {k : Int} {b : Bool} (hb : b = jc st.c v is k) {o : Obj} (hm : MapOf (zF w md o) md (Value.int .i64) (zW mq k (.bool b))) : zhQ (zF w md o) md st.c v is ∧ Only (· = md) w (zF w md o):=by
 refine ⟨⟨_,hm,fun k' x hx => ?_⟩,⟨rfl,rfl,rfl,by simp [zF],fun k _ hk => yZ o hk⟩⟩
 rw [zcm] at hx
 split at hx
 · rename_i e;subst e;cases hx;rw [hb]
 · exact hmv k' x hx
end
structure zg2 (w : World) (nb : Nat) (u lo hi : Int) : Prop where
 blk : w.heap[nb]? = some (.cells #[.int .i64 u,.int .i64 lo,.int .i64 hi] 117 (0,0))
theorem zg2.cells {w : World} {nb : Nat} {u lo hi : Int} (h : zg2 w nb u lo hi) : w.cell? ⟨nb,0,none⟩ = some (.int .i64 u) ∧ w.cell? ⟨nb,1,none⟩ = some (.int .i64 lo) ∧ w.cell? ⟨nb,2,none⟩ = some (.int .i64 hi):=yR h.blk
theorem zg2.only {w w2 : World} {nb md : Nat} {u lo hi : Int} (h : zg2 w nb u lo hi) (ho : Only (· = md) w w2) (hne : nb ≠ md) : zg2 w2 nb u lo hi:=⟨(ho.block _ (zlb h.blk) hne).trans h.blk⟩
theorem zmP {c : Cells} (o : Ok c) {v : Int} {is : Bool} {h u lo hi : Int} (g : getM c h = some (u,lo,hi)) : jc c v is h = (((u != v) || is) && jc c v is hi || ((u != v) || !is) && jc c v is lo):=by
 rw [zg4 o g]
 have : (u != v) = decide (u ≠ v):=by by_cases e : u = v <;> simp [e]
 rw [this]
set_option maxRecDepth 100000 in
set_option maxHeartbeats 16000000 in
theorem zov (q : Nat) (s : Sb) (V : Int) (st : Sp) (all : Int) (md : Nat) (v : Int) (is : Bool) (o : Ok st.c) : ∀ (f : Nat) (h : Int) (w : World),zeT w q s V st all md v is → zG st.c h = true → (24 - zl st.c h).toNat < f →
 Calls Tryz.prog 121 #[.pointer (some ⟨q,0,none⟩),.int .i64 h,.int .i64 v,.bool is,.map (some md)] w fun e w' => e = .returned (.bool (jc st.c v is h)) ∧ zhQ w' md st.c v is ∧ Only (· = md) w w'
 | 0,_,_,_,_,hf => absurd hf (Nat.not_lt_zero _)
 | f + 1,h,w,hi0,hh,hf => by
  have Hih:=hid (zov q s V st all md v is o f)
  have hlen:=hi0.sp.ar.len
  have hR:=hi0.sp.ar.room.2
  have lh : h ≤ 9223372036854775807:=by have:=xB hh;omega
  obtain ⟨c0,c1⟩:=hi0.cells
  have hg:=zca h w s.b st.c hi0.sp.ar lh
  have lmd:=hi0.mp.lt
  have Hi:=hid hi0;have Hh:=hid hh;have Hf:=hid hf;have Ho:=hid o
  clear hi0 hh hf o hlen hR
  cases g : getM st.c h with
  | none =>
   rw [g] at hg
   have hcx:=zis (v:=v) (is:=is) g
   rw [hcx]
   have Hg:=hid hg;clear hg g hcx
   go_enter Tryz.func121,Tryz.ntmps121
   go_wp2_with fail
   refine Hg.out.mono ?_
   rintro e w1 ⟨rfl,rfl⟩
   simp only [zav,qy,Option.getD_none,Option.isSome_none]
   go_wp2_with fail
   go_ret
   have hb : Below w.heap.size w ((w.alloc (.cells #[.int .i64 0,.int .i64 0,.int .i64 0] 117)).alloc (.cells #[.int .i64 0,.int .i64 0,.int .i64 0] 117)):=(zba).alloc (by simp) _
   exact ⟨rfl,Hi.out.mp.below hb,Only.of_below hb rfl⟩
  | some n =>
   obtain ⟨u,lo,hi⟩:=n
   obtain ⟨b1,b2,k1,k2,k3,k4⟩:=Ho.out.kids g
   rw [g] at hg
   have hcx:=zmP (v:=v) (is:=is) Ho.out g
   have htop:=yt g
   dsimp only at b1 b2 k1 k2 k3 k4 htop
   have Hk1:=hid k1;have Hk2:=hid k2;have Hfl:=hid (show (24 - zl st.c lo).toNat < f ∧ (24 - zl st.c hi).toNat < f by have:=Hf.out;omega)
   have Hg:=hid hg;have Hcx:=hid hcx
   clear hg hcx g k1 k2 k3 k4 htop b1 b2
   obtain ⟨wN,hwN⟩ : ∃ wN,wN = ((w.alloc (.cells #[.int .i64 u,.int .i64 lo,.int .i64 hi] 117)).alloc (.cells #[.int .i64 u,.int .i64 lo,.int .i64 hi] 117)):=⟨_,rfl⟩
   have hbN : Below w.heap.size w wN:=by rw [hwN];exact (zba).alloc (by simp) _
   have hnN : zg2 wN (w.heap.size + 1) u lo hi:=⟨by rw [hwN];exact za (by simp)⟩
   have HiN:=hid (Hi.out.below hbN);have HbN:=hid hbN;have HnN:=hid hnN;have HwN:=hid hwN
   clear hbN hnN hwN
   go_enter Tryz.func121,Tryz.ntmps121
   go_wp2_with fail
   refine Hg.out.mono ?_
   rintro e w1 ⟨rfl,rfl⟩
   simp only [zav,qy,Option.getD_some,Option.isSome_some]
   obtain ⟨mq,hmq,hmv⟩:=HiN.out.mp
   have Hmq:=hid hmq;have Hmv:=hid hmv;clear hmq hmv
   cases ha : assoc mq h with
   | some x =>
    obtain rfl:=Hmv.out h x ha
    have Ha:=hid ha;clear ha
    go_upto_region 4 with fail
    rw [← HwN.out]
    go_wp2_with (at_lookup;refine xg rfl (.tmp 33) (.tmp 34) 215 true rfl (kt:=3) (et:=4) (enc:=Value.int .i64) (kg Tryz.underlying3) Tryz.underlying215 (zdc _) (b:=md) rfl (l:=mq) Hmq.out (k:=h) rfl ?_;rw [Ha.out];simp only [Option.getD_some,Option.isSome_some,if_true])
    go_ret
    exact ⟨rfl,HiN.out.mp,Only.of_below HbN.out rfl⟩
   | none =>
    have Ha:=hid ha;clear ha
    obtain ⟨n0,n1,n2⟩:=HnN.out.cells
    by_cases hu : u = v
    ·
     subst hu
     cases is with
     | true =>
      go_upto_region 4 with fail
      rw [← HwN.out]
      go_wp2_with (at_lookup;refine xg rfl (.tmp 33) (.tmp 34) 215 true rfl (kt:=3) (et:=4) (enc:=Value.int .i64) (kg Tryz.underlying3) Tryz.underlying215 (zdc _) (b:=md) rfl (l:=mq) Hmq.out (k:=h) rfl ?_;rw [Ha.out];simp only [Option.getD_none,Option.isSome_none,if_true])
      refine (Hih.out hi wN HiN.out Hk2.out Hfl.out.2).mono ?_
      rintro e w5 ⟨rfl,hm5,ho5⟩
      clear n0 n1 n2
      have hn5:=HnN.out.only ho5 (by omega)
      have hI5:=HiN.out.step ho5 hm5
      have hO5:=(Only.of_below (S:=(· = md)) HbN.out rfl).trans ho5
      have HI5:=hid hI5;have HO5:=hid hO5
      clear hm5 ho5 hI5 hO5
      have hcx:=Hcx.out
      obtain ⟨r,hr⟩ : ∃ r,r = jc st.c u true hi:=⟨_,rfl⟩
      rw [← hr] at hcx
      rw [← hr]
      have Hcx5:=hid hcx
      clear hr hcx
      cases r with
      | true =>
       obtain ⟨mq2,hmq2,hmv2⟩:=(HI5.out).mp
       have hHB : true = jc st.c u true h:=by rw [Hcx5.out];simp
       have Hmq2:=hid hmq2;have Hmv2:=hid hmv2;have HHB:=hid hHB;have HI9:=hid (HI5.out);have HO9:=hid (HO5.out)
       clear hmq2 hmv2 hHB
       go_wp2_with (at_mapUpdate;refine yu rfl (.tmp 75) (.tmp 76) (.tmp 77) 215 rfl (kt:=3) (et:=4) (enc:=Value.int .i64) (kg Tryz.underlying3) Tryz.underlying215 (b:=md) rfl (l:=mq2) Hmq2.out (k:=h) rfl (.bool (true)) rfl ?_;intro ob hob;have hput:=HI9.out.put Hmv2.out HHB.out hob;have Hput:=hid hput;clear hob hput Hmq2 Hmv2;generalize zF _ md ob = w11 at Hput ⊢)
       go_ret
       exact ⟨congrArg (fun b => Ending.returned (Value.bool b)) HHB.out,Hput.out.1,HO9.out.trans Hput.out.2⟩
      | false =>
       obtain ⟨n0,n1,n2⟩:=hn5.cells
       obtain ⟨mq2,hmq2,hmv2⟩:=(HI5.out).mp
       have hHB : false = jc st.c u true h:=by rw [Hcx5.out];simp
       have Hmq2:=hid hmq2;have Hmv2:=hid hmv2;have HHB:=hid hHB;have HI9:=hid (HI5.out);have HO9:=hid (HO5.out)
       clear hmq2 hmv2 hHB
       go_wp2_with (at_mapUpdate;refine yu rfl (.tmp 75) (.tmp 76) (.tmp 77) 215 rfl (kt:=3) (et:=4) (enc:=Value.int .i64) (kg Tryz.underlying3) Tryz.underlying215 (b:=md) rfl (l:=mq2) Hmq2.out (k:=h) rfl (.bool (false)) rfl ?_;intro ob hob;have hput:=HI9.out.put Hmv2.out HHB.out hob;have Hput:=hid hput;clear hob hput Hmq2 Hmv2;generalize zF _ md ob = w11 at Hput ⊢)
       go_ret
       exact ⟨congrArg (fun b => Ending.returned (Value.bool b)) HHB.out,Hput.out.1,HO9.out.trans Hput.out.2⟩
     | false =>
      go_upto_region 4 with fail
      rw [← HwN.out]
      go_wp2_with (at_lookup;refine xg rfl (.tmp 33) (.tmp 34) 215 true rfl (kt:=3) (et:=4) (enc:=Value.int .i64) (kg Tryz.underlying3) Tryz.underlying215 (zdc _) (b:=md) rfl (l:=mq) Hmq.out (k:=h) rfl ?_;rw [Ha.out];simp only [Option.getD_none,Option.isSome_none,if_true])
      refine (Hih.out lo wN HiN.out Hk1.out Hfl.out.1).mono ?_
      rintro e w5 ⟨rfl,hm5,ho5⟩
      clear n0 n1 n2
      have hI5:=HiN.out.step ho5 hm5
      have hO5:=(Only.of_below (S:=(· = md)) HbN.out rfl).trans ho5
      have HI5:=hid hI5;have HO5:=hid hO5
      clear hm5 ho5 hI5 hO5
      obtain ⟨mq2,hmq2,hmv2⟩:=(HI5.out).mp
      have hHB : jc st.c u false lo = jc st.c u false h:=by rw [Hcx.out];simp
      have Hmq2:=hid hmq2;have Hmv2:=hid hmv2;have HHB:=hid hHB;have HI9:=hid (HI5.out);have HO9:=hid (HO5.out)
      clear hmq2 hmv2 hHB
      go_wp2_with (at_mapUpdate;refine yu rfl (.tmp 75) (.tmp 76) (.tmp 77) 215 rfl (kt:=3) (et:=4) (enc:=Value.int .i64) (kg Tryz.underlying3) Tryz.underlying215 (b:=md) rfl (l:=mq2) Hmq2.out (k:=h) rfl (.bool (jc st.c u false lo)) rfl ?_;intro ob hob;have hput:=HI9.out.put Hmv2.out HHB.out hob;have Hput:=hid hput;clear hob hput Hmq2 Hmv2;generalize zF _ md ob = w11 at Hput ⊢)
      go_ret
      exact ⟨congrArg (fun b => Ending.returned (Value.bool b)) HHB.out,Hput.out.1,HO9.out.trans Hput.out.2⟩
    ·
     have t1 : (u != v) = true:=bne_iff_ne.2 hu
     go_upto_region 4 with fail
     rw [← HwN.out]
     go_wp2_with (at_lookup;refine xg rfl (.tmp 33) (.tmp 34) 215 true rfl (kt:=3) (et:=4) (enc:=Value.int .i64) (kg Tryz.underlying3) Tryz.underlying215 (zdc _) (b:=md) rfl (l:=mq) Hmq.out (k:=h) rfl ?_;rw [Ha.out];simp only [Option.getD_none,Option.isSome_none,if_true])
     refine (Hih.out hi wN HiN.out Hk2.out Hfl.out.2).mono ?_
     rintro e w5 ⟨rfl,hm5,ho5⟩
     have hcx:=Hcx.out
     obtain ⟨r,hr⟩ : ∃ r,r = jc st.c v is hi:=⟨_,rfl⟩
     rw [← hr,t1] at hcx
     rw [← hr]
     have hI5:=HiN.out.step ho5 hm5
     have hO5:=(Only.of_below (S:=(· = md)) HbN.out rfl).trans ho5
     have hn5:=HnN.out.only ho5 (by omega)
     have HI5:=hid hI5;have HO5:=hid hO5;have Hcx5:=hid hcx
     clear n0 n1 n2 hm5 ho5 hI5 hO5 hr hcx
     cases r with
     | true =>
      obtain ⟨mq2,hmq2,hmv2⟩:=(HI5.out).mp
      have hHB : true = jc st.c v is h:=by rw [Hcx5.out];simp
      have Hmq2:=hid hmq2;have Hmv2:=hid hmv2;have HHB:=hid hHB;have HI9:=hid (HI5.out);have HO9:=hid (HO5.out)
      clear hmq2 hmv2 hHB
      go_wp2_with (at_mapUpdate;refine yu rfl (.tmp 75) (.tmp 76) (.tmp 77) 215 rfl (kt:=3) (et:=4) (enc:=Value.int .i64) (kg Tryz.underlying3) Tryz.underlying215 (b:=md) rfl (l:=mq2) Hmq2.out (k:=h) rfl (.bool (true)) rfl ?_;intro ob hob;have hput:=HI9.out.put Hmv2.out HHB.out hob;have Hput:=hid hput;clear hob hput Hmq2 Hmv2;generalize zF _ md ob = w11 at Hput ⊢)
      go_ret
      exact ⟨congrArg (fun b => Ending.returned (Value.bool b)) HHB.out,Hput.out.1,HO9.out.trans Hput.out.2⟩
     | false =>
      obtain ⟨n0,n1,n2⟩:=hn5.cells
      go_wp2_with fail
      refine (Hih.out lo w5 HI5.out Hk1.out Hfl.out.1).mono ?_
      rintro e w6 ⟨rfl,hm6,ho6⟩
      clear n0 n1 n2 hn5
      have hI6:=HI5.out.step ho6 hm6
      have hO6:=HO5.out.trans ho6
      have HI6:=hid hI6;have HO6:=hid hO6
      clear hm6 ho6 hI6 hO6
      obtain ⟨mq2,hmq2,hmv2⟩:=(HI6.out).mp
      have hHB : jc st.c v is lo = jc st.c v is h:=by rw [Hcx5.out];simp
      have Hmq2:=hid hmq2;have Hmv2:=hid hmv2;have HHB:=hid hHB;have HI9:=hid (HI6.out);have HO9:=hid (HO6.out)
      clear hmq2 hmv2 hHB
      go_wp2_with (at_mapUpdate;refine yu rfl (.tmp 75) (.tmp 76) (.tmp 77) 215 rfl (kt:=3) (et:=4) (enc:=Value.int .i64) (kg Tryz.underlying3) Tryz.underlying215 (b:=md) rfl (l:=mq2) Hmq2.out (k:=h) rfl (.bool (jc st.c v is lo)) rfl ?_;intro ob hob;have hput:=HI9.out.put Hmv2.out HHB.out hob;have Hput:=hid hput;clear hob hput Hmq2 Hmv2;generalize zF _ md ob = w11 at Hput ⊢)
      go_ret
      exact ⟨congrArg (fun b => Ending.returned (Value.bool b)) HHB.out,Hput.out.1,HO9.out.trans Hput.out.2⟩
