import Derived.Test.YtmlfelbkgoplhaaGreatDoorZfPkJ
import Derived.Test.YtmlfelbkgoplhaaGreatDoorZfPkF
import Derived.Test.YtmlfelbkgoplhaaGreatDoorZfRow
import Derived.Deep.Slices
import Derived.Lib.SmallJoins
import Derived.Laws.Bits64b
set_option linter.unusedVariables false
namespace Go.Proofs.YtmlfelbkgoplhaaGreatDoor
open Go.RowKit
def enc4 (k : Int × Int × Int × Int) : Value:=.agg #[.int .i64 k.1,.int .i64 k.2.1,.int .i64 k.2.2.1,.int .i64 k.2.2.2]
theorem zry (a b c d a' b' c' d' : Int) (w : World) : (Op.equalIn 10000 289 (.agg #[.int .i64 a,.int .i64 b,.int .i64 c,.int .i64 d]) (.agg #[.int .i64 a',.int .i64 b',.int .i64 c',.int .i64 d'])).run Tryz.prog w = .ok (decide ((a,b,c,d) = (a',b',c',d'))) w:=by
 have u3:=Tryz.underlying3
 have a3:=Tryz.isAgg3
 have z3:=Tryz.sizeOf3
 rw [show (10000 : Nat) = 9999 + 1 from rfl,Op.equalIn]
 simp only [Sem.run_bind,run_underlying Tryz.underlying289,Result.andThen_ok]
 simp only [Std.Legacy.Range.forIn_eq_forIn_range',Std.Legacy.Range.size,Nat.sub_zero,Nat.add_sub_cancel,Nat.div_one,List.range'_succ,List.range'_zero,List.forIn_cons,List.forIn_nil]
 go_simp
 by_cases h1 : a = a' <;> by_cases h2 : b = b' <;> by_cases h3 : c = c' <;> by_cases h4 : d = d' <;> simp [h1,h2,h3,h4]
theorem zro (n : Nat) (b : Bool) (x y z u : Int) (w : World) : (Instr.checkKey b (n + 1 + 1) 289 (.agg #[.int .i64 x,.int .i64 y,.int .i64 z,.int .i64 u])).run Tryz.prog w = .ok () w:=by
 have u3:=Tryz.underlying3
 have a3:=Tryz.isAgg3
 have z3:=Tryz.sizeOf3
 have k3:=fun x w => zdb (P:=Tryz.prog) u3 n b x w
 rw [Instr.checkKey]
 simp only [Sem.run_bind,run_underlying Tryz.underlying289,Result.andThen_ok]
 simp only [Std.Legacy.Range.forIn_eq_forIn_range',Std.Legacy.Range.size,Nat.sub_zero,Nat.add_sub_cancel,Nat.div_one,List.range'_succ,List.range'_zero,List.forIn_cons,List.forIn_nil]
 go_simp
theorem key4 : zeR Tryz.prog 289 enc4 :=
 zrM _ Tryz.underlying289 (fun a b => by cases a <;> cases b <;> rfl) (fun x y w => by
  obtain ⟨a,b,c,d⟩:=x
  obtain ⟨a',b',c',d'⟩:=y
  exact zry a b c d a' b' c' d' w) (fun b n w => zro 9998 b n.1 n.2.1 n.2.2.1 n.2.2.2 w) (fun n => by simp [enc4,Instr.sameBits])
structure Sb where
 ps : Nat
 b : Bk
 mc : Nat
def Sb.mem (s : Sb) (k : Nat) : Prop:=s.b.mem k ∨ k = s.mc
structure IsSpace (w : World) (s : Sb) (V : Int) (st : Sp) : Prop where
 blk : w.heap[s.ps]? = some (.cells #[.pointer (some ⟨s.b.p,0,none⟩),.int .i64 V,.map (some s.mc)] 115 (0,0))
 ar : zK w s.b st.c
 map : ∃ mq,MapOf w s.mc enc4 mq ∧ ∀ a b c,assoc mq (0,a,b,c) = (st.q (a,b,c)).map (Value.int .i64)
 off : ¬ s.mem s.ps
 off2 : ¬ s.b.mem s.mc
section
variable {w w2 : World} {s : Sb} {V : Int} {st : Sp}
theorem IsSpace.lps (h : IsSpace w s V st) : s.ps < w.heap.size:=(Array.getElem?_eq_some_iff.1 h.blk).1
theorem IsSpace.lt (h : IsSpace w s V st) {k : Nat} (hk : s.mem k) : k < w.heap.size:=by
 rcases hk with hk | rfl
 · exact h.ar.lt hk
 · obtain ⟨mq,hm,_⟩:=h.map;exact hm.lt
theorem IsSpace.s0 (h : IsSpace w s V st) : w.cell? ⟨s.ps,0,none⟩ = some (.pointer (some ⟨s.b.p,0,none⟩)):=by rw [cell_of_row w _ _ _ _ _ h.blk];rfl
theorem IsSpace.s1 (h : IsSpace w s V st) : w.cell? ⟨s.ps,1,none⟩ = some (.int .i64 V):=by rw [cell_of_row w _ _ _ _ _ h.blk];rfl
theorem IsSpace.s2 (h : IsSpace w s V st) : w.cell? ⟨s.ps,2,none⟩ = some (.map (some s.mc)):=by rw [cell_of_row w _ _ _ _ _ h.blk];rfl
theorem IsSpace.below (h : IsSpace w s V st) (hb : Below w.heap.size w w2) : IsSpace w2 s V st:=by
 obtain ⟨mq,hm,hq⟩:=h.map
 exact ⟨by rw [hb.block _ h.lps];exact h.blk,h.ar.below hb,⟨mq,hm.qc (hb.block _ hm.lt),hq⟩,h.off,h.off2⟩
theorem IsSpace.arena (h : IsSpace w s V st) {c : Cells} (ho : Only s.b.mem w w2) (ha : zK w2 s.b c) : IsSpace w2 s V ⟨c,st.q⟩:=by
 obtain ⟨mq,hm,hq⟩:=h.map
 exact ⟨by rw [ho.block _ h.lps (fun e => h.off (.inl e))];exact h.blk,ha,⟨mq,hm.qc (ho.block _ hm.lt h.off2),hq⟩,h.off,h.off2⟩
theorem IsSpace.only {S : Nat → Prop} (h : IsSpace w s V st) (ho : Only S w w2) (h1 : ¬ S s.ps) (h2 : ∀ k,s.mem k → ¬ S k) : IsSpace w2 s V st:=by
 obtain ⟨mq,hm,hq⟩:=h.map
 exact ⟨by rw [ho.block _ h.lps h1];exact h.blk,h.ar.only ho (fun k hk => h2 k (.inl hk)),⟨mq,hm.qc (ho.block _ hm.lt (h2 _ (.inr rfl))),hq⟩,h.off,h.off2⟩
theorem IsSpace.put (h : IsSpace w s V st) {mq : List ((Int × Int × Int × Int) × Value)} (hq : ∀ a b c,assoc mq (0,a,b,c) = (st.q (a,b,c)).map (Value.int .i64)) {a b c x : Int} {o : Obj} (hm : MapOf (zF w s.mc o) s.mc enc4 (zW mq (0,a,b,c) (.int .i64 x))) :
 IsSpace (zF w s.mc o) s V ⟨st.c,zl5 st.q (a,b,c) x⟩:=by
 have ho : Only (· = s.mc) w (zF w s.mc o):=⟨rfl,rfl,rfl,by simp [zF],fun k _ hk => yZ o hk⟩
 refine ⟨by rw [ho.block _ h.lps (fun e => h.off (.inr e))];exact h.blk,h.ar.only ho (fun k hk e => h.off2 (e ▸ hk)),⟨_,hm,fun a' b' c' => ?_⟩,h.off,h.off2⟩
 rw [zcm]
 unfold zl5
 by_cases e : (a,b,c) = (a',b',c')
 ·
  simp only [Prod.mk.injEq] at e
  obtain ⟨rfl,rfl,rfl⟩:=e
  simp
 · dsimp only;rw [if_neg e,if_neg (fun e2 => e (by simpa using e2))];exact hq a' b' c'
end
def noQ : Int × Int × Int → Option Int:=fun _ => none
set_option maxHeartbeats 2000000 in
theorem zn9 (V : Int) (R : Nat) (w : World) (hV0 : 0 ≤ V) (hV : V ≤ 24) (h1 : 1 ≤ R) (h2 : R ≤ 4000) :
 Calls Tryz.prog 46 #[.int .i64 V,.int .i64 R] w fun e w' => (∃ s : Sb,e = .returned (.tuple #[.pointer (some ⟨s.ps,0,none⟩),.nilIface]) ∧ s.b.R = R ∧ IsSpace w' s V ⟨List.replicate R none,noQ⟩ ∧ w.heap.size ≤ s.ps ∧ ∀ k,s.mem k → w.heap.size ≤ k) ∧ Below w.heap.size w w':=by
 have hmm:=@run_makeMap Tryz.prog
 go_enter Tryz.func46,Tryz.ntmps46
 go_wp2_with fail
 refine (znW R w h1 h2).mono ?_
 rintro e w1 ⟨⟨b,rfl,hR,ha,hm⟩,hb1⟩
 have Ha:=hid ha;have Hm:=hid hm;have Hb1:=hid hb1;have HR:=hid hR
 clear ha hm hb1 hR
 go_wp2_with fail
 go_ret2
 have hb2 : Below w1.heap.size w1 ((w1.alloc (.map #[] 0)).alloc (.cells #[.pointer (some ⟨b.p,0,none⟩),.int .i64 V,.map (some w1.heap.size)] 115)):=(zba).alloc (by simp) _
 refine ⟨⟨⟨w1.heap.size + 1,b,w1.heap.size⟩,rfl,HR.out,⟨za (by simp only [zy]),Ha.out.below hb2,⟨[],(zcc w1 enc4).below ((Below.refl _ _).alloc (by simp) _),fun _ _ _ => rfl⟩,?_,?_⟩,?_,?_⟩,Hb1.out.trans (hb2.mono Hb1.out.size)⟩
 ·
  rintro (h | h)
  · have:=Ha.out.lt h;dsimp only at this;omega
  · dsimp only at h;omega
 · intro h;have:=Ha.out.lt h;dsimp only at this;omega
 · have:=Hb1.out.size;dsimp only;omega
 ·
  rintro k (h | rfl)
  · exact Hm.out k h
  · exact Hb1.out.size
set_option maxHeartbeats 1000000 in
theorem zft (v l h : Int) (w : World) (s : Sb) (V : Int) (st : Sp) (hs : IsSpace w s V st) (hl : l ≤ 9223372036854775807) (hh : h ≤ 9223372036854775807) :
 Calls Tryz.prog 158 #[.pointer (some ⟨s.ps,0,none⟩),.int .i64 v,.int .i64 l,.int .i64 h] w fun e w' =>
  e = .returned (.tuple #[.int .i64 (qj st.c v l h).2.1,zdX (qj st.c v l h).2.2]) ∧ IsSpace w' s V ⟨(qj st.c v l h).1,st.q⟩ ∧ Only s.b.mem w w':=by
 by_cases e : l = h
 ·
  subst e
  have hn : qj st.c v l l = (st.c,l,0):=by unfold qj;rw [if_pos rfl]
  rw [hn]
  have Hs:=hid hs;clear hs hn
  go_enter Tryz.func158,Tryz.ntmps158
  go_wp2_with fail
  go_ret2
  exact ⟨rfl,Hs.out,Only.refl _ _⟩
 ·
  have hn : qj st.c v l h = mkM st.c (v,l,h):=by unfold qj;rw [if_neg e]
  rw [hn]
  have e0 : (l == h) = false:=by simpa using e
  have c0:=hs.s0
  have hm:=znj (v,l,h) w s.b st.c hs.ar hl hh
  unfold qy je at hm
  dsimp only at hm
  have Hs:=hid hs;have Hm:=hid hm;clear hs hm hn e
  go_enter Tryz.func158,Tryz.ntmps158
  go_wp2_with fail
  refine Hm.out.mono ?_
  rintro e w1 ⟨rfl,ha,ho⟩
  have Ha:=hid ha;have Ho:=hid ho;clear ha ho
  go_wp2_with fail
  go_ret2
  exact ⟨rfl,Hs.out.arena Ho.out Ha.out,Ho.out⟩
set_option maxRecDepth 100000 in
set_option maxHeartbeats 1000000 in
theorem zhV (h v : Int) (w : World) (s : Sb) (V : Int) (st : Sp) (hs : IsSpace w s V st) (hh : h ≤ 9223372036854775807) :
 Calls Tryz.prog 198 #[.pointer (some ⟨s.ps,0,none⟩),.int .i64 h,.int .i64 v] w fun e w' =>
  e = .returned (.tuple #[.int .i64 (atM st.c h v).1,.int .i64 (atM st.c h v).2]) ∧ Below w.heap.size w w':=by
 have c0:=hs.s0
 have lp:=hs.lps
 have hg:=zca h w s.b st.c hs.ar hh
 have Hs:=hid hs;clear hs
 cases g : getM st.c h with
 | none =>
  have ha : atM st.c h v = (h,h):=by unfold atM;rw [g]
  rw [ha]
  rw [g] at hg
  have Hg:=hid hg;have G:=hid g;clear hg g ha
  go_enter Tryz.func198,Tryz.ntmps198
  go_wp2_with fail
  refine Hg.out.mono ?_
  rintro e w1 ⟨rfl,rfl⟩
  simp only [zav,qy,Option.getD_none,Option.isSome_none]
  go_wp2_with fail
  go_ret2
  exact ⟨rfl,(zba).alloc (by simp) _⟩
 | some n =>
  obtain ⟨a,l,u⟩:=n
  rw [g] at hg
  by_cases e : a = v
  ·
   subst e
   have ha : atM st.c h a = (l,u):=by unfold atM;rw [g];simp
   rw [ha]
   have Hg:=hid hg;have G:=hid g;clear hg g ha
   go_enter Tryz.func198,Tryz.ntmps198
   go_wp2_with fail
   refine Hg.out.mono ?_
   rintro e w1 ⟨rfl,rfl⟩
   simp only [zav,qy,Option.getD_some,Option.isSome_some]
   go_wp2_with fail
   go_quiet (fail)
   go_wp2_with fail
   go_ret2
   exact ⟨rfl,qh ((zba).alloc (by simp) _) _⟩
  ·
   have ha : atM st.c h v = (h,h):=by unfold atM;rw [g];simp [e]
   have e0 : (a == v) = false:=by simpa using e
   rw [ha]
   have Hg:=hid hg;have G:=hid g;clear hg g ha e
   go_enter Tryz.func198,Tryz.ntmps198
   go_wp2_with fail
   refine Hg.out.mono ?_
   rintro e w1 ⟨rfl,rfl⟩
   simp only [zav,qy,Option.getD_some,Option.isSome_some]
   go_wp2_with fail
   go_ret2
   exact ⟨rfl,(zba).alloc (by simp) _⟩
def zgg (s : Sb) (V : Int) (r : Sp × Int × Nat) (w : World) (e : Ending) (w' : World) : Prop :=
 e = .returned (.tuple #[.int .i64 r.2.1,zdX r.2.2]) ∧ IsSpace w' s V r.1 ∧ Only s.mem w w'
structure ISt (w wr : World) (s : Sb) (V : Int) (st : Sp) (a b c : Int) : Prop where
 sp : IsSpace wr s V st
 only : Only s.mem w wr
 lt : w.heap.size < wr.heap.size
 off : ∀ k,s.mem k → k < w.heap.size
 b0 : wr.cell? ⟨w.heap.size,0,none⟩ = some (.int .i64 0)
 b1 : wr.cell? ⟨w.heap.size,1,none⟩ = some (.int .i64 a)
 b2 : wr.cell? ⟨w.heap.size,2,none⟩ = some (.int .i64 b)
 b3 : wr.cell? ⟨w.heap.size,3,none⟩ = some (.int .i64 c)
section
variable {w wr w2 : World} {s : Sb} {V : Int} {st st' : Sp} {a b c : Int}
theorem ISt.grow (h : ISt w wr s V st a b c) (hb : Below wr.heap.size wr w2) : ISt w w2 s V st a b c :=
 ⟨h.sp.below hb,h.only.trans (Only.of_below hb rfl),Nat.lt_of_lt_of_le h.lt hb.size,h.off,(hb.cell h.lt).trans h.b0,(hb.cell h.lt).trans h.b1,(hb.cell h.lt).trans h.b2,(hb.cell h.lt).trans h.b3⟩
theorem ISt.step (h : ISt w wr s V st a b c) (ho : Only s.mem wr w2) (hs : IsSpace w2 s V st') : ISt w w2 s V st' a b c:=by
 have hn : ¬ s.mem w.heap.size:=fun hk => by have:=h.off _ hk;omega
 exact ⟨hs,h.only.trans ho,Nat.lt_of_lt_of_le h.lt ho.size,h.off,(ho.cell h.lt hn).trans h.b0,(ho.cell h.lt hn).trans h.b1,(ho.cell h.lt hn).trans h.b2,(ho.cell h.lt hn).trans h.b3⟩
theorem zmb (h : IsSpace w s V st) : ISt w (w.alloc (.cells #[.int .i64 0,.int .i64 a,.int .i64 b,.int .i64 c] 289)) s V st a b c:=by
 have hb : Below w.heap.size w (w.alloc (.cells #[.int .i64 0,.int .i64 a,.int .i64 b,.int .i64 c] 289)):=zba
 exact ⟨h.below hb,Only.of_below hb rfl,by simp,fun k hk => h.lt hk,by simp,by simp,by simp,by simp⟩
end
theorem Sb.sub (s : Sb) : ∀ k,s.b.mem k → s.mem k:=fun k hk => .inl hk
set_option maxRecDepth 100000 in
set_option maxHeartbeats 8000000 in
theorem znL (V : Int) (hV : V ≤ 24) : ∀ (f : Nat) (a b c : Int) (w : World) (s : Sb) (st : Sp),IsSpace w s V st → SOk V st → zG st.c a = true → zG st.c b = true → zG st.c c = true →
 (24 - yJ (zl st.c a) (zl st.c b) (zl st.c c)).toNat < f → cnt st.c + 2 ^ (V - yJ (zl st.c a) (zl st.c b) (zl st.c c)).toNat ≤ st.c.length + 1 →
 Calls Tryz.prog 159 #[.pointer (some ⟨s.ps,0,none⟩),.int .i64 a,.int .i64 b,.int .i64 c] w (zgg s V (qJ f st a b c) w)
 | 0,_,_,_,_,_,_,_,_,_,_,_,hf,_ => absurd hf (Nat.not_lt_zero _)
 | f + 1,a,b,c,w,s,st,hs,so,ha,hb,hc,hf,hr => by
  have Hih:=hid (znL V hV f)
  have Hs:=hid hs;have Hso:=hid so;have Hha:=hid ha;have Hhb:=hid hb;have Hhc:=hid hc;have Hf:=hid hf;have Hr:=hid hr
  have hlen:=hs.ar.len
  have hR:=hs.ar.room.2
  have la : a ≤ 9223372036854775807:=by have:=xB ha;omega
  have lb : b ≤ 9223372036854775807:=by have:=xB hb;omega
  have lc : c ≤ 9223372036854775807:=by have:=xB hc;omega
  have Hlen:=hid hlen
  clear hs so ha hb hc hf hr hlen hR
  by_cases h1 : a = 1 ∨ b = c
  ·
   have e : qJ (f + 1) st a b c = (st,b,0):=by rw [qJ,if_pos h1]
   rw [e]
   clear e
   rcases h1 with rfl | rfl
   ·
    go_enter Tryz.func159,Tryz.ntmps159
    go_wp2_with fail
    go_ret2
    exact ⟨rfl,Hs.out,Only.refl _ _⟩
   ·
    by_cases h2 : a = 1
    ·
     subst h2
     go_enter Tryz.func159,Tryz.ntmps159
     go_wp2_with fail
     go_ret2
     exact ⟨rfl,Hs.out,Only.refl _ _⟩
    ·
     have e1 : (a == 1) = false:=by simpa using h2
     clear h2
     go_enter Tryz.func159,Tryz.ntmps159
     go_wp2_with fail
     go_ret2
     exact ⟨rfl,Hs.out,Only.refl _ _⟩
  ·
   have e1 : (a == 1) = false:=by simp;exact fun e => h1 (.inl e)
   have e2 : (b == c) = false:=by simp;exact fun e => h1 (.inr e)
   by_cases h0 : a = 0
   ·
    have e : qJ (f + 1) st a b c = (st,c,0):=by rw [qJ,if_neg h1,if_pos h0]
    rw [e]
    clear e h1
    subst h0
    go_enter Tryz.func159,Tryz.ntmps159
    go_wp2_with fail
    go_ret2
    exact ⟨rfl,Hs.out,Only.refl _ _⟩
   ·
    have e3 : (a == 0) = false:=by simpa using h0
    obtain ⟨mq,hmq,hmv⟩:=Hs.out.map
    have hi0:=zmb (a:=a) (b:=b) (c:=c) Hs.out
    have hlk0:=fun n => ((hmq.below (w':=(w.alloc (.cells #[.int .i64 0,.int .i64 a,.int .i64 b,.int .i64 c] 289)).drewN n) (qh ((Below.refl _ _).alloc (Nat.succ_le_of_lt hmq.lt) _) n)).lookup (P:=Tryz.prog) (kt:=289) (et:=3) (t:=113) key4 Tryz.underlying113 (zle _) (0,a,b,c) true)
    simp only [enc4,if_true,hmv] at hlk0
    have H1:=hid h1;have H0:=hid h0;have Hmq:=hid hmq;have Hmv:=hid hmv
    clear h1 h0 hmq hmv
    cases hq : st.q (a,b,c) with
    | some h =>
     have e : qJ (f + 1) st a b c = (st,h,0):=by rw [qJ,if_neg H1.out,if_neg H0.out,Hso.out.hit,hq]
     have hh:=(Hso.out.mem a b c h hq).2.2.2.1
     rw [e]
     rw [hq] at hlk0
     simp only [Option.map_some,Option.getD_some,Option.isSome_some] at hlk0
     have lh : h ≤ 9223372036854775807:=by have:=xB hh;have:=Hlen.out;have:=Hs.out.ar.room.2;omega
     have Hi0:=hid hi0;have Hlk:=hid hlk0;have Hhh:=hid hh
     clear hi0 hlk0 hh hq e
     go_enter Tryz.func159,Tryz.ntmps159
     go_wp2_with fail
     have hi:=Hi0.out
     have hlk:=Hlk.out
     clear Hi0 Hlk
     generalize w.alloc (.cells #[.int .i64 0,.int .i64 a,.int .i64 b,.int .i64 c] 289) = w0 at hi hlk ⊢
     have c2:=hi.sp.s2
     have b0:=hi.b0
     have b1:=hi.b1
     have b2:=hi.b2
     have b3:=hi.b3
     have Hi:=hid hi;clear hi
     go_quiet (fail)
     have hi2:=Hi.out.grow (w2:=w0.drewN nq) (qh (Below.refl _ _) nq)
     have c0:=hi2.sp.s0
     have hha:=yN h (w0.drewN nq) s.b st.c hi2.sp.ar lh
     rw [Hhh.out] at hha
     have Hi2:=hid hi2;have Hha:=hid hha
     clear hi2 hha hlk c2 b0 b1 b2 b3 Hi
     go_wp2_with fail
     refine Hha.out.mono ?_
     rintro e w' ⟨rfl,rfl⟩
     go_wp2_with fail
     go_ret2
     exact ⟨rfl,Hi2.out.sp,Hi2.out.only⟩
    | none =>
     rw [hq] at hlk0
     simp only [Option.map_none,Option.getD_none,Option.isSome_none] at hlk0
     obtain ⟨v,hv⟩ : ∃ v,v = yJ (zl st.c a) (zl st.c b) (zl st.c c):=⟨_,rfl⟩
     obtain ⟨R1,R2,R3,hR1,hR2,hR3,he,A,B,C,hvV,f1,r1,f2,r2,er1,er2,er3,so1,so2,E1,E2,hh1,hh2⟩:=zlp hV Hso.out Hha.out Hhb.out Hhc.out Hf.out Hr.out H1.out H0.out hq hv
     rw [he]
     obtain ⟨ta,hta⟩ : ∃ t,t = zl st.c a:=⟨_,rfl⟩
     obtain ⟨tb,htb⟩ : ∃ t,t = zl st.c b:=⟨_,rfl⟩
     obtain ⟨tc,htc⟩ : ∃ t,t = zl st.c c:=⟨_,rfl⟩
     have hmin : (if tc < (if tb < ta then tb else ta) then tc else (if tb < ta then tb else ta)) = v:=by
      rw [hv,← hta,← htb,← htc];unfold yJ
      split <;> split <;> omega
     have hm1:=A.zdH;have hm2:=B.zdH;have hm3:=C.zdH
     have hv24 : v < 24:=by omega
     have len1:=E1.len;have len2:=E2.len
     have l1 : R1.2.1 ≤ 9223372036854775807:=by have:=xB hh1;have:=Hlen.out;have:=Hs.out.ar.room.2;omega
     have l2 : R2.2.1 ≤ 9223372036854775807:=by have:=xB hh2;have:=Hlen.out;have:=Hs.out.ar.room.2;omega
     have Hi0:=hid hi0;have Hlk:=hid hlk0;have Hta:=hid hta.symm;have Htb:=hid htb.symm;have Htc:=hid htc.symm;have Hmin:=hid hmin
     have HA:=hid A;have HB:=hid B;have HC:=hid C;have Hf1:=hid f1;have Hr1:=hid r1;have Hf2:=hid f2;have Hr2:=hid r2;have Her1:=hid er1;have Her2:=hid er2;have Her3:=hid er3
     have Hso1:=hid so1;have Hso2:=hid so2;have HE1:=hid E1;have HE2:=hid E2;have Hh1:=hid hh1;have Hh2:=hid hh2;have HR1:=hid hR1;have HR2:=hid hR2;have HR3:=hid hR3
     clear hi0 hlk0 hta htb htc hmin hm1 hm2 hm3 A B C f1 r1 f2 r2 er1 er2 er3 so1 so2 E1 E2 hh1 hh2 hR1 hR2 hR3 he hq hv len1 len2
     go_enter Tryz.func159,Tryz.ntmps159
     go_wp2_with fail
     have hi:=Hi0.out
     have hlk:=Hlk.out
     clear Hi0 Hlk
     generalize w.alloc (.cells #[.int .i64 0,.int .i64 a,.int .i64 b,.int .i64 c] 289) = w0 at hi hlk ⊢
     have c2:=hi.sp.s2
     have b0:=hi.b0
     have b1:=hi.b1
     have b2:=hi.b2
     have b3:=hi.b3
     have Hi:=hid hi;clear hi
     go_quiet (fail)
     have hi2:=Hi.out.grow (w2:=w0.drewN nq) (qh (Below.refl _ _) nq)
     clear hlk c2 b0 b1 b2 b3 Hi
     generalize w0.drewN nq = wq at hi2 ⊢
     have Hi0:=hid hi2;clear hi2
     go_wp2_with fail
     refine jb (fun w' => ISt w w' s V st a b c) (by kernel_rfl) (by kernel_rfl) (Hi0.out.grow (Below.refl _ _).drew) ?_
     go_big_quiet_want
     go_big_quiet_op
     go_big_quiet_on
     go_big_quiet_want
     refine zC (.pointer (some ⟨s.ps,0,none⟩)) (fun w' hc => by go_simp) ?_
     simp [Act.put]
     go_big_quiet_on
     go_big_quiet_want
     refine zC (.pointer (some ⟨s.ps,0,none⟩)) (fun w' hc => by go_simp) ?_
     simp [Act.put]
     go_big_quiet_on
     go_big_quiet_want
     refine zC (.pointer (some ⟨s.b.p,0,none⟩)) (fun w' hc => by have c0:=hc.sp.s0;go_simp) ?_
     simp [Act.put]
     go_big_quiet_on
     go_big_quiet_want
     go_big_quiet_op
     go_big_quiet_on
     go_big_quiet_want
     refine qQ (.int .i64 ta) 59 #[.pointer (some ⟨s.b.p,0,none⟩),.int .i64 a] (fun w' => by go_simp) (fun w' hc => (jv a w' s.b st.c hc.sp.ar la).mono fun e w2 he => ⟨by rw [← Hta.out];exact he.1,hc.grow he.2⟩) ?_
     simp [Act.put]
     go_big_quiet_on
     go_big_quiet_want
     go_big_quiet_op
     go_big_quiet_on
     go_big_quiet_want
     refine zC (.pointer (some ⟨s.ps,0,none⟩)) (fun w' hc => by go_simp) ?_
     simp [Act.put]
     go_big_quiet_on
     go_big_quiet_want
     refine zC (.pointer (some ⟨s.ps,0,none⟩)) (fun w' hc => by go_simp) ?_
     simp [Act.put]
     go_big_quiet_on
     go_big_quiet_want
     refine zC (.pointer (some ⟨s.b.p,0,none⟩)) (fun w' hc => by have c0:=hc.sp.s0;go_simp) ?_
     simp [Act.put]
     go_big_quiet_on
     go_big_quiet_want
     go_big_quiet_op
     go_big_quiet_on
     go_big_quiet_want
     refine qQ (.int .i64 tb) 59 #[.pointer (some ⟨s.b.p,0,none⟩),.int .i64 b] (fun w' => by go_simp) (fun w' hc => (jv b w' s.b st.c hc.sp.ar lb).mono fun e w2 he => ⟨by rw [← Htb.out];exact he.1,hc.grow he.2⟩) ?_
     simp [Act.put]
     go_big_quiet_on
     go_big_quiet_want
     go_big_quiet_op
     go_big_quiet_on
     go_big_quiet_want
     refine zC (.pointer (some ⟨s.ps,0,none⟩)) (fun w' hc => by go_simp) ?_
     simp [Act.put]
     go_big_quiet_on
     go_big_quiet_want
     refine zC (.pointer (some ⟨s.ps,0,none⟩)) (fun w' hc => by go_simp) ?_
     simp [Act.put]
     go_big_quiet_on
     go_big_quiet_want
     refine zC (.pointer (some ⟨s.b.p,0,none⟩)) (fun w' hc => by have c0:=hc.sp.s0;go_simp) ?_
     simp [Act.put]
     go_big_quiet_on
     go_big_quiet_want
     go_big_quiet_op
     go_big_quiet_on
     go_big_quiet_want
     refine qQ (.int .i64 tc) 59 #[.pointer (some ⟨s.b.p,0,none⟩),.int .i64 c] (fun w' => by go_simp) (fun w' hc => (jv c w' s.b st.c hc.sp.ar lc).mono fun e w2 he => ⟨by rw [← Htc.out];exact he.1,hc.grow he.2⟩) ?_
     simp [Act.put]
     go_big_quiet_on
     go_big_quiet_want
     refine zC (.int .i64 v) (fun w' hc => by have hm:=Hmin.out;go_simp) ?_
     simp [Act.put]
     go_big_quiet_on
     go_big_quiet_want
     go_big_quiet_op
     go_big_quiet_on
     refine wpQuiet_nil ?_
     intro w1 hi1
     have Hi1:=hid hi1;clear hi1 Hi0
     go_wp2_with fail
     refine (zhV a v w1 s V st Hi1.out.sp la).mono ?_
     rintro e w2 ⟨rfl,hb2⟩
     have Hi2:=hid (Hi1.out.grow hb2);clear hb2 Hi1
     go_wp2_with fail
     refine (zhV b v w2 s V st Hi2.out.sp lb).mono ?_
     rintro e w3 ⟨rfl,hb3⟩
     have Hi3:=hid (Hi2.out.grow hb3);clear hb3 Hi2
     go_wp2_with fail
     refine (zhV c v w3 s V st Hi3.out.sp lc).mono ?_
     rintro e w4 ⟨rfl,hb4⟩
     have Hi4:=hid (Hi3.out.grow hb4);clear hb4 Hi3
     have hr1:=Hih.out (atM st.c a v).1 (atM st.c b v).1 (atM st.c c v).1 w4 s st Hi4.out.sp Hso.out HA.out.zdH HB.out.zdH HC.out.zdH Hf1.out Hr1.out
     rw [← HR1.out] at hr1
     have Hq1:=hid hr1;clear hr1
     go_wp2_with fail
     refine Hq1.out.mono ?_
     rintro e w5 ⟨rfl,hs5,ho5⟩
     have Hi5:=hid (Hi4.out.step ho5 hs5);clear hs5 ho5 Hi4 Hq1
     rw [Her1.out]
     simp only [zdX,if_true]
     have hr2:=Hih.out (atM st.c a v).2 (atM st.c b v).2 (atM st.c c v).2 w5 s R1.1 Hi5.out.sp Hso1.out (HE1.out.has HA.out.kK) (HE1.out.has HB.out.kK) (HE1.out.has HC.out.kK) Hf2.out Hr2.out
     rw [← HR2.out] at hr2
     have Hq2:=hid hr2;clear hr2
     go_wp2_with fail
     refine Hq2.out.mono ?_
     rintro e w6 ⟨rfl,hs6,ho6⟩
     have Hi6:=hid (Hi5.out.step ho6 hs6);clear hs6 ho6 Hi5 Hq2
     rw [Her2.out]
     simp only [zdX,if_true]
     have hn3:=zft v R1.2.1 R2.2.1 w6 s V R2.1 Hi6.out.sp l1 l2
     rw [← HR3.out] at hn3
     have Hq3:=hid hn3;clear hn3
     go_wp2_with fail
     refine Hq3.out.mono ?_
     rintro e w7 ⟨rfl,hs7,ho7⟩
     have hi7:=Hi6.out.step (ho7.mono s.sub) hs7
     rw [Her3.out]
     simp only [zdX,if_true]
     have hi8:=hi7.grow (w2:=w7.drew) (Below.refl _ _).drew
     obtain ⟨mq7,hmq7,hmv7⟩:=hi8.sp.map
     obtain ⟨ob,hrun,hob⟩:=hmq7.update (P:=Tryz.prog) (kt:=289) (et:=3) (t:=113) key4 Tryz.underlying113 (0,a,b,c) (.int .i64 R3.2.1)
     have hfin:=hi8.sp.put hmv7 hob
     simp only [enc4] at hrun
     have hon : Only s.mem w (zF w7.drew s.mc ob):=hi8.only.trans ⟨rfl,rfl,rfl,by simp [zF],fun k _ hk => yZ ob (fun e => hk (.inr e))⟩
     have c2:=hi7.sp.s2
     have b0:=hi7.b0
     have b1:=hi7.b1
     have b2:=hi7.b2
     have b3:=hi7.b3
     have Hfin:=hid hfin;have Hon:=hid hon
     clear hi7 hi8 hmq7 hmv7 hob hfin hon hs7 ho7 Hi6 Hq3
     go_wp2_with fail
     go_region
     all_goals go_wp2_with fail
     all_goals go_ret2
     all_goals exact ⟨rfl,Hfin.out,Hon.out⟩
def kI (st : Sp) (a b c : Int) : Sp × Int × Nat:=qJ 25 st a b c
def zjq (st : Sp) (v : Int) (is : Bool) : Sp × Int × Nat:=let r:=if is then qj st.c v 0 1 else qj st.c v 1 0;(⟨r.1,st.q⟩,r.2.1,r.2.2)
noncomputable def zpn (st : Sp) (keep : List Int) : Sp:=⟨qF st.c keep,noQ⟩
noncomputable def zpm (st : Sp) (keep : List Int) : Int:=(cnt st.c : Int) - (qP st.c keep).length
structure ROk (V : Int) (st : Sp) (r : Sp × Int × Nat) (D : (Int → Bool) → Bool) (k : Nat) : Prop where
 err : r.2.2 = 0
 sok : SOk V r.1
 ext : Ext st.c r.1.c
 has : zG r.1.c r.2.1 = true
 den : ∀ val,den r.1.c r.2.1 val = D val
 cnt : cnt r.1.c ≤ cnt st.c + k
theorem zjk {c : Cells} (o : Ok c) (a b d : Int) : 0 ≤ yJ (zl c a) (zl c b) (zl c d):=by
 have:=o.xL a;have:=o.xL b;have:=o.xL d;unfold yJ;omega
theorem zk4 {V : Int} (hV : V ≤ 24) {st : Sp} {a b c : Int} (so : SOk V st) (ha : zG st.c a = true) (hb : zG st.c b = true) (hc : zG st.c c = true) (hr : cnt st.c + 2 ^ V.toNat ≤ st.c.length + 1) :
 ROk V st (kI st a b c) (fun val => if den st.c a val then den st.c b val else den st.c c val) (2 ^ V.toNat):=by
 have hp:=zjk so.ok a b c
 have h1:=xM (show (V - yJ (zl st.c a) (zl st.c b) (zl st.c c)).toNat ≤ V.toNat by omega)
 have h:=zaY V hV 25 st a b c so ha hb hc (by omega) (by omega)
 exact ⟨h.err,h.sok,h.ext,h.has,h.den,by have:=h.cnt;unfold kI;omega⟩
theorem zkd {V : Int} (hV : V ≤ 24) {st : Sp} {a b c : Int} (so : SOk V st) (hr : cnt st.c + 2 ^ V.toNat ≤ st.c.length + 1) :
 (24 - yJ (zl st.c a) (zl st.c b) (zl st.c c)).toNat < 25 ∧ cnt st.c + 2 ^ (V - yJ (zl st.c a) (zl st.c b) (zl st.c c)).toNat ≤ st.c.length + 1:=by
 have hp:=zjk so.ok a b c
 have h1:=xM (show (V - yJ (zl st.c a) (zl st.c b) (zl st.c c)).toNat ≤ V.toNat by omega)
 exact ⟨by omega,by omega⟩
set_option maxHeartbeats 2000000 in
theorem zk1 (V : Int) (hV : V ≤ 24) (a b c : Int) (w : World) (s : Sb) (st : Sp) (hs : IsSpace w s V st) (so : SOk V st) (ha : zG st.c a = true) (hb : zG st.c b = true) (hc : zG st.c c = true) (hr : cnt st.c + 2 ^ V.toNat ≤ st.c.length + 1) :
 Calls Tryz.prog 106 #[.pointer (some ⟨s.ps,0,none⟩),.int .i64 a,.int .i64 b,.int .i64 c] w (zgg s V (kI st a b c) w):=by
 have hlen:=hs.ar.len
 have hR:=hs.ar.room.2
 have la : a ≤ 9223372036854775807:=by have:=xB ha;omega
 have lb : b ≤ 9223372036854775807:=by have:=xB hb;omega
 have lc : c ≤ 9223372036854775807:=by have:=xB hc;omega
 have c0:=hs.s0
 have h1:=yN a w s.b st.c hs.ar la
 have h2:=yN b w s.b st.c hs.ar lb
 have h3:=yN c w s.b st.c hs.ar lc
 rw [ha] at h1
 rw [hb] at h2
 rw [hc] at h3
 have hb2:=zkd (a:=a) (b:=b) (c:=c) hV so hr
 have hit:=znL V hV 25 a b c w s st hs so ha hb hc hb2.1 hb2.2
 have H1:=hid h1;have H2:=hid h2;have H3:=hid h3;have Hit:=hid hit
 clear h1 h2 h3 hit hb2 hs so ha hb hc hr hlen hR
 go_enter Tryz.func106,Tryz.ntmps106
 go_wp2_with fail
 refine H1.out.mono ?_
 rintro e w' ⟨rfl,rfl⟩
 go_wp2_with fail
 refine H2.out.mono ?_
 rintro e w' ⟨rfl,rfl⟩
 go_wp2_with fail
 refine H3.out.mono ?_
 rintro e w' ⟨rfl,rfl⟩
 go_wp2_with fail
 refine Hit.out.mono ?_
 rintro e w1 ⟨rfl,hs1,ho1⟩
 have Hs1:=hid hs1;have Ho1:=hid ho1;clear hs1 ho1
 go_wp2_with fail
 go_ret2
 exact ⟨rfl,Hs1.out,Ho1.out⟩
section
variable (V : Int) (hV : V ≤ 24) (a b : Int) (w : World) (s : Sb) (st : Sp) (hs : IsSpace w s V st) (so : SOk V st) (ha : zG st.c a = true) (hb : zG st.c b = true) (hr : cnt st.c + 2 ^ V.toNat ≤ st.c.length + 1)
include hV hs so ha hr
include hb
set_option maxHeartbeats 1000000 in
theorem zlc : Calls Tryz.prog 48 #[.pointer (some ⟨s.ps,0,none⟩),.int .i64 a,.int .i64 b] w (zgg s V (kI st a b 0) w):=by
 have Hit:=hid (zk1 V hV a b 0 w s st hs so ha hb (jk _) hr)
 clear hs so ha hb hr
 go_enter Tryz.func48,Tryz.ntmps48
 go_wp2_with fail
 refine Hit.out.mono ?_
 rintro e w1 ⟨rfl,hs1,ho1⟩
 have Hs1:=hid hs1;have Ho1:=hid ho1;clear hs1 ho1
 go_wp2_with fail
 go_ret2
 exact ⟨rfl,Hs1.out,Ho1.out⟩
set_option maxHeartbeats 1000000 in
theorem zon : Calls Tryz.prog 105 #[.pointer (some ⟨s.ps,0,none⟩),.int .i64 a,.int .i64 b] w (zgg s V (kI st a 1 b) w):=by
 have Hit:=hid (zk1 V hV a 1 b w s st hs so ha (qw _) hb hr)
 clear hs so ha hb hr
 go_enter Tryz.func105,Tryz.ntmps105
 go_wp2_with fail
 refine Hit.out.mono ?_
 rintro e w1 ⟨rfl,hs1,ho1⟩
 have Hs1:=hid hs1;have Ho1:=hid ho1;clear hs1 ho1
 go_wp2_with fail
 go_ret2
 exact ⟨rfl,Hs1.out,Ho1.out⟩
end
set_option maxHeartbeats 1000000 in
theorem zpW (V : Int) (v : Int) (is : Bool) (w : World) (s : Sb) (st : Sp) (hs : IsSpace w s V st) (h0 : 0 ≤ v) (h1 : v < V) :
 Calls Tryz.prog 104 #[.pointer (some ⟨s.ps,0,none⟩),.int .i64 v,.bool is] w (zgg s V (zjq st v is) w):=by
 have c1:=hs.s1
 cases is
 ·
  have hn:=zft v 1 0 w s V st hs (by decide) (by decide)
  have hx : zjq st v false = (⟨(qj st.c v 1 0).1,st.q⟩,(qj st.c v 1 0).2.1,(qj st.c v 1 0).2.2):=rfl
  rw [hx]
  have Hn:=hid hn;clear hn hs hx
  go_enter Tryz.func104,Tryz.ntmps104
  go_wp2_with fail
  refine Hn.out.mono ?_
  rintro e w1 ⟨rfl,hs1,ho1⟩
  have Hs1:=hid hs1;have Ho1:=hid ho1;clear hs1 ho1
  go_wp2_with fail
  go_ret2
  exact ⟨rfl,Hs1.out,Ho1.out.mono s.sub⟩
 ·
  have hn:=zft v 0 1 w s V st hs (by decide) (by decide)
  have hx : zjq st v true = (⟨(qj st.c v 0 1).1,st.q⟩,(qj st.c v 0 1).2.1,(qj st.c v 0 1).2.2):=rfl
  rw [hx]
  have Hn:=hid hn;clear hn hs hx
  go_enter Tryz.func104,Tryz.ntmps104
  go_wp2_with fail
  refine Hn.out.mono ?_
  rintro e w1 ⟨rfl,hs1,ho1⟩
  have Hs1:=hid hs1;have Ho1:=hid ho1;clear hs1 ho1
  go_wp2_with fail
  go_ret2
  exact ⟨rfl,Hs1.out,Ho1.out.mono s.sub⟩
theorem zoX (V : Int) (w : World) (s : Sb) (st : Sp) (hs : IsSpace w s V st) : Calls Tryz.prog 19 #[.pointer (some ⟨s.ps,0,none⟩)] w fun e w' => e = .returned (.int .i64 V) ∧ w = w':=by
 have c1:=hs.s1
 clear hs
 go_enter Tryz.func19,Tryz.ntmps19
 go_wp2_with fail
 go_ret
 exact ⟨rfl,rfl⟩
theorem zj9 {w w2 : World} {s : Sb} {V : Int} {c : Cells} {q : Int × Int × Int → Option Int} (h : IsSpace w s V ⟨c,q⟩) (ho : Only (· = s.mc) w w2) (hm : MapOf w2 s.mc enc4 ([] : List ((Int × Int × Int × Int) × Value))) : IsSpace w2 s V ⟨c,noQ⟩ :=
 ⟨by rw [ho.block _ h.lps (fun e => h.off (.inr e))];exact h.blk,h.ar.only ho (fun k hk e => h.off2 (e ▸ hk)),⟨[],hm,fun _ _ _ => rfl⟩,h.off,h.off2⟩
set_option maxHeartbeats 1000000 in
theorem zoA (V : Int) (vs : Value) (keep : List Int) (w : World) (s : Sb) (st : Sp) (hs : IsSpace w s V st) (o : Ok st.c) (hv : zD w vs keep) (hl : keep.length ≤ 100000) (hm : ∀ x ∈ keep,x ≤ 9223372036854775807) :
 Calls Tryz.prog 49 #[.pointer (some ⟨s.ps,0,none⟩),vs] w fun e w' => e = .returned (.int .i64 (zpm st keep)) ∧ IsSpace w' s V (zpn st keep) ∧ Only s.mem w w':=by
 have c0:=hs.s0
 have hsw:=zmI vs keep w s.b st.c hs.ar o hv hl hm
 obtain ⟨z,hz⟩ : ∃ z,z = zpm st keep:=⟨_,rfl⟩
 have hz2 : (cnt st.c : Int) - (qP st.c keep).length = z:=by rw [hz];rfl
 rw [hz2] at hsw
 rw [← hz]
 have Hsw:=hid hsw;have Hs:=hid hs;clear hsw hs hz hz2 o hv hm
 go_enter Tryz.func49,Tryz.ntmps49
 go_wp2_with fail
 refine Hsw.out.mono ?_
 rintro e w1 ⟨rfl,ha1,ho1⟩
 have hs1:=Hs.out.arena ho1 ha1
 obtain ⟨mq,hmq,_⟩:=hs1.map
 have c2:=hs1.s2
 have Hs1:=hid hs1;have Hmq:=hid hmq;have Ho1:=hid ho1
 clear hs1 hmq ho1 ha1
 go_wp2_with (show wpList _ _ _ (Oper.mk none (.call { callee:=.builtin .clear,args:=_,argTypes:=_ }) _ _ _ _ :: _) _ _;refine zd3 (o:=⟨none,.call { callee:=.builtin .clear,args:=#[.tmp 15],argTypes:=#[113] },_,_,_,_⟩) rfl (.tmp 15) 113 rfl (kt:=289) (et:=3) (b:=s.mc) (enc:=enc4) (m:=mq) rfl Tryz.underlying113 Hmq.out ?_;intro ob hob;have hon : Only (· = s.mc) w1 (zF w1 s.mc ob):=⟨rfl,rfl,rfl,(by simp [zF]),fun k _ hk => yZ ob hk⟩;have hs2:=zj9 Hs1.out hon hob;have Hs2:=hid hs2;have Hon:=hid hon;clear hs2 hon hob;generalize zF w1 s.mc ob = w2 at Hs2 Hon ⊢)
 go_ret
 exact ⟨rfl,Hs2.out,(Ho1.out.mono s.sub).trans (Hon.out.mono (fun k hk => .inr hk))⟩
def zcX (w : World) (md : Nat) (d : Done) : Prop:=∃ mq : List (Int × Value),MapOf w md (Value.int .i64) mq ∧ ∀ k,assoc mq k = (d k).map (Value.int .i64)
theorem zcX.keep {w w' : World} {md : Nat} {d : Done} (h : zcX w md d) (hb : w'.heap[md]? = w.heap[md]?) : zcX w' md d:=by
 obtain ⟨mq,h1,h2⟩:=h;exact ⟨mq,h1.qc hb,h2⟩
theorem zcX.lt {w : World} {md : Nat} {d : Done} (h : zcX w md d) : md < w.heap.size:=by obtain ⟨mq,h1,_⟩:=h;exact h1.lt
def zh8 (s : Sb) (md : Nat) (k : Nat) : Prop:=s.b.mem k ∨ k = md
structure TSt (w wr : World) (s : Sb) (V : Int) (st : Sp) (md : Nat) (d : Done) (n : Nd) : Prop where
 sp : IsSpace wr s V st
 done : zcX wr md d
 only : Only (zh8 s md) w wr
 off : ∀ k,zh8 s md k → k < w.heap.size
 off2 : ¬ s.mem md ∧ s.ps ≠ md
 lt : w.heap.size + 1 < wr.heap.size
 b0 : wr.cell? ⟨w.heap.size + 1,0,none⟩ = some (.int .i64 n.1)
 b1 : wr.cell? ⟨w.heap.size + 1,1,none⟩ = some (.int .i64 n.2.1)
 b2 : wr.cell? ⟨w.heap.size + 1,2,none⟩ = some (.int .i64 n.2.2)
section
variable {w wr w2 : World} {s : Sb} {V : Int} {st st' : Sp} {md : Nat} {d d' : Done} {n : Nd}
theorem TSt.grow (h : TSt w wr s V st md d n) (hb : Below wr.heap.size wr w2) : TSt w w2 s V st md d n :=
 ⟨h.sp.below hb,h.done.keep (hb.block _ h.done.lt),h.only.trans (Only.of_below hb rfl),h.off,h.off2,Nat.lt_of_lt_of_le h.lt hb.size,(hb.cell h.lt).trans h.b0,(hb.cell h.lt).trans h.b1,(hb.cell h.lt).trans h.b2⟩
theorem TSt.step (h : TSt w wr s V st md d n) (ho : Only (zh8 s md) wr w2) (hs : IsSpace w2 s V st') (hd : zcX w2 md d') : TSt w w2 s V st' md d' n:=by
 have hn : ¬ zh8 s md (w.heap.size + 1):=fun hk => by have:=h.off _ hk;omega
 exact ⟨hs,hd,h.only.trans ho,h.off,h.off2,Nat.lt_of_lt_of_le h.lt ho.size,(ho.cell h.lt hn).trans h.b0,(ho.cell h.lt hn).trans h.b1,(ho.cell h.lt hn).trans h.b2⟩
theorem TSt.node (h : TSt w wr s V st md d n) (ho : Only s.b.mem wr w2) (hs : IsSpace w2 s V st') : TSt w w2 s V st' md d n :=
 h.step (ho.mono fun _ hk => .inl hk) hs (h.done.keep (ho.block _ h.done.lt (fun e => h.off2.1 (.inl e))))
theorem TSt.put (h : TSt w wr s V st md d n) {mq : List (Int × Value)} (hq : ∀ k,assoc mq k = (d k).map (Value.int .i64)) {a x : Int} {o : Obj} (hm : MapOf (zF wr md o) md (Value.int .i64) (zW mq a (.int .i64 x))) :
 TSt w (zF wr md o) s V st md (putD d a x) n:=by
 have ho : Only (· = md) wr (zF wr md o):=⟨rfl,rfl,rfl,by simp [zF],fun k _ hk => yZ o hk⟩
 refine h.step (ho.mono fun _ hk => .inr hk) (h.sp.only ho h.off2.2 (fun k hk e => h.off2.1 (e ▸ hk))) ⟨_,hm,fun k => ?_⟩
 rw [zcm]
 unfold putD
 split
 · rfl
 · exact hq k
end
theorem Only.cut {S S' : Nat → Prop} {a w : World} (h : Only S a w) (hs : ∀ k,k < a.heap.size → S k → S' k) : Only S' a w:=⟨h.os,h.tape,h.output,h.size,fun k hk hn => h.block k hk (fun e => hn (hs k hk e))⟩
theorem ROk.zrp {V : Int} {st : Sp} {r : Sp × Int × Nat} {D : (Int → Bool) → Bool} {k : Nat} (h : ROk V st r D k) {x : Int} (hx : zG st.c x = true) : zG r.1.c x = true:=h.ext.has hx
theorem zkL {V : Int} {st : Sp} {r : Sp × Int × Nat} {D : (Int → Bool) → Bool} {k : Nat} (h : ROk V st r D k) (so : SOk V st) {x : Int} (hx : zG st.c x = true) (val : Int → Bool) : den r.1.c x val = den st.c x val:=qH so.ok h.sok.ok h.ext val x hx
open Go.RowKit Go.ChangeShapes Go.WideShapes
def jF (x : Int) (v : Int) : Bool:=bits .and .u64 (x / 2 ^ min v.toNat 64) 1 == 1
theorem zev {c : Cells} {s : List Int} {k : Nat} (g : zG c ((k : Int) + 2) = true) (hm : ((k : Int) + 2) ∈ s) : jC c s k:=by
 rcases qo g with e | e | ⟨k',n,e,hn,_⟩
 · omega
 · omega
 ·
  obtain rfl : k = k':=by omega
  exact jC.start hn hm
set_option maxHeartbeats 4000000 in
theorem zmN (V : Int) (h x : Int) (w : World) (s : Sb) (st : Sp) (hs : IsSpace w s V st) (so : SOk V st) (hh : zG st.c h = true) :
 Calls Tryz.prog 12 #[.pointer (some ⟨s.ps,0,none⟩),.int .i64 h,.int .u64 x] w fun e w' => e = .returned (.tuple #[.bool (den st.c h (jF x)),.nilIface]) ∧ Below w.heap.size w w':=by
 have hlen:=hs.ar.len
 have hR:=hs.ar.room.2
 have lh : ∀ k : Int,zG st.c k = true → k ≤ 9223372036854775807:=fun k hk => by have:=xB hk;omega
 have c0:=hs.s0
 have hha:=yN h w s.b st.c hs.ar (lh h hh)
 rw [hh] at hha
 obtain ⟨D,hD⟩ : ∃ D,D = den st.c h (jF x):=⟨_,rfl⟩
 rw [← hD]
 have Hha:=hid hha;have Hs:=hid hs;have Hso:=hid so;have Hhh:=hid hh;have HD:=hid hD;have Lh:=hid lh
 clear hha hs so hh hD lh hlen hR
 go_enter Tryz.func12,Tryz.ntmps12
 go_wp2_with fail
 refine Hha.out.mono ?_
 rintro e w1 ⟨rfl,rfl⟩
 go_wp2_with fail
 go_loopg [1] (24 - zl st.c h).toNat (fun gk i wr => Below w.heap.size w wr ∧ ∃ k : Int,i = .int .i64 k ∧ gk = (24 - zl st.c k).toNat ∧ zG st.c k = true ∧ den st.c k (jF x) = D)
 case atStart => exact ⟨Below.refl _ _,h,rfl,rfl,Hhh.out,HD.out.symm⟩
 case round =>
  clear c0 Hha
  obtain ⟨hb,k,rfl,rfl,hk,hd⟩:=hrel
  have hsr:=Hs.out.below hb
  have c0:=hsr.s0
  have hg:=zca k wr s.b st.c hsr.ar (Lh.out k hk)
  have Hb:=hid hb;have Hk:=hid hk;have Hd:=hid hd;clear hsr hb hk hd
  cases g : getM st.c k with
  | none =>
   rw [g] at hg
   have hd2:=Hd.out
   rw [xD g] at hd2
   have Hg:=hid hg;clear hg g
   go_wp2_with fail
   refine Hg.out.mono ?_
   rintro e w2 ⟨rfl,rfl⟩
   simp only [zav,qy,Option.getD_none,Option.isSome_none]
   go_wp2_with fail
   go_ret2
   exact ⟨rfl,Hb.out.trans (((zba).alloc (by simp) _).mono Hb.out.size)⟩
  | some n =>
   obtain ⟨u,lo,hi⟩:=n
   rw [g] at hg
   have hd2:=Hd.out
   rw [xY Hso.out.ok g] at hd2
   obtain ⟨b1,b2,k1,k2,k3,k4⟩:=Hso.out.ok.kids g
   have ht:=yt g
   dsimp only at hd2 b1 b2 k1 k2 k3 k4 ht
   have hu : 0 ≤ u:=b1
   have hm1 : (24 - zl st.c lo).toNat < (24 - zl st.c k).toNat:=by omega
   have hm2 : (24 - zl st.c hi).toNat < (24 - zl st.c k).toNat:=by omega
   have Hg:=hid hg;have K1:=hid k1;have K2:=hid k2;have Hm1:=hid hm1;have Hm2:=hid hm2;have Hd2:=hid hd2;clear hg g k1 k2 k3 k4 ht b1 b2 hm1 hm2 hd2
   by_cases hbit : jF x u = true
   ·
    have hbit2 : (bits .and .u64 (x / 2 ^ min u.toNat 64) 1 == 1) = true:=hbit
    have Hbit:=hid hbit;clear hbit
    go_wp2_with fail
    refine Hg.out.mono ?_
    rintro e w2 ⟨rfl,rfl⟩
    simp only [zav,qy,Option.getD_some,Option.isSome_some]
    go_wp2_with fail
    go_roundg ((24 - zl st.c hi).toNat)
    case measure => exact Hm2.out
    case rel => exact ⟨Hb.out.trans (((zba).alloc (by simp) _).mono Hb.out.size),hi,rfl,rfl,K2.out,by have:=Hd2.out;rw [Hbit.out] at this;exact this⟩
   ·
    have hbit2 : (bits .and .u64 (x / 2 ^ min u.toNat 64) 1 == 1) = false:=by simpa [jF] using hbit
    have hbf : jF x u = false:=hbit2
    have Hbit:=hid hbf;clear hbf hbit
    go_wp2_with fail
    refine Hg.out.mono ?_
    rintro e w2 ⟨rfl,rfl⟩
    simp only [zav,qy,Option.getD_some,Option.isSome_some]
    go_wp2_with fail
    go_roundg ((24 - zl st.c lo).toNat)
    case measure => exact Hm1.out
    case rel => exact ⟨Hb.out.trans (((zba).alloc (by simp) _).mono Hb.out.size),lo,rfl,rfl,K1.out,by have:=Hd2.out;rw [Hbit.out] at this;exact this⟩
theorem ROk.le {V : Int} {st : Sp} {r : Sp × Int × Nat} {D : (Int → Bool) → Bool} {k k' : Nat} (h : ROk V st r D k) (hk : k ≤ k') : ROk V st r D k':=⟨h.err,h.sok,h.ext,h.has,h.den,by have:=h.cnt;omega⟩
theorem ROk.of {V : Int} {st : Sp} {r r' : Sp × Int × Nat} {D D' : (Int → Bool) → Bool} {k : Nat} (h : ROk V st r D k) (e : r' = r) (hD : ∀ val,D val = D' val) : ROk V st r' D' k:=by subst e;exact ⟨h.err,h.sok,h.ext,h.has,fun val => (h.den val).trans (hD val),h.cnt⟩
theorem zk6 {V : Int} (hV : V ≤ 24) {st : Sp} {v : Int} (is : Bool) (h0 : 0 ≤ v) (h1 : v < V) (so : SOk V st) (hr : cnt st.c < st.c.length) : ROk V st (zjq st v is) (fun val => val v == is) 1:=by
 have t1 : zl st.c 1 = 24:=kL (j4 _ (.inr rfl))
 have t0 : zl st.c 0 = 24:=kL (j4 _ (.inl rfl))
 cases is
 ·
  have n:=zbi so.ok so.red h0 (by omega) (qw st.c) (jk st.c) (by rw [t1];omega) (by rw [t0];omega) hr
  refine ⟨n.err,so.more n.ext ⟨n.ok,n.red,fun k m hk => ?_⟩,n.ext,n.has,fun val => (n.den val).trans ?_,n.cnt⟩
  ·
   rcases n.old k m hk with h | rfl
   · exact so.vlt k m h
   · exact h1
  · rw [zbX,zbg];cases val v <;> rfl
 ·
  have n:=zbi so.ok so.red h0 (by omega) (jk st.c) (qw st.c) (by rw [t0];omega) (by rw [t1];omega) hr
  refine ⟨n.err,so.more n.ext ⟨n.ok,n.red,fun k m hk => ?_⟩,n.ext,n.has,fun val => (n.den val).trans ?_,n.cnt⟩
  ·
   rcases n.old k m hk with h | rfl
   · exact so.vlt k m h
   · exact h1
  · rw [zbX,zbg];cases val v <;> rfl
theorem zgL {c : Cells} {k : Nat} (g : zG c ((k : Int) + 2) = true) : ∃ n,c.at k = some n:=by
 rcases qo g with h | h | ⟨k',n,e,hn,_⟩
 · omega
 · omega
 ·
  obtain rfl : k = k':=by omega
  exact ⟨n,hn⟩
theorem zfL {c : Cells} {s : List Int} {h : Int} (hk : ∀ k : Nat,h = (k : Int) + 2 → jC c s k) : getM (qF c s) h = getM c h:=by
 rcases Int.lt_or_le h 2 with h1 | h1
 · unfold getM;rw [if_pos h1,if_pos h1]
 ·
  obtain ⟨k,rfl⟩ : ∃ k : Nat,h = (k : Int) + 2:=⟨(h - 2).toNat,by omega⟩
  rw [qb,qb,zcx,if_pos (hk k rfl)]
theorem zmp {c : Cells} (o : Ok c) {s : List Int} (val : Int → Bool) : ∀ h,(∀ k : Nat,h = (k : Int) + 2 → jC c s k) → den (qF c s) h val = den c h val:=by
 refine zdh o (Q:=fun h => (∀ k : Nat,h = (k : Int) + 2 → jC c s k) → den (qF c s) h val = den c h val) (fun h g hk => by rw [xD g,xD ((zfL hk).trans g)]) (fun h n g ih1 ih2 hk => ?_)
 obtain ⟨k,rfl,hk1,_⟩:=getM_some g
 obtain ⟨_,_,l1,l2,_,_⟩:=o.kids g
 rw [xY o g,xY (zgK o s) ((zfL hk).trans g),ih1 (fun j e => ?_),ih2 (fun j e => ?_)]
 ·
  rw [e] at l2
  obtain ⟨n',hn'⟩:=zgL l2
  exact (hk k rfl).high hk1 hn' e
 ·
  rw [e] at l1
  obtain ⟨n',hn'⟩:=zgL l1
  exact (hk k rfl).low hk1 hn' e
theorem zgx {V : Int} {st : Sp} (so : SOk V st) {keep : List Int} {h : Int} (hm : h ∈ keep) (hh : zG st.c h = true) (val : Int → Bool) : den (zpn st keep).c h val = den st.c h val :=
 zmp so.ok val h (fun k e => by subst e;exact zev hh hm)
