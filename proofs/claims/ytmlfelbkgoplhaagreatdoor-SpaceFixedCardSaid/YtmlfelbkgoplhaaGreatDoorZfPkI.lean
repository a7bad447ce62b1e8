import Derived.Test.YtmlfelbkgoplhaaGreatDoorZfPkH
import Derived.Laws.StructEq
import Derived.Shelf.Strings.SlTrimAscii
set_option linter.unusedVariables false
namespace Go.Proofs.YtmlfelbkgoplhaaGreatDoor
open Go.RowKit
def zfr (x y : zA) : Bool:=decide (x = y)
def zbk (a b c a' b' c' : Int) : Bool:=decide (a = a' ∧ b = b' ∧ c = c')
@[go_sem] theorem zrN : Tryz.prog.eqGuardType Tryz.prog.depth 94 = false:=by kernel_rfl
@[go_sem] theorem guardVer : Tryz.prog.eqGuardType Tryz.prog.depth 72 = false:=by kernel_rfl
theorem zhx (d : Nat) (a b c a' b' c' : Int) (w : World) : (Op.equalIn (d + 1 + 1) 72 (.agg #[.int .i64 a,.int .i64 b,.int .i64 c]) (.agg #[.int .i64 a',.int .i64 b',.int .i64 c'])).run Tryz.prog w = .ok (zbk a b c a' b' c') w:=by
 have u3:=Tryz.underlying3
 have a3:=Tryz.isAgg3
 have z3:=Tryz.sizeOf3
 rw [Op.equalIn]
 simp only [Sem.run_bind,run_underlying Tryz.underlying72,Result.andThen_ok]
 simp only [Std.Legacy.Range.forIn_eq_forIn_range',Std.Legacy.Range.size,Nat.sub_zero,Nat.add_sub_cancel,Nat.div_one,List.range'_succ,List.range'_zero,List.forIn_cons,List.forIn_nil]
 go_simp
 by_cases h1 : a = a' <;> by_cases h2 : b = b' <;> by_cases h3 : c = c' <;> simp [h1,h2,h3,zbk]
@[go_sem] theorem equalVer (a b c a' b' c' : Int) (w : World) : (Op.equalIn 10000 72 (.agg #[.int .i64 a,.int .i64 b,.int .i64 c]) (.agg #[.int .i64 a',.int .i64 b',.int .i64 c'])).run Tryz.prog w = .ok (zbk a b c a' b' c') w:=zhx 9998 a b c a' b' c' w
@[go_sem] theorem zgY (n n' : ByteArray) (a b c a' b' c' : Int) (w : World) : (Op.equalIn 10000 94 (.agg #[.string n,.int .i64 a,.int .i64 b,.int .i64 c]) (.agg #[.string n',.int .i64 a',.int .i64 b',.int .i64 c'])).run Tryz.prog w = .ok (zfr (n,a,b,c) (n',a',b',c')) w:=by
 have u3:=Tryz.underlying9
 have a3:=Tryz.isAgg9
 have z3:=Tryz.sizeOf9
 have av : ∀ w,(isAgg 72).run Tryz.prog w = .ok true w:=fun w => by kernel_rfl
 have zv : ∀ w,(Go.sizeOf 72).run Tryz.prog w = .ok 3 w:=fun w => by kernel_rfl
 have hS : Tryz.prog.underlying 94 = some (.struct (Tryz.prog.fieldsOf 94)):=by kernel_rfl
 have hp : Tryz.prog.stoodInHeld 94 = false:=by kernel_rfl
 have hv:=fun w => zhx 9997 a b c a' b' c' w
 rw [show (10000 : Nat) = 9999 + 1 from rfl,run_equalIn_agg w 9999 94 _ _ hS hp]
 simp only [Program.fieldsOf,Tryz.underlying94]
 go_simp
 have key : zfr (n,a,b,c) (n',a',b',c') = if n.toList = n'.toList then zbk a b c a' b' c' else false:=by
  unfold zfr zbk
  by_cases h : n.toList = n'.toList
  ·
   have hn:=qi h
   subst hn
   rw [if_pos rfl,Bool.eq_iff_iff,decide_eq_true_iff,decide_eq_true_iff]
   exact ⟨fun e => ⟨congrArg (·.2.1) e,congrArg (·.2.2.1) e,congrArg (·.2.2.2) e⟩,fun ⟨e1,e2,e3⟩ => by rw [e1,e2,e3]⟩
  ·
   rw [if_neg h,decide_eq_false_iff_not]
   intro e
   exact h (by rw [(Prod.mk.inj e).1])
 rw [key]
 by_cases h : n.toList = n'.toList
 ·
  rw [if_pos h,if_pos h]
  cases zbk a b c a' b' c' <;> rfl
 · rw [if_neg h,if_neg h]
theorem zdS {w : World} {p : Nat} {a b c d : Value} {T : TypeId} (h : w.heap[p]? = some (.cells #[a,b,c,d] T (0,0))) : w.cell? ⟨p,0,none⟩ = some a ∧ w.cell? ⟨p,1,none⟩ = some b ∧ w.cell? ⟨p,2,none⟩ = some c ∧ w.cell? ⟨p,3,none⟩ = some d:=by
 refine ⟨?_,?_,?_,?_⟩
 all_goals (rw [cell_of_row w p _ _ _ _ h];rfl)
set_option maxRecDepth 100000 in
set_option maxHeartbeats 4000000 in
theorem zkz (base : Nat) (v : Value) (items : List zA) (n : ByteArray) (a b c : Int) (w : World) (h : z8 w base v items) :
 Calls Tryz.prog 141 #[v,.agg #[.string n,.int .i64 a,.int .i64 b,.int .i64 c]] w fun e w' => e = .returned (.int .i64 (kP items (n,a,b,c))) ∧ Below w.heap.size w w':=by
 obtain ⟨ad,cp,rfl,hl,hm⟩:=zo.shape h
 have hlen : items.length ≤ 9223372036854775807:=Nat.le_trans hl hm
 have hal : Below w.heap.size w (w.alloc (.cells #[.string n,.int .i64 a,.int .i64 b,.int .i64 c] 94)):=zba
 have hbx : (w.alloc (.cells #[.string n,.int .i64 a,.int .i64 b,.int .i64 c] 94)).heap[w.heap.size]? = some (.cells #[.string n,.int .i64 a,.int .i64 b,.int .i64 c] 94 (0,0)):=za rfl
 obtain ⟨R,hR⟩ : ∃ R,R = kP items (n,a,b,c):=⟨_,rfl⟩
 rw [← hR]
 have H:=hid h;have Hal:=hid hal;have Hbx:=hid hbx;have HR:=hid hR
 clear h hal hbx hR
 go_enter Tryz.func141,Tryz.ntmps141
 go_wp2_with fail
 generalize w.alloc (.cells #[.string n,.int .i64 a,.int .i64 b,.int .i64 c] 94) = wA at Hal Hbx ⊢
 go_loopg [8] items.length (fun gk i wr => ∃ k : Nat,k ≤ items.length ∧ gk = items.length - k ∧ i = .int .i64 k ∧ Below w.heap.size w wr ∧ wr.heap[w.heap.size]? = some (.cells #[.string n,.int .i64 a,.int .i64 b,.int .i64 c] 94 (0,0)) ∧ ∀ j,(hj : j < items.length) → j < k → items[j] ≠ (n,a,b,c))
 case atStart => exact ⟨0,znz _,rfl,rfl,Hal.out,Hbx.out,fun j _ hj => by omega⟩
 case round =>
  obtain ⟨k,hk,rfl,rfl,hbw,hbx,hno⟩:=hrel
  by_cases hlt : k < items.length
  ·
   have hi : (k : Int) < (items.length : Int):=by omega
   obtain ⟨g,rfl,hg,_⟩:=zo.at (H.out.below hbw) (by omega)
   obtain ⟨c1,c2,c3,c4⟩:=(H.out.below hbw).cells hlt
   obtain ⟨b1,b2,b3,b4⟩:=zdS hbx
   obtain ⟨it,hit⟩ : ∃ it,it = items[k]:=⟨_,rfl⟩
   rw [← hit] at c1 c2 c3 c4
   obtain ⟨m,x,y,z⟩:=it
   simp only at c1 c2 c3 c4
   have Hno:=hid hno;have Hbw:=hid hbw;have Hbx2:=hid hbx;have Hit:=hid hit
   clear hno hbw hbx hit
   by_cases he : (n,a,b,c) = (m,x,y,z)
   ·
    have ht : zfr (n,a,b,c) (m,x,y,z) = true:=decide_eq_true he
    have hE:=fun w => zgY n m a b c x y z w
    rw [ht] at hE
    have hr:=zoj hlt (Hit.out.symm.trans he.symm) (fun j hj => Hno.out j (by omega) hj)
    rw [← HR.out] at hr
    subst hr
    clear he
    go_wp2_with fail
    go_region
    go_wp2_with fail
    go_ret
    exact ⟨rfl,Hbw.out.drew⟩
   ·
    have ht : zfr (n,a,b,c) (m,x,y,z) = false:=decide_eq_false he
    have hE:=fun w => zgY n m a b c x y z w
    rw [ht] at hE
    have He:=hid he
    clear he
    go_wp2_with fail
    go_region
    go_wp2_with fail
    go_roundg (items.length - (k + 1))
    case measure => omega
    case rel => exact ⟨k + 1,by omega,rfl,by go_num,Hbw.out.drew,Hbx2.out,fun j hj1 hj2 => by
     by_cases e : j = k
     · subst e;rw [← Hit.out];exact fun q => He.out q.symm
     · exact Hno.out j hj1 (by omega)⟩
  ·
   obtain rfl : k = items.length:=by omega
   have hr : kP items (n,a,b,c) = -1:=zi4 (fun hm => by
    obtain ⟨j,hj,e⟩:=List.getElem_of_mem hm
    exact hno j hj hj e)
   rw [← HR.out] at hr
   subst hr
   have Hbw:=hid hbw
   clear hno hbw hbx
   go_wp2_with fail
   go_ret
   exact ⟨rfl,Hbw.out⟩
set_option maxRecDepth 100000 in
set_option maxHeartbeats 4000000 in
theorem zdW (p base : Nat) (vl vi : Value) (items : List zA) (n : ByteArray) (a b c : Int) (w : World) (hb : w.heap[p]? = some (.cells #[vl,vi] 142 (0,0))) (h : z8 w base vi items) :
 Calls Tryz.prog 88 #[.pointer (some ⟨p,0,none⟩),.string n,.agg #[.int .i64 a,.int .i64 b,.int .i64 c]] w fun e w' => e = .returned (.int .i64 (kP items (n,a,b,c))) ∧ Below w.heap.size w w':=by
 obtain ⟨W,hW⟩ : ∃ W,W = w.alloc (.cells #[.int .i64 a,.int .i64 b,.int .i64 c] 72):=⟨_,rfl⟩
 have hal : Below w.heap.size w W:=by rw [hW];exact zba
 have hbx : W.heap[w.heap.size]? = some (.cells #[.int .i64 a,.int .i64 b,.int .i64 c] 72 (0,0)):=by rw [hW];exact za rfl
 have hb2:=(hal.block _ (zlb hb)).trans hb
 obtain ⟨d1,d2,_,_⟩:=ko hb2
 obtain ⟨e1,e2,e3,_⟩:=cells3 hbx
 have HI:=hid (fun W' (hw : Below w.heap.size w W') => (zkz base vi items n a b c W' (h.below hw)))
 obtain ⟨ad,cp,rfl,_⟩:=zo.shape h
 have Hal:=hid hal.drew
 have KS : W.drew.cell? ⟨p,1,none⟩ = some (.slice ad items.length cp) ∧ W.drew.cell? ⟨w.heap.size,0,none⟩ = some (.int .i64 a) ∧ W.drew.cell? ⟨w.heap.size,1,none⟩ = some (.int .i64 b) ∧ W.drew.cell? ⟨w.heap.size,2,none⟩ = some (.int .i64 c):=⟨d2,e1,e2,e3⟩
 have HK:=hid (show ∀ w',Below W.drew.heap.size W.drew w' → w'.cell? ⟨p,1,none⟩ = some (.slice ad items.length cp) ∧ w'.cell? ⟨w.heap.size,0,none⟩ = some (.int .i64 a) ∧ w'.cell? ⟨w.heap.size,1,none⟩ = some (.int .i64 b) ∧ w'.cell? ⟨w.heap.size,2,none⟩ = some (.int .i64 c) from fun w' hw => ⟨(hw.cell (p:=⟨p,1,none⟩) (zlb hb2)).trans KS.1,(hw.cell (p:=⟨w.heap.size,0,none⟩) (zlb hbx)).trans KS.2.1,(hw.cell (p:=⟨w.heap.size,1,none⟩) (zlb hbx)).trans KS.2.2.1,(hw.cell (p:=⟨w.heap.size,2,none⟩) (zlb hbx)).trans KS.2.2.2⟩)
 clear h hb hb2 hbx hal d1 d2 e1 e2 e3
 generalize kP items (n,a,b,c) = R at HI ⊢
 go_enter Tryz.func88,Tryz.ntmps88
 go_upto_region 3 with fail
 rw [← hW]
 clear hW
 go_region_held3 (fun w' => w'.cell? ⟨p,1,none⟩ = some (.slice ad items.length cp) ∧ w'.cell? ⟨w.heap.size,0,none⟩ = some (.int .i64 a) ∧ w'.cell? ⟨w.heap.size,1,none⟩ = some (.int .i64 b) ∧ w'.cell? ⟨w.heap.size,2,none⟩ = some (.int .i64 c)) (exact KS)
  ((go_at_call 141;(with_reducible refine (HI.out _ Hal.out).mono ?_);rintro e w5 ⟨rfl,hb5⟩;have KS:=HK.out _ hb5;have Hb5:=hid hb5;clear hb5))
 go_wp2_with fail
 go_ret
 exact ⟨rfl,Hal.out.trans (Hb5.out.mono Hal.out.size)⟩
theorem zdO : (Tryz.prog.info? 3).map (fun i => (i.zero,i.size,i.bytes)) = some (some (.int .i64 0),1,8):=by kernel_rfl
theorem qO : Tryz.prog.underlying 23 = some (.slice 3):=by kernel_rfl
def yF (x : Int) : List Value:=[.int .i64 x]
def yM (w : World) (base : Nat) (v : Value) (xs : List Int) : Prop:=zo w base 3 1 yF v xs
theorem yM.below {w w' : World} {base : Nat} {v : Value} {xs : List Int} (h : yM w base v xs) (hb : Below w.heap.size w w') : yM w' base v xs:=zo.below h hb
theorem zc3 {W : World} {ops : Array Oper} {rest : List Oper} {o : Oper} {a : Act} {Q : Exit → Act → World → Prop} (hgd : o.guard = none) (s x : Operand)
 (ho : o.op = .call { callee:=.builtin .append,args:=#[s,x],argTypes:=#[23,23] })
 (base : Nat) (v : Value) (xs : List Int) (hs : a.eval s = v) (hr : yM W base v xs) (y : Int)
 (q : Nat) (hq : q = W.heap.size) (hx : a.eval x = .slice (some ⟨q,0,none⟩) 1 1) (hn : xs.length + 1 ≤ 1000000) (hbase : base ≤ W.heap.size)
 (h : ∀ v' w',yM w' base v' (xs ++ [y]) → Below base W w' → (∀ k,k < W.heap.size → v.ownBlock ≠ some k → w'.heap[k]? = W.heap[k]?) → wpList Tryz.prog ops Q rest (a.put o.dst v') w') : wpList Tryz.prog ops Q (o :: rest) a (W.alloc (.cells #[.int .i64 y] 3)):=by
 obtain ⟨i0,hi0,hz0,hz1,hz2⟩:=info_parts zdO
 exact zeW hgd s x 3 23 1 8 yF (fun _ => rfl) (fun x u hu => by
  simp only [yF,List.mem_singleton] at hu;subst hu;rfl) ho i0 _ qO hi0 hz0 hz1 hz2 rfl (by decide) (by decide) base v xs hs hr y _ rfl q hq hx hn hbase h
theorem zi0 (v : Value) (l : List Spn) (a b c : Int) (w : World) (h : yx w v l) (r : Bool) (e : zbE l a b c = r) : Calls Tryz.prog 156 #[.agg #[v],.agg #[.int .i64 a,.int .i64 b,.int .i64 c]] w fun e w' => e = .returned (.bool r) ∧ Below w.heap.size w w':=by
 subst e;exact zpO v l a b c w h
set_option maxRecDepth 100000 in
set_option maxHeartbeats 8000000 in
theorem zd9 (p : Nat) (vl vi vr : Value) (ls : List zm) (items : List zA) (nm : ByteArray) (r : List Spn) (w : World) (h : zds w p vl vi ls items) (hr : yx w vr r) (hn : items.length ≤ 1000) :
 Calls Tryz.prog 99 #[.pointer (some ⟨p,0,none⟩),.string nm,.agg #[vr]] w fun e w' => (∃ v',e = .returned v' ∧ yM w' w.heap.size v' ((jf items nm r).map fun k : Nat => (k : Int))) ∧ Below w.heap.size w w':=by
 obtain ⟨ar,cr,rfl,_⟩:=hr.shape
 obtain ⟨W,hW⟩ : ∃ W,W = w.alloc (.cells #[.slice ar r.length cr] 75):=⟨_,rfl⟩
 have hal : Below w.heap.size w W:=by rw [hW];exact zba
 have hbx : W.heap[w.heap.size]? = some (.cells #[.slice ar r.length cr] 75 (0,0)):=by rw [hW];exact za rfl
 have hsW : W.heap.size = w.heap.size + 1:=by rw [hW,zy]
 have HI:=hid (zgQ p vl vi ls items W (h.below hal) (by omega))
 have Hal:=hid hal;have Hbx:=hid hbx;have Hr:=hid (hr.below hal);have HsW:=hid hsW
 clear h hal hbx hr hsW
 go_enter Tryz.func99,Tryz.ntmps99
 go_upto_region 2 with fail
 rw [← hW]
 clear hW
 go_wp2_with fail
 refine HI.out.mono ?_
 rintro e w1 ⟨⟨v1,rfl,hit⟩,hb1⟩
 obtain ⟨ai,ci,rfl,hl1,hm1⟩:=zo.shape hit
 have hlen : items.length ≤ 9223372036854775807:=Nat.le_trans hl1 hm1
 have Hit:=hid hit;have Hb1:=hid hb1;have Hs1:=hid hb1.size
 have Hbx1:=hid ((hb1.block _ (zlb Hbx.out)).trans Hbx.out);have Hr1:=hid (Hr.out.below hb1)
 clear hit hb1 HI Hbx Hr
 go_wp2_with fail
 go_loopg [7,13] items.length (fun gk vo i wr => ∃ k : Nat,k ≤ items.length ∧ gk = items.length - k ∧ i = .int .i64 k ∧ yM wr w1.heap.size vo ((zb7 k items nm r).map fun k : Nat => (k : Int)) ∧ Below w.heap.size w wr ∧ Below w1.heap.size w1 wr)
 case atStart => exact ⟨0,znz _,rfl,rfl,zo.nil _ _ _ _ _,Hal.out.trans (Hb1.out.mono Hal.out.size),Below.refl _ _⟩
 case round =>
  obtain ⟨k,hk,rfl,rfl,hout,hbw,hbw1⟩:=hrel
  obtain ⟨wo,rfl⟩ : ∃ y,y = wr:=⟨_,rfl⟩
  obtain ⟨ss,hss⟩ : ∃ ss,ss = (zb7 k items nm r).map (fun k : Nat => (k : Int)):=⟨_,rfl⟩
  rw [← hss] at hout
  have hlen2 : ss.length ≤ k:=by rw [hss,List.length_map];exact jS _ _ _ _
  obtain ⟨ao,co,rfl,_,_⟩:=zo.shape hout
  have so:=hbw1.size
  have s1:=Hs1.out
  rw [HsW.out] at s1
  by_cases hlt : k < items.length
  ·
   have hi : (k : Int) < (items.length : Int):=by omega
   obtain ⟨g,rfl,hg,_⟩:=zo.at (z8.below Hit.out hbw1) (by omega)
   obtain ⟨c1,c2,c3,c4⟩:=(z8.below Hit.out hbw1).cells hlt
   obtain ⟨it,hit⟩ : ∃ it,it = xG items k:=⟨_,rfl⟩
   rw [← zbq hlt,← hit] at c1 c2 c3 c4
   have hsu:=zjh k items nm r
   rw [← hit] at hsu
   obtain ⟨m,x,y,z⟩:=it
   simp only at c1 c2 c3 c4
   obtain ⟨wB,hwB⟩ : ∃ q,q = wo.alloc (.cells #[.string m,.int .i64 x,.int .i64 y,.int .i64 z] 94):=⟨_,rfl⟩
   have hbB : Below wo.heap.size wo wB:=by rw [hwB];exact zba
   have hkB : wB.heap[wo.heap.size]? = some (.cells #[.string m,.int .i64 x,.int .i64 y,.int .i64 z] 94 (0,0)):=by rw [hwB];exact za rfl
   have hszB : wB.heap.size = wo.heap.size + 1:=by rw [hwB,zy]
   obtain ⟨b1,b2,b3,b4⟩:=zdS hkB
   have hbxB:=(hbB.block _ (by omega)).trans ((hbw1.block _ (zlb Hbx1.out)).trans Hbx1.out)
   have b5:=zco hbxB
   have hrB:=(Hr1.out.below hbw1).below hbB
   have Hout:=hid (show ∀ w',Below wo.heap.size wo w' → yM w' w1.heap.size (.slice ao ss.length co) ss from fun w' hw => hout.below hw)
   have Hsu:=hid hsu;have Hss:=hid hss;have Hbw:=hid hbw;have Hbw1:=hid hbw1;have HbB:=hid hbB;have HszB:=hid hszB
   by_cases hnm : m = nm
   ·
    have tN : (m.toList == nm.toList) = true:=by rw [hnm];simp
    have hf : zky nm r (m,x,y,z) = zbE r x y z:=by unfold zky;simp only;rw [decide_eq_true hnm,Bool.true_and]
    have Hf:=hid hf
    have HH:=hid (fun q (e : zbE r x y z = q) => zi0 _ r x y z wB hrB q e)
    clear hnm hf hsu hss hbw hbw1 hbB hszB hkB hbxB hrB hout
    by_cases hv : zbE r x y z = true
    ·
     have HV:=hid (HH.out _ hv);have Hv:=hid hv
     clear hv HH
     go_upto_region 5 with fail
     rw [← hwB]
     clear hwB
     go_wp2_with fail
     refine HV.out.mono ?_
     rintro e w5 ⟨rfl,hb5⟩
     have hb55:=HbB.out.trans (hb5.mono HbB.out.size)
     have s5:=hb55.size
     have HB5:=hid hb55
     clear hb5 hb55
     go_wp2_with (at_builtin;refine zc3 rfl (.tmp 28) (.tmp 30) rfl w1.heap.size _ ss rfl (Hout.out _ HB5.out) k _ rfl rfl (by omega) (by omega) ?_;intro v9 w9 ho9 hb9 _;have Ho9:=hid ho9;have Hb9:=hid hb9;clear ho9 hb9)
     go_roundg (items.length - (k + 1))
     case measure => omega
     case rel => exact ⟨k + 1,by omega,rfl,by go_num,by rw [Hsu.out,Hf.out,if_pos Hv.out,List.map_append,← Hss.out];exact Ho9.out,(Hbw.out.trans (HB5.out.mono (by omega))).trans (Hb9.out.mono (by omega)),(Hbw1.out.trans (HB5.out.mono (by omega))).trans Hb9.out⟩
    ·
     have HV:=hid (HH.out false (by simpa using hv));have Hv:=hid hv
     clear hv HH
     go_upto_region 5 with fail
     rw [← hwB]
     clear hwB
     go_wp2_with fail
     refine HV.out.mono ?_
     rintro e w5 ⟨rfl,hb5⟩
     have HB5:=hid (HbB.out.trans (hb5.mono HbB.out.size))
     clear hb5
     go_wp2_with fail
     go_roundg (items.length - (k + 1))
     case measure => omega
     case rel => exact ⟨k + 1,by omega,rfl,by go_num,by rw [Hsu.out,Hf.out,if_neg Hv.out,List.append_nil,← Hss.out];exact Hout.out _ HB5.out,Hbw.out.trans (HB5.out.mono (by omega)),Hbw1.out.trans (HB5.out.mono (by omega))⟩
   ·
    have tN : (m.toList == nm.toList) = false:=by rw [beq_eq_false_iff_ne];exact fun q => hnm (qi q)
    have hf : zky nm r (m,x,y,z) = false:=by unfold zky;simp only;rw [decide_eq_false hnm,Bool.false_and]
    have Hf:=hid hf
    clear hnm hf hsu hss hbw hbw1 hbB hszB hkB hbxB hrB hout
    go_upto_region 5 with fail
    rw [← hwB]
    clear hwB
    go_wp2_with fail
    go_roundg (items.length - (k + 1))
    case measure => omega
    case rel => exact ⟨k + 1,by omega,rfl,by go_num,by rw [Hsu.out,Hf.out,if_neg (by decide),List.append_nil,← Hss.out];exact Hout.out _ HbB.out,Hbw.out.trans (HbB.out.mono (by omega)),Hbw1.out.trans (HbB.out.mono (by omega))⟩
  ·
   obtain rfl : k = items.length:=by omega
   have Hout:=hid (zo.less hout (show w.heap.size ≤ w1.heap.size by omega));have Hbw:=hid hbw;have Hss:=hid hss
   clear hout hbw hbw1 hss
   go_wp2_with fail
   go_ret
   exact ⟨⟨_,rfl,by unfold jf;rw [← Hss.out];exact Hout.out⟩,Hbw.out⟩
open Go.RowKit Go.Lib
def ze8 : List UInt8:=[97,98,99,100,101,102,103,104,105,106,107,108,109,110,111,112,113,114,115,116,117,118,119,120,121,122,48,49,50,51,52,53,54,55,56,57,45]
theorem zeB (b : UInt8) : ze8.contains b = zac b:=by
 have key : ∀ n : Fin 256,ze8.contains (UInt8.ofNat n.val) = zac (UInt8.ofNat n.val):=by decide +kernel
 have:=key ⟨b.toNat,b.toNat_lt⟩
 simpa using this
theorem znt {α : Type} {p : α → Bool} : ∀ {l : List α},(∀ x ∈ l,p x = true) → l.dropWhile p = []
 | [],_ => rfl
 | x :: l,h => by
  rw [List.dropWhile_cons_of_pos (h x List.mem_cons_self)]
  exact znt (fun y hy => h y (List.mem_cons_of_mem _ hy))
theorem zoF {α : Type} {p : α → Bool} {m : α} {ms : List α} : ∀ {l : List α},l.dropWhile p = m :: ms → p m = false
 | [],h => by cases h
 | x :: l,h => by
  cases e : p x
  ·
   rw [List.dropWhile_cons_of_neg (by simp [e])] at h
   cases h;exact e
  ·
   rw [List.dropWhile_cons_of_pos e] at h
   exact zoF h
theorem zj2 {α : Type} {p : α → Bool} : ∀ {l : List α},l.dropWhile p = [] → ∀ x ∈ l,p x = true
 | [],_,x,hx => by cases hx
 | y :: l,h,x,hx => by
  cases e : p y
  · rw [List.dropWhile_cons_of_neg (by simp [e])] at h;cases h
  ·
   rw [List.dropWhile_cons_of_pos e] at h
   rcases List.mem_cons.1 hx with rfl | hx
   · exact e
   · exact zj2 h x hx
theorem zlE {l cs : List UInt8} (h : ∀ b ∈ l,cs.contains b = true) : trimS l cs = []:=by
 unfold trimS trimRightS
 rw [znt (fun x hx => h x (List.mem_reverse.1 hx))]
 rfl
theorem zj6 {l cs : List UInt8} (h : ∃ b ∈ l,cs.contains b = false) : trimS l cs ≠ []:=by
 intro e
 unfold trimS trimLeftS at e
 have h1:=zj2 e
 unfold trimRightS at h1
 cases hd : l.reverse.dropWhile (cs.contains ·) with
 | nil =>
  obtain ⟨b,hb,hn⟩:=h
  have:=zj2 hd b (List.mem_reverse.2 hb)
  rw [hn] at this;cases this
 | cons m ms =>
  have h2:=zoF hd
  have h3:=h1 m (by rw [hd];simp)
  rw [h2] at h3;cases h3
theorem zlT (s : ByteArray) (w : World) (hs : s.size ≤ 9223372036854775807) :
 Calls Tryz.prog 200 #[.string s,.string { data:=#[97,98,99,100,101,102,103,104,105,106,107,108,109,110,111,112,113,114,115,116,117,118,119,120,121,122,48,49,50,51,52,53,54,55,56,57,45] }] w fun e w' => (∃ r : ByteArray,e = .returned (.string r) ∧ r.toList.isEmpty = s.data.toList.all zac) ∧ Below w.heap.size w w':=by
 have hc:=Go.Proofs.Any.strings_Trim_laid Tryz.lays160 (by kernel_rfl) s ⟨#[97,98,99,100,101,102,103,104,105,106,107,108,109,110,111,112,113,114,115,116,117,118,119,120,121,122,48,49,50,51,52,53,54,55,56,57,45]⟩ w hs (by decide) (Go.Proofs.ascii_of_all (by decide))
 change Calls Tryz.prog 200 _ _ (fun e w' => e = .returned (.string ⟨(trimS s.data.toList ze8).toArray⟩) ∧ Below w.heap.size w w') at hc
 refine hc.mono fun e w' ⟨h1,h2⟩ => ⟨⟨_,h1,?_⟩,h2⟩
 rw [ByteArray.toList_eq]
 by_cases h : ∀ b ∈ s.data.toList,zac b = true
 · rw [zlE (fun b hb => (zeB b).trans (h b hb)),List.all_eq_true.2 h];rfl
 ·
  have hx : ∃ b ∈ s.data.toList,zac b = false:=by
   exact Classical.byContradiction fun q => h fun b hb => Classical.byContradiction fun r => q ⟨b,hb,by simpa using r⟩
  have e1 : s.data.toList.all zac = false:=by
   rw [Bool.eq_false_iff];exact fun q => h (List.all_eq_true.1 q)
  rw [e1,Bool.eq_false_iff,ne_eq,List.isEmpty_iff]
  have:=zj6 (l:=s.data.toList) (cs:=ze8) (by obtain ⟨b,hb,hn⟩:=hx;exact ⟨b,hb,(zeB b).trans hn⟩)
  simpa using this
theorem zlG {s : ByteArray} (h : 0 < s.size) : yP s = (decide (s.size ≤ 12) && (decide (97 ≤ s[0].toNat) && decide (s[0].toNat ≤ 122)) && s.data.toList.all zac && !(s.toList == [97,110,121]) && !(s.toList == [110,111,110,101])):=by
 obtain ⟨⟨l⟩⟩:=s
 cases l with
 | nil => exact absurd h (by decide)
 | cons c r =>
  have e1 : decide ((⟨⟨c :: r⟩⟩ : ByteArray) = zhZ) = ((⟨⟨c :: r⟩⟩ : ByteArray).toList == [97,110,121]):=by
   rw [Bool.eq_iff_iff,decide_eq_true_iff,beq_iff_eq,ByteArray.toList_eq]
   exact ⟨fun q => by rw [q];rfl,fun q => ByteArray.ext (Array.toList_inj.1 q)⟩
  have e2 : decide ((⟨⟨c :: r⟩⟩ : ByteArray) = zdN) = ((⟨⟨c :: r⟩⟩ : ByteArray).toList == [110,111,110,101]):=by
   rw [Bool.eq_iff_iff,decide_eq_true_iff,beq_iff_eq,ByteArray.toList_eq]
   exact ⟨fun q => by rw [q];rfl,fun q => ByteArray.ext (Array.toList_inj.1 q)⟩
  unfold yP
  rw [e1,e2,decide_eq_true h,Bool.true_and]
  rfl
set_option maxHeartbeats 2000000 in
theorem zjj (s : ByteArray) (w : World) (hs : s.size ≤ 9223372036854775807) : Calls Tryz.prog 168 #[.string s] w fun e w' => e = .returned (.bool (yP s)) ∧ Below w.heap.size w w':=by
 have hT:=zlT s w hs
 by_cases h0 : s.size = 0
 ·
  have e0 : s = ⟨#[]⟩:=ByteArray.ext (Array.eq_empty_of_size_eq_zero h0)
  subst e0
  clear hT h0 hs
  have e1 : yP ⟨#[]⟩ = false:=by decide
  rw [e1]
  clear e1
  go_enter Tryz.func168,Tryz.ntmps168
  go_wp2_with fail
  go_ret
  exact ⟨rfl,Below.refl _ _⟩
 ·
  have hp : 0 < s.size:=by omega
  rw [zlG hp]
  clear h0
  generalize s.data.toList.all zac = A at hT ⊢
  generalize hY : (s.toList == [97,110,121]) = Y
  generalize hZ : (s.toList == [110,111,110,101]) = Z
  have hE : s.toList.isEmpty = false:=by
   rw [ByteArray.toList_eq]
   have : 0 < s.data.toList.length:=by simpa using hp
   cases h : s.data.toList with
   | nil => rw [h] at this;cases this
   | cons c r => rfl
  have HT:=hid hT
  clear hT
  generalize hR : (decide (s.size ≤ 12) && (decide (97 ≤ s[0].toNat) && decide (s[0].toNat ≤ 122)) && A && !Y && !Z) = R
  have HR:=hid hR
  clear hR
  cases A <;> cases Y <;> cases Z
  all_goals go_enter Tryz.func168,Tryz.ntmps168
  all_goals go_wp2_with (go_at_call 200;(with_reducible refine (HT.out).mono ?_);rintro e w1 ⟨⟨r,rfl,hr⟩,hb⟩;have Hb:=hid hb;clear hb)
  all_goals
   go_ret
   refine ⟨?_,?_⟩
   ·
    rw [← HR.out]
    congr 2
    symm
    simp
    try omega
   · first | exact Hb.out | exact Below.refl _ _
