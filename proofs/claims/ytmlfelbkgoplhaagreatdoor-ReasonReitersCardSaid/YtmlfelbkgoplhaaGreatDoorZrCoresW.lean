import Derived.Test.YtmlfelbkgoplhaaGreatDoorZrPkYE
import Derived.BigQuiet
set_option linter.unusedVariables false
set_option linter.unusedSimpArgs false
namespace Go.Proofs.YtmlfelbkgoplhaaGreatDoor
open Go.RowKit
def zeW (x : Nat) : List Value:=[.int .u64 (x : Int)]
theorem znF : (Tryz.prog.info? 22).map (fun i => (i.zero,i.size,i.bytes)) = some (some (.int .u64 0),1,8):=by kernel_rfl
theorem jh {W : World} {ops : Array Oper} {rest : List Oper} {o : Oper} {a : Act} {Q : Exit → Act → World → Prop} (hgd : o.guard = none) (s x : Operand)
 (ho : o.op = .call { callee:=.builtin .append,args:=#[s,x],argTypes:=#[96,96] })
 (base : Nat) (v : Value) (xs : List Nat) (hs : a.eval s = v) (hr : zh W base 22 1 zeW v xs) (y : Nat)
 (q : Nat) (hq : q = W.heap.size) (hx : a.eval x = .slice (some ⟨q,0,none⟩) 1 1) (hn : xs.length + 1 ≤ 1000000) (hbase : base ≤ W.heap.size)
 (h : ∀ g cap w',zh w' base 22 1 zeW (.slice (some ⟨g,0,none⟩) (xs.length + 1) cap) (xs ++ [y]) → Below base W w' → (∀ k,k < W.heap.size → v.ownBlock ≠ some k → w'.heap[k]? = W.heap[k]?) → (v.ownBlock = some g ∨ W.heap.size ≤ g) → wpList Tryz.prog ops Q rest (a.put o.dst (.slice (some ⟨g,0,none⟩) (xs.length + 1) cap)) w') : wpList Tryz.prog ops Q (o :: rest) a (W.alloc (.cells #[.int .u64 (y : Int)] 22)):=by
 obtain ⟨i0,hi0,hz0,hz1,hz2⟩:=info_parts znF
 exact ko hgd s x 22 96 1 8 zeW (fun _ => rfl) y (fun u hu => by simp only [zeW,List.mem_singleton] at hu;subst hu;rfl) ho i0 _ Tryz.underlying96 hi0 hz0 hz1 hz2 rfl (by decide) (by decide) base v xs hs hr _ rfl q hq hx hn hbase h
structure zf8 (wB wr : World) (v1 v2 : Value) (xs ys : List Nat) : Prop where
 r1 : zh wr wB.heap.size 22 1 zeW v1 xs
 r2 : zh wr wB.heap.size 22 1 zeW v2 ys
 ne : ∀ b,v1.ownBlock = some b → v2.ownBlock ≠ some b
 bel : Below wB.heap.size wB wr
section
variable {wB wr w' : World} {v1 v2 : Value} {xs ys : List Nat} {y g n c : Nat}
theorem zf8.first (h : zf8 wB wr v1 v2 xs ys) (hr : zh w' wB.heap.size 22 1 zeW (.slice (some ⟨g,0,none⟩) n c) (xs ++ [y])) (hb : Below wB.heap.size wr w') (hk : ∀ k,k < wr.heap.size → v1.ownBlock ≠ some k → w'.heap[k]? = wr.heap[k]?) (hg : v1.ownBlock = some g ∨ wr.heap.size ≤ g) : zf8 wB w' (.slice (some ⟨g,0,none⟩) n c) v2 (xs ++ [y]) ys :=
 ⟨hr,h.r2.keep (fun b e => hk b (h.r2.lt e).2 (fun e1 => h.ne b e1 e)),fun b e1 e2 => by
  have e3 : g = b:=by injection e1
  subst e3
  rcases hg with q | q
  · exact h.ne _ q e2
  · have:=(h.r2.lt e2).2;omega,h.bel.trans hb⟩
theorem zf8.second (h : zf8 wB wr v1 v2 xs ys) (hr : zh w' wB.heap.size 22 1 zeW (.slice (some ⟨g,0,none⟩) n c) (ys ++ [y])) (hb : Below wB.heap.size wr w') (hk : ∀ k,k < wr.heap.size → v2.ownBlock ≠ some k → w'.heap[k]? = wr.heap[k]?) (hg : v2.ownBlock = some g ∨ wr.heap.size ≤ g) : zf8 wB w' v1 (.slice (some ⟨g,0,none⟩) n c) xs (ys ++ [y]) :=
 ⟨h.r1.keep (fun b e => hk b (h.r1.lt e).2 (fun e1 => h.ne b e e1)),hr,fun b e1 e2 => by
  have e3 : g = b:=by injection e2
  subst e3
  rcases hg with q | q
  · exact h.ne _ e1 q
  · have:=(h.r1.lt e1).2;omega,h.bel.trans hb⟩
theorem zf8.grow (h : zf8 wB wr v1 v2 xs ys) (hb : Below wr.heap.size wr w') : zf8 wB w' v1 v2 xs ys :=
 ⟨h.r1.below hb,h.r2.below hb,h.ne,h.bel.trans (hb.mono h.bel.size)⟩
end
theorem zpt {w : World} {base : Nat} {v : Value} {xs : List Nat} (h : zh w base 22 1 zeW v xs) : ∃ a c,v = .slice a xs.length c ∧ xs.length ≤ c ∧ c ≤ 9223372036854775807:=h.shape
theorem zqN {n : Nat} (hn : n ≤ 10) : IntKind.u64.wrap (IntKind.u64.wrap ((2 : Int) ^ n) - 1) = ((2 ^ n - 1 : Nat) : Int):=by
 rw [zia (by omega),IntKind.wrap_u64]
 have:=zcY hn
 have:=Nat.two_pow_pos n
 omega
def okB (bad : Nat → Bool) (x : Nat) : Bool:=!bad x
def zrI (ls : List zi) (items : List zA) (w : World) (e : Ending) (w' : World) : Prop :=
 (∃ v1 v2,e = .returned (.tuple #[v1,v2,.nilIface]) ∧ zh w' w.heap.size 22 1 zeW v1 (zbL (zH ls items) (yP ls ls.length)) ∧ zh w' w.heap.size 22 1 zeW v2 (za6 (zH ls items) (yP ls ls.length))) ∧ Below w.heap.size w w'
set_option maxRecDepth 100000 in
set_option maxHeartbeats 64000000 in
theorem znj (p : Nat) (vl vi : Value) (ls : List zi) (items : List zA) (w : World) (h : zb7 w p vl vi ls items) (ho : zda ls items) (h12 : items.length ≤ 12) (h200 : (zH ls items).length ≤ 200) (h10 : (yP ls ls.length).length ≤ 10) : Calls Tryz.prog 41 #[.pointer (some ⟨p,0,none⟩)] w (zrI ls items w):=by
 have hl100:=ho.few
 have HO1:=hid (zk2 p vl vi ls items w h ho)
 have HSv:=hid (zgC ho h200 h12)
 have Hat:=hid h
 clear h ho h12
 go_enter Tryz.func41,Tryz.ntmps41
 go_wp2_with fail
 refine HO1.out.mono ?_
 rintro e w1 ⟨⟨a1,c1,a2,c2,rfl,hr,hin⟩ | ⟨rfl,hr⟩,hb1⟩
 case inr => omega
 obtain ⟨bad,hbad⟩ : ∃ bad,bad = ziF (zH ls items) (yP ls ls.length):=⟨_,rfl⟩
 have HB:=hid (show ∀ (s : Nat) (b : Bool),(b = true ↔ zaK (zH ls items) (zb4 (yP ls ls.length) s)) → bad s = !b from fun s b hb => by rw [hbad];exact zqQ hb)
 have HG:=hid (show zbL (zH ls items) (yP ls ls.length) = qP (yP ls ls.length).length bad ∧ za6 (zH ls items) (yP ls ls.length) = qP (yP ls ls.length).length (xX (yP ls ls.length).length bad) from ⟨by rw [hbad];rfl,by rw [hbad];rfl⟩)
 clear hbad
 obtain ⟨rc,hrc⟩ : ∃ rc,rc = zH ls items:=⟨_,rfl⟩
 rw [← hrc] at hin hr HSv HB ⊢
 obtain ⟨L,hL⟩ : ∃ L,L = rc.length:=⟨_,rfl⟩
 rw [← hL] at hin ⊢
 obtain ⟨m,hm⟩ : ∃ m,m = items.length:=⟨_,rfl⟩
 rw [← hm] at HSv ⊢
 obtain ⟨w2,hw2⟩ : ∃ w2,w2 = w1.alloc (.cells #[.int .i64 m,.slice a1 L c1,.slice a2 L c2] 27):=⟨_,rfl⟩
 have hb2 : Below w1.heap.size w1 w2:=by rw [hw2];exact zba
 have hk2 : w2.heap[w1.heap.size]? = some (.cells #[.int .i64 m,.slice a1 L c1,.slice a2 L c2] 27 (0,0)):=by rw [hw2];exact za rfl
 have HL2:=hid (zkn p vl vi ls items w2 (Hat.out.below (hb1.trans (hb2.mono hb1.size))) hl100)
 have HB2:=hid (hb1.trans (hb2.mono hb1.size));have Hk2:=hid hk2;have Hin2:=hid (hin.below hb2)
 clear hrc hL hm hb1 hb2 hk2 hin HO1 hr Hat h200
 go_upto_region 2 with fail
 rw [← hw2]
 clear hw2
 go_wp2_with fail
 refine HL2.out.mono ?_
 rintro e w3 ⟨⟨v3,rfl,hs3⟩,hb3⟩
 obtain ⟨az,cs,rfl,hsl1,hsl2⟩:=zh.shape hs3
 rw [List.length_map] at hs3 hsl1 ⊢
 obtain ⟨says,hsays⟩ : ∃ says,says = yP ls ls.length:=⟨_,rfl⟩
 have hnd : says.Nodup:=by rw [hsays];exact (zf2 ls _).imp (fun h => Nat.ne_of_lt h)
 have hslt : ∀ i ∈ says,i < 100:=fun i hi => by rw [hsays] at hi;have:=ziU hi;omega
 rw [← hsays] at hs3 hsl1 HB h10 ⊢
 have hcanR:=fun (W : World) (set : Nat) (hset : set < 18446744073709551616) (b0 : Nat) (hr : q8 W w.heap.size (.slice a1 L c1) (.slice a2 L c2) rc) (ho : xI W b0 (.slice az says.length cs) (says.map fun k : Nat => (k : Int))) => zqo m w.heap.size b0 a1 a2 az L c1 c2 cs rc says set W HSv.out hr ho hnd hslt hset (by omega)
 obtain ⟨n,hn⟩ : ∃ n,n = says.length:=⟨_,rfl⟩
 rw [← hn] at hs3 hsl1 h10 hcanR ⊢
 have hp:=zcY h10
 have hp0:=Nat.two_pow_pos n
 have HX:=hid (show ∀ w',Below w3.heap.size w3 w' → w'.heap[w1.heap.size]? = some (.cells #[.int .i64 m,.slice a1 L c1,.slice a2 L c2] 27 (0,0)) ∧ (∀ set : Nat,set < 18446744073709551616 → Calls Tryz.prog 91 #[.agg #[.int .i64 m,.slice a1 L c1,.slice a2 L c2],.slice az n cs,.int .u64 set] w' fun e w'' => (∃ b : Bool,e = .returned (.tuple #[.bool b,.nilIface]) ∧ (b = true ↔ zaK rc (zb4 says set))) ∧ Below w'.heap.size w' w'') ∧ Below w.heap.size w w' from fun w' hw => by
  have hb:=hb3.trans (hw.mono hb3.size)
  exact ⟨(hb.block _ (zlb Hk2.out)).trans Hk2.out,fun set hset => hcanR w' set hset w2.heap.size (Hin2.out.below hb) (zh.below hs3 hw),HB2.out.trans (hb.mono HB2.out.size)⟩)
 have HG2:=hid (show zbL (zH ls items) (yP ls ls.length) = qP n bad ∧ za6 (zH ls items) (yP ls ls.length) = qP n (xX n bad) from by rw [hn,hsays];exact HG.out)
 clear HG
 have Hn:=hid hn;have H10:=hid h10;have Hws:=hid ((HX.out w3 (Below.refl _ _)).2.2.size)
 clear hs3 hb3 hn hsays hslt hnd hcanR HL2 Hk2 Hin2 HSv HB2 hl100
 have h10i : ¬ (10 : Int) < (n : Int):=by omega
 have hn64 : (n : Int) < 64:=by omega
 go_upto_region 8 with fail
 rw [zqN H10.out]
 obtain ⟨N,hN⟩ : ∃ N,N = 2 ^ n:=⟨_,rfl⟩
 obtain ⟨A,hA⟩ : ∃ A,A = 2 ^ n - 1:=⟨_,rfl⟩
 rw [← hA]
 rw [← hN] at hp hp0 hA
 have hwN : IntKind.u64.wrap ((A : Int) + 1) = (N : Int):=by rw [IntKind.wrap_u64];omega
 have hm2 : ∀ w : World,(Instr.makeSlice 170 (.int .u64 (N : Int)) (.int .u64 (N : Int))).run Tryz.prog w = .ok (.slice (some ⟨w.heap.size,0,none⟩) N N) (w.alloc (.cells (madeCells #[.bool false] N) 4)) :=
  run_make_row' (P:=Tryz.prog) 170 4 (.bool false) 1 Tryz.underlying170 zhU rfl .u64 .u64 N (by omega) (by omega)
 obtain ⟨w4,hw4⟩ : ∃ w4,w4 = w3.alloc (.cells (madeCells #[.bool false] N) 4):=⟨_,rfl⟩
 have hb4 : Below w3.heap.size w3 w4:=by rw [hw4];exact zba
 have hr4 : zZ w4 w3.heap.size N (fun _ => false):=.made (by rw [hw4];exact za rfl)
 have Hb4:=hid hb4;have Hr4:=hid hr4;have HN:=hid hN;have HA:=hid hA
 clear hb4 hr4 hN hA
 go_upto_region 9 with fail
 rw [← hw4]
 clear hw4 hm2
 go_wp2_with fail
 go_loopg [2,3,38] N (fun gk v1 v2 i wr => ∃ k : Nat,k ≤ N ∧ gk = N - k ∧ v1 = .slice none 0 0 ∧ v2 = .slice none 0 0 ∧ i = .int .u64 k ∧ zZ wr w3.heap.size N (fun x => decide (x < k) && !bad x) ∧ Below w3.heap.size w3 wr)
 case atStart => exact ⟨0,znz _,rfl,rfl,rfl,rfl,Hr4.out.congr (fun i _ => by simp),Hb4.out⟩
 case round =>
  obtain ⟨k,hk,rfl,rfl,rfl,rfl,hr,hbw⟩:=hrel
  obtain ⟨wo,rfl⟩ : ∃ y,y = wr:=⟨_,rfl⟩
  by_cases hlt : k < N
  ·
   have hi : (k : Int) < (N : Int):=by omega
   obtain ⟨hbx,hcan,_⟩:=HX.out wo hbw
   obtain ⟨q0,q1,q2⟩:=yN hbx
   have hc:=hcan k (by omega)
   have Hc:=hid hc;have Hr:=hid hr;have Hbw:=hid hbw
   clear hc hr hbw hcan hbx
   go_wp2_with fail
   refine Hc.out.mono ?_
   rintro e w5 ⟨⟨b,rfl,hb⟩,hb5⟩
   have hbad:=HB.out k b hb
   have hr5:=Hr.out.below hb5
   obtain ⟨d1,d2,d3⟩:=hr5.cell hlt
   have Hbad:=hid hbad;have Hr5:=hid hr5;have Hb5:=hid (Hbw.out.trans (hb5.mono Hbw.out.size))
   clear hbad hr5 hb hb5 q0 q1 q2 Hc
   go_wp2_with fail
   go_roundg (N - (k + 1))
   case measure => omega
   case rel => exact ⟨k + 1,by omega,rfl,rfl,rfl,by go_num,(Hr5.out.set hlt b).congr (fun i _ => by
    by_cases e : i = k
    · subst e;rw [if_pos rfl,Hbad.out,decide_eq_true (by omega)];simp
    ·
     rw [if_neg e]
     by_cases e2 : i < k
     · rw [decide_eq_true e2,decide_eq_true (by omega)]
     · rw [decide_eq_false e2,decide_eq_false (by omega)]),Hb5.out.setCell (p:=⟨w3.heap.size,k,none⟩) (znr _) _⟩
  ·
   obtain rfl : N = k:=by omega
   have hr2 : zZ wo w3.heap.size N (okB bad):=hr.congr (fun i hi => by rw [decide_eq_true hi];rfl)
   have HBk:=hid (show ∀ W,Below wo.heap.size wo W → zZ W w3.heap.size N (okB bad) from fun W hW => hr2.below hW)
   have HBe:=hid (show ∀ W,Below wo.heap.size wo W → Below w.heap.size w W from fun W hW => (HX.out W (hbw.trans (hW.mono hbw.size))).2.2)
   have hws : w.heap.size ≤ wo.heap.size:=Nat.le_trans Hws.out hbw.size
   clear hr hr2 hbw HX Hr4 Hb4 hlt HB
   go_wp2_with fail
   go_loopg [2,3,57] N (fun gk v1 v2 i wr => ∃ k : Nat,k ≤ N ∧ gk = N - k ∧ i = .int .u64 k ∧ zf8 wo wr v1 v2 (zbf n bad k) (zbf n (xX n bad) k))
   case atStart => exact ⟨0,znz _,rfl,rfl,⟨zh.nil _ _ _ _ _,zh.nil _ _ _ _ _,fun b e => (by cases e),Below.refl _ _⟩⟩
   case round =>
    obtain ⟨k,hk,rfl,rfl,tw⟩:=hrel
    obtain ⟨wi,rfl⟩ : ∃ y,y = wr:=⟨_,rfl⟩
    obtain ⟨x1,y1,rfl,_,_⟩:=zpt tw.r1
    obtain ⟨x2,y2,rfl,_,_⟩:=zpt tw.r2
    by_cases hlt : k < N
    ·
     have hi : (k : Int) < (N : Int):=by omega
     have hkn : k < 2 ^ n:=by rw [← HN.out];exact hlt
     have hcl : qz n k < N:=by rw [HN.out];exact zaD hkn
     obtain ⟨d1,_,_⟩:=(HBk.out wi tw.bel).cell hlt
     obtain ⟨e1,_,_⟩:=(HBk.out wi tw.bel).cell hcl
     have d1' : wi.cell? ⟨w3.heap.size,k,none⟩ = some (.bool (!bad k)):=d1
     rw [show okB bad (qz n k) = xX n bad k from rfl] at e1
     have e1':=e1
     have han : bits .andNot .u64 (A : Int) (k : Int) = ((qz n k : Nat) : Int):=by rw [HA.out,HN.out];exact zff H10.out hkn
     clear d1 e1
     obtain ⟨C,hC⟩ : ∃ C,C = qz n k:=⟨_,rfl⟩
     rw [← hC] at e1' han hcl
     obtain ⟨b1,hb1⟩ : ∃ b,b = bad k:=⟨_,rfl⟩
     obtain ⟨b2,hb2⟩ : ∃ b,b = xX n bad k:=⟨_,rfl⟩
     rw [← hb1] at d1'
     rw [← hb2] at e1'
     have hci : (C : Int) < (N : Int):=by omega
     have Tw:=hid tw;have HC:=hid hC;have Hb1:=hid hb1;have Hb2:=hid hb2;have Hkn:=hid hkn
     clear tw hC hb1 hb2 hkn
     go_wp2_with fail
     go_quiet (fail)
     go_wp2_with fail
     clear d1' e1' han hci
     go_loopg [11,12,73] n (fun gk p1 p2 i wr => ∃ j : Nat,j ≤ n ∧ gk = n - j ∧ p1 = .bool (zb6 bad k j) ∧ p2 = .bool (zb6 (xX n bad) k j) ∧ i = .int .i64 j ∧ zf8 wo wr (.slice x1 (zbf n bad k).length y1) (.slice x2 (zbf n (xX n bad) k).length y2) (zbf n bad k) (zbf n (xX n bad) k))
     case atStart => exact ⟨0,znz _,rfl,by rw [zgT,← Hb1.out],by rw [zgT,← Hb2.out],rfl,Tw.out.grow (below_drewN (Below.refl _ _) _)⟩
     case round =>
      obtain ⟨j,hj,rfl,rfl,rfl,rfl,tw⟩:=hrel
      obtain ⟨wq,rfl⟩ : ∃ y,y = wr:=⟨_,rfl⟩
      have su1:=zfW bad k j
      have su2:=zfW (xX n bad) k j
      by_cases hjl : j < n
      ·
       have hji : (j : Int) < (n : Int):=by omega
       obtain ⟨BT,hBT⟩ : ∃ BT,BT = 2 ^ j:=⟨_,rfl⟩
       have hpw : IntKind.u64.wrap ((2 : Int) ^ j) = (BT : Int):=by rw [hBT];exact zia (by omega)
       have hab : (bits .and .u64 (k : Int) (BT : Int) != 0) = k.testBit j:=by rw [hBT];exact zqX (by omega) (by omega)
       obtain ⟨p1,hp1⟩ : ∃ b,b = zb6 bad k j:=⟨_,rfl⟩
       obtain ⟨p2,hp2⟩ : ∃ b,b = zb6 (xX n bad) k j:=⟨_,rfl⟩
       rw [← hp1] at su1 ⊢
       rw [← hp2] at su2 ⊢
       have hj64 : (j : Int) < 64:=by omega
       cases hb : k.testBit j with
       | false =>
        rw [hb] at hab su1 su2
        have Tq:=hid tw;have Su1:=hid su1;have Su2:=hid su2
        clear tw su1 su2 hb hBT hp1 hp2
        go_wp2_with fail
        go_roundg (n - (j + 1))
        case measure => omega
        case rel => exact ⟨j + 1,by omega,rfl,by rw [Su1.out];simp,by rw [Su2.out];simp,by go_num,Tq.out⟩
       | true =>
        rw [hb] at hab su1 su2
        have hdl : kY k j < N:=by have:=zfJ hb;omega
        have hnd : bits .andNot .u64 (k : Int) (BT : Int) = ((kY k j : Nat) : Int):=by rw [hBT];exact zlK (by omega) hb
        have hEc : qz n (kY k j) = C ||| BT:=by rw [HC.out,hBT];exact zn7 hjl hb
        have hor : bits .or .u64 (C : Int) (BT : Int) = ((qz n (kY k j) : Nat) : Int):=by
         have h1 : (2 : Nat) ^ j ≤ 1024:=zcY (by omega)
         rw [hEc,bits_or_u64_nat _ _ (by omega) (by omega)]
        have hel : qz n (kY k j) < N:=by rw [HN.out];exact zaD (by rw [← HN.out];exact hdl)
        obtain ⟨d1,_,_⟩:=(HBk.out wq tw.bel).cell hdl
        obtain ⟨e1,_,_⟩:=(HBk.out wq tw.bel).cell hel
        have d2 : wq.cell? ⟨w3.heap.size,kY k j,none⟩ = some (.bool (!bad (kY k j))):=d1
        rw [show okB bad (qz n (kY k j)) = xX n bad (kY k j) from rfl] at e1
        have e2:=e1
        clear d1 e1 hEc
        generalize qz n (kY k j) = E at hor hel e2
        generalize kY k j = D at hdl hnd d2 e2 su1 su2
        generalize bad D = t1 at d2 su1
        generalize xX n bad D = t2 at e2 su2
        have hdi : (D : Int) < (N : Int):=by omega
        have hei : (E : Int) < (N : Int):=by omega
        have han : bits .andNot .u64 (A : Int) (k : Int) = (C : Int):=by rw [HA.out,HN.out,HC.out];exact zff H10.out Hkn.out
        have Tq:=hid tw;have Su1:=hid su1;have Su2:=hid su2
        clear tw su1 su2 hb hBT hp1 hp2
        cases p1 <;> cases p2
        all_goals go_wp2_with fail
        all_goals go_roundg (n - (j + 1))
        all_goals first
         | omega
         | exact ⟨j + 1,by omega,rfl,by rw [Su1.out];simp,by rw [Su2.out];simp,by go_num,Tq.out⟩
      ·
       obtain rfl : n = j:=by omega
       have sk1:=zg4 n bad k
       have sk2:=zg4 n (xX n bad) k
       have hl1:=zh4 n bad k
       have hl2:=zh4 n (xX n bad) k
       obtain ⟨X1,hX1⟩ : ∃ X,X = zbf n bad k:=⟨_,rfl⟩
       obtain ⟨X2,hX2⟩ : ∃ X,X = zbf n (xX n bad) k:=⟨_,rfl⟩
       rw [← hX1] at sk1 hl1 tw ⊢
       rw [← hX2] at sk2 hl2 tw ⊢
       obtain ⟨p1,hp1⟩ : ∃ b,b = zb6 bad k n:=⟨_,rfl⟩
       obtain ⟨p2,hp2⟩ : ∃ b,b = zb6 (xX n bad) k n:=⟨_,rfl⟩
       rw [← hp1] at sk1 ⊢
       rw [← hp2] at sk2 ⊢
       have Tq:=hid tw;have Sk1:=hid sk1;have Sk2:=hid sk2
       clear tw sk1 sk2 su1 su2 hX1 hX2 hp1 hp2 Tw hjl
       cases p1 with
       | false =>
        cases p2 with
        | false =>
         go_wp2_with fail
         go_roundg (N - (k + 1))
         case measure => omega
         case rel => exact ⟨k + 1,by omega,rfl,by go_num,by rw [Sk1.out,Sk2.out];simpa using Tq.out⟩
        | true =>
         go_wp2_with (at_builtin;refine jh rfl (.tmp 110) (.tmp 112) rfl wo.heap.size (.slice x2 X2.length y2) X2 rfl Tq.out.r2 k _ rfl rfl (by omega) Tq.out.bel.size ?_;intro g8 c8 w8 ho8 hb8 hk8 hg8;have Tw8:=hid (Tq.out.second ho8 hb8 hk8 hg8);clear ho8 hb8 hk8 hg8)
         go_roundg (N - (k + 1))
         case measure => omega
         case rel => exact ⟨k + 1,by omega,rfl,by go_num,by rw [Sk1.out,Sk2.out];simpa using Tw8.out⟩
       | true =>
        cases p2 with
        | false =>
         go_wp2_with (at_builtin;refine jh rfl (.tmp 105) (.tmp 107) rfl wo.heap.size (.slice x1 X1.length y1) X1 rfl Tq.out.r1 k _ rfl rfl (by omega) Tq.out.bel.size ?_;intro g9 c9 w9 ho9 hb9 hk9 hg9;have Tw9:=hid (Tq.out.first ho9 hb9 hk9 hg9);clear ho9 hb9 hk9 hg9)
         go_roundg (N - (k + 1))
         case measure => omega
         case rel => exact ⟨k + 1,by omega,rfl,by go_num,by rw [Sk1.out,Sk2.out];simpa using Tw9.out⟩
        | true =>
         go_wp2_with (first | (at_builtin;refine jh rfl (.tmp 105) (.tmp 107) rfl wo.heap.size (.slice x1 X1.length y1) X1 rfl Tq.out.r1 k _ rfl rfl (by omega) Tq.out.bel.size ?_;intro g9 c9 w9 ho9 hb9 hk9 hg9;have Tw9:=hid (Tq.out.first ho9 hb9 hk9 hg9);clear ho9 hb9 hk9 hg9) | (at_builtin;refine jh rfl (.tmp 110) (.tmp 112) rfl wo.heap.size (.slice x2 X2.length y2) X2 rfl Tw9.out.r2 k _ rfl rfl (by omega) Tw9.out.bel.size ?_;intro g8 c8 w8 ho8 hb8 hk8 hg8;have Tw8:=hid (Tw9.out.second ho8 hb8 hk8 hg8);clear ho8 hb8 hk8 hg8))
         go_roundg (N - (k + 1))
         case measure => omega
         case rel => exact ⟨k + 1,by omega,rfl,by go_num,by rw [Sk1.out,Sk2.out];simpa using Tw8.out⟩
    ·
     obtain rfl : N = k:=by omega
     have q1:=tw.r1.less hws
     have q2:=tw.r2.less hws
     have hbe:=HBe.out _ tw.bel
     rw [HN.out,zcS] at q1
     rw [HN.out,zcS] at q2
     rw [HN.out,zcS,zcS]
     have Q1:=hid q1;have Q2:=hid q2;have Hbe:=hid hbe
     clear q1 q2 hbe tw hlt
     go_wp2_with fail
     go_ret3
     refine ⟨⟨_,_,rfl,?_,?_⟩,Hbe.out⟩
     · rw [HG2.out.1];exact Q1.out
     · rw [HG2.out.2];exact Q2.out
