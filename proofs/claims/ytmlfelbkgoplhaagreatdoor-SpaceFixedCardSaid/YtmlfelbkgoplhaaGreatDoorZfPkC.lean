import Derived.Test.YtmlfelbkgoplhaaGreatDoorShelfA
import Derived.Test.YtmlfelbkgoplhaaGreatDoorShelfT
import Derived.Lib.AtoiErrMem
import Derived.Lib.SmallJoins
import Derived.Test.YtmlfelbkgoplhaaGreatDoorZfPkB
import Derived.Lib.SplitLaws
import Derived.Lib.AtoiAllCases
import Derived.RowKit
import Derived.Test.YtmlfelbkgoplhaaGreatDoorShelfI
import Derived.Deep.RegionHeld3
import Derived.Deep.Cut
import Derived.Deep.CutRange
import Derived.Deep.CutBlock
import Derived.RangeFuncOwn
import Derived.RangeFuncBound
import Derived.WalkKit
import Derived.OwnWalkIn
import Derived.TacticsInMore
import Derived.LoopIn
import Derived.RangeFuncNested
import Derived.Deep.RegionHeld
import Derived.OrdersIn
import Derived.Test.YtmlfelbkgoplhaaGreatDoorProg
set_option linter.unusedVariables false
namespace Go.Proofs.YtmlfelbkgoplhaaGreatDoor
open Go.RowKit
structure xQ (w : World) : Prop where
 len : ∃ m : Int,w.cell? ⟨4,0,none⟩ = some (.int .i64 m)
 syn : ∃ t v,w.cell? ⟨6,0,none⟩ = some (.iface t v)
 rng : ∃ t v,w.cell? ⟨7,0,none⟩ = some (.iface t v)
 tab : Lib.TabIs Tryz.prog w "internal/strconv.uint64pow10" .u64 Lib.pow10Tab
theorem xQ.cells {w w' : World} {g : Nat} {v : Value} (h : w.cell? ⟨g,0,none⟩ = some v) (hb : Below w.heap.size w w') : w'.cell? ⟨g,0,none⟩ = some v:=(hb.cell (World.block_lt_of_cell? _ _ h)).trans h
theorem hPow : Tryz.prog.globalNamed "internal/strconv.uint64pow10" = some 5 := by kernel_rfl
theorem zl1 {n : String} {g : Nat} {k : IntKind} {zs : List Int} {w w' : World} (hg : Tryz.prog.globalNamed n = some g) (h : Lib.TabIs Tryz.prog w n k zs) (hb : Below w.heap.size w w') : Lib.TabIs Tryz.prog w' n k zs:=by
 unfold Lib.TabIs World.var? at h ⊢
 rw [hg,Option.bind_some] at h ⊢
 have hlt : g < w.heap.size:=by
  rcases Nat.lt_or_ge g w.heap.size with h1 | h1
  · exact h1
  · rw [Array.getElem?_eq_none h1] at h;simp at h
 rw [hb.block g hlt];exact h
theorem xQ.below {w w' : World} (h : xQ w) (hb : Below w.heap.size w w') : xQ w':=by
 obtain ⟨⟨m,h1⟩,⟨t,v,h2⟩,⟨t',v',h3⟩,h4⟩:=h
 exact ⟨⟨m,xQ.cells h1 hb⟩,⟨t,v,xQ.cells h2 hb⟩,⟨t',v',xQ.cells h3 hb⟩,zl1 hPow h4 hb⟩
def AtoiP (l : List UInt8) (w : World) (e : Ending) (w' : World) : Prop :=
 ∃ n er,e = .returned (.tuple #[.int .i64 n,er]) ∧ ((er = .nilIface ∧ Lib.atoiAll l = .ok n) ∨ ((∃ t v,er = .iface t v) ∧ ∀ k,Lib.atoiAll l ≠ .ok k)) ∧ Below w.heap.size w w'
theorem zfX (s : ByteArray) (w : World) (hs : s.size ≤ 1000000) (h : xQ w) : Calls Tryz.prog 181 #[.string s] w (AtoiP s.data.toList w):=by
 obtain ⟨_,⟨t,v,h2⟩,⟨t',v',h3⟩,_⟩:=h
 cases ha : Lib.atoiAll s.data.toList
 ·
  rename_i n
  refine Calls.mono (Any.strconv_Atoi_ok Tryz.lays172 s (by omega) n ha w) ?_
  rintro e w' ⟨rfl,hw⟩
  refine ⟨_,_,rfl,.inl ⟨rfl,ha⟩,?_⟩
  rcases hw with rfl | ⟨t,rfl⟩
  · exact Below.refl _ _
  · exact Lib.bytesWorld_below _ _ _
 ·
  refine Calls.mono (Any.strconv_Atoi_syntax Tryz.lays172 s (by omega) ha _ w h2 (.inr ⟨_,_,rfl⟩)) ?_
  rintro e w' ⟨N,rfl,_,_,hb⟩
  exact ⟨_,_,rfl,.inr ⟨⟨_,_,rfl⟩,fun k h => by rw [ha] at h;cases h⟩,hb⟩
 ·
  refine Calls.mono (Any.strconv_Atoi_range Tryz.lays172 s (by omega) ha _ w h3 (.inr ⟨_,_,rfl⟩)) ?_
  rintro e w' ⟨N,rfl,_,_,hb⟩
  exact ⟨_,_,rfl,.inr ⟨⟨_,_,rfl⟩,fun k h => by rw [ha] at h;cases h⟩,hb⟩
theorem zfV (n : Int) (w : World) (h0 : -9223372036854775808 ≤ n) (h1 : n ≤ 9223372036854775807) (h : xQ w) : Calls Tryz.prog 130 #[.int .i64 n] w fun e w' => e = .returned (.string ⟨(Lib.itoa n).toArray⟩) ∧ Below w.heap.size w w':=by
 refine Calls.mono (Any.strconv_Itoa Tryz.lays171 n h0 h1 w h.tab) ?_
 rintro e w' ⟨rfl,k,os,rfl⟩
 refine ⟨rfl,rfl,rfl,rfl,by simp [Sort.grow],fun j hj => ?_⟩
 show (w.heap ++ os)[j]? = _
 rw [Array.getElem?_append_left hj]
theorem zp2 : (Tryz.prog.info? 9).map (fun i => (i.zero,i.size,i.bytes)) = some (some (.string ByteArray.empty),1,16):=by kernel_rfl
theorem zmK (s sep : ByteArray) (w : World) (hs : s.size ≤ 1000000) (h1 : 1 ≤ sep.size) (h : xQ w) : Calls Tryz.prog 180 #[.string s,.string sep] w fun e w' =>
 e = .returned (.slice (some ⟨w.heap.size,0,none⟩) (Lib.countB s sep + 1) (Lib.countB s sep + 1)) ∧ w' = w.alloc (.cells ((Lib.splitB sep 0 (Lib.countB s sep) s).map Value.string).toArray 9):=by
 obtain ⟨⟨m,hm⟩,_⟩:=h
 exact Any.strings_Split Tryz.lays146 zp2 s sep m w (by omega) hm h1
theorem zdv (sep : ByteArray) (save : Nat) : ∀ (k : Nat) (s x : ByteArray),x ∈ Lib.splitB sep save k s → x.size ≤ s.size
 | 0,s,x,h => by
  rw [Lib.splitB_zero,List.mem_singleton] at h;rw [h];exact znr _
 | k + 1,s,x,h => by
  unfold Lib.splitB at h
  split at h
  · rw [List.mem_singleton] at h;rw [h];exact znr _
  ·
   rcases List.mem_cons.1 h with rfl | h
   · simp;omega
   ·
    have:=zdv sep save k _ x h
    simp at this;omega
theorem qi {a b : ByteArray} (h : a.toList = b.toList) : a = b:=by
 rw [ByteArray.toList_eq,ByteArray.toList_eq] at h
 exact ByteArray.ext (Array.toList_inj.1 h)
theorem cells3 {w : World} {p : Nat} {a b c : Value} {T : TypeId} (h : w.heap[p]? = some (.cells #[a,b,c] T (0,0))) :
 w.cell? ⟨p,0,none⟩ = some a ∧ w.cell? ⟨p,1,none⟩ = some b ∧ w.cell? ⟨p,2,none⟩ = some c ∧ w.frozen? ⟨p,0,none⟩ = false ∧ w.frozen? ⟨p,1,none⟩ = false ∧ w.frozen? ⟨p,2,none⟩ = false:=by
 refine ⟨?_,?_,?_,?_,?_,?_⟩
 · rw [cell_of_row w p _ _ _ _ h];rfl
 · rw [cell_of_row w p _ _ _ _ h];rfl
 · rw [cell_of_row w p _ _ _ _ h];rfl
 all_goals simp [World.frozen?,h]
theorem zbB {w : World} {p : Nat} {a b c : Value} {T : TypeId} (h : w.heap[p]? = some (.cells #[a,b,c] T (0,0))) (x y z : Value) : (((w.setCell ⟨p,0,none⟩ x).setCell ⟨p,1,none⟩ y).setCell ⟨p,2,none⟩ z).heap[p]? = some (.cells #[x,y,z] T (0,0)):=by
 have:=heap_set (heap_set (heap_set h 0 x) 1 y) 2 z
 simpa using this
def zdu : ByteArray:=⟨#[46]⟩
def zea (s : ByteArray) : List ByteArray:=Lib.splitB zdu 0 (Lib.countB s zdu) s
def jI (s : ByteArray) (n : Int) : Prop:=Lib.atoiAll s.data.toList = .ok n ∧ (⟨(Lib.itoa n).toArray⟩ : ByteArray) = s ∧ 0 ≤ n ∧ n ≤ 999
theorem jI.one {s : ByteArray} {n m : Int} (h : jI s n) (h2 : jI s m) : n = m:=by
 have:=h.1.symm.trans h2.1
 cases this;rfl
def zaz (s : ByteArray) (a b c : Int) : Prop:=∃ p q r,zea s = [p,q,r] ∧ jI p a ∧ jI q b ∧ jI r c
def znl (s : ByteArray) (w : World) (e : Ending) (w' : World) : Prop :=
 ∃ a b c er,e = .returned (.tuple #[.agg #[.int .i64 a,.int .i64 b,.int .i64 c],er]) ∧ Below w.heap.size w w' ∧ ((er = .nilIface ∧ zaz s a b c) ∨ ((∃ k,er = .iface 45 (.int .i64 k)) ∧ ∀ a b c,¬ zaz s a b c))
set_option maxRecDepth 100000 in
set_option maxHeartbeats 8000000 in
theorem zci (s : ByteArray) (w : World) (hs : s.size ≤ 100000) (h : xQ w) : Calls Tryz.prog 139 #[.string s] w (znl s w):=by
 have hsz:=fun x hx => zdv zdu 0 (Lib.countB s zdu) s x hx
 have hlen : (zea s).length = Lib.countB s zdu + 1:=Lib.splitB_all zdu (by decide) 0 _ s rfl
 obtain ⟨W,hW⟩ : ∃ W,W = ((w.alloc (.cells #[.int .i64 0,.int .i64 0,.int .i64 0] 72)).alloc (.cells #[.int .i64 0,.int .i64 0,.int .i64 0] 72)):=⟨_,rfl⟩
 have hbW : Below w.heap.size w W:=by rw [hW];exact (zba).alloc (by simp) _
 have hsp:=zmK s zdu W (by omega) (by decide) (h.below hbW)
 have hsW : W.heap.size = w.heap.size + 1 + 1:=by rw [hW];simp
 have hb1 : W.heap[w.heap.size]? = some (.cells #[.int .i64 0,.int .i64 0,.int .i64 0] 72 (0,0)):=by rw [hW];exact zh (za rfl)
 have hb2 : W.heap[w.heap.size + 1]? = some (.cells #[.int .i64 0,.int .i64 0,.int .i64 0] 72 (0,0)):=by rw [hW];exact za (by simp)
 rw [hsW] at hsp
 have hq : Lib.splitB zdu 0 (Lib.countB s zdu) s = zea s:=rfl
 rw [hq] at hsp hsz
 rw [← hlen] at hsp
 unfold znl zaz
 generalize zea s = ws at hsp hsz hlen ⊢
 have Hsp:=hid hsp;have HbW:=hid hbW;have Hb1:=hid hb1;have Hb2:=hid hb2;have Hsz:=hid hsz;have HL:=hid (h.below hbW);have HsW:=hid hsW
 clear hsp hbW hb1 hb2 hsz hsW hq hlen
 unfold zdu at Hsp
 go_enter Tryz.func139,Tryz.ntmps139
 go_upto_region 2 with fail
 rw [← hW]
 clear hW
 go_wp2_with fail
 refine Hsp.out.mono ?_
 rintro e w1 ⟨rfl,rfl⟩
 have hal : Below W.heap.size W (W.alloc (.cells (ws.map Value.string).toArray 9)):=zba
 have hb1':=zh (o:=.cells (ws.map Value.string).toArray 9) Hb1.out
 have hbX:=HbW.out.trans (hal.mono HbW.out.size)
 have HX:=hid hbX;have Hb1':=hid hb1'
 obtain ⟨m0,m1,m2,m3,m4,m5⟩:=cells3 hb1'
 have m6:=zlb hb1'
 clear hal hb1' hbX
 by_cases h3 : ws.length = 3
 ·
  obtain ⟨p,q,r,rfl⟩ : ∃ p q r,ws = [p,q,r]:=by
   match ws,h3 with
   | [p,q,r],_ => exact ⟨p,q,r,rfl⟩
  have hb2':=zh (o:=.cells ([p,q,r].map Value.string).toArray 9) Hb2.out
  have hb3' : (W.alloc (.cells ([p,q,r].map Value.string).toArray 9)).heap[w.heap.size + 1 + 1]? = some (.cells #[.string p,.string q,.string r] 9 (0,0)):=za HsW.out.symm
  have HL0:=hid (show xQ w from h)
  have Hb2':=hid hb2';have Hb3':=hid hb3'
  clear hb2' hb3' m0 m1 m2 m3 m4 m5 m6 Hsp h3 h
  go_wp2_with fail
  have ew : W.alloc (.cells ([p,q,r].map Value.string).toArray 9) = W.alloc (.cells #[.string p,.string q,.string r] 9):=rfl
  rw [ew] at HX Hb1' Hb2' Hb3'
  generalize W.alloc (.cells #[.string p,.string q,.string r] 9) = WX at HX Hb1' Hb2' Hb3' ⊢
  go_loopg [19] 3 (fun gk i wr => ∃ (k : Nat) (f0 f1 f2 : Int),k ≤ 3 ∧ gk = 3 - k ∧ i = .int .i64 k ∧ wr.heap[w.heap.size]? = some (.cells #[.int .i64 0,.int .i64 0,.int .i64 0] 72 (0,0)) ∧ wr.heap[w.heap.size + 1]? = some (.cells #[.int .i64 f0,.int .i64 f1,.int .i64 f2] 72 (0,0)) ∧ wr.heap[w.heap.size + 1 + 1]? = some (.cells #[.string p,.string q,.string r] 9 (0,0)) ∧ Below w.heap.size w wr ∧ (0 < k → jI p f0) ∧ (1 < k → jI q f1) ∧ (2 < k → jI r f2))
  case atStart => exact ⟨0,0,0,0,by omega,rfl,rfl,Hb1'.out,Hb2'.out,Hb3'.out,HX.out,fun h => by omega,fun h => by omega,fun h => by omega⟩
  case round =>
   clear Hb1' Hb2' Hb3' HX
   obtain ⟨k,f0,f1,f2,hk,rfl,rfl,s1,s2,s3,hbw,pp,pq,pr⟩:=hrel
   obtain ⟨wo,rfl⟩ : ∃ y,y = wr:=⟨_,rfl⟩
   have S1:=hid s1;have S2:=hid s2;have S3:=hid s3;have Hbw:=hid hbw;have Pp:=hid pp;have Pq:=hid pq;have Pr:=hid pr
   clear s1 s2 s3 hbw pp pq pr
   have hlt3:=zlb S3.out
   obtain rfl | rfl | rfl | rfl : k = 0 ∨ k = 1 ∨ k = 2 ∨ k = 3:=by omega
   ·
    have ca : wo.cell? ⟨w.heap.size + 1 + 1,0,none⟩ = some (.string p):=by rw [cell_of_row _ _ _ _ _ _ S3.out];rfl
    have Hat:=hid (zfX p wo (by have:=Hsz.out p (by simp);omega) (HL0.out.below Hbw.out))
    go_wp2_with fail
    refine Hat.out.mono ?_
    rintro e w9 ⟨n,er,rfl,hcase,hb9⟩
    have T1:=hid ((hb9.block _ (zlb S1.out)).trans S1.out);have T2:=hid ((hb9.block _ (zlb S2.out)).trans S2.out);have T3:=hid ((hb9.block _ (zlb S3.out)).trans S3.out)
    have Hb9:=hid (Hbw.out.trans (hb9.mono Hbw.out.size))
    clear hb9 Hat S1 S2 S3 Hbw ca hlt3
    rcases hcase with ⟨rfl,hok⟩ | ⟨⟨t,v,rfl⟩,hbad⟩
    ·
     have hbd:=Lib.atoiAll_bounds hok
     have Hit:=hid (zfV n w9 hbd.1 hbd.2 (HL0.out.below Hb9.out))
     have hone : ∀ m,jI p m → m = n ∧ (⟨(Lib.itoa n).toArray⟩ : ByteArray) = p ∧ 0 ≤ n ∧ n ≤ 999:=fun m hm => by
      have e : n = m:=by have:=hok.symm.trans hm.1;cases this;rfl
      subst e
      exact ⟨rfl,hm.2⟩
     have hgood : (⟨(Lib.itoa n).toArray⟩ : ByteArray) = p → 0 ≤ n → n ≤ 999 → jI p n:=fun h1 h2 h3 => ⟨hok,h1,h2,h3⟩
     generalize (⟨(Lib.itoa n).toArray⟩ : ByteArray) = y at Hit hone hgood
     have Hone:=hid hone;have Hgood:=hid hgood
     clear hok hone hgood hbd
     go_wp2_with fail
     refine Hit.out.mono ?_
     rintro e w10 ⟨rfl,hb10⟩
     have Z:=hid ((hb10.block _ (zlb T1.out)).trans T1.out)
     have Z2:=hid ((hb10.block _ (zlb T2.out)).trans T2.out)
     have Z3:=hid ((hb10.block _ (zlb T3.out)).trans T3.out)
     have Hb10:=hid (Hb9.out.trans (hb10.mono Hb9.out.size))
     clear T1 T2 T3 Hb9 hb10 Hit
     obtain ⟨m0,m1,m2,m3,m4,m5⟩:=cells3 Z.out
     have m6:=zlb Z.out
     by_cases hyp : y = p
     ·
      subst hyp
      by_cases hn1 : n < 0
      ·
       have d1 : decide (n < 0) = true:=by simpa using hn1
       have Nb:=hid (fun m hm => (show False from by have:=(Hone.out m hm).2.2.1;omega))
       obtain ⟨k0,k1,k2,_⟩:=cells3 (zbB Z.out (.int .i64 0) (.int .i64 0) (.int .i64 0))
       go_wp2_with fail
       refine bodyPost_ret (v:=.tuple #[.agg #[.int .i64 0,.int .i64 0,.int .i64 0],.iface 45 (.int .i64 3)]) (by simp [results,Tryz.results139,go_sem,k0,k1,k2]) rfl ⟨0,0,0,_,rfl,((Hb10.out.setCell (znr _) _).setCell (znr _) _).setCell (znr _) _,.inr ⟨⟨_,rfl⟩,fun a b c h => ?_⟩⟩
       obtain ⟨p',q',r',e,ea,eb,ec⟩:=h
       cases e
       exact Nb.out _ ea
      ·
       by_cases hn2 : 999 < n
       ·
        have d1 : decide (n < 0) = false:=by simpa using hn1
        have d2 : decide (999 < n) = true:=by simpa using hn2
        have Nb:=hid (fun m hm => (show False from by have:=(Hone.out m hm).2.2.2;omega))
        obtain ⟨k0,k1,k2,_⟩:=cells3 (zbB Z.out (.int .i64 0) (.int .i64 0) (.int .i64 0))
        go_wp2_with fail
        refine bodyPost_ret (v:=.tuple #[.agg #[.int .i64 0,.int .i64 0,.int .i64 0],.iface 45 (.int .i64 2)]) (by simp [results,Tryz.results139,go_sem,k0,k1,k2]) rfl ⟨0,0,0,_,rfl,((Hb10.out.setCell (znr _) _).setCell (znr _) _).setCell (znr _) _,.inr ⟨⟨_,rfl⟩,fun a b c h => ?_⟩⟩
        obtain ⟨p',q',r',e,ea,eb,ec⟩:=h
        cases e
        exact Nb.out _ ea
       ·
        have d1 : decide (n < 0) = false:=by simpa using hn1
        have d2 : decide (999 < n) = false:=by simpa using hn2
        have Hg:=hid (Hgood.out rfl (by omega) (by omega))
        obtain ⟨u0,u1,u2,u3,u4,u5⟩:=cells3 Z2.out
        have u6:=zlb Z2.out
        have hset : (w10.setCell ⟨w.heap.size + 1,0,none⟩ (.int .i64 n)).heap[w.heap.size + 1]? = some (.cells #[.int .i64 n,.int .i64 f1,.int .i64 f2] 72 (0,0)):=heap_set Z2.out _ _
        have hz1:=(zhc w10 ⟨w.heap.size + 1,0,none⟩ (.int .i64 n) w.heap.size (by show w.heap.size ≠ w.heap.size + 1;omega)).trans Z.out
        have hz3:=(zhc w10 ⟨w.heap.size + 1,0,none⟩ (.int .i64 n) (w.heap.size + 1 + 1) (by show w.heap.size + 1 + 1 ≠ w.heap.size + 1;omega)).trans Z3.out
        have Hset:=hid hset;have Hz1:=hid hz1;have Hz3:=hid hz3
        clear hset hz1 hz3 hn1 hn2
        go_wp2_with fail
        go_roundg 2
        case measure => omega
        case rel => exact ⟨1,n,f1,f2,by omega,rfl,by go_num,Hz1.out,Hset.out,Hz3.out,Hb10.out.setCell (by show w.heap.size ≤ w.heap.size + 1;omega) _,fun _ => Hg.out,fun h => by omega,fun h => by omega⟩
     ·
      have hyl : ¬ y.toList = p.toList:=fun h => hyp (qi h)
      have Nb:=hid (fun m hm => (show False from hyp (Hone.out m hm).2.1))
      obtain ⟨k0,k1,k2,_⟩:=cells3 (zbB Z.out (.int .i64 0) (.int .i64 0) (.int .i64 0))
      go_wp2_with fail
      refine bodyPost_ret (v:=.tuple #[.agg #[.int .i64 0,.int .i64 0,.int .i64 0],.iface 45 (.int .i64 3)]) (by simp [results,Tryz.results139,go_sem,k0,k1,k2]) rfl ⟨0,0,0,_,rfl,((Hb10.out.setCell (znr _) _).setCell (znr _) _).setCell (znr _) _,.inr ⟨⟨_,rfl⟩,fun a b c h => ?_⟩⟩
      obtain ⟨p',q',r',e,ea,eb,ec⟩:=h
      cases e
      exact Nb.out _ ea
    ·
     have Z:=T1
     obtain ⟨m0,m1,m2,m3,m4,m5⟩:=cells3 Z.out
     have m6:=zlb Z.out
     have Nb:=hid (fun m (hm : jI p m) => hbad m hm.1)
     clear hbad
     obtain ⟨k0,k1,k2,_⟩:=cells3 (zbB Z.out (.int .i64 0) (.int .i64 0) (.int .i64 0))
     go_wp2_with fail
     refine bodyPost_ret (v:=.tuple #[.agg #[.int .i64 0,.int .i64 0,.int .i64 0],.iface 45 (.int .i64 3)]) (by simp [results,Tryz.results139,go_sem,k0,k1,k2]) rfl ⟨0,0,0,_,rfl,((Hb9.out.setCell (znr _) _).setCell (znr _) _).setCell (znr _) _,.inr ⟨⟨_,rfl⟩,fun a b c h => ?_⟩⟩
     obtain ⟨p',q',r',e,ea,eb,ec⟩:=h
     cases e
     exact Nb.out _ ea
   ·
    have ca : wo.cell? ⟨w.heap.size + 1 + 1,1,none⟩ = some (.string q):=by rw [cell_of_row _ _ _ _ _ _ S3.out];rfl
    have Hat:=hid (zfX q wo (by have:=Hsz.out q (by simp);omega) (HL0.out.below Hbw.out))
    go_wp2_with fail
    refine Hat.out.mono ?_
    rintro e w9 ⟨n,er,rfl,hcase,hb9⟩
    have T1:=hid ((hb9.block _ (zlb S1.out)).trans S1.out);have T2:=hid ((hb9.block _ (zlb S2.out)).trans S2.out);have T3:=hid ((hb9.block _ (zlb S3.out)).trans S3.out)
    have Hb9:=hid (Hbw.out.trans (hb9.mono Hbw.out.size))
    clear hb9 Hat S1 S2 S3 Hbw ca hlt3
    rcases hcase with ⟨rfl,hok⟩ | ⟨⟨t,v,rfl⟩,hbad⟩
    ·
     have hbd:=Lib.atoiAll_bounds hok
     have Hit:=hid (zfV n w9 hbd.1 hbd.2 (HL0.out.below Hb9.out))
     have hone : ∀ m,jI q m → m = n ∧ (⟨(Lib.itoa n).toArray⟩ : ByteArray) = q ∧ 0 ≤ n ∧ n ≤ 999:=fun m hm => by
      have e : n = m:=by have:=hok.symm.trans hm.1;cases this;rfl
      subst e
      exact ⟨rfl,hm.2⟩
     have hgood : (⟨(Lib.itoa n).toArray⟩ : ByteArray) = q → 0 ≤ n → n ≤ 999 → jI q n:=fun h1 h2 h3 => ⟨hok,h1,h2,h3⟩
     generalize (⟨(Lib.itoa n).toArray⟩ : ByteArray) = y at Hit hone hgood
     have Hone:=hid hone;have Hgood:=hid hgood
     clear hok hone hgood hbd
     go_wp2_with fail
     refine Hit.out.mono ?_
     rintro e w10 ⟨rfl,hb10⟩
     have Z:=hid ((hb10.block _ (zlb T1.out)).trans T1.out)
     have Z2:=hid ((hb10.block _ (zlb T2.out)).trans T2.out)
     have Z3:=hid ((hb10.block _ (zlb T3.out)).trans T3.out)
     have Hb10:=hid (Hb9.out.trans (hb10.mono Hb9.out.size))
     clear T1 T2 T3 Hb9 hb10 Hit
     obtain ⟨m0,m1,m2,m3,m4,m5⟩:=cells3 Z.out
     have m6:=zlb Z.out
     by_cases hyp : y = q
     ·
      subst hyp
      by_cases hn1 : n < 0
      ·
       have d1 : decide (n < 0) = true:=by simpa using hn1
       have Nb:=hid (fun m hm => (show False from by have:=(Hone.out m hm).2.2.1;omega))
       obtain ⟨k0,k1,k2,_⟩:=cells3 (zbB Z.out (.int .i64 0) (.int .i64 0) (.int .i64 0))
       go_wp2_with fail
       refine bodyPost_ret (v:=.tuple #[.agg #[.int .i64 0,.int .i64 0,.int .i64 0],.iface 45 (.int .i64 3)]) (by simp [results,Tryz.results139,go_sem,k0,k1,k2]) rfl ⟨0,0,0,_,rfl,((Hb10.out.setCell (znr _) _).setCell (znr _) _).setCell (znr _) _,.inr ⟨⟨_,rfl⟩,fun a b c h => ?_⟩⟩
       obtain ⟨p',q',r',e,ea,eb,ec⟩:=h
       cases e
       exact Nb.out _ eb
      ·
       by_cases hn2 : 999 < n
       ·
        have d1 : decide (n < 0) = false:=by simpa using hn1
        have d2 : decide (999 < n) = true:=by simpa using hn2
        have Nb:=hid (fun m hm => (show False from by have:=(Hone.out m hm).2.2.2;omega))
        obtain ⟨k0,k1,k2,_⟩:=cells3 (zbB Z.out (.int .i64 0) (.int .i64 0) (.int .i64 0))
        go_wp2_with fail
        refine bodyPost_ret (v:=.tuple #[.agg #[.int .i64 0,.int .i64 0,.int .i64 0],.iface 45 (.int .i64 2)]) (by simp [results,Tryz.results139,go_sem,k0,k1,k2]) rfl ⟨0,0,0,_,rfl,((Hb10.out.setCell (znr _) _).setCell (znr _) _).setCell (znr _) _,.inr ⟨⟨_,rfl⟩,fun a b c h => ?_⟩⟩
        obtain ⟨p',q',r',e,ea,eb,ec⟩:=h
        cases e
        exact Nb.out _ eb
       ·
        have d1 : decide (n < 0) = false:=by simpa using hn1
        have d2 : decide (999 < n) = false:=by simpa using hn2
        have Hg:=hid (Hgood.out rfl (by omega) (by omega))
        obtain ⟨u0,u1,u2,u3,u4,u5⟩:=cells3 Z2.out
        have u6:=zlb Z2.out
        have hset : (w10.setCell ⟨w.heap.size + 1,1,none⟩ (.int .i64 n)).heap[w.heap.size + 1]? = some (.cells #[.int .i64 f0,.int .i64 n,.int .i64 f2] 72 (0,0)):=heap_set Z2.out _ _
        have hz1:=(zhc w10 ⟨w.heap.size + 1,1,none⟩ (.int .i64 n) w.heap.size (by show w.heap.size ≠ w.heap.size + 1;omega)).trans Z.out
        have hz3:=(zhc w10 ⟨w.heap.size + 1,1,none⟩ (.int .i64 n) (w.heap.size + 1 + 1) (by show w.heap.size + 1 + 1 ≠ w.heap.size + 1;omega)).trans Z3.out
        have Hset:=hid hset;have Hz1:=hid hz1;have Hz3:=hid hz3
        clear hset hz1 hz3 hn1 hn2
        go_wp2_with fail
        go_roundg 1
        case measure => omega
        case rel => exact ⟨2,f0,n,f2,by omega,rfl,by go_num,Hz1.out,Hset.out,Hz3.out,Hb10.out.setCell (by show w.heap.size ≤ w.heap.size + 1;omega) _,fun _ => Pp.out (by omega),fun _ => Hg.out,fun h => by omega⟩
     ·
      have hyl : ¬ y.toList = q.toList:=fun h => hyp (qi h)
      have Nb:=hid (fun m hm => (show False from hyp (Hone.out m hm).2.1))
      obtain ⟨k0,k1,k2,_⟩:=cells3 (zbB Z.out (.int .i64 0) (.int .i64 0) (.int .i64 0))
      go_wp2_with fail
      refine bodyPost_ret (v:=.tuple #[.agg #[.int .i64 0,.int .i64 0,.int .i64 0],.iface 45 (.int .i64 3)]) (by simp [results,Tryz.results139,go_sem,k0,k1,k2]) rfl ⟨0,0,0,_,rfl,((Hb10.out.setCell (znr _) _).setCell (znr _) _).setCell (znr _) _,.inr ⟨⟨_,rfl⟩,fun a b c h => ?_⟩⟩
      obtain ⟨p',q',r',e,ea,eb,ec⟩:=h
      cases e
      exact Nb.out _ eb
    ·
     have Z:=T1
     obtain ⟨m0,m1,m2,m3,m4,m5⟩:=cells3 Z.out
     have m6:=zlb Z.out
     have Nb:=hid (fun m (hm : jI q m) => hbad m hm.1)
     clear hbad
     obtain ⟨k0,k1,k2,_⟩:=cells3 (zbB Z.out (.int .i64 0) (.int .i64 0) (.int .i64 0))
     go_wp2_with fail
     refine bodyPost_ret (v:=.tuple #[.agg #[.int .i64 0,.int .i64 0,.int .i64 0],.iface 45 (.int .i64 3)]) (by simp [results,Tryz.results139,go_sem,k0,k1,k2]) rfl ⟨0,0,0,_,rfl,((Hb9.out.setCell (znr _) _).setCell (znr _) _).setCell (znr _) _,.inr ⟨⟨_,rfl⟩,fun a b c h => ?_⟩⟩
     obtain ⟨p',q',r',e,ea,eb,ec⟩:=h
     cases e
     exact Nb.out _ eb
   ·
    have ca : wo.cell? ⟨w.heap.size + 1 + 1,2,none⟩ = some (.string r):=by rw [cell_of_row _ _ _ _ _ _ S3.out];rfl
    have Hat:=hid (zfX r wo (by have:=Hsz.out r (by simp);omega) (HL0.out.below Hbw.out))
    go_wp2_with fail
    refine Hat.out.mono ?_
    rintro e w9 ⟨n,er,rfl,hcase,hb9⟩
    have T1:=hid ((hb9.block _ (zlb S1.out)).trans S1.out);have T2:=hid ((hb9.block _ (zlb S2.out)).trans S2.out);have T3:=hid ((hb9.block _ (zlb S3.out)).trans S3.out)
    have Hb9:=hid (Hbw.out.trans (hb9.mono Hbw.out.size))
    clear hb9 Hat S1 S2 S3 Hbw ca hlt3
    rcases hcase with ⟨rfl,hok⟩ | ⟨⟨t,v,rfl⟩,hbad⟩
    ·
     have hbd:=Lib.atoiAll_bounds hok
     have Hit:=hid (zfV n w9 hbd.1 hbd.2 (HL0.out.below Hb9.out))
     have hone : ∀ m,jI r m → m = n ∧ (⟨(Lib.itoa n).toArray⟩ : ByteArray) = r ∧ 0 ≤ n ∧ n ≤ 999:=fun m hm => by
      have e : n = m:=by have:=hok.symm.trans hm.1;cases this;rfl
      subst e
      exact ⟨rfl,hm.2⟩
     have hgood : (⟨(Lib.itoa n).toArray⟩ : ByteArray) = r → 0 ≤ n → n ≤ 999 → jI r n:=fun h1 h2 h3 => ⟨hok,h1,h2,h3⟩
     generalize (⟨(Lib.itoa n).toArray⟩ : ByteArray) = y at Hit hone hgood
     have Hone:=hid hone;have Hgood:=hid hgood
     clear hok hone hgood hbd
     go_wp2_with fail
     refine Hit.out.mono ?_
     rintro e w10 ⟨rfl,hb10⟩
     have Z:=hid ((hb10.block _ (zlb T1.out)).trans T1.out)
     have Z2:=hid ((hb10.block _ (zlb T2.out)).trans T2.out)
     have Z3:=hid ((hb10.block _ (zlb T3.out)).trans T3.out)
     have Hb10:=hid (Hb9.out.trans (hb10.mono Hb9.out.size))
     clear T1 T2 T3 Hb9 hb10 Hit
     obtain ⟨m0,m1,m2,m3,m4,m5⟩:=cells3 Z.out
     have m6:=zlb Z.out
     by_cases hyp : y = r
     ·
      subst hyp
      by_cases hn1 : n < 0
      ·
       have d1 : decide (n < 0) = true:=by simpa using hn1
       have Nb:=hid (fun m hm => (show False from by have:=(Hone.out m hm).2.2.1;omega))
       obtain ⟨k0,k1,k2,_⟩:=cells3 (zbB Z.out (.int .i64 0) (.int .i64 0) (.int .i64 0))
       go_wp2_with fail
       refine bodyPost_ret (v:=.tuple #[.agg #[.int .i64 0,.int .i64 0,.int .i64 0],.iface 45 (.int .i64 3)]) (by simp [results,Tryz.results139,go_sem,k0,k1,k2]) rfl ⟨0,0,0,_,rfl,((Hb10.out.setCell (znr _) _).setCell (znr _) _).setCell (znr _) _,.inr ⟨⟨_,rfl⟩,fun a b c h => ?_⟩⟩
       obtain ⟨p',q',r',e,ea,eb,ec⟩:=h
       cases e
       exact Nb.out _ ec
      ·
       by_cases hn2 : 999 < n
       ·
        have d1 : decide (n < 0) = false:=by simpa using hn1
        have d2 : decide (999 < n) = true:=by simpa using hn2
        have Nb:=hid (fun m hm => (show False from by have:=(Hone.out m hm).2.2.2;omega))
        obtain ⟨k0,k1,k2,_⟩:=cells3 (zbB Z.out (.int .i64 0) (.int .i64 0) (.int .i64 0))
        go_wp2_with fail
        refine bodyPost_ret (v:=.tuple #[.agg #[.int .i64 0,.int .i64 0,.int .i64 0],.iface 45 (.int .i64 2)]) (by simp [results,Tryz.results139,go_sem,k0,k1,k2]) rfl ⟨0,0,0,_,rfl,((Hb10.out.setCell (znr _) _).setCell (znr _) _).setCell (znr _) _,.inr ⟨⟨_,rfl⟩,fun a b c h => ?_⟩⟩
        obtain ⟨p',q',r',e,ea,eb,ec⟩:=h
        cases e
        exact Nb.out _ ec
       ·
        have d1 : decide (n < 0) = false:=by simpa using hn1
        have d2 : decide (999 < n) = false:=by simpa using hn2
        have Hg:=hid (Hgood.out rfl (by omega) (by omega))
        obtain ⟨u0,u1,u2,u3,u4,u5⟩:=cells3 Z2.out
        have u6:=zlb Z2.out
        have hset : (w10.setCell ⟨w.heap.size + 1,2,none⟩ (.int .i64 n)).heap[w.heap.size + 1]? = some (.cells #[.int .i64 f0,.int .i64 f1,.int .i64 n] 72 (0,0)):=heap_set Z2.out _ _
        have hz1:=(zhc w10 ⟨w.heap.size + 1,2,none⟩ (.int .i64 n) w.heap.size (by show w.heap.size ≠ w.heap.size + 1;omega)).trans Z.out
        have hz3:=(zhc w10 ⟨w.heap.size + 1,2,none⟩ (.int .i64 n) (w.heap.size + 1 + 1) (by show w.heap.size + 1 + 1 ≠ w.heap.size + 1;omega)).trans Z3.out
        have Hset:=hid hset;have Hz1:=hid hz1;have Hz3:=hid hz3
        clear hset hz1 hz3 hn1 hn2
        go_wp2_with fail
        go_roundg 0
        case measure => omega
        case rel => exact ⟨3,f0,f1,n,by omega,rfl,by go_num,Hz1.out,Hset.out,Hz3.out,Hb10.out.setCell (by show w.heap.size ≤ w.heap.size + 1;omega) _,fun _ => Pp.out (by omega),fun _ => Pq.out (by omega),fun _ => Hg.out⟩
     ·
      have hyl : ¬ y.toList = r.toList:=fun h => hyp (qi h)
      have Nb:=hid (fun m hm => (show False from hyp (Hone.out m hm).2.1))
      obtain ⟨k0,k1,k2,_⟩:=cells3 (zbB Z.out (.int .i64 0) (.int .i64 0) (.int .i64 0))
      go_wp2_with fail
      refine bodyPost_ret (v:=.tuple #[.agg #[.int .i64 0,.int .i64 0,.int .i64 0],.iface 45 (.int .i64 3)]) (by simp [results,Tryz.results139,go_sem,k0,k1,k2]) rfl ⟨0,0,0,_,rfl,((Hb10.out.setCell (znr _) _).setCell (znr _) _).setCell (znr _) _,.inr ⟨⟨_,rfl⟩,fun a b c h => ?_⟩⟩
      obtain ⟨p',q',r',e,ea,eb,ec⟩:=h
      cases e
      exact Nb.out _ ec
    ·
     have Z:=T1
     obtain ⟨m0,m1,m2,m3,m4,m5⟩:=cells3 Z.out
     have m6:=zlb Z.out
     have Nb:=hid (fun m (hm : jI r m) => hbad m hm.1)
     clear hbad
     obtain ⟨k0,k1,k2,_⟩:=cells3 (zbB Z.out (.int .i64 0) (.int .i64 0) (.int .i64 0))
     go_wp2_with fail
     refine bodyPost_ret (v:=.tuple #[.agg #[.int .i64 0,.int .i64 0,.int .i64 0],.iface 45 (.int .i64 3)]) (by simp [results,Tryz.results139,go_sem,k0,k1,k2]) rfl ⟨0,0,0,_,rfl,((Hb9.out.setCell (znr _) _).setCell (znr _) _).setCell (znr _) _,.inr ⟨⟨_,rfl⟩,fun a b c h => ?_⟩⟩
     obtain ⟨p',q',r',e,ea,eb,ec⟩:=h
     cases e
     exact Nb.out _ ec
   ·
    obtain ⟨m0,m1,m2,m3,m4,m5⟩:=cells3 S1.out
    have m6:=zlb S1.out
    obtain ⟨u0,u1,u2,u3,u4,u5⟩:=cells3 S2.out
    have u6:=zlb S2.out
    obtain ⟨k0,k1,k2,_⟩:=cells3 (zbB S1.out (.int .i64 f0) (.int .i64 f1) (.int .i64 f2))
    go_wp2_with fail
    exact bodyPost_ret (v:=.tuple #[.agg #[.int .i64 f0,.int .i64 f1,.int .i64 f2],.nilIface]) (by simp [results,Tryz.results139,go_sem,k0,k1,k2]) rfl ⟨f0,f1,f2,_,rfl,((Hbw.out.setCell (znr _) _).setCell (znr _) _).setCell (znr _) _,.inl ⟨rfl,p,q,r,rfl,Pp.out (by omega),Pq.out (by omega),Pr.out (by omega)⟩⟩
 ·
  have d1 : ((ws.length : Int) != 3) = true:=by simp;omega
  obtain ⟨k0,k1,k2,_⟩:=cells3 (zbB Hb1'.out (.int .i64 0) (.int .i64 0) (.int .i64 0))
  go_wp2_with fail
  refine bodyPost_ret (v:=.tuple #[.agg #[.int .i64 0,.int .i64 0,.int .i64 0],.iface 45 (.int .i64 3)]) (by simp [results,Tryz.results139,go_sem,k0,k1,k2]) rfl ⟨0,0,0,_,rfl,((HX.out.setCell (znr _) _).setCell (znr _) _).setCell (znr _) _,.inr ⟨⟨_,rfl⟩,fun a b c h => ?_⟩⟩
  obtain ⟨p,q,r,e,_⟩:=h
  exact h3 (by rw [e];rfl)
def zhZ : ByteArray:=⟨#[97,110,121]⟩
def zdN : ByteArray:=⟨#[110,111,110,101]⟩
def zfP (c : UInt8) : Bool:=c == 61 || c == 33 || c == 60 || c == 62 || c == 94 || c == 126
def opsL : List UInt8:=[61,33,60,62,94,126]
theorem zki (c : UInt8) : zfP c = decide (0 ≤ Lib.indexByte opsL c):=by
 have h : ∀ n : Fin 256,zfP (UInt8.ofNat n.val) = decide (0 ≤ Lib.indexByte opsL (UInt8.ofNat n.val)):=by decide +kernel
 have:=h ⟨c.toNat,c.toNat_lt⟩
 simpa using this
def jH (s : ByteArray) : Nat:=(s.data.toList.takeWhile zfP).length
def opK (l : List UInt8) : Option Nat :=
 if l = [] then some 0 else if l = [61] then some 0 else if l = [33] then some 1 else if l = [60] then some 2 else if l = [60,61] then some 3 else if l = [62] then some 4 else if l = [62,61] then some 5 else if l = [94] then some 6 else if l = [126] then some 7 else none
def jy (k : Nat) (a b c : Int) : Spn :=
 if k = 2 then (0,qx a b c) else if k = 3 then (0,qx a b c + 1) else if k = 4 then (qx a b c + 1,zU) else if k = 5 then (qx a b c,zU) else if k = 6 then (qx a b c,zaj a b c) else if k = 7 then (qx a b c,qx a (b + 1) 0) else (qx a b c,qx a b c + 1)
def OpR (k : Nat) (a b c : Int) (r : List Spn) : Prop:=Canon r ∧ ∀ n,inL r n ↔ if k = 1 then (0 ≤ n ∧ n < zU) ∧ ¬ inS n (jy 1 a b c) else inS n (jy k a b c)
def za4 (s : ByteArray) (r : List Spn) : Prop :=
 (s = zhZ ∧ r = [(0,zU)]) ∨ (s = zdN ∧ r = []) ∨
  (s ≠ zhZ ∧ s ≠ zdN ∧ ∃ k a b c,opK (s.extract 0 (jH s)).data.toList = some k ∧ zaz (s.extract (jH s) s.size) a b c ∧ OpR k a b c r)
theorem zaz.bd {s : ByteArray} {a b c : Int} (h : zaz s a b c) : (0 ≤ a ∧ a ≤ 999) ∧ (0 ≤ b ∧ b ≤ 999) ∧ 0 ≤ c ∧ c ≤ 999:=by
 obtain ⟨p,q,r,_,h1,h2,h3⟩:=h
 exact ⟨⟨h1.2.2.1,h1.2.2.2⟩,⟨h2.2.2.1,h2.2.2.2⟩,h3.2.2.1,h3.2.2.2⟩
theorem zaz.one {s : ByteArray} {a b c a' b' c' : Int} (h : zaz s a b c) (h' : zaz s a' b' c') : a = a' ∧ b = b' ∧ c = c':=by
 obtain ⟨p,q,r,e,h1,h2,h3⟩:=h
 obtain ⟨p',q',r',e',h1',h2',h3'⟩:=h'
 rw [e] at e'
 cases e'
 exact ⟨h1.one h1',h2.one h2',h3.one h3'⟩
theorem zhI {a b c : Int} (ha : 0 ≤ a ∧ a ≤ 999) (hb : 0 ≤ b ∧ b ≤ 999) (hc : 0 ≤ c ∧ c ≤ 999) : 0 ≤ qx a b c ∧ qx a b c < zU:=by unfold qx zU;omega
theorem zmM {a b c : Int} (ha : 0 ≤ a ∧ a ≤ 999) (hb : 0 ≤ b ∧ b ≤ 999) (hc : 0 ≤ c ∧ c ≤ 999) : qx a b c < zaj a b c ∧ zaj a b c ≤ zU:=by
 unfold zaj qx zU
 split
 · omega
 · split <;> omega
theorem zna {a b c : Int} (ha : 0 ≤ a ∧ a ≤ 999) (hb : 0 ≤ b ∧ b ≤ 999) (hc : 0 ≤ c ∧ c ≤ 999) : qx a b c < qx a (b + 1) 0 ∧ qx a (b + 1) 0 ≤ zU:=by
 unfold qx zU;omega
theorem zix {k : Nat} {a b c : Int} (ha : 0 ≤ a ∧ a ≤ 999) (hb : 0 ≤ b ∧ b ≤ 999) (hc : 0 ≤ c ∧ c ≤ 999) : 0 ≤ (jy k a b c).1 ∧ (jy k a b c).2 ≤ zU:=by
 have h1:=zhI ha hb hc;have h2:=zmM ha hb hc;have h3:=zna ha hb hc
 unfold jy
 unfold zU at *
 repeat' split
 all_goals simp only;omega
theorem OpR.zdn {k : Nat} {a b c : Int} {r : List Spn} (hk : k ≠ 1) (h : zjn [jy k a b c] r) : OpR k a b c r:=⟨h.1,fun n => by rw [if_neg hk,h.2,qG]⟩
theorem OpR.zqO {a b c : Int} {m r : List Spn} (h1 : zjn [jy 1 a b c] m) (h2 : zfH m r) : OpR 1 a b c r:=⟨h2.1,fun n => by rw [if_pos rfl,h2.2,h1.2,qG]⟩
theorem OpR.one {k : Nat} {a b c : Int} {r r' : List Spn} (h : OpR k a b c r) (h' : OpR k a b c r') : r = r':=Canon.ext h.1 h'.1 (fun n => (h.2 n).trans (h'.2 n).symm)
theorem za4.one {s : ByteArray} {r r' : List Spn} (h : za4 s r) (h' : za4 s r') : r = r':=by
 rcases h with ⟨h1,h2⟩ | ⟨h1,h2⟩ | ⟨h1,h2,k,a,b,c,h3,h4,h5⟩
 ·
  rcases h' with ⟨g1,g2⟩ | ⟨g1,g2⟩ | ⟨g1,g2,_⟩
  · rw [h2,g2]
  · rw [h1] at g1;exact absurd g1 (by decide)
  · exact absurd h1 g1
 ·
  rcases h' with ⟨g1,g2⟩ | ⟨g1,g2⟩ | ⟨g1,g2,_⟩
  · rw [h1] at g1;exact absurd g1 (by decide)
  · rw [h2,g2]
  · exact absurd h1 g2
 ·
  rcases h' with ⟨g1,g2⟩ | ⟨g1,g2⟩ | ⟨g1,g2,k',a',b',c',g3,g4,g5⟩
  · exact absurd g1 h1
  · exact absurd g1 h2
  ·
   rw [h3] at g3;cases g3
   obtain ⟨rfl,rfl,rfl⟩:=h4.one g4
   exact h5.one g5
theorem za4.canon {s : ByteArray} {r : List Spn} (h : za4 s r) : Canon r:=by
 rcases h with ⟨_,rfl⟩ | ⟨_,rfl⟩ | ⟨_,_,_,_,_,_,_,_,h⟩
 · exact Canon.any
 · exact Canon.nil
 · exact h.1
theorem zl2 (l : List UInt8) : l = [] ∨ l = [61] ∨ l = [33] ∨ l = [60] ∨ l = [60,61] ∨ l = [62] ∨ l = [62,61] ∨ l = [94] ∨ l = [126] ∨
 (opK l = none ∧ l ≠ [] ∧ l ≠ [61] ∧ l ≠ [33] ∧ l ≠ [60] ∧ l ≠ [60,61] ∧ l ≠ [62] ∧ l ≠ [62,61] ∧ l ≠ [94] ∧ l ≠ [126]):=by
 by_cases h0 : l = []
 · exact .inl h0
 by_cases h1 : l = [61]
 · exact .inr (.inl h1)
 by_cases h2 : l = [33]
 · exact .inr (.inr (.inl h2))
 by_cases h3 : l = [60]
 · exact .inr (.inr (.inr (.inl h3)))
 by_cases h4 : l = [60,61]
 · exact .inr (.inr (.inr (.inr (.inl h4))))
 by_cases h5 : l = [62]
 · exact .inr (.inr (.inr (.inr (.inr (.inl h5)))))
 by_cases h6 : l = [62,61]
 · exact .inr (.inr (.inr (.inr (.inr (.inr (.inl h6))))))
 by_cases h7 : l = [94]
 · exact .inr (.inr (.inr (.inr (.inr (.inr (.inr (.inl h7)))))))
 by_cases h8 : l = [126]
 · exact .inr (.inr (.inr (.inr (.inr (.inr (.inr (.inr (.inl h8))))))))
 exact .inr (.inr (.inr (.inr (.inr (.inr (.inr (.inr (.inr ⟨by unfold opK;rw [if_neg h0,if_neg h1,if_neg h2,if_neg h3,if_neg h4,if_neg h5,if_neg h6,if_neg h7,if_neg h8],h0,h1,h2,h3,h4,h5,h6,h7,h8⟩))))))))
def nb (c : UInt8) : Bool:=!(c == 32)
def jR : Nat → List UInt8 → List (List UInt8)
 | 0,_ => []
 | n + 1,l => match l with
  | [] => []
  | c :: r => if c == 32 then jR n r else (c :: r.takeWhile nb) :: jR n (r.dropWhile nb)
def words (l : List UInt8) : List (List UInt8):=jR l.length l
theorem zaI (p : UInt8 → Bool) : ∀ l : List UInt8,(l.dropWhile p).length ≤ l.length
 | [] => znr _
 | c :: l => by
  rw [List.dropWhile_cons]
  split
  · have:=zaI p l;simp;omega
  · exact znr _
theorem zbR : ∀ (n m : Nat) (l : List UInt8),l.length ≤ n → l.length ≤ m → jR n l = jR m l
 | 0,0,l,_,_ => rfl
 | 0,m + 1,[],_,_ => rfl
 | 0,m + 1,c :: r,h,_ => by simp at h
 | n + 1,0,[],_,_ => rfl
 | n + 1,0,c :: r,_,h => by simp at h
 | n + 1,m + 1,[],_,_ => rfl
 | n + 1,m + 1,c :: r,h1,h2 => by
  simp only [List.length_cons] at h1 h2
  have:=zaI nb r
  show (if c == 32 then jR n r else (c :: r.takeWhile nb) :: jR n (r.dropWhile nb)) = (if c == 32 then jR m r else (c :: r.takeWhile nb) :: jR m (r.dropWhile nb))
  rw [zbR n m r (by omega) (by omega),zbR n m (r.dropWhile nb) (by omega) (by omega)]
theorem zcu : words [] = []:=rfl
theorem zbW (r : List UInt8) : words (32 :: r) = words r:=by
 unfold words
 show (if (32 : UInt8) == 32 then jR r.length r else (32 :: r.takeWhile nb) :: jR r.length (r.dropWhile nb)) = _
 rw [if_pos (by decide)]
theorem zc5 {c : UInt8} (h : nb c = true) (r : List UInt8) : words (c :: r) = (c :: r.takeWhile nb) :: words (r.dropWhile nb):=by
 unfold words
 show (if c == 32 then jR r.length r else (c :: r.takeWhile nb) :: jR r.length (r.dropWhile nb)) = _
 rw [if_neg (by unfold nb at h;simpa using h),zbR r.length (r.dropWhile nb).length _ (zaI nb r) (znr _)]
theorem zdI {p : UInt8 → Bool} : ∀ {l : List UInt8} {k : Nat},k ≤ l.length → (∀ j,(h : j < l.length) → j < k → p l[j] = true) → (∀ (h : k < l.length),p l[k] = false) → l.takeWhile p = l.take k ∧ l.dropWhile p = l.drop k
 | [],k,hk,_,_ => by simp
 | c :: l,0,_,_,h2 => by
  have:=h2 (by simp)
  simp only [List.getElem_cons_zero] at this
  rw [List.takeWhile_cons_of_neg (by simp [this]),List.dropWhile_cons_of_neg (by simp [this])]
  simp
 | c :: l,k + 1,hk,h1,h2 => by
  have hc:=h1 0 (by simp) (by omega)
  simp only [List.getElem_cons_zero] at hc
  obtain ⟨e1,e2⟩:=zdI (p:=p) (l:=l) (k:=k) (by simpa using hk) (fun j h hj => by have:=h1 (j + 1) (by simp;omega) (by omega);simpa using this) (fun h => by have:=h2 (by simp;omega);simpa using this)
  rw [List.takeWhile_cons_of_pos hc,List.dropWhile_cons_of_pos hc,e1,e2]
  simp
theorem zed {l : List UInt8} {i : Nat} (hi : i < l.length) (h : l[i] = 32) : words (l.drop i) = words (l.drop (i + 1)):=by
 rw [List.drop_eq_getElem_cons hi,h,zbW]
theorem zbw {l : List UInt8} {i k : Nat} (hik : i < k) (hk : k ≤ l.length) (h1 : ∀ j,(h : j < l.length) → i ≤ j → j < k → nb l[j] = true) (h2 : ∀ (h : k < l.length),nb l[k] = false) :
 words (l.drop i) = (l.drop i).take (k - i) :: words (l.drop k):=by
 have hi : i < l.length:=by omega
 rw [List.drop_eq_getElem_cons hi,zc5 (h1 i hi (znr _) hik)]
 obtain ⟨e1,e2⟩:=zdI (p:=nb) (l:=l.drop (i + 1)) (k:=k - (i + 1)) (by simp;omega)
  (fun j h hj => by rw [List.getElem_drop];exact h1 _ _ (by omega) (by omega))
  (fun h => by
   rw [List.getElem_drop]
   have e : i + 1 + (k - (i + 1)) = k:=by omega
   have h3 : k < l.length:=by simp at h;omega
   have:=h2 h3
   simpa [e] using this)
 rw [e1,e2,List.drop_drop,show i + 1 + (k - (i + 1)) = k by omega]
 congr 1
 rw [show k - i = (k - (i + 1)) + 1 by omega,List.take_succ_cons]
def zQ (l : List UInt8) : ByteArray:=⟨l.toArray⟩
structure qE (ws : List (List UInt8)) (r : List Spn) : Prop where
 can : Canon r
 all : ∀ l ∈ ws,∃ x,za4 (zQ l) x
 mem : ∀ n,inL r n ↔ (0 ≤ n ∧ n < zU) ∧ ∀ l ∈ ws,∀ x,za4 (zQ l) x → inL x n
def jd (p : List UInt8) (r : List Spn) : Prop:=words p ≠ [] ∧ qE (words p) r
structure q8 (ps : List (List UInt8)) (r : List Spn) : Prop where
 can : Canon r
 all : ∀ p ∈ ps,∃ x,jd p x
 mem : ∀ n,inL r n ↔ ∃ p ∈ ps,∃ x,jd p x ∧ inL x n
def orB : ByteArray:=⟨#[124,124]⟩
def pieces (s : ByteArray) : List ByteArray:=Lib.splitB orB 0 (Lib.countB s orB) s
def jG (s : ByteArray) (r : List Spn) : Prop:=q8 ((pieces s).map (·.data.toList)) r
theorem qE.nil : qE [] [(0,zU)]:=⟨Canon.any,fun l h => by simp at h,fun n => by
 rw [qG]
 exact ⟨fun h => ⟨h,fun l h => by simp at h⟩,fun h => h.1⟩⟩
theorem qE.snoc {ws : List (List UInt8)} {r x y : List Spn} {l : List UInt8} (h : qE ws r) (hx : za4 (zQ l) x) (hy : zo9 r x y) : qE (ws ++ [l]) y:=by
 refine ⟨hy.1,fun m hm => ?_,fun n => ?_⟩
 ·
  rcases List.mem_append.1 hm with q | q
  · exact h.all m q
  · rw [List.mem_singleton.1 q];exact ⟨x,hx⟩
 ·
  rw [hy.2,h.mem]
  constructor
  ·
   rintro ⟨⟨q1,q2⟩,q3⟩
   refine ⟨q1,fun m hm z hz => ?_⟩
   rcases List.mem_append.1 hm with q | q
   · exact q2 m q z hz
   · rw [List.mem_singleton.1 q] at hz;rw [hz.one hx];exact q3
  ·
   rintro ⟨q1,q2⟩
   exact ⟨⟨q1,fun m hm z hz => q2 m (List.mem_append_left _ hm) z hz⟩,q2 l (by simp) x hx⟩
theorem qE.one {ws : List (List UInt8)} {r r' : List Spn} (h : qE ws r) (h' : qE ws r') : r = r':=Canon.ext h.can h'.can (fun n => (h.mem n).trans (h'.mem n).symm)
theorem jd.one {p : List UInt8} {r r' : List Spn} (h : jd p r) (h' : jd p r') : r = r':=h.2.one h'.2
theorem q8.nil : q8 [] []:=⟨Canon.nil,fun l h => by simp at h,fun n => ⟨fun h => absurd h (zbt n),fun ⟨p,h,_⟩ => by simp at h⟩⟩
theorem q8.snoc {ps : List (List UInt8)} {r x y : List Spn} {p : List UInt8} (h : q8 ps r) (hx : jd p x) (hy : OrR r x y) : q8 (ps ++ [p]) y:=by
 refine ⟨hy.1,fun m hm => ?_,fun n => ?_⟩
 ·
  rcases List.mem_append.1 hm with q | q
  · exact h.all m q
  · rw [List.mem_singleton.1 q];exact ⟨x,hx⟩
 ·
  rw [hy.2,h.mem]
  constructor
  ·
   rintro (⟨q,hq,z,hz,hn⟩ | hn)
   · exact ⟨q,List.mem_append_left _ hq,z,hz,hn⟩
   · exact ⟨p,by simp,x,hx,hn⟩
  ·
   rintro ⟨q,hq,z,hz,hn⟩
   rcases List.mem_append.1 hq with q2 | q2
   · exact .inl ⟨q,q2,z,hz,hn⟩
   · rw [List.mem_singleton.1 q2] at hz;rw [hz.one hx] at hn;exact .inr hn
theorem q8.one {ps : List (List UInt8)} {r r' : List Spn} (h : q8 ps r) (h' : q8 ps r') : r = r':=Canon.ext h.can h'.can (fun n => (h.mem n).trans (h'.mem n).symm)
theorem jG.one {s : ByteArray} {r r' : List Spn} (h : jG s r) (h' : jG s r') : r = r':=q8.one h h'
theorem zom (s : ByteArray) : jH s ≤ s.size:=by
 unfold jH
 have:=(List.takeWhile_sublist zfP (l:=s.data.toList)).length_le
 exact this
theorem zcH {p : UInt8 → Bool} : ∀ {l : List UInt8} {k : Nat} (h : k < l.length),(k < (l.takeWhile p).length → p l[k] = true) ∧ (k = (l.takeWhile p).length → p l[k] = false)
 | [],k,h => by simp at h
 | c :: l,0,h => by
  simp only [List.getElem_cons_zero]
  cases hc : p c with
  | true => rw [List.takeWhile_cons_of_pos hc];simp
  | false => rw [List.takeWhile_cons_of_neg (by simp [hc])];simp
 | c :: l,k + 1,h => by
  simp only [List.getElem_cons_succ]
  cases hc : p c with
  | true =>
   rw [List.takeWhile_cons_of_pos hc]
   have:=zcH (p:=p) (l:=l) (k:=k) (by simpa using h)
   simp only [List.length_cons,Nat.add_lt_add_iff_right,Nat.add_right_cancel_iff]
   exact this
  | false => rw [List.takeWhile_cons_of_neg (by simp [hc])];simp
theorem op_at {s : ByteArray} {k : Nat} (h : k < s.size) : (k < jH s → zfP s[k] = true) ∧ (k = jH s → zfP s[k] = false):=zcH (l:=s.data.toList) h
theorem zi3 (c : UInt8) (w : World) : Calls Tryz.prog 182 #[.string ⟨#[61,33,60,62,94,126]⟩,.int .u8 (c.toNat : Int)] w fun e w' => (∃ r : Int,e = .returned (.int .i64 r) ∧ decide (0 ≤ r) = zfP c) ∧ w' = w:=by
 refine (Any.strings_IndexByte Tryz.lays137 _ _ w).mono ?_
 rintro e w' ⟨rfl,rfl⟩
 refine ⟨⟨_,rfl,?_⟩,rfl⟩
 rw [zki]
 simp [opsL];rfl
def zld (s : ByteArray) (w : World) (e : Ending) (w' : World) : Prop :=
 ∃ v r er,e = .returned (.tuple #[.agg #[v],er]) ∧ yx w' v r ∧ r.length ≤ 2 ∧ (∀ b,v.ownBlock = some b → w.heap.size ≤ b) ∧ Below w.heap.size w w' ∧
  ((er = .nilIface ∧ za4 s r) ∨ ((∃ k,er = .iface 45 (.int .i64 k)) ∧ ∀ r,¬ za4 s r))
theorem zgb (lo hi : Int) (b : Nat) (w : World) (hb : b = w.heap.size) (hf : Fits (lo,hi)) :
 Calls Tryz.prog 184 #[.slice (some ⟨b,0,none⟩) 1 1] (w.alloc (.cells #[.int .i64 lo,.int .i64 hi] 226)) (zkS [(lo,hi)] w.heap.size (w.alloc (.cells #[.int .i64 lo,.int .i64 hi] 226))):=by
 subst hb
 have h:=zfw w.heap.size 1 1 w.heap.size (fun _ => (lo,hi)) (w.alloc (.cells #[.int .i64 lo,.int .i64 hi] 226)) ⟨_,za rfl,znr _,rfl,fun k hk => by
  have : k = 0:=by omega
  subst this;exact ⟨rfl,rfl⟩⟩ (fun s hs => by
  obtain ⟨k,hk,rfl⟩:=zdD.1 hs
  exact hf) (by omega) (by decide) (znr _) (by rw [zy];omega)
 have e : spL 1 (fun _ => (lo,hi)) = [(lo,hi)]:=rfl
 rw [e] at h
 exact h
theorem zhb {s t : ByteArray} (h : s ≠ t) : (s.toList == t.data.toList) = false:=by
 rw [beq_eq_false_iff_ne,ByteArray.toList_eq]
 intro e
 exact h (ByteArray.ext (Array.toList_inj.1 e))
theorem zbp {w : World} {p : Nat} {a b : Value} {T : TypeId} (h : w.heap[p]? = some (.cells #[a,b] T (0,0))) :
 w.cell? ⟨p,0,none⟩ = some a ∧ w.cell? ⟨p,1,none⟩ = some b ∧ w.frozen? ⟨p,0,none⟩ = false ∧ w.frozen? ⟨p,1,none⟩ = false:=by
 refine ⟨?_,?_,?_,?_⟩
 · rw [cell_of_row w p _ _ _ _ h];rfl
 · rw [cell_of_row w p _ _ _ _ h];rfl
 all_goals simp [World.frozen?,h]
theorem set2 {w : World} {p : Nat} {a b : Value} {T : TypeId} (h : w.heap[p]? = some (.cells #[a,b] T (0,0))) (x y : Value) : ((w.setCell ⟨p,0,none⟩ x).setCell ⟨p,1,none⟩ y).heap[p]? = some (.cells #[x,y] T (0,0)):=by
 have:=heap_set (heap_set h 0 x) 1 y
 simpa using this
theorem zeM {w : World} {p q : Nat} {o : Obj} (h : w.heap[q]? = some o) (hne : q ≠ p) (x y : Value) : ((w.setCell ⟨p,0,none⟩ x).setCell ⟨p,1,none⟩ y).heap[q]? = some o :=
 (zhc _ _ _ _ hne).trans ((zhc _ _ _ _ hne).trans h)
theorem znH {w w' : World} {o : Obj} {B : Nat} (h : Below w.heap.size (w.alloc o) w') (hB : B ≤ w.heap.size) : Below B w w' :=
 ((Below.refl B w).alloc hB o).trans (h.mono hB)
set_option maxRecDepth 100000 in
set_option maxHeartbeats 8000000 in
theorem zdm (w : World) : Calls Tryz.prog 143 #[.string zhZ] w (zld zhZ w) ∧ Calls Tryz.prog 143 #[.string zdN] w (zld zdN w):=by
 constructor
 ·
  have hal : Below w.heap.size w (w.alloc (.cells #[.slice none 0 0] 75)):=zba
  have hblk : (w.alloc (.cells #[.slice none 0 0] 75)).heap[w.heap.size]? = some (.cells #[.slice none 0 0] 75 (0,0)):=za rfl
  have HAny:=hid (zaD (w.alloc (.cells #[.slice none 0 0] 75)))
  have Hal:=hid hal;have Hblk:=hid hblk
  clear hal hblk
  unfold zhZ
  go_enter Tryz.func143,Tryz.ntmps143
  go_wp2_with fail
  refine HAny.out.mono ?_
  rintro e w1 ⟨v,rfl,hsp,hfr,hb1⟩
  obtain ⟨a,c,rfl,_⟩:=hsp.shape
  have hblk1:=(hb1.block _ (by simp)).trans Hblk.out
  have d1:=zco hblk1;have d2:=zfo hblk1;have d3:=zlb hblk1
  have k4:=zco (one_setCell (u:=.slice a 1 c) hblk1)
  have Hsp:=hid (hsp.qB (b:=w.heap.size) (fun b hb => by have:=hfr b hb;simp at this;omega) (.slice a 1 c))
  have Hfr:=hid hfr;have Hb1:=hid ((Hal.out.trans (hb1.mono Hal.out.size)).setCell (p:=⟨w.heap.size,0,none⟩) (znr _) (.slice a 1 c))
  clear hsp hfr hb1 hblk1 HAny
  go_wp2_with fail
  exact bodyPost_ret (v:=.tuple #[.agg #[.slice a 1 c],.nilIface]) (by simp [results,Tryz.results143,go_sem,k4]) rfl ⟨_,_,_,rfl,Hsp.out,by simp,fun b hb => by have:=Hfr.out b hb;simp at this;omega,Hb1.out,.inl ⟨rfl,.inl ⟨rfl,rfl⟩⟩⟩
 ·
  have hal : Below w.heap.size w (w.alloc (.cells #[.slice none 0 0] 75)):=zba
  have Hal:=hid hal
  clear hal
  unfold zdN
  go_enter Tryz.func143,Tryz.ntmps143
  go_wp2_with fail
  exact bodyPost_ret (v:=.tuple #[.agg #[.slice none 0 0],.nilIface]) (by simp [results,Tryz.results143,go_sem]) rfl ⟨_,[],_,rfl,yx.nil _,by simp,fun b hb => (by cases hb),Hal.out,.inl ⟨rfl,.inr (.inl ⟨rfl,rfl⟩)⟩⟩
set_option maxRecDepth 100000 in
set_option maxHeartbeats 16000000 in
theorem zkl (s : ByteArray) (w : World) (hs : s.size ≤ 100000) (hL : xQ w) (h1 : s ≠ zhZ) (h2 : s ≠ zdN) : Calls Tryz.prog 143 #[.string s] w (zld s w):=by
 have e1 : (s.toList == [97,110,121]) = false:=zhb h1
 have e2 : (s.toList == [110,111,110,101]) = false:=zhb h2
 have hle:=zom s
 obtain ⟨W,hW⟩ : ∃ W,W = w.alloc (.cells #[.slice none 0 0] 75):=⟨_,rfl⟩
 have hbW : Below w.heap.size w W:=by rw [hW];exact zba
 have hsW : W.heap.size = w.heap.size + 1:=by rw [hW];simp
 have hblk : W.heap[w.heap.size]? = some (.cells #[.slice none 0 0] 75 (0,0)):=by rw [hW];exact za rfl
 have hdata : (s.extract (jH s) s.size).size ≤ 100000:=by simp;omega
 have HP:=hid (zci (s.extract (jH s) s.size) W hdata (hL.below hbW))
 have HbW:=hid hbW;have HsW:=hid hsW;have Hblk:=hid hblk;have Hn1:=hid h1;have Hn2:=hid h2
 clear hbW hsW hblk h1 h2 hL hdata
 go_enter Tryz.func143,Tryz.ntmps143
 go_upto_region 1 with fail
 rw [← hW]
 clear hW
 go_upto_block 1 with fail
 go_cut [4] from 16 to 28 (fun i wx => i = .int .i64 (jH s) ∧ wx = W)
 case first =>
  go_wp2_with fail
  go_loopg [4] s.size (fun gk i wr => ∃ k : Nat,k ≤ jH s ∧ gk = s.size - k ∧ i = .int .i64 k ∧ W = wr)
  case atStart => exact ⟨0,znz _,rfl,rfl,rfl⟩
  case round =>
   obtain ⟨k,hk,rfl,rfl,rfl⟩:=hrel
   by_cases hlt : k < s.size
   ·
    have hop:=op_at hlt
    have hix:=zi3 s[k] W
    have hlt2 : (k : Int) < (s.size : Int):=by omega
    by_cases hko : k < jH s
    ·
     rw [hop.1 hko] at hix
     have Hix:=hid hix
     clear hop hix
     go_wp2_with fail
     refine Hix.out.mono ?_
     rintro e w' ⟨⟨r,rfl,hr⟩,rfl⟩
     go_wp2_with fail
     go_roundg (s.size - (k + 1))
     case measure => omega
     case rel => exact ⟨k + 1,by omega,rfl,by go_num,rfl⟩
    ·
     have hke : k = jH s:=by omega
     rw [hop.2 hke] at hix
     have Hix:=hid hix;have Hke:=hid hke
     clear hop hix hke
     go_wp2_with fail
     refine Hix.out.mono ?_
     rintro e w' ⟨⟨r,rfl,hr⟩,rfl⟩
     go_wp2_with fail
     go_meet
     exact ⟨by rw [Hke.out],rfl⟩
   ·
    have hke : k = jH s:=by omega
    have Hke:=hid hke
    have hge : decide ((k : Int) < (s.size : Int)) = false:=by simp;omega
    clear hke
    go_wp2_with fail
    go_meet
    exact ⟨by rw [Hke.out],rfl⟩
 case rest =>
  obtain ⟨rfl,rfl⟩:=hcut
  have hcut2 : (jH s : Int) ≤ (s.size : Int):=by omega
  go_wp2_with fail
  refine HP.out.mono ?_
  rintro e w1 ⟨a,b,c,er,rfl,hb1,hcase⟩
  have hblk1:=(hb1.block _ (zlb Hblk.out)).trans Hblk.out
  have Hb1:=hid (HbW.out.trans (hb1.mono HbW.out.size));have Hblk1:=hid hblk1
  have Hs1:=hid (zlb hblk1)
  clear hb1 hblk1 HP Hblk HbW
  rcases hcase with ⟨rfl,hok⟩ | ⟨⟨q,rfl⟩,hbad⟩
  ·
   obtain ⟨hba,hbb,hbc⟩:=hok.bd
   obtain ⟨W2,hW2⟩ : ∃ W2,W2 = w1.alloc (.cells #[.int .i64 a,.int .i64 b,.int .i64 c] 72):=⟨_,rfl⟩
   have hz2 : W2.heap.size = w1.heap.size + 1:=by rw [hW2];simp
   have hb2 : Below w.heap.size w W2:=by rw [hW2];exact Hb1.out.alloc (by have:=Hs1.out;omega) _
   have hv2 : W2.heap[w1.heap.size]? = some (.cells #[.int .i64 a,.int .i64 b,.int .i64 c] 72 (0,0)):=by rw [hW2];exact za rfl
   have hr2 : W2.heap[w.heap.size]? = some (.cells #[.slice none 0 0] 75 (0,0)):=by rw [hW2];exact zh Hblk1.out
   have HN:=hid (jQ a b c W2 (by omega) (by omega) (by omega))
   have Hok:=hid hok;have Hba:=hid hba;have Hbb:=hid hbb;have Hbc:=hid hbc
   have Hz2:=hid hz2;have HB2:=hid hb2;have Hv2:=hid hv2;have Hr2:=hid hr2
   have hnb:=zhI hba hbb hbc
   have hnc : 0 ≤ qx a b c ∧ qx a b c < 1000000000:=hnb
   obtain ⟨n1,n2⟩:=hnc
   have Hnb:=hid hnb
   obtain ⟨N,hN⟩ : ∃ N,N = qx a b c:=⟨_,rfl⟩
   rw [← hN] at HN n1 n2 Hnb
   have HNe:=hid hN
   clear hN hok hba hbb hbc hz2 hb2 hv2 hr2 Hblk1 Hb1
   obtain ⟨m0,m1,m2,m3,m4,m5⟩:=cells3 Hv2.out
   go_upto_region 12 with fail
   rw [← hW2]
   clear hW2
   go_wp2_with fail
   refine HN.out.mono ?_
   rintro e w3 ⟨rfl,hb3⟩
   have hv3:=(hb3.block _ (zlb Hv2.out)).trans Hv2.out
   have hr3:=(hb3.block _ (zlb Hr2.out)).trans Hr2.out
   have hB3:=HB2.out.trans (hb3.mono HB2.out.size)
   obtain ⟨W4,hW4⟩ : ∃ W4,W4 = w3.alloc (.cells #[.int .i64 0,.int .i64 0] 226):=⟨_,rfl⟩
   have hz4 : W4.heap.size = w3.heap.size + 1:=by rw [hW4];simp
   have hv4 : W4.heap[w1.heap.size]? = some (.cells #[.int .i64 a,.int .i64 b,.int .i64 c] 72 (0,0)):=by rw [hW4];exact zh hv3
   have hr4 : W4.heap[w.heap.size]? = some (.cells #[.slice none 0 0] 75 (0,0)):=by rw [hW4];exact zh hr3
   have hp4 : W4.heap[w3.heap.size]? = some (.cells #[.int .i64 0,.int .i64 0] 226 (0,0)):=by rw [hW4];exact za rfl
   have hB4 : Below w.heap.size w W4:=by rw [hW4];exact hB3.alloc hB3.size _
   have hlt3:=zlb hr3
   have Hz4:=hid hz4;have Hv4:=hid hv4;have Hr4:=hid hr4;have Hp4:=hid hp4;have HB4:=hid hB4;have Hlt3:=hid hlt3
   clear hb3 hv3 hr3 hB3 hz4 hv4 hr4 hp4 hB4 hlt3 HN Hv2 Hr2 HB2 Hz2 m0 m1 m2 m3 m4 m5
   go_upto_region 14 with fail
   rw [← hW4]
   clear hW4
   have hcut3 : (0 : Int) ≤ (jH s : Int):=by omega
   go_upto_block 3 with fail
   generalize hx : s.extract 0 (jH s) = x
   have Hx:=hid hx;clear hx
   go_cut [] from 45 to 97 (fun wx => ∃ (k : Nat) (lo hi : Int),wx.heap[w3.heap.size]? = some (.cells #[.int .i64 lo,.int .i64 hi] 226 (0,0)) ∧ wx.heap[w.heap.size]? = some (.cells #[.slice none 0 0] 75 (0,0)) ∧ Below w.heap.size w wx ∧ opK x.data.toList = some k ∧ k ≠ 1 ∧ (lo,hi) = jy k a b c ∧ w3.heap.size < wx.heap.size)
   case first =>
    have d1:=zco Hr4.out;have d2:=zfo Hr4.out;have d3:=zlb Hr4.out
    obtain ⟨m0,m1,m2,m3,m4,m5⟩:=cells3 Hv4.out
    obtain ⟨p0,p1,p2,p3⟩:=zbp Hp4.out
    have p4:=zlb Hp4.out
    have hb1:=Hba.out.2;have hb2:=Hbb.out.2;have hb3:=Hbc.out.2
    rcases zl2 x.data.toList with h | h | h | h | h | h | h | h | h | ⟨hn,g0,g1,g2,g3,g4,g5,g6,g7,g8⟩
    ·
     obtain rfl : x = ⟨#[]⟩:=ByteArray.ext (Array.toList_inj.1 h)
     have Hh:=hid h;clear h
     go_wp2_with fail
     go_meet
     exact ⟨0,_,_,set2 Hp4.out _ _,zeM Hr4.out (by have:=Hlt3.out;omega) _ _,(HB4.out.setCell (by have:=Hlt3.out;show w.heap.size ≤ w3.heap.size;omega) _).setCell (by have:=Hlt3.out;show w.heap.size ≤ w3.heap.size;omega) _,rfl,by decide,by rw [HNe.out];rfl,by have:=Hz4.out;simp;omega⟩
    ·
     obtain rfl : x = ⟨#[61]⟩:=ByteArray.ext (Array.toList_inj.1 h)
     have Hh:=hid h;clear h
     go_wp2_with fail
     go_meet
     exact ⟨0,_,_,set2 Hp4.out _ _,zeM Hr4.out (by have:=Hlt3.out;omega) _ _,(HB4.out.setCell (by have:=Hlt3.out;show w.heap.size ≤ w3.heap.size;omega) _).setCell (by have:=Hlt3.out;show w.heap.size ≤ w3.heap.size;omega) _,rfl,by decide,by rw [HNe.out];rfl,by have:=Hz4.out;simp;omega⟩
    ·
     obtain rfl : x = ⟨#[33]⟩:=ByteArray.ext (Array.toList_inj.1 h)
     have Hh:=hid h;clear h
     have hfit : Fits (N,N + 1):=fun _ => ⟨Hnb.out.1,by have:=Hnb.out.2;show N + 1 ≤ zU;omega⟩
     have HM:=hid (zgb N (N + 1) W4.heap.size W4 rfl hfit)
     clear hfit
     go_wp2_with fail
     refine HM.out.mono ?_
     rintro e w5 ⟨v5,r5,rfl,hs5,hm5,hl5,hf5,hb5⟩
     have hB5:=HB4.out.trans (znH hb5 HB4.out.size)
     have hr5:=(hb5.block _ (zlb Hr4.out)).trans (zh Hr4.out)
     obtain ⟨a5,c5,rfl,_⟩:=hs5.shape
     have HNot:=hid (zfb _ r5 w5 hs5 hm5.1 (by have : ([(N,N + 1)] : List Spn).length = 1:=rfl;omega))
     have Hm5:=hid hm5;have Hl5:=hid hl5;have HB5:=hid hB5;have Hr5:=hid hr5
     clear hs5 hm5 hl5 hf5 hb5 hB5 hr5 HM d1 d2 d3 m0 m1 m2 m3 m4 m5 p0 p1 p2 p3 p4
     go_wp2_with fail
     refine HNot.out.mono ?_
     rintro e w6 ⟨v6,r6,rfl,hs6,hm6,hl6,hf6,hb6⟩
     obtain ⟨a6,c6,rfl,_⟩:=hs6.shape
     have hr6:=(hb6.block _ (zlb Hr5.out)).trans Hr5.out
     have d1:=zco hr6;have d2:=zfo hr6;have d3:=zlb hr6
     have k4:=zco (one_setCell (u:=.slice a6 r6.length c6) hr6)
     have Hs6:=hid (hs6.qB (b:=w.heap.size) (fun b hb => by have:=hf6 b hb;have:=zlb Hr5.out;omega) (.slice a6 r6.length c6))
     have HB6:=hid ((HB5.out.trans (hb6.mono HB5.out.size)).setCell (p:=⟨w.heap.size,0,none⟩) (znr _) (.slice a6 r6.length c6))
     have Hf6:=hid (show ∀ b,(Value.slice a6 r6.length c6).ownBlock = some b → w.heap.size ≤ b from fun b hb => Nat.le_trans HB5.out.size (hf6 b hb))
     have Hl6:=hid (show r6.length ≤ 2 from by have:=Hl5.out;have : ([(N,N + 1)] : List Spn).length = 1:=rfl;omega)
     have Hm6:=hid hm6
     clear hs6 hm6 hl6 hf6 hb6 hr6 HNot Hl5
     go_wp2_with fail
     refine bodyPost_ret (v:=.tuple #[.agg #[.slice a6 r6.length c6],.nilIface]) (by simp [results,Tryz.results143,go_sem,k4]) rfl ⟨_,r6,_,rfl,Hs6.out,Hl6.out,Hf6.out,HB6.out,.inl ⟨rfl,.inr (.inr ⟨Hn1.out,Hn2.out,1,a,b,c,by rw [Hx.out];rfl,Hok.out,OpR.zqO (by have h:=Hm5.out;rw [HNe.out] at h;exact h) Hm6.out⟩)⟩⟩
    ·
     obtain rfl : x = ⟨#[60]⟩:=ByteArray.ext (Array.toList_inj.1 h)
     have Hh:=hid h;clear h
     go_wp2_with fail
     go_meet
     exact ⟨2,_,_,set2 Hp4.out _ _,zeM Hr4.out (by have:=Hlt3.out;omega) _ _,(HB4.out.setCell (by have:=Hlt3.out;show w.heap.size ≤ w3.heap.size;omega) _).setCell (by have:=Hlt3.out;show w.heap.size ≤ w3.heap.size;omega) _,rfl,by decide,by rw [HNe.out];rfl,by have:=Hz4.out;simp;omega⟩
    ·
     obtain rfl : x = ⟨#[60,61]⟩:=ByteArray.ext (Array.toList_inj.1 h)
     have Hh:=hid h;clear h
     go_wp2_with fail
     go_meet
     exact ⟨3,_,_,set2 Hp4.out _ _,zeM Hr4.out (by have:=Hlt3.out;omega) _ _,(HB4.out.setCell (by have:=Hlt3.out;show w.heap.size ≤ w3.heap.size;omega) _).setCell (by have:=Hlt3.out;show w.heap.size ≤ w3.heap.size;omega) _,rfl,by decide,by rw [HNe.out];rfl,by have:=Hz4.out;simp;omega⟩
    ·
     obtain rfl : x = ⟨#[62]⟩:=ByteArray.ext (Array.toList_inj.1 h)
     have Hh:=hid h;clear h
     go_wp2_with fail
     go_meet
     exact ⟨4,_,_,set2 Hp4.out _ _,zeM Hr4.out (by have:=Hlt3.out;omega) _ _,(HB4.out.setCell (by have:=Hlt3.out;show w.heap.size ≤ w3.heap.size;omega) _).setCell (by have:=Hlt3.out;show w.heap.size ≤ w3.heap.size;omega) _,rfl,by decide,by rw [HNe.out];rfl,by have:=Hz4.out;simp;omega⟩
    ·
     obtain rfl : x = ⟨#[62,61]⟩:=ByteArray.ext (Array.toList_inj.1 h)
     have Hh:=hid h;clear h
     go_wp2_with fail
     go_meet
     exact ⟨5,_,_,set2 Hp4.out _ _,zeM Hr4.out (by have:=Hlt3.out;omega) _ _,(HB4.out.setCell (by have:=Hlt3.out;show w.heap.size ≤ w3.heap.size;omega) _).setCell (by have:=Hlt3.out;show w.heap.size ≤ w3.heap.size;omega) _,rfl,by decide,by rw [HNe.out];rfl,by have:=Hz4.out;simp;omega⟩
    ·
     obtain rfl : x = ⟨#[94]⟩:=ByteArray.ext (Array.toList_inj.1 h)
     have Hh:=hid h;clear h
     have HC:=hid (zl0 a b c W4 Hba.out Hbb.out Hbc.out)
     obtain ⟨C,hC⟩ : ∃ C,C = zaj a b c:=⟨_,rfl⟩
     rw [← hC] at HC
     have HCe:=hid hC
     clear hC
     go_wp2_with fail
     refine HC.out.mono ?_
     rintro e w5 ⟨rfl,hb5⟩
     have hr5:=(hb5.block _ (zlb Hr4.out)).trans Hr4.out
     have hp5:=(hb5.block _ (zlb Hp4.out)).trans Hp4.out
     have HB5:=hid (HB4.out.trans (hb5.mono HB4.out.size))
     have Hr5:=hid hr5;have Hp5:=hid hp5
     clear hb5 hr5 hp5 d1 d2 d3 m0 m1 m2 m3 m4 m5 p0 p1 p2 p3 p4 HC
     obtain ⟨p0,p1,p2,p3⟩:=zbp Hp5.out
     have p4:=zlb Hp5.out
     go_wp2_with fail
     go_meet
     exact ⟨6,_,_,set2 Hp5.out _ _,zeM Hr5.out (by have:=Hlt3.out;omega) _ _,(HB5.out.setCell (by have:=Hlt3.out;show w.heap.size ≤ w3.heap.size;omega) _).setCell (by have:=Hlt3.out;show w.heap.size ≤ w3.heap.size;omega) _,rfl,by decide,by rw [HNe.out,HCe.out];rfl,by simp;omega⟩
    ·
     obtain rfl : x = ⟨#[126]⟩:=ByteArray.ext (Array.toList_inj.1 h)
     have Hh:=hid h;clear h
     have HC:=hid (jQ a (b + 1) 0 W4 (by have:=Hba.out;omega) (by have:=Hbb.out;omega) (by omega))
     obtain ⟨C,hC⟩ : ∃ C,C = qx a (b + 1) 0:=⟨_,rfl⟩
     rw [← hC] at HC
     have HCe:=hid hC
     have hb0:=Hbb.out.1
     clear hC
     go_wp2_with fail
     refine HC.out.mono ?_
     rintro e w5 ⟨rfl,hb5⟩
     have hr5:=(hb5.block _ (zlb Hr4.out)).trans Hr4.out
     have hp5:=(hb5.block _ (zlb Hp4.out)).trans Hp4.out
     have HB5:=hid (HB4.out.trans (hb5.mono HB4.out.size))
     have Hr5:=hid hr5;have Hp5:=hid hp5
     clear hb5 hr5 hp5 d1 d2 d3 m0 m1 m2 m3 m4 m5 p0 p1 p2 p3 p4 HC
     obtain ⟨p0,p1,p2,p3⟩:=zbp Hp5.out
     have p4:=zlb Hp5.out
     go_wp2_with fail
     go_meet
     exact ⟨7,_,_,set2 Hp5.out _ _,zeM Hr5.out (by have:=Hlt3.out;omega) _ _,(HB5.out.setCell (by have:=Hlt3.out;show w.heap.size ≤ w3.heap.size;omega) _).setCell (by have:=Hlt3.out;show w.heap.size ≤ w3.heap.size;omega) _,rfl,by decide,by rw [HNe.out,HCe.out];rfl,by simp;omega⟩
    ·
     have t0 : x.toList = [] → False:=fun e => g0 (by rw [← ByteArray.toList_eq];exact e)
     have b0 : x.toList.isEmpty = false:=by cases hq : x.toList with | nil => exact (t0 hq).elim | cons _ _ => rfl
     have b1 : (x.toList == [61]) = false:=by rw [beq_eq_false_iff_ne,ByteArray.toList_eq];exact g1
     have b2 : (x.toList == [33]) = false:=by rw [beq_eq_false_iff_ne,ByteArray.toList_eq];exact g2
     have b3 : (x.toList == [60]) = false:=by rw [beq_eq_false_iff_ne,ByteArray.toList_eq];exact g3
     have b4 : (x.toList == [60,61]) = false:=by rw [beq_eq_false_iff_ne,ByteArray.toList_eq];exact g4
     have b5 : (x.toList == [62]) = false:=by rw [beq_eq_false_iff_ne,ByteArray.toList_eq];exact g5
     have b6 : (x.toList == [62,61]) = false:=by rw [beq_eq_false_iff_ne,ByteArray.toList_eq];exact g6
     have b7 : (x.toList == [94]) = false:=by rw [beq_eq_false_iff_ne,ByteArray.toList_eq];exact g7
     have b8 : (x.toList == [126]) = false:=by rw [beq_eq_false_iff_ne,ByteArray.toList_eq];exact g8
     have Hn:=hid hn
     have Hne:=hid (show ∀ k,opK x.data.toList ≠ some k from fun k h => by rw [hn] at h;cases h)
     have k4:=zco (one_setCell (u:=.slice none 0 0) Hr4.out)
     clear g0 g1 g2 g3 g4 g5 g6 g7 g8 hn t0
     go_wp2_with fail
     refine bodyPost_ret (v:=.tuple #[.agg #[.slice none 0 0],.iface 45 (.int .i64 3)]) (by simp [results,Tryz.results143,go_sem,k4]) rfl ⟨_,[],_,rfl,yx.nil _,by simp,fun b hb => (by cases hb),HB4.out.setCell (znr _) _,.inr ⟨⟨_,rfl⟩,fun r hr => ?_⟩⟩
     rcases hr with ⟨hr,_⟩ | ⟨hr,_⟩ | ⟨_,_,k,a',b',c',hk,_,_⟩
     · exact Hn1.out hr
     · exact Hn2.out hr
     · rw [Hx.out] at hk;exact Hne.out k hk
   case rest =>
    obtain ⟨k,lo,hi,hp,hr,hB,hk,hk1,hsp,hlt⟩:=hcut
    have hfb:=zix (k:=k) Hba.out Hbb.out Hbc.out
    have hfit : Fits (lo,hi):=fun _ => by rw [hsp];exact hfb
    have HM:=hid (zgb lo hi wc.heap.size wc rfl hfit)
    obtain ⟨p0,p1,p2,p3⟩:=zbp hp
    have Hr:=hid hr;have HB:=hid hB;have Hk:=hid hk;have Hk1:=hid hk1;have Hsp:=hid hsp;have Hlt:=hid hlt
    clear hp hr hB hk hk1 hsp hlt hfb hfit Hr4 Hp4 Hv4 HB4
    go_wp2_with fail
    refine HM.out.mono ?_
    rintro e w5 ⟨v5,r5,rfl,hs5,hm5,hl5,hf5,hb5⟩
    have hB5:=HB.out.trans (znH hb5 HB.out.size)
    have hr5:=(hb5.block _ (zlb Hr.out)).trans (zh Hr.out)
    obtain ⟨a5,c5,rfl,_⟩:=hs5.shape
    have d1:=zco hr5;have d2:=zfo hr5;have d3:=zlb hr5
    have k4:=zco (one_setCell (u:=.slice a5 r5.length c5) hr5)
    have Hs5:=hid (hs5.qB (b:=w.heap.size) (fun b hb => by have:=hf5 b hb;have:=zlb Hr.out;simp at *;omega) (.slice a5 r5.length c5))
    have HB6:=hid (hB5.setCell (p:=⟨w.heap.size,0,none⟩) (znr _) (.slice a5 r5.length c5))
    have Hf6:=hid (show ∀ b,(Value.slice a5 r5.length c5).ownBlock = some b → w.heap.size ≤ b from fun b hb => by have:=hf5 b hb;have:=HB.out.size;simp at *;omega)
    have Hl6:=hid (show r5.length ≤ 2 from by have : ([(lo,hi)] : List Spn).length = 1:=rfl;omega)
    have Hm5:=hid hm5
    clear hs5 hm5 hl5 hf5 hb5 hr5 HM hB5
    go_wp2_with fail
    refine bodyPost_ret (v:=.tuple #[.agg #[.slice a5 r5.length c5],.nilIface]) (by simp [results,Tryz.results143,go_sem,k4]) rfl ⟨_,r5,_,rfl,Hs5.out,Hl6.out,Hf6.out,HB6.out,.inl ⟨rfl,.inr (.inr ⟨Hn1.out,Hn2.out,k,a,b,c,by rw [Hx.out];exact Hk.out,Hok.out,OpR.zdn Hk1.out (by have h:=Hm5.out;rw [Hsp.out] at h;exact h)⟩)⟩⟩
  ·
   have d1:=zco Hblk1.out;have d2:=zfo Hblk1.out;have d3:=zlb Hblk1.out
   have Hbad:=hid hbad
   have k4 : ((w1.setCell ⟨w.heap.size,0,none⟩ (.slice none 0 0)).alloc (.cells #[.int .i64 a,.int .i64 b,.int .i64 c] 72)).cell? ⟨w.heap.size,0,none⟩ = some (.slice none 0 0):=zco (zh (one_setCell Hblk1.out))
   clear hbad
   go_wp2_with fail
   refine bodyPost_ret (v:=.tuple #[.agg #[.slice none 0 0],.iface 45 (.int .i64 q)]) (by simp [results,Tryz.results143,go_sem,k4]) rfl ⟨_,[],_,rfl,yx.nil _,by simp,fun b hb => (by cases hb),(Hb1.out.setCell (znr _) _).alloc (by have:=Hs1.out;simp;omega) _,.inr ⟨⟨_,rfl⟩,fun r hr => ?_⟩⟩
   rcases hr with ⟨hr,_⟩ | ⟨hr,_⟩ | ⟨_,_,k,a',b',c',_,hv,_⟩
   · exact Hn1.out hr
   · exact Hn2.out hr
   · exact Hbad.out _ _ _ hv
theorem ziE (s : ByteArray) (w : World) (hs : s.size ≤ 100000) (hL : xQ w) : Calls Tryz.prog 143 #[.string s] w (zld s w):=by
 by_cases h1 : s = zhZ
 · subst h1;exact (zdm w).1
 ·
  by_cases h2 : s = zdN
  · subst h2;exact (zdm w).2
  · exact zkl s w hs hL h1 h2
structure Kept (p : Nat → Prop) (A B : World) : Prop where
 os : B.os = A.os
 tape : B.tape = A.tape
 output : B.output = A.output
 size : A.heap.size ≤ B.heap.size
 block : ∀ k,k < A.heap.size → ¬ p k → B.heap[k]? = A.heap[k]?
theorem Kept.refl (p : Nat → Prop) (A : World) : Kept p A A:=⟨rfl,rfl,rfl,znr _,fun _ _ _ => rfl⟩
theorem Kept.trans {p : Nat → Prop} {A B C : World} (h : Kept p A B) (k : Kept p B C) : Kept p A C :=
 ⟨k.os.trans h.os,k.tape.trans h.tape,k.output.trans h.output,Nat.le_trans h.size k.size,fun i hi hp => (k.block i (Nat.lt_of_lt_of_le hi h.size) hp).trans (h.block i hi hp)⟩
theorem Kept.imp {p q : Nat → Prop} {A B : World} (h : Kept p A B) (hi : ∀ k,p k → q k) : Kept q A B:=⟨h.os,h.tape,h.output,h.size,fun k hk hn => h.block k hk (fun e => hn (hi k e))⟩
theorem Kept.alloc (p : Nat → Prop) (A : World) (o : Obj) : Kept p A (A.alloc o) :=
 ⟨rfl,rfl,rfl,by simp,fun k hk _ => Below.heap_alloc _ _ _ hk⟩
theorem Kept.put (A : World) (l : Nat) (o : Obj) {p : Nat → Prop} (hp : p l) : Kept p A (A.putObj l o) :=
 ⟨rfl,rfl,rfl,by simp,fun k _ hn => World.putObj_heap_other (fun e => hn (e ▸ hp))⟩
theorem Kept.set (A : World) (a : Addr) (v : Value) {p : Nat → Prop} (hp : p a.block) : Kept p A (A.setCell a v) :=
 ⟨rfl,rfl,rfl,by simp,fun k _ hn => zhc _ _ _ _ (fun e => hn (e ▸ hp))⟩
theorem Kept.of_below {p : Nat → Prop} {A B : World} (h : Below A.heap.size A B) : Kept p A B:=⟨h.os,h.tape,h.output,h.size,fun k hk _ => h.block k hk⟩
theorem Kept.below {p : Nat → Prop} {A B : World} (h : Kept p A B) {b : Nat} (hb : ∀ k,k < b → ¬ p k) (hs : b ≤ A.heap.size) : Below b A B:=⟨h.os,h.tape,h.output,h.size,fun k hk => h.block k (by omega) (hb k hk)⟩
structure xZ (p : Nat → Prop) (A B : World) : Prop where
 size : A.heap.size ≤ B.heap.size
 block : ∀ k,p k → B.heap[k]? = A.heap[k]?
theorem xZ.refl (p : Nat → Prop) (A : World) : xZ p A A:=⟨znr _,fun _ _ => rfl⟩
theorem xZ.trans {p : Nat → Prop} {A B C : World} (h : xZ p A B) (k : xZ p B C) : xZ p A C:=⟨Nat.le_trans h.size k.size,fun i hi => (k.block i hi).trans (h.block i hi)⟩
theorem xZ.imp {p q : Nat → Prop} {A B : World} (h : xZ p A B) (hi : ∀ k,q k → p k) : xZ q A B:=⟨h.size,fun k hk => h.block k (hi k hk)⟩
theorem xZ.ze5 {p q : Nat → Prop} {A B : World} (h : Kept q A B) (hp : ∀ k,p k → k < A.heap.size ∧ ¬ q k) : xZ p A B:=⟨h.size,fun k hk => h.block k (hp k hk).1 (hp k hk).2⟩
def zkP {α : Type} (P : Program) (gf : Nat) (lb : Array Value) (enc : α → Value) (xs : List α) (keep q : Nat → Prop) (w0 : World) : Prop :=
 ∀ (n l : Nat) (J : Nat → World → Prop) (Jx : World → Prop) (W : World),xZ keep w0 W →
  (∀ k A B,J k A → Kept q A B → J k B) →
  (∀ k (hk : k < xs.length) W1,J k W1 → YieldAt Fence.wide (n - 1) P l #[enc xs[k]] W1 fun e W' =>
   (e = .returned (.bool true) ∧ J (k + 1) W' ∧ xZ keep W1 W') ∨ (e = .returned (.bool false) ∧ Jx W')) →
  J 0 W →
  CallsIn Fence.wide n P gf (#[.func (.yield l) #[] #[]] ++ lb) W fun e W' => (∃ v,e = .returned v) ∧ (J xs.length W' ∨ Jx W')
def BodyP (keep : Nat → Prop) (l D : Nat) (I : Nat → World → Prop) (Ix : World → Prop) (k : Nat) (W : World) : Exit → Act → World → Prop
 | .normal,_,W' => xZ (fun j => keep j ∨ j = l ∨ j = D) W W' ∧ I (k + 1) W'
 | .ret,_,W' => xZ (fun j => keep j ∨ j = l ∨ j = D) W W' ∧ Ix W'
 | _,_,_ => False
theorem zg9 {α : Type} {n : Nat} {P : Program} {g : Operand} {ps : Array Tmp} {assign body : Code} {Q : Exit → Act → World → Prop} {a : Act} {w : World} {gf : Nat} {lb : Array Value}
 (hg : a.eval g = .func (.func gf) #[] lb) (eg : ∀ args w,(callFunc gf args).run P w = .ok (.enter gf args) w)
 {enc : α → Value} {xs : List α} {keep q : Nat → Prop} (hit : zkP P gf lb enc xs keep q w) (hps : ps.size = 1)
 (hkeep : ∀ j,keep j → j < w.heap.size) (hq : ∀ j,q j → j < w.heap.size)
 (I : Nat → World → Prop) (Ix : World → Prop)
 (hI : ∀ k A B p,I k A → (∀ j,p j → q j ∨ w.heap.size ≤ j ∧ ∃ r,A.heap[j]? = some (.loop r)) → Kept p A B → I k B)
 (hIx : ∀ A B p,Ix A → (∀ j,p j → w.heap.size ≤ j ∧ ∃ r,A.heap[j]? = some (.loop r)) → Kept p A B → Ix B)
 (h0 : I 0 w)
 (hround : ∀ (l D k : Nat) (hk : k < xs.length) (W : World),w.heap.size ≤ l → w.heap.size ≤ D → I k W → (∃ r,W.heap[l]? = some (.loop r)) → W.heap[D]? = some (.deferred (some [])) →
  assign.wpIn (Fence.wide.inRound l) (n - 1 - 1) P (Exit.then (fun a' W' => W' = W ∧ ∀ W2,I k W2 → (∃ r,W2.heap[l]? = some (.loop r)) → W2.heap[D]? = some (.deferred (some [])) →
   body.wpIn (Fence.wide.inRound l) (n - 1 - 1) P (BodyP keep l D I Ix k W2) a' W2) (fun _ _ _ => False)) { tmps:=(ps.zip #[enc xs[k]]).foldl (fun t (p,v) => t.setIfInBounds p v) a.tmps,defers:=[] } W)
 (hdone : ∀ (D : Nat) (W : World),w.heap.size ≤ D → I xs.length W → W.heap[D]? = some (.deferred (some [])) → Q .normal { a with defers:={ target:=.collected D,args:=#[] } :: a.defers } W)
 (hstop : ∀ (D : Nat) (W : World),w.heap.size ≤ D → Ix W → W.heap[D]? = some (.deferred (some [])) → Q .ret { a with defers:={ target:=.collected D,args:=#[] } :: a.defers } W) :
 (Code.rangeFunc g ps assign body).wpIn Fence.wide n P Q a w:=by
 refine wpIn_rangeFunc fun fn hfn => ?_
 obtain ⟨rec,hrec⟩ : ∃ rec : LoopState → Option Code → Loop,rec = fun st pe => { state:=st,pending:=pe,fn,tmps:=a.tmps,params:=ps,assign,body,defers:=w.heap.size }:=⟨_,rfl⟩
 let D:=w.heap.size
 let l:=w.heap.size + 1
 let W1:=(w.alloc (.deferred (some []))).alloc (.loop (rec .ready none))
 have hz1 : W1.heap.size = w.heap.size + 2:=by show ((w.alloc _).alloc _).heap.size = _;simp
 have hL1 : W1.heap[l]? = some (.loop (rec .ready none)):=by
  have:=World.alloc_heap_new (w.alloc (.deferred (some []))) (.loop (rec .ready none));rwa [World.size_alloc] at this
 have hD1 : W1.heap[D]? = some (.deferred (some [])):=(Below.heap_alloc _ _ _ (by show w.heap.size < _;simp)).trans (World.alloc_heap_new w _)
 have hk1 : ∀ p,Kept p w W1:=fun p => (Kept.alloc p w _).trans (Kept.alloc p _ _)
 have hI1 : I 0 W1:=hI 0 w W1 (fun _ => False) h0 (fun _ h => h.elim) (hk1 _)
 -- the invariant that the iterator carries
 refine ⟨l,[{ target:=.collected D,args:=#[] }],W1,{ target:=.fn (.func gf) lb,args:=#[.func (.yield l) #[] #[]] },W1,gf,#[.func (.yield l) #[] #[]] ++ lb,W1,?_,?_,fun f' hf' => trivial,?_,fun h => by simp [Fence.wide] at h,?_⟩
 · rw [show W1 = (w.alloc (.deferred (some []))).alloc (.loop (rec .ready none)) from rfl,hrec];exact run_enterLoop_outer _ _ _ _ _
 ·
  simp only [resolve,hg]
  simp [go_sem]
 · simp [invoke,go_sem,eg]
 refine (hit (n - 1) l (fun k W => I k W ∧ W.heap[l]? = some (.loop (rec .ready none)) ∧ W.heap[D]? = some (.deferred (some [])))
  (fun W => Ix W ∧ W.heap[l]? = some (.loop (rec .done (some .ret))) ∧ W.heap[D]? = some (.deferred (some []))) W1 (.ze5 (hk1 (fun _ => False)) (fun k hk => ⟨hkeep k hk,fun h => h⟩)) ?_ ?_ ⟨hI1,hL1,hD1⟩).mono ?_
 ·
  rintro k A B ⟨h1,h2,h3⟩ hK
  refine ⟨hI k A B q h1 (fun j hj => .inl hj) hK,(hK.block l (Array.getElem?_eq_some_iff.1 h2).1 (fun h => ?_)).trans h2,(hK.block D (Array.getElem?_eq_some_iff.1 h3).1 (fun h => ?_)).trans h3⟩
  · exact absurd (hq l h) (by show ¬ (w.heap.size + 1 < w.heap.size);omega)
  · exact absurd (hq D h) (Nat.lt_irrefl _)
 ·
  rintro k hk W ⟨h1,h2,h3⟩
  have hy:=run_yield (P:=P) (args:=#[enc xs[k]]) h2 (by rw [hrec];simp [hps])
  rw [hrec] at hy
  have hlw : w.heap.size ≤ l:=by show w.heap.size ≤ w.heap.size + 1;omega
  refine ⟨fn,_,assign,body,hy,roundIn_of_wpIn hfn (wpIn_mono (hround l D k hk W hlw (znr _) h1 ⟨_,h2⟩ h3) ?_)⟩
  intro e0 a0 w0 hp0
  cases e0 with
  | exit id => exact hp0.elim
  | goto t => exact hp0.elim
  | ret => exact hp0.elim
  | panic ch => exact hp0.elim
  | outgrown => exact hp0.elim
  | normal =>
  obtain ⟨rfl,hbody⟩:=hp0
  refine ⟨_,run_beginRound h2 (by rw [hrec]),?_⟩
  let W2:=w0.putObj l (.loop { rec .ready none with state:=.busy })
  have e2 : W2.heap[l]? = some (.loop { rec .ready none with state:=.busy }):=World.putObj_heap_same (Array.getElem?_eq_some_iff.1 h2).1
  have e3 : W2.heap[D]? = some (.deferred (some [])):=(World.putObj_heap_other (by show w.heap.size ≠ w.heap.size + 1;omega)).trans h3
  have i2 : I k W2:=hI k w0 W2 (· = l) h1 (fun j hj => .inr (by subst hj;exact ⟨hlw,_,h2⟩)) (Kept.put w0 l _ rfl)
  refine wpIn_mono (hbody W2 i2 ⟨_,e2⟩ e3) ?_
  rintro e a3 W3 hp
  have fin : ∀ (jump : Option Code),xZ (fun j => keep j ∨ j = l ∨ j = D) W2 W3 →
   (Instr.endRound l jump).run P W3 = .ok (.bool jump.isNone) (W3.putObj l (.loop (rec (if jump.isNone then .ready else .done) jump))) ∧ W3.heap[l]? = some (.loop { rec .ready none with state:=.busy }) ∧
   (W3.putObj l (.loop (rec (if jump.isNone then .ready else .done) jump))).heap[l]? = some (.loop (rec (if jump.isNone then .ready else .done) jump)) ∧
   (W3.putObj l (.loop (rec (if jump.isNone then .ready else .done) jump))).heap[D]? = some (.deferred (some [])):=fun jump hs => by
   have q2:=(hs.block l (.inr (.inl rfl))).trans e2
   have q3:=(hs.block D (.inr (.inr rfl))).trans e3
   have hr:=run_endRound (P:=P) jump q2
   rw [hrec] at hr ⊢
   exact ⟨hr,by rw [hrec] at q2;exact q2,World.putObj_heap_same (Array.getElem?_eq_some_iff.1 q2).1,(World.putObj_heap_other (by show w.heap.size ≠ w.heap.size + 1;omega)).trans q3⟩
  cases e with
  | normal =>
   obtain ⟨hs,hi⟩:=hp
   obtain ⟨r1,r2,r3,r4⟩:=fin none hs
   refine ⟨_,_,r1,.inl ⟨rfl,⟨hI _ W3 _ (· = l) hi (fun j hj => .inr (by subst hj;exact ⟨hlw,_,r2⟩)) (Kept.put W3 l _ rfl),r3,r4⟩,?_⟩⟩
   have hne : ∀ j,keep j → j ≠ l:=fun j hj e => by have:=hkeep j hj;rw [e] at this;exact absurd this (by show ¬ (w.heap.size + 1 < w.heap.size);omega)
   refine ⟨by have:=hs.size;simpa [W2] using this,fun j hj => ?_⟩
   exact ((World.putObj_heap_other (hne j hj)).trans (hs.block j (.inl hj))).trans (World.putObj_heap_other (hne j hj))
  | ret =>
   obtain ⟨hs,hi⟩:=hp
   obtain ⟨r1,r2,r3,r4⟩:=fin (some .ret) hs
   exact ⟨_,_,r1,.inr ⟨rfl,hIx W3 _ (· = l) hi (fun j hj => by subst hj;exact ⟨hlw,_,r2⟩) (Kept.put W3 l _ rfl),r3,r4⟩⟩
  | exit id => exact hp.elim
  | goto t => exact hp.elim
  | panic ch => exact hp.elim
  | outgrown => exact hp.elim
 ·
  rintro e W2 ⟨⟨v,rfl⟩,(⟨hi,h2,h3⟩ | ⟨hi,h2,h3⟩)⟩
  · refine ⟨none,_,by have:=run_endLoop (P:=P) h2 (by rw [hrec];simp);rw [hrec] at this;exact this,hdone D _ (znr _) (hI _ W2 _ (· = l) hi (fun j hj => .inr (by subst hj;exact ⟨by show w.heap.size ≤ w.heap.size + 1;omega,_,h2⟩)) (Kept.put W2 l _ rfl)) ((World.putObj_heap_other (by show w.heap.size ≠ w.heap.size + 1;omega)).trans h3)⟩
  · exact ⟨some .ret,_,by have:=run_endLoop (P:=P) h2 (by rw [hrec];simp);rw [hrec] at this;exact this,wpIn_ret (hstop D _ (znr _) (hIx W2 _ (· = l) hi (fun j hj => by subst hj;exact ⟨by show w.heap.size ≤ w.heap.size + 1;omega,_,h2⟩) (Kept.put W2 l _ rfl)) ((World.putObj_heap_other (by show w.heap.size ≠ w.heap.size + 1;omega)).trans h3))⟩
end Go.Proofs.YtmlfelbkgoplhaaGreatDoor
namespace Go.Proofs.YtmlfelbkgoplhaaGreatDoor
open Go.RowKit
attribute [local go_sem] Oper.semAt_some
theorem zep {s sep : ByteArray} {i : Nat} (h1 : 1 ≤ sep.size) (h : Lib.indexB s sep = i) : Lib.splitB sep 0 (Lib.countB s sep) s = s.extract 0 i :: Lib.splitB sep 0 (Lib.countB (s.extract (i + sep.size) s.size) sep) (s.extract (i + sep.size) s.size):=by
 rw [Lib.countB_hit s sep i h1 h,Nat.add_comm,Lib.splitB_hit sep 0 _ s i h];rfl
theorem drop_cons {α : Type} {xs : List α} {k : Nat} {x : α} {r : List α} (h : xs.drop k = x :: r) : ∃ hk : k < xs.length,xs[k] = x ∧ xs.drop (k + 1) = r:=by
 have hk : k < xs.length:=by
  rcases Nat.lt_or_ge k xs.length with h1 | h1
  · exact h1
  · rw [List.drop_eq_nil_of_le h1] at h;cases h
 rw [List.drop_eq_getElem_cons hk] at h
 exact ⟨hk,(List.cons.inj h).1,(List.cons.inj h).2⟩
structure zgj (bs bp bv : Nat) (s sep : ByteArray) (w : World) : Prop where
 s : w.heap[bs]? = some (.cells #[.string s] 9 (0,0))
 p : w.heap[bp]? = some (.cells #[.string sep] 9 (0,0))
 v : w.heap[bv]? = some (.cells #[.int .i64 0] 3 (0,0))
 m : ∃ m : Int,w.cell? ⟨4,0,none⟩ = some (.int .i64 m)
def ze6 (bs bp bv : Nat) (k : Nat) : Prop:=k = bs ∨ k = bp ∨ k = bv ∨ k = 4
theorem zgj.same {bs bp bv : Nat} {s sep : ByteArray} {w w' : World} (h : zgj bs bp bv s sep w) (hs : xZ (ze6 bs bp bv) w w') : zgj bs bp bv s sep w':=by
 obtain ⟨m,hm⟩:=h.m
 exact ⟨(hs.block _ (.inl rfl)).trans h.s,(hs.block _ (.inr (.inl rfl))).trans h.p,(hs.block _ (.inr (.inr (.inl rfl)))).trans h.v,m,(World.cell?_of_block (hs.block _ (.inr (.inr (.inr rfl))))).trans hm⟩
structure zlj (bs bp bv : Nat) : Prop where
 p : bp ≠ bs
 v : bv ≠ bs
 m : 4 ≠ bs
theorem zgj.set {bs bp bv : Nat} {s s' sep : ByteArray} {w : World} (h : zgj bs bp bv s sep w) (hn : zlj bs bp bv) : zgj bs bp bv s' sep (w.setCell ⟨bs,0,none⟩ (.string s')):=by
 obtain ⟨m,hm⟩:=h.m
 exact ⟨one_setCell h.s,(zhc _ _ _ _ hn.p).trans h.p,(zhc _ _ _ _ hn.v).trans h.v,m,(World.cell?_of_block (zhc _ _ _ _ hn.m)).trans hm⟩
def zm0 (bs : Nat) (w : World) : Nat:=match w.cell? ⟨bs,0,none⟩ with | some (.string s) => s.size | _ => 0
set_option maxRecDepth 100000 in
set_option maxHeartbeats 4000000 in
theorem zfj (bs bp bv : Nat) (s0 sep : ByteArray) (w0 : World) (hsep : 1 ≤ sep.size) (hs0 : s0.size ≤ 1000000) (h0 : zgj bs bp bv s0 sep w0) (hne : zlj bs bp bv) :
 zkP Tryz.prog 176 #[.pointer (some ⟨bp,0,none⟩),.pointer (some ⟨bs,0,none⟩),.pointer (some ⟨bv,0,none⟩)] Value.string (Lib.splitB sep 0 (Lib.countB s0 sep) s0) (ze6 bs bp bv) (· = bs) w0:=by
 intro n l J Jx W hW hJ hY hJ0
 generalize hxs : Lib.splitB sep 0 (Lib.countB s0 sep) s0 = xs at hY ⊢
 have hw:=h0.same hW
 have c1:=zco hw.p
 have hd : ((sep.size : Int) == 0) = false:=by rw [beq_eq_false_iff_ne];omega
 have HJ:=hid hJ;have HY:=hid hY;have Hxs:=hid hxs;have Hw:=hid hw;have H0:=hid hJ0
 clear hJ hY hxs hw hJ0 h0 hW
 refine callsIn_of_wp Tryz.func176 rfl trivial ?_ rfl
 simp only [Tryz.ntmps176,List.size_toArray,List.length_cons,List.length_nil,Nat.reduceAdd,Nat.reduceSub,Array.replicate_succ,Array.replicate_zero,List.push_toArray,List.append_toArray,List.nil_append,List.cons_append]
 gi_wp2_with fail
 gi_loopw [] (fun wr => ∃ (k : Nat) (s : ByteArray),zgj bs bp bv s sep wr ∧ s.size ≤ 1000000 ∧ xs.drop k = Lib.splitB sep 0 (Lib.countB s sep) s ∧ J k wr) (fun wr => zm0 bs wr)
 case atStart => exact ⟨0,s0,Hw.out,hs0,by rw [Hxs.out];rfl,H0.out⟩
 case round =>
  obtain ⟨k,s,hw,hs,hdrop,hj⟩:=hrel
  obtain ⟨m,hm⟩:=hw.m
  have b1:=zco hw.s;have b2:=zco hw.p;have b3:=zco hw.v;have b4:=zfo hw.s;have b5:=zlb hw.s
  have hix : Calls Tryz.prog 178 #[.string s,.string sep] wr fun e w' => e = .returned (.int .i64 (Lib.index s.data.toList sep.data.toList)) ∧ w' = wr:=Any.strings_Index Tryz.lays143 s sep m wr (by omega) hm
  rcases Lib.indexB_cases s sep with hmiss | ⟨i,hi,hroom⟩
  ·
   rw [Lib.splitB_miss _ _ _ _ hmiss] at hdrop
   obtain ⟨hk,hx,hnil⟩:=drop_cons hdrop
   have hlen : k + 1 = xs.length:=by have:=List.drop_eq_nil_iff.1 hnil;omega
   have hy:=HY.out k hk wr hj
   rw [hx] at hy
   obtain ⟨fn,tmps,assign,body,hy,hR⟩:=hy
   have hix' : Lib.index s.data.toList sep.data.toList = -1:=hmiss
   rw [hix'] at hix
   have Hix:=hid hix;have HR:=hid hR;have Hlen:=hid hlen
   clear hix hix' hmiss hdrop hx hnil hlen hR hw hj
   gi_wp2_with fail
   refine ⟨trivial,fun h => by simp [Fence.wide] at h,?_⟩
   refine (callsIn_wide.2 Hix.out).mono ?_
   rintro e w' ⟨rfl,rfl⟩
   gi_wp2_with fail
   refine ⟨fun h => by simp [Fence.wide] at h,?_⟩
   refine HR.out.mono ?_
   rintro e W' (⟨rfl,hj2,_⟩ | ⟨rfl,hx2⟩)
   ·
    rw [Hlen.out] at hj2
    have Hj2:=hid hj2;clear hj2
    gi_wp2_with fail
    go_end0
    exact ⟨⟨_,rfl⟩,.inl Hj2.out⟩
   ·
    have Hx2:=hid hx2;clear hx2
    gi_wp2_with fail
    go_end0
    exact ⟨⟨_,rfl⟩,.inr Hx2.out⟩
  ·
   rw [zep hsep hi] at hdrop
   obtain ⟨hk,hx,hnil⟩:=drop_cons hdrop
   have hy:=HY.out k hk wr hj
   rw [hx] at hy
   obtain ⟨fn,tmps,assign,body,hy,hR⟩:=hy
   have hix' : Lib.index s.data.toList sep.data.toList = (i : Int):=hi
   rw [hix'] at hix
   have hi1 : (i : Int) ≤ (s.size : Int):=by omega
   have hi2 : (i : Int) + (sep.size : Int) ≤ (s.size : Int):=by omega
   have hlt : decide ((i : Int) < 0) = false:=by simp
   have hi3 : i ≤ 9223372036854775807:=by omega
   have hi4 : sep.size ≤ 9223372036854775807:=by omega
   have Hix:=hid hix;have HR:=hid hR;have Hnil:=hid hnil;have Hwr:=hid hw
   clear hix hix' hi hdrop hx hnil hR hw hj
   gi_wp2_with fail
   refine ⟨trivial,fun h => by simp [Fence.wide] at h,?_⟩
   refine (callsIn_wide.2 Hix.out).mono ?_
   rintro e w' ⟨rfl,rfl⟩
   gi_wp2_with fail
   refine ⟨fun h => by simp [Fence.wide] at h,?_⟩
   refine HR.out.mono ?_
   rintro e W' (⟨rfl,hj2,hkp⟩ | ⟨rfl,hx2⟩)
   ·
    have hw2:=Hwr.out.same hkp
    have Hj2:=hid hj2;have Hw2:=hid hw2
    have c1:=zco hw2.s;have c2:=zco hw2.p;have c3:=zco hw2.v;have c4:=zfo hw2.s;have c5:=zlb hw2.s
    clear hj2 hw2 hkp
    gi_wp2_with fail
    refine ⟨⟨k + 1,s.extract (i + sep.size) s.size,Hw2.out.set hne,by simp;omega,Hnil.out,HJ.out _ _ _ Hj2.out (Kept.set _ _ _ rfl)⟩,?_⟩
    have e1 : zm0 bs (W'.setCell ⟨bs,0,none⟩ (.string (s.extract (i + sep.size) s.size))) = (s.extract (i + sep.size) s.size).size:=by unfold zm0;rw [zco (one_setCell Hw2.out.s)]
    have e2 : zm0 bs w' = s.size:=by unfold zm0;rw [b1]
    rw [e1,e2]
    simp;omega
   ·
    have Hx2:=hid hx2;clear hx2
    gi_wp2_with fail
    refine bodyPost_ret (results_none rfl _ _ _) rfl ?_
    exact ⟨⟨_,rfl⟩,.inr Hx2.out⟩
def zqg (b : Nat) : Value:=.func (.func 176) #[] #[.pointer (some ⟨b + 1,0,none⟩),.pointer (some ⟨b,0,none⟩),.pointer (some ⟨b + 1 + 1,0,none⟩)]
theorem zk9 (s sep : ByteArray) (w : World) : Calls Tryz.prog 80 #[.string s,.string sep] w fun e w' =>
 e = .returned (zqg w.heap.size) ∧ w' = ((w.alloc (.cells #[.string s] 9)).alloc (.cells #[.string sep] 9)).alloc (.cells #[.int .i64 0] 3):=by
 unfold zqg
 have h : ∀ w : World,Calls Tryz.prog 134 #[.string s,.string sep,.int .i64 0] w fun e w' => e = .returned (.func (.func 176) #[] #[.pointer (some ⟨w.heap.size + 1,0,none⟩),.pointer (some ⟨w.heap.size,0,none⟩),.pointer (some ⟨w.heap.size + 1 + 1,0,none⟩)]) ∧ ((w.alloc (.cells #[.string s] 9)).alloc (.cells #[.string sep] 9)).alloc (.cells #[.int .i64 0] 3) = w':=fun w => by
  go_enter Tryz.func134,Tryz.ntmps134
  go_wp2_with fail
  go_ret
  exact ⟨rfl,rfl⟩
 have H:=hid (h w);clear h
 go_enter Tryz.func80,Tryz.ntmps80
 go_wp2_with fail
 refine H.out.mono ?_
 rintro e w1 ⟨rfl,rfl⟩
 go_wp2_with fail
 go_ret
 exact ⟨rfl,rfl⟩
end Go.Proofs.YtmlfelbkgoplhaaGreatDoor
namespace Go.Proofs.YtmlfelbkgoplhaaGreatDoor
open Go.RowKit
variable {P : Program} {ops : Array Oper} {Q : Exit → Act → World → Prop}
theorem zmi {n r : Nat} {row : String} {args : Array Value} {w : World} {R : Value → World → Prop} (h : Rows P row args w R) : RowsIn (Fence.wide.inRound r) n P row args w R:=by
 have h2 : RowsIn Fence.wide n P row args w R:=by
  intro b k hr
  obtain ⟨v,w',q,hs⟩:=h b k
  exact ⟨v,w',q,stepsIn_wide.2 hs⟩
 exact h2
theorem zpp {o : Oper} {a : Act} {w : World} {K : Act → World → Prop} {n r : Nat} (hd : ∀ c,o.op ≠ .defer c) (hQ : ¬ LetsOut Q) (h : o.wp P a w K Q ∨ (o.asks P a w ∧ LetsOut Q)) : o.wpIn (Fence.wide.inRound r) n P a w K Q:=by
 rcases h with h | ⟨_,h⟩
 ·
  refine ⟨fun _ _ => trivial,?_⟩
  rw [show o.semAt (Fence.wide.inRound r).round a.eval = execOp a.eval o from Oper.semAt_some r _ _ hd]
  unfold Oper.wp at h
  generalize (execOp a.eval o).run P w = R at h ⊢
  cases R with
  | ok nx w' =>
   cases nx with
   | value v => exact h
   | skip => exact h
   | defer d => exact h
   | enter f args => exact ⟨fun hh => by simp [Fence.wide] at hh,CallsIn.inRound r (callsIn_wide.2 h)⟩
   | row row args => exact ⟨fun hh => by simp [Fence.wide] at hh,zmi h⟩
   | _ => exact h.elim
  | halt hh w' => cases hh <;> exact h
 · exact absurd h hQ
theorem zbL {n r : Nat} (hd : ∀ (i : Nat) (o : Oper),ops[i]? = some o → ∀ c,o.op ≠ .defer c) (hQ : ¬ LetsOut Q) : ∀ (fuel : Nat) (listed : Array Bool) (a : Act) (w : World),wpAny P .any ops Q fuel listed a w → wpAnyIn (Fence.wide.inRound r) n P .any ops Q fuel listed a w
 | 0,listed,a,w,h => h
 | fuel + 1,listed,a,w,h => by
  refine ⟨h.1,fun i hi => ?_⟩
  have h2:=h.2 i hi
  unfold wpOp at h2
  unfold wpOpIn
  cases ho : ops[i]? with
  | none =>
   rw [ho] at h2
   exact zbL hd hQ fuel _ _ _ h2
  | some o =>
   rw [ho] at h2
   simp only at h2 ⊢
   split
   ·
    rename_i hw
    rw [if_pos hw] at h2
    exact Oper.wpIn_mono (fun a' w' h' => zbL hd hQ fuel _ a' w' h') (zpp (hd i o ho) hQ h2)
   ·
    rename_i hw
    rw [if_neg hw] at h2
    exact ⟨fun _ _ => trivial,zbL hd hQ fuel _ _ _ h2⟩
def zfe (ops : Array Oper) : Bool:=ops.all fun o => match o.op with | .defer _ => false | _ => true
theorem zgd (h : zfe ops = true) : ∀ (i : Nat) (o : Oper),ops[i]? = some o → ∀ c,o.op ≠ .defer c:=by
 intro i o ho c e
 unfold zfe at h
 rw [Array.all_eq_true] at h
 obtain ⟨hi,ho'⟩:=Array.getElem?_eq_some_iff.1 ho
 have:=h i hi
 rw [ho',e] at this
 exact absurd this (by simp)
theorem qV {id n r : Nat} {a : Act} {w : World} (S : World → Prop) (hm : P.follows .mixedOrders = true) (hd : zfe ops = true) (hQ : ¬ LetsOut Q) (hS : S w.drew)
 (h : S w.drew → wpAnyH P .any ops Q S ops.size (Array.replicate ops.size false) a w.drew) : (Code.region id ops true).wpIn (Fence.wide.inRound r) n P Q a w :=
 wpIn_region_any hm (zbL (zgd hd) hQ _ _ _ _ (wpAny_of_held _ _ _ _ (h hS)))
