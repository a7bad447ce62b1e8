import Derived.Test.YtmlfelbkgoplhaaGreatDoorZrPkO
import Derived.Test.YtmlfelbkgoplhaaGreatDoorZrPkW
import Derived.Deep.RegionHeld3
import Derived.Deep.OwnRows
import Derived.Deep.CutRange
set_option linter.unusedVariables false
set_option linter.unusedSimpArgs false
namespace Go.Proofs.YtmlfelbkgoplhaaGreatDoor
open Go.RowKit
def zgS (ls : List zi) (i : Nat) : Int:=match ls[i]? with | some x => x.kind | none => 1
def yP (ls : List zi) (n : Nat) : List Nat:=(List.range n).filter fun i => decide (zgS ls i ≠ 1)
theorem zgM (ls : List zi) (n : Nat) : yP ls (n + 1) = yP ls n ++ if zgS ls n ≠ 1 then [n] else []:=by
 unfold yP
 rw [List.range_succ,List.filter_append]
 congr 1
 by_cases h : zgS ls n = 1 <;> simp [h]
theorem zdv {ls : List zi} {i : Nat} (h : i < ls.length) : zgS ls i = ls[i].kind:=by unfold zgS;rw [List.getElem?_eq_getElem h]
theorem ziU {ls : List zi} {n i : Nat} (h : i ∈ yP ls n) : i < n:=List.mem_range.1 (List.mem_filter.1 h).1
theorem zgi (ls : List zi) (n : Nat) : (yP ls n).length ≤ n:=by
 unfold yP
 exact Nat.le_trans (List.length_filter_le _ _) (by simp)
theorem zf2 (ls : List zi) (n : Nat) : (yP ls n).Pairwise (· < ·):=List.pairwise_lt_range.filter _
def jw (n : Nat) (S : Nat → Bool) : List Bool:=(List.range n).map S
theorem zbY (n : Nat) (S : Nat → Bool) : (jw n S).length = n:=by unfold jw;simp
theorem zgj {n : Nat} {S : Nat → Bool} {i : Nat} (h : i < n) : (jw n S).getD i false = S i:=by unfold jw;simp [h]
theorem zbZ {n : Nat} {S : Nat → Bool} {k : Int} (h : -1 ≤ k) (h2 : k < n) : kW (jw n S) k = (decide (k < 0) || S k.toNat):=by
 unfold kW
 rw [zbY]
 by_cases h0 : k < 0
 · simp [h0]
 · rw [decide_eq_false h0,decide_eq_true h2,zgj (by omega)];simp
def zaK (rc : List (Int × List Int)) (S : Nat → Bool) : Prop:=∃ v,zc5 v (xS rc (jw 100 S)) = true
def SatL (l : List (List Int)) : Prop:=∃ v,zc5 v l = true
theorem jf {v : Nat} {l : List (List Int)} : zc5 v l = true ↔ ∀ c ∈ l,clB v c = true:=by unfold zc5;rw [List.all_eq_true]
theorem zci {rc : List (Int × List Int)} {some : List Bool} {c : List Int} : c ∈ xS rc some ↔ ∃ p ∈ rc,kW some p.1 = true ∧ p.2 = c:=by
 unfold xS
 constructor
 ·
  intro h
  obtain ⟨p,hp,rfl⟩:=List.mem_map.1 h
  exact ⟨p,(List.mem_filter.1 hp).1,(List.mem_filter.1 hp).2,rfl⟩
 ·
  rintro ⟨p,hp,h1,rfl⟩
  exact List.mem_map.2 ⟨p,List.mem_filter.2 ⟨hp,h1⟩,rfl⟩
theorem zaK.less {rc : List (Int × List Int)} {S S' : Nat → Bool} (hf : ∀ p ∈ rc,-1 ≤ p.1 ∧ p.1 < 100) (h : zaK rc S) (hs : ∀ i,i < 100 → S' i = true → S i = true) : zaK rc S':=by
 obtain ⟨v,hv⟩:=h
 refine ⟨v,jf.2 fun c hc => ?_⟩
 obtain ⟨p,hp,hw,rfl⟩:=zci.1 hc
 refine jf.1 hv _ (zci.2 ⟨p,hp,?_,rfl⟩)
 have hb:=hf p hp
 rw [zbZ hb.1 hb.2] at hw ⊢
 by_cases h0 : p.1 < 0
 · simp [h0]
 ·
  rw [decide_eq_false h0,Bool.false_or] at hw ⊢
  exact hs _ (by omega) hw
structure zi7 (rc : List (Int × List Int)) (out : List Nat) : Prop where
 inc : out.Pairwise (· < ·)
 lt : ∀ i ∈ out,i < 100
 no : ¬ zaK rc (fun i => decide (i ∈ out))
 yes : ∀ x ∈ out,zaK rc (fun i => decide (i ∈ out ∧ i ≠ x))
structure zbz (rc : List (Int × List Int)) (says : List Nat) (S : Nat → Bool) (j : Nat) : Prop where
 inn : ∀ i,S i = true → i ∈ says
 no : ¬ zaK rc S
 all : ∀ t (h : t < says.length),t < j → S says[t] = true
 tried : ∀ t (h : t < says.length),j ≤ t → S says[t] = true → zaK rc (fun i => S i && decide (i ≠ says[t]))
theorem zbz.keep {rc : List (Int × List Int)} {says : List Nat} {S : Nat → Bool} {j : Nat} (h : zbz rc says S (j + 1)) (hj : j < says.length) (hs : zaK rc (fun i => S i && decide (i ≠ says[j]))) : zbz rc says S j :=
 ⟨h.inn,h.no,fun t ht hjt => h.all t ht (by omega),fun t ht hjt hS => by
  rcases Nat.lt_or_ge j t with q | q
  · exact h.tried t ht q hS
  ·
   have : t = j:=by omega
   subst this;exact hs⟩
theorem zbz.drop {rc : List (Int × List Int)} {says : List Nat} {S : Nat → Bool} {j : Nat} (hf : ∀ p ∈ rc,-1 ≤ p.1 ∧ p.1 < 100) (hd : says.Pairwise (· < ·)) (h : zbz rc says S (j + 1)) (hj : j < says.length) (hs : ¬ zaK rc (fun i => S i && decide (i ≠ says[j]))) : zbz rc says (fun i => S i && decide (i ≠ says[j])) j :=
 ⟨fun i hi => h.inn i (by simp only [Bool.and_eq_true] at hi;exact hi.1),hs,fun t ht hjt => by
  have h1:=h.all t ht (by omega)
  have h2:=List.pairwise_iff_getElem.1 hd t j ht hj hjt
  simp only [h1,Bool.true_and,decide_eq_true_eq]
  omega,fun t ht hjt hS => by
  simp only [Bool.and_eq_true,decide_eq_true_eq] at hS
  rcases Nat.lt_or_ge j t with q | q
  ·
   refine (h.tried t ht q hS.1).less hf (fun i _ hi => ?_)
   simp only [Bool.and_eq_true,decide_eq_true_eq] at hi ⊢
   exact ⟨hi.1.1,hi.2⟩
  ·
   have : t = j:=by omega
   subst this
   exact absurd rfl hS.2⟩
theorem zbz.done {rc : List (Int × List Int)} {ls : List zi} {n : Nat} (hn : n ≤ 100) (hf : ∀ p ∈ rc,-1 ≤ p.1 ∧ p.1 < 100) {S : Nat → Bool} (h : zbz rc (yP ls n) S 0) : zi7 rc ((yP ls n).filter S):=by
 have hm : ∀ i,i ∈ (yP ls n).filter S ↔ S i = true:=fun i => by
  rw [List.mem_filter]
  exact ⟨fun q => q.2,fun q => ⟨h.inn i q,q⟩⟩
 refine ⟨(zf2 ls n).filter _,fun i hi => by have:=ziU (List.mem_filter.1 hi).1;omega,fun q => h.no (q.less hf (fun i _ hi => by rw [decide_eq_true_iff,hm];exact hi)),fun x hx => ?_⟩
 obtain ⟨hx1,hx2⟩:=List.mem_filter.1 hx
 obtain ⟨t,ht,rfl⟩:=List.getElem_of_mem hx1
 refine (h.tried t ht (znz _) hx2).less hf (fun i _ hi => ?_)
 rw [decide_eq_true_iff,hm] at hi
 simp only [Bool.and_eq_true,decide_eq_true_eq]
 exact hi
theorem zoD {ls : List zi} {items : List zA} (hn : ls.length ≤ 100) : xS (zH ls items) (jw 100 (fun i => decide (i ∈ yP ls ls.length))) = q9 (zH ls items):=by
 unfold xS q9
 congr 1
 refine List.filter_eq_self.2 fun p hp => ?_
 have hb:=kS hp
 rw [zbZ (by omega) (by omega)]
 rcases List.mem_append.1 hp with h | h
 · rw [zgW h];rfl
 ·
  obtain ⟨k,hk,h⟩:=zak.1 h
  have he:=zdO h
  rw [Nat.zero_add] at he h
  have : k ∈ yP ls ls.length:=by
   unfold yP
   refine List.mem_filter.2 ⟨List.mem_range.2 hk,?_⟩
   rw [decide_eq_true_iff,zdv hk]
   intro e
   unfold jd at h
   rw [if_neg (by omega),if_neg (by omega),if_neg (by omega)] at h
   cases h
  rw [he,Int.toNat_natCast,decide_eq_true this];simp
theorem zkm {m : Int} {l ls : List (List Int)} (hz : ∀ d ∈ l,jP d) (h : ∀ i (h : i < ls.length),Rup m (l ++ ls.take i) ls[i]) (hl : ls.getLast? = some []) {v : Nat} (hv : zc5 v l = true) : False:=by
 have hzz : ∀ d ∈ l ++ ls,jP d:=fun d hd => by
  rcases List.mem_append.1 hd with q | q
  · exact hz d q
  ·
   obtain ⟨i,hi,rfl⟩:=List.getElem_of_mem q
   exact fun x hx => (qL (h i hi).1 hx).1
 have key : ∀ i,i ≤ ls.length → zc5 v (l ++ ls.take i) = true:=by
  intro i
  induction i with
  | zero => intro _;simpa using hv
  | succ i ih =>
   intro hi
   have h1:=ih (by omega)
   have h2:=(h i (by omega)).sound (fun d hd => hzz d (by
    rcases List.mem_append.1 hd with q | q
    · simp [q]
    · simp [List.mem_of_mem_take q])) h1
   rw [List.take_succ_eq_append_getElem (by omega),← List.append_assoc]
   unfold zc5 at h1 ⊢
   rw [List.all_append,h1]
   simpa using h2
 have h1:=key ls.length (znr _)
 rw [List.take_length] at h1
 have hm : ([] : List Int) ∈ ls:=List.mem_of_getLast? hl
 have:=jf.1 h1 [] (List.mem_append_right _ hm)
 cases this
theorem znf {m : Int} {l : List (List Int)} (h : Good m l) : ∀ d ∈ l,jP d:=fun d hd x hx => (qL (h.2.2.2 d hd).2 hx).1
theorem zk4 (m : Int) (vl : Value) (l : List (List Int)) (w : World) (hl : xD w vl l) (hg : Good m l) (hf : znC m l) :
 Calls Tryz.prog 21 #[.int .i64 m,vl] w fun e w' => (∃ (holds : Bool) (vals : Nat) (a : Option Addr) (n c : Nat),e = .returned (.tuple #[.agg #[.bool holds,.int .u64 vals,.slice a n c],.nilIface]) ∧ (holds = true ↔ SatL l)) ∧ Below w.heap.size w w':=by
 refine (zmN m vl l w hl).mono ?_
 rintro e w' ⟨⟨holds,vals,vp,err,rfl,hv,hs⟩,hb⟩
 obtain rfl:=hs.small hg hf
 refine ⟨?_,hb⟩
 cases holds with
 | true =>
  obtain ⟨rfl,h1,_⟩:=hs.yes hg rfl rfl
  exact ⟨true,vals,none,0,0,rfl,fun _ => ⟨vals,h1⟩,fun _ => rfl⟩
 | false =>
  obtain ⟨_,ls,h1,_,h2,h3,_⟩:=hs.no hg rfl rfl
  obtain ⟨a,c,rfl,_⟩:=h1.shape
  exact ⟨false,vals,a,_,c,rfl,fun h => (by cases h),fun ⟨v,hv⟩ => (zkm (znf hg) h2 h3 hv).elim⟩
theorem zll {ls : List zi} {items : List zA} (ho : zda ls items) (hr : (zH ls items).length ≤ 200) (some : List Bool) : Good (items.length : Nat) (xS (zH ls items) some):=by
 have hn : items.length ≤ 24:=by rw [ho.perm.length_eq];exact ho.most
 refine ⟨by omega,by omega,?_,fun c hc => ?_⟩
 ·
  have:=zoN (rc:=zH ls items) (some:=some)
  rw [q9,List.length_map] at this
  omega
 ·
  obtain ⟨p,hp,_,rfl⟩:=zci.1 hc
  obtain ⟨h1,h2⟩:=zjU ho p hp
  exact ⟨by omega,zdk (fun x hx => by have:=h2 x hx;omega)⟩
theorem zhU : (Tryz.prog.info? 4).map (fun i => (i.zero,i.size,i.bytes)) = some (some (.bool false),1,1):=by kernel_rfl
def zZ (w : World) (p n : Nat) (S : Nat → Bool) : Prop:=∃ cur : Array Value,w.heap[p]? = some (.cells cur 4 (0,0)) ∧ cur.size = n ∧ ∀ j,j < n → cur[j]? = some (.bool (S j))
theorem zZ.made {w : World} {p n : Nat} (h : w.heap[p]? = some (.cells (madeCells #[.bool false] n) 4 (0,0))) : zZ w p n (fun _ => false) :=
 ⟨_,h,by rw [size_madeCells],fun j hj => by rw [← Array.getElem?_toList,toList_madeCells_one];simp [hj]⟩
theorem zZ.set {w : World} {p n : Nat} {S : Nat → Bool} (h : zZ w p n S) {k : Nat} (hk : k < n) (b : Bool) : zZ (w.setCell ⟨p,k,none⟩ (.bool b)) p n (fun i => if i = k then b else S i):=by
 obtain ⟨cur,h1,h2,h3⟩:=h
 refine ⟨_,heap_set h1 k _,by simp [h2],fun j hj => ?_⟩
 rw [Array.getElem?_setIfInBounds]
 by_cases e : k = j
 · subst e;rw [if_pos rfl,if_pos (by omega)];simp
 ·
  rw [if_neg e]
  show cur[j]? = some (.bool (if j = k then b else S j))
  rw [if_neg (fun q => e q.symm)];exact h3 j hj
theorem zZ.cell {w : World} {p n : Nat} {S : Nat → Bool} (h : zZ w p n S) {j : Nat} (hj : j < n) : w.cell? ⟨p,j,none⟩ = some (.bool (S j)) ∧ w.frozen? ⟨p,j,none⟩ = false ∧ p < w.heap.size:=by
 obtain ⟨cur,h1,h2,h3⟩:=h
 exact ⟨by rw [cell_of_row _ _ _ _ _ _ h1];exact h3 j hj,by simp [World.frozen?,h1],zlb h1⟩
theorem zZ.lt {w : World} {p n : Nat} {S : Nat → Bool} (h : zZ w p n S) : p < w.heap.size:=by
 obtain ⟨cur,h1,_⟩:=h
 exact zlb h1
theorem zZ.block {w w' : World} {p n : Nat} {S : Nat → Bool} (h : zZ w p n S) (hb : w'.heap[p]? = w.heap[p]?) : zZ w' p n S:=by
 obtain ⟨cur,h1,h2⟩:=h
 exact ⟨cur,hb.trans h1,h2⟩
theorem zZ.below {w w' : World} {p n : Nat} {S : Nat → Bool} (h : zZ w p n S) (hb : Below w.heap.size w w') : zZ w' p n S:=h.block (hb.block _ h.lt)
theorem zZ.congr {w : World} {p n : Nat} {S S' : Nat → Bool} (h : zZ w p n S) (e : ∀ i,i < n → S i = S' i) : zZ w p n S':=by
 obtain ⟨cur,h1,h2,h3⟩:=h
 exact ⟨cur,h1,h2,fun j hj => by rw [← e j hj];exact h3 j hj⟩
theorem zZ.bools {w : World} {p n : Nat} {S : Nat → Bool} (h : zZ w p n S) (hn : n ≤ 1000) : kJ w (.slice (some ⟨p,0,none⟩) n n) (jw n S):=by
 have hc:=fun j hj => (h.cell (j:=j) hj).1
 refine ⟨_,p,0,n,by rw [zbY],fun _ => rfl,by rw [zbY];exact znr _,by unfold maxLen;omega,fun i hi => ?_,fun _ => h.lt⟩
 rw [zbY] at hi
 rw [Nat.zero_add,hc i hi,zgj hi]
set_option maxRecDepth 100000 in
set_option maxHeartbeats 8000000 in
theorem zkn (p : Nat) (vl vi : Value) (ls : List zi) (items : List zA) (w : World) (h : zb7 w p vl vi ls items) (hn : ls.length ≤ 100) :
 Calls Tryz.prog 90 #[.pointer (some ⟨p,0,none⟩)] w fun e w' => (∃ v,e = .returned v ∧ xI w' w.heap.size v ((yP ls ls.length).map fun k : Nat => (k : Int))) ∧ Below w.heap.size w w':=by
 have HLi:=hid (zeJ p vl vi ls items w h (by omega))
 clear h
 go_enter Tryz.func90,Tryz.ntmps90
 go_wp2_with fail
 refine HLi.out.mono ?_
 rintro e w4 ⟨⟨v4,rfl,hl4⟩,hb4⟩
 obtain ⟨al,cl,rfl,hll,hlm⟩:=hl4.row.shape
 have Hl4:=hid hl4;have Hb4:=hid hb4
 clear hl4 hb4 HLi
 go_wp2_with fail
 go_loopg [3,9] ls.length (fun gk vo i wr => ∃ k : Nat,k ≤ ls.length ∧ gk = ls.length - k ∧ i = .int .i64 k ∧ xI wr w4.heap.size vo ((yP ls k).map fun k : Nat => (k : Int)) ∧ Below w4.heap.size w4 wr)
 case atStart => exact ⟨0,znz _,rfl,rfl,zh.nil _ _ _ _ _,Below.refl _ _⟩
 case round =>
  obtain ⟨k,hk,rfl,rfl,hout,hbw⟩:=hrel
  obtain ⟨wo,rfl⟩ : ∃ y,y = wr:=⟨_,rfl⟩
  obtain ⟨ss,hss⟩ : ∃ ss,ss = (yP ls k).map (fun k : Nat => (k : Int)):=⟨_,rfl⟩
  rw [← hss] at hout
  have hsl : ss.length ≤ 100:=by rw [hss,List.length_map];have:=zgi ls k;omega
  obtain ⟨ao,co,rfl,_,_⟩:=zh.shape hout
  by_cases hlt : k < ls.length
  ·
   have hi : (k : Int) < (ls.length : Int):=by omega
   have hlw:=Hl4.out.below hbw
   obtain ⟨gl,rfl,hgl,_⟩:=hlw.row.at (by omega)
   obtain ⟨c0,c1,c2,c3,c4,c5,c6⟩:=hlw.cells hlt
   have hin:=hlw.ins _ (List.getElem_mem hlt)
   have hsu:=zgM ls k
   rw [zdv hlt] at hsu
   obtain ⟨lx,hlx⟩ : ∃ lx,lx = ls[k]:=⟨_,rfl⟩
   rw [← hlx] at c0 c1 c2 c3 c4 c5 c6 hin hsu
   obtain ⟨kd,nm,a,b,c,ot,rg,rv⟩:=lx
   have hrg:=hin.rng
   simp only at c0 c1 c2 c3 c4 c5 c6 hrg hsu
   obtain ⟨ar,cr,rfl,_,_⟩:=hrg.shape
   obtain ⟨wB,hwB⟩ : ∃ q,q = wo.alloc (.cells #[.int .i64 kd,.string nm,.int .i64 a,.int .i64 b,.int .i64 c,.string ot,.slice ar rg.length cr] 77):=⟨_,rfl⟩
   have hbB : Below wo.heap.size wo wB:=by rw [hwB];exact zba
   have hkB : wB.heap[wo.heap.size]? = some (.cells #[.int .i64 kd,.string nm,.int .i64 a,.int .i64 b,.int .i64 c,.string ot,.slice ar rg.length cr] 77 (0,0)):=by rw [hwB];exact za rfl
   obtain ⟨k0,_,_,_,_,_,_⟩:=kz hkB
   have Hout:=hid (zh.below hout hbB);have Hbw:=hid (hbw.trans (hbB.mono hbw.size));have Hsu:=hid hsu;have Hss:=hid hss
   clear hout hbw hsu hss hbB hkB hlw hin hrg hlx
   go_upto_region 5 with fail
   rw [← hwB]
   clear hwB c0 c1 c2 c3 c4 c5 c6
   by_cases hk1 : kd = 1
   ·
    have t1 : (kd != 1) = false:=by rw [hk1];rfl
    have Hk1:=hid hk1;clear hk1
    go_wp2_with fail
    go_roundg (ls.length - (k + 1))
    case measure => omega
    case rel => exact ⟨k + 1,by omega,rfl,by go_num,by rw [Hsu.out,if_neg (by rw [Hk1.out];simp),List.append_nil,← Hss.out];exact Hout.out,Hbw.out⟩
   ·
    have t1 : (kd != 1) = true:=by rw [bne_iff_ne];exact hk1
    have Hk1:=hid hk1;clear hk1
    go_wp2_with (at_builtin;refine qA rfl (.tmp 17) (.tmp 19) rfl w4.heap.size (.slice ao ss.length co) ss rfl Hout.out k _ rfl rfl (by omega) Hbw.out.size ?_;intro g9 c9 w9 ho9 hb9 hk9 hg9;have Ho9:=hid ho9;have Hb9:=hid hb9;clear ho9 hb9 hk9 hg9)
    go_roundg (ls.length - (k + 1))
    case measure => omega
    case rel => exact ⟨k + 1,by omega,rfl,by go_num,by rw [Hsu.out,if_pos Hk1.out,List.map_append,← Hss.out];exact Ho9.out,Hbw.out.trans Hb9.out⟩
  ·
   obtain rfl : k = ls.length:=by omega
   have Hout:=hid (zh.less hout Hb4.out.size);have Hbw:=hid (Hb4.out.trans (hbw.mono Hb4.out.size));have Hss:=hid hss
   clear hout hbw hss hlt
   go_wp2_with fail
   go_ret
   exact ⟨⟨_,rfl,by rw [← Hss.out];exact Hout.out⟩,Hbw.out⟩
theorem zmj : ∀ w : World,(Instr.makeSlice 170 (.int .i64 100) (.int .i64 100)).run Tryz.prog w = .ok (.slice (some ⟨w.heap.size,0,none⟩) 100 100) (w.alloc (.cells (madeCells #[.bool false] 100) 4)) :=
 run_make_row' (P:=Tryz.prog) 170 4 (.bool false) 1 Tryz.underlying170 zhU rfl .i64 .i64 100 (by omega) (by omega)
structure Solv (m : Nat) (rc : List (Int × List Int)) : Prop where
 good : ∀ S,Good (m : Nat) (xS rc (jw 100 S))
 few : ∀ S,znC (m : Nat) (xS rc (jw 100 S))
 frm : ∀ p ∈ rc,-1 ≤ p.1 ∧ p.1 ≤ 1000
 len : rc.length ≤ 200
theorem zdm {m : Nat} {rc : List (Int × List Int)} (hs : Solv m rc) {S : Nat → Bool} {w : World} {v : Value} {base : Nat} (h : jc w base v (xS rc (jw 100 S))) :
 Calls Tryz.prog 21 #[.int .i64 m,v] w fun e w' => (∃ (holds : Bool) (vals : Nat) (a : Option Addr) (n c : Nat),e = .returned (.tuple #[.agg #[.bool holds,.int .u64 vals,.slice a n c],.nilIface]) ∧ (holds = true ↔ zaK rc S)) ∧ Below w.heap.size w w' :=
 zk4 m v _ w (h.rows (by have:=(hs.good S).2.2.1;omega) (fun c hc => by have:=((hs.good S).2.2.2 c hc).1;omega)) (hs.good S) (hs.few S)
theorem kS3 {W : World} {p q : Nat} {a b c x y z : Value} (hne : p ≠ q) (h : W.cell? ⟨p,0,none⟩ = some a ∧ W.cell? ⟨p,1,none⟩ = some b ∧ W.cell? ⟨p,2,none⟩ = some c) :
 (((W.setCell ⟨q,0,none⟩ x).setCell ⟨q,1,none⟩ y).setCell ⟨q,2,none⟩ z).cell? ⟨p,0,none⟩ = some a ∧ (((W.setCell ⟨q,0,none⟩ x).setCell ⟨q,1,none⟩ y).setCell ⟨q,2,none⟩ z).cell? ⟨p,1,none⟩ = some b ∧ (((W.setCell ⟨q,0,none⟩ x).setCell ⟨q,1,none⟩ y).setCell ⟨q,2,none⟩ z).cell? ⟨p,2,none⟩ = some c:=by
 have key : ∀ (j : Nat),(((W.setCell ⟨q,0,none⟩ x).setCell ⟨q,1,none⟩ y).setCell ⟨q,2,none⟩ z).cell? ⟨p,j,none⟩ = W.cell? ⟨p,j,none⟩:=fun j => World.cell?_of_block ((zhc _ _ _ _ (by show p ≠ q;exact hne)).trans ((zhc _ _ _ _ (by show p ≠ q;exact hne)).trans (zhc _ _ _ _ (by show p ≠ q;exact hne))))
 exact ⟨(key 0).trans h.1,(key 1).trans h.2.1,(key 2).trans h.2.2⟩
theorem kSA {W : World} {p : Nat} {a b c : Value} {o : Obj} (hp : p < W.heap.size) (h : W.cell? ⟨p,0,none⟩ = some a ∧ W.cell? ⟨p,1,none⟩ = some b ∧ W.cell? ⟨p,2,none⟩ = some c) :
 (W.alloc o).cell? ⟨p,0,none⟩ = some a ∧ (W.alloc o).cell? ⟨p,1,none⟩ = some b ∧ (W.alloc o).cell? ⟨p,2,none⟩ = some c:=by
 have hb : Below W.heap.size W (W.alloc o):=zba
 exact ⟨(hb.cell (p:=⟨p,0,none⟩) hp).trans h.1,(hb.cell (p:=⟨p,1,none⟩) hp).trans h.2.1,(hb.cell (p:=⟨p,2,none⟩) hp).trans h.2.2⟩
theorem kSAd {W : World} {p : Nat} {a b c : Value} {o : Obj} (hp : p < W.heap.size) (h : W.drew.cell? ⟨p,0,none⟩ = some a ∧ W.drew.cell? ⟨p,1,none⟩ = some b ∧ W.drew.cell? ⟨p,2,none⟩ = some c) :
 (W.alloc o).drew.cell? ⟨p,0,none⟩ = some a ∧ (W.alloc o).drew.cell? ⟨p,1,none⟩ = some b ∧ (W.alloc o).drew.cell? ⟨p,2,none⟩ = some c:=kSA (o:=o) hp h
def zrr (ls : List zi) (items : List zA) (w : World) (e : Ending) (w' : World) : Prop :=
 ((∃ a c out,e = .returned (.tuple #[.slice a out.length c,.nilIface]) ∧ xI w' w.heap.size (.slice a out.length c) (out.map fun k : Nat => (k : Int)) ∧ zi7 (zH ls items) out) ∨
  (e = .returned (.tuple #[.slice none 0 0,.iface 45 (.int .i64 8)]) ∧ SatL (q9 (zH ls items))) ∨
  (e = .returned (.tuple #[.slice none 0 0,.iface 45 (.int .i64 4)]) ∧ 200 < (zH ls items).length)) ∧ Below w.heap.size w w'
theorem zgC {ls : List zi} {items : List zA} (ho : zda ls items) (hr : (zH ls items).length ≤ 200) (h12 : items.length ≤ 12) : Solv items.length (zH ls items) :=
 ⟨fun S => zll ho hr _,fun S => zlF ho h12 _,fun p hp => by have:=kS hp;have:=ho.few;omega,hr⟩
theorem zi0 {S : Nat → Bool} (l : List Nat) {j : Nat} (h : j < l.length) : (l.take (j + 1)).filter S = (l.take j).filter S ++ if S l[j] = true then [l[j]] else []:=by
 rw [List.take_succ_eq_append_getElem h,List.filter_append]
 congr 1
 by_cases e : S l[j] = true <;> simp [e]
set_option maxRecDepth 100000 in
set_option maxHeartbeats 64000000 in
theorem zoS (p : Nat) (vl vi : Value) (ls : List zi) (items : List zA) (w : World) (h : zb7 w p vl vi ls items) (ho : zda ls items) (h12 : items.length ≤ 12) : Calls Tryz.prog 85 #[.pointer (some ⟨p,0,none⟩)] w (zrr ls items w):=by
 have hl100:=ho.few
 have HO1:=hid (zk2 p vl vi ls items w h ho)
 have HSv:=hid (fun hr => zgC ho hr h12)
 have Hat:=hid h
 have Hfr:=hid (show ∀ p ∈ zH ls items,-1 ≤ p.1 ∧ p.1 < 100 from fun p hp => by have:=kS hp;omega)
 have Hall:=hid (zoD (items:=items) hl100)
 clear h ho h12
 go_enter Tryz.func85,Tryz.ntmps85
 go_wp2_with fail
 refine HO1.out.mono ?_
 rintro e w1 ⟨⟨a1,c1,a2,c2,rfl,hr,hin⟩ | ⟨rfl,hr⟩,hb1⟩
 ·
  obtain ⟨rc,hrc⟩ : ∃ rc,rc = zH ls items:=⟨_,rfl⟩
  have Hs:=hid (HSv.out hr)
  rw [← hrc] at hin hr Hs Hfr Hall ⊢
  obtain ⟨L,hL⟩ : ∃ L,L = rc.length:=⟨_,rfl⟩
  rw [← hL] at hin ⊢
  obtain ⟨m,hm⟩ : ∃ m,m = items.length:=⟨_,rfl⟩
  rw [← hm] at Hs ⊢
  have Hrc:=hid hrc
  obtain ⟨w2,hw2⟩ : ∃ w2,w2 = w1.alloc (.cells #[.int .i64 m,.slice a1 L c1,.slice a2 L c2] 27):=⟨_,rfl⟩
  have hb2 : Below w1.heap.size w1 w2:=by rw [hw2];exact zba
  have hk2 : w2.heap[w1.heap.size]? = some (.cells #[.int .i64 m,.slice a1 L c1,.slice a2 L c2] 27 (0,0)):=by rw [hw2];exact za rfl
  have HL2:=hid (zkn p vl vi ls items w2 (Hat.out.below (hb1.trans (hb2.mono hb1.size))) hl100)
  have HB2:=hid (hb1.trans (hb2.mono hb1.size));have Hk2:=hid hk2;have Hin2:=hid (hin.below hb2)
  clear hrc hL hm hb1 hb2 hk2 hin HO1 HSv hr Hat
  go_upto_region 2 with fail
  rw [← hw2]
  clear hw2
  go_wp2_with fail
  refine HL2.out.mono ?_
  rintro e w3 ⟨⟨v3,rfl,hs3⟩,hb3⟩
  obtain ⟨az,cs,rfl,hsl1,hsl2⟩:=zh.shape hs3
  rw [List.length_map] at hs3 hsl1 ⊢
  obtain ⟨says,hsays⟩ : ∃ says,says = yP ls ls.length:=⟨_,rfl⟩
  have hsn : says.length ≤ 100:=by rw [hsays];have:=zgi ls ls.length;omega
  have hslt : ∀ i ∈ says,i < 100:=fun i hi => by rw [hsays] at hi;have:=ziU hi;omega
  rw [← hsays] at hs3 hsl1 Hall ⊢
  obtain ⟨NL,hNL⟩ : ∃ NL,NL = says.length:=⟨_,rfl⟩
  rw [← hNL] at hs3 hsl1 hsn ⊢
  have HNL:=hid hNL;have Hsays:=hid hsays;have Hslt:=hid hslt
  obtain ⟨w4,hw4⟩ : ∃ w4,w4 = w3.alloc (.cells (madeCells #[.bool false] 100) 4):=⟨_,rfl⟩
  have hb4 : Below w3.heap.size w3 w4:=by rw [hw4];exact zba
  have hr4 : zZ w4 w3.heap.size 100 (fun _ => false):=.made (by rw [hw4];exact za rfl)
  have HX:=hid (show ∀ w',Below w3.heap.size w3 w' → w'.heap[w1.heap.size]? = some (.cells #[.int .i64 m,.slice a1 L c1,.slice a2 L c2] 27 (0,0)) ∧ q8 w' w.heap.size (.slice a1 L c1) (.slice a2 L c2) rc ∧ xI w' w2.heap.size (.slice az NL cs) (says.map fun k : Nat => (k : Int)) ∧ Below w.heap.size w w' from fun w' hw => by
   have hb:=hb3.trans (hw.mono hb3.size)
   exact ⟨(hb.block _ (zlb Hk2.out)).trans Hk2.out,Hin2.out.below hb,zh.below hs3 hw,HB2.out.trans (hb.mono HB2.out.size)⟩)
  have Hb4:=hid hb4;have Hr4:=hid hr4
  have Hl13:=hid (Nat.lt_of_lt_of_le (zlb Hk2.out) hb3.size)
  have Hws:=hid (HX.out w3 (Below.refl _ _)).2.2.2.size
  have hm2:=zmj
  clear hs3 hb3 hNL hsays hslt hb4 hr4 HL2 Hk2 Hin2
  go_upto_region 6 with fail
  rw [← hw4]
  clear hw4 hm2
  go_wp2_with fail
  go_loopg [30] NL (fun gk i wr => ∃ k : Nat,k ≤ NL ∧ gk = NL - k ∧ i = .int .i64 k ∧ zZ wr w3.heap.size 100 (fun j => decide (j ∈ says.take k)) ∧ Below w3.heap.size w3 wr)
  case atStart => exact ⟨0,znz _,rfl,rfl,Hr4.out.congr (fun i _ => by simp),Hb4.out⟩
  case round =>
   obtain ⟨k,hk,rfl,rfl,hr,hbw⟩:=hrel
   obtain ⟨wo,rfl⟩ : ∃ y,y = wr:=⟨_,rfl⟩
   obtain ⟨hbx,hrul,hrow,hbe⟩:=HX.out wo hbw
   by_cases hlt : k < NL
   ·
    have hi : (k : Int) < (NL : Int):=by omega
    have hks : k < says.length:=by rw [← HNL.out];exact hlt
    obtain ⟨g,rfl,hg,_⟩:=zh.at hrow (by rw [List.length_map];omega)
    have hc:=zh.cell (enc:=yA) (z:=1) (fun _ => rfl) hrow (k:=k) (by rw [List.length_map];exact hks) (j:=0) (by decide) rfl
    rw [Nat.mul_one,Nat.add_zero,List.getElem_map] at hc
    have hq:=Hslt.out says[k] (List.getElem_mem hks)
    have hts : says.take (k + 1) = says.take k ++ [says[k]]:=List.take_succ_eq_append_getElem hks
    obtain ⟨q,hqe⟩ : ∃ q,q = says[k]:=⟨_,rfl⟩
    rw [← hqe] at hc hq hts
    obtain ⟨d1,d2,d3⟩:=hr.cell hq
    have hqi : (q : Int) < 100:=by omega
    have Hr:=hid hr;have Hts:=hid hts;have Hbw:=hid hbw
    clear hr hts hbw hbx hrul hrow hbe hqe
    go_wp2_with fail
    go_roundg (NL - (k + 1))
    case measure => omega
    case rel => exact ⟨k + 1,by omega,rfl,by go_num,(Hr.out.set hq true).congr (fun i _ => by rw [Hts.out];by_cases e : i = q <;> simp [e]),Hbw.out.setCell (p:=⟨w3.heap.size,q,none⟩) (znr _) _⟩
   ·
    obtain rfl : NL = k:=by omega
    rw [HNL.out,List.take_length] at hr
    have Hr:=hid hr;have Hbw:=hid hbw
    clear hr hbw hbx hrul hrow hbe hlt
    go_upto_region 11 with fail
    go_cut [5,10] from 38 to 46 (fun ev pv wz => ∃ (blk : Nat) (holds : Bool) (vals : Nat) (a8 : Option Addr) (n8 c8 : Nat),ev = .nilIface ∧ pv = .pointer (some ⟨blk,0,none⟩) ∧ wz.heap[blk]? = some (.cells #[.bool holds,.int .u64 vals,.slice a8 n8 c8] 56 (0,0)) ∧ Below wo.heap.size wo wz ∧ (holds = true ↔ zaK rc (fun j => decide (j ∈ says))))
    case first =>
     obtain ⟨hbx,hrul,_,_⟩:=HX.out wo Hbw.out
     have HO:=hid (show ∀ w',Below wo.heap.size wo w' → Calls Tryz.prog 140 #[.agg #[.int .i64 m,.slice a1 L c1,.slice a2 L c2],.slice (some ⟨w3.heap.size,0,none⟩) 100 100] w' fun e w'' => (∃ vo,e = .returned vo ∧ jc w'' w'.heap.size vo (xS rc (jw 100 (fun j => decide (j ∈ says))))) ∧ Below w'.heap.size w' w'' from fun w' hw => zga w.heap.size (m : Nat) _ _ _ rc _ w' (hrul.below hw) ((Hr.out.below hw).bools (by omega)) (by have:=Hs.out.len;omega) Hs.out.frm)
     have HK:=hid (show ∀ w',Below wo.heap.size wo w' → w'.cell? ⟨w1.heap.size,0,none⟩ = some (.int .i64 m) ∧ w'.cell? ⟨w1.heap.size,1,none⟩ = some (.slice a1 L c1) ∧ w'.cell? ⟨w1.heap.size,2,none⟩ = some (.slice a2 L c2) from fun w' hw => yN ((hw.block _ (zlb hbx)).trans hbx))
     have HB:=hid ((Below.refl wo.heap.size wo).drew)
     have HBd:=hid (fun o => ((Below.refl wo.heap.size wo).alloc (znr _) o).drew)
     have KS:=HK.out _ HB.out
     have hlx:=zlb hbx
     clear hbx hrul
     go_region_held3 (fun w' => w'.cell? ⟨w1.heap.size,0,none⟩ = some (.int .i64 m) ∧ w'.cell? ⟨w1.heap.size,1,none⟩ = some (.slice a1 L c1) ∧ w'.cell? ⟨w1.heap.size,2,none⟩ = some (.slice a2 L c2)) (first | (with_reducible exact KS) | (with_reducible refine kS3 ?_ KS;omega) | (with_reducible refine kS3 ?_ KS;have:=HB.out.size;omega) | (with_reducible refine kSAd ?_ KS;omega) | (with_reducible refine kSA ?_ KS;have:=HB.out.size;omega) | go_keep)
      (first
       | (go_at_call 140;(refine (HO.out _ (by first | (with_reducible exact HB.out) | (with_reducible exact HBd.out _))).mono ?_);rintro e w7 ⟨⟨v7,rfl,h7⟩,hb7⟩;obtain ⟨x7,y7,rfl,_,_⟩:=h7.shape;have HSo:=hid (show ∀ w',Below w7.heap.size w7 w' → _ from fun w' hw => zdm Hs.out (h7.below hw));have hB7 : Below wo.heap.size wo w7:=(by first | (with_reducible exact HB.out.trans (hb7.mono HB.out.size)) | (with_reducible exact (HBd.out _).trans (hb7.mono (HBd.out _).size)));have hs7:=hB7.size;(try (have hx7 : w7.heap[wo.heap.size]? = some (.cells #[.bool false,.int .u64 0,.slice none 0 0] 56 (0,0)):=(hb7.block _ (by simp)).trans (za (by simp));have HX7:=hid hx7;clear hx7));clear h7 hb7 KS HB;have HB:=hid hB7;clear hB7;have KS:=HK.out _ HB.out)
       | (go_at_call 21;(refine (HSo.out _ (by first | (with_reducible exact Below.refl _ _) | (with_reducible exact zba))).mono ?_);rintro e w8 ⟨⟨holds,vals,a8,n8,c8,rfl,h8⟩,hb8⟩;have H8:=hid h8;have hB8 : Below wo.heap.size wo w8:=(by first | (with_reducible exact HB.out.trans (hb8.mono HB.out.size)) | (with_reducible exact (HB.out.alloc HB.out.size _).trans (hb8.mono (HB.out.alloc HB.out.size _).size)));(first | (have hx8:=(hb8.block _ (zlb HX7.out)).trans HX7.out) | (have hx8 : w8.heap[w7.heap.size]? = some (.cells #[.bool false,.int .u64 0,.slice none 0 0] 56 (0,0)):=(hb8.block _ (by simp)).trans (za rfl)) | skip);(try (obtain ⟨g0,g1,g2⟩:=zfp hx8;obtain ⟨z0,z1,z2⟩:=yN hx8;have l8:=zlb hx8;have HX8:=hid hx8;clear hx8));clear h8 hb8 KS HB;have HB:=hid hB8;clear hB8;have KS:=HK.out _ HB.out))
     ·
      go_wp2_with fail;go_meet
      case rel => exact ⟨w8.heap.size,holds,vals,a8,n8,c8,rfl,rfl,za rfl,HB.out.alloc HB.out.size _,H8.out⟩
     ·
      go_wp2_with fail;go_meet
      case rel => exact ⟨w7.heap.size,holds,vals,a8,n8,c8,rfl,rfl,zbj HX8.out _ _ _,HB.out.trans (yI (w:=w8) (show wo.heap.size ≤ w7.heap.size by omega) _ _ _),H8.out⟩
     ·
      go_wp2_with fail;go_meet
      case rel => exact ⟨wo.heap.size,holds,vals,a8,n8,c8,rfl,rfl,zbj HX8.out _ _ _,HB.out.trans (yI (w:=w8) (znr wo.heap.size) _ _ _),H8.out⟩
    case rest =>
     obtain ⟨blk,holds,vals,a8,n8,c8,rfl,rfl,hkz,hbz,hsat⟩:=hcut
     obtain ⟨wz,rfl⟩ : ∃ y,y = wc:=⟨_,rfl⟩
     obtain ⟨q0,_,_⟩:=yN hkz
     have Hbz:=hid (Hbw.out.trans (hbz.mono Hbw.out.size));have Hrz:=hid (Hr.out.below hbz);have Hsat:=hid hsat
     clear hkz hbz hsat Hr Hbw
     cases holds with
     | true =>
      have h9:=Hsat.out.1 rfl
      have H9:=hid h9;clear h9
      go_wp2_with fail
      go_ret2
      refine ⟨.inr (.inl ⟨rfl,?_⟩),(HX.out _ Hbz.out).2.2.2⟩
      have h9:=H9.out
      unfold zaK at h9
      rw [Hsays.out] at h9
      rw [Hsays.out] at Hall
      rw [Hall.out] at h9
      rw [← Hrc.out]
      exact h9
     | false =>
      have hI0 : zbz rc says (fun j => decide (j ∈ says)) NL:=⟨fun i hi => by simpa using hi,fun q => (Bool.false_ne_true (Hsat.out.2 q)),fun t ht _ => by simp,fun t ht h => by have:=HNL.out;omega⟩
      have HI0:=hid hI0;clear hI0
      go_wp2_with fail
      go_loopg [11] NL (fun gk i wr => ∃ (j : Nat) (S : Nat → Bool),j ≤ NL ∧ gk = j ∧ i = .int .i64 ((j : Int) - 1) ∧ zZ wr w3.heap.size 100 S ∧ zbz rc says S j ∧ Below w3.heap.size w3 wr)
      case atStart => exact ⟨NL,_,znr _,rfl,by go_num,Hrz.out,HI0.out,Hbz.out⟩
      case round =>
       obtain ⟨j,S,hj,hgk,rfl,hr,hI,hbw⟩:=hrel
       obtain rfl:=hgk.symm
       obtain ⟨wo,rfl⟩ : ∃ y,y = wr:=⟨_,rfl⟩
       cases j with
       | zero =>
        rw [show (((0 : Nat) : Int) - 1) = -1 from rfl]
        have Hr:=hid hr;have HI:=hid hI;have Hbw:=hid hbw
        clear hr hI hbw
        go_wp2_with fail
        go_loopg [14,88] NL (fun gk vo i wr => ∃ k : Nat,k ≤ NL ∧ gk = NL - k ∧ i = .int .i64 k ∧ xI wr wo.heap.size vo (((says.take k).filter S).map fun k : Nat => (k : Int)) ∧ Below wo.heap.size wo wr)
        case atStart => exact ⟨0,znz _,rfl,rfl,zh.nil _ _ _ _ _,Below.refl _ _⟩
        case round =>
         obtain ⟨k,hk,rfl,rfl,hout,hbi⟩:=hrel
         obtain ⟨wi,rfl⟩ : ∃ y,y = wr:=⟨_,rfl⟩
         obtain ⟨ss,hss⟩ : ∃ ss,ss = ((says.take k).filter S).map (fun k : Nat => (k : Int)):=⟨_,rfl⟩
         rw [← hss] at hout
         have hsl : ss.length ≤ 100:=by
          rw [hss,List.length_map]
          have h1:=List.length_filter_le S (says.take k)
          rw [List.length_take] at h1
          omega
         obtain ⟨ao,co,rfl,_,_⟩:=zh.shape hout
         have hbw3:=Hbw.out.trans (hbi.mono Hbw.out.size)
         obtain ⟨_,_,hrow,hbe⟩:=HX.out wi hbw3
         by_cases hlt : k < NL
         ·
          have hi : (k : Int) < (NL : Int):=by omega
          have hks : k < says.length:=by rw [← HNL.out];exact hlt
          obtain ⟨g,rfl,hg,_⟩:=zh.at hrow (by rw [List.length_map];omega)
          have hc:=zh.cell (enc:=yA) (z:=1) (fun _ => rfl) hrow (k:=k) (by rw [List.length_map];exact hks) (j:=0) (by decide) rfl
          rw [Nat.mul_one,Nat.add_zero,List.getElem_map] at hc
          have hq:=Hslt.out says[k] (List.getElem_mem hks)
          have hsu:=zi0 (S:=S) says hks
          obtain ⟨q,hqe⟩ : ∃ q,q = says[k]:=⟨_,rfl⟩
          rw [← hqe] at hc hq hsu
          obtain ⟨d1,_,_⟩:=(Hr.out.below hbi).cell hq
          have hqi : (q : Int) < 100:=by omega
          obtain ⟨B,hB⟩ : ∃ B,B = S q:=⟨_,rfl⟩
          rw [← hB] at d1 hsu
          have Hout:=hid hout;have Hbi:=hid hbi;have Hsu:=hid hsu;have Hss:=hid hss
          clear hout hbi hsu hss hrow hbe hqe hB hbw3
          cases B with
          | true =>
           go_wp2_with (at_builtin;refine qA rfl (.tmp 96) (.tmp 98) rfl wo.heap.size (.slice ao ss.length co) ss rfl Hout.out q _ rfl rfl (by omega) Hbi.out.size ?_;intro g9 c9 w9 ho9 hb9 hk9 hg9;have Ho9:=hid ho9;have Hb9:=hid hb9;clear ho9 hb9 hk9 hg9)
           go_roundg (NL - (k + 1))
           case measure => omega
           case rel => exact ⟨k + 1,by omega,rfl,by go_num,by rw [Hsu.out,if_pos trivial,List.map_append,← Hss.out];exact Ho9.out,Hbi.out.trans Hb9.out⟩
          | false =>
           go_wp2_with fail
           go_roundg (NL - (k + 1))
           case measure => omega
           case rel => exact ⟨k + 1,by omega,rfl,by go_num,by rw [Hsu.out,if_neg (by decide),List.append_nil,← Hss.out];exact Hout.out,Hbi.out⟩
         ·
          obtain rfl : NL = k:=by omega
          have hfin : ((says.take NL).filter S) = says.filter S:=by rw [HNL.out,List.take_length]
          rw [hfin] at hss
          obtain ⟨out,hout2⟩ : ∃ out,out = says.filter S:=⟨_,rfl⟩
          rw [← hout2] at hss
          have hol : ss.length = out.length:=by rw [hss,List.length_map]
          have hcore : zi7 rc out:=by rw [hout2,Hsays.out];exact zbz.done (by omega) Hfr.out (by rw [← Hsays.out];exact HI.out)
          have Hcore:=hid hcore;have Hout:=hid hout;have Hbe:=hid hbe;have Hss:=hid hss;have Hol:=hid hol
          clear hcore hout hbe hss hbi hbw3 hrow hfin hol hout2 hlt
          have hwo : w.heap.size ≤ wo.heap.size:=Nat.le_trans Hws.out Hbw.out.size
          go_wp2_with fail
          go_ret2
          refine ⟨.inl ⟨ao,co,out,by rw [← Hol.out];rfl,?_,by rw [← Hrc.out];exact Hcore.out⟩,Hbe.out⟩
          rw [← Hol.out,← Hss.out]
          exact zh.less Hout.out hwo
       | succ q =>
        rw [show (((q + 1 : Nat) : Int) - 1) = (q : Int) by omega]
        have hqn : (q : Int) < (NL : Int):=by omega
        have hqs : q < says.length:=by rw [← HNL.out];omega
        obtain ⟨_,_,hrow,_⟩:=HX.out wo hbw
        obtain ⟨g,rfl,hg,_⟩:=zh.at hrow (by rw [List.length_map];omega)
        have hc:=zh.cell (enc:=yA) (z:=1) (fun _ => rfl) hrow (k:=q) (by rw [List.length_map];exact hqs) (j:=0) (by decide) rfl
        rw [Nat.mul_one,Nat.add_zero,List.getElem_map] at hc
        have hx:=Hslt.out says[q] (List.getElem_mem hqs)
        have hkeep:=fun hs => zbz.keep hI hqs hs
        have hdrop:=fun hs => zbz.drop Hfr.out (by rw [Hsays.out];exact zf2 ls _) hI hqs hs
        have hSx:=hI.all q hqs (by omega)
        obtain ⟨x,hxe⟩ : ∃ x,x = says[q]:=⟨_,rfl⟩
        rw [← hxe] at hc hx hkeep hdrop hSx
        have HSx:=hid hSx
        obtain ⟨d1,d2,d3⟩:=hr.cell hx
        have hxi : (x : Int) < 100:=by omega
        obtain ⟨wd,hwd⟩ : ∃ wd,wd = wo.setCell ⟨w3.heap.size,x,none⟩ (.bool false):=⟨_,rfl⟩
        have hrd : zZ wd w3.heap.size 100 (fun i => S i && decide (i ≠ x)):=by rw [hwd];exact (hr.set hx false).congr (fun i _ => by by_cases e : i = x <;> simp [e])
        obtain ⟨T,hT⟩ : ∃ T : Nat → Bool,T = fun i => S i && decide (i ≠ x):=⟨_,rfl⟩
        rw [← hT] at hrd hkeep hdrop
        have HT:=hid hT;clear hT
        have hbd : Below w3.heap.size w3 wd:=by rw [hwd];exact hbw.setCell (p:=⟨w3.heap.size,x,none⟩) (znr _) _
        have hbox : wd.heap[w1.heap.size]? = some (.cells #[.int .i64 m,.slice a1 L c1,.slice a2 L c2] 27 (0,0)):=(HX.out wd hbd).1
        have Hr:=hid hrd;have Hbw:=hid hbd;have Hrow:=hid hrow;have Hkeep:=hid hkeep;have Hdrop:=hid hdrop;have Hxs:=hid (show ∀ w',Below w3.heap.size w3 w' → w'.cell? ⟨g,q,none⟩ = some (.int .i64 (x : Nat)) from fun w' hw => by
         have hrow':=(HX.out w' hw).2.2.1
         have hc':=zh.cell (enc:=yA) (z:=1) (fun _ => rfl) hrow' (k:=q) (by rw [List.length_map];exact hqs) (j:=0) (by decide) rfl
         rw [Nat.mul_one,Nat.add_zero,List.getElem_map,← hxe] at hc'
         exact hc')
        clear hr hI hbw hrow hrd hbd hbox hkeep hdrop hxe hqs hSx
        go_upto_region 20 with fail
        rw [← hwd]
        clear hwd hc d1 d2 d3
        have HQ:=hid (And.intro hqn (And.intro hxi (And.intro hx hj)))
        clear hqn hxi hx hj hg hsl1 hsl2
        go_cut [13,12] from 66 to 74 (fun ev pv wz => ∃ (blk : Nat) (holds : Bool) (vals : Nat) (a8 : Option Addr) (n8 c8 : Nat),ev = .nilIface ∧ pv = .pointer (some ⟨blk,0,none⟩) ∧ wz.heap[blk]? = some (.cells #[.bool holds,.int .u64 vals,.slice a8 n8 c8] 56 (0,0)) ∧ Below wd.heap.size wd wz ∧ (holds = true ↔ zaK rc T))
        case first =>
         obtain ⟨hbx,hrul,_,_⟩:=HX.out wd Hbw.out
         have HO:=hid (show ∀ w',Below wd.heap.size wd w' → Calls Tryz.prog 140 #[.agg #[.int .i64 m,.slice a1 L c1,.slice a2 L c2],.slice (some ⟨w3.heap.size,0,none⟩) 100 100] w' fun e w'' => (∃ vo,e = .returned vo ∧ jc w'' w'.heap.size vo (xS rc (jw 100 T))) ∧ Below w'.heap.size w' w'' from fun w' hw => zga w.heap.size (m : Nat) _ _ _ rc _ w' (hrul.below hw) ((Hr.out.below hw).bools (by omega)) (by have:=Hs.out.len;omega) Hs.out.frm)
         have HK:=hid (show ∀ w',Below wd.heap.size wd w' → w'.cell? ⟨w1.heap.size,0,none⟩ = some (.int .i64 m) ∧ w'.cell? ⟨w1.heap.size,1,none⟩ = some (.slice a1 L c1) ∧ w'.cell? ⟨w1.heap.size,2,none⟩ = some (.slice a2 L c2) from fun w' hw => yN ((hw.block _ (zlb hbx)).trans hbx))
         have HB:=hid ((Below.refl wd.heap.size wd).drew)
         have HBd:=hid (fun o => ((Below.refl wd.heap.size wd).alloc (znr _) o).drew)
         have KS:=HK.out _ HB.out
         have hlx:=zlb hbx
         clear hbx hrul
         go_region_held3 (fun w' => w'.cell? ⟨w1.heap.size,0,none⟩ = some (.int .i64 m) ∧ w'.cell? ⟨w1.heap.size,1,none⟩ = some (.slice a1 L c1) ∧ w'.cell? ⟨w1.heap.size,2,none⟩ = some (.slice a2 L c2)) (first | (with_reducible exact KS) | (with_reducible refine kS3 ?_ KS;omega) | (with_reducible refine kS3 ?_ KS;have:=HB.out.size;omega) | (with_reducible refine kSAd ?_ KS;omega) | (with_reducible refine kSA ?_ KS;have:=HB.out.size;omega) | go_keep)
          (first
           | (go_at_call 140;(refine (HO.out _ (by first | (with_reducible exact HB.out) | (with_reducible exact HBd.out _))).mono ?_);rintro e w7 ⟨⟨v7,rfl,h7⟩,hb7⟩;obtain ⟨x7,y7,rfl,_,_⟩:=h7.shape;have HSo:=hid (show ∀ w',Below w7.heap.size w7 w' → _ from fun w' hw => zdm Hs.out (h7.below hw));have hB7 : Below wd.heap.size wd w7:=(by first | (with_reducible exact HB.out.trans (hb7.mono HB.out.size)) | (with_reducible exact (HBd.out _).trans (hb7.mono (HBd.out _).size)));have hs7:=hB7.size;(try (have hx7 : w7.heap[wd.heap.size]? = some (.cells #[.bool false,.int .u64 0,.slice none 0 0] 56 (0,0)):=(hb7.block _ (by simp)).trans (za (by simp));have HX7:=hid hx7;clear hx7));clear h7 hb7 KS HB;have HB:=hid hB7;clear hB7;have KS:=HK.out _ HB.out)
           | (go_at_call 21;(refine (HSo.out _ (by first | (with_reducible exact Below.refl _ _) | (with_reducible exact zba))).mono ?_);rintro e w8 ⟨⟨holds,vals,a8,n8,c8,rfl,h8⟩,hb8⟩;have H8:=hid h8;have hB8 : Below wd.heap.size wd w8:=(by first | (with_reducible exact HB.out.trans (hb8.mono HB.out.size)) | (with_reducible exact (HB.out.alloc HB.out.size _).trans (hb8.mono (HB.out.alloc HB.out.size _).size)));(first | (have hx8:=(hb8.block _ (zlb HX7.out)).trans HX7.out) | (have hx8 : w8.heap[w7.heap.size]? = some (.cells #[.bool false,.int .u64 0,.slice none 0 0] 56 (0,0)):=(hb8.block _ (by simp)).trans (za rfl)) | skip);(try (obtain ⟨g0,g1,g2⟩:=zfp hx8;obtain ⟨z0,z1,z2⟩:=yN hx8;have l8:=zlb hx8;have HX8:=hid hx8;clear hx8));clear h8 hb8 KS HB;have HB:=hid hB8;clear hB8;have KS:=HK.out _ HB.out))
         ·
          go_wp2_with fail;go_meet
          case rel => exact ⟨w8.heap.size,holds,vals,a8,n8,c8,rfl,rfl,za rfl,HB.out.alloc HB.out.size _,H8.out⟩
         ·
          go_wp2_with fail;go_meet
          case rel => exact ⟨w7.heap.size,holds,vals,a8,n8,c8,rfl,rfl,zbj HX8.out _ _ _,HB.out.trans (yI (w:=w8) (show wd.heap.size ≤ w7.heap.size by omega) _ _ _),H8.out⟩
         ·
          go_wp2_with fail;go_meet
          case rel => exact ⟨wd.heap.size,holds,vals,a8,n8,c8,rfl,rfl,zbj HX8.out _ _ _,HB.out.trans (yI (w:=w8) (znr wd.heap.size) _ _ _),H8.out⟩
        case rest =>
         obtain ⟨blk,holds,vals,a8,n8,c8,rfl,rfl,hkz,hbz,hsat⟩:=hcut
         obtain ⟨wz,rfl⟩ : ∃ y,y = wc:=⟨_,rfl⟩
         obtain ⟨q0,_,_⟩:=yN hkz
         obtain ⟨hqn,hxi,hx,hj⟩:=HQ.out
         have hbw3:=Hbw.out.trans (hbz.mono Hbw.out.size)
         have hc:=Hxs.out wz hbw3
         obtain ⟨d1,d2,d3⟩:=(Hr.out.below hbz).cell hx
         have Hbz:=hid hbw3;have Hrz:=hid (Hr.out.below hbz);have Hsat:=hid hsat
         clear hkz hbz hsat hbw3
         cases holds with
         | true =>
          have hI9:=Hkeep.out (Hsat.out.1 rfl)
          have HI9:=hid hI9;clear hI9
          go_wp2_with fail
          go_roundg q
          case measure => omega
          case rel => exact ⟨q,S,by omega,rfl,by go_num,(Hrz.out.set hx true).congr (fun i _ => by rw [HT.out];by_cases e : i = x <;> simp [e,HSx.out]),HI9.out,Hbz.out.setCell (p:=⟨w3.heap.size,x,none⟩) (znr _) _⟩
         | false =>
          have hI9:=Hdrop.out (fun q => (Bool.false_ne_true (Hsat.out.2 q)))
          have HI9:=hid hI9;clear hI9
          go_wp2_with fail
          go_roundg q
          case measure => omega
          case rel => exact ⟨q,_,by omega,rfl,by go_num,Hrz.out,HI9.out,Hbz.out⟩
 ·
  obtain ⟨w2,hw2⟩ : ∃ w2,w2 = w1.alloc (.cells #[.int .i64 0,.slice none 0 0,.slice none 0 0] 27):=⟨_,rfl⟩
  have HB2:=hid (show Below w.heap.size w w2 by rw [hw2];exact hb1.alloc hb1.size _)
  have Hr:=hid hr
  clear hb1 hr HO1 HSv
  go_upto_region 2 with fail
  rw [← hw2]
  clear hw2
  go_wp2_with fail
  go_ret2
  exact ⟨.inr (.inr ⟨rfl,Hr.out⟩),HB2.out⟩
