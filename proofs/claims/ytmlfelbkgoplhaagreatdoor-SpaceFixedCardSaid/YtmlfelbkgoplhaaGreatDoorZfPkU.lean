import Derived.Test.YtmlfelbkgoplhaaGreatDoorZfPkO
import Derived.Test.YtmlfelbkgoplhaaGreatDoorZfPkW
import Derived.Deep.RegionHeld3
import Derived.Deep.OwnRows
import Derived.Deep.CutRange
set_option linter.unusedVariables false
set_option linter.unusedSimpArgs false
namespace Go.Proofs.YtmlfelbkgoplhaaGreatDoor
open Go.RowKit
def zkw (ls : List zm) (i : Nat) : Int:=match ls[i]? with | some x => x.kind | none => 1
def zew (ls : List zm) (n : Nat) : List Nat:=(List.range n).filter fun i => decide (zkw ls i ≠ 1)
theorem zjZ {ls : List zm} {i : Nat} (h : i < ls.length) : zkw ls i = ls[i].kind:=by unfold zkw;rw [List.getElem?_eq_getElem h]
theorem zpF {ls : List zm} {n i : Nat} (h : i ∈ zew ls n) : i < n:=List.mem_range.1 (List.mem_filter.1 h).1
theorem znb (ls : List zm) (n : Nat) : (zew ls n).Pairwise (· < ·):=List.pairwise_lt_range.filter _
def zaQ (n : Nat) (S : Nat → Bool) : List Bool:=(List.range n).map S
theorem zbr (n : Nat) (S : Nat → Bool) : (zaQ n S).length = n:=by unfold zaQ;simp
theorem zfx {n : Nat} {S : Nat → Bool} {i : Nat} (h : i < n) : (zaQ n S).getD i false = S i:=by unfold zaQ;simp [h]
theorem zls {n : Nat} {S : Nat → Bool} {k : Int} (h : -1 ≤ k) (h2 : k < n) : zlx (zaQ n S) k = (decide (k < 0) || S k.toNat):=by
 unfold zlx
 rw [zbr]
 by_cases h0 : k < 0
 · simp [h0]
 · rw [decide_eq_false h0,decide_eq_true h2,zfx (by omega)];simp
def zhW (rc : List (Int × List Int)) (S : Nat → Bool) : Prop:=∃ v,j6 v (za9 rc (zaQ 100 S)) = true
def zcz (l : List (List Int)) : Prop:=∃ v,j6 v l = true
theorem zfS {v : Nat} {l : List (List Int)} : j6 v l = true ↔ ∀ c ∈ l,clB v c = true:=by unfold j6;rw [List.all_eq_true]
theorem zfl {rc : List (Int × List Int)} {some : List Bool} {c : List Int} : c ∈ za9 rc some ↔ ∃ p ∈ rc,zlx some p.1 = true ∧ p.2 = c:=by
 unfold za9
 constructor
 ·
  intro h
  obtain ⟨p,hp,rfl⟩:=List.mem_map.1 h
  exact ⟨p,(List.mem_filter.1 hp).1,(List.mem_filter.1 hp).2,rfl⟩
 ·
  rintro ⟨p,hp,h1,rfl⟩
  exact List.mem_map.2 ⟨p,List.mem_filter.2 ⟨hp,h1⟩,rfl⟩
theorem zhW.less {rc : List (Int × List Int)} {S S' : Nat → Bool} (hf : ∀ p ∈ rc,-1 ≤ p.1 ∧ p.1 < 100) (h : zhW rc S) (hs : ∀ i,i < 100 → S' i = true → S i = true) : zhW rc S':=by
 obtain ⟨v,hv⟩:=h
 refine ⟨v,zfS.2 fun c hc => ?_⟩
 obtain ⟨p,hp,hw,rfl⟩:=zfl.1 hc
 refine zfS.1 hv _ (zfl.2 ⟨p,hp,?_,rfl⟩)
 have hb:=hf p hp
 rw [zls hb.1 hb.2] at hw ⊢
 by_cases h0 : p.1 < 0
 · simp [h0]
 ·
  rw [decide_eq_false h0,Bool.false_or] at hw ⊢
  exact hs _ (by omega) hw
structure zrr (rc : List (Int × List Int)) (out : List Nat) : Prop where
 inc : out.Pairwise (· < ·)
 lt : ∀ i ∈ out,i < 100
 no : ¬ zhW rc (fun i => decide (i ∈ out))
 yes : ∀ x ∈ out,zhW rc (fun i => decide (i ∈ out ∧ i ≠ x))
structure zeK (rc : List (Int × List Int)) (says : List Nat) (S : Nat → Bool) (j : Nat) : Prop where
 inn : ∀ i,S i = true → i ∈ says
 no : ¬ zhW rc S
 all : ∀ t (h : t < says.length),t < j → S says[t] = true
 tried : ∀ t (h : t < says.length),j ≤ t → S says[t] = true → zhW rc (fun i => S i && decide (i ≠ says[t]))
theorem zeK.keep {rc : List (Int × List Int)} {says : List Nat} {S : Nat → Bool} {j : Nat} (h : zeK rc says S (j + 1)) (hj : j < says.length) (hs : zhW rc (fun i => S i && decide (i ≠ says[j]))) : zeK rc says S j :=
 ⟨h.inn,h.no,fun t ht hjt => h.all t ht (by omega),fun t ht hjt hS => by
  rcases Nat.lt_or_ge j t with q | q
  · exact h.tried t ht q hS
  ·
   have : t = j:=by omega
   subst this;exact hs⟩
theorem zeK.drop {rc : List (Int × List Int)} {says : List Nat} {S : Nat → Bool} {j : Nat} (hf : ∀ p ∈ rc,-1 ≤ p.1 ∧ p.1 < 100) (hd : says.Pairwise (· < ·)) (h : zeK rc says S (j + 1)) (hj : j < says.length) (hs : ¬ zhW rc (fun i => S i && decide (i ≠ says[j]))) : zeK rc says (fun i => S i && decide (i ≠ says[j])) j :=
 ⟨fun i hi => h.inn i (by simp only [Bool.and_eq_true] at hi;exact hi.1),hs,fun t ht hjt => by
  have h1:=h.all t ht (by omega)
  have h2:=List.pairwise_iff_getElem.1 hd t j ht hj hjt
  simp only [h1,Bool.true_and,decide_eq_true_eq]
  omega,fun t ht hjt hS => by
  simp only [Bool.and_eq_true,decide_eq_true_eq] at hS
  rcases Nat.lt_or_ge j t with q | q
  ·
   refine (h.tried t ht q hS.1).less hf (fun i _ hi => ?_)
   simp only [Bool.and_eq_true,decide_eq_true_eq] at hi ⊢
   exact ⟨hi.1.1,hi.2⟩
  ·
   have : t = j:=by omega
   subst this
   exact absurd rfl hS.2⟩
theorem zeK.done {rc : List (Int × List Int)} {ls : List zm} {n : Nat} (hn : n ≤ 100) (hf : ∀ p ∈ rc,-1 ≤ p.1 ∧ p.1 < 100) {S : Nat → Bool} (h : zeK rc (zew ls n) S 0) : zrr rc ((zew ls n).filter S):=by
 have hm : ∀ i,i ∈ (zew ls n).filter S ↔ S i = true:=fun i => by
  rw [List.mem_filter]
  exact ⟨fun q => q.2,fun q => ⟨h.inn i q,q⟩⟩
 refine ⟨(znb ls n).filter _,fun i hi => by have:=zpF (List.mem_filter.1 hi).1;omega,fun q => h.no (q.less hf (fun i _ hi => by rw [decide_eq_true_iff,hm];exact hi)),fun x hx => ?_⟩
 obtain ⟨hx1,hx2⟩:=List.mem_filter.1 hx
 obtain ⟨t,ht,rfl⟩:=List.getElem_of_mem hx1
 refine (h.tried t ht (znz _) hx2).less hf (fun i _ hi => ?_)
 rw [decide_eq_true_iff,hm] at hi
 simp only [Bool.and_eq_true,decide_eq_true_eq]
 exact hi
theorem znk {ls : List zm} {items : List zA} (hn : ls.length ≤ 100) : za9 (zJ ls items) (zaQ 100 (fun i => decide (i ∈ zew ls ls.length))) = yB (zJ ls items):=by
 unfold za9 yB
 congr 1
 refine List.filter_eq_self.2 fun p hp => ?_
 have hb:=zeS hp
 rw [zls (by omega) (by omega)]
 rcases List.mem_append.1 hp with h | h
 · rw [zf3 h];rfl
 ·
  obtain ⟨k,hk,h⟩:=zbd.1 h
  have he:=zgi h
  rw [Nat.zero_add] at he h
  have : k ∈ zew ls ls.length:=by
   unfold zew
   refine List.mem_filter.2 ⟨List.mem_range.2 hk,?_⟩
   rw [decide_eq_true_iff,zjZ hk]
   intro e
   unfold qZ at h
   rw [if_neg (by omega),if_neg (by omega),if_neg (by omega)] at h
   cases h
  rw [he,Int.toNat_natCast,decide_eq_true this];simp
theorem zi7 {m : Int} {l ls : List (List Int)} (hz : ∀ d ∈ l,qY d) (h : ∀ i (h : i < ls.length),Rup m (l ++ ls.take i) ls[i]) (hl : ls.getLast? = some []) {v : Nat} (hv : j6 v l = true) : False:=by
 have hzz : ∀ d ∈ l ++ ls,qY d:=fun d hd => by
  rcases List.mem_append.1 hd with q | q
  · exact hz d q
  ·
   obtain ⟨i,hi,rfl⟩:=List.getElem_of_mem q
   exact fun x hx => (qg (h i hi).1 hx).1
 have key : ∀ i,i ≤ ls.length → j6 v (l ++ ls.take i) = true:=by
  intro i
  induction i with
  | zero => intro _;simpa using hv
  | succ i ih =>
   intro hi
   have h1:=ih (by omega)
   have h2:=(h i (by omega)).sound (fun d hd => hzz d (by
    rcases List.mem_append.1 hd with q | q
    · simp [q]
    · simp [List.mem_of_mem_take q])) h1
   rw [List.take_succ_eq_append_getElem (by omega),← List.append_assoc]
   unfold j6 at h1 ⊢
   rw [List.all_append,h1]
   simpa using h2
 have h1:=key ls.length (znr _)
 rw [List.take_length] at h1
 have hm : ([] : List Int) ∈ ls:=List.mem_of_getLast? hl
 have:=zfS.1 h1 [] (List.mem_append_right _ hm)
 cases this
theorem zlZ {m : Int} {l : List (List Int)} (h : Good m l) : ∀ d ∈ l,qY d:=fun d hd x hx => (qg (h.2.2.2 d hd).2 hx).1
theorem zjM (m : Int) (vl : Value) (l : List (List Int)) (w : World) (hl : xw w vl l) (hg : Good m l) (hf : ziQ m l) :
 Calls Tryz.prog 21 #[.int .i64 m,vl] w fun e w' => (∃ (holds : Bool) (vals : Nat) (a : Option Addr) (n c : Nat),e = .returned (.tuple #[.agg #[.bool holds,.int .u64 vals,.slice a n c],.nilIface]) ∧ (holds = true ↔ zcz l)) ∧ Below w.heap.size w w':=by
 refine (zlC m vl l w hl).mono ?_
 rintro e w' ⟨⟨holds,vals,vp,err,rfl,hv,hs⟩,hb⟩
 obtain rfl:=hs.small hg hf
 refine ⟨?_,hb⟩
 cases holds with
 | true =>
  obtain ⟨rfl,h1,_⟩:=hs.yes hg rfl rfl
  exact ⟨true,vals,none,0,0,rfl,fun _ => ⟨vals,h1⟩,fun _ => rfl⟩
 | false =>
  obtain ⟨_,ls,h1,_,h2,h3,_⟩:=hs.no hg rfl rfl
  obtain ⟨a,c,rfl,_⟩:=h1.shape
  exact ⟨false,vals,a,_,c,rfl,fun h => (by cases h),fun ⟨v,hv⟩ => (zi7 (zlZ hg) h2 h3 hv).elim⟩
theorem zfz {ls : List zm} {items : List zA} (ho : zbu ls items) (hr : (zJ ls items).length ≤ 200) (some : List Bool) : Good (items.length : Nat) (za9 (zJ ls items) some):=by
 have hn : items.length ≤ 24:=by rw [ho.perm.length_eq];exact ho.most
 refine ⟨by omega,by omega,?_,fun c hc => ?_⟩
 ·
  have:=znw (rc:=zJ ls items) (some:=some)
  rw [yB,List.length_map] at this
  omega
 ·
  obtain ⟨p,hp,_,rfl⟩:=zfl.1 hc
  obtain ⟨h1,h2⟩:=jX ho p hp
  exact ⟨by omega,zaN (fun x hx => by have:=h2 x hx;omega)⟩
def yQ (w : World) (p n : Nat) (S : Nat → Bool) : Prop:=∃ cur : Array Value,w.heap[p]? = some (.cells cur 4 (0,0)) ∧ cur.size = n ∧ ∀ j,j < n → cur[j]? = some (.bool (S j))
theorem yQ.made {w : World} {p n : Nat} (h : w.heap[p]? = some (.cells (madeCells #[.bool false] n) 4 (0,0))) : yQ w p n (fun _ => false) :=
 ⟨_,h,by rw [size_madeCells],fun j hj => by rw [← Array.getElem?_toList,toList_madeCells_one];simp [hj]⟩
theorem yQ.set {w : World} {p n : Nat} {S : Nat → Bool} (h : yQ w p n S) {k : Nat} (hk : k < n) (b : Bool) : yQ (w.setCell ⟨p,k,none⟩ (.bool b)) p n (fun i => if i = k then b else S i):=by
 obtain ⟨cur,h1,h2,h3⟩:=h
 refine ⟨_,heap_set h1 k _,by simp [h2],fun j hj => ?_⟩
 rw [Array.getElem?_setIfInBounds]
 by_cases e : k = j
 · subst e;rw [if_pos rfl,if_pos (by omega)];simp
 ·
  rw [if_neg e]
  show cur[j]? = some (.bool (if j = k then b else S j))
  rw [if_neg (fun q => e q.symm)];exact h3 j hj
theorem yQ.cell {w : World} {p n : Nat} {S : Nat → Bool} (h : yQ w p n S) {j : Nat} (hj : j < n) : w.cell? ⟨p,j,none⟩ = some (.bool (S j)) ∧ w.frozen? ⟨p,j,none⟩ = false ∧ p < w.heap.size:=by
 obtain ⟨cur,h1,h2,h3⟩:=h
 exact ⟨by rw [cell_of_row _ _ _ _ _ _ h1];exact h3 j hj,by simp [World.frozen?,h1],zlb h1⟩
theorem yQ.lt {w : World} {p n : Nat} {S : Nat → Bool} (h : yQ w p n S) : p < w.heap.size:=by
 obtain ⟨cur,h1,_⟩:=h
 exact zlb h1
theorem yQ.block {w w' : World} {p n : Nat} {S : Nat → Bool} (h : yQ w p n S) (hb : w'.heap[p]? = w.heap[p]?) : yQ w' p n S:=by
 obtain ⟨cur,h1,h2⟩:=h
 exact ⟨cur,hb.trans h1,h2⟩
theorem yQ.below {w w' : World} {p n : Nat} {S : Nat → Bool} (h : yQ w p n S) (hb : Below w.heap.size w w') : yQ w' p n S:=h.block (hb.block _ h.lt)
theorem yQ.congr {w : World} {p n : Nat} {S S' : Nat → Bool} (h : yQ w p n S) (e : ∀ i,i < n → S i = S' i) : yQ w p n S':=by
 obtain ⟨cur,h1,h2,h3⟩:=h
 exact ⟨cur,h1,h2,fun j hj => by rw [← e j hj];exact h3 j hj⟩
theorem yQ.bools {w : World} {p n : Nat} {S : Nat → Bool} (h : yQ w p n S) (hn : n ≤ 1000) : zax w (.slice (some ⟨p,0,none⟩) n n) (zaQ n S):=by
 have hc:=fun j hj => (h.cell (j:=j) hj).1
 refine ⟨_,p,0,n,by rw [zbr],fun _ => rfl,by rw [zbr];exact znr _,by unfold maxLen;omega,fun i hi => ?_,fun _ => h.lt⟩
 rw [zbr] at hi
 rw [Nat.zero_add,hc i hi,zfx hi]
structure Solv (m : Nat) (rc : List (Int × List Int)) : Prop where
 good : ∀ S,Good (m : Nat) (za9 rc (zaQ 100 S))
 few : ∀ S,ziQ (m : Nat) (za9 rc (zaQ 100 S))
 frm : ∀ p ∈ rc,-1 ≤ p.1 ∧ p.1 ≤ 1000
 len : rc.length ≤ 200
theorem zfR {ls : List zm} {items : List zA} (ho : zbu ls items) (hr : (zJ ls items).length ≤ 200) (h12 : items.length ≤ 12) : Solv items.length (zJ ls items) :=
 ⟨fun S => zfz ho hr _,fun S => zkk ho h12 _,fun p hp => by have:=zeS hp;have:=ho.few;omega,hr⟩
theorem zhm {ls : List zm} {items : List zA} (hl : ls.length ≤ 100) (h : Solv items.length (zJ ls items)) : Good (items.length : Nat) (yB (zJ ls items)) ∧ ziQ (items.length : Nat) (yB (zJ ls items)):=by
 rw [← znk hl]
 exact ⟨h.good _,h.few _⟩
theorem zeC {w : World} {base : Nat} {vc vf : Value} {rc : List (Int × List Int)} (h : kM w base vc vf rc) : zak w base vc (yB rc):=by
 obtain ⟨vs,h1,h2,_⟩:=h
 exact ⟨vs,h1,h2⟩
theorem zir {ls : List zm} {items : List zA} (ho : zbu ls items) : (∀ c ∈ yB (zJ ls items),c.length ≤ 100000) ∧ Within 1000 (yB (zJ ls items)):=by
 have hn : items.length ≤ 24:=by rw [ho.perm.length_eq];exact ho.most
 refine ⟨fun c hc => ?_,fun c hc x hx => ?_⟩
 ·
  obtain ⟨p,hp,rfl⟩:=List.mem_map.1 hc
  have:=(jX ho p hp).1
  omega
 ·
  obtain ⟨p,hp,rfl⟩:=List.mem_map.1 hc
  have:=(jX ho p hp).2 x hx
  omega
