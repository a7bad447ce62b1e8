import Derived.Test.YtmlfelbkgoplhaaGreatDoorZfU
import Derived.RowKit
import Derived.Test.YtmlfelbkgoplhaaGreatDoorRows
import Derived.Below
import Derived.Laws.Rows
import Derived.Lib.Hide
import Derived.WalkKit
import Derived.WalkSpells
import Derived.WalkLawsBesides
import Derived.Deep.LoopGhost
import Derived.BigQuiet
import Derived.Deep.QuietTactic
import Derived.BigRegion
import Derived.OneCell
import Derived.Laws.Tables
import Derived.Laws.CopyRow
import Derived.Outline
import Derived.Test.YtmlfelbkgoplhaaGreatDoorShelfS
import Derived.Laws.AppendOwn
set_option linter.unusedVariables false
namespace Go.Proofs.YtmlfelbkgoplhaaGreatDoor
abbrev Spn:=Int × Int
def zU : Int:=1000000000
def inS (n : Int) (s : Spn) : Prop:=s.1 ≤ n ∧ n < s.2
def inL (l : List Spn) (n : Int) : Prop:=∃ s ∈ l,inS n s
theorem zbt (n : Int) : ¬ inL [] n:=by rintro ⟨s,h,_⟩;cases h
theorem yV {s : Spn} {l : List Spn} {n : Int} : inL (s :: l) n ↔ inS n s ∨ inL l n:=by
 constructor
 ·
  rintro ⟨t,h,ht⟩
  rcases List.mem_cons.1 h with rfl | h
  · exact .inl ht
  · exact .inr ⟨t,h,ht⟩
 ·
  rintro (h | ⟨t,h,ht⟩)
  · exact ⟨s,List.mem_cons_self ..,h⟩
  · exact ⟨t,List.mem_cons_of_mem _ h,ht⟩
theorem zal {a b : List Spn} {n : Int} : inL (a ++ b) n ↔ inL a n ∨ inL b n:=by
 constructor
 ·
  rintro ⟨t,h,ht⟩
  rcases List.mem_append.1 h with h | h
  · exact .inl ⟨t,h,ht⟩
  · exact .inr ⟨t,h,ht⟩
 ·
  rintro (⟨t,h,ht⟩ | ⟨t,h,ht⟩)
  · exact ⟨t,List.mem_append_left _ h,ht⟩
  · exact ⟨t,List.mem_append_right _ h,ht⟩
theorem qG {s : Spn} {n : Int} : inL [s] n ↔ inS n s:=by rw [yV];exact ⟨fun h => h.elim id (fun h => absurd h (zbt n)),.inl⟩
theorem znv {a b : List Spn} (h : ∀ s,s ∈ a ↔ s ∈ b) (n : Int) : inL a n ↔ inL b n :=
 ⟨fun ⟨s,hs,hn⟩ => ⟨s,(h s).1 hs,hn⟩,fun ⟨s,hs,hn⟩ => ⟨s,(h s).2 hs,hn⟩⟩
def zat (s : Spn) : Prop:=0 ≤ s.1 ∧ s.1 < s.2 ∧ s.2 ≤ zU
structure Canon (l : List Spn) : Prop where
 ok : ∀ s ∈ l,zat s
 ord : l.Pairwise (fun a b => a.2 < b.1)
theorem Canon.nil : Canon []:=⟨fun s h => (by cases h),List.Pairwise.nil⟩
theorem Canon.any : Canon [(0,zU)]:=⟨fun s h => by rw [List.mem_singleton.1 h];unfold zat zU;omega,List.pairwise_singleton _ _⟩
theorem Canon.tail {s : Spn} {l : List Spn} (h : Canon (s :: l)) : Canon l:=⟨fun t ht => h.ok t (List.mem_cons_of_mem _ ht),(List.pairwise_cons.1 h.ord).2⟩
theorem Canon.zdp {s : Spn} {l : List Spn} (h : Canon (s :: l)) {n : Int} (hn : inL l n) : s.2 < n:=by
 obtain ⟨t,ht,h1,h2⟩:=hn
 have:=(List.pairwise_cons.1 h.ord).1 t ht
 omega
theorem Canon.bound {l : List Spn} (h : Canon l) {n : Int} (hn : inL l n) : 0 ≤ n ∧ n < zU:=by
 obtain ⟨t,ht,h1,h2⟩:=hn
 have:=h.ok t ht
 unfold zat at this;omega
theorem Canon.ext : ∀ {a b : List Spn},Canon a → Canon b → (∀ n,inL a n ↔ inL b n) → a = b
 | [],[],_,_,_ => rfl
 | [],t :: b,_,hb,h => by
  have:=hb.ok t (List.mem_cons_self ..)
  exact absurd ((h t.1).2 (yV.2 (.inl ⟨Int.le_refl _,this.2.1⟩))) (zbt _)
 | s :: a,[],ha,_,h => by
  have:=ha.ok s (List.mem_cons_self ..)
  exact absurd ((h s.1).1 (yV.2 (.inl ⟨Int.le_refl _,this.2.1⟩))) (zbt _)
 | s :: a,t :: b,ha,hb,h => by
  have ws:=(ha.ok s (List.mem_cons_self ..)).2.1
  have wt:=(hb.ok t (List.mem_cons_self ..)).2.1
  have low : ∀ {u : Spn} {l : List Spn} {n : Int},Canon (u :: l) → inL (u :: l) n → u.1 ≤ n:=fun {u l n} hc hn => by
   have wu:=(hc.ok u (List.mem_cons_self ..)).2.1
   rcases yV.1 hn with h1 | h1
   · exact h1.1
   · have:=hc.zdp h1;omega
  have e1 : s.1 = t.1:=by
   have h1:=low hb ((h s.1).1 (yV.2 (.inl ⟨Int.le_refl _,ws⟩)))
   have h2:=low ha ((h t.1).2 (yV.2 (.inl ⟨Int.le_refl _,wt⟩)))
   omega
  have hi : ∀ {u : Spn} {l : List Spn},Canon (u :: l) → ¬ inL (u :: l) u.2:=fun {u l} hc hn => by
   rcases yV.1 hn with h1 | h1
   · have:=h1.2;omega
   · have:=hc.zdp h1;omega
  have e2 : s.2 = t.2:=by
   rcases Int.lt_trichotomy s.2 t.2 with h1 | h1 | h1
   · exact absurd ((h s.2).2 (yV.2 (.inl ⟨by omega,h1⟩))) (hi ha)
   · exact h1
   · exact absurd ((h t.2).1 (yV.2 (.inl ⟨by omega,h1⟩))) (hi hb)
  have e : s = t:=Prod.ext e1 e2
  subst e
  rw [Canon.ext ha.tail hb.tail (fun n => ?_)]
  constructor
  ·
   intro hn
   have h1:=ha.zdp hn
   rcases yV.1 ((h n).1 (yV.2 (.inr hn))) with h2 | h2
   · have:=h2.2;omega
   · exact h2
  ·
   intro hn
   have h1:=hb.zdp hn
   rcases yV.1 ((h n).2 (yV.2 (.inr hn))) with h2 | h2
   · have:=h2.2;omega
   · exact h2
structure Join (done out : List Spn) : Prop where
 can : Canon out
 same : ∀ n,inL out n ↔ inL done n
 last : ∀ s ∈ out,∃ t ∈ done,s.1 = t.1
theorem Join.nil : Join [] []:=⟨Canon.nil,fun n => Iff.rfl,fun s h => (by cases h)⟩
theorem zbl {out : List Spn} {s : Spn} : Canon (out ++ [s]) ↔ Canon out ∧ zat s ∧ ∀ t ∈ out,t.2 < s.1:=by
 constructor
 ·
  intro h
  obtain ⟨h1,_,h3⟩:=List.pairwise_append.1 h.ord
  exact ⟨⟨fun t ht => h.ok t (List.mem_append_left _ ht),h1⟩,h.ok s (by simp),fun t ht => h3 t ht s (by simp)⟩
 ·
  rintro ⟨h1,h2,h3⟩
  refine ⟨fun t ht => ?_,List.pairwise_append.2 ⟨h1.ord,List.pairwise_singleton _ _,fun a ha b hb => by rw [List.mem_singleton.1 hb];exact h3 a ha⟩⟩
  rcases List.mem_append.1 ht with h | h
  · exact h1.ok t h
  · rw [List.mem_singleton.1 h];exact h2
theorem zo2 {out : List Spn} {t : Spn} (h : Canon (out ++ [t])) : ∀ s ∈ out,s.2 < t.1:=(zbl.1 h).2.2
theorem Join.push {done out : List Spn} {s : Spn} (h : Join done out) (hw : zat s) (hs : ∀ t ∈ out,t.2 < s.1) : Join (done ++ [s]) (out ++ [s]):=by
 refine ⟨zbl.2 ⟨h.can,hw,hs⟩,fun n => ?_,fun t ht => ?_⟩
 · rw [zal,zal,h.same]
 ·
  rcases List.mem_append.1 ht with h1 | h1
  ·
   obtain ⟨u,hu,e⟩:=h.last t h1
   exact ⟨u,List.mem_append_left _ hu,e⟩
  · exact ⟨s,by simp,by rw [List.mem_singleton.1 h1]⟩
theorem Join.grow {done out : List Spn} {t s : Spn} (h : Join done (out ++ [t])) (hw : zat s) (hts : t.1 ≤ s.1) (hle : s.1 ≤ t.2) : Join (done ++ [s]) (out ++ [(t.1,max t.2 s.2)]):=by
 obtain ⟨h1,h2,h3⟩:=zbl.1 h.can
 unfold zat at hw h2
 refine ⟨zbl.2 ⟨h1,?_,h3⟩,fun n => ?_,fun u hu => ?_⟩
 · unfold zat;simp only;omega
 ·
  have hn:=h.same n
  rw [zal,qG] at hn ⊢
  rw [zal,qG,← hn]
  unfold inS
  simp only
  constructor
  ·
   rintro (q | q)
   · exact .inl (.inl q)
   ·
    by_cases q2 : n < t.2
    · exact .inl (.inr ⟨q.1,q2⟩)
    · exact .inr (by omega)
  ·
   rintro ((q | q) | q)
   · exact .inl q
   · exact .inr (by omega)
   · exact .inr (by omega)
 ·
  rcases List.mem_append.1 hu with q | q
  ·
   obtain ⟨x,hx,e⟩:=h.last u (List.mem_append_left _ q)
   exact ⟨x,List.mem_append_left _ hx,e⟩
  ·
   obtain ⟨x,hx,e⟩:=h.last t (by simp)
   exact ⟨x,List.mem_append_left _ hx,by rw [List.mem_singleton.1 q];exact e⟩
theorem Join.ahead {done out : List Spn} {t s : Spn} (h : Join done (out ++ [t])) (hs : ∀ u ∈ done,u.1 ≤ s.1) : t.1 ≤ s.1:=by
 obtain ⟨x,hx,e⟩:=h.last t (by simp)
 rw [e];exact hs x hx
def zjn (l r : List Spn) : Prop:=Canon r ∧ ∀ n,inL r n ↔ inL l n
def zb4 (at_ : Int) : List Spn → List Spn
 | [] => []
 | s :: l => (at_,s.1) :: zb4 s.2 l
def zc2 (at_ : Int) (l : List Spn) : Int:=(l.getLast?.map (·.2)).getD at_
theorem zdY (at_ : Int) (s : Spn) (l : List Spn) : zc2 at_ (s :: l) = zc2 s.2 l:=by
 unfold zc2
 cases l with
 | nil => rfl
 | cons t l =>
  rw [List.getLast?_cons_cons]
  simp [List.getLast?_eq_some_getLast (List.cons_ne_nil t l)]
theorem zgZ (at_ : Int) : ∀ (l : List Spn) (s : Spn),zb4 at_ (l ++ [s]) = zb4 at_ l ++ [(zc2 at_ l,s.1)]
 | [],s => rfl
 | t :: l,s => by
  show (at_,t.1) :: zb4 t.2 (l ++ [s]) = _
  rw [zgZ t.2 l s,zdY];rfl
theorem zpj (at_ : Int) (l : List Spn) (s : Spn) : zc2 at_ (l ++ [s]) = s.2:=by unfold zc2;simp
theorem ziX : ∀ {at_ : Int} {l : List Spn},Canon l → (∀ s ∈ l,at_ ≤ s.1) → ∀ n,n < zU → (inL (zb4 at_ l ++ [(zc2 at_ l,zU)]) n ↔ at_ ≤ n ∧ ¬ inL l n)
 | at_,[],_,_,n,hp => by
  show inL [(at_,zU)] n ↔ _
  rw [qG]
  exact ⟨fun h => ⟨h.1,zbt n⟩,fun h => ⟨h.1,hp⟩⟩
 | at_,s :: l,hc,hat,n,hp => by
  have w:=hc.ok s (List.mem_cons_self ..)
  have h0:=hat s (List.mem_cons_self ..)
  have ih:=ziX hc.tail (fun t ht => by have:=(List.pairwise_cons.1 hc.ord).1 t ht;omega : ∀ t ∈ l,s.2 ≤ t.1) n hp
  rw [zdY]
  show inL ((at_,s.1) :: (zb4 s.2 l ++ [(zc2 s.2 l,zU)])) n ↔ _
  rw [yV,ih,yV]
  unfold zat at w
  unfold inS
  simp only
  constructor
  ·
   rintro (q | ⟨q1,q2⟩)
   ·
    refine ⟨q.1,?_⟩
    rintro (q3 | q3)
    · omega
    · have:=hc.zdp q3;omega
   ·
    refine ⟨by omega,?_⟩
    rintro (q3 | q3)
    · omega
    · exact q2 q3
  ·
   rintro ⟨q1,q2⟩
   by_cases q3 : n < s.1
   · exact .inl ⟨q1,q3⟩
   ·
    refine .inr ⟨?_,fun q4 => q2 (.inr q4)⟩
    apply Classical.byContradiction
    intro q5
    exact q2 (.inl ⟨by omega,by omega⟩)
def Fits (s : Spn) : Prop:=s.1 < s.2 → 0 ≤ s.1 ∧ s.2 ≤ zU
theorem zim : ∀ {at_ : Int} {l : List Spn},0 ≤ at_ → Canon l → ∀ s ∈ zb4 at_ l ++ [(zc2 at_ l,zU)],Fits s
 | at_,[],h0,_,s,hs => by
  rw [show zb4 at_ [] ++ [(zc2 at_ [],zU)] = [(at_,zU)] from rfl] at hs
  rw [List.mem_singleton.1 hs]
  exact fun _ => ⟨h0,Int.le_refl _⟩
 | at_,t :: l,h0,hc,s,hs => by
  have w:=hc.ok t (List.mem_cons_self ..)
  unfold zat at w
  rw [zdY] at hs
  rcases List.mem_cons.1 (show s ∈ (at_,t.1) :: (zb4 t.2 l ++ [(zc2 t.2 l,zU)]) from hs) with rfl | h
  · exact fun _ => ⟨h0,by simp only;omega⟩
  · exact zim (by omega) hc.tail s h
def zfH (a r : List Spn) : Prop:=Canon r ∧ ∀ n,inL r n ↔ (0 ≤ n ∧ n < zU) ∧ ¬ inL a n
def OrR (a b r : List Spn) : Prop:=Canon r ∧ ∀ n,inL r n ↔ inL a n ∨ inL b n
def zo9 (a b r : List Spn) : Prop:=Canon r ∧ ∀ n,inL r n ↔ inL a n ∧ inL b n
theorem zfH.zdn {a r : List Spn} (ha : Canon a) (h : zjn (zb4 0 a ++ [(zc2 0 a,zU)]) r) : zfH a r:=by
 refine ⟨h.1,fun n => ?_⟩
 by_cases hp : n < zU
 ·
  rw [h.2,ziX ha (fun s hs => (ha.ok s hs).1) n hp]
  exact ⟨fun q => ⟨⟨q.1,hp⟩,q.2⟩,fun q => ⟨q.1.1,q.2⟩⟩
 · exact ⟨fun q => absurd (h.1.bound q).2 hp,fun q => absurd q.1.2 hp⟩
theorem OrR.zdn {a b r : List Spn} (h : zjn (a ++ b) r) : OrR a b r:=⟨h.1,fun n => by rw [h.2,zal]⟩
theorem zo9.of {a b na nb o r : List Spn} (ha : Canon a) (hb : Canon b) (h1 : zfH a na) (h2 : zfH b nb) (h3 : OrR na nb o) (h4 : zfH o r) : zo9 a b r:=by
 refine ⟨h4.1,fun n => ?_⟩
 rw [h4.2,h3.2,h1.2,h2.2]
 constructor
 ·
  rintro ⟨q1,q2⟩
  exact ⟨Classical.byContradiction fun q => q2 (.inl ⟨q1,q⟩),Classical.byContradiction fun q => q2 (.inr ⟨q1,q⟩)⟩
 ·
  rintro ⟨q1,q2⟩
  exact ⟨ha.bound q1,fun q => q.elim (fun q => q.2 q1) (fun q => q.2 q2)⟩
theorem zfH.eq {a b x y : List Spn} (h1 : zfH a x) (h2 : zfH b y) (h : ∀ n,0 ≤ n ∧ n < zU → (inL a n ↔ inL b n)) : x = y :=
 Canon.ext h1.1 h2.1 (fun n => by
  rw [h1.2,h2.2]
  constructor
  · rintro ⟨q,q2⟩;exact ⟨q,fun q3 => q2 ((h n q).2 q3)⟩
  · rintro ⟨q,q2⟩;exact ⟨q,fun q3 => q2 ((h n q).1 q3)⟩)
open Go.RowKit
theorem zct (w : World) (o : Obj) (k : Nat) : (w.alloc o).heap[k]? = if k = w.heap.size then some o else w.heap[k]?:=by
 show (w.heap.push o)[k]? = _
 rw [Array.getElem?_push]
theorem zy (w : World) (o : Obj) : (w.alloc o).heap.size = w.heap.size + 1:=by
 show (w.heap.push o).size = _
 rw [Array.size_push]
theorem za {w : World} {o : Obj} {k : Nat} (h : k = w.heap.size) : (w.alloc o).heap[k]? = some o:=by rw [zct,if_pos h]
theorem zh {w : World} {o x : Obj} {k : Nat} (h : w.heap[k]? = some x) : (w.alloc o).heap[k]? = some x:=by
 rw [zct,if_neg (by have:=(Array.getElem?_eq_some_iff.1 h).1;omega)];exact h
theorem below_drewN {B : Nat} {a w : World} (h : Below B a w) (n : Nat) : Below B a (w.drewN n):=⟨h.os,h.tape,h.output,h.size,h.block⟩
structure xW (g : Nat) (w w' : World) : Prop where
 os : w'.os = w.os
 tape : w'.tape = w.tape
 output : w'.output = w.output
 size : w.heap.size ≤ w'.heap.size
 block : ∀ k,k < w.heap.size → k ≠ g → w'.heap[k]? = w.heap[k]?
theorem xW.refl (g : Nat) (w : World) : xW g w w:=⟨rfl,rfl,rfl,znr _,fun _ _ _ => rfl⟩
theorem xW.trans {g : Nat} {w w1 w2 : World} (h : xW g w w1) (h2 : xW g w1 w2) : xW g w w2:=⟨h2.os.trans h.os,h2.tape.trans h.tape,h2.output.trans h.output,Nat.le_trans h.size h2.size,fun k h1 hn => (h2.block k (Nat.lt_of_lt_of_le h1 h.size) hn).trans (h.block k h1 hn)⟩
theorem xW.of_below {g : Nat} {w w1 : World} (h : Below w.heap.size w w1) : xW g w w1:=⟨h.os,h.tape,h.output,h.size,fun k hk _ => h.block k hk⟩
theorem xW.set {g : Nat} {w w1 : World} (h : xW g w w1) (j : Nat) (u : Value) : xW g w (w1.setCell ⟨g,j,none⟩ u):=⟨h.os,h.tape,h.output,by simpa using h.size,fun k h1 hn => (zhc _ _ _ _ hn).trans (h.block k h1 hn)⟩
theorem xW.drew {g : Nat} {w w1 : World} (h : xW g w w1) (n : Nat) : xW g w (w1.drewN n):=⟨h.os,h.tape,h.output,h.size,h.block⟩
theorem xW.below {g B : Nat} {w w1 : World} (h : xW g w w1) (hB : B ≤ g) (hB2 : B ≤ w.heap.size) : Below B w w1:=⟨h.os,h.tape,h.output,h.size,fun k hk => h.block k (by omega) (by omega)⟩
def xE (w : World) (g cap n : Nat) (f : Nat → Spn) : Prop:=∃ cur : Array Value,w.heap[g]? = some (.cells cur 226 (0,0)) ∧ n ≤ cap ∧ cur.size = cap * 2 ∧ ∀ k,k < n → cur[k * 2]? = some (.int .i64 (f k).1) ∧ cur[k * 2 + 1]? = some (.int .i64 (f k).2)
theorem xE.cell1 {w : World} {g cap n : Nat} {f : Nat → Spn} (h : xE w g cap n f) {k : Nat} (hk : k < n) : w.cell? ⟨g,k * 2,none⟩ = some (.int .i64 (f k).1):=by
 obtain ⟨cur,h1,_,_,h2⟩:=h;rw [cell_of_row w g _ cur _ _ h1];exact (h2 k hk).1
theorem xE.zeH {w : World} {g cap n : Nat} {f : Nat → Spn} (h : xE w g cap n f) {k : Nat} (hk : k < n) : w.cell? ⟨g,k * 2 + 1,none⟩ = some (.int .i64 (f k).2):=by
 obtain ⟨cur,h1,_,_,h2⟩:=h;rw [cell_of_row w g _ cur _ _ h1];exact (h2 k hk).2
theorem xE.free {w : World} {g cap n : Nat} {f : Nat → Spn} (h : xE w g cap n f) (k : Nat) : w.frozen? ⟨g,k,none⟩ = false:=by
 obtain ⟨cur,h1,_⟩:=h;simp [World.frozen?,h1]
theorem xE.lt {w : World} {g cap n : Nat} {f : Nat → Spn} (h : xE w g cap n f) : g < w.heap.size:=by
 obtain ⟨cur,h1,_⟩:=h;exact (Array.getElem?_eq_some_iff.1 h1).1
theorem xE.cap {w : World} {g cap n : Nat} {f : Nat → Spn} (h : xE w g cap n f) : n ≤ cap:=by obtain ⟨_,_,h2,_⟩:=h;exact h2
theorem xE.drew {w : World} {g cap n : Nat} {f : Nat → Spn} (h : xE w g cap n f) (m : Nat) : xE (w.drewN m) g cap n f:=h
theorem xE.less {w : World} {g cap n m : Nat} {f : Nat → Spn} (h : xE w g cap n f) (hm : m ≤ n) : xE w g cap m f:=by
 obtain ⟨cur,h1,h2,h3,h4⟩:=h;exact ⟨cur,h1,by omega,h3,fun k hk => h4 k (by omega)⟩
theorem xE.keep {w w' : World} {g cap n : Nat} {f : Nat → Spn} (h : xE w g cap n f) (hb : w'.heap[g]? = w.heap[g]?) : xE w' g cap n f:=by
 obtain ⟨cur,h1,h2⟩:=h;exact ⟨cur,hb.trans h1,h2⟩
theorem xE.same {w : World} {g cap n : Nat} {f f' : Nat → Spn} (h : xE w g cap n f) (e : ∀ k,k < n → f k = f' k) : xE w g cap n f':=by
 obtain ⟨cur,h1,h2,h3,h4⟩:=h;exact ⟨cur,h1,h2,h3,fun k hk => by rw [← e k hk];exact h4 k hk⟩
theorem heap_set {w : World} {g : Nat} {cur : Array Value} {T : TypeId} (h1 : w.heap[g]? = some (.cells cur T (0,0))) (j : Nat) (u : Value) : (w.setCell ⟨g,j,none⟩ u).heap[g]? = some (.cells (cur.setIfInBounds j u) T (0,0)):=by
 have hlt:=(Array.getElem?_eq_some_iff.1 h1).1
 have h' : w.heap[g] = .cells cur T (0,0):=(Array.getElem?_eq_some_iff.1 h1).2
 show (w.heap.modify g _)[g]? = _
 rw [Array.getElem?_eq_getElem (by simpa using hlt),Array.getElem_modify_self,h']
 rfl
theorem xE.set {w : World} {g cap n : Nat} {f : Nat → Spn} (h : xE w g cap n f) (j : Nat) (s : Spn) : xE ((w.setCell ⟨g,j * 2,none⟩ (.int .i64 s.1)).setCell ⟨g,j * 2 + 1,none⟩ (.int .i64 s.2)) g cap n (fun k => if k = j then s else f k):=by
 obtain ⟨cur,h1,h2,h3,h4⟩:=h
 refine ⟨_,heap_set (heap_set h1 _ _) _ _,h2,by simp [h3],fun k hk => ?_⟩
 dsimp only
 by_cases e : k = j
 ·
  subst e
  rw [if_pos rfl]
  refine ⟨?_,?_⟩
  · rw [Array.getElem?_setIfInBounds_ne (by omega),Array.getElem?_setIfInBounds_self_of_lt (by omega)]
  · rw [Array.getElem?_setIfInBounds_self_of_lt (by simp;omega)]
 ·
  rw [if_neg e]
  refine ⟨?_,?_⟩
  · rw [Array.getElem?_setIfInBounds_ne (by omega),Array.getElem?_setIfInBounds_ne (by omega)];exact (h4 k hk).1
  · rw [Array.getElem?_setIfInBounds_ne (by omega),Array.getElem?_setIfInBounds_ne (by omega)];exact (h4 k hk).2
def spL (n : Nat) (f : Nat → Spn) : List Spn:=(List.range n).map f
theorem zdD {n : Nat} {f : Nat → Spn} {s : Spn} : s ∈ spL n f ↔ ∃ k,k < n ∧ f k = s:=by
 unfold spL;rw [List.mem_map]
 constructor
 · rintro ⟨k,h,e⟩;exact ⟨k,List.mem_range.1 h,e⟩
 · rintro ⟨k,h,e⟩;exact ⟨k,List.mem_range.2 h,e⟩
theorem za2 (n : Nat) (f : Nat → Spn) : spL (n + 1) f = spL n f ++ [f n]:=by unfold spL;rw [List.range_succ,List.map_append];rfl
theorem xJ (n : Nat) (f : Nat → Spn) : (spL n f).length = n:=by simp [spL]
theorem zaA : Tryz.prog.underlying 73 = some (.slice 226):=by kernel_rfl
theorem xE.setRow {w : World} {g cap n i : Nat} {f : Nat → Spn} {vs : List Value} (h : xE w g cap n f) (hi : i ≤ n) (hl : i * 2 + vs.length = n * 2) (cur : Array Value) (hg : w.heap[g]? = some (.cells cur 226 (0,0))) : xE (w.setRow g (cur.toList.take (i * 2 + 0) ++ vs ++ cur.toList.drop (i * 2 + 0 + vs.length)).toArray) g cap i f:=by
 obtain ⟨cur2,h1,h2,h3,h4⟩:=h
 rw [hg] at h1
 cases h1
 refine ⟨_,setRow_heap w g cur _ _ _ hg,by omega,?_,fun k hk => ?_⟩
 · simp;omega
 ·
  have h5:=h4 k (by omega)
  rw [List.append_assoc]
  refine ⟨?_,?_⟩
  ·
   rw [List.getElem?_toArray,List.getElem?_append_left (by simp;omega),List.getElem?_take_of_lt (by omega)]
   simpa using h5.1
  ·
   rw [List.getElem?_toArray,List.getElem?_append_left (by simp;omega),List.getElem?_take_of_lt (by omega)]
   simpa using h5.2
theorem zc4 {w : World} {ops : Array Oper} {rest : List Oper} {o : Oper} {a : Act} {Q : Exit → Act → World → Prop} (hgd : o.guard = none) (x : Operand)
 (ho : o.op = .call { callee:=.builtin .clear,args:=#[x],argTypes:=#[73] }) {g n i m c cap : Nat} {f : Nat → Spn} (hx : a.eval x = .slice (some ⟨g,i * 2,none⟩) m c) (hr : xE w g cap n f) (hm : m = n - i) (hi : i < n)
 (hK : ∀ w2,xE w2 g cap i f → xW g w w2 → wpList Tryz.prog ops Q rest (a.put o.dst (.tuple #[])) w2) : wpList Tryz.prog ops Q (o :: rest) a w:=by
 refine wpList_plain hgd fun K hK' => ?_
 obtain ⟨q,rfl⟩ : ∃ q,m = q + 1:=⟨m - 1,by omega⟩
 obtain ⟨cur,hg,h2,h3,h4⟩:=id hr
 have hzl : (Builtin.zeroCells #[.int .i64 0,.int .i64 0] (q + 1)).toList.length = (q + 1) * 2:=by simp [Builtin.zeroCells]
 have hz1 : ∀ v ∈ (Builtin.zeroCells #[.int .i64 0,.int .i64 0] (q + 1)).toList,v.oneCell' = true:=by
  intro v hv
  unfold Builtin.zeroCells at hv
  simp only [Array.toList_map,List.mem_map] at hv
  obtain ⟨j,_,rfl⟩:=hv
  have hj : j % 2 = 0 ∨ j % 2 = 1:=by omega
  rcases hj with e | e
  · simp [e];rfl
  · simp [e];rfl
 have hst:=run_storeCells_at (P:=Tryz.prog) g (i * 2) 226 (Builtin.zeroCells #[.int .i64 0,.int .i64 0] (q + 1)).toList 0 cur w hg (by rw [hzl];omega) hz1
 have hrun : (Builtin.clear_ #[73] o.type #[.slice (some ⟨g,i * 2,none⟩) (q + 1) c]).run Tryz.prog w = .ok (.tuple #[]) (w.setRow g (cur.toList.take (i * 2 + 0) ++ (Builtin.zeroCells #[.int .i64 0,.int .i64 0] (q + 1)).toList ++ cur.toList.drop (i * 2 + 0 + (Builtin.zeroCells #[.int .i64 0,.int .i64 0] (q + 1)).toList.length)).toArray):=by
  have hcc : (Value.agg #[.int .i64 0,.int .i64 0]).cells = #[.int .i64 0,.int .i64 0]:=rfl
  simp [Builtin.clear_,Sem.run_bind,run_underlying zaA,hcc,hst]
 have hn:=hr.setRow (Nat.le_of_lt hi) (vs:=(Builtin.zeroCells #[.int .i64 0,.int .i64 0] (q + 1)).toList) (by rw [hzl];omega) cur hg
 have hon : xW g w (w.setRow g (cur.toList.take (i * 2 + 0) ++ (Builtin.zeroCells #[.int .i64 0,.int .i64 0] (q + 1)).toList ++ cur.toList.drop (i * 2 + 0 + (Builtin.zeroCells #[.int .i64 0,.int .i64 0] (q + 1)).toList.length)).toArray):=⟨rfl,rfl,rfl,by simp,fun k hk hne => setRow_other w g k _ hne⟩
 unfold Oper.wp execOp
 simp only [ho,resolve,invoke,builtin,Sem.run_bind,Sem.run_pure,Result.andThen_ok,List.map_toArray,List.map_cons,List.map_nil,hx,hrun]
 exact hK' _ _ (hK _ hn hon)
structure zaS (p : Spn → Bool) (f0 : Nat → Spn) (n i j : Nat) (f : Nat → Spn) : Prop where
 le : i ≤ j
 lj : j ≤ n
 kept : spL i f = (spL j f0).filter (fun s => !p s)
 rest : ∀ x,j ≤ x → x < n → f x = f0 x
theorem zht {n : Nat} {f g : Nat → Spn} (h : ∀ k,k < n → f k = g k) : spL n f = spL n g:=by
 unfold spL;exact List.map_congr_left (fun k hk => h k (List.mem_range.1 hk))
theorem zaS.start {p : Spn → Bool} {f : Nat → Spn} {n : Nat} : ∀ k,k ≤ n → (∀ x,x < k → p (f x) = false) → zaS p f n k k f:=fun k hk h =>
 ⟨znr _,hk,by rw [List.filter_eq_self.2];intro s hs;obtain ⟨x,hx,rfl⟩:=zdD.1 hs;simp [h x hx],fun _ _ _ => rfl⟩
theorem zaS.drop {p : Spn → Bool} {f0 f : Nat → Spn} {n i j : Nat} (h : zaS p f0 n i j f) (hj : j < n) (hp : p (f0 j) = true) : zaS p f0 n i (j + 1) f :=
 ⟨by have:=h.le;omega,hj,by rw [h.kept,za2,List.filter_append];simp [hp],fun x h1 h2 => h.rest x (by omega) h2⟩
theorem zaS.keep {p : Spn → Bool} {f0 f : Nat → Spn} {n i j : Nat} (h : zaS p f0 n i j f) (hj : j < n) (hp : p (f0 j) = false) : zaS p f0 n (i + 1) (j + 1) (fun k => if k = i then f0 j else f k):=by
 have h1:=h.le
 refine ⟨by omega,hj,?_,fun x h1 h2 => by rw [if_neg (by omega)];exact h.rest x (by omega) h2⟩
 rw [za2,za2,List.filter_append,← h.kept,if_pos rfl]
 rw [zht (g:=f) (fun k hk => by rw [if_neg (by omega)])]
 simp [hp]
theorem zaS.lt {p : Spn → Bool} {f0 f : Nat → Spn} {n i j k : Nat} (h : zaS p f0 n i j f) (hk : k < j) (hp : p (f0 k) = true) : i < j:=by
 have e:=congrArg List.length h.kept
 rw [xJ] at e
 rw [e]
 have h2 : ((spL j f0).filter (fun s => !p s)).length < (spL j f0).length:=List.length_filter_lt_length_iff_exists.2 ⟨f0 k,zdD.2 ⟨k,hk,rfl⟩,by simp [hp]⟩
 rwa [xJ] at h2
def pS (s : Spn) : Bool:=decide (s.2 ≤ s.1)
set_option maxHeartbeats 1000000 in
theorem zgE (a b : Int) (w : World) : Calls Tryz.prog 220 #[.agg #[.int .i64 a,.int .i64 b]] w fun e w' => e = .returned (.bool (pS (a,b))) ∧ Below w.heap.size w w':=by
 have hb : Below w.heap.size w (w.alloc (.cells #[.int .i64 a,.int .i64 b] 226)):=zba
 have Hb:=hid hb;clear hb
 go_enter Tryz.func220,Tryz.ntmps220
 go_wp2_with fail
 go_ret
 exact ⟨rfl,Hb.out⟩
set_option maxRecDepth 100000 in
set_option maxHeartbeats 4000000 in
theorem zkr (g cap n : Nat) (f : Nat → Spn) (w : World) (h : xE w g cap n f) (hn : n ≤ 1000000) :
 Calls Tryz.prog 229 #[.slice (some ⟨g,0,none⟩) n cap,.func (.func 220) #[] #[]] w fun e w' =>
  (∃ r : Int,e = .returned (.int .i64 r) ∧ ((r = -1 ∧ ∀ k,k < n → pS (f k) = false) ∨ ∃ k : Nat,k < n ∧ r = k ∧ pS (f k) = true ∧ ∀ j,j < k → pS (f j) = false)) ∧ Below w.heap.size w w':=by
 have H:=hid h;clear h
 go_enter Tryz.func229,Tryz.ntmps229
 go_wp2_with fail
 go_loopg [8] n (fun gk i wr => ∃ k : Nat,k ≤ n ∧ gk = n - k ∧ i = .int .i64 k ∧ Below w.heap.size w wr ∧ ∀ j,j < k → pS (f j) = false)
 case atStart => exact ⟨0,znz _,rfl,rfl,Below.refl _ _,fun j h => absurd h (Nat.not_lt_zero _)⟩
 case round =>
  obtain ⟨k,hk,rfl,rfl,hb,hno⟩:=hrel
  have Hb:=hid hb;have Hno:=hid hno;clear hb hno
  have hr:=H.out.keep (Hb.out.block g H.out.lt)
  by_cases hlt : k < n
  ·
   have c1:=hr.cell1 hlt;have c2:=hr.zeH hlt
   have hp:=zgE (f k).1 (f k).2 wr
   obtain ⟨a,b⟩ : ∃ s,s = f k:=⟨_,rfl⟩
   generalize hs : f k = s at c1 c2 hp
   have Hp:=hid hp;have Hs:=hid hs
   clear hr hp hs
   go_wp2_with fail
   refine Hp.out.mono ?_
   rintro e w9 ⟨rfl,hb9⟩
   have Hb9:=hid (Hb.out.trans (hb9.mono Hb.out.size))
   clear hb9 Hp
   cases hps : pS (s.1,s.2) with
   | true =>
    have Hps:=hid hps;clear hps
    go_wp2_with fail
    go_ret
    exact ⟨⟨_,rfl,.inr ⟨k,hlt,rfl,by rw [Hs.out];exact Hps.out,Hno.out⟩⟩,Hb9.out⟩
   | false =>
    have Hps:=hid hps;clear hps
    go_wp2_with fail
    go_roundg (n - (k + 1))
    case measure => omega
    case rel => exact ⟨k + 1,by omega,rfl,by go_num,Hb9.out,fun j hj => by
     by_cases e : j = k
     · subst e;rw [Hs.out];exact Hps.out
     · exact Hno.out j (by omega)⟩
  ·
   obtain rfl : k = n:=by omega
   clear hr
   go_wp2_with fail
   go_ret
   exact ⟨⟨_,rfl,.inl ⟨rfl,Hno.out⟩⟩,Hb.out⟩
set_option maxRecDepth 100000 in
set_option maxHeartbeats 8000000 in
theorem zid (g cap n : Nat) (f : Nat → Spn) (w : World) (h : xE w g cap n f) (hn : n ≤ 1000000) (hcap : cap ≤ 9223372036854775807) :
 Calls Tryz.prog 219 #[.slice (some ⟨g,0,none⟩) n cap,.func (.func 220) #[] #[]] w fun e w' =>
  ∃ (i : Nat) (f' : Nat → Spn),e = .returned (.slice (some ⟨g,0,none⟩) i cap) ∧ i ≤ n ∧ xE w' g cap i f' ∧ spL i f' = (spL n f).filter (fun s => !pS s) ∧ xW g w w':=by
 have hi:=zkr g cap n f w h hn
 have hnc:=h.cap
 have H:=hid h;have Hi:=hid hi;clear h hi
 go_enter Tryz.func219,Tryz.ntmps219
 go_wp2_with fail
 refine Hi.out.mono ?_
 rintro e w1 ⟨⟨r,rfl,hr⟩,hb1⟩
 have Hb1:=hid hb1;clear hb1 Hi
 rcases hr with ⟨rfl,hall⟩ | ⟨k0,hk0,rfl,hp0,hbef⟩
 ·
  have Hall:=hid hall;clear hall
  go_wp2_with fail
  go_ret
  exact ⟨n,f,rfl,znr _,H.out.keep (Hb1.out.block g H.out.lt),(zaS.start n (znr _) Hall.out).kept,xW.of_below Hb1.out⟩
 ·
  have hne : ((k0 : Int) == -1) = false:=by rw [beq_eq_false_iff_ne];omega
  have Hp0:=hid hp0
  have Hst:=hid ((zaS.start k0 (Nat.le_of_lt hk0) hbef).drop hk0 hp0)
  clear hp0 hbef
  go_wp2_with fail
  go_loopg [5,6] (n - (k0 + 1)) (fun gk i j wr => ∃ (i' j' : Nat) (fr : Nat → Spn),gk = n - j' ∧ i = .int .i64 i' ∧ j = .int .i64 j' ∧ k0 < j' ∧ zaS pS f n i' j' fr ∧ xE wr g cap n fr ∧ xW g w wr)
  case atStart => exact ⟨k0,k0 + 1,f,rfl,rfl,by go_num,Nat.lt_succ_self _,Hst.out,H.out.keep (Hb1.out.block g H.out.lt),xW.of_below Hb1.out⟩
  case round =>
   clear Hst Hb1
   obtain ⟨i,j,fr,rfl,rfl,rfl,hkj,hki,hrow,hon⟩:=hrel
   obtain ⟨wo,rfl⟩ : ∃ y,y = wr:=⟨_,rfl⟩
   have hij:=hki.lt hkj Hp0.out
   have hjn:=hki.lj
   by_cases hlt : j < n
   ·
    have c1:=hrow.cell1 hlt;have c2:=hrow.zeH hlt
    have hfj:=hki.rest j (znr _) hlt
    have hkeep:=hki.keep hlt;have hdrop:=hki.drop hlt
    rw [hfj] at c1 c2
    generalize hs : f j = s at c1 c2 hkeep hdrop
    have hal : Below wo.heap.size wo (wo.alloc (.cells #[.int .i64 s.1,.int .i64 s.2] 226)):=zba
    have hblk : (wo.alloc (.cells #[.int .i64 s.1,.int .i64 s.2] 226)).heap[wo.heap.size]? = some (.cells #[.int .i64 s.1,.int .i64 s.2] 226 (0,0)):=za rfl
    have Hp:=hid (zgE s.1 s.2 (wo.alloc (.cells #[.int .i64 s.1,.int .i64 s.2] 226)))
    have Hrow:=hid hrow;have Hon:=hid hon;have Hkeep:=hid hkeep;have Hdrop:=hid hdrop;have Hal:=hid hal;have Hblk:=hid hblk
    clear hrow hon hkeep hdrop hal hblk hki hfj hs
    go_wp2_with fail
    refine Hp.out.mono ?_
    rintro e w9 ⟨rfl,hb9⟩
    have hblk9:=(hb9.block _ (by simp)).trans Hblk.out
    have hb9':=Hal.out.trans (hb9.mono Hal.out.size)
    have hr9:=Hrow.out.keep (hb9'.block g Hrow.out.lt)
    have hon9:=Hon.out.trans (xW.of_below hb9')
    have d1 : w9.cell? ⟨wo.heap.size,0,none⟩ = some (.int .i64 s.1):=by rw [cell_of_row _ _ _ _ _ _ hblk9];rfl
    have d2 : w9.cell? ⟨wo.heap.size,1,none⟩ = some (.int .i64 s.2):=by rw [cell_of_row _ _ _ _ _ _ hblk9];rfl
    have Hr9:=hid hr9;have Hon9:=hid hon9
    clear hb9 hblk9 hb9' hr9 hon9 Hp Hal Hblk Hrow Hon
    cases hps : pS (s.1,s.2) with
    | true =>
     have Hnx:=hid (Hdrop.out hps)
     clear hps Hkeep Hdrop
     go_wp2_with fail
     go_roundg (n - (j + 1))
     case measure => omega
     case rel => exact ⟨i,j + 1,fr,rfl,rfl,by go_num,by omega,Hnx.out,Hr9.out,Hon9.out⟩
    | false =>
     have Hnx:=hid (Hkeep.out hps)
     have e1:=Hr9.out.cell1 (show i < n by omega);have e2:=Hr9.out.zeH (show i < n by omega)
     have e3:=Hr9.out.free (i * 2);have e4:=Hr9.out.free (i * 2 + 1)
     have hset:=Hr9.out.set i s
     have Hset:=hid hset
     clear hps Hkeep Hdrop hset
     go_wp2_with fail
     go_roundg (n - (j + 1))
     case measure => omega
     case rel => exact ⟨i + 1,j + 1,_,rfl,by go_num,by go_num,by omega,Hnx.out,Hset.out,(Hon9.out.set _ _).set _ _⟩
   ·
    obtain rfl : j = n:=by omega
    have Hki:=hid hki;have Hrow:=hid hrow;have Hon:=hid hon
    clear hki hrow hon
    go_wp2_with (show wpList _ _ _ (Oper.mk none (.call { callee:=.builtin .clear,.. }) _ _ _ _ :: _) _ _;refine zc4 rfl (.tmp 38) rfl (g:=g) (i:=i) (m:=j - i) rfl Hrow.out rfl hij ?_)
    intro w9 hr9 ho9
    have Hr9:=hid hr9;have Ho9:=hid ho9
    clear hr9 ho9
    go_wp2_with fail
    go_ret
    exact ⟨i,fr,rfl,by omega,Hr9.out,Hki.out.kept,Hon.out.trans Ho9.out⟩
def encS (x : Spn) : List Value:=[.int .i64 x.1,.int .i64 x.2]
def cfS (x y : Spn) : Int:=Lib.compareInt x.1 y.1
theorem ltS (x y : Spn) : ltOf cfS x y = decide (x.1 < y.1):=by
 unfold ltOf cfS Lib.compareInt
 by_cases h : x.1 < y.1
 · simp [h]
 ·
  by_cases h2 : y.1 < x.1
  · simp [h,h2]
  · simp [h,h2]
theorem swoS : Sort.SWO (ltOf cfS) where
 irrefl x:=by rw [ltS];simp
 trans x y z h1 h2:=by rw [ltS] at *;simp at *;omega
 ntrans x y z h1 h2:=by rw [ltS] at *;simp at *;omega
theorem zrn : ∀ w,(isAgg 226).run Tryz.prog w = .ok true w:=fun w => by kernel_rfl
theorem zpT : ∀ w,(Go.sizeOf 226).run Tryz.prog w = .ok 2 w:=fun w => by kernel_rfl
set_option maxHeartbeats 1000000 in
theorem kN (x y : Int) (w : World) : Calls Tryz.prog 81 #[.int .i64 x,.int .i64 y] w fun e w' => e = .returned (.int .i64 (Lib.compareInt x y)) ∧ w' = w:=by
 go_enter Tryz.func81,Tryz.ntmps81
 go_wp2
 all_goals (go_ret;refine ⟨?_,rfl⟩;unfold Lib.compareInt;(repeat' split) <;> first | rfl | (exfalso;omega))
set_option maxHeartbeats 1000000 in
theorem zmV (x y : Spn) (W : World) : Calls Tryz.prog 222 #[.agg #[.int .i64 x.1,.int .i64 x.2],.agg #[.int .i64 y.1,.int .i64 y.2]] W fun e w' => e = .returned (.int .i64 (Lib.compareInt x.1 y.1)) ∧ ∃ q os',w' = Sort.grow (W.drewN q) os':=by
 have hcon:=fun W' => kN x.1 y.1 W'
 generalize Lib.compareInt x.1 y.1 = r at hcon ⊢
 go_enter Tryz.func222,Tryz.ntmps222
 go_wp2_with (go_at_call 81;refine (hcon _).mono ?_;rintro e w' ⟨rfl,rfl⟩)
 go_ret
 exact ⟨rfl,0,_,by rw [Sort.alloc_eq_grow,Sort.alloc_eq_grow,Sort.grow_grow];rfl⟩
theorem zoM (blk off size : Nat) (w : World) : CmpLays Tryz.prog 222 #[] encS 2 cfS blk off size w:=fun _ _ _ _ x y => zmV x y _
theorem zpR {n : Nat} {f : Nat → Spn} {i : Nat} (h : i < n) : (spL n f).toArray[i]! = f i:=by
 rw [getElem!_pos _ i (by simp [xJ];exact h)];simp [spL]
theorem zot {w : World} {g cap n : Nat} {f : Nat → Spn} (h : xE w g cap n f) : Sort.HoldsK encS 2 w g 0 (spL n f).toArray:=by
 intro j hj
 rw [Sort.size_flatK] at hj
 have hn : (spL n f).toArray.size = n:=by simp [xJ]
 rw [hn] at hj
 rw [Sort.get_flatK _ _ _ _ (by rw [hn];exact hj),zpR (by omega)]
 refine ⟨?_,h.free _⟩
 have h2 : j % 2 = 0 ∨ j % 2 = 1:=by omega
 rcases h2 with e | e
 ·
  have:=h.cell1 (k:=j / 2) (by omega)
  rw [show j / 2 * 2 = 0 + j by omega] at this
  rw [this,e];rfl
 ·
  have:=h.zeH (k:=j / 2) (by omega)
  rw [show j / 2 * 2 + 1 = 0 + j by omega] at this
  rw [this,e];rfl
structure zmx (w : World) (g n : Nat) (f : Nat → Spn) : Prop where
 c1 : ∀ k,k < n → w.cell? ⟨g,k * 2,none⟩ = some (.int .i64 (f k).1)
 c2 : ∀ k,k < n → w.cell? ⟨g,k * 2 + 1,none⟩ = some (.int .i64 (f k).2)
 lt : g < w.heap.size
theorem xE.read {w : World} {g cap n : Nat} {f : Nat → Spn} (h : xE w g cap n f) : zmx w g n f:=⟨fun k hk => h.cell1 hk,fun k hk => h.zeH hk,h.lt⟩
theorem zmx.keep {w w' : World} {g n : Nat} {f : Nat → Spn} (h : zmx w g n f) (hb : w'.heap[g]? = w.heap[g]?) : zmx w' g n f :=
 ⟨fun k hk => (World.cell?_of_block (w:=w) (a:=⟨g,k * 2,none⟩) hb).trans (h.c1 k hk),fun k hk => (World.cell?_of_block (w:=w) (a:=⟨g,k * 2 + 1,none⟩) hb).trans (h.c2 k hk),by
  obtain ⟨o,ho⟩ : ∃ o,w.heap[g]? = some o:=⟨_,Array.getElem?_eq_getElem h.lt⟩
  exact zlb (hb.trans ho)⟩
theorem zgm {w : World} {g : Nat} {d : Array Spn} (h : Sort.HoldsK encS 2 w g 0 d) (hl : g < w.heap.size) : zmx w g d.size (fun k => d[k]!):=by
 refine ⟨fun k hk => ?_,fun k hk => ?_,hl⟩
 ·
  have:=h (k * 2) (by rw [Sort.size_flatK];omega)
  rw [Sort.get_flatK _ _ _ _ (by omega),show k * 2 / 2 = k by omega,show k * 2 % 2 = 0 by omega,Nat.zero_add] at this
  exact this.1
 ·
  have:=h (k * 2 + 1) (by rw [Sort.size_flatK];omega)
  rw [Sort.get_flatK _ _ _ _ (by omega),show (k * 2 + 1) / 2 = k by omega,show (k * 2 + 1) % 2 = 1 by omega,Nat.zero_add] at this
  exact this.1
theorem zka {w : World} {g n : Nat} {d : Array Spn} {os : Array Obj} : xW g w (sortWorldK encS 2 w g 0 n d os):=by
 refine ⟨rfl,rfl,rfl,?_,fun k hk hne => ?_⟩
 · simp [sortWorldK,Sort.grow,Sort.putRowK,Sort.putRow,Sort.mapBlock,Sort.ahead]
 ·
  show ((w.heap.modify g _) ++ os)[k]? = _
  rw [Array.getElem?_append_left (by simpa using hk),Array.getElem?_modify,if_neg (fun e => hne e.symm)]
set_option maxHeartbeats 1000000 in
theorem zlV (g cap n : Nat) (f : Nat → Spn) (w : World) (h : xE w g cap n f) (hn : n ≤ 1000000) :
 Calls Tryz.prog 221 #[.slice (some ⟨g,0,none⟩) n cap,.func (.func 222) #[] #[]] w fun e w' =>
  ∃ f',e = .returned (.tuple #[]) ∧ zmx w' g n f' ∧ (∀ s,s ∈ spL n f' ↔ s ∈ spL n f) ∧ (∀ i j,i < j → j < n → (f' i).1 ≤ (f' j).1) ∧ xW g w w':=by
 have eg : ∀ args w,(callFunc 222 args).run Tryz.prog w = .ok (.enter 222 args) w:=enters_of Tryz.func222 (by kernel_rfl) rfl
 have hsz : (spL n f).toArray.size = n:=by simp [xJ]
 have hc:=AnyQ.slices_SortFunc Tryz.sortL 2 zrn zpT encS (fun _ => rfl) (fun x v hv => by simp [encS] at hv;rcases hv with rfl | rfl <;> rfl) cfS swoS 222 #[] g 0 cap (spL n f).toArray w eg (zoM g 0 _ w) (zot h) h.lt (by rw [hsz];omega)
 rw [hsz] at hc
 refine Calls.mono hc ?_
 rintro e w' ⟨rfl,d',q,os,hp,hs,rfl⟩
 have hd : d'.size = n:=hp.1.trans hsz
 have hh:=holdsK_sortWorldK encS 2 w g 0 q (spL n f).toArray d' os h.lt (zot h) (hd.trans hsz.symm)
 have hr:=zgm hh (lt_sortWorldK encS 2 w g 0 q d' os h.lt)
 rw [hd] at hr
 refine ⟨fun k => d'[k]!,rfl,hr,fun s => ?_,fun i j h1 h2 => ?_,zka⟩
 ·
  have hperm:=hp.2.2.mem_iff (a:=s)
  rw [Array.extract_eq_self_of_le (by omega),Array.extract_eq_self_of_le (by omega)] at hperm
  have e : spL n (fun k => d'[k]!) = d'.toList:=by
   apply List.ext_getElem
   · simp [xJ,hd]
   ·
    intro i h1 h2
    have hi : i < d'.size:=by simpa using h2
    simp [spL,getElem!_pos d' i hi]
  rw [e]
  simpa using hperm
 ·
  have:=hs i j (znz _) h1 h2
  rw [ltS] at this
  simpa using this
def za8 (n : Nat) (f : Nat → Spn) : List Value:=(List.range (n * 2)).map (fun t => if t % 2 = 0 then .int .i64 (f (t / 2)).1 else .int .i64 (f (t / 2)).2)
theorem yL (n : Nat) (f : Nat → Spn) : (za8 n f).length = n * 2:=by simp [za8]
theorem qU {n : Nat} {f : Nat → Spn} {t : Nat} (h : t < n * 2) : (za8 n f)[t]? = some (if t % 2 = 0 then .int .i64 (f (t / 2)).1 else .int .i64 (f (t / 2)).2):=by
 unfold za8;rw [List.getElem?_map,List.getElem?_range h];rfl
def ql (w : World) (base : Nat) (v : Value) (n : Nat) (f : Nat → Spn) : Prop :=
 (v = .slice none 0 0 ∧ n = 0) ∨ ∃ g cap,v = .slice (some ⟨g,0,none⟩) n cap ∧ base ≤ g ∧ cap ≤ maxLen ∧ xE w g cap n f
theorem ql.nil (w : World) (base : Nat) (f : Nat → Spn) : ql w base (.slice none 0 0) 0 f:=.inl ⟨rfl,rfl⟩
theorem ql.below {w w' : World} {base : Nat} {v : Value} {n : Nat} {f : Nat → Spn} (h : ql w base v n f) (hb : Below w.heap.size w w') : ql w' base v n f:=by
 rcases h with h | ⟨g,cap,e,h1,h2,h3⟩
 · exact .inl h
 · exact .inr ⟨g,cap,e,h1,h2,h3.keep (hb.block g h3.lt)⟩
theorem ql.own {w : World} {base : Nat} {v : Value} {n : Nat} {f : Nat → Spn} (h : ql w base v n f) : w.ownsRow base 226 2 v n (za8 n f):=by
 refine ⟨yL n f,?_⟩
 rcases h with h | ⟨g,cap,e,h1,h2,cur,q1,q2,q3,q4⟩
 · exact .inl h
 ·
  refine .inr ⟨g,cap,cur,e,h1,q1,q2,h2,q3,?_⟩
  apply List.ext_getElem?
  intro t
  by_cases ht : t < n * 2
  ·
   rw [List.getElem?_take_of_lt ht,qU ht,Array.getElem?_toList]
   have h5:=q4 (t / 2) (by omega)
   rcases (show t % 2 = 0 ∨ t % 2 = 1 by omega) with e | e
   ·
    rw [if_pos e]
    have h6:=h5.1
    rwa [show t / 2 * 2 = t by omega] at h6
   ·
    rw [if_neg (by omega)]
    have h6:=h5.2
    rwa [show t / 2 * 2 + 1 = t by omega] at h6
  · rw [List.getElem?_eq_none (by rw [List.length_take];omega),List.getElem?_eq_none (by rw [yL];omega)]
theorem ql.zrh {w : World} {base : Nat} {v : Value} {n : Nat} {f : Nat → Spn} {a b : Int} (h : w.ownsRow base 226 2 v (n + 1) (za8 n f ++ [.int .i64 a,.int .i64 b])) : ql w base v (n + 1) (fun k => if k = n then (a,b) else f k):=by
 obtain ⟨hl,⟨_,h0⟩ | ⟨g,cap,cur,e,h1,h2,h3,h4,h5,h6⟩⟩:=h
 · omega
 ·
  refine .inr ⟨g,cap,e,h1,h4,cur,h2,h3,h5,fun k hk => ?_⟩
  have get : ∀ t,t < (n + 1) * 2 → cur[t]? = (za8 n f ++ [.int .i64 a,.int .i64 b])[t]?:=fun t ht => by
   rw [← h6,List.getElem?_take_of_lt ht,Array.getElem?_toList]
  rw [get _ (by omega),get _ (by omega)]
  dsimp only
  by_cases e : k = n
  ·
   subst e
   rw [if_pos rfl,List.getElem?_append_right (by rw [yL];omega),List.getElem?_append_right (by rw [yL];omega),yL]
   refine ⟨?_,?_⟩
   · rw [show k * 2 - k * 2 = 0 by omega];rfl
   · rw [show k * 2 + 1 - k * 2 = 1 by omega];rfl
  ·
   rw [if_neg e,List.getElem?_append_left (by rw [yL];omega),List.getElem?_append_left (by rw [yL];omega),qU (by omega),qU (by omega),if_pos (by omega),if_neg (by omega),show k * 2 / 2 = k by omega,show (k * 2 + 1) / 2 = k by omega]
   exact ⟨rfl,rfl⟩
theorem ql.lt {w : World} {base : Nat} {v : Value} {n : Nat} {f : Nat → Spn} (h : ql w base v n f) : ∀ b,v.ownBlock = some b → b < w.heap.size:=fun b hb => (h.own.lt b hb).2
theorem xE.set2 {w : World} {g cap n : Nat} {f : Nat → Spn} (h : xE w g cap n f) (j : Nat) (b : Int) : xE (w.setCell ⟨g,j * 2 + 1,none⟩ (.int .i64 b)) g cap n (fun k => if k = j then ((f j).1,b) else f k):=by
 obtain ⟨cur,h1,h2,h3,h4⟩:=h
 refine ⟨_,heap_set h1 _ _,h2,by simp [h3],fun k hk => ?_⟩
 dsimp only
 by_cases e : k = j
 ·
  subst e
  rw [if_pos rfl]
  exact ⟨by rw [Array.getElem?_setIfInBounds_ne (by omega)];exact (h4 k hk).1,by rw [Array.getElem?_setIfInBounds_self_of_lt (by omega)]⟩
 ·
  rw [if_neg e]
  exact ⟨by rw [Array.getElem?_setIfInBounds_ne (by omega)];exact (h4 k hk).1,by rw [Array.getElem?_setIfInBounds_ne (by omega)];exact (h4 k hk).2⟩
theorem zga : (Tryz.prog.info? 226).map (fun i => (i.zero,i.size,i.bytes)) = some (some (.agg #[.int .i64 0,.int .i64 0]),2,16):=by kernel_rfl
set_option maxHeartbeats 1000000 in
theorem qm {W : World} {ops : Array Oper} {rest : List Oper} {o : Oper} {a : Act} {Q : Exit → Act → World → Prop} (hgd : o.guard = none) (s x : Operand)
 (ho : o.op = .call { callee:=.builtin .append,args:=#[s,x],argTypes:=#[73,73] })
 (base : Nat) (v : Value) (n : Nat) (f : Nat → Spn) (hs : a.eval s = v) (hr : ql W base v n f) (lo hi : Int)
 (q : Nat) (hq : q = W.heap.size) (hx : a.eval x = .slice (some ⟨q,0,none⟩) 1 1) (hn : n + 1 ≤ 1000000) (hbase : base ≤ W.heap.size)
 (h : ∀ v' w',ql w' base v' (n + 1) (fun k => if k = n then (lo,hi) else f k) → Below base W w' → (∀ k,k < W.heap.size → v.ownBlock ≠ some k → w'.heap[k]? = W.heap[k]?) → wpList Tryz.prog ops Q rest (a.put o.dst v') w') : wpList Tryz.prog ops Q (o :: rest) a (W.alloc (.cells #[.int .i64 lo,.int .i64 hi] 226)):=by
 subst hq
 obtain ⟨i0,hi0,hz0,hz1,hz2⟩:=info_parts zga
 have hal : Below W.heap.size W (W.alloc (.cells #[.int .i64 lo,.int .i64 hi] 226)):=zba
 have hb : (W.alloc (.cells #[.int .i64 lo,.int .i64 hi] 226)).heap[W.heap.size]? = some (.cells #[.int .i64 lo,.int .i64 hi] 226 (0,0)):=za rfl
 have hcell : ∀ (j : Nat) (u' : Value),[Value.int .i64 lo,.int .i64 hi][j]? = some u' → (W.alloc (.cells #[.int .i64 lo,.int .i64 hi] 226)).cell? ((⟨W.heap.size,0,none⟩ : Addr).add j) = some u':=by
  intro j u' hu
  rw [show (⟨W.heap.size,0,none⟩ : Addr).add j = ⟨W.heap.size,j,none⟩ from by simp [Addr.add];exact fun h => h.symm,cell_of_row _ _ _ _ _ _ hb]
  simpa using hu
 have hr':=hr.below hal
 refine wpList_append_own _ hgd s x 73 ho base 226 i0 (.agg #[.int .i64 0,.int .i64 0]) 2 16 zaA hi0 hz0 hz1 hz2 rfl (by decide) v n _ hs hr'.own ⟨W.heap.size,0,none⟩ 1 1 [.int .i64 lo,.int .i64 hi] hx rfl hcell (fun u hu => by
  simp at hu;rcases hu with rfl | rfl <;> rfl) (by simp only [maxLen];omega) (by omega) (by simp;omega) (fun v' w' h2 h3 _ => ?_)
 refine h v' w' (ql.zrh h2) ?_ (fun k hk hne => (h3.block k (by simp;omega) (fun e => hne e.symm)).trans (hal.block k hk))
 exact (hal.mono hbase).grown h3 (by simp;omega) (fun j hj => (hr'.own.lt j hj).1)
def yx (w : World) (v : Value) (l : List Spn) : Prop :=
 (v = .slice none 0 0 ∧ l = []) ∨ ∃ g cap f,v = .slice (some ⟨g,0,none⟩) l.length cap ∧ cap ≤ maxLen ∧ xE w g cap l.length f ∧ spL l.length f = l
theorem yx.below {w w' : World} {v : Value} {l : List Spn} (h : yx w v l) (hb : Below w.heap.size w w') : yx w' v l:=by
 rcases h with h | ⟨g,cap,f,e,h1,h2,h3⟩
 · exact .inl h
 · exact .inr ⟨g,cap,f,e,h1,h2.keep (hb.block g h2.lt),h3⟩
theorem yx.zne {w : World} {base : Nat} {v : Value} {n : Nat} {f : Nat → Spn} (h : ql w base v n f) : yx w v (spL n f):=by
 rcases h with ⟨h,rfl⟩ | ⟨g,cap,e,h1,h2,h3⟩
 · exact .inl ⟨h,rfl⟩
 · exact .inr ⟨g,cap,f,by rw [xJ];exact e,h2,by rw [xJ];exact h3,by rw [xJ]⟩
theorem zdy (n : Nat) (f : Nat → Spn) (s : Spn) : spL (n + 1) (fun k => if k = n then s else f k) = spL n f ++ [s]:=by
 rw [za2]
 have e : spL n (fun k => if k = n then s else f k) = spL n f:=zht (fun k hk => by
  show (if k = n then s else f k) = f k
  rw [if_neg (by omega)])
 rw [e]
 show _ ++ [if n = n then s else f n] = _
 rw [if_pos rfl]
theorem ql.shape {w : World} {base : Nat} {v : Value} {n : Nat} {f : Nat → Spn} (h : ql w base v n f) : ∃ a c,v = .slice a n c:=by
 rcases h with ⟨rfl,rfl⟩ | ⟨g,c,rfl,_⟩
 · exact ⟨_,_,rfl⟩
 · exact ⟨_,_,rfl⟩
theorem ql.qB {w : World} {base b : Nat} {v : Value} {n : Nat} {f : Nat → Spn} (h : ql w base v n f) (hb : b < base) (u : Value) : ql (w.setCell ⟨b,0,none⟩ u) base v n f:=by
 rcases h with h | ⟨g,cap,e,h1,h2,h3⟩
 · exact .inl h
 · exact .inr ⟨g,cap,e,h1,h2,h3.keep (zhc _ _ _ _ (by show g ≠ b;omega))⟩
theorem ql.fresh {w : World} {base : Nat} {v : Value} {n : Nat} {f : Nat → Spn} (h : ql w base v n f) : ∀ b,v.ownBlock = some b → base ≤ b:=by
 intro b hb
 rcases h with ⟨rfl,_⟩ | ⟨g,cap,rfl,h1,_⟩
 · cases hb
 · cases hb;exact h1
def zkS (l : List Spn) (B : Nat) (w : World) (e : Ending) (w' : World) : Prop :=
 ∃ v r,e = .returned (.agg #[v]) ∧ yx w' v r ∧ zjn l r ∧ r.length ≤ l.length ∧ (∀ b,v.ownBlock = some b → w.heap.size ≤ b) ∧ Below B w w'
set_option maxRecDepth 100000 in
set_option maxHeartbeats 16000000 in
theorem zfw (g cap n B : Nat) (f : Nat → Spn) (w : World) (h : xE w g cap n f) (hfit : ∀ s ∈ spL n f,Fits s) (hn : n ≤ 100000) (hcap : cap ≤ maxLen) (hB : B ≤ g) (hB2 : B ≤ w.heap.size) :
 Calls Tryz.prog 184 #[.slice (some ⟨g,0,none⟩) n cap] w (zkS (spL n f) B w):=by
 have hal : Below w.heap.size w (w.alloc (.cells #[.slice none 0 0] 75)):=zba
 have hblk : (w.alloc (.cells #[.slice none 0 0] 75)).heap[w.heap.size]? = some (.cells #[.slice none 0 0] 75 (0,0)):=za rfl
 have hglt:=h.lt
 have hdel:=zid g cap n f _ (h.keep (hal.block g h.lt)) (by omega) (by unfold maxLen at hcap;omega)
 have Hdel:=hid hdel;have Hfit:=hid hfit;have Hal:=hid hal;have Hblk:=hid hblk
 clear hdel h hfit hal hblk
 go_enter Tryz.func184,Tryz.ntmps184
 go_wp2_with fail
 refine Hdel.out.mono ?_
 rintro e w1 ⟨m,f1,rfl,hmn,hrow1,hfil,ho1⟩
 have hblk1:=(ho1.block _ (by simp) (by omega)).trans Hblk.out
 have hw1:=(xW.of_below (g:=g) Hal.out).trans ho1
 have Hfil:=hid hfil;have Hrow1:=hid hrow1;have Hw1:=hid hw1;have Hblk1:=hid hblk1
 clear hfil hrow1 hw1 hblk1 ho1 Hdel Hal Hblk
 have Hsort:=hid (zlV g cap m f1 w1 Hrow1.out (by omega))
 go_wp2_with fail
 refine Hsort.out.mono ?_
 rintro e w2 ⟨f2,rfl,hr2,hmem,hord,ho2⟩
 have hblk2:=(ho2.block _ (zlb Hblk1.out) (by omega)).trans Hblk1.out
 have hw2:=Hw1.out.trans ho2
 have hwide : ∀ k,k < m → zat (f2 k):=fun k hk => by
  have h1:=(hmem (f2 k)).1 (zdD.2 ⟨k,hk,rfl⟩)
  rw [Hfil.out,List.mem_filter] at h1
  have h2 : ¬ (f2 k).2 ≤ (f2 k).1:=by simpa [pS] using h1.2
  have h3:=Hfit.out _ h1.1 (by omega)
  exact ⟨h3.1,by omega,h3.2⟩
 have hsame : ∀ x,inL (spL m f2) x ↔ inL (spL n f) x:=fun x => by
  rw [znv hmem x,Hfil.out]
  constructor
  · rintro ⟨s,hs,hx⟩;exact ⟨s,(List.mem_filter.1 hs).1,hx⟩
  ·
   rintro ⟨s,hs,hx⟩
   refine ⟨s,List.mem_filter.2 ⟨hs,?_⟩,hx⟩
   have:=hx.1;have:=hx.2
   simp [pS];omega
 have Hr2:=hid hr2;have Hord:=hid hord;have Hw2:=hid hw2;have Hblk2:=hid hblk2;have Hwide:=hid hwide;have Hsame:=hid hsame
 clear hr2 hord hw2 hblk2 hwide hsame hmem ho2 Hfil Hrow1 Hw1 Hblk1 Hsort Hfit
 go_wp2_with fail
 go_loopg [3,13] m (fun gk vo i wr => ∃ (k j : Nat) (fo : Nat → Spn),k ≤ m ∧ gk = m - k ∧ i = .int .i64 k ∧ ql wr w2.heap.size vo j fo ∧ Join (spL k f2) (spL j fo) ∧ j ≤ k ∧ Below w2.heap.size w2 wr)
 case atStart => exact ⟨0,0,f2,znz _,rfl,rfl,ql.nil _ _ _,Join.nil,znr _,Below.refl _ _⟩
 case round =>
  obtain ⟨k,j,fo,hk,rfl,rfl,hout,hjoin,hjk,hbw⟩:=hrel
  obtain ⟨wo,rfl⟩ : ∃ y,y = wr:=⟨_,rfl⟩
  have sbw:=hbw.size
  by_cases hlt : k < m
  ·
   have hr:=Hr2.out.keep (hbw.block g Hr2.out.lt)
   have c1:=hr.c1 k hlt;have c2:=hr.c2 k hlt
   have hwk:=Hwide.out k hlt
   have hsn : spL (k + 1) f2 = spL k f2 ++ [f2 k]:=za2 k f2
   have hle : ∀ u ∈ spL k f2,u.1 ≤ (f2 k).1:=fun u hu => by
    obtain ⟨x,hx,rfl⟩:=zdD.1 hu
    exact Hord.out x k hx hlt
   generalize f2 k = s at c1 c2 hwk hsn hle
   have Hsn:=hid hsn;have Hle:=hid hle;have Hwk:=hid hwk;have Hjoin:=hid hjoin;have Hbw:=hid hbw
   clear hsn hle hwk hjoin hbw hr
   have hal : Below wo.heap.size wo (wo.alloc (.cells #[.int .i64 s.1,.int .i64 s.2] 226)):=zba
   have hblk : (wo.alloc (.cells #[.int .i64 s.1,.int .i64 s.2] 226)).heap[wo.heap.size]? = some (.cells #[.int .i64 s.1,.int .i64 s.2] 226 (0,0)):=za rfl
   obtain ⟨ao,co,rfl⟩:=hout.shape
   have d1 : (wo.alloc (.cells #[.int .i64 s.1,.int .i64 s.2] 226)).cell? ⟨wo.heap.size,0,none⟩ = some (.int .i64 s.1):=by rw [cell_of_row _ _ _ _ _ _ hblk];rfl
   have d2 : (wo.alloc (.cells #[.int .i64 s.1,.int .i64 s.2] 226)).cell? ⟨wo.heap.size,1,none⟩ = some (.int .i64 s.2):=by rw [cell_of_row _ _ _ _ _ _ hblk];rfl
   have d3:=zlb hblk
   rcases Nat.eq_zero_or_pos j with rfl | hj0
   ·
    have hx : decide ((0 : Int) < ((0 : Nat) : Int)) = false:=by decide
    have Hout:=hid hout;have Hal:=hid hal
    clear hout hal hblk
    have Hjn:=hid (Hjoin.out.push (s:=s) Hwk.out (fun t ht => by cases ht))
    have Ho1:=hid (fun W (hW : Below wo.heap.size wo W) => Hout.out.below hW)
    go_upto_region 8 with fail
    go_quiet (fail)
    go_wp2_with (at_builtin;refine qm rfl (.tmp 46) (.tmp 48) rfl w2.heap.size _ 0 fo rfl (Ho1.out _ (below_drewN Hal.out _)) s.1 s.2 (wo.heap.size + 1) (zy wo _).symm rfl (by omega) (Nat.le_trans sbw (below_drewN Hal.out _).size) ?_;intro v9 w9 ho9 hb9 _;have Ho9:=hid ho9;have Hb9:=hid hb9;clear ho9 hb9)
    go_roundg (m - (k + 1))
    case measure => omega
    case rel => exact ⟨k + 1,1,_,by omega,rfl,by go_num,Ho9.out,by rw [Hsn.out];exact Hjn.out,by omega,(Hbw.out.trans ((below_drewN Hal.out _).mono sbw)).trans Hb9.out⟩
   ·
    have hx : decide ((0 : Int) < (j : Int)) = true:=by simp;omega
    obtain ⟨q,rfl⟩ : ∃ q,j = q + 1:=⟨j - 1,by omega⟩
    obtain ⟨g',c',e,h1,h2,h3⟩ : ∃ g' cap',Value.slice ao (q + 1) co = .slice (some ⟨g',0,none⟩) (q + 1) cap' ∧ w2.heap.size ≤ g' ∧ cap' ≤ maxLen ∧ xE wo g' cap' (q + 1) fo:=by
     rcases hout with ⟨_,h⟩ | h
     · omega
     · exact h
    cases e
    have h4:=h3.keep (hal.block g' h3.lt)
    have e1:=h4.zeH (Nat.lt_succ_self q);have e2:=h4.free (q * 2 + 1)
    have hglt':=h4.lt
    have Hout:=hid hout;have Hal:=hid hal;have Hrow:=hid h4
    clear hout hal hblk h3 h4
    have hlen:=za2 q fo
    have Ho1:=hid (fun W (hW : Below wo.heap.size wo W) => Hout.out.below hW)
    by_cases ht : s.1 ≤ (fo q).2
    ·
     have ht2 : decide (s.1 ≤ (fo q).2) = true:=by simpa using ht
     have hjn:=Hjoin.out
     rw [hlen] at hjn
     have hgr:=hjn.grow Hwk.out (hjn.ahead Hle.out) ht
     have hset:=Hrow.out.set2 q (max (fo q).2 s.2)
     have heq:=(zdy q fo ((fo q).1,max (fo q).2 s.2)).symm
     rw [heq] at hgr
     generalize fo q = t at e1 ht2 hgr hset
     have Hgr:=hid hgr;have Hset:=hid hset
     clear hjn hgr hset heq hlen ht Hjoin Hout
     go_upto_region 8 with fail
     go_quiet (fail)
     go_wp2_with fail
     go_region
     go_wp2_with fail
     go_roundg (m - (k + 1))
     case measure => omega
     case rel => exact ⟨k + 1,q + 1,_,by omega,rfl,by go_num,.inr ⟨g',co,rfl,h1,h2,Hset.out⟩,by rw [Hsn.out];exact Hgr.out,by omega,(Hbw.out.trans ((below_drewN Hal.out _).mono sbw)).setCell h1 _⟩
    ·
     have ht2 : decide (s.1 ≤ (fo q).2) = false:=by simpa using ht
     have hjn:=Hjoin.out
     have hpu:=hjn.push (s:=s) Hwk.out (fun t ht' => by
      have h1:=hjn.can
      rw [hlen] at ht' h1
      rcases List.mem_append.1 ht' with h2 | h2
      ·
       have:=zo2 h1 t h2
       have:=(h1.ok (fo q) (by simp)).2.1
       omega
      · rw [List.mem_singleton.1 h2];omega)
     have heq:=(zdy (q + 1) fo s).symm
     rw [heq] at hpu
     have Hpu:=hid hpu
     generalize (fo q).2 = t at e1 ht2
     clear hjn hpu heq hlen ht Hjoin Hout
     go_upto_region 8 with fail
     go_quiet (fail)
     go_wp2_with (at_builtin;refine qm rfl (.tmp 46) (.tmp 48) rfl w2.heap.size _ (q + 1) fo rfl (Ho1.out _ (below_drewN Hal.out _)) s.1 s.2 (wo.heap.size + 1) (zy wo _).symm rfl (by omega) (Nat.le_trans sbw (below_drewN Hal.out _).size) ?_;intro v9 w9 ho9 hb9 _;have Ho9:=hid ho9;have Hb9:=hid hb9;clear ho9 hb9)
     go_roundg (m - (k + 1))
     case measure => omega
     case rel => exact ⟨k + 1,q + 1 + 1,_,by omega,rfl,by go_num,Ho9.out,by rw [Hsn.out];exact Hpu.out,by omega,(Hbw.out.trans ((below_drewN Hal.out _).mono sbw)).trans Hb9.out⟩
  ·
   obtain rfl : k = m:=by omega
   have hsp:=yx.zne hout
   have hblk3:=(hbw.block _ (zlb Hblk2.out)).trans Hblk2.out
   have d1:=zco hblk3;have d2:=zfo hblk3;have d3:=zlb hblk3
   obtain ⟨ao,co,rfl⟩:=hout.shape
   have Hout:=hid hout;have Hjoin:=hid hjoin;have Hbw:=hid hbw;have Hsp:=hid hsp;have Hblk3:=hid hblk3
   clear hout hjoin hbw hsp hblk3
   have k4:=zco (one_setCell (u:=.slice ao j co) Hblk3.out)
   have s2:=Hw2.out.size;have s3:=zlb Hblk2.out
   go_wp2_with fail
   refine bodyPost_ret (v:=.agg #[.slice ao j co]) (by simp [results,Tryz.results184,go_sem,k4]) rfl ⟨_,spL j fo,rfl,yx.zne (Hout.out.qB (by omega) _),⟨Hjoin.out.can,fun x => by rw [Hjoin.out.same,Hsame.out]⟩,by rw [xJ,xJ];omega,fun b hb => ?_,((Hw2.out.below hB hB2).trans (Hbw.out.mono (by omega))).setCell hB2 _⟩
   have:=Hout.out.fresh b hb
   omega
