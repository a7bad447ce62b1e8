import Derived.WalkKit
import Derived.WalkSpells
import Derived.WalkLawsBesides
import Derived.Deep.LoopGhost
import Derived.Lib.Hide
import Derived.Maps.OwnOps
import Derived.MapKept
import Derived.Laws.StructEq
import Derived.Test.YtmlfelbkgoplhaaGreatDoorZfPkH
set_option linter.unusedVariables false
namespace Go.Proofs.YtmlfelbkgoplhaaGreatDoor
open Go.RowKit
def zhz (w : World) (b o : Nat) (xs : List Int) : Prop:=∀ i,i < xs.length → w.cell? ⟨b,o + i,none⟩ = some (.int .i64 (xs.getD i 0))
def zD (w : World) (v : Value) (xs : List Int) : Prop :=
 ∃ a b o c,v = .slice a xs.length c ∧ (xs ≠ [] → a = some ⟨b,o,none⟩) ∧ xs.length ≤ c ∧ c ≤ maxLen ∧ zhz w b o xs ∧ (xs ≠ [] → b < w.heap.size) ∧ xs.length ≤ 17592186044416
theorem zhz.below {w w' : World} {b o : Nat} {xs : List Int} (h : zhz w b o xs) (hb : Below (b + 1) w w') : zhz w' b o xs :=
 fun i hi => by rw [hb.cell (by show b < b + 1;omega)];exact h i hi
theorem zD.below {w w' : World} {v : Value} {xs : List Int} (h : zD w v xs) (hb : Below w.heap.size w w') : zD w' v xs:=by
 obtain ⟨a,b,o,c,h1,h2,h3,h4,h5,h6,h7⟩:=h
 exact ⟨a,b,o,c,h1,h2,h3,h4,fun i hi => by rw [hb.cell (h6 (by intro e;subst e;simp at hi))];exact h5 i hi,fun e => Nat.lt_of_lt_of_le (h6 e) hb.size,h7⟩
def xw (w : World) (v : Value) (ls : List (List Int)) : Prop :=
 ∃ a b o c,v = .slice a ls.length c ∧ (ls ≠ [] → a = some ⟨b,o,none⟩) ∧ ls.length ≤ c ∧ c ≤ maxLen ∧ (ls ≠ [] → b < w.heap.size) ∧ ls.length ≤ 17592186044416 ∧
  ∀ i,i < ls.length → ∃ r,w.cell? ⟨b,o + i,none⟩ = some r ∧ zD w r (ls.getD i [])
theorem xw.below {w w' : World} {v : Value} {ls : List (List Int)} (h : xw w v ls) (hb : Below w.heap.size w w') : xw w' v ls:=by
 obtain ⟨a,b,o,c,h1,h2,h3,h4,h5,h7,h6⟩:=h
 refine ⟨a,b,o,c,h1,h2,h3,h4,fun e => Nat.lt_of_lt_of_le (h5 e) hb.size,h7,fun i hi => ?_⟩
 obtain ⟨r,hr,hi2⟩:=h6 i hi
 exact ⟨r,by rw [hb.cell (h5 (by intro e;subst e;simp at hi))];exact hr,hi2.below hb⟩
theorem zD.shape {w : World} {v : Value} {xs : List Int} (h : zD w v xs) : ∃ a c,v = .slice a xs.length c ∧ xs.length ≤ c ∧ c ≤ 9223372036854775807 ∧ xs.length ≤ 17592186044416:=by
 obtain ⟨a,b,o,c,rfl,_,h3,h4,_,_,h7⟩:=h
 exact ⟨a,c,rfl,h3,by unfold maxLen at h4;omega,h7⟩
theorem zD.len {w : World} {a : Option Addr} {n c : Nat} {xs : List Int} (h : zD w (.slice a n c) xs) : n = xs.length:=by
 obtain ⟨_,_,_,_,hh,_⟩:=h
 cases hh;rfl
theorem zD.addr {w : World} {a : Option Addr} {n c : Nat} {xs : List Int} (h : zD w (.slice a n c) xs) {k : Nat} (hk : k < xs.length) : ∃ b o,a = some ⟨b,o,none⟩ ∧ b < w.heap.size:=by
 obtain ⟨_,b,o,_,hh,h2,_,_,_,h6⟩:=h
 cases hh
 exact ⟨b,o,h2 (by intro e;subst e;simp at hk),h6.1 (by intro e;subst e;simp at hk)⟩
theorem zD.get {w : World} {b o n c : Nat} {xs : List Int} (h : zD w (.slice (some ⟨b,o,none⟩) n c) xs) {k : Nat} (hk : k < xs.length) : w.cell? ⟨b,o + k,none⟩ = some (.int .i64 xs[k]):=by
 obtain ⟨_,b',o',_,hh,h2,_,_,h5,_⟩:=h
 cases hh
 cases h2 (by intro e;subst e;simp at hk)
 rw [h5 k hk];simp [hk]
theorem xw.shape {w : World} {v : Value} {xs : List (List Int)} (h : xw w v xs) : ∃ a c,v = .slice a xs.length c ∧ xs.length ≤ c ∧ c ≤ 9223372036854775807 ∧ xs.length ≤ 17592186044416:=by
 obtain ⟨a,b,o,c,rfl,_,h3,h4,_,h7,_⟩:=h
 exact ⟨a,c,rfl,h3,by unfold maxLen at h4;omega,h7⟩
theorem xw.len {w : World} {a : Option Addr} {n c : Nat} {xs : List (List Int)} (h : xw w (.slice a n c) xs) : n = xs.length:=by
 obtain ⟨_,_,_,_,hh,_⟩:=h
 cases hh;rfl
theorem xw.addr {w : World} {a : Option Addr} {n c : Nat} {xs : List (List Int)} (h : xw w (.slice a n c) xs) {k : Nat} (hk : k < xs.length) : ∃ b o,a = some ⟨b,o,none⟩ ∧ b < w.heap.size:=by
 obtain ⟨_,b,o,_,hh,h2,_,_,h5,_⟩:=h
 cases hh
 exact ⟨b,o,h2 (by intro e;subst e;simp at hk),h5 (by intro e;subst e;simp at hk)⟩
theorem xw.get {w : World} {b o n c : Nat} {xs : List (List Int)} (h : xw w (.slice (some ⟨b,o,none⟩) n c) xs) {k : Nat} (hk : k < xs.length) :
 ∃ a2 n2 c2,w.cell? ⟨b,o + k,none⟩ = some (.slice a2 n2 c2) ∧ zD w (.slice a2 n2 c2) xs[k]:=by
 obtain ⟨_,b',o',_,hh,h2,_,_,_,_,h6⟩:=h
 cases hh
 cases h2 (by intro e;subst e;simp at hk)
 obtain ⟨r,hr,hi⟩:=h6 k hk
 have e : xs.getD k [] = xs[k]:=by simp [hk]
 rw [e] at hi
 obtain ⟨a2,c2,rfl,_⟩:=hi.shape
 exact ⟨a2,_,c2,hr,hi⟩
theorem zkj {α : Type} [Inhabited α] {n : Nat} {p : Nat → α → Prop} (h : ∀ i,i < n → ∃ x,p i x) : ∃ l : List α,l.length = n ∧ ∀ i (hi : i < l.length),p i l[i]:=by
 induction n with
 | zero => exact ⟨[],rfl,fun i hi => absurd hi (by simp)⟩
 | succ n ih =>
  obtain ⟨l,hl,hp⟩:=ih (fun i hi => h i (by omega))
  obtain ⟨x,hx⟩:=h n (by omega)
  refine ⟨l ++ [x],by simp [hl],fun i hi => ?_⟩
  by_cases e : i < l.length
  · rw [List.getElem_append_left e];exact hp i e
  ·
   have e2 : i = n:=by simp at hi;omega
   subst e2
   rw [List.getElem_append_right (by omega)]
   simpa [hl] using hx
def xS (w : World) (rs : List Value) (ls : List (List Int)) : Prop:=rs.length = ls.length ∧ ∀ i (h1 : i < rs.length) (h2 : i < ls.length),zD w rs[i] ls[i]
theorem xS.below {w w' : World} {rs : List Value} {ls : List (List Int)} (h : xS w rs ls) (hb : Below w.heap.size w w') : xS w' rs ls :=
 ⟨h.1,fun i h1 h2 => (h.2 i h1 h2).below hb⟩
theorem xS.snoc {w : World} {rs : List Value} {ls : List (List Int)} {r : Value} {xs : List Int} (h : xS w rs ls) (hr : zD w r xs) : xS w (rs ++ [r]) (ls ++ [xs]):=by
 refine ⟨by simp [h.1],fun i h1 h2 => ?_⟩
 by_cases e : i < rs.length
 · rw [List.getElem_append_left e,List.getElem_append_left (by rw [← h.1];exact e)];exact h.2 i e _
 ·
  have e1 : i = rs.length:=by simp at h1;omega
  subst e1
  rw [List.getElem_append_right (znr _),List.getElem_append_right (by rw [h.1];exact znr _)]
  simpa [h.1] using hr
theorem xS.oneCell {w : World} {rs : List Value} {ls : List (List Int)} (h : xS w rs ls) : ∀ u ∈ rs,u.oneCell' = true:=by
 intro u hu
 obtain ⟨i,hi,rfl⟩:=List.getElem_of_mem hu
 obtain ⟨a,c,e,_⟩:=(h.2 i hi (by rw [← h.1];exact hi)).shape
 rw [e];rfl
theorem xw.vals {w : World} {a : Option Addr} {n c : Nat} {ls : List (List Int)} (h : xw w (.slice a n c) ls) :
 ∃ rs,xS w rs ls ∧ ∀ ad,a = some ad → ∀ j u,rs[j]? = some u → w.cell? (ad.add j) = some u:=by
 obtain ⟨a',b,o,c',hh,h2,_,_,h5,h7,h6⟩:=h
 cases hh
 obtain ⟨rs,h8,h9⟩:=zkj h6
 refine ⟨rs,⟨h8,fun i h1 h2 => by have:=(h9 i h1).2;simpa [h2] using this⟩,fun ad had j u hu => ?_⟩
 obtain ⟨hj,rfl⟩:=List.getElem?_eq_some_iff.1 hu
 rw [h2 (by intro e;subst e;simp at h8;subst h8;simp at hj)] at had
 cases had
 have:=(h9 j hj).1
 unfold Addr.add
 split
 · subst j;simpa using this
 · exact this
theorem zbQ {w : World} {base e : Nat} {v : Value} {n : Nat} {rs : List Value} {ls : List (List Int)} (h : w.ownsRow base e 1 v n rs) (hr : xS w rs ls) (hl : ls.length ≤ 17592186044416) : xw w v ls:=by
 obtain ⟨h1,h2⟩:=h
 have hn : n = ls.length:=by rw [← hr.1,h1];omega
 subst hn
 rcases h2 with ⟨rfl,h3⟩ | ⟨g,cap,cur,rfl,hg,hh,h3,h4,h5,h6⟩
 ·
  have e : ls = []:=List.eq_nil_of_length_eq_zero h3
  subst e
  exact ⟨none,0,0,0,rfl,fun h => absurd rfl h,znr _,znz _,fun h => absurd rfl h,znz _,fun i hi => absurd hi (by simp)⟩
 ·
  refine ⟨_,g,0,cap,rfl,fun _ => rfl,h3,h4,fun _ => (Array.getElem?_eq_some_iff.1 hh).1,hl,fun i hi => ?_⟩
  have hi' : i < rs.length:=by rw [hr.1];exact hi
  refine ⟨rs[i],?_,by have:=hr.2 i hi' hi;simpa [hi] using this⟩
  rw [cell_of_row w g (0 + i) cur e (0,0) hh,Nat.zero_add]
  have h7 : (cur.toList.take (ls.length * 1))[i]? = some rs[i]:=by rw [h6];simp [hi']
  rw [List.getElem?_take] at h7
  split at h7
  · simpa using h7
  · cases h7
theorem ownsRow_below {w w' : World} {base e size : Nat} {v : Value} {n : Nat} {xs : List Value} (h : w.ownsRow base e size v n xs) (hb : Below w.heap.size w w') : w'.ownsRow base e size v n xs:=by
 refine ⟨h.1,?_⟩
 rcases h.2 with hn | ⟨g,cap,cur,rfl,h1,h2,r⟩
 · exact .inl hn
 · exact .inr ⟨g,cap,cur,rfl,h1,by rw [hb.block g (Array.getElem?_eq_some_iff.1 h2).1];exact h2,r⟩
theorem zkC {w : World} {g e n c : Nat} {cur : Array Value} {fz : Nat × Nat} (xs : List Int) (h : w.heap[g]? = some (.cells cur e fz)) (hc : cur.toList = xs.map (Value.int .i64)) (hn : n = xs.length) (hnc : n ≤ c) (hcm : c ≤ maxLen) (hx : xs.length ≤ 17592186044416) :
 zD w (.slice (some ⟨g,0,none⟩) n c) xs:=by
 subst hn
 refine ⟨_,g,0,c,rfl,fun _ => rfl,hnc,hcm,fun i hi => ?_,fun _ => (Array.getElem?_eq_some_iff.1 h).1,hx⟩
 rw [cell_of_row w g (0 + i) cur e fz h,Nat.zero_add,← Array.getElem?_toList,hc]
 simp [hi]
theorem ziT (w : World) : xS w [] []:=⟨rfl,fun i h => absurd h (by simp)⟩
section
variable {α : Type}
section
variable [DecidableEq α]
def zL (x : α) : List (α × Value) → Option (Nat × Value)
 | [] => none
 | p :: l => if p.1 = x then some (0,p.2) else (zL x l).map fun q => (q.1 + 1,q.2)
def assoc (m : List (α × Value)) (x : α) : Option Value:=(zL x m).map (·.2)
def zW (m : List (α × Value)) (x : α) (v : Value) : List (α × Value) :=
 match zL x m with
 | some (i,_) => m.set i (x,v)
 | none => m ++ [(x,v)]
theorem qA {x : α} {i : Nat} {v : Value} : ∀ {m : List (α × Value)},zL x m = some (i,v) → m[i]? = some (x,v)
 | [],h => by cases h
 | p :: l,h => by
  unfold zL at h
  split at h
  ·
   rename_i e
   simp only [Option.some.injEq,Prod.mk.injEq] at h
   obtain ⟨rfl,rfl⟩:=h
   subst e;rfl
  ·
   obtain ⟨⟨j,u⟩,h1,h2⟩:=Option.map_eq_some_iff.1 h
   simp only [Prod.mk.injEq] at h2
   obtain ⟨rfl,rfl⟩:=h2
   simpa using qA h1
theorem zcE {x : α} : ∀ {m : List (α × Value)},zL x m = none → ∀ p ∈ m,p.1 ≠ x
 | [],_,p,hp => by cases hp
 | q :: l,h,p,hp => by
  unfold zL at h
  split at h
  · cases h
  ·
   rename_i e
   rcases List.mem_cons.1 hp with rfl | hp
   · exact e
   · exact zcE (by simpa using h) p hp
theorem zbv {x y : α} {v : Value} : ∀ (m : List (α × Value)),zL y (m ++ [(x,v)]) = match zL y m with | some r => some r | none => if x = y then some (m.length,v) else none
 | [] => by simp [zL]
 | p :: l => by
  simp only [List.cons_append,zL]
  split
  · rfl
  ·
   rw [zbv l]
   cases zL y l with
   | some r => rfl
   | none => simp only [Option.map_none];split <;> simp
theorem zhg {x y : α} {u v : Value} : ∀ {m : List (α × Value)} {i : Nat},zL x m = some (i,u) → assoc (m.set i (x,v)) y = if x = y then some v else assoc m y
 | [],_,h => by cases h
 | p :: l,i,h => by
  unfold zL at h
  split at h
  ·
   rename_i e
   simp only [Option.some.injEq,Prod.mk.injEq] at h
   obtain ⟨rfl,rfl⟩:=h
   subst e
   simp only [List.set_cons_zero,assoc,zL]
   split <;> simp
  ·
   rename_i e
   obtain ⟨⟨j,u'⟩,h1,h2⟩:=Option.map_eq_some_iff.1 h
   simp only [Prod.mk.injEq] at h2
   obtain ⟨rfl,rfl⟩:=h2
   have ih:=zhg (y:=y) (v:=v) h1
   simp only [List.set_cons_succ,assoc,zL]
   simp only [assoc] at ih
   by_cases e2 : p.1 = y
   · rw [if_pos e2,if_pos e2,if_neg (fun e3 => e (by rw [e2,e3]))]
   ·
    rw [if_neg e2,if_neg e2]
    simp only [Option.map_map]
    rw [show ((fun q : Nat × Value => q.2) ∘ fun q : Nat × Value => (q.1 + 1,q.2)) = fun q => q.2 from rfl]
    exact ih
theorem zcm (m : List (α × Value)) (x y : α) (v : Value) : assoc (zW m x v) y = if x = y then some v else assoc m y:=by
 unfold zW
 cases h : zL x m with
 | some r => obtain ⟨i,u⟩:=r;exact zhg h
 | none =>
  simp only [assoc,zbv]
  by_cases e : x = y
  · subst e;simp [h]
  ·
   simp only [if_neg e]
   cases zL y m <;> rfl
theorem ziW {m : List (α × Value)} {x : α} {v : Value} {i : Nat} {u : Value} (h : zL x m = some (i,u)) : (m.set i (x,v)).map (·.1) = m.map (·.1):=by
 have h1:=qA h
 apply List.ext_getElem?
 intro j
 simp only [List.getElem?_map,List.getElem?_set]
 split
 ·
  rename_i e
  subst e
  obtain ⟨hi,h2⟩:=List.getElem?_eq_some_iff.1 h1
  simp [hi,h2]
 · rfl
theorem zay {P : Program} {w : World} {r : Nat} {es : Array MapEntry} {clock : Nat} (hb : w.heap[r]? = some (.map es clock)) : (getObj r).run P w = .ok (.map es clock) w:=by simp [getObj,Sem.run,hb]
theorem zbS {P : Program} {w : World} {r : Nat} {es : Array MapEntry} {clock : Nat} (o : Obj) (hb : w.heap[r]? = some (.map es clock)) : (setObj r o).run P w = .ok () { w with heap:=w.heap.setIfInBounds r o }:=by simp [setObj,Sem.run,hb]
structure zeR (P : Program) (kt : TypeId) (enc : α → Value) : Prop where
 check : ∀ (b : Bool) (x : α) (w : World),(Instr.checkKey b 10000 kt (enc x)).run P w = .ok () w
 find : ∀ (x : α) (ms : List (α × Value)) (es : List MapEntry),es.map (fun e => (e.key,e.val)) = ms.map (fun p => (enc p.1,p.2)) → ∀ w,(Instr.findKey kt (enc x) es).run P w = .ok (zL x ms) w
 bits : ∀ x : α,Instr.sameBits 10000 (enc x) (enc x) = true
end
def MapOf (w : World) (b : Nat) (enc : α → Value) (m : List (α × Value)) : Prop :=
 ∃ es clock,w.heap[b]? = some (.map es clock) ∧ es.toList.map (fun e => (e.key,e.val)) = m.map (fun p => (enc p.1,p.2)) ∧ (m.map (·.1)).Nodup ∧
  (es.toList.map (·.born)).Pairwise (· < ·) ∧ ∀ e ∈ es.toList,e.born < clock
theorem MapOf.lt {w : World} {b : Nat} {enc : α → Value} {m : List (α × Value)} (h : MapOf w b enc m) : b < w.heap.size:=by
 obtain ⟨es,clock,hb,_⟩:=h
 exact (Array.getElem?_eq_some_iff.1 hb).1
theorem MapOf.below {w w' : World} {b : Nat} {enc : α → Value} {m : List (α × Value)} (h : MapOf w b enc m) (hb : Below (b + 1) w w') : MapOf w' b enc m:=by
 obtain ⟨es,clock,h1,h2⟩:=h
 exact ⟨es,clock,by rw [hb.block b (by omega)];exact h1,h2⟩
theorem zcc (w : World) (enc : α → Value) : MapOf (w.alloc (.map #[] 0)) w.heap.size enc [] :=
 ⟨#[],0,heap_alloc_new w _,rfl,List.nodup_nil,List.Pairwise.nil,fun e he => by cases he⟩
theorem MapOf.qc {w w' : World} {b : Nat} {enc : α → Value} {m : List (α × Value)} (h : MapOf w b enc m) (hb : w'.heap[b]? = w.heap[b]?) : MapOf w' b enc m:=by
 obtain ⟨es,clock,h1,h2⟩:=h
 exact ⟨es,clock,by rw [hb];exact h1,h2⟩
section
variable [DecidableEq α]
theorem MapOf.lookup {P : Program} {w : World} {b : Nat} {kt et t : TypeId} {enc : α → Value} {m : List (α × Value)} (h : MapOf w b enc m) (K : zeR P kt enc) (ht : P.underlying t = some (.map kt et))
 {z : Value} (hz : (zeroValue et).run P w = .ok z w) (x : α) (ok : Bool) :
 (Instr.lookup t (.map (some b)) (enc x) ok).run P w = .ok (if ok then .tuple #[(assoc m x).getD z,.bool (assoc m x).isSome] else (assoc m x).getD z) w:=by
 obtain ⟨es,clock,h1,h2,_⟩:=h
 simp only [Instr.lookup,Sem.run_bind,run_underlying ht,Result.andThen_ok,zay h1,Sem.run_pure,K.check,K.find x m es.toList h2]
 unfold assoc
 cases zL x m with
 | none => simp only [Sem.run_bind,hz,Result.andThen_ok,Sem.run_pure];rfl
 | some r => obtain ⟨i,v⟩:=r;simp only [Sem.run_bind,Result.andThen_ok,Sem.run_pure];rfl
end
def zF (w : World) (b : Nat) (o : Obj) : World:={ w with heap:=w.heap.setIfInBounds b o }
theorem zbs {w : World} {b : Nat} (o : Obj) (h : b < w.heap.size) : (zF w b o).heap[b]? = some o:=by simp [zF,h]
theorem yZ {w : World} {b k : Nat} (o : Obj) (h : k ≠ b) : (zF w b o).heap[k]? = w.heap[k]?:=by
 simp only [zF,Array.getElem?_setIfInBounds];rw [if_neg (fun e => h e.symm)]
theorem zgD {w : World} {B b : Nat} (o : Obj) (h : B ≤ b) : Below B w (zF w b o) :=
 ⟨rfl,rfl,rfl,by simp [zF],fun k hk => yZ o (by omega)⟩
section
variable [DecidableEq α]
theorem MapOf.update {P : Program} {w : World} {b : Nat} {kt et t : TypeId} {enc : α → Value} {m : List (α × Value)} (h : MapOf w b enc m) (K : zeR P kt enc) (ht : P.underlying t = some (.map kt et))
 (x : α) (v : Value) : ∃ o,(Instr.mapUpdate t (.map (some b)) (enc x) v).run P w = .ok () (zF w b o) ∧ MapOf (zF w b o) b enc (zW m x v):=by
 have hlt:=h.lt
 obtain ⟨es,clock,h1,h2,h3,h4,h5⟩:=h
 have hrun : (Instr.mapUpdate t (.map (some b)) (enc x) v).run P w = (match zL x m with
  | some (i,_) => (setObj b (.map (es.modify i fun e => { e with key:=enc x,val:=v }) clock)).run P w
  | none => (setObj b (.map (es.push { key:=enc x,val:=v,born:=clock }) (clock + 1))).run P w):=by
  simp only [Instr.mapUpdate,Sem.run_bind,run_underlying ht,Result.andThen_ok,zay h1,K.check,K.find x m es.toList h2]
  cases hx : zL x m with
  | none => rfl
  | some r =>
   obtain ⟨i,u⟩:=r
   have hi : es[i]?.map (fun e => (e.key,e.val)) = some (enc x,u):=by
    have h6:=qA hx
    have h7:=congrArg (·[i]?) h2
    simp only [List.getElem?_map,h6,Option.map_some,Array.getElem?_toList] at h7
    exact h7
   obtain ⟨e,he,hek⟩:=Option.map_eq_some_iff.1 hi
   simp only [Prod.mk.injEq] at hek
   simp only [he,Option.map_some,Option.getD_some,hek.1,Instr.keyThatStays,K.bits,if_true,Sem.run_bind,Sem.run_pure,Result.andThen_ok]
 rw [hrun]
 cases hx : zL x m with
 | none =>
  refine ⟨_,zbS _ h1,_,_,zbs _ hlt,?_,?_,?_,?_⟩
  · simp only [zW,hx];simp [h2]
  ·
   simp only [zW,hx,List.map_append,List.map_cons,List.map_nil]
   rw [List.nodup_append]
   refine ⟨h3,by simp,fun a ha c hc => ?_⟩
   simp only [List.mem_singleton] at hc
   subst hc
   obtain ⟨p,hp,rfl⟩:=List.mem_map.1 ha
   exact zcE hx p hp
  ·
   simp only [Array.toList_push,List.map_append,List.map_cons,List.map_nil]
   rw [List.pairwise_append]
   refine ⟨h4,List.pairwise_singleton _ _,fun a ha c hc => ?_⟩
   simp only [List.mem_singleton] at hc
   subst hc
   obtain ⟨e,he,rfl⟩:=List.mem_map.1 ha
   exact h5 e he
  ·
   intro e he
   simp only [Array.toList_push,List.mem_append,List.mem_singleton] at he
   rcases he with he | rfl
   · exact Nat.lt_succ_of_lt (h5 e he)
   · exact Nat.lt_succ_self _
 | some r =>
  obtain ⟨i,u⟩:=r
  have hkeys:=ziW (v:=v) hx
  have hmod : ∀ j,(es.modify i fun e => { e with key:=enc x,val:=v })[j]? = (es[j]?).map fun e => if i = j then { e with key:=enc x,val:=v } else e:=by
   intro j
   rw [Array.getElem?_modify]
   split
   · rfl
   · cases es[j]? <;> rfl
  have hborn : (es.modify i fun e => { e with key:=enc x,val:=v }).toList.map (·.born) = es.toList.map (·.born):=by
   apply List.ext_getElem?
   intro j
   simp only [List.getElem?_map,Array.getElem?_toList,hmod,Option.map_map]
   cases es[j]? with
   | none => rfl
   | some e => simp only [Option.map_some,Function.comp];split <;> rfl
  refine ⟨_,zbS _ h1,_,_,zbs _ hlt,?_,?_,?_,?_⟩
  ·
   simp only [zW,hx]
   apply List.ext_getElem?
   intro j
   have h7:=congrArg (·[j]?) h2
   simp only [List.getElem?_map,Array.getElem?_toList] at h7
   simp only [List.getElem?_map,Array.getElem?_toList,hmod,List.getElem?_set,Option.map_map]
   by_cases e : i = j
   ·
    subst e
    rw [qA hx] at h7
    obtain ⟨e',he',_⟩:=Option.map_eq_some_iff.1 h7
    have hlen:=(List.getElem?_eq_some_iff.1 (qA hx)).1
    simp [he',hlen]
   ·
    simp only [if_neg e]
    rw [← h7]
    cases es[j]? <;> rfl
  · simp only [zW,hx,hkeys];exact h3
  · rw [hborn];exact h4
  ·
   intro e he
   have : e.born ∈ es.toList.map (·.born):=by rw [← hborn];exact List.mem_map.2 ⟨e,he,rfl⟩
   obtain ⟨e',he',h8⟩:=List.mem_map.1 this
   rw [← h8];exact h5 e' he'
theorem xg {P : Program} {w : World} {ops : Array Oper} {rest : List Oper} {o : Oper} {a : Act} {Q : Exit → Act → World → Prop}
 (hg : o.guard = none) (m x : Operand) (t : TypeId) (ok : Bool) (hop : o.op = Op.lookup t m x ok) {kt et : TypeId} {enc : α → Value} (K : zeR P kt enc) (ht : P.underlying t = some (.map kt et))
 {z : Value} (hz : (zeroValue et).run P w = .ok z w) {b : Nat} (hm : a.eval m = .map (some b)) {l : List (α × Value)} (h : MapOf w b enc l) {k : α} (hx : a.eval x = enc k)
 (hK : wpList P ops Q rest (a.put o.dst (if ok then .tuple #[(assoc l k).getD z,.bool (assoc l k).isSome] else (assoc l k).getD z)) w) :
 wpList P ops Q (o :: rest) a w:=by
 refine wpList_plain hg fun K' hK' => ?_
 have hrun:=h.lookup K ht hz k ok
 unfold Oper.wp
 simp only [execOp,hop,hm,hx,hrun,Sem.run_bind,Result.andThen_ok,Sem.run_pure]
 exact hK' _ _ hK
theorem yu {P : Program} {w : World} {ops : Array Oper} {rest : List Oper} {o : Oper} {a : Act} {Q : Exit → Act → World → Prop}
 (hg : o.guard = none) (m x v : Operand) (t : TypeId) (hop : o.op = Op.mapUpdate t m x v) {kt et : TypeId} {enc : α → Value} (K : zeR P kt enc) (ht : P.underlying t = some (.map kt et))
 {b : Nat} (hm : a.eval m = .map (some b)) {l : List (α × Value)} (h : MapOf w b enc l) {k : α} (hx : a.eval x = enc k) (u : Value) (hv : a.eval v = u)
 (hK : ∀ ob,MapOf (zF w b ob) b enc (zW l k u) → wpList P ops Q rest (a.put o.dst undef) (zF w b ob)) :
 wpList P ops Q (o :: rest) a w:=by
 refine wpList_plain hg fun K' hK' => ?_
 obtain ⟨ob,hrun,h2⟩:=h.update K ht k u
 unfold Oper.wp
 simp only [execOp,hop,hm,hx,hv,hrun,Sem.run_bind,Result.andThen_ok,Sem.run_pure]
 exact hK' _ _ (hK ob h2)
end
end
theorem zhO (n : Nat) (q : IntKind) (x : Int) : Instr.sameBits n (.int q x) (.int q x) = true:=by cases n <;> simp [Instr.sameBits]
theorem zdb {P : Program} {kt : TypeId} {q : IntKind} (hk : P.underlying kt = some (.int q)) (n : Nat) (b : Bool) (x : Int) (w : World) : (Instr.checkKey b (n + 1) kt (.int q x)).run P w = .ok () w:=by
 simp [Instr.checkKey,run_underlying hk]
theorem kg {P : Program} {kt : TypeId} {q : IntKind} (hk : P.underlying kt = some (.int q)) : zeR P kt (Value.int q) where
 check:=fun b x w => zdb hk 9999 b x w
 bits:=fun x => zhO _ q x
 find:=by
  intro x ms es h w
  have key : ∀ (es : List MapEntry) (ms : List (Int × Value)) (i : Nat),es.map (fun e => (e.key,e.val)) = ms.map (fun p => (Value.int q p.1,p.2)) →
   Instr.findNow (.int q) (.int q x) es i = some ((zL x ms).map fun r => (r.1 + i,r.2)):=by
   intro es
   induction es with
   | nil => intro ms i h;cases ms with
    | nil => rfl
    | cons p l => cases h
   | cons e es ih =>
    intro ms i h
    cases ms with
    | nil => cases h
    | cons p l =>
     simp only [List.map_cons,List.cons.injEq,Prod.mk.injEq] at h
     obtain ⟨⟨h1,h2⟩,h3⟩:=h
     simp only [Instr.findNow,h1,Instr.sameNow,if_true,zL]
     by_cases e2 : p.1 = x
     · simp [e2,h2]
     ·
      have e3 : (x == p.1) = false:=by simp;exact fun h => e2 h.symm
      simp only [e3,if_neg e2,ih l (i + 1) h3,Option.map_map]
      congr 2
      funext r
      simp [Function.comp];omega
  have h1:=key es ms 0 h
  simp only [Instr.findKey,Sem.run_bind,run_underlying hk,Result.andThen_ok,h1]
  simp
theorem zhG (n : Nat) (x : ByteArray) : Instr.sameBits n (.string x) (.string x) = true:=by
 cases n <;> (unfold Instr.sameBits;rw [beq_toListBytes];simp)
theorem zhN {P : Program} {kt : TypeId} (hk : P.underlying kt = some .string) (n : Nat) (b : Bool) (x : ByteArray) (w : World) : (Instr.checkKey b (n + 1) kt (.string x)).run P w = .ok () w:=by
 simp [Instr.checkKey,run_underlying hk]
theorem zrj {P : Program} {kt : TypeId} (hk : P.underlying kt = some .string) : zeR P kt Value.string where
 check:=fun b x w => zhN hk 9999 b x w
 bits:=fun x => zhG _ x
 find:=by
  intro x ms es h w
  have key : ∀ (es : List MapEntry) (ms : List (ByteArray × Value)) (i : Nat),es.map (fun e => (e.key,e.val)) = ms.map (fun p => (Value.string p.1,p.2)) →
   Instr.findNow .string (.string x) es i = some ((zL x ms).map fun r => (r.1 + i,r.2)):=by
   intro es
   induction es with
   | nil => intro ms i h;cases ms with
    | nil => rfl
    | cons p l => cases h
   | cons e es ih =>
    intro ms i h
    cases ms with
    | nil => cases h
    | cons p l =>
     simp only [List.map_cons,List.cons.injEq,Prod.mk.injEq] at h
     obtain ⟨⟨h1,h2⟩,h3⟩:=h
     simp only [Instr.findNow,h1,Instr.sameNow,zL]
     by_cases e2 : p.1 = x
     ·
      have e3 : (x == p.1) = true:=by rw [beq_toListBytes,e2];simp
      simp only [e3,if_pos e2]
      simp [h2]
     ·
      have e3 : (x == p.1) = false:=by
       rw [beq_toListBytes,beq_eq_false_iff_ne,ByteArray.toList_eq,ByteArray.toList_eq]
       exact fun q => e2 (ByteArray.ext (Array.toList_inj.1 q.symm))
      simp only [e3,if_neg e2,ih l (i + 1) h3,Option.map_map]
      congr 2
      funext r
      simp [Function.comp];omega
  have h1:=key es ms 0 h
  simp only [Instr.findKey,Sem.run_bind,run_underlying hk,Result.andThen_ok,h1]
  simp
theorem zb0 {α : Type} {P : Program} {w : World} {ops : Array Oper} {rest : List Oper} {o : Oper} {a : Act} {Q : Exit → Act → World → Prop} (hg : o.guard = none) (x : Operand) (t : TypeId) (hop : o.op = Op.call { callee:=Callee.builtin Builtin.len,args:=#[x],argTypes:=#[t] }) {kt et : TypeId} (ht : P.underlying t = some (.map kt et)) {b : Nat} {enc : α → Value} {l : List (α × Value)} (hm : a.eval x = .map (some b)) (h : MapOf w b enc l)
 (hK : wpList P ops Q rest (a.put o.dst (.int .i64 l.length)) w) : wpList P ops Q (o :: rest) a w:=by
 obtain ⟨es,clock,h1,h2,_⟩:=h
 have hsz : es.size = l.length:=by simpa using congrArg List.length h2
 have hr : (Builtin.len_ #[t] o.type #[.map (some b)]).run P w = .ok (.int .i64 l.length) w:=by
  simp [Builtin.len_,Sem.run_bind,run_underlying ht,zay h1,goInt,hsz]
 refine wpList_plain hg fun K' hK' => ?_
 unfold Oper.wp
 simp [execOp,hop,resolve,invoke,builtin,hm,hr,Result.andThen]
 exact hK' _ _ hK
theorem zgt {m : List (ByteArray × Value)} {x : ByteArray} {u : Value} : ∀ k,k ∈ (zW m x u).map (·.1) ↔ k = x ∨ k ∈ m.map (·.1):=by
 intro k
 unfold zW
 cases hx : zL x m with
 | none => simp [or_comm]
 | some r =>
  obtain ⟨i,v⟩:=r
  have h1:=ziW (v:=u) hx
  have h2:=qA hx
  simp only
  rw [h1]
  constructor
  · exact .inr
  ·
   rintro (rfl | h)
   · exact List.mem_map.2 ⟨_,List.mem_of_getElem? h2,rfl⟩
   · exact h
theorem MapOf.nodup {w : World} {b : Nat} {enc : ByteArray → Value} {m : List (ByteArray × Value)} (h : MapOf w b enc m) : (m.map (·.1)).Nodup:=by
 obtain ⟨_,_,_,_,h,_⟩:=h;exact h
theorem zeQ (a b : List zm) : zM (a ++ b) = zM a ++ zM b:=by unfold zM;rw [List.filter_append,List.map_append]
theorem ziK (x : zm) : zM [x] = if x.kind = 1 then [x.item] else []:=by
 unfold zM
 by_cases h : x.kind = 1
 · rw [List.filter_cons_of_pos (by simpa using h),if_pos h];rfl
 · rw [List.filter_cons_of_neg (by simpa using h),if_neg h];rfl
theorem zbe (ls : List zm) (k : Nat) (h : k < ls.length) : zM (ls.take (k + 1)) = zM (ls.take k) ++ if ls[k].kind = 1 then [ls[k].item] else []:=by
 rw [List.take_succ_eq_append_getElem h,zeQ,ziK]
theorem zcD (ls : List zm) (k : Nat) (h : k < ls.length) : zM ls = zM (ls.take k) ++ ((if ls[k].kind = 1 then [ls[k].item] else []) ++ zM (ls.drop (k + 1))):=by
 conv => lhs;rw [← List.take_append_drop (k + 1) ls,zeQ,zbe ls k h,List.append_assoc]
theorem zny {ls : List zm} {x : zm} (hx : x ∈ ls) (h : zX x ≠ 0) : ¬ jW ls:=fun q => h (q.check x hx)
theorem zpg {ls : List zm} {k : Nat} (h : k < ls.length) (h1 : ls[k].kind = 1) (h2 : ls[k].item ∈ zM (ls.take k)) : ¬ jW ls:=fun q => by
 have:=q.twice
 rw [zcD ls k h,if_pos h1] at this
 exact (List.nodup_append.1 this).2.2 _ h2 _ (by simp) rfl
theorem zpB {ls : List zm} {k : Nat} (h : k < ls.length) (h1 : ls[k].kind = 1) (h2 : (zM (ls.take k)).length = 24) : ¬ jW ls:=fun q => by
 have:=q.most
 rw [zcD ls k h,if_pos h1] at this
 simp at this
 omega
theorem zoh {ls : List zm} {l : List ByteArray} (h1 : l.Nodup) (h2 : ∀ n ∈ l,∃ x ∈ ls,x.kind = 1 ∧ x.name = n) (h3 : 8 < l.length) : ¬ jW ls:=fun q => by
 have:=q.names l h1 h2;omega
theorem zoH {ls : List zm} {x : zm} (hx : x ∈ ls) (hk : x.kind = 2 ∨ x.kind = 3) (h : x.item ∉ zM ls) : ¬ jW ls:=fun q => h (q.there x hx hk)
theorem zqK {ls : List zm} (h : 100 < ls.length) : ¬ jW ls:=fun q => by have:=q.few;omega
theorem kR {α : Type} : ∀ {l m : List α},l.Nodup → (∀ x ∈ l,x ∈ m) → l.length ≤ m.length
 | [],m,_,_ => znz _
 | x :: l,m,h1,h2 => by
  obtain ⟨a,b,rfl⟩:=List.append_of_mem (h2 x (List.mem_cons_self ..))
  have hn:=List.nodup_cons.1 h1
  have:=kR (m:=a ++ b) hn.2 (fun y hy => by
   have hy2:=h2 y (List.mem_cons_of_mem _ hy)
   rcases List.mem_append.1 hy2 with q | q
   · exact List.mem_append_left _ q
   ·
    rcases List.mem_cons.1 q with rfl | q
    · exact absurd hy hn.1
    · exact List.mem_append_right _ q)
  simp only [List.length_append,List.length_cons] at this ⊢
  omega
structure zbG (w wr : World) (vi : Value) (m : List (ByteArray × Value)) (ls : List zm) (k : Nat) : Prop where
 below : Below w.heap.size w wr
 box : wr.heap[w.heap.size]? = some (.cells #[.slice none 0 0,vi] 142 (0,0))
 its : z8 wr (w.heap.size + 2) vi (zM (ls.take k))
 map : MapOf wr (w.heap.size + 1) Value.string m
 keys : ∀ n,n ∈ m.map (·.1) ↔ ∃ x ∈ ls.take k,x.kind = 1 ∧ x.name = n
 m8 : m.length ≤ 8
 chk : ∀ x ∈ ls.take k,zX x = 0
 nod : (zM (ls.take k)).Nodup
 few : (zM (ls.take k)).length ≤ 24
 size : w.heap.size + 2 ≤ wr.heap.size
theorem zbG.mono {w wr w' : World} {vi : Value} {m : List (ByteArray × Value)} {ls : List zm} {k : Nat} (h : zbG w wr vi m ls k) (hb : Below wr.heap.size wr w') : zbG w w' vi m ls k :=
 ⟨h.below.trans (hb.mono h.below.size),(hb.block _ (zlb h.box)).trans h.box,h.its.below hb,h.map.qc (hb.block _ h.map.lt),h.keys,h.m8,h.chk,h.nod,h.few,Nat.le_trans h.size hb.size⟩
theorem zbG.skip {w wr : World} {vi : Value} {m : List (ByteArray × Value)} {ls : List zm} {k : Nat} (h : zbG w wr vi m ls k) (hk : k < ls.length) (h1 : ls[k].kind ≠ 1) (h2 : zX ls[k] = 0) : zbG w wr vi m ls (k + 1):=by
 have e:=zbe ls k hk
 rw [if_neg h1,List.append_nil] at e
 have et:=List.take_succ_eq_append_getElem hk
 refine ⟨h.below,h.box,by rw [e];exact h.its,h.map,fun n => ?_,h.m8,fun x hx => ?_,by rw [e];exact h.nod,by rw [e];exact h.few,h.size⟩
 ·
  rw [h.keys,et]
  constructor
  · rintro ⟨x,hx,h3⟩;exact ⟨x,List.mem_append_left _ hx,h3⟩
  ·
   rintro ⟨x,hx,h3,h4⟩
   rcases List.mem_append.1 hx with q | q
   · exact ⟨x,q,h3,h4⟩
   · rw [List.mem_singleton.1 q] at h3;exact absurd h3 h1
 ·
  rw [et] at hx
  rcases List.mem_append.1 hx with q | q
  · exact h.chk x q
  · rw [List.mem_singleton.1 q];exact h2
theorem zbG.ziy {w wr : World} {vi : Value} {m : List (ByteArray × Value)} {ls : List zm} {k : Nat} (h : zbG w wr vi m ls k) (hk : k < ls.length) (h1 : ls[k].kind = 1) (u : Value) :
 ∀ n,n ∈ (zW m ls[k].name u).map (·.1) ↔ ∃ x ∈ ls.take (k + 1),x.kind = 1 ∧ x.name = n:=by
 intro n
 rw [zgt,h.keys,List.take_succ_eq_append_getElem hk]
 constructor
 ·
  rintro (rfl | ⟨x,hx,h3⟩)
  · exact ⟨_,List.mem_append_right _ (List.mem_singleton.2 rfl),h1,rfl⟩
  · exact ⟨x,List.mem_append_left _ hx,h3⟩
 ·
  rintro ⟨x,hx,h3,h4⟩
  rcases List.mem_append.1 hx with q | q
  · exact .inr ⟨x,q,h3,h4⟩
  · rw [List.mem_singleton.1 q] at h4;exact .inl h4.symm
theorem zbG.put {w wr w' : World} {vi vi' : Value} {m : List (ByteArray × Value)} {ls : List zm} {k : Nat} (h : zbG w wr vi m ls k) (hk : k < ls.length) (h1 : ls[k].kind = 1) (h2 : zX ls[k] = 0) (h3 : ls[k].item ∉ zM (ls.take k)) (h4 : (zM (ls.take k)).length ≠ 24) (u : Value) (h8 : (zW m ls[k].name u).length ≤ 8)
 (hbel : Below w.heap.size w w') (hbox : w'.heap[w.heap.size]? = some (.cells #[.slice none 0 0,vi'] 142 (0,0))) (hits : z8 w' (w.heap.size + 2) vi' (zM (ls.take k) ++ [ls[k].item])) (hmap : MapOf w' (w.heap.size + 1) Value.string (zW m ls[k].name u)) (hsz : w.heap.size + 2 ≤ w'.heap.size) : zbG w w' vi' (zW m ls[k].name u) ls (k + 1):=by
 have e:=zbe ls k hk
 rw [if_pos h1] at e
 refine ⟨hbel,hbox,by rw [e];exact hits,hmap,h.ziy hk h1 u,h8,fun x hx => ?_,?_,?_,hsz⟩
 ·
  rw [List.take_succ_eq_append_getElem hk] at hx
  rcases List.mem_append.1 hx with q | q
  · exact h.chk x q
  · rw [List.mem_singleton.1 q];exact h2
 ·
  rw [e,List.nodup_append]
  exact ⟨h.nod,by simp,fun a ha b hb => by rw [List.mem_singleton.1 hb];exact fun q => h3 (q ▸ ha)⟩
 ·
  rw [e,List.length_append]
  have:=h.few
  simp;omega
theorem zbG.all {w wr : World} {vi : Value} {m : List (ByteArray × Value)} {ls : List zm} (h : zbG w wr vi m ls ls.length) (hn : ls.length ≤ 100) (hth : ∀ x ∈ ls,x.kind = 2 ∨ x.kind = 3 → x.item ∈ zM ls) : jW ls:=by
 have e : ls.take ls.length = ls:=List.take_length
 refine ⟨hn,fun x hx => h.chk x (by rw [e];exact hx),by have:=h.nod;rwa [e] at this,fun l h1 h2 => ?_,by have:=h.few;rwa [e] at this,hth⟩
 have : l.length ≤ (m.map (·.1)).length:=kR h1 (fun n hn => by rw [h.keys,e];exact h2 n hn)
 rw [List.length_map] at this
 exact Nat.le_trans this h.m8
def NewP (ls : List zm) (w : World) (e : Ending) (w' : World) : Prop :=
 ((∃ p items,e = .returned (.tuple #[.pointer (some ⟨p,0,none⟩),.nilIface]) ∧ zbP w' p ls items ∧ w.heap.size ≤ p) ∨
  (∃ er,e = .returned (.tuple #[.pointer none,er]) ∧ ¬ jW ls ∧ ((∃ k,er = .iface 45 (.int .i64 k)) ∨ ∃ q k pl,er = .iface 156 (.pointer (some ⟨q,0,none⟩)) ∧ w'.heap[q]? = some (.cells #[.int .i64 k,.int .i64 pl] 158 (0,0)) ∧ 0 ≤ pl ∧ pl < ls.length))) ∧ Below w.heap.size w w'
