import Derived.Test.YtmlfelbkgoplhaaGreatDoorZfPkM
import Derived.Laws.StructEq
import Derived.Deep.Matrix
import Derived.Deep.QuietTactic
import Derived.BigQuiet
import Derived.BigRegion
import Derived.IntWalk
import Derived.Outline
import Derived.Deep.OwnRows
import Derived.WalkKit
set_option linter.unusedVariables false
namespace Go.Proofs.YtmlfelbkgoplhaaGreatDoor
abbrev Nd:=Int × Int × Int
structure jw (h : Nd → Nat) (nodes : Nat → Nd) (S : Nat → Prop) (tab : List Int) : Prop where
 ent : ∀ i,i < tab.length → tab.getD i 0 ≠ 0 → ∃ k : Nat,S k ∧ tab.getD i 0 = (k : Int) + 2
 once : ∀ i j,i < tab.length → j < tab.length → tab.getD i 0 ≠ 0 → tab.getD i 0 = tab.getD j 0 → i = j
 look : ∀ k,S k → ∃ j,j < tab.length ∧ tab.getD ((h (nodes k) + j) % tab.length) 0 = (k : Int) + 2 ∧ ∀ j',j' < j → tab.getD ((h (nodes k) + j') % tab.length) 0 ≠ 0
 uniq : ∀ k k',S k → S k' → nodes k = nodes k' → k = k'
def Stops (nodes : Nat → Nd) (tab : List Int) (n : Nd) (i : Nat) : Prop:=tab.getD i 0 = 0 ∨ ∃ k : Nat,tab.getD i 0 = (k : Int) + 2 ∧ nodes k = n
structure zaO (h : Nd → Nat) (nodes : Nat → Nd) (tab : List Int) (n : Nd) (i : Nat) : Prop where
 lt : i < tab.length
 stops : Stops nodes tab n i
 walk : ∃ j,j < tab.length ∧ i = (h n + j) % tab.length ∧ ∀ j',j' < j → ¬ Stops nodes tab n ((h n + j') % tab.length)
theorem zab {tab : List Int} {i j : Nat} {v : Int} (hi : i < tab.length) : (tab.set i v).getD j 0 = if j = i then v else tab.getD j 0:=by
 rw [List.getD_eq_getElem?_getD,List.getElem?_set,List.getD_eq_getElem?_getD]
 by_cases e : i = j
 · subst e;simp [hi]
 · rw [if_neg e,if_neg (fun e2 => e e2.symm)]
theorem zaO.found {h : Nd → Nat} {nodes : Nat → Nd} {S : Nat → Prop} {tab : List Int} {n : Nd} {i : Nat} (t : jw h nodes S tab) (p : zaO h nodes tab n i) (h0 : tab.getD i 0 ≠ 0) :
 ∃ k : Nat,S k ∧ nodes k = n ∧ tab.getD i 0 = (k : Int) + 2:=by
 rcases p.stops with h1 | ⟨k,h1,h2⟩
 · exact absurd h1 h0
 ·
  obtain ⟨k',hk',e⟩:=t.ent i p.lt h0
  have : k = k':=by omega
  subst this
  exact ⟨k,hk',h2,h1⟩
theorem zaO.free {h : Nd → Nat} {nodes : Nat → Nd} {S : Nat → Prop} {tab : List Int} {n : Nd} {i : Nat} (t : jw h nodes S tab) (p : zaO h nodes tab n i) (h0 : tab.getD i 0 = 0) : ∀ k,S k → nodes k ≠ n:=by
 intro k hk e
 obtain ⟨j,hj,hjs,hj'⟩:=t.look k hk
 rw [e] at hjs hj'
 obtain ⟨j0,hj0,hi,hw⟩:=p.walk
 rcases Nat.lt_trichotomy j0 j with h1 | h1 | h1
 · exact hj' j0 h1 (by rw [← hi];exact h0)
 ·
  subst h1
  rw [← hi,h0] at hjs;omega
 · exact hw j h1 (.inr ⟨k,hjs,e⟩)
theorem jw.insert {h : Nd → Nat} {nodes nodes' : Nat → Nd} {S : Nat → Prop} {tab : List Int} {n : Nd} {i k : Nat} (t : jw h nodes S tab) (p : zaO h nodes tab n i) (h0 : tab.getD i 0 = 0) (hk : ¬ S k)
 (hn : ∀ k',S k' → nodes' k' = nodes k') (hnk : nodes' k = n) : jw h nodes' (fun x => S x ∨ x = k) (tab.set i ((k : Int) + 2)):=by
 have hlt:=p.lt
 have hfree:=p.free t h0
 have notk : ∀ j,j < tab.length → tab.getD j 0 ≠ (k : Int) + 2:=by
  intro j hj e
  obtain ⟨k',hk',e'⟩:=t.ent j hj (by omega)
  have : k' = k:=by omega
  exact hk (this ▸ hk')
 have hpos : 0 < tab.length:=by omega
 refine ⟨fun j hj hne => ?_,fun a b ha hb hne he => ?_,fun x hx => ?_,fun x y hx hy e => ?_⟩
 ·
  rw [List.length_set] at hj
  rw [zab hlt] at hne ⊢
  by_cases e : j = i
  · rw [if_pos e];exact ⟨k,.inr rfl,rfl⟩
  ·
   rw [if_neg e] at hne ⊢
   obtain ⟨k',h1,h2⟩:=t.ent j hj hne
   exact ⟨k',.inl h1,h2⟩
 ·
  rw [List.length_set] at ha hb
  rw [zab hlt] at hne he
  rw [zab hlt] at he
  by_cases e1 : a = i
  ·
   by_cases e2 : b = i
   · rw [e1,e2]
   ·
    rw [if_pos e1,if_neg e2] at he
    exact absurd he.symm (notk b hb)
  ·
   by_cases e2 : b = i
   ·
    rw [if_neg e1,if_pos e2] at he
    exact absurd he (notk a ha)
   ·
    rw [if_neg e1] at hne
    rw [if_neg e1,if_neg e2] at he
    exact t.once a b ha hb hne he
 ·
  rw [List.length_set]
  rcases hx with hx | rfl
  ·
   rw [hn x hx]
   obtain ⟨j,hj,h1,h2⟩:=t.look x hx
   refine ⟨j,hj,?_,fun j' hj' => ?_⟩
   · rw [zab hlt,if_neg (fun e => by rw [e,h0] at h1;omega)];exact h1
   ·
    rw [zab hlt]
    split
    · omega
    · exact h2 j' hj'
  ·
   rw [hnk]
   obtain ⟨j,hj,hi,hw⟩:=p.walk
   refine ⟨j,hj,?_,fun j' hj' => ?_⟩
   · rw [zab hlt,if_pos hi.symm]
   ·
    rw [zab hlt]
    split
    · omega
    · intro e;exact hw j' hj' (.inl e)
 ·
  rcases hx with hx | rfl <;> rcases hy with hy | rfl
  · rw [hn x hx,hn y hy] at e;exact t.uniq x y hx hy e
  · rw [hn x hx,hnk] at e;exact absurd e (hfree x hx)
  · rw [hn y hy,hnk] at e;exact absurd e.symm (hfree y hy)
  · rfl
theorem zeJ (h : Nd → Nat) (nodes : Nat → Nd) (n : Nat) : jw h nodes (fun _ => False) (List.replicate n 0):=by
 have h0 : ∀ i,(List.replicate n (0 : Int)).getD i 0 = 0:=fun i => by
  rw [List.getD_eq_getElem?_getD,List.getElem?_replicate];split <;> rfl
 exact ⟨fun i _ hne => absurd (h0 i) hne,fun i j _ _ hne => absurd (h0 i) hne,fun k hk => hk.elim,fun k _ hk => hk.elim⟩
theorem jw.congr {h : Nd → Nat} {nodes nodes' : Nat → Nd} {S S' : Nat → Prop} {tab : List Int} (t : jw h nodes S tab) (hs : ∀ k,S k ↔ S' k) (hn : ∀ k,S k → nodes' k = nodes k) : jw h nodes' S' tab :=
 ⟨fun i hi hne => let ⟨k,h1,h2⟩:=t.ent i hi hne;⟨k,(hs k).1 h1,h2⟩,t.once,fun k hk => by rw [hn k ((hs k).2 hk)];exact t.look k ((hs k).2 hk),
  fun k k' hk hk' e => t.uniq k k' ((hs k).2 hk) ((hs k').2 hk') (by rw [← hn k ((hs k).2 hk),← hn k' ((hs k').2 hk')];exact e)⟩
theorem zey : ∀ (B : Nat) (xs : List Nat),xs.Nodup → (∀ x ∈ xs,x < B) → xs.length ≤ B
 | 0,xs,_,h => by
  cases xs with
  | nil => simp
  | cons x _ => exact absurd (h x (by simp)) (Nat.not_lt_zero _)
 | B + 1,xs,hd,h => by
  have h1:=zey B (xs.erase B) (hd.erase B) (fun x hx => by
   have h2:=h x (List.mem_of_mem_erase hx)
   have h3 : x ≠ B:=fun e => by subst e;exact (List.Nodup.not_mem_erase hd) hx
   omega)
  have h4 : xs.length ≤ (xs.erase B).length + 1:=by rw [List.length_erase];split <;> omega
  omega
theorem jw.hole {h : Nd → Nat} {nodes : Nat → Nd} {S : Nat → Prop} {tab : List Int} (t : jw h nodes S tab) {R : Nat} (hS : ∀ k,S k → k < R) (hR : R < tab.length) : ∃ i,i < tab.length ∧ tab.getD i 0 = 0:=by
 refine Classical.byContradiction fun hno => ?_
 have hall : ∀ i,i < tab.length → ∃ k : Nat,S k ∧ tab.getD i 0 = (k : Int) + 2:=fun i hi => t.ent i hi (fun e => hno ⟨i,hi,e⟩)
 have h1 : ((List.range tab.length).map fun i => (tab.getD i 0 - 2).toNat).Nodup:=by
  rw [List.Nodup,List.pairwise_map]
  refine List.Pairwise.imp_of_mem (fun {a b} ha hb hne e => hne ?_) (List.nodup_range (n:=tab.length))
  rw [List.mem_range] at ha hb
  obtain ⟨k,_,h2⟩:=hall a ha
  obtain ⟨k',_,h3⟩:=hall b hb
  exact t.once a b ha hb (by omega) (by omega)
 have h2:=zey R _ h1 (fun x hx => by
  obtain ⟨i,hi,rfl⟩:=List.mem_map.1 hx
  obtain ⟨k,h3,h4⟩:=hall i (List.mem_range.1 hi)
  have:=hS k h3
  omega)
 simp at h2
 omega
theorem jw.stop {h : Nd → Nat} {nodes : Nat → Nd} {S : Nat → Prop} {tab : List Int} (t : jw h nodes S tab) {R : Nat} (hS : ∀ k,S k → k < R) (hR : R < tab.length) (n : Nd) (hn : h n < tab.length) : ∃ j,j < tab.length ∧ Stops nodes tab n ((h n + j) % tab.length):=by
 obtain ⟨i,hi,h0⟩:=t.hole hS hR
 rcases Nat.lt_or_ge i (h n) with h1 | h1
 ·
  refine ⟨i + tab.length - h n,by omega,.inl ?_⟩
  rw [show h n + (i + tab.length - h n) = i + tab.length by omega,Nat.add_mod_right,Nat.mod_eq_of_lt hi]
  exact h0
 ·
  refine ⟨i - h n,by omega,.inl ?_⟩
  rw [show h n + (i - h n) = i by omega,Nat.mod_eq_of_lt hi]
  exact h0
def Rch (nodes : Nat → Nd) (U : Nat → Prop) (start : List Int) (k : Nat) : Prop :=
 ∀ Q : Nat → Prop,(∀ k : Nat,U k → ((k : Int) + 2) ∈ start → Q k) → (∀ k k' : Nat,Q k → U k' → (nodes k).2.1 = (k' : Int) + 2 → Q k') → (∀ k k' : Nat,Q k → U k' → (nodes k).2.2 = (k' : Int) + 2 → Q k') → Q k
section
variable {nodes : Nat → Nd} {U : Nat → Prop} {s0 : List Int}
theorem Rch.start (k : Nat) (hu : U k) (hm : ((k : Int) + 2) ∈ s0) : Rch nodes U s0 k:=fun _ h _ _ => h k hu hm
theorem Rch.low (k k' : Nat) (h : Rch nodes U s0 k) (hu : U k') (e : (nodes k).2.1 = (k' : Int) + 2) : Rch nodes U s0 k':=fun Q h1 h2 h3 => h2 k k' (h Q h1 h2 h3) hu e
theorem Rch.high (k k' : Nat) (h : Rch nodes U s0 k) (hu : U k') (e : (nodes k).2.2 = (k' : Int) + 2) : Rch nodes U s0 k':=fun Q h1 h2 h3 => h3 k k' (h Q h1 h2 h3) hu e
theorem Rch.ind {Q : Nat → Prop} (h1 : ∀ k : Nat,U k → ((k : Int) + 2) ∈ s0 → Q k) (h2 : ∀ k k' : Nat,Rch nodes U s0 k → Q k → U k' → (nodes k).2.1 = (k' : Int) + 2 → Q k')
 (h3 : ∀ k k' : Nat,Rch nodes U s0 k → Q k → U k' → (nodes k).2.2 = (k' : Int) + 2 → Q k') {k : Nat} (h : Rch nodes U s0 k) : Q k :=
 (h (fun k => Rch nodes U s0 k ∧ Q k) (fun k hu hm => ⟨Rch.start k hu hm,h1 k hu hm⟩) (fun k k' ⟨hr,hq⟩ hu e => ⟨Rch.low k k' hr hu e,h2 k k' hr hq hu e⟩) (fun k k' ⟨hr,hq⟩ hu e => ⟨Rch.high k k' hr hu e,h3 k k' hr hq hu e⟩)).2
end
theorem Rch.used {nodes : Nat → Nd} {U : Nat → Prop} {start : List Int} {k : Nat} (h : Rch nodes U start k) : U k :=
 h U (fun _ h _ => h) (fun _ _ _ h _ => h) (fun _ _ _ h _ => h)
structure RInv (nodes : Nat → Nd) (U : Nat → Prop) (start : List Int) (seen : Nat → Prop) (todo : List Int) : Prop where
 sound : ∀ k,seen k → Rch nodes U start k
 zno : ∀ x ∈ todo,∀ k : Nat,x = (k : Int) + 2 → U k → Rch nodes U start k
 starts : ∀ x ∈ start,∀ k : Nat,x = (k : Int) + 2 → U k → seen k ∨ x ∈ todo
 lows : ∀ k,seen k → ∀ k' : Nat,(nodes k).2.1 = (k' : Int) + 2 → U k' → seen k' ∨ (nodes k).2.1 ∈ todo
 znm : ∀ k,seen k → ∀ k' : Nat,(nodes k).2.2 = (k' : Int) + 2 → U k' → seen k' ∨ (nodes k).2.2 ∈ todo
theorem zjP (nodes : Nat → Nd) (U : Nat → Prop) (start : List Int) : RInv nodes U start (fun _ => False) start :=
 ⟨fun _ h => h.elim,fun x hx k e hu => .start k hu (e ▸ hx),fun x hx _ _ _ => .inr hx,fun _ h => h.elim,fun _ h => h.elim⟩
theorem RInv.skip {nodes : Nat → Nd} {U : Nat → Prop} {start : List Int} {seen : Nat → Prop} {todo : List Int} {x : Int} (r : RInv nodes U start seen (todo ++ [x])) (hx : ∀ k : Nat,x = (k : Int) + 2 → U k → seen k) : RInv nodes U start seen todo:=by
 have key : ∀ y,y ∈ todo ++ [x] → ∀ k : Nat,y = (k : Int) + 2 → U k → seen k ∨ y ∈ todo:=by
  intro y hy k e hu
  rcases List.mem_append.1 hy with h | h
  · exact .inr h
  ·
   obtain rfl : y = x:=by simpa using h
   exact .inl (hx k e hu)
 refine ⟨r.sound,fun y hy => r.zno y (List.mem_append_left _ hy),fun y hy k e hu => ?_,fun k hk k' e hu => ?_,fun k hk k' e hu => ?_⟩
 · exact (r.starts y hy k e hu).elim .inl (fun h => key y h k e hu)
 · exact (r.lows k hk k' e hu).elim .inl (fun h => key _ h k' e hu)
 · exact (r.znm k hk k' e hu).elim .inl (fun h => key _ h k' e hu)
theorem RInv.see {nodes : Nat → Nd} {U : Nat → Prop} {start : List Int} {seen : Nat → Prop} {todo : List Int} {k0 : Nat} (r : RInv nodes U start seen (todo ++ [(k0 : Int) + 2])) (hu0 : U k0) :
 RInv nodes U start (fun k => seen k ∨ k = k0) (todo ++ [(nodes k0).2.1,(nodes k0).2.2]):=by
 have h0 : Rch nodes U start k0:=r.zno _ (by simp) k0 rfl hu0
 have key : ∀ y,y ∈ todo ++ [(k0 : Int) + 2] → ∀ k : Nat,y = (k : Int) + 2 → (seen k ∨ k = k0) ∨ y ∈ todo ++ [(nodes k0).2.1,(nodes k0).2.2]:=by
  intro y hy k e
  rcases List.mem_append.1 hy with h | h
  · exact .inr (List.mem_append_left _ h)
  ·
   have h1 : y = (k0 : Int) + 2:=by simpa using h
   exact .inl (.inr (by omega))
 refine ⟨fun k hk => hk.elim (r.sound k) (fun e => e ▸ h0),fun y hy k e hu => ?_,fun y hy k e hu => ?_,fun k hk k' e hu => ?_,fun k hk k' e hu => ?_⟩
 ·
  rcases List.mem_append.1 hy with h | h
  · exact r.zno y (List.mem_append_left _ h) k e hu
  ·
   simp at h
   rcases h with rfl | rfl
   · exact .low k0 k h0 hu e
   · exact .high k0 k h0 hu e
 · exact (r.starts y hy k e hu).elim (fun h => .inl (.inl h)) (fun h => key y h k e)
 ·
  rcases hk with hk | rfl
  · exact (r.lows k hk k' e hu).elim (fun h => .inl (.inl h)) (fun h => key _ h k' e)
  · exact .inr (by simp)
 ·
  rcases hk with hk | rfl
  · exact (r.znm k hk k' e hu).elim (fun h => .inl (.inl h)) (fun h => key _ h k' e)
  · exact .inr (by simp)
theorem RInv.done {nodes : Nat → Nd} {U : Nat → Prop} {start : List Int} {seen : Nat → Prop} (r : RInv nodes U start seen []) (k : Nat) : seen k ↔ Rch nodes U start k :=
 ⟨r.sound k,Rch.ind (Q:=seen) (fun k hu hm => (r.starts _ hm k rfl hu).elim id (fun h => by cases h)) (fun k k' _ ih hu e => (r.lows k ih k' e hu).elim id (fun h => by cases h))
  (fun k k' _ ih hu e => (r.znm k ih k' e hu).elim id (fun h => by cases h))⟩
abbrev Cells:=List (Option Nd)
def Cells.at (c : Cells) (k : Nat) : Option Nd:=c.getD k none
def getM (c : Cells) (h : Int) : Option Nd:=if h < 2 then none else c.at (h - 2).toNat
def zG (c : Cells) (h : Int) : Bool:=h == 0 || h == 1 || (getM c h).isSome
def zl (c : Cells) (h : Int) : Int:=match getM c h with | some n => n.1 | none => 24
def cnt (c : Cells) : Nat:=c.countP (·.isSome)
def zan (c : Cells) (n : Nd) : Option Nat:=c.findIdx? (· == some n)
def kF (c : Cells) : Option Nat:=c.findIdx? (· == none)
def zas (c : Cells) (n : Nd) : Nat :=
 if n.1 < 0 ∨ 24 ≤ n.1 then 2 else if zG c n.2.1 = false ∨ zG c n.2.2 = false then 7 else if zl c n.2.1 ≤ n.1 ∨ zl c n.2.2 ≤ n.1 then 10 else 0
def mkM (c : Cells) (n : Nd) : Cells × Int × Nat :=
 if zas c n ≠ 0 then (c,0,zas c n) else
  match zan c n with
  | some k => (c,(k : Int) + 2,0)
  | none => match kF c with
   | some k => (c.set k (some n),(k : Int) + 2,0)
   | none => (c,0,12)
theorem zg8 {c : Cells} {k : Nat} {n : Nd} (h : c.at k = some n) : k < c.length:=by
 unfold Cells.at at h
 rcases Nat.lt_or_ge k c.length with h1 | h1
 · exact h1
 · rw [List.getD_eq_getElem?_getD,List.getElem?_eq_none h1] at h;cases h
theorem zad {c : Cells} {k : Nat} (h : k < c.length) : c.at k = c[k]:=by unfold Cells.at;simp [h]
theorem zn5 {c : Cells} {k : Nat} (h : c.length ≤ k) : c.at k = none:=by
 unfold Cells.at;rw [List.getD_eq_getElem?_getD,List.getElem?_eq_none h];rfl
theorem at_set {c : Cells} {k : Nat} (o : Option Nd) (h : k < c.length) (j : Nat) : Cells.at (c.set k o) j = if j = k then o else c.at j:=by
 unfold Cells.at
 rw [List.getD_eq_getElem?_getD,List.getElem?_set,List.getD_eq_getElem?_getD]
 by_cases e : k = j
 · subst e;simp [h]
 · rw [if_neg e,if_neg (fun e2 => e e2.symm)]
theorem qb {c : Cells} (k : Nat) : getM c ((k : Int) + 2) = c.at k:=by
 unfold getM
 rw [if_neg (by omega),show ((k : Int) + 2 - 2).toNat = k by omega]
theorem getM_some {c : Cells} {h : Int} {n : Nd} (e : getM c h = some n) : ∃ k : Nat,h = (k : Int) + 2 ∧ c.at k = some n ∧ k < c.length:=by
 unfold getM at e
 split at e
 · cases e
 · exact ⟨(h - 2).toNat,by omega,e,zg8 e⟩
theorem qo {c : Cells} {h : Int} (e : zG c h = true) : h = 0 ∨ h = 1 ∨ ∃ (k : Nat) (n : Nd),h = (k : Int) + 2 ∧ c.at k = some n ∧ k < c.length:=by
 unfold zG at e
 simp only [Bool.or_eq_true,beq_iff_eq,Option.isSome_iff_exists] at e
 rcases e with (h0 | h1) | ⟨n,h2⟩
 · exact .inl h0
 · exact .inr (.inl h1)
 ·
  obtain ⟨k,h3,h4,h5⟩:=getM_some h2
  exact .inr (.inr ⟨k,n,h3,h4,h5⟩)
theorem zgU {c : Cells} {k : Nat} {n : Nd} (h : c.at k = some n) : zG c ((k : Int) + 2) = true:=by
 unfold zG;rw [qb,h];simp
theorem jk (c : Cells) : zG c 0 = true:=by simp [zG]
theorem qw (c : Cells) : zG c 1 = true:=by simp [zG]
theorem ziR {c : Cells} {h : Int} (e : zG c h = true) : 0 ≤ h:=by
 rcases qo e with h | h | ⟨k,_,h,_⟩ <;> omega
theorem xB {c : Cells} {h : Int} (e : zG c h = true) : h ≤ c.length + 1:=by
 rcases qo e with h | h | ⟨k,_,h,_,_⟩ <;> omega
theorem zbh {c : Cells} {n : Nd} {k : Nat} (h : zan c n = some k) : c.at k = some n:=by
 unfold zan at h
 rw [List.findIdx?_eq_some_iff_getElem] at h
 obtain ⟨h1,h2,_⟩:=h
 rw [zad h1];simpa using h2
theorem zc0 {c : Cells} {n : Nd} (h : zan c n = none) (k : Nat) : c.at k ≠ some n:=by
 intro e
 have h1:=zg8 e
 unfold zan at h
 rw [List.findIdx?_eq_none_iff] at h
 have h2:=h _ (List.getElem_mem h1)
 rw [zad h1] at e
 rw [e] at h2
 simp at h2
theorem znM {c : Cells} {n : Nd} {k : Nat} (hu : ∀ j,c.at j = some n → j = k) (h : c.at k = some n) : zan c n = some k:=by
 cases e : zan c n with
 | none => exact absurd h (zc0 e k)
 | some j => rw [hu j (zbh e)]
theorem xA {c : Cells} {k : Nat} (h : kF c = some k) : k < c.length ∧ c.at k = none ∧ ∀ j,j < k → (c.at j).isSome = true:=by
 unfold kF at h
 rw [List.findIdx?_eq_some_iff_getElem] at h
 obtain ⟨h1,h2,h3⟩:=h
 refine ⟨h1,by rw [zad h1];simpa using h2,fun j hj => ?_⟩
 have h4:=h3 j hj
 rw [zad (by omega)]
 simpa [Option.isSome_iff_ne_none] using h4
theorem zkA {c : Cells} (h : kF c = none) (k : Nat) (hk : k < c.length) : (c.at k).isSome = true:=by
 unfold kF at h
 rw [List.findIdx?_eq_none_iff] at h
 have h2:=h _ (List.getElem_mem hk)
 rw [zad hk]
 simpa [Option.isSome_iff_ne_none] using h2
theorem zm6 {c : Cells} {k : Nat} (h : k < c.length) (h0 : c.at k = none) (hl : ∀ j,j < k → (c.at j).isSome = true) : kF c = some k:=by
 unfold kF
 rw [List.findIdx?_eq_some_iff_getElem]
 refine ⟨h,by rw [zad h] at h0;simp [h0],fun j hj => ?_⟩
 have h1:=hl j hj
 rw [zad (by omega)] at h1
 simpa [Option.isSome_iff_ne_none] using h1
theorem zks {c : Cells} (h : ∀ k,k < c.length → (c.at k).isSome = true) : kF c = none:=by
 cases e : kF c with
 | none => rfl
 | some k => obtain ⟨h1,h2,_⟩:=xA e;have:=h k h1;rw [h2] at this;cases this
theorem zlk {c : Cells} {k : Nat} {n : Nd} (h : k < c.length) (h0 : c.at k = none) : cnt (c.set k (some n)) = cnt c + 1:=by
 unfold cnt
 rw [zad h] at h0
 rw [List.countP_set h,h0]
 simp
theorem zo1 (c : Cells) : cnt c ≤ c.length:=List.countP_le_length
theorem zol {c : Cells} (h : kF c = none) : cnt c = c.length:=by
 unfold cnt
 rw [List.countP_eq_length]
 intro o ho
 obtain ⟨k,hk,rfl⟩:=List.getElem_of_mem ho
 have:=zkA h k hk
 rwa [zad hk] at this
structure Ok (c : Cells) : Prop where
 var : ∀ k n,c.at k = some n → 0 ≤ n.1 ∧ n.1 < 24
 low : ∀ k n,c.at k = some n → zG c n.2.1 = true ∧ n.1 < zl c n.2.1
 high : ∀ k n,c.at k = some n → zG c n.2.2 = true ∧ n.1 < zl c n.2.2
 uniq : ∀ j k n,c.at j = some n → c.at k = some n → j = k
structure Ext (c c' : Cells) : Prop where
 len : c'.length = c.length
 old : ∀ k n,c.at k = some n → c'.at k = some n
theorem Ext.refl (c : Cells) : Ext c c:=⟨rfl,fun _ _ h => h⟩
theorem Ext.trans {a b c : Cells} (h : Ext a b) (g : Ext b c) : Ext a c:=⟨g.len.trans h.len,fun k n e => g.old k n (h.old k n e)⟩
theorem Ext.get {c c' : Cells} (e : Ext c c') {h : Int} {n : Nd} (g : getM c h = some n) : getM c' h = some n:=by
 obtain ⟨k,rfl,h1,_⟩:=getM_some g
 rw [qb];exact e.old k n h1
theorem Ext.has {c c' : Cells} (e : Ext c c') {h : Int} (g : zG c h = true) : zG c' h = true:=by
 rcases qo g with rfl | rfl | ⟨k,n,rfl,h1,_⟩
 · exact jk _
 · exact qw _
 · exact zgU (e.old k n h1)
theorem yK {c : Cells} {h : Int} (g : zG c h = true) (e : getM c h = none) : h = 0 ∨ h = 1:=by
 rcases qo g with h | h | ⟨k,n,rfl,h1,_⟩
 · exact .inl h
 · exact .inr h
 · rw [qb,h1] at e;cases e
theorem j4 (c : Cells) {h : Int} (e : h = 0 ∨ h = 1) : getM c h = none:=by
 unfold getM;rw [if_pos (by omega)]
theorem Ext.get_eq {c c' : Cells} (e : Ext c c') {h : Int} (g : zG c h = true) : getM c' h = getM c h:=by
 cases h1 : getM c h with
 | none => exact j4 c' (yK g h1)
 | some n => exact e.get h1
theorem Ext.top {c c' : Cells} (e : Ext c c') {h : Int} (g : zG c h = true) : zl c' h = zl c h:=by
 unfold zl;rw [e.get_eq g]
theorem zcf {c : Cells} (o : Ok c) (h : Int) : 0 ≤ zl c h ∧ zl c h ≤ 24:=by
 unfold zl
 cases e : getM c h with
 | none => simp
 | some n => obtain ⟨k,_,h1,_⟩:=getM_some e;have:=o.var k n h1;simp;omega
theorem zpz {c : Cells} {n : Nd} (h : zas c n = 0) : 0 ≤ n.1 ∧ n.1 < 24 ∧ zG c n.2.1 = true ∧ zG c n.2.2 = true ∧ n.1 < zl c n.2.1 ∧ n.1 < zl c n.2.2:=by
 unfold zas at h
 split at h
 · cases h
 ·
  split at h
  · cases h
  ·
   split at h
   · cases h
   ·
    rename_i h1 h2 h3
    simp only [not_or,Bool.not_eq_false,Int.not_le,Int.not_lt] at h1 h2 h3
    exact ⟨h1.1,h1.2,h2.1,h2.2,h3.1,h3.2⟩
theorem zgW {c : Cells} {n : Nd} (h1 : 0 ≤ n.1) (h2 : n.1 < 24) (h3 : zG c n.2.1 = true) (h4 : zG c n.2.2 = true) (h5 : n.1 < zl c n.2.1) (h6 : n.1 < zl c n.2.2) : zas c n = 0:=by
 unfold zas
 rw [if_neg (by omega),if_neg (by simp [h3,h4]),if_neg (by omega)]
theorem zla {c : Cells} {k : Nat} {n : Nd} (h : k < c.length) (h0 : c.at k = none) : Ext c (c.set k (some n)) :=
 ⟨by simp,fun j m e => by
  rw [at_set _ h]
  split
  · rename_i e2;subst e2;rw [h0] at e;cases e
  · exact e⟩
theorem zpY (c : Cells) (n : Nd) : Ext c (mkM c n).1:=by
 unfold mkM
 split
 · exact Ext.refl c
 ·
  split
  · exact Ext.refl c
  ·
   split
   · rename_i k h;exact zla (xA h).1 (xA h).2.1
   · exact Ext.refl c
theorem zre {c : Cells} {k : Nat} {n : Nd} (o : Ok c) (hb : zas c n = 0) (hf : zan c n = none) (h : k < c.length) (h0 : c.at k = none) : Ok (c.set k (some n)):=by
 have e:=zla (n:=n) h h0
 obtain ⟨b1,b2,b3,b4,b5,b6⟩:=zpz hb
 have key : ∀ j m,Cells.at (c.set k (some n)) j = some m → (j = k ∧ m = n) ∨ c.at j = some m:=by
  intro j m hj
  rw [at_set _ h] at hj
  split at hj
  · rename_i e1;exact .inl ⟨e1,by cases hj;rfl⟩
  · exact .inr hj
 refine ⟨fun j m hj => ?_,fun j m hj => ?_,fun j m hj => ?_,fun i j m hi hj => ?_⟩
 ·
  rcases key j m hj with ⟨_,rfl⟩ | h1
  · exact ⟨b1,b2⟩
  · exact o.var j m h1
 ·
  rcases key j m hj with ⟨_,rfl⟩ | h1
  · exact ⟨e.has b3,by rw [e.top b3];exact b5⟩
  · have:=o.low j m h1;exact ⟨e.has this.1,by rw [e.top this.1];exact this.2⟩
 ·
  rcases key j m hj with ⟨_,rfl⟩ | h1
  · exact ⟨e.has b4,by rw [e.top b4];exact b6⟩
  · have:=o.high j m h1;exact ⟨e.has this.1,by rw [e.top this.1];exact this.2⟩
 ·
  rcases key i m hi with ⟨h1,h2⟩ | h1 <;> rcases key j m hj with ⟨h3,h4⟩ | h3
  · rw [h1,h3]
  · subst h2;exact absurd h3 (zc0 hf j)
  · subst h4;exact absurd h1 (zc0 hf i)
  · exact o.uniq i j m h1 h3
theorem zrH {c : Cells} (o : Ok c) (n : Nd) : Ok (mkM c n).1:=by
 unfold mkM
 split
 · exact o
 ·
  rename_i hb
  split
  · exact o
  ·
   rename_i hf
   split
   · rename_i k h;exact zre o (by simpa using hb) hf (xA h).1 (xA h).2.1
   · exact o
theorem zk0 (c : Cells) (n : Nd) : cnt (mkM c n).1 ≤ cnt c + 1:=by
 unfold mkM
 split
 · simp
 ·
  split
  · simp
  ·
   split
   · rename_i k h;rw [zlk (xA h).1 (xA h).2.1];exact znr _
   · simp
theorem zpv {c : Cells} {n : Nd} (h : (mkM c n).2.2 = 0) : getM (mkM c n).1 (mkM c n).2.1 = some n:=by
 unfold mkM at h ⊢
 split
 · rename_i hb;rw [if_pos hb] at h;exact absurd h hb
 ·
  split
  · rename_i k hk;rw [qb];exact zbh hk
  ·
   rename_i hb _ hf
   split
   · rename_i k hk;rw [qb,at_set _ (xA hk).1];simp
   · rename_i hk;rw [if_neg hb,hf] at h;simp [hk] at h
theorem zoQ {c : Cells} {n : Nd} (hb : zas c n = 0) (hr : cnt c < c.length) : (mkM c n).2.2 = 0:=by
 unfold mkM
 rw [if_neg (by simp [hb])]
 split
 · rfl
 ·
  split
  · rfl
  · rename_i h;have:=zol h;omega
def jC (c : Cells) (start : List Int) (k : Nat) : Prop:=Rch (fun k => (c.at k).getD (0,0,0)) (fun k => (c.at k).isSome = true) start k
open Classical in
noncomputable def qP (c : Cells) (start : List Int) : List Int:=((List.range c.length).filter fun k => decide (jC c start k)).map fun k : Nat => (k : Int) + 2
open Classical in
noncomputable def qF (c : Cells) (start : List Int) : Cells:=(List.range c.length).map fun k => if jC c start k then c.at k else none
theorem kZ (c : Cells) (s : List Int) : (qF c s).length = c.length:=by simp [qF]
open Classical in
theorem zcx (c : Cells) (s : List Int) (k : Nat) : (qF c s).at k = if jC c s k then c.at k else none:=by
 rcases Nat.lt_or_ge k c.length with h | h
 · rw [zad (by rw [kZ];exact h)];simp [qF]
 · rw [zn5 (by rw [kZ];exact h),zn5 h];simp
theorem yH {c : Cells} {s : List Int} {k : Nat} {n : Nd} : (qF c s).at k = some n ↔ jC c s k ∧ c.at k = some n:=by
 rw [zcx];split <;> simp [*]
theorem jC.used {c : Cells} {s : List Int} {k : Nat} (h : jC c s k) : ∃ n,c.at k = some n:=by
 have:=Rch.used h
 exact Option.isSome_iff_exists.1 this
theorem jC.start {c : Cells} {s : List Int} {k : Nat} {n : Nd} (h : c.at k = some n) (hm : ((k : Int) + 2) ∈ s) : jC c s k:=Rch.start k (by simp [h]) hm
theorem jC.low {c : Cells} {s : List Int} {k k' : Nat} {n n' : Nd} (h : jC c s k) (hn : c.at k = some n) (hn' : c.at k' = some n') (e : n.2.1 = (k' : Int) + 2) : jC c s k' :=
 Rch.low k k' h (by simp [hn']) (by simp [hn,e])
theorem jC.high {c : Cells} {s : List Int} {k k' : Nat} {n n' : Nd} (h : jC c s k) (hn : c.at k = some n) (hn' : c.at k' = some n') (e : n.2.2 = (k' : Int) + 2) : jC c s k' :=
 Rch.high k k' h (by simp [hn']) (by simp [hn,e])
theorem zcP {c : Cells} {s : List Int} {h : Int} (g : zG c h = true) (hk : ∀ k : Nat,h = (k : Int) + 2 → jC c s k) : zG (qF c s) h = true:=by
 rcases qo g with rfl | rfl | ⟨k,n,rfl,h1,_⟩
 · exact jk _
 · exact qw _
 · exact zgU (yH.2 ⟨hk k rfl,h1⟩)
theorem zfW {c : Cells} {s : List Int} {h : Int} (hk : ∀ k : Nat,h = (k : Int) + 2 → jC c s k) : zl (qF c s) h = zl c h:=by
 unfold zl
 rcases Int.lt_or_le h 2 with h1 | h1
 · unfold getM;rw [if_pos h1,if_pos h1]
 ·
  obtain ⟨k,rfl⟩ : ∃ k : Nat,h = (k : Int) + 2:=⟨(h - 2).toNat,by omega⟩
  rw [qb,qb,zcx,if_pos (hk k rfl)]
theorem zgK {c : Cells} (o : Ok c) (s : List Int) : Ok (qF c s):=by
 refine ⟨fun k n h => o.var k n (yH.1 h).2,fun k n h => ?_,fun k n h => ?_,fun j k n h h' => o.uniq j k n (yH.1 h).2 (yH.1 h').2⟩
 ·
  obtain ⟨h1,h2⟩:=yH.1 h
  have h3:=o.low k n h2
  have h4 : ∀ k' : Nat,n.2.1 = (k' : Int) + 2 → jC c s k':=fun k' e => by
   rcases qo h3.1 with e2 | e2 | ⟨k2,n2,e2,h5,_⟩
   · omega
   · omega
   ·
    obtain rfl : k2 = k':=by omega
    exact h1.low h2 h5 e
  exact ⟨zcP h3.1 h4,by rw [zfW h4];exact h3.2⟩
 ·
  obtain ⟨h1,h2⟩:=yH.1 h
  have h3:=o.high k n h2
  have h4 : ∀ k' : Nat,n.2.2 = (k' : Int) + 2 → jC c s k':=fun k' e => by
   rcases qo h3.1 with e2 | e2 | ⟨k2,n2,e2,h5,_⟩
   · omega
   · omega
   ·
    obtain rfl : k2 = k':=by omega
    exact h1.high h2 h5 e
  exact ⟨zcP h3.1 h4,by rw [zfW h4];exact h3.2⟩
theorem zf2 {c : Cells} {s : List Int} {h : Int} : h ∈ qP c s ↔ ∃ k : Nat,h = (k : Int) + 2 ∧ jC c s k:=by
 classical
 unfold qP
 simp only [List.mem_map,List.mem_filter,List.mem_range,decide_eq_true_eq]
 constructor
 · rintro ⟨k,⟨_,h2⟩,rfl⟩;exact ⟨k,rfl,h2⟩
 ·
  rintro ⟨k,rfl,h2⟩
  obtain ⟨n,hn⟩:=h2.used
  exact ⟨k,⟨zg8 hn,h2⟩,rfl⟩
theorem zgo (c : Cells) (s : List Int) : (qP c s).length ≤ c.length:=by
 classical
 unfold qP
 rw [List.length_map]
 exact Nat.le_trans (List.length_filter_le _ _) (by simp)
theorem zhl (c : Cells) : cnt c = ((List.range c.length).filter fun k => (c.at k).isSome).length:=by
 unfold cnt
 rw [List.countP_eq_length_filter]
 have : c = (List.range c.length).map fun k => c.at k:=by
  apply List.ext_getElem
  · simp
  · intro i h1 h2;simp [zad h1]
 conv => lhs;rw [this]
 rw [List.filter_map,List.length_map]
 rfl
theorem zkH (c : Cells) (s : List Int) : cnt (qF c s) = (qP c s).length:=by
 classical
 rw [zhl,kZ]
 unfold qP
 rw [List.length_map]
 congr 1
 apply List.filter_congr
 intro k _
 rw [zcx]
 split
 · rename_i h;obtain ⟨n,hn⟩:=h.used;simp [hn,h]
 · rename_i h;simp [h]
open Go.RowKit
structure xO (w : World) (p bn bu bt R : Nat) (nodes : Nat → Nd) (used : Nat → Bool) (tab : List Int) (many : Int) : Prop where
 blk : w.heap[p]? = some (.cells #[.slice (some ⟨bn,0,none⟩) R R,.slice (some ⟨bu,0,none⟩) R R,.slice (some ⟨bt,0,none⟩) tab.length tab.length,.int .i64 many] 190 (0,0))
 nod : ∃ cn : Array Value,w.heap[bn]? = some (.cells cn 117 (0,0)) ∧ cn.size = 3 * R ∧ ∀ k,k < R → cn[k * 3]? = some (.int .i64 (nodes k).1) ∧ cn[k * 3 + 1]? = some (.int .i64 (nodes k).2.1) ∧ cn[k * 3 + 2]? = some (.int .i64 (nodes k).2.2)
 use : ∃ cu : Array Value,w.heap[bu]? = some (.cells cu 4 (0,0)) ∧ cu.size = R ∧ ∀ k,k < R → cu[k]? = some (.bool (used k))
 tbl : w.heap[bt]? = some (.cells (tab.map (Value.int .i64)).toArray 3 (0,0))
theorem xO.below {w w' : World} {p bn bu bt R : Nat} {nodes : Nat → Nd} {used : Nat → Bool} {tab : List Int} {many : Int} (h : xO w p bn bu bt R nodes used tab many) (hb : Below w.heap.size w w') : xO w' p bn bu bt R nodes used tab many:=by
 have key : ∀ {b : Nat} {o : Obj},w.heap[b]? = some o → w'.heap[b]? = some o:=fun {b o} e => by
  rw [hb.block b (Array.getElem?_eq_some_iff.1 e).1];exact e
 obtain ⟨cn,h1,h2⟩:=h.nod
 obtain ⟨cu,h3,h4⟩:=h.use
 exact ⟨key h.blk,⟨cn,key h1,h2⟩,⟨cu,key h3,h4⟩,key h.tbl⟩
section
variable {w : World} {p bn bu bt R : Nat} {nodes : Nat → Nd} {used : Nat → Bool} {tab : List Int} {many : Int} (h : xO w p bn bu bt R nodes used tab many)
include h
theorem xO.f0 : w.cell? ⟨p,0,none⟩ = some (.slice (some ⟨bn,0,none⟩) R R):=by rw [cell_of_row w p _ _ _ _ h.blk];rfl
theorem xO.f1 : w.cell? ⟨p,1,none⟩ = some (.slice (some ⟨bu,0,none⟩) R R):=by rw [cell_of_row w p _ _ _ _ h.blk];rfl
theorem xO.f2 : w.cell? ⟨p,2,none⟩ = some (.slice (some ⟨bt,0,none⟩) tab.length tab.length):=by rw [cell_of_row w p _ _ _ _ h.blk];rfl
theorem xO.f3 : w.cell? ⟨p,3,none⟩ = some (.int .i64 many):=by rw [cell_of_row w p _ _ _ _ h.blk];rfl
theorem xO.n0 {k : Nat} (hk : k < R) : w.cell? ⟨bn,k * 3,none⟩ = some (.int .i64 (nodes k).1):=by
 obtain ⟨cn,h1,_,h2⟩:=h.nod;rw [cell_of_row w bn _ _ _ _ h1];exact (h2 k hk).1
theorem xO.n1 {k : Nat} (hk : k < R) : w.cell? ⟨bn,k * 3 + 1,none⟩ = some (.int .i64 (nodes k).2.1):=by
 obtain ⟨cn,h1,_,h2⟩:=h.nod;rw [cell_of_row w bn _ _ _ _ h1];exact (h2 k hk).2.1
theorem xO.n2 {k : Nat} (hk : k < R) : w.cell? ⟨bn,k * 3 + 2,none⟩ = some (.int .i64 (nodes k).2.2):=by
 obtain ⟨cn,h1,_,h2⟩:=h.nod;rw [cell_of_row w bn _ _ _ _ h1];exact (h2 k hk).2.2
theorem xO.u {k : Nat} (hk : k < R) : w.cell? ⟨bu,k,none⟩ = some (.bool (used k)):=by
 obtain ⟨cu,h1,_,h2⟩:=h.use;rw [cell_of_row w bu _ _ _ _ h1];exact h2 k hk
theorem xO.t {i : Nat} (hi : i < tab.length) : w.cell? ⟨bt,i,none⟩ = some (.int .i64 (tab.getD i 0)):=by
 rw [cell_of_row w bt _ _ _ _ h.tbl,List.getElem?_toArray,List.getElem?_map,List.getElem?_eq_getElem hi,getD_at _ _ hi];rfl
end
section
variable {w : World} {p bn bu bt R : Nat} {nodes : Nat → Nd} {used : Nat → Bool} {tab : List Int} {many : Int} (h : xO w p bn bu bt R nodes used tab many)
include h
theorem xO.lp : p < w.heap.size:=(Array.getElem?_eq_some_iff.1 h.blk).1
theorem xO.ln : bn < w.heap.size:=by obtain ⟨cn,h1,_⟩:=h.nod;exact (Array.getElem?_eq_some_iff.1 h1).1
theorem xO.lt : bt < w.heap.size:=(Array.getElem?_eq_some_iff.1 h.tbl).1
end
theorem qh {B : Nat} {a w : World} (h : Below B a w) (n : Nat) : Below B a (w.drewN n):=⟨h.os,h.tape,h.output,h.size,h.block⟩
structure Only (S : Nat → Prop) (w w' : World) : Prop where
 os : w'.os = w.os
 tape : w'.tape = w.tape
 output : w'.output = w.output
 size : w.heap.size ≤ w'.heap.size
 block : ∀ k,k < w.heap.size → ¬ S k → w'.heap[k]? = w.heap[k]?
theorem Only.refl (S : Nat → Prop) (w : World) : Only S w w:=⟨rfl,rfl,rfl,znr _,fun _ _ _ => rfl⟩
theorem Only.trans {S : Nat → Prop} {a b c : World} (h : Only S a b) (g : Only S b c) : Only S a c :=
 ⟨g.os.trans h.os,g.tape.trans h.tape,g.output.trans h.output,Nat.le_trans h.size g.size,fun k hk hn => (g.block k (Nat.lt_of_lt_of_le hk h.size) hn).trans (h.block k hk hn)⟩
theorem Only.mono {S S' : Nat → Prop} {w w' : World} (h : Only S w w') (hs : ∀ k,S k → S' k) : Only S' w w':=⟨h.os,h.tape,h.output,h.size,fun k hk hn => h.block k hk (fun e => hn (hs k e))⟩
theorem Only.of_below {S : Nat → Prop} {B : Nat} {w w' : World} (h : Below B w w') (hB : B = w.heap.size) : Only S w w':=⟨h.os,h.tape,h.output,h.size,fun k hk _ => h.block k (by omega)⟩
theorem Only.below {S : Nat → Prop} {B : Nat} {w w' : World} (h : Only S w w') (hB : B ≤ w.heap.size) (hs : ∀ k,S k → B ≤ k) : Below B w w' :=
 ⟨h.os,h.tape,h.output,h.size,fun k hk => h.block k (by omega) (fun e => by have:=hs k e;omega)⟩
theorem Only.alloc {S : Nat → Prop} {a w : World} (h : Only S a w) (o : Obj) : Only S a (w.alloc o) :=
 h.trans ⟨rfl,rfl,rfl,by simp,fun k hk _ => Below.heap_alloc _ _ _ hk⟩
theorem Only.drew {S : Nat → Prop} {a w : World} (h : Only S a w) : Only S a w.drew:=⟨h.os,h.tape,h.output,h.size,h.block⟩
theorem Only.drewN {S : Nat → Prop} {a w : World} (h : Only S a w) (n : Nat) : Only S a (w.drewN n):=⟨h.os,h.tape,h.output,h.size,h.block⟩
theorem Only.setCell {S : Nat → Prop} {a w : World} (h : Only S a w) {p : Addr} (hp : S p.block ∨ a.heap.size ≤ p.block) (u : Value) : Only S a (w.setCell p u) :=
 ⟨h.os,h.tape,h.output,by simpa using h.size,fun k hk hn => (zhc _ _ _ _ (fun e => by
  subst e
  rcases hp with h1 | h1
  · exact hn h1
  · omega)).trans (h.block k hk hn)⟩
theorem Only.cell {S : Nat → Prop} {w w' : World} (h : Only S w w') {p : Addr} (hp : p.block < w.heap.size) (hn : ¬ S p.block) : w'.cell? p = w.cell? p:=World.cell?_of_block (w:=w) (h.block p.block hp hn)
theorem Only.frozen {S : Nat → Prop} {w w' : World} (h : Only S w w') {p : Addr} (hp : p.block < w.heap.size) (hn : ¬ S p.block) : w'.frozen? p = w.frozen? p:=World.frozen?_of_block (w:=w) (h.block p.block hp hn)
theorem jP {w : World} {b e : Nat} {cur : Array Value} {fz : Nat × Nat} (h : w.heap[b]? = some (.cells cur e fz)) (o : Nat) (v : Value) : (w.setCell ⟨b,o,none⟩ v).heap[b]? = some (.cells (cur.setIfInBounds o v) e fz):=by
 simp [World.setCell,Array.getElem?_modify,h]
theorem zS {w : World} {a : Addr} {v : Value} {k : Nat} {o : Obj} (h : w.heap[k]? = some o) (hne : k ≠ a.block) : (w.setCell a v).heap[k]? = some o:=by
 rw [zhc _ _ _ _ hne];exact h
theorem zah {w : World} {b e o : Nat} {cur : Array Value} (h : w.heap[b]? = some (.cells cur e (0,0))) : w.frozen? ⟨b,o,none⟩ = false:=by
 simp [World.frozen?,h]
section
variable {w : World} {p bn bu bt R : Nat} {nodes : Nat → Nd} {used : Nat → Bool} {tab : List Int} {many : Int} (h : xO w p bn bu bt R nodes used tab many)
include h
theorem xO.zp (o : Nat) : w.frozen? ⟨p,o,none⟩ = false:=zah h.blk
theorem xO.zn (o : Nat) : w.frozen? ⟨bn,o,none⟩ = false:=by obtain ⟨cn,h1,_⟩:=h.nod;exact zah h1
theorem xO.zu (o : Nat) : w.frozen? ⟨bu,o,none⟩ = false:=by obtain ⟨cn,h1,_⟩:=h.use;exact zah h1
theorem xO.zt (o : Nat) : w.frozen? ⟨bt,o,none⟩ = false:=zah h.tbl
end
structure Bk where
 p : Nat
 bn : Nat
 bu : Nat
 bt : Nat
 R : Nat
def Bk.mem (b : Bk) (k : Nat) : Prop:=k = b.p ∨ k = b.bn ∨ k = b.bu ∨ k = b.bt
structure Bk.Apart (b : Bk) : Prop where
 n1 : b.p ≠ b.bn
 n2 : b.p ≠ b.bu
 n3 : b.p ≠ b.bt
 n4 : b.bn ≠ b.bu
 n5 : b.bn ≠ b.bt
 n6 : b.bu ≠ b.bt
theorem xO.keep {w w' : World} {p bn bu bt R : Nat} {nodes : Nat → Nd} {used : Nat → Bool} {tab : List Int} {many : Int} (h : xO w p bn bu bt R nodes used tab many) (h1 : w'.heap[p]? = w.heap[p]?) (h2 : w'.heap[bn]? = w.heap[bn]?)
 (h3 : w'.heap[bu]? = w.heap[bu]?) (h4 : w'.heap[bt]? = w.heap[bt]?) : xO w' p bn bu bt R nodes used tab many:=by
 obtain ⟨cn,g1,g2⟩:=h.nod
 obtain ⟨cu,g3,g4⟩:=h.use
 exact ⟨by rw [h1];exact h.blk,⟨cn,by rw [h2];exact g1,g2⟩,⟨cu,by rw [h3];exact g3,g4⟩,by rw [h4];exact h.tbl⟩
section
variable {w : World} {b : Bk} {nodes : Nat → Nd} {used : Nat → Bool} {tab : List Int} {many : Int}
theorem xO.setNode (h : xO w b.p b.bn b.bu b.bt b.R nodes used tab many) (ap : b.Apart) {k : Nat} (hk : k < b.R) (n : Nd) :
 xO (((w.setCell ⟨b.bn,k * 3,none⟩ (.int .i64 n.1)).setCell ⟨b.bn,k * 3 + 1,none⟩ (.int .i64 n.2.1)).setCell ⟨b.bn,k * 3 + 2,none⟩ (.int .i64 n.2.2)) b.p b.bn b.bu b.bt b.R (fun j => if j = k then n else nodes j) used tab many:=by
 obtain ⟨cn,g1,g2,g5⟩:=h.nod
 obtain ⟨cu,g3,g4⟩:=h.use
 have k1:=ap.n1;have k2:=ap.n4;have k3:=ap.n5
 refine ⟨zS (zS (zS h.blk k1) k1) k1,⟨_,jP (jP (jP g1 _ _) _ _) _ _,by simp [g2],fun j hj => ?_⟩,⟨cu,zS (zS (zS g3 k2.symm) k2.symm) k2.symm,g4⟩,zS (zS (zS h.tbl k3.symm) k3.symm) k3.symm⟩
 obtain ⟨r1,r2,r3⟩:=g5 j hj
 by_cases e : j = k
 ·
  subst e
  simp only [if_true]
  refine ⟨?_,?_,?_⟩ <;> simp only [Array.getElem?_setIfInBounds,Array.size_setIfInBounds,g2,if_true] <;> repeat (first | rfl | rw [if_pos (by omega)] | rw [if_neg (by omega)])
 ·
  simp only [if_neg e]
  refine ⟨?_,?_,?_⟩ <;> simp only [Array.getElem?_setIfInBounds,Array.size_setIfInBounds] <;> rw [if_neg (by omega),if_neg (by omega),if_neg (by omega)] <;> assumption
theorem xO.zhK (h : xO w b.p b.bn b.bu b.bt b.R nodes used tab many) (ap : b.Apart) {k : Nat} (hk : k < b.R) (x : Bool) :
 xO (w.setCell ⟨b.bu,k,none⟩ (.bool x)) b.p b.bn b.bu b.bt b.R nodes (fun j => if j = k then x else used j) tab many:=by
 obtain ⟨cu,g3,g4,g5⟩:=h.use
 obtain ⟨cn,g1,g2⟩:=h.nod
 refine ⟨zS h.blk ap.n2,⟨cn,zS g1 ap.n4,g2⟩,⟨_,jP g3 _ _,by simp [g4],fun j hj => ?_⟩,zS h.tbl ap.n6.symm⟩
 rw [Array.getElem?_setIfInBounds]
 by_cases e : j = k
 · subst e;rw [if_pos rfl,if_pos (by omega)];simp
 · rw [if_neg (fun e2 => e e2.symm)];simp only [if_neg e];exact g5 j hj
theorem xO.zm8 (h : xO w b.p b.bn b.bu b.bt b.R nodes used tab many) (ap : b.Apart) (i : Nat) (x : Int) :
 xO (w.setCell ⟨b.bt,i,none⟩ (.int .i64 x)) b.p b.bn b.bu b.bt b.R nodes used (tab.set i x) many:=by
 obtain ⟨cu,g3,g4⟩:=h.use
 obtain ⟨cn,g1,g2⟩:=h.nod
 refine ⟨by rw [List.length_set];exact zS h.blk ap.n3,⟨cn,zS g1 ap.n5,g2⟩,⟨cu,zS g3 ap.n6,g4⟩,?_⟩
 rw [jP h.tbl]
 simp [List.map_set]
theorem xO.setMany (h : xO w b.p b.bn b.bu b.bt b.R nodes used tab many) (ap : b.Apart) (x : Int) :
 xO (w.setCell ⟨b.p,3,none⟩ (.int .i64 x)) b.p b.bn b.bu b.bt b.R nodes used tab x:=by
 obtain ⟨cu,g3,g4⟩:=h.use
 obtain ⟨cn,g1,g2⟩:=h.nod
 refine ⟨?_,⟨cn,zS g1 ap.n1.symm,g2⟩,⟨cu,zS g3 ap.n2.symm,g4⟩,zS h.tbl ap.n3.symm⟩
 rw [jP h.blk];rfl
end
def hsh (m : Nat) (n : Nd) : Nat:=(IntKind.u64.wrap (IntKind.u64.wrap (IntKind.u64.wrap (IntKind.u64.wrap n.1 * 2654435761) + IntKind.u64.wrap (IntKind.u64.wrap n.2.1 * 2246822519)) + IntKind.u64.wrap (IntKind.u64.wrap n.2.2 * 3266489917))).toNat % m
structure zK (w : World) (b : Bk) (c : Cells) : Prop where
 len : c.length = b.R
 room : 1 ≤ b.R ∧ b.R ≤ 4000
 apart : b.Apart
 mem : ∃ (nodes : Nat → Nd) (tab : List Int),xO w b.p b.bn b.bu b.bt b.R nodes (fun k => (c.at k).isSome) tab (cnt c) ∧ tab.length = 2 * b.R + 1 ∧ jw (hsh (2 * b.R + 1)) nodes (fun k => (c.at k).isSome = true) tab ∧ ∀ k n,c.at k = some n → nodes k = n
theorem zK.below {w w' : World} {b : Bk} {c : Cells} (h : zK w b c) (hb : Below w.heap.size w w') : zK w' b c:=by
 obtain ⟨h1,h2,h3,nodes,tab,h4,h5⟩:=h
 exact ⟨h1,h2,h3,nodes,tab,h4.below hb,h5⟩
theorem zK.only {S : Nat → Prop} {w w' : World} {b : Bk} {c : Cells} (h : zK w b c) (ho : Only S w w') (hs : ∀ k,b.mem k → ¬ S k) : zK w' b c:=by
 obtain ⟨h1,h2,h3,nodes,tab,h4,h5⟩:=h
 obtain ⟨cn,g1,g2⟩:=h4.nod
 obtain ⟨cu,g3,g4⟩:=h4.use
 refine ⟨h1,h2,h3,nodes,tab,h4.keep (ho.block _ (Array.getElem?_eq_some_iff.1 h4.blk).1 (hs _ (.inl rfl))) (ho.block _ (Array.getElem?_eq_some_iff.1 g1).1 (hs _ (.inr (.inl rfl))))
  (ho.block _ (Array.getElem?_eq_some_iff.1 g3).1 (hs _ (.inr (.inr (.inl rfl))))) (ho.block _ (Array.getElem?_eq_some_iff.1 h4.tbl).1 (hs _ (.inr (.inr (.inr rfl))))),h5⟩
theorem zK.lt {w : World} {b : Bk} {c : Cells} (h : zK w b c) {k : Nat} (hk : b.mem k) : k < w.heap.size:=by
 obtain ⟨h1,h2,h3,nodes,tab,h4,h5⟩:=h
 obtain ⟨cn,g1,g2⟩:=h4.nod
 obtain ⟨cu,g3,g4⟩:=h4.use
 rcases hk with rfl | rfl | rfl | rfl
 · exact (Array.getElem?_eq_some_iff.1 h4.blk).1
 · exact (Array.getElem?_eq_some_iff.1 g1).1
 · exact (Array.getElem?_eq_some_iff.1 g3).1
 · exact (Array.getElem?_eq_some_iff.1 h4.tbl).1
section
variable {α : Type} [DecidableEq α] {P : Program} {kt : TypeId} {enc : α → Value}
theorem zcI (heq : ∀ (x y : α) (w : World),(Op.equal kt (enc x) (enc y)).run P w = .ok (decide (x = y)) w) (x : α) (w : World) : ∀ (es : List MapEntry) (ms : List (α × Value)) (i : Nat),
 es.map (fun e => (e.key,e.val)) = ms.map (fun p => (enc p.1,p.2)) → (Instr.findAsking kt (enc x) es i).run P w = .ok ((zL x ms).map fun r => (r.1 + i,r.2)) w
 | [],[],i,_ => by simp [Instr.findAsking,zL]
 | [],p :: l,_,h => by cases h
 | e :: es,[],_,h => by cases h
 | e :: es,p :: l,i,h => by
  simp only [List.map_cons,List.cons.injEq,Prod.mk.injEq] at h
  obtain ⟨⟨h1,h2⟩,h3⟩:=h
  simp only [Instr.findAsking,Sem.run_bind,h1,heq,Result.andThen_ok,zL]
  by_cases e2 : x = p.1
  · subst e2;simp [h2]
  ·
   have e3 : ¬ p.1 = x:=fun h => e2 h.symm
   simp only [decide_eq_false e2,if_neg e3,Bool.false_eq_true,if_false,zcI heq x w es l (i + 1) h3,Option.map_map]
   congr 2
   funext r
   simp [Function.comp];omega
theorem zrM (kd : TypeDesc) (hu : P.underlying kt = some kd) (hs : ∀ a b,Instr.sameNow kd a b = none) (heq : ∀ (x y : α) (w : World),(Op.equal kt (enc x) (enc y)).run P w = .ok (decide (x = y)) w)
 (hc : ∀ (b : Bool) (x : α) (w : World),(Instr.checkKey b 10000 kt (enc x)).run P w = .ok () w) (hb : ∀ x : α,Instr.sameBits 10000 (enc x) (enc x) = true) : zeR P kt enc where
 check:=hc
 bits:=hb
 find:=by
  intro x ms es h w
  cases es with
  | nil => cases ms with
   | nil => simp [Instr.findKey,Instr.findNow,run_underlying hu,zL]
   | cons p l => cases h
  | cons e es =>
   have h1:=zcI heq x w (e :: es) ms 0 h
   simp only [Instr.findKey,Sem.run_bind,run_underlying hu,Result.andThen_ok,Instr.findNow,hs]
   rw [h1];simp
end
def qy (n : Nd) : Value:=.agg #[.int .i64 n.1,.int .i64 n.2.1,.int .i64 n.2.2]
@[go_sem] theorem zhj : Tryz.prog.eqGuardType Tryz.prog.depth 117 = false:=by kernel_rfl
def zfJ (n n' : Nd) : Bool:=decide (n = n')
@[go_sem] theorem zgF (a b c a' b' c' : Int) (w : World) : (Op.equalIn 10000 117 (.agg #[.int .i64 a,.int .i64 b,.int .i64 c]) (.agg #[.int .i64 a',.int .i64 b',.int .i64 c'])).run Tryz.prog w = .ok (zfJ (a,b,c) (a',b',c')) w:=by
 have u3:=Tryz.underlying3
 have a3:=Tryz.isAgg3
 have z3:=Tryz.sizeOf3
 have hS : Tryz.prog.underlying 117 = some (.struct (Tryz.prog.fieldsOf 117)):=by kernel_rfl
 have hp : Tryz.prog.stoodInHeld 117 = false:=by kernel_rfl
 rw [show (10000 : Nat) = 9999 + 1 from rfl,run_equalIn_agg w 9999 117 _ _ hS hp]
 simp only [Program.fieldsOf,Tryz.underlying117]
 go_simp
 by_cases h1 : a = a' <;> by_cases h2 : b = b' <;> by_cases h3 : c = c' <;> simp [h1,h2,h3,zfJ]
theorem zpZ {c : Cells} {R : Nat} (hl : c.length = R) {x : Int} (h0 : (x == 0) = false) (h1 : (x == 1) = false) : zG c x = (decide (2 ≤ x) && decide (x - 2 < (R : Int)) && (c.at (x - 2).toNat).isSome):=by
 unfold zG getM
 rw [h0,h1]
 by_cases x2 : 2 ≤ x
 ·
  rw [if_neg (by omega)]
  by_cases x3 : x - 2 < (R : Int)
  · simp [x2,x3]
  · rw [zn5 (by omega)];simp [x3]
 · rw [if_pos (by omega)];simp [x2]
set_option maxHeartbeats 1000000 in
theorem yN (x : Int) (w : World) (b : Bk) (c : Cells) (ha : zK w b c) (hx : x ≤ 9223372036854775807) :
 Calls Tryz.prog 50 #[.pointer (some ⟨b.p,0,none⟩),.int .i64 x] w fun e w' => e = .returned (.bool (zG c x)) ∧ w = w':=by
 obtain ⟨hlen,hroom,hap,nodes,tab,hat,-⟩:=ha
 have h0:=hat.f0
 have h1:=hat.f1
 have hR:=hroom.2
 by_cases x0 : x = 0
 ·
  subst x0
  have Ha:=hid hat;clear hat
  have Hl:=hid hlen;clear hlen
  go_enter Tryz.func50,Tryz.ntmps50
  go_wp2_with fail
  go_ret
  exact ⟨by rw [jk];rfl,rfl⟩
 ·
  have e0 : (x == 0) = false:=by simpa using x0
  by_cases x1 : x = 1
  ·
   subst x1
   have Ha:=hid hat;clear hat
   have Hl:=hid hlen;clear hlen
   go_enter Tryz.func50,Tryz.ntmps50
   go_wp2_with fail
   go_ret
   exact ⟨by rw [qw];rfl,rfl⟩
  ·
   have e1 : (x == 1) = false:=by simpa using x1
   rw [zpZ hlen e0 e1]
   clear x0 x1
   by_cases x2 : 2 ≤ x
   ·
    by_cases x3 : x - 2 < (b.R : Int)
    ·
     have hu:=hat.u (k:=(x - 2).toNat) (by omega)
     have x5 : 0 ≤ x - 2:=by omega
     have Ha:=hid hat;clear hat
     have Hl:=hid hlen;clear hlen
     go_enter Tryz.func50,Tryz.ntmps50
     go_wp2_with fail
     go_ret
     exact ⟨by simp [x2,x3],rfl⟩
    ·
     have Ha:=hid hat;clear hat
     have Hl:=hid hlen;clear hlen
     have x5 : 0 ≤ x - 2:=by omega
     have x6 : x - 2 ≤ 9223372036854775807:=by omega
     have x7 : (decide (x - 2 < (b.R : Int))) = false:=decide_eq_false x3
     go_enter Tryz.func50,Tryz.ntmps50
     go_wp2_with fail
     go_ret
     exact ⟨by simp,rfl⟩
   ·
    have Ha:=hid hat;clear hat
    have Hl:=hid hlen;clear hlen
    go_enter Tryz.func50,Tryz.ntmps50
    go_wp2_with fail
    go_ret
    exact ⟨by simp;omega,rfl⟩
def zav (o : Option Nd) : Value:=.tuple #[qy (o.getD (0,0,0)),.bool o.isSome]
set_option maxRecDepth 100000 in
set_option maxHeartbeats 1000000 in
theorem zca (x : Int) (w : World) (b : Bk) (c : Cells) (ha : zK w b c) (hx : x ≤ 9223372036854775807) :
 Calls Tryz.prog 51 #[.pointer (some ⟨b.p,0,none⟩),.int .i64 x] w fun e w' => e = .returned (zav (getM c x)) ∧ w' = w.alloc (.cells #[.int .i64 ((getM c x).getD (0,0,0)).1,.int .i64 ((getM c x).getD (0,0,0)).2.1,.int .i64 ((getM c x).getD (0,0,0)).2.2] 117):=by
 have Ha:=hid ha;clear ha
 by_cases x2 : x < 2
 ·
  have e1 : getM c x = none:=by unfold getM;rw [if_pos x2]
  rw [e1]
  clear e1
  go_enter Tryz.func51,Tryz.ntmps51
  go_wp2_with fail
  exact bodyPost_ret (v:=zav none) (by simp [results,Tryz.results51,go_sem,zav,qy]) rfl ⟨rfl,rfl⟩
 ·
  cases e1 : getM c x with
  | none =>
   have e2 : zG c x = false:=by
    cases h : zG c x
    · rfl
    · have:=yK h e1;omega
   have E1:=hid e1;clear e1
   have hh:=yN x
   have Hh:=hid hh;clear hh
   have E2:=hid e2;clear e2
   go_enter Tryz.func51,Tryz.ntmps51
   go_wp2_with (go_at_call 50;refine (Hh.out _ b c (Ha.out.below (zba)) hx).mono ?_;rw [E2.out];rintro e w' ⟨rfl,rfl⟩)
   exact bodyPost_ret (v:=zav none) (by simp [results,Tryz.results51,go_sem,zav,qy]) rfl ⟨rfl,rfl⟩
  | some n =>
   have e2 : zG c x = true:=by unfold zG;rw [e1];simp
   have e3 : c.at (x - 2).toNat = some n:=by unfold getM at e1;rw [if_neg x2] at e1;exact e1
   have hk:=zg8 e3
   obtain ⟨a,l,h⟩:=n
   have E1:=hid e1;clear e1
   have E2:=hid e2;clear e2
   obtain ⟨hlen,hroom,hap,nodes,tab,hat,h4,h5,h6⟩:=Ha.out
   have h7:=h6 _ _ e3
   have hal : Below w.heap.size w (w.alloc (.cells #[.int .i64 0,.int .i64 0,.int .i64 0] 117)):=zba
   have h0:=hat.f0
   have n0:=hat.n0 (k:=(x - 2).toNat) (by omega)
   have n1:=hat.n1 (k:=(x - 2).toNat) (by omega)
   have n2:=hat.n2 (k:=(x - 2).toNat) (by omega)
   rw [h7] at n0 n1 n2
   have lp:=Ha.out.lt (.inl rfl : b.mem b.p)
   have ln:=Ha.out.lt (.inr (.inl rfl) : b.mem b.bn)
   have hR:=hroom.2
   have hk' : x - 2 < (b.R : Int):=by omega
   have x5 : 0 ≤ x - 2:=by omega
   clear hat h4 h5 h6 h7 e3 hlen hk
   have Hal:=hid hal;clear hal
   have hh:=yN x
   have Hh:=hid hh;clear hh
   go_enter Tryz.func51,Tryz.ntmps51
   go_wp2_with fail
   refine (Hh.out _ b c (Ha.out.below Hal.out) hx).mono ?_;rw [E2.out];rintro e w' ⟨rfl,rfl⟩
   go_wp2_with fail
   exact bodyPost_ret (v:=zav (some (a,l,h))) (by simp [results,Tryz.results51,go_sem,zav,qy]) rfl ⟨rfl,rfl⟩
theorem zp3 (c : Cells) (x : Int) : zl c x = match getM c x with | some n => n.1 | none => 24:=rfl
set_option maxRecDepth 100000 in
set_option maxHeartbeats 1000000 in
theorem jv (x : Int) (w : World) (b : Bk) (c : Cells) (ha : zK w b c) (hx : x ≤ 9223372036854775807) :
 Calls Tryz.prog 59 #[.pointer (some ⟨b.p,0,none⟩),.int .i64 x] w fun e w' => e = .returned (.int .i64 (zl c x)) ∧ Below w.heap.size w w':=by
 have Ha:=hid ha;clear ha
 rw [zp3]
 have hg:=zca x w b c Ha.out hx
 cases e1 : getM c x with
 | none =>
  rw [e1] at hg
  have Hg:=hid hg;clear hg
  have E1:=hid e1;clear e1
  go_enter Tryz.func59,Tryz.ntmps59
  go_wp2_with (go_at_call 51;refine Hg.out.mono ?_;rintro e w' ⟨rfl,rfl⟩;simp only [zav,qy,Option.getD_none,Option.isSome_none])
  go_ret
  exact ⟨rfl,(zba).alloc (by simp) _⟩
 | some n =>
  obtain ⟨a,l,h⟩:=n
  rw [e1] at hg
  have Hg:=hid hg;clear hg
  have E1:=hid e1;clear e1
  go_enter Tryz.func59,Tryz.ntmps59
  go_wp2_with (go_at_call 51;refine Hg.out.mono ?_;rintro e w' ⟨rfl,rfl⟩;simp only [zav,qy,Option.getD_some,Option.isSome_some])
  go_ret
  exact ⟨rfl,(zba).alloc (by simp) _⟩
theorem u64_nonneg (x : Int) : 0 ≤ IntKind.u64.wrap x:=by
 simp only [IntKind.wrap,IntKind.signed,IntKind.bits];simp;omega
theorem start_eq (x : Int) (R : Nat) (hR : R ≤ 4000) : wrap64 ((IntKind.u64.wrap x).tmod (2 * (R : Int) + 1)) = (((IntKind.u64.wrap x).toNat % (2 * R + 1) : Nat) : Int):=by
 have h:=u64_nonneg x
 generalize IntKind.u64.wrap x = y at h
 obtain ⟨m,rfl⟩:=Int.eq_ofNat_of_zero_le h
 rw [Int.tmod_eq_emod_of_nonneg (by omega),Int.toNat_natCast]
 rw [show (2 * (R : Int) + 1) = ((2 * R + 1 : Nat) : Int) by omega,← Int.natCast_emod]
 have:=Nat.mod_lt m (show 0 < 2 * R + 1 by omega)
 rw [IntWalk.wrap64_in _ ⟨by omega,by omega⟩]
theorem step_eq (i R : Nat) : ((i : Int) + 1) % (2 * (R : Int) + 1) = (((i + 1) % (2 * R + 1) : Nat) : Int):=by
 rw [Int.natCast_emod];norm_cast
set_option maxRecDepth 100000 in
set_option maxHeartbeats 2000000 in
theorem zhn (n : Nd) (w : World) (b : Bk) (nodes : Nat → Nd) (used : Nat → Bool) (tab : List Int) (many : Int) (S : Nat → Prop) (hat : xO w b.p b.bn b.bu b.bt b.R nodes used tab many)
 (hR : b.R ≤ 4000) (hl : tab.length = 2 * b.R + 1) (ht : jw (hsh (2 * b.R + 1)) nodes S tab) (hS : ∀ k,S k → k < b.R) :
 Calls Tryz.prog 161 #[.pointer (some ⟨b.p,0,none⟩),qy n] w fun e w' => (∃ i : Nat,e = .returned (.int .i64 i) ∧ zaO (hsh (2 * b.R + 1)) nodes tab n i) ∧ Below w.heap.size w w':=by
 obtain ⟨a,l,h⟩:=n
 have h0:=hat.f0
 have h2:=hat.f2
 rw [hl] at h2
 have lp:=hat.lp
 have Hat:=hid hat;clear hat
 have Ht:=hid ht;clear ht
 have Hl:=hid hl;clear hl
 unfold qy
 go_enter Tryz.func161,Tryz.ntmps161
 go_wp2
 have hpos : hsh (2 * b.R + 1) (a,l,h) < 2 * b.R + 1:=Nat.mod_lt _ (by omega)
 obtain ⟨j0,hj0,hs0⟩:=Ht.out.stop hS (by rw [Hl.out];omega) (a,l,h) (by rw [Hl.out];exact hpos)
 rw [Hl.out] at hj0 hs0
 have Hs0:=hid hs0;clear hs0 hpos
 have HS:=hid hS;clear hS
 go_loopg [6] j0 (fun gk i wr => Below w.heap.size w wr ∧ w.heap.size < wr.heap.size ∧ (wr.cell? ⟨w.heap.size,0,none⟩ = some (.int .i64 a) ∧ wr.cell? ⟨w.heap.size,1,none⟩ = some (.int .i64 l) ∧ wr.cell? ⟨w.heap.size,2,none⟩ = some (.int .i64 h)) ∧
  ∃ j : Nat,j ≤ j0 ∧ gk = j0 - j ∧ i = .int .i64 (((hsh (2 * b.R + 1) (a,l,h) + j) % (2 * b.R + 1) : Nat) : Int) ∧ ∀ j',j' < j → ¬ Stops nodes tab (a,l,h) ((hsh (2 * b.R + 1) (a,l,h) + j') % (2 * b.R + 1)))
 case atStart => exact ⟨zba,by simp,by simp [go_sem],0,znz _,rfl,by rw [start_eq _ _ hR];unfold hsh;simp,fun j' h => absurd h (Nat.not_lt_zero _)⟩
 case round =>
  obtain ⟨hbw,hsz,⟨b0,b1,b2⟩,j,hj,rfl,rfl,hno⟩:=hrel
  have Hb:=hid hbw;clear hbw
  have Hno:=hid hno;clear hno
  obtain ⟨i,hi⟩ : ∃ i,i = (hsh (2 * b.R + 1) (a,l,h) + j) % (2 * b.R + 1):=⟨_,rfl⟩
  have hilt : i < 2 * b.R + 1:=by rw [hi];exact Nat.mod_lt _ (by omega)
  rw [← hi]
  have Hi:=hid hi;clear hi
  obtain ⟨x,hx⟩ : ∃ x,x = tab.getD i 0:=⟨_,rfl⟩
  have ht0:=Hat.out.t (i:=i) (by rw [Hl.out];exact hilt)
  rw [← hx] at ht0
  have lbt:=Hat.out.lt
  have lbn:=Hat.out.ln
  have h0' : wr.cell? ⟨b.p,0,none⟩ = some (.slice (some ⟨b.bn,0,none⟩) b.R b.R):=by rw [Hb.out.cell lp];exact h0
  have h2' : wr.cell? ⟨b.p,2,none⟩ = some (.slice (some ⟨b.bt,0,none⟩) (2 * b.R + 1) (2 * b.R + 1)):=by rw [Hb.out.cell lp];exact h2
  have ht' : wr.cell? ⟨b.bt,i,none⟩ = some (.int .i64 x):=by rw [Hb.out.cell lbt];exact ht0
  have hi1 : (i : Int) < 2 * (b.R : Int) + 1:=by omega
  clear ht0
  have Hx:=hid hx;clear hx
  by_cases x0 : x = 0
  ·
   have e0 : (x != 0) = false:=by simp [x0]
   have X0:=hid x0;clear x0
   go_wp2
   go_quiet (fail)
   go_wp2
   go_ret
   refine ⟨⟨i,rfl,by rw [Hl.out];exact hilt,.inl (Hx.out.symm.trans X0.out),j,by rw [Hl.out];omega,by rw [Hl.out];exact Hi.out,fun j' hj' => by rw [Hl.out];exact Hno.out j' hj'⟩,qh Hb.out _⟩
  ·
   have e0 : (x != 0) = true:=by simpa using x0
   obtain ⟨k,hSk,hxk⟩:=Ht.out.ent i (by rw [Hl.out];exact hilt) (by rw [← Hx.out];exact x0)
   rw [← Hx.out] at hxk
   have hk:=HS.out k hSk
   have ek : x - 2 = (k : Int):=by omega
   have n0:=Hat.out.n0 hk
   have n1:=Hat.out.n1 hk
   have n2:=Hat.out.n2 hk
   obtain ⟨⟨a',l',h'⟩,hnd⟩ : ∃ n',n' = nodes k:=⟨_,rfl⟩
   rw [← hnd] at n0 n1 n2
   have n0' : wr.cell? ⟨b.bn,k * 3,none⟩ = some (.int .i64 a'):=by rw [Hb.out.cell lbn];exact n0
   have n1' : wr.cell? ⟨b.bn,k * 3 + 1,none⟩ = some (.int .i64 l'):=by rw [Hb.out.cell lbn];exact n1
   have n2' : wr.cell? ⟨b.bn,k * 3 + 2,none⟩ = some (.int .i64 h'):=by rw [Hb.out.cell lbn];exact n2
   have hk1 : (k : Int) < (b.R : Int):=by omega
   have HSk:=hid hSk;have Hxk:=hid hxk;have Hek:=hid ek;have Hnd:=hid hnd
   clear hSk hxk ek hnd n0 n1 n2 x0
   cases hq : zfJ (a',l',h') (a,l,h)
   ·
    have hneq : ¬ Stops nodes tab (a,l,h) i:=by
     rintro (h1 | ⟨k2,h1,h2⟩)
     · have:=Hx.out;have:=Hxk.out;omega
     ·
      have h3:=Hx.out;have h4:=Hxk.out
      obtain rfl : k2 = k:=by omega
      rw [← Hnd.out] at h2
      rw [h2] at hq
      simp [zfJ] at hq
    have Hneq:=hid hneq;clear hneq
    have hjl : j < j0:=by
     rcases Nat.lt_or_ge j j0 with h1 | h1
     · exact h1
     ·
      obtain rfl : j = j0:=by omega
      have:=Hs0.out
      rw [← Hi.out] at this
      exact absurd this Hneq.out
    have hw : IntKind.i64.wrap (x - 2) = (k : Int):=by rw [Hek.out];exact IntWalk.i64_in _ (by omega)
    have hg1:=zhj
    have hg2:=fun w => zgF a' l' h' a l h w
    go_wp2
    go_quiet (fail)
    clear hw hg1 hg2
    go_wp2
    go_roundg (j0 - (j + 1))
    case measure => omega
    case rel =>
     refine ⟨qh Hb.out _,hsz,⟨b0,b1,b2⟩,j + 1,by omega,rfl,?_,fun j' hj' => ?_⟩
     · rw [step_eq,Hi.out,Nat.mod_add_mod,Nat.add_assoc]
     ·
      rcases Nat.lt_or_ge j' j with h1 | h1
      · exact Hno.out j' h1
      ·
       obtain rfl : j' = j:=by omega
       rw [← Hi.out];exact Hneq.out
   ·
    have hst : Stops nodes tab (a,l,h) i:=.inr ⟨k,by rw [← Hx.out];exact Hxk.out,by rw [← Hnd.out];simpa [zfJ] using hq⟩
    have Hst:=hid hst;clear hst
    have hw : IntKind.i64.wrap (x - 2) = (k : Int):=by rw [Hek.out];exact IntWalk.i64_in _ (by omega)
    have hg1:=zhj
    have hg2:=fun w => zgF a' l' h' a l h w
    go_wp2
    go_quiet (fail)
    clear hw hg1 hg2
    go_wp2
    go_ret
    exact ⟨⟨i,rfl,by rw [Hl.out];exact hilt,Hst.out,j,by rw [Hl.out];omega,by rw [Hl.out];exact Hi.out,fun j' hj' => by rw [Hl.out];exact Hno.out j' hj'⟩,qh Hb.out _⟩
def zfv (c : Cells) : Int:=match kF c with | some k => (k : Int) | none => -1
set_option maxHeartbeats 1000000 in
theorem zjL (w : World) (b : Bk) (c : Cells) (ha : zK w b c) :
 Calls Tryz.prog 224 #[.slice (some ⟨b.bu,0,none⟩) b.R b.R,.bool false] w fun e w' => e = .returned (.int .i64 (zfv c)) ∧ w = w':=by
 obtain ⟨hlen,hroom,hap,nodes,tab,hat,-⟩:=ha
 have hR:=hroom.2
 have Hat:=hid hat;clear hat
 have Hlen:=hid hlen;clear hlen
 go_enter Tryz.func224,Tryz.ntmps224
 go_wp2
 go_loop [5,8] (fun u i => ∃ k : Nat,k ≤ b.R ∧ i = .int .i64 k ∧ ∀ j,j < k → (c.at j).isSome = true) (fun _ i => b.R - (intOf i).toNat)
 case atStart => exact ⟨0,znz _,rfl,fun j h => absurd h (Nat.not_lt_zero _)⟩
 case round =>
  obtain ⟨k,hk,rfl,hno⟩:=hrel
  have Hno:=hid hno;clear hno
  by_cases hlt : k < b.R
  ·
   have hu:=Hat.out.u hlt
   cases hs : (c.at k).isSome
   ·
    rw [hs] at hu
    have Hs:=hid hs;clear hs
    go_wp2
    go_ret
    refine ⟨?_,rfl⟩
    have h1 : kF c = some k:=zm6 (by rw [Hlen.out];exact hlt) (by simpa using Hs.out) Hno.out
    unfold zfv;rw [h1];rfl
   ·
    rw [hs] at hu
    have Hs:=hid hs;clear hs
    go_wp2
    go_round
    case rel =>
     refine ⟨k + 1,by omega,by go_num,fun j hj => ?_⟩
     rcases Nat.lt_or_ge j k with h1 | h1
     · exact Hno.out j h1
     ·
      obtain rfl : j = k:=by omega
      exact Hs.out
    case measure => simp [intOf];omega
  ·
   go_wp2
   go_ret
   refine ⟨?_,rfl⟩
   have h1 : kF c = none:=zks (fun j hj => Hno.out j (by rw [Hlen.out] at hj;omega))
   unfold zfv;rw [h1];rfl
theorem zo3 : (Tryz.prog.info? 117).map (fun i => (i.zero,i.size,i.bytes)) = some (some (.agg #[.int .i64 0,.int .i64 0,.int .i64 0]),3,24):=by kernel_rfl
theorem ziY : (Tryz.prog.info? 4).map (fun i => (i.zero,i.size,i.bytes)) = some (some (.bool false),1,1):=by kernel_rfl
theorem zf9 : (Tryz.prog.info? 3).map (fun i => (i.zero,i.size,i.bytes)) = some (some (.int .i64 0),1,8):=by kernel_rfl
theorem zjA (R : Nat) (h : R ≤ 4000) (w : World) : (Instr.makeSlice 188 (.int .i64 (R : Int)) (.int .i64 (R : Int))).run Tryz.prog w = .ok (.slice (some ⟨w.heap.size,0,none⟩) R R) (w.alloc (.cells (madeCells #[.int .i64 0,.int .i64 0,.int .i64 0] (R * 3)) 117)):=by
 obtain ⟨i,hi,hzz⟩:=Option.map_eq_some_iff.1 zo3
 simp only [Prod.mk.injEq] at hzz
 obtain ⟨hz,hs,hb⟩:=hzz
 have:=run_make (P:=Tryz.prog) w 188 117 i _ Tryz.underlying188 hi hz .i64 .i64 R R (by omega) (Int.le_refl _) (by rw [hb];omega) (by omega)
 simpa [hs,Value.cells] using this
theorem jT {w : World} (b : Bk) (ap : b.Apart) (h1 : 1 ≤ b.R) (h2 : b.R ≤ 4000) (hp : w.heap[b.p]? = some (.cells #[.slice (some ⟨b.bn,0,none⟩) b.R b.R,.slice (some ⟨b.bu,0,none⟩) b.R b.R,.slice (some ⟨b.bt,0,none⟩) (2 * b.R + 1) (2 * b.R + 1),.int .i64 0] 190 (0,0)))
 (hn : w.heap[b.bn]? = some (.cells (madeCells #[.int .i64 0,.int .i64 0,.int .i64 0] (b.R * 3)) 117 (0,0))) (hu : w.heap[b.bu]? = some (.cells (madeCells #[.bool false] b.R) 4 (0,0)))
 (ht : w.heap[b.bt]? = some (.cells (madeCells #[.int .i64 0] (2 * b.R + 1)) 3 (0,0))) : zK w b (List.replicate b.R none):=by
 have hat : ∀ k,Cells.at (List.replicate b.R none) k = none:=fun k => by unfold Cells.at;simp only [List.getD_eq_getElem?_getD,List.getElem?_replicate];split <;> rfl
 have hcnt : cnt (List.replicate b.R none) = 0:=by unfold cnt;rw [List.countP_replicate];simp
 refine ⟨by simp,⟨h1,h2⟩,ap,fun _ => (0,0,0),List.replicate (2 * b.R + 1) 0,⟨?_,⟨_,hn,by rw [size_madeCells];omega,fun k hk => ?_⟩,⟨_,hu,by rw [size_madeCells],fun k hk => ?_⟩,?_⟩,by simp,?_,fun k n h => by rw [hat] at h;cases h⟩
 · rw [hcnt,List.length_replicate];exact hp
 ·
  have h3 : ∀ i,i < b.R * 3 → (madeCells #[Value.int .i64 0,.int .i64 0,.int .i64 0] (b.R * 3))[i]? = some (.int .i64 0):=by
   intro i hi
   unfold madeCells
   have h4 : i % 3 = 0 ∨ i % 3 = 1 ∨ i % 3 = 2:=by omega
   rcases h4 with e | e | e <;> simp [hi,e]
  exact ⟨h3 _ (by omega),h3 _ (by omega),h3 _ (by omega)⟩
 · rw [hat,← Array.getElem?_toList,toList_madeCells_one];simp [hk]
 ·
  rw [ht]
  congr 2
  apply Array.toList_inj.1
  rw [toList_madeCells_one];simp
 · exact (zeJ _ (fun _ => (0,0,0)) _).congr (fun k => by simp [hat]) (fun k h => h.elim)
theorem zH (w : World) (o0 o1 o2 o3 : Obj) : ((((w.alloc o0).alloc o1).alloc o2).alloc o3).drew.heap[w.heap.size]? = some o0 ∧ ((((w.alloc o0).alloc o1).alloc o2).alloc o3).drew.heap[w.heap.size + 1]? = some o1 ∧
 ((((w.alloc o0).alloc o1).alloc o2).alloc o3).drew.heap[w.heap.size + 1 + 1]? = some o2 ∧ ((((w.alloc o0).alloc o1).alloc o2).alloc o3).drew.heap[w.heap.size + 1 + 1 + 1]? = some o3 :=
 ⟨zh (zh (zh (za rfl))),zh (zh (za (by simp only [zy]))),zh (za (by simp only [zy])),za (by simp only [zy])⟩
theorem jL (w : World) (o0 o1 o2 o3 : Obj) : Below w.heap.size w ((((w.alloc o0).alloc o1).alloc o2).alloc o3).drew :=
 ((((zba).alloc (by simp) _).alloc (by simp only [zy];omega) _).alloc (by simp only [zy];omega) _).drew
set_option maxHeartbeats 4000000 in
theorem znW (R : Nat) (w : World) (h1 : 1 ≤ R) (h2 : R ≤ 4000) :
 Calls Tryz.prog 103 #[.int .i64 R] w fun e w' => (∃ b : Bk,e = .returned (.tuple #[.pointer (some ⟨b.p,0,none⟩),.nilIface]) ∧ b.R = R ∧ zK w' b (List.replicate R none) ∧ ∀ k,b.mem k → w.heap.size ≤ k) ∧ Below w.heap.size w w':=by
 have hm1:=zjA R h2
 have hm2:=run_make_row' (P:=Tryz.prog) 170 4 (.bool false) 1 Tryz.underlying170 ziY rfl .i64 .i64 R (by omega) (by omega)
 have hm3:=run_make_row' (P:=Tryz.prog) 23 3 (.int .i64 0) 8 Tryz.underlying23 zf9 rfl .i64 .i64 (2 * R + 1) (by omega) (by omega)
 rw [show ((2 * R + 1 : Nat) : Int) = 2 * (R : Int) + 1 by omega] at hm3
 go_enter Tryz.func103,Tryz.ntmps103
 go_wp2
 go_region
 all_goals (try go_wp2)
 all_goals go_ret2
 all_goals first
  | exact ⟨⟨⟨w.heap.size + 1 + 1 + 1,w.heap.size,w.heap.size + 1,w.heap.size + 1 + 1,R⟩,rfl,rfl,jT _ ⟨by dsimp only;omega,by dsimp only;omega,by dsimp only;omega,by dsimp only;omega,by dsimp only;omega,by dsimp only;omega⟩ h1 h2 (zH _ _ _ _ _).2.2.2 (zH _ _ _ _ _).1 (zH _ _ _ _ _).2.1 (zH _ _ _ _ _).2.2.1,by rintro k (rfl | rfl | rfl | rfl) <;> (dsimp only;omega)⟩,jL _ _ _ _ _⟩
  | exact ⟨⟨⟨w.heap.size + 1 + 1 + 1,w.heap.size,w.heap.size + 1 + 1,w.heap.size + 1,R⟩,rfl,rfl,jT _ ⟨by dsimp only;omega,by dsimp only;omega,by dsimp only;omega,by dsimp only;omega,by dsimp only;omega,by dsimp only;omega⟩ h1 h2 (zH _ _ _ _ _).2.2.2 (zH _ _ _ _ _).1 (zH _ _ _ _ _).2.2.1 (zH _ _ _ _ _).2.1,by rintro k (rfl | rfl | rfl | rfl) <;> (dsimp only;omega)⟩,jL _ _ _ _ _⟩
  | exact ⟨⟨⟨w.heap.size + 1 + 1 + 1,w.heap.size + 1,w.heap.size,w.heap.size + 1 + 1,R⟩,rfl,rfl,jT _ ⟨by dsimp only;omega,by dsimp only;omega,by dsimp only;omega,by dsimp only;omega,by dsimp only;omega,by dsimp only;omega⟩ h1 h2 (zH _ _ _ _ _).2.2.2 (zH _ _ _ _ _).2.1 (zH _ _ _ _ _).1 (zH _ _ _ _ _).2.2.1,by rintro k (rfl | rfl | rfl | rfl) <;> (dsimp only;omega)⟩,jL _ _ _ _ _⟩
  | exact ⟨⟨⟨w.heap.size + 1 + 1 + 1,w.heap.size + 1,w.heap.size + 1 + 1,w.heap.size,R⟩,rfl,rfl,jT _ ⟨by dsimp only;omega,by dsimp only;omega,by dsimp only;omega,by dsimp only;omega,by dsimp only;omega,by dsimp only;omega⟩ h1 h2 (zH _ _ _ _ _).2.2.2 (zH _ _ _ _ _).2.1 (zH _ _ _ _ _).2.2.1 (zH _ _ _ _ _).1,by rintro k (rfl | rfl | rfl | rfl) <;> (dsimp only;omega)⟩,jL _ _ _ _ _⟩
  | exact ⟨⟨⟨w.heap.size + 1 + 1 + 1,w.heap.size + 1 + 1,w.heap.size,w.heap.size + 1,R⟩,rfl,rfl,jT _ ⟨by dsimp only;omega,by dsimp only;omega,by dsimp only;omega,by dsimp only;omega,by dsimp only;omega,by dsimp only;omega⟩ h1 h2 (zH _ _ _ _ _).2.2.2 (zH _ _ _ _ _).2.2.1 (zH _ _ _ _ _).1 (zH _ _ _ _ _).2.1,by rintro k (rfl | rfl | rfl | rfl) <;> (dsimp only;omega)⟩,jL _ _ _ _ _⟩
  | exact ⟨⟨⟨w.heap.size + 1 + 1 + 1,w.heap.size + 1 + 1,w.heap.size + 1,w.heap.size,R⟩,rfl,rfl,jT _ ⟨by dsimp only;omega,by dsimp only;omega,by dsimp only;omega,by dsimp only;omega,by dsimp only;omega,by dsimp only;omega⟩ h1 h2 (zH _ _ _ _ _).2.2.2 (zH _ _ _ _ _).2.2.1 (zH _ _ _ _ _).2.1 (zH _ _ _ _ _).1,by rintro k (rfl | rfl | rfl | rfl) <;> (dsimp only;omega)⟩,jL _ _ _ _ _⟩
section
variable {P : Program} {ops : Array Oper} {C : World → Prop} {Q : Act → Prop} {a : Act} {o : Oper} {rest : List Oper} {K : Act → Prop}
theorem zC (v : Value) (h : ∀ w,C w → (execOp a.eval o).run P w = .ok (.value v) w) (hk : K (a.put o.dst v)) : o.quiet P a C K :=
 ⟨v,fun w hw => by unfold Oper.quietAt;rw [h w hw];exact ⟨rfl,rfl⟩,hk⟩
theorem qQ (v : Value) (f : FuncId) (args : Array Value) (h : ∀ w,(execOp a.eval o).run P w = .ok (.enter f args) w) (hc : ∀ w,C w → Calls P f args w (fun e w'' => e = .returned v ∧ C w'')) (hk : K (a.put o.dst v)) : o.quiet P a C K :=
 ⟨v,fun w hw => by unfold Oper.quietAt;rw [h w];exact ⟨rfl,hc w hw⟩,hk⟩
theorem jb (C : World → Prop) {id : Nat} {Q : Exit → Act → World → Prop} {a : Act} {w : World} {l : List Oper} (hm : P.follows .mixedOrders = true) (hB : Region.lexB .any l.toArray = true) (hC : C w.drew)
 (h : wpQuiet P l.toArray C (fun a' => ∀ w',C w' → Q .normal a' w') l a) : (Code.region id l.toArray true).wp P Q a w :=
 wp_region_quiet (C:=C) hm hB hC (by simpa using h)
end
