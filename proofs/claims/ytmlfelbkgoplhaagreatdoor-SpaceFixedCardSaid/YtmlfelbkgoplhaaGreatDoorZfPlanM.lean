import Derived.Test.YtmlfelbkgoplhaaGreatDoorZfFitM
import Derived.Test.YtmlfelbkgoplhaaGreatDoorZfPkM
set_option linter.unusedVariables false
set_option linter.unusedSimpArgs false
namespace Go.Proofs.YtmlfelbkgoplhaaGreatDoor
open Go.RowKit
def leadN (items : List zA) (set i : Nat) (x : zm) : List Nat:=if x.kind = 2 ∧ kP items x.item = i ∧ set.testBit i = true then (jf items x.other x.range).filter (fun k => set.testBit k && decide (k ≠ i)) else []
def zoP (items : List zA) (set : Nat) (ls : List zm) (i : Nat) : List Nat:=ls.flatMap (leadN items set i)
structure zcS (items : List zA) (set : Nat) (ls : List zm) (l : List Nat) : Prop where
 inn : ∀ i ∈ l,i < items.length ∧ set.testBit i = true
 nodup : l.Nodup
 ready : ∀ j,(h : j < l.length) → ∀ k ∈ zoP items set ls l[j],k ∈ l.take j
theorem zcS.nil (items : List zA) (set : Nat) (ls : List zm) : zcS items set ls []:=⟨fun i h => (by cases h),List.nodup_nil,fun j h => (by simp at h)⟩
theorem zcS.snoc {items : List zA} {set : Nat} {ls : List zm} {l : List Nat} (h : zcS items set ls l) {i : Nat} (h1 : i < items.length) (h2 : set.testBit i = true) (h3 : i ∉ l) (h4 : ∀ k ∈ zoP items set ls i,k ∈ l) : zcS items set ls (l ++ [i]):=by
 refine ⟨fun j hj => ?_,?_,fun j hj k hk => ?_⟩
 ·
  rcases List.mem_append.1 hj with q | q
  · exact h.inn j q
  · rw [List.mem_singleton.1 q];exact ⟨h1,h2⟩
 ·
  rw [List.nodup_append]
  refine ⟨h.nodup,by simp,fun a ha b hb e => ?_⟩
  rw [List.mem_singleton.1 hb] at e
  exact h3 (e ▸ ha)
 ·
  by_cases e : j < l.length
  ·
   rw [List.getElem_append_left e] at hk
   rw [List.take_append_of_le_length (Nat.le_of_lt e)]
   exact h.ready j e k hk
  ·
   have e2 : j = l.length:=by simp at hj;omega
   subst e2
   rw [List.getElem_append_right (znr _)] at hk
   simp only [Nat.sub_self,List.getElem_cons_zero] at hk
   rw [List.take_left]
   exact h4 k hk
theorem zcS.len {items : List zA} {set : Nat} {ls : List zm} {l : List Nat} (h : zcS items set ls l) : l.length ≤ items.length:=by
 have h2 : l.Nodup:=h.nodup
 have : ∀ i ∈ l,i ∈ List.range items.length:=fun i hi => List.mem_range.2 (h.inn i hi).1
 have:=kR h2 this
 simpa using this
