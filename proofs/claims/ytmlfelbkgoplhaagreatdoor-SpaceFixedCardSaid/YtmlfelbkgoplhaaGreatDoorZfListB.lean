import Derived.Test.YtmlfelbkgoplhaaGreatDoorZfListM
import Derived.Test.YtmlfelbkgoplhaaGreatDoorZfPlanM
import Derived.Test.YtmlfelbkgoplhaaGreatDoorZfPkO
set_option linter.unusedVariables false
set_option linter.unusedSimpArgs false
namespace Go.Proofs.YtmlfelbkgoplhaaGreatDoor
open Go.RowKit
def bT : ByteArray:=⟨#[98]⟩
def lb1 : zm:=⟨1,aT,1,0,0,⟨#[]⟩,[],.slice none 0 0⟩
def lb2 : zm:=⟨1,bT,1,0,0,⟨#[]⟩,[],.slice none 0 0⟩
def lb3 : zm:=⟨2,aT,1,0,0,bT,[(0,zU)],.slice none 0 0⟩
def lsB : List zm:=[lb1,lb2,lb3]
def itB : List zA:=[(aT,1,0,0),(bT,1,0,0)]
def ziN : ByteArray:=⟨#[112,97,99,107,97,103,101,32,97,32,49,46,48,46,48,10,112,97,99,107,97,103,101,32,98,32,49,46,48,46,48,10,110,101,101,100,115,32,97,32,49,46,48,46,48,32,98,32,97,110,121,10]⟩
theorem zoE : ziN = zQ (zo4 lsB):=by kernel_rfl
theorem zlo : ∀ x ∈ lsB,zfh x:=by
 intro x hx
 apply zhr.1
 simp only [lsB,List.mem_cons,List.not_mem_nil,or_false] at hx
 rcases hx with rfl | rfl | rfl
 · decide
 · decide
 · decide
theorem zn3 : ∀ x ∈ lsB,Canon x.range ∧ (zaM x.range).length ≤ 1000:=by
 intro x hx
 simp only [lsB,List.mem_cons,List.not_mem_nil,or_false] at hx
 rcases hx with rfl | rfl | rfl
 · exact ⟨Canon.nil,by decide⟩
 · exact ⟨Canon.nil,by decide⟩
 · exact ⟨Canon.any,by decide⟩
theorem zoI : qD ziN lsB:=by
 rw [zoE]
 exact zeF (fun x hx => ⟨zlo x hx,(zn3 x hx).1,(zn3 x hx).2⟩)
theorem zj5 : zM lsB = itB:=rfl
theorem newB : jW lsB:=by
 refine ⟨by decide,fun x hx => zhr.2 (zlo x hx),by rw [zj5];simp [itB,aT,bT],fun l hl hn => ?_,by decide,fun x hx hk => ?_⟩
 ·
  have h : ∀ n ∈ l,n ∈ [aT,bT]:=fun n hn' => by
   obtain ⟨x,hx,hk,rfl⟩:=hn n hn'
   simp only [lsB,List.mem_cons,List.not_mem_nil,or_false] at hx
   rcases hx with rfl | rfl | rfl
   · simp [lb1]
   · simp [lb2]
   · simp [lb3]
  have:=kR hl h
  simp at this
  omega
 ·
  simp only [lsB,List.mem_cons,List.not_mem_nil,or_false] at hx
  rcases hx with rfl | rfl | rfl
  · simp [lb1] at hk
  · simp [lb2] at hk
  · rw [zj5];simp [lb3,zm.item,itB]
theorem notBA : ¬ bT.toList < aT.toList:=by
 rw [ByteArray.toList_eq,ByteArray.toList_eq]
 decide
theorem catB {ls : List zm} {items : List zA} (h : qD ziN ls) (hc : zbu ls items) : yG zm.same ls lsB ∧ items = itB:=by
 have hs:=qD.one h zoI
 have hi:=zae hs
 rw [zj5] at hi
 have hp:=hc.perm
 rw [hi] at hp
 refine ⟨hs,?_⟩
 have ho:=hc.order
 have hl:=hp.length_eq
 obtain ⟨x,y,rfl⟩ : ∃ x y,items = [x,y]:=by
  match items,hl with
  | [x,y],_ => exact ⟨x,y,rfl⟩
 have hx : x ∈ itB:=hp.mem_iff.1 (by simp)
 have hy : y ∈ itB:=hp.mem_iff.1 (by simp)
 have hlt : ji x y:=by simpa using ho
 have hn : ∀ l : List UInt8,¬ l < l:=fun l => List.lt_irrefl l
 simp only [itB,List.mem_cons,List.not_mem_nil,or_false] at hx hy
 rcases hx with rfl | rfl <;> rcases hy with rfl | rfl
 ·
  rcases hlt with q | ⟨_,q⟩
  · exact absurd q (hn _)
  · exact absurd q (by decide)
 · rfl
 ·
  rcases hlt with q | ⟨q,_⟩
  · exact absurd q notBA
  · exact absurd q (by decide)
 ·
  rcases hlt with q | ⟨_,q⟩
  · exact absurd q (hn _)
  · exact absurd q (by decide)
