import Derived.Test.YtmlfelbkgoplhaaGreatDoorZlListM
import Derived.Test.YtmlfelbkgoplhaaGreatDoorZlPlanM
import Derived.Test.YtmlfelbkgoplhaaGreatDoorZlPkO
set_option linter.unusedVariables false
set_option linter.unusedSimpArgs false
namespace Go.Proofs.YtmlfelbkgoplhaaGreatDoor
open Go.RowKit
def bT : ByteArray := ⟨#[98]⟩
def lb1 : zk := ⟨1, aT, 1, 0, 0, ⟨#[]⟩, [], .slice none 0 0⟩
def lb2 : zk := ⟨1, bT, 1, 0, 0, ⟨#[]⟩, [], .slice none 0 0⟩
def lb3 : zk := ⟨2, aT, 1, 0, 0, bT, [(0, zT)], .slice none 0 0⟩
def lsB : List zk := [lb1, lb2, lb3]
def itB : List zw := [(aT, 1, 0, 0), (bT, 1, 0, 0)]
def zhu : ByteArray := ⟨#[112, 97, 99, 107, 97, 103, 101, 32, 97, 32, 49, 46, 48, 46, 48, 10, 112, 97, 99, 107, 97, 103, 101, 32, 98, 32, 49, 46, 48, 46, 48, 10, 110, 101, 101, 100, 115, 32, 97, 32, 49, 46, 48, 46, 48, 32, 98, 32, 97, 110, 121, 10]⟩
theorem zm7 : zhu = zN (zng lsB) := by kernel_rfl
theorem zj9 : ∀ x ∈ lsB, zfi x := by
 intro x hx
 apply zgO.1
 simp only [lsB, List.mem_cons, List.not_mem_nil, or_false] at hx
 rcases hx with rfl | rfl | rfl
 · decide
 · decide
 · decide
theorem zmD : ∀ x ∈ lsB, Canon x.range ∧ (zao x.range).length ≤ 1000 := by
 intro x hx
 simp only [lsB, List.mem_cons, List.not_mem_nil, or_false] at hx
 rcases hx with rfl | rfl | rfl
 · exact ⟨Canon.nil, by decide⟩
 · exact ⟨Canon.nil, by decide⟩
 · exact ⟨Canon.any, by decide⟩
theorem zmh : qj zhu lsB := by
 rw [zm7]
 exact zdY (fun x hx => ⟨zj9 x hx, (zmD x hx).1, (zmD x hx).2⟩)
theorem ziU : zI lsB = itB := rfl
theorem newB : jC lsB := by
 refine ⟨by decide, fun x hx => zgO.2 (zj9 x hx), by rw [ziU]; simp [itB, aT, bT], fun l hl hn => ?_, by decide, fun x hx hk => ?_⟩
 ·
  have h : ∀ n ∈ l, n ∈ [aT, bT] := fun n hn' => by
   obtain ⟨x, hx, hk, rfl⟩ := hn n hn'
   simp only [lsB, List.mem_cons, List.not_mem_nil, or_false] at hx
   rcases hx with rfl | rfl | rfl
   · simp [lb1]
   · simp [lb2]
   · simp [lb3]
  have := ko hl h
  simp at this
  omega
 ·
  simp only [lsB, List.mem_cons, List.not_mem_nil, or_false] at hx
  rcases hx with rfl | rfl | rfl
  · simp [lb1] at hk
  · simp [lb2] at hk
  · rw [ziU]; simp [lb3, zk.item, itB]
theorem notBA : ¬ bT.toList < aT.toList := by
 rw [ByteArray.toList_eq, ByteArray.toList_eq]
 decide
theorem catB {ls : List zk} {items : List zw} (h : qj zhu ls) (hc : zbC ls items) : xw zk.same ls lsB ∧ items = itB := by
 have hs := qj.one h zmh
 have hi := kG hs
 rw [ziU] at hi
 have hp := hc.perm
 rw [hi] at hp
 refine ⟨hs, ?_⟩
 have ho := hc.order
 have hl := hp.length_eq
 obtain ⟨x, y, rfl⟩ : ∃ x y, items = [x, y] := by
  match items, hl with
  | [x, y], _ => exact ⟨x, y, rfl⟩
 have hx : x ∈ itB := hp.mem_iff.1 (by simp)
 have hy : y ∈ itB := hp.mem_iff.1 (by simp)
 have hlt : qO x y := by simpa using ho
 have hn : ∀ l : List UInt8, ¬ l < l := fun l => List.lt_irrefl l
 simp only [itB, List.mem_cons, List.not_mem_nil, or_false] at hx hy
 rcases hx with rfl | rfl <;> rcases hy with rfl | rfl
 ·
  rcases hlt with q | ⟨_, q⟩
  · exact absurd q (hn _)
  · exact absurd q (by decide)
 · rfl
 ·
  rcases hlt with q | ⟨q, _⟩
  · exact absurd q notBA
  · exact absurd q (by decide)
 ·
  rcases hlt with q | ⟨_, q⟩
  · exact absurd q (hn _)
  · exact absurd q (by decide)
