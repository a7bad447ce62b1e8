/- The written-out catalog of 'planned' and 'laid'. -/
import Derived.Test.YtmlfelbkgoplhaaGreatDoorZhListM
import Derived.Test.YtmlfelbkgoplhaaGreatDoorZhPlanM
import Derived.Test.YtmlfelbkgoplhaaGreatDoorZhPkO
namespace Go.Proofs.YtmlfelbkgoplhaaGreatDoor
open Go.RowKit
set_option linter.unusedVariables false
def bT : ByteArray := ⟨#[98]⟩
def lb1 : LineM := ⟨1, aT, 1, 0, 0, ⟨#[]⟩, [], .slice none 0 0⟩
def lb2 : LineM := ⟨1, bT, 1, 0, 0, ⟨#[]⟩, [], .slice none 0 0⟩
def lb3 : LineM := ⟨2, aT, 1, 0, 0, bT, [(0, pastV)], .slice none 0 0⟩
def lsB : List LineM := [lb1, lb2, lb3]
def itB : List ItemM := [(aT, 1, 0, 0), (bT, 1, 0, 0)]
def textB : ByteArray := ⟨#[112, 97, 99, 107, 97, 103, 101, 32, 97, 32, 49, 46, 48, 46, 48, 10, 112, 97, 99, 107, 97, 103, 101, 32, 98, 32, 49, 46, 48, 46, 48, 10, 110, 101, 101, 100, 115, 32, 97, 32, 49, 46, 48, 46, 48, 32, 98, 32, 97, 110, 121, 10]⟩
theorem textB_eq : textB = wordB (catT lsB) := by kernel_rfl
theorem lineOkB : ∀ x ∈ lsB, LineOk x := by
 intro x hx
 apply checkM_ok.1
 simp only [lsB, List.mem_cons, List.not_mem_nil, or_false] at hx
 rcases hx with rfl | rfl | rfl
 · decide
 · decide
 · decide
theorem canonB : ∀ x ∈ lsB, Canon x.range ∧ (rangeT x.range).length ≤ 1000 := by
 intro x hx
 simp only [lsB, List.mem_cons, List.not_mem_nil, or_false] at hx
 rcases hx with rfl | rfl | rfl
 · exact ⟨Canon.nil, by decide⟩
 · exact ⟨Canon.nil, by decide⟩
 · exact ⟨Canon.any, by decide⟩
theorem linesB : LinesR textB lsB := by
 rw [textB_eq]
 exact linesR_text (fun x hx => ⟨lineOkB x hx, (canonB x hx).1, (canonB x hx).2⟩)
theorem itemsB : itemsOf lsB = itB := rfl
theorem newB : NewOk lsB := by
 refine ⟨by decide, fun x hx => checkM_ok.2 (lineOkB x hx), by rw [itemsB]; simp [itB, aT, bT], fun l hl hn => ?_, by decide, fun x hx hk => ?_⟩
 ·
  have h : ∀ n ∈ l, n ∈ [aT, bT] := fun n hn' => by
   obtain ⟨x, hx, hk, rfl⟩ := hn n hn'
   simp only [lsB, List.mem_cons, List.not_mem_nil, or_false] at hx
   rcases hx with rfl | rfl | rfl
   · simp [lb1]
   · simp [lb2]
   · simp [lb3]
  have := nodup_sub hl h
  simp at this
  omega
 ·
  simp only [lsB, List.mem_cons, List.not_mem_nil, or_false] at hx
  rcases hx with rfl | rfl | rfl
  · simp [lb1] at hk
  · simp [lb2] at hk
  · rw [itemsB]; simp [lb3, LineM.item, itB]
theorem notBA : ¬ bT.toList < aT.toList := by
 rw [ByteArray.toList_eq, ByteArray.toList_eq]
 decide
theorem catB {ls : List LineM} {items : List ItemM} (h : LinesR textB ls) (hc : CatOk ls items) : All2 LineM.same ls lsB ∧ items = itB := by
 have hs := LinesR.one h linesB
 have hi := same_items hs
 rw [itemsB] at hi
 have hp := hc.perm
 rw [hi] at hp
 refine ⟨hs, ?_⟩
 have ho := hc.order
 have hl := hp.length_eq
 obtain ⟨x, y, rfl⟩ : ∃ x y, items = [x, y] := by
  match items, hl with
  | [x, y], _ => exact ⟨x, y, rfl⟩
 have hx : x ∈ itB := hp.mem_iff.1 (by simp)
 have hy : y ∈ itB := hp.mem_iff.1 (by simp)
 have hlt : itemLt x y := by simpa using ho
 have hn : ∀ l : List UInt8, ¬ l < l := fun l => List.lt_irrefl l
 simp only [itB, List.mem_cons, List.not_mem_nil, or_false] at hx hy
 rcases hx with rfl | rfl <;> rcases hy with rfl | rfl
 ·
  rcases hlt with q | ⟨_, q⟩
  · exact absurd q (hn _)
  · exact absurd q (by decide)
 · rfl
 ·
  rcases hlt with q | ⟨q, _⟩
  · exact absurd q notBA
  · exact absurd q (by decide)
 ·
  rcases hlt with q | ⟨_, q⟩
  · exact absurd q (hn _)
  · exact absurd q (by decide)
end Go.Proofs.YtmlfelbkgoplhaaGreatDoor
