/- The written-out catalog of 'listed' and 'ruled'. -/
import Derived.Test.YtheemhelioendaaGreatDoorPkP
import Derived.Test.YtheemhelioendaaGreatDoorPkH
namespace Go.Proofs.YtheemhelioendaaGreatDoor
open Go.RowKit
set_option linter.unusedVariables false

def aT : ByteArray := ⟨#[97]⟩
def la1 : LineM := ⟨1, aT, 1, 0, 0, ⟨#[]⟩, [], .slice none 0 0⟩
def la2 : LineM := ⟨1, aT, 2, 0, 0, ⟨#[]⟩, [], .slice none 0 0⟩
def la3 : LineM := ⟨4, aT, 0, 0, 0, ⟨#[]⟩, [(0, pastV)], .slice none 0 0⟩
def lsA : List LineM := [la1, la2, la3]
def textA : ByteArray := ⟨#[112, 97, 99, 107, 97, 103, 101, 32, 97, 32, 49, 46, 48, 46, 48, 10, 112, 97, 99, 107, 97, 103, 101, 32, 97, 32, 50, 46, 48, 46, 48, 10, 114, 111, 111, 116, 32, 97, 32, 97, 110, 121, 10]⟩
theorem textA_eq : textA = wordB (catT lsA) := by kernel_rfl
theorem nameA : nameOk aT = true := by decide
theorem lineOkA : ∀ x ∈ lsA, LineOk x := by
  intro x hx
  apply checkM_ok.1
  simp only [lsA, List.mem_cons, List.not_mem_nil, or_false] at hx
  rcases hx with rfl | rfl | rfl
  · decide
  · decide
  · decide
theorem canonA : ∀ x ∈ lsA, Canon x.range ∧ (rangeT x.range).length ≤ 1000 := by
  intro x hx
  simp only [lsA, List.mem_cons, List.not_mem_nil, or_false] at hx
  rcases hx with rfl | rfl | rfl
  · exact ⟨Canon.nil, by decide⟩
  · exact ⟨Canon.nil, by decide⟩
  · exact ⟨Canon.any, by decide⟩
theorem linesA : LinesR textA lsA := by
  rw [textA_eq]
  exact linesR_text (fun x hx => ⟨lineOkA x hx, (canonA x hx).1, (canonA x hx).2⟩)
theorem itemsA : itemsOf lsA = [(aT, 1, 0, 0), (aT, 2, 0, 0)] := rfl
theorem newA : NewOk lsA := by
  refine ⟨by decide, fun x hx => checkM_ok.2 (lineOkA x hx), by rw [itemsA]; simp, fun l hl hn => ?_, by decide, fun x hx hk => ?_⟩
  · have h : ∀ n ∈ l, n ∈ [aT] := fun n hn' => by
      obtain ⟨x, hx, hk, rfl⟩ := hn n hn'
      simp only [lsA, List.mem_cons, List.not_mem_nil, or_false] at hx
      rcases hx with rfl | rfl | rfl
      · simp [la1]
      · simp [la2]
      · simp [la3]
    have := nodup_sub hl h
    simp at this
    omega
  · simp only [lsA, List.mem_cons, List.not_mem_nil, or_false] at hx
    rcases hx with rfl | rfl | rfl
    · simp [la1] at hk
    · simp [la2] at hk
    · simp [la3] at hk
theorem catA {ls : List LineM} {items : List ItemM} (h : LinesR textA ls) (hc : CatOk ls items) : ls.length = 3 ∧ items = [(aT, 2, 0, 0), (aT, 1, 0, 0)] := by
  have hs := LinesR.one h linesA
  have hi := same_items hs
  rw [itemsA] at hi
  have hp := hc.perm
  rw [hi] at hp
  refine ⟨hs.len, ?_⟩
  have ho := hc.order
  have hl := hp.length_eq
  obtain ⟨x, y, rfl⟩ : ∃ x y, items = [x, y] := by
    match items, hl with
    | [x, y], _ => exact ⟨x, y, rfl⟩
  have hx : x ∈ [(aT, (1 : Int), (0 : Int), (0 : Int)), (aT, 2, 0, 0)] := hp.mem_iff.1 (by simp)
  have hy : y ∈ [(aT, (1 : Int), (0 : Int), (0 : Int)), (aT, 2, 0, 0)] := hp.mem_iff.1 (by simp)
  have hlt : itemLt x y := by simpa using ho
  have hn : ∀ l : List UInt8, ¬ l < l := fun l => List.lt_irrefl l
  simp only [List.mem_cons, List.not_mem_nil, or_false] at hx hy
  rcases hx with rfl | rfl <;> rcases hy with rfl | rfl
  · rcases hlt with q | ⟨_, q⟩
    · exact absurd q (hn _)
    · exact absurd q (by decide)
  · rcases hlt with q | ⟨_, q⟩
    · exact absurd q (hn _)
    · exact absurd q (by decide)
  · rfl
  · rcases hlt with q | ⟨_, q⟩
    · exact absurd q (hn _)
    · exact absurd q (by decide)
theorem numA : numM [(aT, 2, 0, 0), (aT, 1, 0, 0)] (aT, 2, 0, 0) = 0 := numM_hit (k := 0) (by simp) rfl (fun j hj => absurd hj (Nat.not_lt_zero _))
end Go.Proofs.YtheemhelioendaaGreatDoor
