/- The written-out catalog of 'planned' and 'laid'. -/
import Derived.Test.YtheemhelioendaaGreatDoorListM
import Derived.Test.YtheemhelioendaaGreatDoorPlanM
import Derived.Test.YtheemhelioendaaGreatDoorPkO
namespace Go.Proofs.YtheemhelioendaaGreatDoor
open Go.RowKit
set_option linter.unusedVariables false

def bT : ByteArray := ⟨#[98]⟩
def lb1 : LineM := ⟨1, aT, 1, 0, 0, ⟨#[]⟩, [], .slice none 0 0⟩
def lb2 : LineM := ⟨1, bT, 1, 0, 0, ⟨#[]⟩, [], .slice none 0 0⟩
def lb3 : LineM := ⟨2, aT, 1, 0, 0, bT, [(0, pastV)], .slice none 0 0⟩
def lsB : List LineM := [lb1, lb2, lb3]
def itB : List ItemM := [(aT, 1, 0, 0), (bT, 1, 0, 0)]
def textB : ByteArray := ⟨#[112, 97, 99, 107, 97, 103, 101, 32, 97, 32, 49, 46, 48, 46, 48, 10, 112, 97, 99, 107, 97, 103, 101, 32, 98, 32, 49, 46, 48, 46, 48, 10, 110, 101, 101, 100, 115, 32, 97, 32, 49, 46, 48, 46, 48, 32, 98, 32, 97, 110, 121, 10]⟩
theorem textB_eq : textB = wordB (catT lsB) := by kernel_rfl
theorem lineOkB : ∀ x ∈ lsB, LineOk x := by
  intro x hx
  apply checkM_ok.1
  simp only [lsB, List.mem_cons, List.not_mem_nil, or_false] at hx
  rcases hx with rfl | rfl | rfl
  · decide
  · decide
  · decide
theorem canonB : ∀ x ∈ lsB, Canon x.range ∧ (rangeT x.range).length ≤ 1000 := by
  intro x hx
  simp only [lsB, List.mem_cons, List.not_mem_nil, or_false] at hx
  rcases hx with rfl | rfl | rfl
  · exact ⟨Canon.nil, by decide⟩
  · exact ⟨Canon.nil, by decide⟩
  · exact ⟨Canon.any, by decide⟩
theorem linesB : LinesR textB lsB := by
  rw [textB_eq]
  exact linesR_text (fun x hx => ⟨lineOkB x hx, (canonB x hx).1, (canonB x hx).2⟩)
theorem itemsB : itemsOf lsB = itB := rfl
theorem newB : NewOk lsB := by
  refine ⟨by decide, fun x hx => checkM_ok.2 (lineOkB x hx), by rw [itemsB]; simp [itB, aT, bT], fun l hl hn => ?_, by decide, fun x hx hk => ?_⟩
  · have h : ∀ n ∈ l, n ∈ [aT, bT] := fun n hn' => by
      obtain ⟨x, hx, hk, rfl⟩ := hn n hn'
      simp only [lsB, List.mem_cons, List.not_mem_nil, or_false] at hx
      rcases hx with rfl | rfl | rfl
      · simp [lb1]
      · simp [lb2]
      · simp [lb3]
    have := nodup_sub hl h
    simp at this
    omega
  · simp only [lsB, List.mem_cons, List.not_mem_nil, or_false] at hx
    rcases hx with rfl | rfl | rfl
    · simp [lb1] at hk
    · simp [lb2] at hk
    · rw [itemsB]; simp [lb3, LineM.item, itB]
theorem notBA : ¬ bT.toList < aT.toList := by
  rw [ByteArray.toList_eq, ByteArray.toList_eq]
  decide
theorem catB {ls : List LineM} {items : List ItemM} (h : LinesR textB ls) (hc : CatOk ls items) : All2 LineM.same ls lsB ∧ items = itB := by
  have hs := LinesR.one h linesB
  have hi := same_items hs
  rw [itemsB] at hi
  have hp := hc.perm
  rw [hi] at hp
  refine ⟨hs, ?_⟩
  have ho := hc.order
  have hl := hp.length_eq
  obtain ⟨x, y, rfl⟩ : ∃ x y, items = [x, y] := by
    match items, hl with
    | [x, y], _ => exact ⟨x, y, rfl⟩
  have hx : x ∈ itB := hp.mem_iff.1 (by simp)
  have hy : y ∈ itB := hp.mem_iff.1 (by simp)
  have hlt : itemLt x y := by simpa using ho
  have hn : ∀ l : List UInt8, ¬ l < l := fun l => List.lt_irrefl l
  simp only [itB, List.mem_cons, List.not_mem_nil, or_false] at hx hy
  rcases hx with rfl | rfl <;> rcases hy with rfl | rfl
  · rcases hlt with q | ⟨_, q⟩
    · exact absurd q (hn _)
    · exact absurd q (by decide)
  · rfl
  · rcases hlt with q | ⟨q, _⟩
    · exact absurd q notBA
    · exact absurd q (by decide)
  · rcases hlt with q | ⟨_, q⟩
    · exact absurd q (hn _)
    · exact absurd q (by decide)
theorem same_lead {x y : LineM} (h : x.same y) (items : List ItemM) (set i : Nat) : leadN items set i x = leadN items set i y := by
  have hi := same_item h
  obtain ⟨h0, h1, h2, h3, h4, h5, h6⟩ := h
  unfold leadN
  rw [h0, h5, h6, hi]
theorem same_leads (items : List ItemM) (set i : Nat) : ∀ {a b : List LineM}, All2 LineM.same a b → leadsM items set a i = leadsM items set b i
  | [], [], _ => rfl
  | x :: a, y :: b, h => by
    have ih := same_leads items set i h.2
    unfold leadsM at ih ⊢
    rw [List.flatMap_cons, List.flatMap_cons, same_lead h.1, ih]
theorem leadsB {ls : List LineM} (h : All2 LineM.same ls lsB) : leadsM itB 3 ls 0 = [1] ∧ leadsM itB 3 ls 1 = [] := by
  rw [same_leads itB 3 0 h, same_leads itB 3 1 h]
  constructor
  · kernel_rfl
  · kernel_rfl
/-- The order of all. -/
theorem orderB {ls : List LineM} (h : All2 LineM.same ls lsB) {l : List Nat} (ho : Ordered itB 3 ls l) : l = [1, 0] := by
  obtain ⟨h0, h1⟩ := leadsB h
  obtain ⟨hp, hb⟩ := ho
  have hm := bitsL_eq.1 hb
  have m0 : 0 ∈ l := by have := hm 0; rw [show Nat.testBit 3 0 = true from rfl] at this; simpa using this.symm
  have m1 : 1 ∈ l := by have := hm 1; rw [show Nat.testBit 3 1 = true from rfl] at this; simpa using this.symm
  have hle : l.length ≤ 2 := hp.len
  have hin : ∀ i ∈ l, i < 2 := fun i hi => (hp.inn i hi).1
  have hnd := hp.nodup
  match l, hle, m0, m1, hin, hnd, hp with
  | [], _, m0, _, _, _, _ => cases m0
  | [x], _, m0, m1, _, _, _ => exact absurd ((List.mem_singleton.1 m0).trans (List.mem_singleton.1 m1).symm) (by decide)
  | [x, y], _, m0, m1, hin, hnd, hp =>
    have hx := hin x (by simp)
    have hy := hin y (by simp)
    have hne : x ≠ y := by simpa using hnd
    have hr := hp.ready 0 (by simp)
    simp only [List.getElem_cons_zero, List.take_zero] at hr
    by_cases e : x = 0
    · subst e
      rw [h0] at hr
      exact absurd (hr 1 (by simp)) (by simp)
    · have e1 : x = 1 := by omega
      have e2 : y = 0 := by omega
      rw [e1, e2]
  | x :: y :: z :: r, hle, _, _, _, _, _ => simp at hle
/-- There is a way on. -/
theorem cyclicB {ls : List LineM} (h : All2 LineM.same ls lsB) : ¬ Cyclic itB 3 ls := by
  obtain ⟨h0, h1⟩ := leadsB h
  rintro ⟨l, hp, hb, hr⟩
  have r1 := hr 1 (by decide)
  have r0 := hr 0 (by decide)
  have m1 : 1 ∈ l := by
    rcases Decidable.em (1 ∈ l) with q | q
    · exact q
    · obtain ⟨k, hk, _⟩ := readyB_false r1 (by decide) q
      rw [h1] at hk; cases hk
  have m0 : 0 ∈ l := by
    rcases Decidable.em (0 ∈ l) with q | q
    · exact q
    · obtain ⟨k, hk, hk2⟩ := readyB_false r0 (by decide) q
      rw [h0, List.mem_singleton] at hk
      subst hk
      exact absurd m1 hk2
  refine hb (bitsL_eq.2 fun k => ?_)
  have hin : ∀ i ∈ l, i < 2 := fun i hi => (hp.inn i hi).1
  match k with
  | 0 => rw [decide_eq_true m0]; rfl
  | 1 => rw [decide_eq_true m1]; rfl
  | k + 2 =>
    have : k + 2 ∉ l := fun q => by have := hin _ q; omega
    rw [decide_eq_false this, Nat.testBit_lt_two_pow]
    have : 2 ^ 2 ≤ 2 ^ (k + 2) := Nat.pow_le_pow_right (by decide) (by omega)
    omega
theorem fitsB3 {ls : List LineM} (h : All2 LineM.same ls lsB) (ho : CatOk ls itB) : fitsB ls itB 3 = true ∧ fitsB ls itB 1 = false := by
  rw [fits_rules 3 ho, fits_rules 1 ho, same_rules h]
  constructor
  · kernel_rfl
  · kernel_rfl
end Go.Proofs.YtheemhelioendaaGreatDoor
