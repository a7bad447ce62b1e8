/- The steps of a change, plain. -/
import Derived.Test.YtheemhelioendaaGreatDoorPlanM
namespace Go.Proofs.YtheemhelioendaaGreatDoor
open Go.RowKit
set_option linter.unusedVariables false

theorem nodup_rev {l : List Nat} (h : l.Nodup) : l.reverse.Nodup := List.pairwise_reverse.2 (h.imp (fun h e => h e.symm))
def stepsM (la lb : List Nat) (fr tz : Nat) : List (Nat × Bool) := (la.reverse.filter fun i => !tz.testBit i).map (fun i => (i, false)) ++ (lb.filter fun i => !fr.testBit i).map (fun i => (i, true))
theorem steps_map (la lb : List Nat) (fr tz : Nat) : (stepsM la lb fr tz).map (·.1) = (la.reverse.filter fun i => !tz.testBit i) ++ lb.filter fun i => !fr.testBit i := by
  unfold stepsM
  rw [List.map_append, List.map_map, List.map_map]
  congr 1
  · exact List.map_id _
  · exact List.map_id _
theorem steps_len (la lb : List Nat) (fr tz : Nat) : (stepsM la lb fr tz).length = (la.reverse.filter fun i => !tz.testBit i).length + (lb.filter fun i => !fr.testBit i).length := by
  unfold stepsM; rw [List.length_append, List.length_map, List.length_map]
/-- An order's items. -/
structure Lists (l : List Nat) (set : Nat) : Prop where
  nodup : l.Nodup
  mem : ∀ k, set.testBit k = decide (k ∈ l)
theorem Lists.of {items : List ItemM} {set : Nat} {ls : List LineM} {l : List Nat} (h : Ordered items set ls l) : Lists l set := ⟨h.1.nodup, bitsL_eq.1 h.2⟩
theorem Lists.iff {l : List Nat} {set : Nat} (h : Lists l set) (k : Nat) : k ∈ l ↔ set.testBit k = true := by rw [h.mem k, decide_eq_true_iff]
section
variable {la lb : List Nat} {fr tz : Nat} (ha : Lists la fr) (hb : Lists lb tz)
include ha hb
theorem steps_nodup : ((stepsM la lb fr tz).map (·.1)).Nodup := by
  rw [steps_map, List.nodup_append]
  refine ⟨(nodup_rev ha.nodup).filter _, hb.nodup.filter _, fun a h1 b h2 e => ?_⟩
  subst e
  have q1 := (List.mem_filter.1 h1).1
  have q2 := (List.mem_filter.1 h2).2
  rw [List.mem_reverse, ha.iff] at q1
  rw [q1] at q2; cases q2
theorem steps_at {s : Nat × Bool} (h : s ∈ stepsM la lb fr tz) : (s.2 = false ∧ fr.testBit s.1 = true ∧ tz.testBit s.1 = false) ∨ (s.2 = true ∧ fr.testBit s.1 = false ∧ tz.testBit s.1 = true) := by
  unfold stepsM at h
  rcases List.mem_append.1 h with h | h
  · obtain ⟨i, hi, rfl⟩ := List.mem_map.1 h
    obtain ⟨h1, h2⟩ := List.mem_filter.1 hi
    rw [List.mem_reverse, ha.iff] at h1
    exact .inl ⟨rfl, h1, by simpa using h2⟩
  · obtain ⟨i, hi, rfl⟩ := List.mem_map.1 h
    obtain ⟨h1, h2⟩ := List.mem_filter.1 hi
    rw [hb.iff] at h1
    exact .inr ⟨rfl, by simpa using h2, h1⟩
omit ha hb in
theorem steps_mono {k : Nat} (h : k + 1 < (stepsM la lb fr tz).length) (h1 : (stepsM la lb fr tz)[k].2 = true) : (stepsM la lb fr tz)[k + 1].2 = true := by
  unfold stepsM at h h1 ⊢
  rcases Nat.lt_or_ge k ((la.reverse.filter fun i => !tz.testBit i).map (fun i => (i, false))).length with q | q
  · rw [List.getElem_append_left q] at h1
    rw [List.getElem_map] at h1
    cases h1
  · rw [List.getElem_append_right (by omega), List.getElem_map]
theorem steps_mem (j : Nat) : j ∈ (stepsM la lb fr tz).map (·.1) ↔ fr.testBit j ≠ tz.testBit j := by
  rw [steps_map, List.mem_append, List.mem_filter, List.mem_filter, List.mem_reverse, ha.iff, hb.iff]
  cases fr.testBit j <;> cases tz.testBit j <;> simp
end
/-- Where a change is behind so many steps. -/
def nowM (fr : Nat) (st : List (Nat × Bool)) : Nat := st.foldl (fun a s => a ^^^ 2 ^ s.1) fr
theorem nowM_snoc (fr : Nat) (st : List (Nat × Bool)) (s : Nat × Bool) : nowM fr (st ++ [s]) = nowM fr st ^^^ 2 ^ s.1 := by unfold nowM; rw [List.foldl_append]; rfl
theorem nowM_take (fr : Nat) (st : List (Nat × Bool)) {k : Nat} (h : k < st.length) : nowM fr (st.take (k + 1)) = nowM fr (st.take k) ^^^ 2 ^ st[k].1 := by
  rw [List.take_succ_eq_append_getElem h, nowM_snoc]
theorem foldl_now (j : Nat) : ∀ (st : List (Nat × Bool)) (a : Nat), (st.map (·.1)).Nodup → (st.foldl (fun a s => a ^^^ 2 ^ s.1) a).testBit j = (a.testBit j != decide (j ∈ st.map (·.1)))
  | [], a, _ => by simp
  | s :: st, a, h => by
    rw [List.map_cons, List.nodup_cons] at h
    rw [List.foldl_cons, foldl_now j st _ h.2, Nat.testBit_xor, Nat.testBit_two_pow, List.map_cons]
    by_cases e : s.1 = j
    · subst e
      rw [decide_eq_true rfl, decide_eq_false h.1, decide_eq_true (List.mem_cons_self ..)]
      cases a.testBit s.1 <;> rfl
    · rw [decide_eq_false e]
      have : (j ∈ s.1 :: st.map (·.1)) = (j ∈ st.map (·.1)) := propext (by rw [List.mem_cons]; exact ⟨fun h => h.resolve_left (fun q => e q.symm), .inr⟩)
      simp only [this]
      cases a.testBit j <;> rfl
theorem nowM_test {la lb : List Nat} {fr tz : Nat} (ha : Lists la fr) (hb : Lists lb tz) (k j : Nat) : (nowM fr ((stepsM la lb fr tz).take k)).testBit j = (fr.testBit j != decide (j ∈ ((stepsM la lb fr tz).take k).map (·.1))) := by
  unfold nowM
  refine foldl_now j _ _ ?_
  rw [List.map_take]
  exact (steps_nodup ha hb).sublist (List.take_sublist _ _)
/-- At a step the item is as it was at first. -/
theorem now_at {la lb : List Nat} {fr tz : Nat} (ha : Lists la fr) (hb : Lists lb tz) {k : Nat} (h : k < (stepsM la lb fr tz).length) : (nowM fr ((stepsM la lb fr tz).take k)).testBit (stepsM la lb fr tz)[k].1 = fr.testBit (stepsM la lb fr tz)[k].1 := by
  rw [nowM_test ha hb, decide_eq_false, Bool.bne_false]
  intro q
  have hn := steps_nodup ha hb
  obtain ⟨i, hi, e⟩ := List.getElem_of_mem q
  rw [List.length_map, List.length_take] at hi
  rw [List.getElem_map, List.getElem_take] at e
  have h2 := List.pairwise_iff_getElem.1 hn i k (by rw [List.length_map]; omega) (by rw [List.length_map]; exact h) (by omega)
  rw [List.getElem_map, List.getElem_map] at h2
  exact h2 e
theorem now_all {la lb : List Nat} {fr tz : Nat} (ha : Lists la fr) (hb : Lists lb tz) : nowM fr (stepsM la lb fr tz) = tz := by
  refine Nat.eq_of_testBit_eq fun j => ?_
  have h := nowM_test ha hb (stepsM la lb fr tz).length j
  rw [List.take_length] at h
  rw [h]
  have hm := steps_mem ha hb j
  by_cases e : fr.testBit j = tz.testBit j
  · rw [decide_eq_false (fun q => (hm.1 q) e), e, Bool.bne_false]
  · rw [decide_eq_true (hm.2 e)]
    cases h1 : fr.testBit j <;> cases h2 : tz.testBit j <;> simp_all
/-- Whatever the orders: as many steps there as back. -/
theorem steps_back {la lb la' lb' : List Nat} {fr tz : Nat} (ha : Lists la fr) (hb : Lists lb tz) (ha' : Lists la' tz) (hb' : Lists lb' fr) : (stepsM la lb fr tz).length = (stepsM la' lb' tz fr).length := by
  have key : ∀ {l m : List Nat} {s : Nat}, Lists l s → Lists m s → ∀ p : Nat → Bool, (l.filter p).length ≤ (m.filter p).length := fun hl hm p => by
    refine nodup_sub (hl.nodup.filter _) (fun x hx => ?_)
    obtain ⟨h1, h2⟩ := List.mem_filter.1 hx
    rw [hl.iff] at h1
    exact List.mem_filter.2 ⟨(hm.iff x).2 h1, h2⟩
  have rev : ∀ {l : List Nat} {s : Nat}, Lists l s → Lists l.reverse s := fun h => ⟨nodup_rev h.nodup, fun k => by simp only [List.mem_reverse]; exact h.mem k⟩
  rw [steps_len, steps_len]
  have h1 := key (rev ha) hb' (fun i => !tz.testBit i)
  have h2 := key hb' (rev ha) (fun i => !tz.testBit i)
  have h3 := key hb (rev ha') (fun i => !fr.testBit i)
  have h4 := key (rev ha') hb (fun i => !fr.testBit i)
  omega
/-- An installation that has an order is not stuck. -/
theorem ordered_on {items : List ItemM} {set : Nat} {ls : List LineM} {l : List Nat} (h : Ordered items set ls l) : ¬ Cyclic items set ls := by
  rintro ⟨m, hm, hne, hr⟩
  have key : ∀ n, n ≤ l.length → ∀ i ∈ l.take n, i ∈ m := by
    intro n
    induction n with
    | zero => intro _ i hi; simp at hi
    | succ n ih =>
      intro hn i hi
      rw [List.take_succ_eq_append_getElem (by omega)] at hi
      rcases List.mem_append.1 hi with q | q
      · exact ih (by omega) i q
      · rw [List.mem_singleton.1 q]
        have hin := h.1.inn _ (List.getElem_mem (show n < l.length by omega))
        rcases Decidable.em (l[n] ∈ m) with hq | hq
        · exact hq
        · obtain ⟨k, hk, hk2⟩ := readyB_false (hr _ hin.1) hin.2 hq
          exact absurd (ih (by omega) k (h.1.ready n (by omega) k hk)) hk2
  refine hne (bitsL_eq.2 fun k => ?_)
  have h1 := bitsL_eq.1 h.2 k
  rw [h1]
  have : k ∈ l ↔ k ∈ m := ⟨fun q => key l.length (Nat.le_refl _) k (by rw [List.take_length]; exact q), fun q => by
    have := (hm.inn k q).2
    rw [h1] at this
    simpa using this⟩
  simp only [this]
/-- Is there an order? -/
def GoodSet (items : List ItemM) (set : Nat) (ls : List LineM) : Prop := fitsB ls items set = true ∧ ¬ Cyclic items set ls
end Go.Proofs.YtheemhelioendaaGreatDoor
