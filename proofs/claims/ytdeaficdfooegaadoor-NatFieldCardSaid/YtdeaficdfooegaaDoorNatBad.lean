/- Contract: count.Parse, where the text is no number or has too many digits. -/
import Derived.Test.YtdeaficdfooegaaDoorNatParse
namespace Go.Proofs.YtdeaficdfooegaaDoor
open Go.RowKit Go.Lib
set_option linter.unusedVariables false
theorem badD_cases {s : ByteArray} (h : goodD s.data.toList = false) :
    s.size = 0 ∨ (0 < s.size ∧ ∃ b ∈ s.data.toList, digitB b = false) ∨ (0 < s.size ∧ (∀ b ∈ s.data.toList, digitB b = true) ∧ s.data.toList.head? = some 48 ∧ s.data.toList ≠ [48]) := by
  rcases Nat.eq_zero_or_pos s.size with h0 | h0
  · exact Or.inl h0
  · right
    by_cases hd : ∃ b ∈ s.data.toList, digitB b = false
    · exact Or.inl ⟨h0, hd⟩
    · right
      have hall : ∀ b ∈ s.data.toList, digitB b = true := fun b hb => by
        cases e : digitB b
        · exact absurd ⟨b, hb, e⟩ hd
        · rfl
      have hne : s.data.toList ≠ [] := fun e => by
        have : s.data.toList.length = s.size := by simp
        rw [e] at this; simp at this; omega
      refine ⟨h0, hall, ?_⟩
      unfold goodD at h
      rw [show s.data.toList.isEmpty = false by simpa using hne, show s.data.toList.all digitB = true from List.all_eq_true.2 hall] at h
      simp only [Bool.not_false, Bool.true_and, Bool.or_eq_false_iff, bne_eq_false_iff_eq, beq_eq_false_iff_ne] at h
      exact h
set_option maxRecDepth 100000 in
set_option maxHeartbeats 4000000 in
theorem Parse_bad1 (s : ByteArray) (w : World) (h : s.size = 0) :
    Calls Tryd.prog 8 #[.string s] w fun e w' => ∃ k, e = .returned (.tuple #[.agg #[.slice none 0 0], errN k]) ∧ Below w.heap.size w w' := by
  have h0 : s.toList.isEmpty = true := by rw [Lib.toList_data, List.eq_nil_of_length_eq_zero (l := s.data.toList) (by rw [Array.length_toList]; exact h)]; rfl
  clear h
  go_enter Tryd.func8, Tryd.ntmps8
  go_wp2_with fail
  exact bodyPost_ret (v := .tuple #[.agg #[.slice none 0 0], errN 3]) (by simp [results, Tryd.results8, go_sem, errN]) rfl ⟨_, rfl, (Below.refl _ _).alloc (Nat.le_refl _) _⟩
set_option maxRecDepth 100000 in
set_option maxHeartbeats 4000000 in
theorem Parse_bad2 (s : ByteArray) (w : World) (h : 0 < s.size) (hs : s.size ≤ 1000) (hd : ∃ b ∈ s.data.toList, digitB b = false) :
    Calls Tryd.prog 8 #[.string s] w fun e w' => ∃ k, e = .returned (.tuple #[.agg #[.slice none 0 0], errN k]) ∧ Below w.heap.size w w' := by
  have htr := fun w' => Trim_some s w' (by omega) hd
  have h0 : s.toList.isEmpty = false := by rw [Lib.toList_data]; simp; intro e; have : s.data.toList.length = s.size := by simp
                                           rw [e] at this; simp at this; omega
  have Htr := Lib.hid htr
  clear htr hd
  go_enter Tryd.func8, Tryd.ntmps8
  go_wp2_with fail
  refine (Htr.out _).mono ?_
  rintro e w1 ⟨r, rfl, hr, hb1⟩
  have hr0 : r.toList.isEmpty = false := by rw [Lib.toList_data]; simpa using hr
  have hbw := ((Below.refl w.heap.size w).alloc (Nat.le_refl _) (.cells #[.slice none 0 0] 24)).trans (hb1.mono (by simp))
  have hres := (hb1.block _ (by simp)).trans (heap_at (w := w) (o := .cells #[.slice none 0 0] 24) rfl)
  have c4 := cell_of_one hres; have f4 := free_of_one hres; have l4 := lt_of_block hres
  have Hbw := Lib.hid hbw; have Hres := Lib.hid hres; have Hr := Lib.hid hr
  clear hb1 hbw hres hr
  go_wp2_with fail
  exact bodyPost_ret (v := .tuple #[.agg #[.slice none 0 0], errN 3]) (by simp [results, Tryd.results8, go_sem, errN, c4]) rfl ⟨_, rfl, Hbw.out.setCell (by simp) _⟩
set_option maxRecDepth 100000 in
set_option maxHeartbeats 4000000 in
theorem Parse_bad3 (s : ByteArray) (w : World) (hpos : 0 < s.size) (hs : s.size ≤ 1000) (hall : ∀ b ∈ s.data.toList, digitB b = true) (hhd : s.data.toList.head? = some 48) (hne : s.data.toList ≠ [48]) :
    Calls Tryd.prog 8 #[.string s] w fun e w' => ∃ k, e = .returned (.tuple #[.agg #[.slice none 0 0], errN k]) ∧ Below w.heap.size w w' := by
  have htr := fun w' => Trim_all s w' (by omega) hall
  have h0 : s.toList.isEmpty = false := by rw [Lib.toList_data]; simp; intro e; rw [e] at hhd; cases hhd
  have h48 : ((s[0].toNat : Nat) : Int) == 48 := by
    rw [List.head?_eq_getElem?, List.getElem?_eq_getElem (by simpa using hpos), list_at s 0 hpos] at hhd
    rw [Option.some.inj hhd]; rfl
  have hstr : (!(s.toList == [48])) = true := by rw [Lib.toList_data]; simpa using hne
  have Htr := Lib.hid htr
  clear htr hall hhd hne
  go_enter Tryd.func8, Tryd.ntmps8
  go_wp2_with fail
  refine (Htr.out _).mono ?_
  rintro e w1 ⟨rfl, hb1⟩
  have hbw := ((Below.refl w.heap.size w).alloc (Nat.le_refl _) (.cells #[.slice none 0 0] 24)).trans (hb1.mono (by simp))
  have hres := (hb1.block _ (by simp)).trans (heap_at (w := w) (o := .cells #[.slice none 0 0] 24) rfl)
  have c4 := cell_of_one hres; have f4 := free_of_one hres; have l4 := lt_of_block hres
  have Hbw := Lib.hid hbw; have Hres := Lib.hid hres
  clear hb1 hbw hres
  go_wp2_with fail
  exact bodyPost_ret (v := .tuple #[.agg #[.slice none 0 0], errN 3]) (by simp [results, Tryd.results8, go_sem, errN, c4]) rfl ⟨_, rfl, Hbw.out.setCell (by simp) _⟩
set_option maxRecDepth 100000 in
set_option maxHeartbeats 4000000 in
theorem Parse_bad4 (s : ByteArray) (w : World) (hg : goodD s.data.toList = true) (hs : s.size ≤ 1000) (h100 : 100 < s.size) :
    Calls Tryd.prog 8 #[.string s] w fun e w' => ∃ k, e = .returned (.tuple #[.agg #[.slice none 0 0], errN k]) ∧ Below w.heap.size w w' := by
  have hall : ∀ b ∈ s.data.toList, digitB b = true := by
    unfold goodD at hg; simp only [Bool.and_eq_true, List.all_eq_true] at hg; exact hg.1.2
  have htr := fun w' => Trim_all s w' (by omega) hall
  have hpos : 0 < s.size := by omega
  have hhd : s.data.toList.head? = some s[0] := by rw [List.head?_eq_getElem?, List.getElem?_eq_getElem (by simpa using hpos), list_at s 0 hpos]
  have h0 : s.toList.isEmpty = false := by rw [Lib.toList_data]; simp; intro e; rw [e] at hhd; cases hhd
  have h48 : (((s[0].toNat : Nat) : Int) == 48) = false := by
    unfold goodD at hg
    simp only [Bool.and_eq_true, Bool.or_eq_true, bne_iff_ne, beq_iff_eq] at hg
    rcases hg.2 with h | h
    · rw [hhd] at h
      have : s[0].toNat ≠ 48 := fun e => h (by congr 1; exact UInt8.toNat_inj.1 e)
      simp; omega
    · have : s.data.toList.length = s.size := by simp
      rw [h] at this; simp at this; omega
  have hgt : decide (100 < (s.size : Int)) = true := by simp; omega
  have Htr := Lib.hid htr
  clear htr hall hhd hg h100
  go_enter Tryd.func8, Tryd.ntmps8
  go_wp2_with fail
  refine (Htr.out _).mono ?_
  rintro e w1 ⟨rfl, hb1⟩
  have hbw := ((Below.refl w.heap.size w).alloc (Nat.le_refl _) (.cells #[.slice none 0 0] 24)).trans (hb1.mono (by simp))
  have hres := (hb1.block _ (by simp)).trans (heap_at (w := w) (o := .cells #[.slice none 0 0] 24) rfl)
  have c4 := cell_of_one hres; have f4 := free_of_one hres; have l4 := lt_of_block hres
  have Hbw := Lib.hid hbw; have Hres := Lib.hid hres
  clear hb1 hbw hres
  go_wp2_with fail
  exact bodyPost_ret (v := .tuple #[.agg #[.slice none 0 0], errN 4]) (by simp [results, Tryd.results8, go_sem, errN, c4]) rfl ⟨_, rfl, Hbw.out.setCell (by simp) _⟩
theorem Parse_bad (s : ByteArray) (w : World) (hs : s.size ≤ 1000) (h : ¬ (goodD s.data.toList = true ∧ s.size ≤ 100)) :
    Calls Tryd.prog 8 #[.string s] w fun e w' => ∃ k, e = .returned (.tuple #[.agg #[.slice none 0 0], errN k]) ∧ Below w.heap.size w w' := by
  cases hg : goodD s.data.toList
  · rcases badD_cases hg with h1 | ⟨h1, h2⟩ | ⟨h1, h2, h3, h4⟩
    · exact Parse_bad1 s w h1
    · exact Parse_bad2 s w h1 hs h2
    · exact Parse_bad3 s w h1 hs h2 h3 h4
  · exact Parse_bad4 s w hg hs (by
      rcases Nat.lt_or_ge 100 s.size with h1 | h1
      · exact h1
      · exact absurd ⟨hg, h1⟩ h)
end Go.Proofs.YtdeaficdfooegaaDoor
