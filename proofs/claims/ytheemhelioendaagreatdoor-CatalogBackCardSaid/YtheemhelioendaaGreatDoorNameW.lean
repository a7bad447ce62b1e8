/- Contract: catalog.Name. -/
import Derived.Test.YtheemhelioendaaGreatDoorCatH
import Derived.Test.YtheemhelioendaaGreatDoorShelfC
import Derived.Test.YtheemhelioendaaGreatDoorWord
import Derived.Shelf.Strings.SlTrimAscii
namespace Go.Proofs.YtheemhelioendaaGreatDoor
open Go.RowKit Go.Lib
set_option linter.unusedVariables false

def nameSet : List UInt8 := [97, 98, 99, 100, 101, 102, 103, 104, 105, 106, 107, 108, 109, 110, 111, 112, 113, 114, 115, 116, 117, 118, 119, 120, 121, 122, 48, 49, 50, 51, 52, 53, 54, 55, 56, 57, 45]
theorem nameSet_mem (b : UInt8) : nameSet.contains b = nameCh b := by
  have key : ∀ n : Fin 256, nameSet.contains (UInt8.ofNat n.val) = nameCh (UInt8.ofNat n.val) := by decide +kernel
  have := key ⟨b.toNat, b.toNat_lt⟩
  simpa using this
theorem dropWn {α : Type} {p : α → Bool} : ∀ {l : List α}, (∀ x ∈ l, p x = true) → l.dropWhile p = []
  | [], _ => rfl
  | x :: l, h => by
    rw [List.dropWhile_cons_of_pos (h x List.mem_cons_self)]
    exact dropWn (fun y hy => h y (List.mem_cons_of_mem _ hy))
theorem dropWh {α : Type} {p : α → Bool} {m : α} {ms : List α} : ∀ {l : List α}, l.dropWhile p = m :: ms → p m = false
  | [], h => by cases h
  | x :: l, h => by
    cases e : p x
    · rw [List.dropWhile_cons_of_neg (by simp [e])] at h
      cases h; exact e
    · rw [List.dropWhile_cons_of_pos e] at h
      exact dropWh h
theorem dropWa {α : Type} {p : α → Bool} : ∀ {l : List α}, l.dropWhile p = [] → ∀ x ∈ l, p x = true
  | [], _, x, hx => by cases hx
  | y :: l, h, x, hx => by
    cases e : p y
    · rw [List.dropWhile_cons_of_neg (by simp [e])] at h; cases h
    · rw [List.dropWhile_cons_of_pos e] at h
      rcases List.mem_cons.1 hx with rfl | hx
      · exact e
      · exact dropWa h x hx
theorem trimN_nil {l cs : List UInt8} (h : ∀ b ∈ l, cs.contains b = true) : trimS l cs = [] := by
  unfold trimS trimRightS
  rw [dropWn (fun x hx => h x (List.mem_reverse.1 hx))]
  rfl
theorem trimN_some {l cs : List UInt8} (h : ∃ b ∈ l, cs.contains b = false) : trimS l cs ≠ [] := by
  intro e
  unfold trimS trimLeftS at e
  have h1 := dropWa e
  unfold trimRightS at h1
  cases hd : l.reverse.dropWhile (cs.contains ·) with
  | nil =>
    obtain ⟨b, hb, hn⟩ := h
    have := dropWa hd b (List.mem_reverse.2 hb)
    rw [hn] at this; cases this
  | cons m ms =>
    have h2 := dropWh hd
    have h3 := h1 m (by rw [hd]; simp)
    rw [h2] at h3; cases h3
theorem trimN_any (s : ByteArray) (w : World) (hs : s.size ≤ 9223372036854775807) :
    Calls Tryz.prog 122 #[.string s, .string { data := #[97, 98, 99, 100, 101, 102, 103, 104, 105, 106, 107, 108, 109, 110, 111, 112, 113, 114, 115, 116, 117, 118, 119, 120, 121, 122, 48, 49, 50, 51, 52, 53, 54, 55, 56, 57, 45] }] w fun e w' => (∃ r : ByteArray, e = .returned (.string r) ∧ r.toList.isEmpty = s.data.toList.all nameCh) ∧ Below w.heap.size w w' := by
  have hc := Go.Proofs.Any.strings_Trim_laid Tryz.lays160 (by kernel_rfl) s ⟨#[97, 98, 99, 100, 101, 102, 103, 104, 105, 106, 107, 108, 109, 110, 111, 112, 113, 114, 115, 116, 117, 118, 119, 120, 121, 122, 48, 49, 50, 51, 52, 53, 54, 55, 56, 57, 45]⟩ w hs (by decide) (Go.Proofs.ascii_of_all (by decide))
  change Calls Tryz.prog 122 _ _ (fun e w' => e = .returned (.string ⟨(trimS s.data.toList nameSet).toArray⟩) ∧ Below w.heap.size w w') at hc
  refine hc.mono fun e w' ⟨h1, h2⟩ => ⟨⟨_, h1, ?_⟩, h2⟩
  rw [ByteArray.toList_eq]
  by_cases h : ∀ b ∈ s.data.toList, nameCh b = true
  · rw [trimN_nil (fun b hb => (nameSet_mem b).trans (h b hb)), List.all_eq_true.2 h]; rfl
  · have hx : ∃ b ∈ s.data.toList, nameCh b = false := by
      exact Classical.byContradiction fun q => h fun b hb => Classical.byContradiction fun r => q ⟨b, hb, by simpa using r⟩
    have e1 : s.data.toList.all nameCh = false := by
      rw [Bool.eq_false_iff]; exact fun q => h (List.all_eq_true.1 q)
    rw [e1, Bool.eq_false_iff, ne_eq, List.isEmpty_iff]
    have := trimN_some (l := s.data.toList) (cs := nameSet) (by obtain ⟨b, hb, hn⟩ := hx; exact ⟨b, hb, (nameSet_mem b).trans hn⟩)
    simpa using this
theorem nameOk_eq {s : ByteArray} (h : 0 < s.size) : nameOk s = (decide (s.size ≤ 12) && (decide (97 ≤ s[0].toNat) && decide (s[0].toNat ≤ 122)) && s.data.toList.all nameCh && !(s.toList == [97, 110, 121]) && !(s.toList == [110, 111, 110, 101])) := by
  obtain ⟨⟨l⟩⟩ := s
  cases l with
  | nil => exact absurd h (by decide)
  | cons c r =>
    have e1 : decide ((⟨⟨c :: r⟩⟩ : ByteArray) = anyT) = ((⟨⟨c :: r⟩⟩ : ByteArray).toList == [97, 110, 121]) := by
      rw [Bool.eq_iff_iff, decide_eq_true_iff, beq_iff_eq, ByteArray.toList_eq]
      exact ⟨fun q => by rw [q]; rfl, fun q => ByteArray.ext (Array.toList_inj.1 q)⟩
    have e2 : decide ((⟨⟨c :: r⟩⟩ : ByteArray) = noneT) = ((⟨⟨c :: r⟩⟩ : ByteArray).toList == [110, 111, 110, 101]) := by
      rw [Bool.eq_iff_iff, decide_eq_true_iff, beq_iff_eq, ByteArray.toList_eq]
      exact ⟨fun q => by rw [q]; rfl, fun q => ByteArray.ext (Array.toList_inj.1 q)⟩
    unfold nameOk
    rw [e1, e2, decide_eq_true h, Bool.true_and]
    rfl
set_option maxHeartbeats 2000000 in
theorem name_any (s : ByteArray) (w : World) (hs : s.size ≤ 9223372036854775807) : Calls Tryz.prog 104 #[.string s] w fun e w' => e = .returned (.bool (nameOk s)) ∧ Below w.heap.size w w' := by
  have hT := trimN_any s w hs
  by_cases h0 : s.size = 0
  · have e0 : s = ⟨#[]⟩ := ByteArray.ext (Array.eq_empty_of_size_eq_zero h0)
    subst e0
    clear hT h0 hs
    have e1 : nameOk ⟨#[]⟩ = false := by decide
    rw [e1]
    clear e1
    go_enter Tryz.func104, Tryz.ntmps104
    go_wp2_with fail
    go_ret
    exact ⟨rfl, Below.refl _ _⟩
  · have hp : 0 < s.size := by omega
    rw [nameOk_eq hp]
    clear h0
    generalize s.data.toList.all nameCh = A at hT ⊢
    generalize hY : (s.toList == [97, 110, 121]) = Y
    generalize hZ : (s.toList == [110, 111, 110, 101]) = Z
    have hE : s.toList.isEmpty = false := by
      rw [ByteArray.toList_eq]
      have : 0 < s.data.toList.length := by simpa using hp
      cases h : s.data.toList with
      | nil => rw [h] at this; cases this
      | cons c r => rfl
    have HT := Lib.hid hT
    clear hT
    generalize hR : (decide (s.size ≤ 12) && (decide (97 ≤ s[0].toNat) && decide (s[0].toNat ≤ 122)) && A && !Y && !Z) = R
    have HR := Lib.hid hR
    clear hR
    cases A <;> cases Y <;> cases Z
    all_goals go_enter Tryz.func104, Tryz.ntmps104
    all_goals go_wp2_with (go_at_call 122; (with_reducible refine (HT.out).mono ?_); rintro e w1 ⟨⟨r, rfl, hr⟩, hb⟩; have Hb := Lib.hid hb; clear hb)
    all_goals
      go_ret
      refine ⟨?_, ?_⟩
      · rw [← HR.out]
        congr 2
        symm
        simp
        try omega
      · first | exact Hb.out | exact Below.refl _ _
end Go.Proofs.YtheemhelioendaaGreatDoor
