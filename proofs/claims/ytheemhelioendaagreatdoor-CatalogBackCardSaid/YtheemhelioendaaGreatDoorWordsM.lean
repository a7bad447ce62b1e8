/- The words of a text, cut at blanks: plain. -/
import Derived.RowKit
namespace Go.Proofs.YtheemhelioendaaGreatDoor
set_option linter.unusedVariables false

def nb (c : UInt8) : Bool := !(c == 32)
/-- Words, with fuel. -/
def wordsF : Nat → List UInt8 → List (List UInt8)
  | 0, _ => []
  | n + 1, l => match l with
    | [] => []
    | c :: r => if c == 32 then wordsF n r else (c :: r.takeWhile nb) :: wordsF n (r.dropWhile nb)
def words (l : List UInt8) : List (List UInt8) := wordsF l.length l
theorem dropWhile_len (p : UInt8 → Bool) : ∀ l : List UInt8, (l.dropWhile p).length ≤ l.length
  | [] => Nat.le_refl _
  | c :: l => by
    rw [List.dropWhile_cons]
    split
    · have := dropWhile_len p l; simp; omega
    · exact Nat.le_refl _
theorem wordsF_more : ∀ (n m : Nat) (l : List UInt8), l.length ≤ n → l.length ≤ m → wordsF n l = wordsF m l
  | 0, 0, l, _, _ => rfl
  | 0, m + 1, [], _, _ => rfl
  | 0, m + 1, c :: r, h, _ => by simp at h
  | n + 1, 0, [], _, _ => rfl
  | n + 1, 0, c :: r, _, h => by simp at h
  | n + 1, m + 1, [], _, _ => rfl
  | n + 1, m + 1, c :: r, h1, h2 => by
    simp only [List.length_cons] at h1 h2
    have := dropWhile_len nb r
    show (if c == 32 then wordsF n r else (c :: r.takeWhile nb) :: wordsF n (r.dropWhile nb)) = (if c == 32 then wordsF m r else (c :: r.takeWhile nb) :: wordsF m (r.dropWhile nb))
    rw [wordsF_more n m r (by omega) (by omega), wordsF_more n m (r.dropWhile nb) (by omega) (by omega)]
theorem words_nil : words [] = [] := rfl
theorem words_blank (r : List UInt8) : words (32 :: r) = words r := by
  unfold words
  show (if (32 : UInt8) == 32 then wordsF r.length r else (32 :: r.takeWhile nb) :: wordsF r.length (r.dropWhile nb)) = _
  rw [if_pos (by decide)]
theorem words_word {c : UInt8} (h : nb c = true) (r : List UInt8) : words (c :: r) = (c :: r.takeWhile nb) :: words (r.dropWhile nb) := by
  unfold words
  show (if c == 32 then wordsF r.length r else (c :: r.takeWhile nb) :: wordsF r.length (r.dropWhile nb)) = _
  rw [if_neg (by unfold nb at h; simpa using h), wordsF_more r.length (r.dropWhile nb).length _ (dropWhile_len nb r) (Nat.le_refl _)]
theorem takeWhile_at {p : UInt8 → Bool} : ∀ {l : List UInt8} {k : Nat}, k ≤ l.length → (∀ j, (h : j < l.length) → j < k → p l[j] = true) → (∀ (h : k < l.length), p l[k] = false) → l.takeWhile p = l.take k ∧ l.dropWhile p = l.drop k
  | [], k, hk, _, _ => by simp
  | c :: l, 0, _, _, h2 => by
    have := h2 (by simp)
    simp only [List.getElem_cons_zero] at this
    rw [List.takeWhile_cons_of_neg (by simp [this]), List.dropWhile_cons_of_neg (by simp [this])]
    simp
  | c :: l, k + 1, hk, h1, h2 => by
    have hc := h1 0 (by simp) (by omega)
    simp only [List.getElem_cons_zero] at hc
    obtain ⟨e1, e2⟩ := takeWhile_at (p := p) (l := l) (k := k) (by simpa using hk) (fun j h hj => by have := h1 (j + 1) (by simp; omega) (by omega); simpa using this) (fun h => by have := h2 (by simp; omega); simpa using this)
    rw [List.takeWhile_cons_of_pos hc, List.dropWhile_cons_of_pos hc, e1, e2]
    simp
/-- One step from a place: a blank. -/
theorem words_drop_blank {l : List UInt8} {i : Nat} (hi : i < l.length) (h : l[i] = 32) : words (l.drop i) = words (l.drop (i + 1)) := by
  rw [List.drop_eq_getElem_cons hi, h, words_blank]
/-- One step from a place: a word. -/
theorem words_drop_word {l : List UInt8} {i k : Nat} (hik : i < k) (hk : k ≤ l.length) (h1 : ∀ j, (h : j < l.length) → i ≤ j → j < k → nb l[j] = true) (h2 : ∀ (h : k < l.length), nb l[k] = false) :
    words (l.drop i) = (l.drop i).take (k - i) :: words (l.drop k) := by
  have hi : i < l.length := by omega
  rw [List.drop_eq_getElem_cons hi, words_word (h1 i hi (Nat.le_refl _) hik)]
  obtain ⟨e1, e2⟩ := takeWhile_at (p := nb) (l := l.drop (i + 1)) (k := k - (i + 1)) (by simp; omega)
    (fun j h hj => by rw [List.getElem_drop]; exact h1 _ _ (by omega) (by omega))
    (fun h => by
      rw [List.getElem_drop]
      have e : i + 1 + (k - (i + 1)) = k := by omega
      have h3 : k < l.length := by simp at h; omega
      have := h2 h3
      simpa [e] using this)
  rw [e1, e2, List.drop_drop, show i + 1 + (k - (i + 1)) = k by omega]
  congr 1
  rw [show k - i = (k - (i + 1)) + 1 by omega, List.take_succ_cons]
theorem words_sizes : ∀ (n : Nat) (l : List UInt8), l.length ≤ n → (words l).length ≤ l.length
  | 0, l, h => by
    have : l = [] := List.length_eq_zero_iff.1 (by omega)
    subst this; exact Nat.le_refl _
  | n + 1, [], h => Nat.le_refl _
  | n + 1, c :: r, h => by
    simp only [List.length_cons] at h
    by_cases hc : nb c = true
    · rw [words_word hc]
      have h1 := dropWhile_len nb r
      have := words_sizes n (r.dropWhile nb) (by omega)
      simp only [List.length_cons]; omega
    · have : c = 32 := by unfold nb at hc; simpa using hc
      subst this
      rw [words_blank]
      have := words_sizes n r (by omega)
      simp only [List.length_cons]; omega
end Go.Proofs.YtheemhelioendaaGreatDoor
