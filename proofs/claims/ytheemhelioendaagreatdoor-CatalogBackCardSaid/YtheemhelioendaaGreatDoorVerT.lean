/- A version's text, plain: it is read again; with an operator ahead it is a range's text. -/
import Derived.Test.YtheemhelioendaaGreatDoorRangT
import Derived.Test.YtheemhelioendaaGreatDoorRanged
namespace Go.Proofs.YtheemhelioendaaGreatDoor
open Go.RowKit
set_option linter.unusedVariables false

def digB (c : UInt8) : Bool := decide (48 ≤ c) && decide (c ≤ 57)
def okNum (n : Int) : Bool := (match Lib.atoiAll (Lib.itoa n) with | .ok m => m == n | _ => false) && (Lib.itoa n).all digB && !(Lib.itoa n).isEmpty && decide ((Lib.itoa n).length ≤ 3)
theorem okNum_all : ∀ n : Fin 1000, okNum (n.val : Int) = true := by decide +kernel
theorem okNum_of {n : Int} (h : 0 ≤ n ∧ n ≤ 999) : Lib.atoiAll (Lib.itoa n) = .ok n ∧ (∀ c ∈ Lib.itoa n, digB c = true) ∧ Lib.itoa n ≠ [] ∧ (Lib.itoa n).length ≤ 3 := by
  have := okNum_all ⟨n.toNat, by omega⟩
  rw [show ((⟨n.toNat, by omega⟩ : Fin 1000).val : Int) = n by simp; omega] at this
  unfold okNum at this
  simp only [Bool.and_eq_true, List.all_eq_true, decide_eq_true_eq, Bool.not_eq_true'] at this
  obtain ⟨⟨⟨h1, h2⟩, h3⟩, h4⟩ := this
  refine ⟨?_, h2, fun e => (by rw [e] at h3; cases h3), h4⟩
  cases ha : Lib.atoiAll (Lib.itoa n) with
  | ok m =>
    rw [ha] at h1
    have : m = n := by simpa using h1
    rw [this]
  | _ => rw [ha] at h1; cases h1
theorem digB_ne {c : UInt8} (h : digB c = true) : c ≠ 46 ∧ c ≠ 32 ∧ c ≠ 124 ∧ opCh c = false := by
  have hall : ∀ n : Fin 256, digB (UInt8.ofNat n.val) = true → (UInt8.ofNat n.val) ≠ 46 ∧ (UInt8.ofNat n.val) ≠ 32 ∧ (UInt8.ofNat n.val) ≠ 124 ∧ opCh (UInt8.ofNat n.val) = false := by decide +kernel
  have := hall ⟨c.toNat, c.toNat_lt⟩
  simpa using this (by simpa using h)
theorem index_byte {x : UInt8} : ∀ {A R : List UInt8}, (∀ y ∈ A, y ≠ x) → Lib.index (A ++ x :: R) [x] = (A.length : Int)
  | [], R, _ => by
    show (if ([x] : List UInt8).isPrefixOf (x :: R) then (0 : Int) else _) = _
    rw [if_pos (by simp [List.isPrefixOf])]
    rfl
  | y :: A, R, h => by
    have hy : y ≠ x := h y (List.mem_cons_self ..)
    have ih := index_byte (x := x) (A := A) (R := R) (fun z hz => h z (List.mem_cons_of_mem _ hz))
    show (if ([x] : List UInt8).isPrefixOf (y :: (A ++ x :: R)) then (0 : Int) else if Lib.index (A ++ x :: R) [x] == -1 then -1 else Lib.index (A ++ x :: R) [x] + 1) = _
    rw [if_neg (by simp [List.isPrefixOf, Ne.symm hy]), ih, if_neg (by rw [beq_iff_eq]; omega)]
    simp
theorem index_none {x : UInt8} {sub : List UInt8} : ∀ {A : List UInt8}, (∀ y ∈ A, y ≠ x) → Lib.index A (x :: sub) = -1
  | [], _ => by
    show (if (x :: sub).isEmpty then (0 : Int) else -1) = -1
    rw [if_neg (by simp)]
  | y :: A, h => by
    have hy : y ≠ x := h y (List.mem_cons_self ..)
    have ih := index_none (x := x) (sub := sub) (A := A) (fun z hz => h z (List.mem_cons_of_mem _ hz))
    show (if (x :: sub).isPrefixOf (y :: A) then (0 : Int) else if Lib.index A (x :: sub) == -1 then -1 else Lib.index A (x :: sub) + 1) = -1
    rw [if_neg (by simp [List.isPrefixOf, Ne.symm hy]), ih]
    rfl
/-- A version's text. -/
def verL (a b c : Int) : List UInt8 := Lib.itoa a ++ 46 :: (Lib.itoa b ++ 46 :: Lib.itoa c)
theorem wordB_data (l : List UInt8) : (wordB l).data.toList = l := rfl
theorem wordB_inj {s : ByteArray} {l : List UInt8} (h : s.data.toList = l) : s = wordB l := ByteArray.ext (Array.toList_inj.1 h)
theorem wordB_size (l : List UInt8) : (wordB l).size = l.length := rfl
theorem wordB_extract (l : List UInt8) (i j : Nat) : (wordB l).extract i j = wordB ((l.drop i).take (j - i)) := extract_word (wordB l) i j
structure VerOk (a b c : Int) : Prop where
  a : 0 ≤ a ∧ a ≤ 999
  b : 0 ≤ b ∧ b ≤ 999
  c : 0 ≤ c ∧ c ≤ 999
theorem verL_mem {a b c : Int} (h : VerOk a b c) : ∀ x ∈ verL a b c, x = 46 ∨ digB x = true := by
  intro x hx
  unfold verL at hx
  simp only [List.mem_append, List.mem_cons] at hx
  rcases hx with hx | rfl | hx | rfl | hx
  · exact .inr ((okNum_of h.a).2.1 x hx)
  · exact .inl rfl
  · exact .inr ((okNum_of h.b).2.1 x hx)
  · exact .inl rfl
  · exact .inr ((okNum_of h.c).2.1 x hx)
theorem verL_len {a b c : Int} (h : VerOk a b c) : (verL a b c).length ≤ 11 := by
  have h1 := (okNum_of h.a).2.2.2; have h2 := (okNum_of h.b).2.2.2; have h3 := (okNum_of h.c).2.2.2
  unfold verL
  simp only [List.length_append, List.length_cons]
  omega
theorem verL_ok {a b c : Int} (h : VerOk a b c) : okVer (wordB (verL a b c)) a b c := by
  obtain ⟨a1, a2, a3, a4⟩ := okNum_of h.a
  obtain ⟨b1, b2, b3, b4⟩ := okNum_of h.b
  obtain ⟨c1, c2, c3, c4⟩ := okNum_of h.c
  refine ⟨wordB (Lib.itoa a), wordB (Lib.itoa b), wordB (Lib.itoa c), ?_, ⟨a1, rfl, h.a.1, h.a.2⟩, ⟨b1, rfl, h.b.1, h.b.2⟩, ⟨c1, rfl, h.c.1, h.c.2⟩⟩
  have e1 : (wordB (verL a b c)).extract ((Lib.itoa a).length + 1) (wordB (verL a b c)).size = wordB (Lib.itoa b ++ 46 :: Lib.itoa c) := by
    rw [wordB_extract, wordB_size]
    congr 1
    unfold verL
    rw [List.take_of_length_le (by simp; omega)]
    rw [show (Lib.itoa a).length + 1 = (Lib.itoa a ++ [46]).length by simp, show Lib.itoa a ++ 46 :: (Lib.itoa b ++ 46 :: Lib.itoa c) = (Lib.itoa a ++ [46]) ++ (Lib.itoa b ++ 46 :: Lib.itoa c) by simp, List.drop_left]
  have e2 : (wordB (Lib.itoa b ++ 46 :: Lib.itoa c)).extract ((Lib.itoa b).length + 1) (wordB (Lib.itoa b ++ 46 :: Lib.itoa c)).size = wordB (Lib.itoa c) := by
    rw [wordB_extract, wordB_size]
    congr 1
    rw [List.take_of_length_le (by simp; omega)]
    rw [show (Lib.itoa b).length + 1 = (Lib.itoa b ++ [46]).length by simp, show Lib.itoa b ++ 46 :: Lib.itoa c = (Lib.itoa b ++ [46]) ++ Lib.itoa c by simp, List.drop_left]
  refine parts3 (i := (Lib.itoa a).length) (j := (Lib.itoa b).length) ?_ ?_ ?_ ?_ ?_ ?_
  · exact index_byte (fun y hy => (digB_ne (a2 y hy)).1)
  · rw [wordB_extract]; unfold verL; simp
  · rw [e1]; exact index_byte (fun y hy => (digB_ne (b2 y hy)).1)
  · rw [e1, wordB_extract]; simp
  · rw [e1, e2]; exact index_none (fun y hy => (digB_ne (c2 y hy)).1)
  · rw [e1, e2]
/-- The operators' bytes. -/
def opsT : List (List UInt8 × Nat) := [([], 0), ([61], 0), ([33], 1), ([60], 2), ([60, 61], 3), ([62], 4), ([62, 61], 5), ([94], 6), ([126], 7)]
theorem takeWhile_app {p : UInt8 → Bool} {l r : List UInt8} (h1 : ∀ x ∈ l, p x = true) (h2 : ∀ x, r.head? = some x → p x = false) : (l ++ r).takeWhile p = l := by
  induction l with
  | nil =>
    cases r with
    | nil => rfl
    | cons x r => rw [List.nil_append, List.takeWhile_cons_of_neg (by simp [h2 x rfl])]
  | cons x l ih =>
    rw [List.cons_append, List.takeWhile_cons_of_pos (h1 x (List.mem_cons_self ..)), ih (fun y hy => h1 y (List.mem_cons_of_mem _ hy))]
theorem verL_head {a b c : Int} (h : VerOk a b c) : ∀ x, (verL a b c).head? = some x → opCh x = false := by
  intro x hx
  obtain ⟨a1, a2, a3, a4⟩ := okNum_of h.a
  unfold verL at hx
  cases hi : Lib.itoa a with
  | nil => exact absurd hi a3
  | cons y r =>
    rw [hi] at hx
    obtain rfl : y = x := by simpa using hx
    exact (digB_ne (a2 y (by rw [hi]; exact List.mem_cons_self ..))).2.2.2
theorem words_all {l : List UInt8} (hne : l ≠ []) (h : ∀ x ∈ l, nb x = true) : words l = [l] := by
  cases l with
  | nil => exact absurd rfl hne
  | cons c r =>
    rw [words_word (h c (List.mem_cons_self ..))]
    have e1 : r.takeWhile nb = r := by
      have := takeWhile_app (p := nb) (l := r) (r := []) (fun x hx => h x (List.mem_cons_of_mem _ hx)) (fun x hx => by cases hx)
      simpa using this
    have e2 : r.dropWhile nb = [] := by
      have := List.takeWhile_append_dropWhile (p := nb) (l := r)
      rw [e1] at this
      have h2 : (r ++ r.dropWhile nb).length = r.length := by rw [this]
      rw [List.length_append] at h2
      exact List.eq_nil_of_length_eq_zero (by omega)
    rw [e1, e2, words_nil]
theorem ops_ok : ∀ x ∈ opsT, (∀ c ∈ x.1, opCh c = true) ∧ opK x.1 = some x.2 ∧ x.1.length ≤ 2 ∧ (∀ c ∈ x.1, c ≠ 32 ∧ c ≠ 124) := by decide +kernel
theorem wordR_op {o : List UInt8} {k : Nat} {a b c : Int} {r : List Spn} (hm : (o, k) ∈ opsT) (h : VerOk a b c) (hr : OpR k a b c r) : WordR (wordB (o ++ verL a b c)) r := by
  obtain ⟨o1, o2, o3, _⟩ := ops_ok _ hm
  have hlen : opLen (wordB (o ++ verL a b c)) = o.length := by
    unfold opLen
    rw [wordB_data, takeWhile_app o1 (verL_head h)]
  have h46 : (46 : UInt8) ∈ o ++ verL a b c := by unfold verL; simp
  refine .inr (.inr ⟨fun e => ?_, fun e => ?_, k, a, b, c, ?_, ?_, hr⟩)
  · have : o ++ verL a b c = [97, 110, 121] := congrArg (fun s => s.data.toList) e
    rw [this] at h46; exact absurd h46 (by decide)
  · have : o ++ verL a b c = [110, 111, 110, 101] := congrArg (fun s => s.data.toList) e
    rw [this] at h46; exact absurd h46 (by decide)
  · rw [hlen, wordB_extract, wordB_data]
    simpa using o2
  · rw [hlen, wordB_extract, wordB_size]
    have e : ((o ++ verL a b c).drop o.length).take ((o ++ verL a b c).length - o.length) = verL a b c := by
      rw [List.drop_left, List.take_of_length_le (by simp)]
    rw [e]
    exact verL_ok h
/-- One operator, one version: a range's text. -/
theorem textR_op {o : List UInt8} {k : Nat} {a b c : Int} {r : List Spn} (hm : (o, k) ∈ opsT) (h : VerOk a b c) (hr : OpR k a b c r) : TextR (wordB (o ++ verL a b c)) r := by
  obtain ⟨o1, o2, o3, o4⟩ := ops_ok _ hm
  have hall : ∀ x ∈ o ++ verL a b c, x ≠ 32 ∧ x ≠ 124 := fun x hx => by
    rcases List.mem_append.1 hx with q | q
    · exact o4 x q
    · rcases verL_mem h x q with rfl | q
      · decide
      · exact ⟨(digB_ne q).2.1, (digB_ne q).2.2.1⟩
  have hne : o ++ verL a b c ≠ [] := by unfold verL; simp
  refine TextR.one_piece (index_none (fun y hy => (hall y hy).2)) ?_ hr.1
  rw [wordB_data]
  have hw : words (o ++ verL a b c) = [o ++ verL a b c] := words_all hne (fun x hx => by unfold nb; simpa using (hall x hx).1)
  refine ⟨by rw [hw]; simp, ?_⟩
  rw [hw]
  exact PieceQ.snoc (ws := []) PieceQ.nil (wordR_op hm h hr) ⟨hr.1, fun n => ⟨fun q => ⟨inL_one.2 (hr.1.bound q), q⟩, fun q => q.2⟩⟩
theorem opR_some (k : Nat) {a b c : Int} (h : VerOk a b c) : ∃ r, OpR k a b c r := by
  have hf := opSpan_fits (k := k) h.a h.b h.c
  have hn := numV_bd h.a h.b h.c
  by_cases hk : k = 1
  · subst hk
    have e1 : opSpan 1 a b c = (numV a b c, numV a b c + 1) := rfl
    refine ⟨(if 0 < numV a b c then [(0, numV a b c)] else []) ++ (if numV a b c + 1 < pastV then [(numV a b c + 1, pastV)] else []), ⟨?_, ?_⟩, fun n => ?_⟩
    · intro s hs
      rcases List.mem_append.1 hs with q | q
      · split at q
        · rw [List.mem_singleton.1 q]; unfold Wide; exact ⟨by omega, by omega, by omega⟩
        · cases q
      · split at q
        · rw [List.mem_singleton.1 q]; unfold Wide; exact ⟨by omega, by omega, by omega⟩
        · cases q
    · refine List.pairwise_append.2 ⟨?_, ?_, ?_⟩
      · split <;> simp
      · split <;> simp
      · intro x hx y hy
        split at hx
        · split at hy
          · rw [List.mem_singleton.1 hx, List.mem_singleton.1 hy]; simp only; omega
          · cases hy
        · cases hx
    · rw [if_pos rfl, e1, inL_append]
      unfold inS
      simp only
      constructor
      · rintro (q | q)
        · split at q
          · rw [inL_one] at q; unfold inS at q; simp only at q; omega
          · exact absurd q (inL_nil n)
        · split at q
          · rw [inL_one] at q; unfold inS at q; simp only at q; omega
          · exact absurd q (inL_nil n)
      · rintro ⟨⟨q1, q2⟩, q3⟩
        by_cases q4 : n < numV a b c
        · left
          rw [if_pos (by omega), inL_one]; unfold inS; simp only; omega
        · right
          rw [if_pos (by omega), inL_one]; unfold inS; simp only; omega
  · by_cases hlt : (opSpan k a b c).1 < (opSpan k a b c).2
    · refine ⟨[opSpan k a b c], ⟨fun s hs => by rw [List.mem_singleton.1 hs]; exact ⟨hf.1, hlt, hf.2⟩, List.pairwise_singleton _ _⟩, fun n => by rw [if_neg hk, inL_one]⟩
    · refine ⟨[], Canon.nil, fun n => ?_⟩
      rw [if_neg hk]
      exact ⟨fun q => absurd q (inL_nil n), fun q => by unfold inS at q; omega⟩
theorem any_iff {l : List Spn} {n : Int} : l.any (inB n) = true ↔ inL l n := by
  rw [List.any_eq_true]
  exact ⟨fun ⟨s, h1, h2⟩ => ⟨s, h1, inB_iff.1 h2⟩, fun ⟨s, h1, h2⟩ => ⟨s, h1, inB_iff.2 h2⟩⟩
instance inLDec (l : List Spn) (n : Int) : Decidable (inL l n) := decidable_of_iff (l.any (inB n) = true) any_iff
theorem any_inL {l : List Spn} {n : Int} : l.any (inB n) = decide (inL l n) := by
  rw [Bool.eq_iff_iff, any_iff, decide_eq_true_iff]
theorem hasV_eq {l : List Spn} {a b c : Int} (h : VerOk a b c) : hasV l a b c = decide (inL l (numV a b c)) := by
  unfold hasV
  rw [inP_ok (by have := h.a.1; omega) (by have := h.a.2; omega), inP_ok (by have := h.b.1; omega) (by have := h.b.2; omega), inP_ok (by have := h.c.1; omega) (by have := h.c.2; omega), any_inL]
  simp
end Go.Proofs.YtheemhelioendaaGreatDoor
