/- A range's text as (Range).Text writes it, plain: read again it is the range; so two ranges with one text are one. -/
import Derived.Test.YtheemhelioendaaGreatDoorVerT
import Derived.Lib.Join
namespace Go.Proofs.YtheemhelioendaaGreatDoor
open Go.RowKit
set_option linter.unusedVariables false

/-- The text of the version with a number. -/
def vT (n : Int) : List UInt8 := verL (n / 1000 / 1000) (n / 1000 % 1000) (n % 1000)
theorem vT_ok {n : Int} (h : 0 ≤ n ∧ n < pastV) : VerOk (n / 1000 / 1000) (n / 1000 % 1000) (n % 1000) ∧ numV (n / 1000 / 1000) (n / 1000 % 1000) (n % 1000) = n := by
  unfold pastV at h
  unfold numV
  exact ⟨⟨by omega, by omega, by omega⟩, by omega⟩
/-- A span's words. -/
def spanW (s : Spn) : List (List UInt8) :=
  if s.2 = s.1 + 1 then [vT s.1] else if 0 < s.1 ∧ s.2 < pastV then [[62, 61] ++ vT s.1, [60] ++ vT s.2] else if 0 < s.1 then [[62, 61] ++ vT s.1] else if s.2 < pastV then [[60] ++ vT s.2] else [[97, 110, 121]]
def spanT (s : Spn) : List UInt8 := Lib.join (spanW s) [32]
def orS : List UInt8 := [32, 124, 124, 32]
def rangeT (l : List Spn) : List UInt8 := if l = [] then [110, 111, 110, 101] else Lib.join (l.map spanT) orS

/-- A word: not empty, no blank, no bar. -/
def wordOk (l : List UInt8) : Prop := l ≠ [] ∧ ∀ x ∈ l, x ≠ 32 ∧ x ≠ 124
theorem wordOk_op {o : List UInt8} {n : Int} (ho : ∀ c ∈ o, c ≠ 32 ∧ c ≠ 124) (h : 0 ≤ n ∧ n < pastV) : wordOk (o ++ vT n) := by
  refine ⟨by unfold vT verL; simp, fun x hx => ?_⟩
  rcases List.mem_append.1 hx with q | q
  · exact ho x q
  · rcases verL_mem (vT_ok h).1 x q with rfl | q
    · decide
    · exact ⟨(digB_ne q).2.1, (digB_ne q).2.2.1⟩
theorem spanW_ok {s : Spn} (h : Wide s) : (∀ l ∈ spanW s, wordOk l) ∧ (∃ A, spanW s = [A] ∨ ∃ B, spanW s = [A, B]) := by
  obtain ⟨h1, h2, h3⟩ := h
  unfold spanW
  split
  · exact ⟨fun l hl => by rw [List.mem_singleton.1 hl]; exact wordOk_op (o := []) (fun c hc => by cases hc) ⟨h1, by omega⟩, _, .inl rfl⟩
  · split
    · refine ⟨fun l hl => ?_, _, .inr ⟨_, rfl⟩⟩
      rcases List.mem_cons.1 hl with rfl | hl
      · exact wordOk_op (by decide) ⟨h1, by omega⟩
      · rw [List.mem_singleton.1 hl]; exact wordOk_op (by decide) ⟨by omega, by omega⟩
    · split
      · exact ⟨fun l hl => by rw [List.mem_singleton.1 hl]; exact wordOk_op (by decide) ⟨h1, by omega⟩, _, .inl rfl⟩
      · split
        · exact ⟨fun l hl => by rw [List.mem_singleton.1 hl]; exact wordOk_op (by decide) ⟨by omega, by omega⟩, _, .inl rfl⟩
        · exact ⟨fun l hl => by rw [List.mem_singleton.1 hl]; exact ⟨by decide, by decide⟩, _, .inl rfl⟩
theorem opR_one {k : Nat} {n : Int} {s : Spn} (hk : k ≠ 1) (h : 0 ≤ n ∧ n < pastV) (hs : Wide s) (he : opSpan k (n / 1000 / 1000) (n / 1000 % 1000) (n % 1000) = s) : OpR k (n / 1000 / 1000) (n / 1000 % 1000) (n % 1000) [s] :=
  ⟨⟨fun t ht => by rw [List.mem_singleton.1 ht]; exact hs, List.pairwise_singleton _ _⟩, fun m => by rw [if_neg hk, he, inL_one]⟩
theorem canon_one {s : Spn} (h : Wide s) : Canon [s] := ⟨fun t ht => by rw [List.mem_singleton.1 ht]; exact h, List.pairwise_singleton _ _⟩
theorem pieceQ_one {l : List UInt8} {s : Spn} (hs : Wide s) (h : WordR (wordB l) [s]) : PieceQ [l] [s] :=
  PieceQ.snoc (ws := []) PieceQ.nil h ⟨canon_one hs, fun n => ⟨fun q => ⟨inL_one.2 ((canon_one hs).bound q), q⟩, fun q => q.2⟩⟩
theorem pieceQ_span {s : Spn} (h : Wide s) : PieceQ (spanW s) [s] := by
  have hW := h
  obtain ⟨h1, h2, h3⟩ := h
  unfold spanW
  split
  · rename_i e
    refine pieceQ_one hW (wordR_op (o := []) (k := 0) (by decide) (vT_ok ⟨h1, by omega⟩).1 (opR_one (by decide) ⟨h1, by omega⟩ hW ?_))
    have := (vT_ok (n := s.1) ⟨h1, by omega⟩).2
    unfold opSpan
    simp [this]
    exact Prod.ext rfl e.symm
  · split
    · rename_i _ e
      have e1 := (vT_ok (n := s.1) ⟨h1, by omega⟩).2
      have e2 := (vT_ok (n := s.2) ⟨by omega, e.2⟩).2
      have w1 : Wide (s.1, pastV) := ⟨h1, by omega, Int.le_refl _⟩
      have w2 : Wide (0, s.2) := ⟨Int.le_refl _, by simp only; omega, h3⟩
      have g1 := wordR_op (o := [62, 61]) (k := 5) (r := [(s.1, pastV)]) (by decide) (vT_ok (n := s.1) ⟨h1, by omega⟩).1 (opR_one (by decide) ⟨h1, by omega⟩ w1 (by unfold opSpan; simp [e1]))
      have g2 := wordR_op (o := [60]) (k := 2) (r := [(0, s.2)]) (by decide) (vT_ok (n := s.2) ⟨by omega, e.2⟩).1 (opR_one (by decide) ⟨by omega, e.2⟩ w2 (by unfold opSpan; simp [e2]))
      refine PieceQ.snoc (ws := [_]) (pieceQ_one w1 g1) g2 ⟨canon_one hW, fun n => ?_⟩
      rw [inL_one, inL_one, inL_one]
      unfold inS
      simp only
      omega
    · split
      · rename_i e0 e
        have e1 := (vT_ok (n := s.1) ⟨h1, by omega⟩).2
        refine pieceQ_one hW (wordR_op (o := [62, 61]) (k := 5) (by decide) (vT_ok ⟨h1, by omega⟩).1 (opR_one (by decide) ⟨h1, by omega⟩ hW ?_))
        unfold opSpan
        simp [e1]
        exact Prod.ext rfl (by simp only; omega)
      · split
        · rename_i e
          have e2 := (vT_ok (n := s.2) ⟨by omega, e⟩).2
          refine pieceQ_one hW (wordR_op (o := [60]) (k := 2) (by decide) (vT_ok ⟨by omega, e⟩).1 (opR_one (by decide) ⟨by omega, e⟩ hW ?_))
          unfold opSpan
          simp [e2]
          exact Prod.ext (by simp only; omega) rfl
        · refine pieceQ_one hW (.inl ⟨rfl, ?_⟩)
          rw [show s = (0, pastV) from Prod.ext (by simp only; omega) (by simp only; omega)]
theorem words_two {A R : List UInt8} (h : wordOk A) : words (A ++ 32 :: R) = A :: words R := by
  obtain ⟨hne, h⟩ := h
  cases A with
  | nil => exact absurd rfl hne
  | cons c r =>
    have hb : ∀ x ∈ c :: r, nb x = true := fun x hx => by unfold nb; simpa using (h x hx).1
    rw [List.cons_append, words_word (hb c (List.mem_cons_self ..))]
    have e1 : (r ++ 32 :: R).takeWhile nb = r := takeWhile_app (fun x hx => hb x (List.mem_cons_of_mem _ hx)) (fun x hx => by simp at hx; subst hx; rfl)
    have e2 : (r ++ 32 :: R).dropWhile nb = 32 :: R := by
      have := List.takeWhile_append_dropWhile (p := nb) (l := r ++ 32 :: R)
      rw [e1] at this
      exact List.append_cancel_left this
    rw [e1, e2, words_blank]
/-- The words of a span's text, blanks before and behind. -/
theorem words_span {s : Spn} (h : Wide s) {pre post : List UInt8} (hp : pre = [] ∨ pre = [32]) (hq : post = [] ∨ post = [32]) : words (pre ++ spanT s ++ post) = spanW s := by
  have hpre : words (pre ++ spanT s ++ post) = words (spanT s ++ post) := by
    rcases hp with rfl | rfl
    · rfl
    · exact words_blank _
  rw [hpre]
  obtain ⟨hok, A, e | ⟨B, e⟩⟩ := spanW_ok h
  · unfold spanT
    rw [e] at hok ⊢
    rw [Lib.join_one]
    rcases hq with rfl | rfl
    · rw [List.append_nil]; exact words_all (hok A (by simp)).1 (fun x hx => by unfold nb; simpa using ((hok A (by simp)).2 x hx).1)
    · rw [words_two (hok A (by simp)), words_nil]
  · unfold spanT
    rw [e] at hok ⊢
    have ej : Lib.join [A, B] [32] = A ++ 32 :: B := by simp [Lib.join, List.intercalate, List.intersperse]
    rw [ej, List.append_assoc, List.cons_append, words_two (hok A (by simp))]
    congr 1
    rcases hq with rfl | rfl
    · rw [List.append_nil]; exact words_all (hok B (by simp)).1 (fun x hx => by unfold nb; simpa using ((hok B (by simp)).2 x hx).1)
    · rw [words_two (hok B (by simp)), words_nil]
theorem pieceR_span {s : Spn} (h : Wide s) {pre post : List UInt8} (hp : pre = [] ∨ pre = [32]) (hq : post = [] ∨ post = [32]) : PieceR (pre ++ spanT s ++ post) [s] := by
  unfold PieceR
  rw [words_span h hp hq]
  refine ⟨?_, pieceQ_span h⟩
  obtain ⟨_, A, e | ⟨B, e⟩⟩ := spanW_ok h <;> rw [e] <;> simp
theorem span_nobar {s : Spn} (h : Wide s) : ∀ y ∈ spanT s, y ≠ 124 := by
  obtain ⟨hok, A, e | ⟨B, e⟩⟩ := spanW_ok h
  · unfold spanT
    rw [e] at hok ⊢
    rw [Lib.join_one]
    exact fun y hy => ((hok A (by simp)).2 y hy).2
  · unfold spanT
    rw [e] at hok ⊢
    have ej : Lib.join [A, B] [32] = A ++ 32 :: B := by simp [Lib.join, List.intercalate, List.intersperse]
    rw [ej]
    intro y hy
    rcases List.mem_append.1 hy with q | q
    · exact ((hok A (by simp)).2 y q).2
    · rcases List.mem_cons.1 q with rfl | q
      · decide
      · exact ((hok B (by simp)).2 y q).2
theorem index_or {R : List UInt8} : ∀ {A : List UInt8}, (∀ y ∈ A, y ≠ 124) → Lib.index (A ++ 124 :: 124 :: R) [124, 124] = (A.length : Int)
  | [], _ => by
    show (if ([124, 124] : List UInt8).isPrefixOf (124 :: 124 :: R) then (0 : Int) else _) = _
    rw [if_pos (by simp [List.isPrefixOf])]
    rfl
  | y :: A, h => by
    have hy : y ≠ 124 := h y (List.mem_cons_self ..)
    have ih := index_or (R := R) (A := A) (fun z hz => h z (List.mem_cons_of_mem _ hz))
    show (if ([124, 124] : List UInt8).isPrefixOf (y :: (A ++ 124 :: 124 :: R)) then (0 : Int) else if Lib.index (A ++ 124 :: 124 :: R) [124, 124] == -1 then -1 else Lib.index (A ++ 124 :: 124 :: R) [124, 124] + 1) = _
    rw [if_neg (by simp [List.isPrefixOf, Ne.symm hy]), ih, if_neg (by rw [beq_iff_eq]; omega)]
    simp
theorem pieces_or {A R : List UInt8} (h : ∀ y ∈ A, y ≠ 124) : pieces (wordB (A ++ 124 :: 124 :: R)) = wordB A :: pieces (wordB R) := by
  have hi : Lib.indexB (wordB (A ++ 124 :: 124 :: R)) orB = (A.length : Nat) := index_or h
  have e0 : (wordB (A ++ 124 :: 124 :: R)).extract 0 A.length = wordB A := by rw [wordB_extract]; simp
  have e2 : (wordB (A ++ 124 :: 124 :: R)).extract (A.length + orB.size) (wordB (A ++ 124 :: 124 :: R)).size = wordB R := by
    have hs : orB.size = 2 := rfl
    rw [hs, wordB_extract, wordB_size]
    congr 1
    rw [List.take_of_length_le (by simp; omega)]
    rw [show A.length + 2 = (A ++ [124, 124]).length by simp, show A ++ 124 :: 124 :: R = (A ++ [124, 124]) ++ R by simp, List.drop_left]
  unfold pieces
  rw [Lib.countB_hit _ _ _ (by decide) hi, e2, Nat.add_comm 1, Lib.splitB_hit _ _ _ _ _ hi, e2, Nat.add_zero, e0]
theorem TextQ.cons {p : List UInt8} {ps : List (List UInt8)} {s : Spn} {l : List Spn} (hp : PieceR p [s]) (h : TextQ ps l) (hc : Canon (s :: l)) : TextQ (p :: ps) (s :: l) := by
  refine ⟨hc, fun q hq => ?_, fun n => ?_⟩
  · rcases List.mem_cons.1 hq with rfl | hq
    · exact ⟨_, hp⟩
    · exact h.all q hq
  · rw [inL_cons, h.mem]
    constructor
    · rintro (q | ⟨q, hq, x, hx, hn⟩)
      · exact ⟨p, List.mem_cons_self .., [s], hp, inL_one.2 q⟩
      · exact ⟨q, List.mem_cons_of_mem _ hq, x, hx, hn⟩
    · rintro ⟨q, hq, x, hx, hn⟩
      rcases List.mem_cons.1 hq with rfl | hq
      · rw [hx.one hp] at hn; exact .inl (inL_one.1 hn)
      · exact .inr ⟨q, hq, x, hx, hn⟩
theorem textR_join : ∀ (l : List Spn) (s : Spn) (pre : List UInt8), (pre = [] ∨ pre = [32]) → Canon (s :: l) → TextR (wordB (pre ++ Lib.join ((s :: l).map spanT) orS)) (s :: l)
  | [], s, pre, hp, hc => by
    have hW := hc.ok s (List.mem_cons_self ..)
    rw [List.map_cons, List.map_nil, Lib.join_one]
    refine TextR.one_piece (index_none (fun y hy => ?_)) ?_ hc
    · rcases List.mem_append.1 hy with q | q
      · rcases hp with rfl | rfl
        · cases q
        · rw [List.mem_singleton.1 q]; decide
      · exact span_nobar hW y q
    · have := pieceR_span hW (post := []) hp (.inl rfl)
      rw [List.append_nil] at this
      exact this
  | t :: l, s, pre, hp, hc => by
    have hW := hc.ok s (List.mem_cons_self ..)
    have ih := textR_join l t [32] (.inr rfl) hc.tail
    have e : pre ++ Lib.join ((s :: t :: l).map spanT) orS = (pre ++ spanT s ++ [32]) ++ 124 :: 124 :: ([32] ++ Lib.join ((t :: l).map spanT) orS) := by
      simp [Lib.join, List.intercalate, orS]
    unfold TextR
    rw [e, pieces_or, List.map_cons]
    · exact TextQ.cons (pieceR_span hW hp (.inr rfl)) ih hc
    · intro y hy
      rcases List.mem_append.1 hy with q | q
      · rcases List.mem_append.1 q with q | q
        · rcases hp with rfl | rfl
          · cases q
          · rw [List.mem_singleton.1 q]; decide
        · exact span_nobar hW y q
      · rw [List.mem_singleton.1 q]; decide
/-- The text says the range. -/
theorem textR_range {l : List Spn} (hc : Canon l) : TextR (wordB (rangeT l)) l := by
  unfold rangeT
  cases l with
  | nil =>
    rw [if_pos rfl]
    refine TextR.one_piece (by decide) ?_ Canon.nil
    have hw : words [110, 111, 110, 101] = [[110, 111, 110, 101]] := by decide
    rw [wordB_data]
    unfold PieceR
    rw [hw]
    refine ⟨by simp, PieceQ.snoc (ws := []) PieceQ.nil (x := []) (.inr (.inl ⟨rfl, rfl⟩)) ⟨Canon.nil, fun n => ⟨fun q => absurd q (inL_nil n), fun q => q.2⟩⟩⟩
  | cons s l =>
    rw [if_neg (by simp)]
    exact textR_join l s [] (.inl rfl) hc
theorem rangeT_inj {l m : List Spn} (hl : Canon l) (hm : Canon m) (h : rangeT l = rangeT m) : l = m := by
  have h1 := textR_range hl
  rw [h] at h1
  exact h1.one (textR_range hm)
theorem spanT_len {s : Spn} (h : Wide s) : (spanT s).length ≤ 26 := by
  obtain ⟨h1, h2, h3⟩ := h
  unfold spanT spanW
  split
  · rw [Lib.join_one]; exact Nat.le_trans (verL_len (vT_ok ⟨h1, by omega⟩).1) (by decide)
  · split
    · rename_i e
      have g1 := verL_len (vT_ok (n := s.1) ⟨h1, by omega⟩).1
      have g2 := verL_len (vT_ok (n := s.2) ⟨by omega, e.2⟩).1
      simp [Lib.join, List.intercalate, List.intersperse]
      unfold vT
      omega
    · split
      · have g1 := verL_len (vT_ok (n := s.1) ⟨h1, by omega⟩).1
        rw [Lib.join_one]
        unfold vT
        simp only [List.length_append, List.length_cons, List.length_nil]
        omega
      · split
        · rename_i e
          have g2 := verL_len (vT_ok (n := s.2) ⟨by omega, e⟩).1
          rw [Lib.join_one]
          unfold vT
          simp only [List.length_append, List.length_cons, List.length_nil]
          omega
        · rw [Lib.join_one]; decide
end Go.Proofs.YtheemhelioendaaGreatDoor
