/- Ranges as rows of spans: plain laws. No program in sight. -/
import Derived.RowKit
namespace Go.Proofs.YtheemhelioendaaGreatDoor
set_option linter.unusedVariables false

abbrev Spn := Int × Int
def pastV : Int := 1000000000
def inS (n : Int) (s : Spn) : Prop := s.1 ≤ n ∧ n < s.2
def inL (l : List Spn) (n : Int) : Prop := ∃ s ∈ l, inS n s
theorem inL_nil (n : Int) : ¬ inL [] n := by rintro ⟨s, h, _⟩; cases h
theorem inL_cons {s : Spn} {l : List Spn} {n : Int} : inL (s :: l) n ↔ inS n s ∨ inL l n := by
  constructor
  · rintro ⟨t, h, ht⟩
    rcases List.mem_cons.1 h with rfl | h
    · exact .inl ht
    · exact .inr ⟨t, h, ht⟩
  · rintro (h | ⟨t, h, ht⟩)
    · exact ⟨s, List.mem_cons_self .., h⟩
    · exact ⟨t, List.mem_cons_of_mem _ h, ht⟩
theorem inL_append {a b : List Spn} {n : Int} : inL (a ++ b) n ↔ inL a n ∨ inL b n := by
  constructor
  · rintro ⟨t, h, ht⟩
    rcases List.mem_append.1 h with h | h
    · exact .inl ⟨t, h, ht⟩
    · exact .inr ⟨t, h, ht⟩
  · rintro (⟨t, h, ht⟩ | ⟨t, h, ht⟩)
    · exact ⟨t, List.mem_append_left _ h, ht⟩
    · exact ⟨t, List.mem_append_right _ h, ht⟩
theorem inL_one {s : Spn} {n : Int} : inL [s] n ↔ inS n s := by rw [inL_cons]; exact ⟨fun h => h.elim id (fun h => absurd h (inL_nil n)), .inl⟩
theorem inL_perm {a b : List Spn} (h : ∀ s, s ∈ a ↔ s ∈ b) (n : Int) : inL a n ↔ inL b n :=
  ⟨fun ⟨s, hs, hn⟩ => ⟨s, (h s).1 hs, hn⟩, fun ⟨s, hs, hn⟩ => ⟨s, (h s).2 hs, hn⟩⟩

/-- A span within all. -/
def Wide (s : Spn) : Prop := 0 ≤ s.1 ∧ s.1 < s.2 ∧ s.2 ≤ pastV
/-- Spans in order that do not touch. -/
structure Canon (l : List Spn) : Prop where
  ok : ∀ s ∈ l, Wide s
  ord : l.Pairwise (fun a b => a.2 < b.1)
theorem Canon.nil : Canon [] := ⟨fun s h => (by cases h), List.Pairwise.nil⟩
theorem Canon.any : Canon [(0, pastV)] := ⟨fun s h => by rw [List.mem_singleton.1 h]; unfold Wide pastV; omega, List.pairwise_singleton _ _⟩
theorem Canon.tail {s : Spn} {l : List Spn} (h : Canon (s :: l)) : Canon l := ⟨fun t ht => h.ok t (List.mem_cons_of_mem _ ht), (List.pairwise_cons.1 h.ord).2⟩
theorem Canon.head_lt {s : Spn} {l : List Spn} (h : Canon (s :: l)) {n : Int} (hn : inL l n) : s.2 < n := by
  obtain ⟨t, ht, h1, h2⟩ := hn
  have := (List.pairwise_cons.1 h.ord).1 t ht
  omega
theorem Canon.bound {l : List Spn} (h : Canon l) {n : Int} (hn : inL l n) : 0 ≤ n ∧ n < pastV := by
  obtain ⟨t, ht, h1, h2⟩ := hn
  have := h.ok t ht
  unfold Wide at this; omega
/-- Two that have the same are alike. -/
theorem Canon.ext : ∀ {a b : List Spn}, Canon a → Canon b → (∀ n, inL a n ↔ inL b n) → a = b
  | [], [], _, _, _ => rfl
  | [], t :: b, _, hb, h => by
    have := hb.ok t (List.mem_cons_self ..)
    exact absurd ((h t.1).2 (inL_cons.2 (.inl ⟨Int.le_refl _, this.2.1⟩))) (inL_nil _)
  | s :: a, [], ha, _, h => by
    have := ha.ok s (List.mem_cons_self ..)
    exact absurd ((h s.1).1 (inL_cons.2 (.inl ⟨Int.le_refl _, this.2.1⟩))) (inL_nil _)
  | s :: a, t :: b, ha, hb, h => by
    have ws := (ha.ok s (List.mem_cons_self ..)).2.1
    have wt := (hb.ok t (List.mem_cons_self ..)).2.1
    have low : ∀ {u : Spn} {l : List Spn} {n : Int}, Canon (u :: l) → inL (u :: l) n → u.1 ≤ n := fun {u l n} hc hn => by
      have wu := (hc.ok u (List.mem_cons_self ..)).2.1
      rcases inL_cons.1 hn with h1 | h1
      · exact h1.1
      · have := hc.head_lt h1; omega
    have e1 : s.1 = t.1 := by
      have h1 := low hb ((h s.1).1 (inL_cons.2 (.inl ⟨Int.le_refl _, ws⟩)))
      have h2 := low ha ((h t.1).2 (inL_cons.2 (.inl ⟨Int.le_refl _, wt⟩)))
      omega
    have hi : ∀ {u : Spn} {l : List Spn}, Canon (u :: l) → ¬ inL (u :: l) u.2 := fun {u l} hc hn => by
      rcases inL_cons.1 hn with h1 | h1
      · have := h1.2; omega
      · have := hc.head_lt h1; omega
    have e2 : s.2 = t.2 := by
      rcases Int.lt_trichotomy s.2 t.2 with h1 | h1 | h1
      · exact absurd ((h s.2).2 (inL_cons.2 (.inl ⟨by omega, h1⟩))) (hi ha)
      · exact h1
      · exact absurd ((h t.2).1 (inL_cons.2 (.inl ⟨by omega, h1⟩))) (hi hb)
    have e : s = t := Prod.ext e1 e2
    subst e
    rw [Canon.ext ha.tail hb.tail (fun n => ?_)]
    constructor
    · intro hn
      have h1 := ha.head_lt hn
      rcases inL_cons.1 ((h n).1 (inL_cons.2 (.inr hn))) with h2 | h2
      · have := h2.2; omega
      · exact h2
    · intro hn
      have h1 := hb.head_lt hn
      rcases inL_cons.1 ((h n).2 (inL_cons.2 (.inr hn))) with h2 | h2
      · have := h2.2; omega
      · exact h2

/-- What 'made' has put together so far. -/
structure Join (done out : List Spn) : Prop where
  can : Canon out
  same : ∀ n, inL out n ↔ inL done n
  last : ∀ s ∈ out, ∃ t ∈ done, s.1 = t.1
theorem Join.nil : Join [] [] := ⟨Canon.nil, fun n => Iff.rfl, fun s h => (by cases h)⟩
theorem canon_snoc {out : List Spn} {s : Spn} : Canon (out ++ [s]) ↔ Canon out ∧ Wide s ∧ ∀ t ∈ out, t.2 < s.1 := by
  constructor
  · intro h
    obtain ⟨h1, _, h3⟩ := List.pairwise_append.1 h.ord
    exact ⟨⟨fun t ht => h.ok t (List.mem_append_left _ ht), h1⟩, h.ok s (by simp), fun t ht => h3 t ht s (by simp)⟩
  · rintro ⟨h1, h2, h3⟩
    refine ⟨fun t ht => ?_, List.pairwise_append.2 ⟨h1.ord, List.pairwise_singleton _ _, fun a ha b hb => by rw [List.mem_singleton.1 hb]; exact h3 a ha⟩⟩
    rcases List.mem_append.1 ht with h | h
    · exact h1.ok t h
    · rw [List.mem_singleton.1 h]; exact h2
theorem canon_le {out : List Spn} {t : Spn} (h : Canon (out ++ [t])) : ∀ s ∈ out, s.2 < t.1 := (canon_snoc.1 h).2.2
/-- One more that stands alone. -/
theorem Join.push {done out : List Spn} {s : Spn} (h : Join done out) (hw : Wide s) (hs : ∀ t ∈ out, t.2 < s.1) : Join (done ++ [s]) (out ++ [s]) := by
  refine ⟨canon_snoc.2 ⟨h.can, hw, hs⟩, fun n => ?_, fun t ht => ?_⟩
  · rw [inL_append, inL_append, h.same]
  · rcases List.mem_append.1 ht with h1 | h1
    · obtain ⟨u, hu, e⟩ := h.last t h1
      exact ⟨u, List.mem_append_left _ hu, e⟩
    · exact ⟨s, by simp, by rw [List.mem_singleton.1 h1]⟩
/-- One more that touches the last one. -/
theorem Join.grow {done out : List Spn} {t s : Spn} (h : Join done (out ++ [t])) (hw : Wide s) (hts : t.1 ≤ s.1) (hle : s.1 ≤ t.2) : Join (done ++ [s]) (out ++ [(t.1, max t.2 s.2)]) := by
  obtain ⟨h1, h2, h3⟩ := canon_snoc.1 h.can
  unfold Wide at hw h2
  refine ⟨canon_snoc.2 ⟨h1, ?_, h3⟩, fun n => ?_, fun u hu => ?_⟩
  · unfold Wide; simp only; omega
  · have hn := h.same n
    rw [inL_append, inL_one] at hn ⊢
    rw [inL_append, inL_one, ← hn]
    unfold inS
    simp only
    constructor
    · rintro (q | q)
      · exact .inl (.inl q)
      · by_cases q2 : n < t.2
        · exact .inl (.inr ⟨q.1, q2⟩)
        · exact .inr (by omega)
    · rintro ((q | q) | q)
      · exact .inl q
      · exact .inr (by omega)
      · exact .inr (by omega)
  · rcases List.mem_append.1 hu with q | q
    · obtain ⟨x, hx, e⟩ := h.last u (List.mem_append_left _ q)
      exact ⟨x, List.mem_append_left _ hx, e⟩
    · obtain ⟨x, hx, e⟩ := h.last t (by simp)
      exact ⟨x, List.mem_append_left _ hx, by rw [List.mem_singleton.1 q]; exact e⟩
/-- The last one lies ahead of what comes, if what was put in lies ahead of it. -/
theorem Join.ahead {done out : List Spn} {t s : Spn} (h : Join done (out ++ [t])) (hs : ∀ u ∈ done, u.1 ≤ s.1) : t.1 ≤ s.1 := by
  obtain ⟨x, hx, e⟩ := h.last t (by simp)
  rw [e]; exact hs x hx

/-- What 'made' makes of spans. -/
def MadeR (l r : List Spn) : Prop := Canon r ∧ ∀ n, inL r n ↔ inL l n
/-- The gaps ahead of spans, from a place on. -/
def gapsL (at_ : Int) : List Spn → List Spn
  | [] => []
  | s :: l => (at_, s.1) :: gapsL s.2 l
def endL (at_ : Int) (l : List Spn) : Int := (l.getLast?.map (·.2)).getD at_
theorem endL_cons (at_ : Int) (s : Spn) (l : List Spn) : endL at_ (s :: l) = endL s.2 l := by
  unfold endL
  cases l with
  | nil => rfl
  | cons t l =>
    rw [List.getLast?_cons_cons]
    simp [List.getLast?_eq_some_getLast (List.cons_ne_nil t l)]
theorem gaps_snoc (at_ : Int) : ∀ (l : List Spn) (s : Spn), gapsL at_ (l ++ [s]) = gapsL at_ l ++ [(endL at_ l, s.1)]
  | [], s => rfl
  | t :: l, s => by
    show (at_, t.1) :: gapsL t.2 (l ++ [s]) = _
    rw [gaps_snoc t.2 l s, endL_cons]; rfl
theorem end_snoc (at_ : Int) (l : List Spn) (s : Spn) : endL at_ (l ++ [s]) = s.2 := by unfold endL; simp
theorem inL_gaps : ∀ {at_ : Int} {l : List Spn}, Canon l → (∀ s ∈ l, at_ ≤ s.1) → ∀ n, n < pastV → (inL (gapsL at_ l ++ [(endL at_ l, pastV)]) n ↔ at_ ≤ n ∧ ¬ inL l n)
  | at_, [], _, _, n, hp => by
    show inL [(at_, pastV)] n ↔ _
    rw [inL_one]
    exact ⟨fun h => ⟨h.1, inL_nil n⟩, fun h => ⟨h.1, hp⟩⟩
  | at_, s :: l, hc, hat, n, hp => by
    have w := hc.ok s (List.mem_cons_self ..)
    have h0 := hat s (List.mem_cons_self ..)
    have ih := inL_gaps hc.tail (fun t ht => by have := (List.pairwise_cons.1 hc.ord).1 t ht; omega : ∀ t ∈ l, s.2 ≤ t.1) n hp
    rw [endL_cons]
    show inL ((at_, s.1) :: (gapsL s.2 l ++ [(endL s.2 l, pastV)])) n ↔ _
    rw [inL_cons, ih, inL_cons]
    unfold Wide at w
    unfold inS
    simp only
    constructor
    · rintro (q | ⟨q1, q2⟩)
      · refine ⟨q.1, ?_⟩
        rintro (q3 | q3)
        · omega
        · have := hc.head_lt q3; omega
      · refine ⟨by omega, ?_⟩
        rintro (q3 | q3)
        · omega
        · exact q2 q3
    · rintro ⟨q1, q2⟩
      by_cases q3 : n < s.1
      · exact .inl ⟨q1, q3⟩
      · refine .inr ⟨?_, fun q4 => q2 (.inr q4)⟩
        apply Classical.byContradiction
        intro q5
        exact q2 (.inl ⟨by omega, by omega⟩)
/-- What they are made of lies within all. -/
def Fits (s : Spn) : Prop := s.1 < s.2 → 0 ≤ s.1 ∧ s.2 ≤ pastV
theorem gaps_fit : ∀ {at_ : Int} {l : List Spn}, 0 ≤ at_ → Canon l → ∀ s ∈ gapsL at_ l ++ [(endL at_ l, pastV)], Fits s
  | at_, [], h0, _, s, hs => by
    rw [show gapsL at_ [] ++ [(endL at_ [], pastV)] = [(at_, pastV)] from rfl] at hs
    rw [List.mem_singleton.1 hs]
    exact fun _ => ⟨h0, Int.le_refl _⟩
  | at_, t :: l, h0, hc, s, hs => by
    have w := hc.ok t (List.mem_cons_self ..)
    unfold Wide at w
    rw [endL_cons] at hs
    rcases List.mem_cons.1 (show s ∈ (at_, t.1) :: (gapsL t.2 l ++ [(endL t.2 l, pastV)]) from hs) with rfl | h
    · exact fun _ => ⟨h0, by simp only; omega⟩
    · exact gaps_fit (by omega) hc.tail s h

/-- The answers, as relations. -/
def NotR (a r : List Spn) : Prop := Canon r ∧ ∀ n, inL r n ↔ (0 ≤ n ∧ n < pastV) ∧ ¬ inL a n
def OrR (a b r : List Spn) : Prop := Canon r ∧ ∀ n, inL r n ↔ inL a n ∨ inL b n
def AndR (a b r : List Spn) : Prop := Canon r ∧ ∀ n, inL r n ↔ inL a n ∧ inL b n
theorem NotR.of_made {a r : List Spn} (ha : Canon a) (h : MadeR (gapsL 0 a ++ [(endL 0 a, pastV)]) r) : NotR a r := by
  refine ⟨h.1, fun n => ?_⟩
  by_cases hp : n < pastV
  · rw [h.2, inL_gaps ha (fun s hs => (ha.ok s hs).1) n hp]
    exact ⟨fun q => ⟨⟨q.1, hp⟩, q.2⟩, fun q => ⟨q.1.1, q.2⟩⟩
  · exact ⟨fun q => absurd (h.1.bound q).2 hp, fun q => absurd q.1.2 hp⟩
theorem OrR.of_made {a b r : List Spn} (h : MadeR (a ++ b) r) : OrR a b r := ⟨h.1, fun n => by rw [h.2, inL_append]⟩
theorem AndR.of {a b na nb o r : List Spn} (ha : Canon a) (hb : Canon b) (h1 : NotR a na) (h2 : NotR b nb) (h3 : OrR na nb o) (h4 : NotR o r) : AndR a b r := by
  refine ⟨h4.1, fun n => ?_⟩
  rw [h4.2, h3.2, h1.2, h2.2]
  constructor
  · rintro ⟨q1, q2⟩
    exact ⟨Classical.byContradiction fun q => q2 (.inl ⟨q1, q⟩), Classical.byContradiction fun q => q2 (.inr ⟨q1, q⟩)⟩
  · rintro ⟨q1, q2⟩
    exact ⟨ha.bound q1, fun q => q.elim (fun q => q.2 q1) (fun q => q.2 q2)⟩
theorem NotR.eq {a b x y : List Spn} (h1 : NotR a x) (h2 : NotR b y) (h : ∀ n, 0 ≤ n ∧ n < pastV → (inL a n ↔ inL b n)) : x = y :=
  Canon.ext h1.1 h2.1 (fun n => by
    rw [h1.2, h2.2]
    constructor
    · rintro ⟨q, q2⟩; exact ⟨q, fun q3 => q2 ((h n q).2 q3)⟩
    · rintro ⟨q, q2⟩; exact ⟨q, fun q3 => q2 ((h n q).1 q3)⟩)
end Go.Proofs.YtheemhelioendaaGreatDoor
