/- Plain law: the search of Davis, Putnam, Logemann and Loveland. No program in sight. -/
import Derived.Test.YtheemhelioendaaGreatDoorTrail
namespace Go.Proofs.YtheemhelioendaaGreatDoor
set_option linter.unusedVariables false

/-- A clause follows by unit propagation. -/
def Rup (m : Int) (all : List (List Int)) (c : List Int) : Prop :=
  c.any (badLit m) = false ∧ ¬ ∃ f, Tri f ∧ (∀ x ∈ c, lv f x = -1) ∧ ∀ d ∈ all, Stuck f d

theorem lit_of_good {m x : Int} {c : List Int} (h : c.any (badLit m) = false) (hx : x ∈ c) : x ≠ 0 ∧ -m ≤ x ∧ x ≤ m := by
  have h1 : badLit m x = false := by
    cases h2 : badLit m x
    · rfl
    · have := List.any_eq_true.2 ⟨x, hx, h2⟩; rw [h] at this; cases this
  simp [badLit] at h1
  omega
theorem any_bad_false {m : Int} {c : List Int} (h : ∀ x ∈ c, x ≠ 0 ∧ -m ≤ x ∧ x ≤ m) : c.any (badLit m) = false := by
  cases h1 : c.any (badLit m)
  · rfl
  · obtain ⟨x, hx, h2⟩ := List.any_eq_true.1 h1
    have := h x hx
    simp [badLit] at h2
    omega

/-- Values, as a map that tells all variables. -/
def fullV (v : Nat) : Int → Int := fun u => if litB v u then 1 else -1
theorem lv_fullV (v : Nat) {x : Int} (hx : x ≠ 0) : lv (fullV v) x = if litB v x then 1 else -1 := by
  unfold lv fullV
  rcases Int.lt_trichotomy x 0 with h | h | h
  · rw [if_pos h, vr_neg h, litB_neg hx]
    cases litB v x <;> rfl
  · exact absurd h hx
  · rw [if_neg (by omega), vr_pos h]
theorem tri_fullV (v : Nat) : Tri (fullV v) := fun u => by unfold fullV; split <;> omega
theorem Rup.sound {m : Int} {all : List (List Int)} {c : List Int} (h : Rup m all c) (hz : ∀ d ∈ all, NoZero d) {v : Nat} (hv : allB v all = true) : clB v c = true := by
  cases hc : clB v c
  · refine absurd ⟨fullV v, tri_fullV v, fun x hx => ?_, fun d hd => ?_⟩ h.2
    · have hx0 := (lit_of_good h.1 hx).1
      have : litB v x = false := by
        cases hl : litB v x
        · rfl
        · have := List.any_eq_true.2 ⟨x, hx, hl⟩; unfold clB at hc; rw [hc] at this; cases this
      rw [lv_fullV v hx0, this]; rfl
    · obtain ⟨x, hx, hl⟩ := List.any_eq_true.1 (List.all_eq_true.1 hv d hd)
      exact .inl ⟨x, hx, by rw [lv_fullV v (hz d hd x hx), hl]; rfl⟩
  · rfl

/-- Which sets of variables a clause of other sides is. -/
def code (c : List Int) : Nat → Nat
  | 0 => 0
  | m + 1 => code c m + if c.contains (-((m : Int) + 1)) then 2 ^ m else 0
theorem code_lt (c : List Int) : ∀ m, code c m < 2 ^ m
  | 0 => by simp [code]
  | m + 1 => by
    have := code_lt c m
    simp only [code, Nat.pow_succ]
    split <;> omega
theorem code_eq {c d : List Int} : ∀ {m : Nat}, code c m = code d m → ∀ j, j < m → (-((j : Int) + 1) ∈ c ↔ -((j : Int) + 1) ∈ d)
  | 0, _, j, hj => by omega
  | m + 1, h, j, hj => by
    have h1 := code_lt c m
    have h2 := code_lt d m
    simp only [code] at h
    have h3 : c.contains (-((m : Int) + 1)) = d.contains (-((m : Int) + 1)) ∧ code c m = code d m := by
      cases hc : c.contains (-((m : Int) + 1)) <;> cases hd : d.contains (-((m : Int) + 1)) <;> simp only [hc, hd, if_true, Bool.false_eq_true, if_false] at h <;> first | exact ⟨rfl, by omega⟩ | omega
    rcases Nat.lt_or_ge j m with h4 | h4
    · exact code_eq h3.2 j h4
    · have : j = m := by omega
      subst this
      rw [← List.contains_iff_mem, ← List.contains_iff_mem, h3.1]

/-- The literals that were decided. -/
def decs (tr : List Int) (dl : List Nat) : List Int := dl.map fun n => tr.getD n 0

/-- The search, between two rounds. -/
structure Srch (m : Int) (l ls : List (List Int)) (f : Int → Int) (tr : List Int) (dl : List Nat) : Prop where
  tok : TrailOK m f tr
  dlt : ∀ n ∈ dl, n < tr.length
  dinc : dl.Pairwise (· < ·)
  dec : ∀ n ∈ dl, 0 < tr.getD n 0 ∧ ∀ u, 1 ≤ u → u < tr.getD n 0 → u ∈ tr.take n ∨ -u ∈ tr.take n
  just : ∀ j, j < tr.length → j ∈ dl ∨ Just (l ++ ls) (tr.take j) (tr.getD j 0)
  learned : ∀ i (h : i < ls.length), Rup m (l ++ ls.take i) ls[i]
  fresh : ∀ c ∈ ls, ∃ y ∈ c, -y ∉ decs tr dl
  neg : ∀ c ∈ ls, ∀ y ∈ c, y < 0
  codes : (ls.map (code · m.toNat)).Nodup
  start : Rup m l [] → ls = [] ∧ dl = []
  apart : ∀ x ∈ decs tr dl, ∀ y ∈ decs tr dl, [-x, -y] ∈ l → x = y
  lapart : ∀ c ∈ ls, ∀ x ∈ c, ∀ y ∈ c, [x, y] ∈ l → x = y

theorem srch_start (m : Int) (l : List (List Int)) : Srch m l [] (fun _ => 0) [] [] where
  tok := trailOK_nil m
  dlt := by simp
  dinc := List.Pairwise.nil
  dec := by simp
  just := by simp
  learned := fun i h => absurd h (by simp)
  fresh := by simp
  neg := by simp
  codes := List.nodup_nil
  start := fun _ => ⟨rfl, rfl⟩
  apart := fun x hx => by simp [decs] at hx
  lapart := fun c hc => by cases hc

theorem decs_append {tr ext : List Int} {dl : List Nat} (h : ∀ n ∈ dl, n < tr.length) : decs (tr ++ ext) dl = decs tr dl := by
  unfold decs
  apply List.map_congr_left
  intro n hn
  have := h n hn
  simp [List.getD, List.getElem?_append_left this]
theorem getD_append {tr ext : List Int} {n : Nat} (h : n < tr.length) : (tr ++ ext).getD n 0 = tr.getD n 0 := by simp [List.getD, List.getElem?_append_left h]
theorem take_append_le {tr ext : List Int} {n : Nat} (h : n ≤ tr.length) : (tr ++ ext).take n = tr.take n := List.take_append_of_le_length h

/-- What spreads, lies behind. -/
theorem Srch.spread {m : Int} {l ls : List (List Int)} {f g : Int → Int} {tr ext : List Int} {dl : List Nat} (s : Srch m l ls f tr dl) (ht : TrailOK m g (tr ++ ext)) (hj : Justs (l ++ ls) tr ext) : Srch m l ls g (tr ++ ext) dl where
  tok := ht
  dlt := fun n hn => by have := s.dlt n hn; simp; omega
  dinc := s.dinc
  dec := fun n hn => by
    have h1 := s.dlt n hn
    rw [getD_append h1, take_append_le (by omega)]
    exact s.dec n hn
  just := fun j hj2 => by
    rcases Nat.lt_or_ge j tr.length with h | h
    · rw [getD_append h, take_append_le (by omega)]
      exact s.just j h
    · refine .inr ?_
      have h1 := hj (j - tr.length) (by simp at hj2; omega)
      have e1 : (tr ++ ext).take j = tr ++ ext.take (j - tr.length) := by rw [List.take_append, List.take_of_length_le h]
      have e2 : (tr ++ ext).getD j 0 = ext[j - tr.length]'(by simp at hj2; omega) := by
        rw [getD_at _ _ hj2, List.getElem_append_right h]
      rw [e1, e2]; exact h1
  learned := s.learned
  fresh := by rw [decs_append s.dlt]; exact s.fresh
  neg := s.neg
  codes := s.codes
  start := s.start
  apart := by rw [decs_append s.dlt]; exact s.apart
  lapart := s.lapart

/-- Under whatever map in which the decisions hold and no clause can tell more, all of the trail holds. -/
theorem Srch.forced {m : Int} {l ls : List (List Int)} {f : Int → Int} {tr : List Int} {dl : List Nat} (s : Srch m l ls f tr dl) {g : Int → Int} (hd : ∀ x ∈ decs tr dl, lv g x = 1) (hs : ∀ d ∈ l ++ ls, Stuck g d)
    (hz : ∀ d ∈ l ++ ls, NoZero d) : ∀ j, j < tr.length → lv g (tr.getD j 0) = 1 := by
  intro j
  induction j using Nat.strongRecOn with
  | _ j ih =>
    intro hj
    rcases s.just j hj with h | ⟨d, hdm, hx, hy⟩
    · exact hd _ (List.mem_map.2 ⟨j, h, rfl⟩)
    · have hother : ∀ y ∈ d, y ≠ tr.getD j 0 → lv g y = -1 := by
        intro y hyd hne
        obtain ⟨i, hi, he⟩ := List.getElem_of_mem (hy y hyd hne)
        have hi2 : i < tr.length := by rw [List.length_take] at hi; omega
        have hij : i < j := by rw [List.length_take] at hi; omega
        have h1 := ih i hij hi2
        have e : tr.getD i 0 = -y := by rw [getD_at _ _ hi2, ← he]; simp
        rw [e, lv_neg (hz d hdm y hyd)] at h1
        omega
      rcases hs d hdm with ⟨x, hxd, h1⟩ | ⟨x, hxd, y, hyd, hne, h1, h2⟩
      · by_cases e : x = tr.getD j 0
        · rw [← e]; exact h1
        · have := hother x hxd e; omega
      · by_cases e : x = tr.getD j 0
        · have := hother y hyd (fun e2 => hne (e.trans e2.symm)); omega
        · have := hother x hxd e; omega

/-- A clause can't hold: that not all decisions are, follows. -/
theorem Srch.rup {m : Int} {l ls : List (List Int)} {f : Int → Int} {tr : List Int} {dl : List Nat} (s : Srch m l ls f tr dl) (hz : ∀ d ∈ l ++ ls, NoZero d) {d : List Int} (hd : d ∈ l ++ ls) (hc : ∀ y ∈ d, lv f y = -1) :
    Rup m (l ++ ls) ((decs tr dl).map fun x => -x) := by
  have hmem : ∀ x ∈ decs tr dl, x ∈ tr := by
    intro x hx
    obtain ⟨n, hn, rfl⟩ := List.mem_map.1 hx
    have := s.dlt n hn
    rw [getD_at _ _ this]; exact List.getElem_mem _
  refine ⟨any_bad_false (fun x hx => ?_), fun ⟨g, hg, hneg, hst⟩ => ?_⟩
  · obtain ⟨y, hy, rfl⟩ := List.mem_map.1 hx
    have := s.tok.rng y (hmem y hy)
    omega
  · have hdec : ∀ x ∈ decs tr dl, lv g x = 1 := by
      intro x hx
      have h1 := hneg (-x) (List.mem_map.2 ⟨x, hx, rfl⟩)
      have h0 := (s.tok.rng x (hmem x hx)).1
      rw [lv_neg h0] at h1
      omega
    have hall := s.forced hdec hst hz
    have hfalse : ∀ y ∈ d, lv g y = -1 := by
      intro y hy
      have h0 := hz d hd y hy
      have h1 := (s.tok.neg h0).1 (hc y hy)
      obtain ⟨j, hj, he⟩ := List.getElem_of_mem h1
      have h2 := hall j hj
      rw [getD_at _ _ hj, he, lv_neg h0] at h2
      omega
    rcases hst d hd with ⟨x, hxd, h1⟩ | ⟨x, hxd, y, hyd, hne, h1, h2⟩
    · have := hfalse x hxd; omega
    · have := hfalse x hxd; omega

theorem nodup_inj {α : Type} {l : List α} (h : l.Nodup) {i j : Nat} {hi : i < l.length} {hj : j < l.length} (e : l[i] = l[j]) : i = j := by
  rcases Nat.lt_trichotomy i j with h1 | h1 | h1
  · exact absurd e (List.pairwise_iff_getElem.1 h i j hi hj h1)
  · exact h1
  · exact absurd e.symm (List.pairwise_iff_getElem.1 h j i hj hi h1)
theorem Just.mono {l l' : List (List Int)} {t : List Int} {x : Int} (h : Just l t x) (hs : ∀ d ∈ l, d ∈ l') : Just l' t x := by
  obtain ⟨d, hd, h1, h2⟩ := h
  exact ⟨d, hs d hd, h1, h2⟩
theorem getD_take {tr : List Int} {n j : Nat} (h : j < n) : (tr.take n).getD j 0 = tr.getD j 0 := by
  simp [List.getD, h]
theorem decs_take {tr : List Int} {n : Nat} {dl : List Nat} (h : ∀ k ∈ dl, k < n) : decs (tr.take n) dl = decs tr dl := by
  unfold decs
  apply List.map_congr_left
  intro k hk
  exact getD_take (h k hk)

/-- Some clause can't hold; the last decision is taken back. -/
theorem Srch.back {m : Int} {l ls : List (List Int)} {f g : Int → Int} {tr : List Int} {dl : List Nat} {n : Nat} (s : Srch m l ls f tr (dl ++ [n])) (hz : ∀ d ∈ l ++ ls, NoZero d) {d : List Int} (hd : d ∈ l ++ ls) (hc : ∀ y ∈ d, lv f y = -1)
    (hg : TrailOK m g (tr.take n)) : Srch m l (ls ++ [(decs tr (dl ++ [n])).map fun x => -x]) g (tr.take n) dl := by
  have hn : n < tr.length := s.dlt n (by simp)
  have hlt : ∀ k ∈ dl, k < n := fun k hk => (List.pairwise_append.1 s.dinc).2.2 k hk n (by simp)
  have hlen : (tr.take n).length = n := by rw [List.length_take]; omega
  have hrup := s.rup hz hd hc
  have hsplit : decs tr (dl ++ [n]) = decs tr dl ++ [tr.getD n 0] := by simp [decs]
  have hlast : tr.getD n 0 ∉ decs tr dl := by
    intro h
    obtain ⟨k, hk, he⟩ := List.mem_map.1 h
    have h1 := hlt k hk
    rw [getD_at _ _ hn, getD_at _ _ (by omega : k < tr.length)] at he
    have := nodup_inj s.tok.nodup he
    omega
  refine ⟨hg, fun k hk => by rw [hlen]; exact hlt k hk, (List.pairwise_append.1 s.dinc).1, fun k hk => ?_, fun j hj => ?_, fun i hi => ?_, fun c hc2 => ?_, fun c hc2 y hy => ?_, ?_, fun hr => ?_, fun x hx y hy hm => ?_, fun c hc2 x hx y hy hm => ?_⟩
  · have h1 := hlt k hk
    have h2 := s.dec k (by simp [hk])
    rw [getD_take h1, List.take_take, Nat.min_eq_left (by omega)]
    exact h2
  · rw [hlen] at hj
    rw [getD_take hj, List.take_take, Nat.min_eq_left (by omega)]
    rcases s.just j (by omega) with h1 | h1
    · rcases List.mem_append.1 h1 with h2 | h2
      · exact .inl h2
      · simp at h2; omega
    · exact .inr (h1.mono (fun d hd => by simp at hd ⊢; rcases hd with h | h <;> simp [h]))
  · rcases Nat.lt_or_ge i ls.length with h1 | h1
    · rw [List.getElem_append_left h1, List.take_append_of_le_length (by omega)]
      exact s.learned i h1
    · have e : i = ls.length := by simp at hi; omega
      subst e
      rw [List.getElem_append_right (Nat.le_refl _), List.take_left]
      simpa using hrup
  · rw [decs_take hlt]
    rcases List.mem_append.1 hc2 with h1 | h1
    · obtain ⟨y, hy, h2⟩ := s.fresh c h1
      exact ⟨y, hy, fun h3 => h2 (by rw [hsplit]; simp [h3])⟩
    · simp only [List.mem_singleton] at h1
      subst h1
      exact ⟨-(tr.getD n 0), List.mem_map.2 ⟨_, by rw [hsplit]; simp, rfl⟩, by rw [Int.neg_neg]; exact hlast⟩
  · rcases List.mem_append.1 hc2 with h1 | h1
    · exact s.neg c h1 y hy
    · simp only [List.mem_singleton] at h1
      subst h1
      obtain ⟨x, hx, rfl⟩ := List.mem_map.1 hy
      obtain ⟨k, hk, rfl⟩ := List.mem_map.1 hx
      have := (s.dec k hk).1
      omega
  · rw [List.map_append, List.nodup_append]
    refine ⟨s.codes, by simp, fun a ha b hb e => ?_⟩
    simp only [List.map_cons, List.map_nil, List.mem_singleton] at hb
    subst e
    obtain ⟨c, hc2, h1⟩ := List.mem_map.1 ha
    obtain ⟨y, hy, h2⟩ := s.fresh c hc2
    obtain ⟨i, hi, h3⟩ := List.getElem_of_mem hc2
    have h4 := s.learned i hi
    rw [h3] at h4
    have h5 := lit_of_good h4.1 hy
    have h6 := s.neg c hc2 y hy
    have h7 := (code_eq (h1.trans hb) ((-y).toNat - 1) (by omega)).1 (by rw [show -((((-y).toNat - 1 : Nat) : Int) + 1) = y by omega]; exact hy)
    rw [show -((((-y).toNat - 1 : Nat) : Int) + 1) = y by omega] at h7
    obtain ⟨x, hx, h8⟩ := List.mem_map.1 h7
    exact h2 (by rw [← h8, Int.neg_neg]; exact hx)
  · have := (s.start hr).2
    simp at this
  · rw [decs_take hlt] at hx hy
    exact s.apart x (by rw [hsplit]; simp [hx]) y (by rw [hsplit]; simp [hy]) hm
  · rcases List.mem_append.1 hc2 with h1 | h1
    · exact s.lapart c h1 x hx y hy hm
    · simp only [List.mem_singleton] at h1
      subst h1
      obtain ⟨x', hx', rfl⟩ := List.mem_map.1 hx
      obtain ⟨y', hy', rfl⟩ := List.mem_map.1 hy
      rw [s.apart x' hx' y' hy' hm]

/-- The least variable that is not told is decided. -/
theorem Srch.decide {m : Int} {l ls : List (List Int)} {f : Int → Int} {tr : List Int} {dl : List Nat} (s : Srch m l ls f tr dl) (hz : ∀ d ∈ l ++ ls, NoZero d) (hst : ∀ d ∈ l ++ ls, Stuck f d) {u : Int} (h1 : 1 ≤ u) (h2 : u ≤ m) (h0 : lv f u = 0)
    (hlow : ∀ u', 1 ≤ u' → u' < u → lv f u' ≠ 0) : Srch m l ls (upd f (vr u) (sgn u)) (tr ++ [u]) (dl ++ [tr.length]) := by
  have hlast : (tr ++ [u]).getD tr.length 0 = u := by simp [List.getD]
  have hdecs : decs (tr ++ [u]) (dl ++ [tr.length]) = decs tr dl ++ [u] := by
    have := decs_append (ext := [u]) s.dlt
    unfold decs at this ⊢
    rw [List.map_append, this]
    simp
  refine ⟨s.tok.snoc (by omega) (by omega) h2 h0, fun n hn => ?_, ?_, fun n hn => ?_, fun j hj => ?_, s.learned, fun c hc => ?_, s.neg, s.codes, fun hr => ?_, fun x hx y hy hm => ?_, s.lapart⟩
  · rcases List.mem_append.1 hn with h | h
    · have := s.dlt n h; simp; omega
    · simp at h; subst h; simp
  · rw [List.pairwise_append]
    exact ⟨s.dinc, List.pairwise_singleton _ _, fun a ha b hb => by simp at hb; subst hb; exact s.dlt a ha⟩
  · rcases List.mem_append.1 hn with h | h
    · have h3 := s.dlt n h
      rw [getD_append h3, take_append_le (by omega)]
      exact s.dec n h
    · simp at h; subst h
      rw [hlast, List.take_left]
      refine ⟨by omega, fun u' hu1 hu2 => ?_⟩
      have h3 := hlow u' hu1 hu2
      have h4 := s.tok.tri.lv u'
      rcases (by omega : lv f u' = 1 ∨ lv f u' = -1) with h5 | h5
      · exact .inl ((s.tok.iff u' (by omega)).1 h5)
      · exact .inr ((s.tok.neg (by omega)).1 h5)
  · rcases Nat.lt_or_ge j tr.length with h | h
    · rw [getD_append h, take_append_le (by omega)]
      rcases s.just j h with h3 | h3
      · exact .inl (by simp [h3])
      · exact .inr h3
    · have : j = tr.length := by simp at hj; omega
      subst this
      exact .inl (by simp)
  · rw [hdecs]
    have key : ¬ ∀ y ∈ c, -y ∈ decs tr dl ++ [u] := by
      intro hall
      have hcm : c ∈ l ++ ls := by simp [hc]
      have hval : ∀ y ∈ c, lv f y = -1 ∨ y = -u := by
        intro y hy
        rcases List.mem_append.1 (hall y hy) with h | h
        · obtain ⟨n, hn, he⟩ := List.mem_map.1 h
          have h3 := s.dlt n hn
          refine .inl ((s.tok.neg (hz c hcm y hy)).2 ?_)
          rw [← he, getD_at _ _ h3]; exact List.getElem_mem _
        · simp at h; exact .inr (by omega)
      have hnu : lv f (-u) = 0 := by rw [lv_neg (by omega)]; omega
      rcases hst c hcm with ⟨x, hx, h3⟩ | ⟨x, hx, y, hy, hne, h3, h4⟩
      · rcases hval x hx with h5 | rfl <;> omega
      · rcases hval x hx with h5 | h5
        · omega
        · rcases hval y hy with h6 | h6
          · omega
          · exact hne (h5.trans h6.symm)
    rcases Classical.not_forall.1 key with ⟨y, hy⟩
    exact ⟨y, (Classical.not_imp.1 hy).1, (Classical.not_imp.1 hy).2⟩
  · obtain ⟨rfl, rfl⟩ := s.start hr
    exact absurd ⟨f, s.tok.tri, by simp, by simpa using hst⟩ hr.2
  · rw [hdecs] at hx hy
    have dec1 : ∀ x ∈ decs tr dl, lv f x = 1 ∧ x ≠ 0 := fun x hx => by
      obtain ⟨k, hk, rfl⟩ := List.mem_map.1 hx
      have h3 := s.dlt k hk
      have hmem : tr.getD k 0 ∈ tr := by rw [getD_at _ _ h3]; exact List.getElem_mem _
      have := (s.dec k hk).1
      exact ⟨(s.tok.iff _ (by omega)).2 hmem, by omega⟩
    have key : ∀ x ∈ decs tr dl, ∀ d : List Int, (∀ z, z ∈ d ↔ z = -x ∨ z = -u) → d ∈ l → False := fun x hx d hd hdl => by
      obtain ⟨g1, g2⟩ := dec1 x hx
      have e1 : lv f (-x) = -1 := by rw [lv_neg g2, g1]
      have e2 : lv f (-u) = 0 := by rw [lv_neg (by omega), h0]; rfl
      rcases hst d (by simp [hdl]) with ⟨z, hz1, hz2⟩ | ⟨z, hz1, z2, hz3, hne, hz4, hz5⟩
      · rcases (hd z).1 hz1 with rfl | rfl <;> omega
      · rcases (hd z).1 hz1 with rfl | rfl
        · omega
        · rcases (hd z2).1 hz3 with rfl | rfl
          · omega
          · exact hne rfl
    rcases List.mem_append.1 hx with h3 | h3 <;> rcases List.mem_append.1 hy with h4 | h4
    · exact s.apart x h3 y h4 hm
    · rw [List.mem_singleton.1 h4] at hm
      exact (key x h3 _ (fun z => by simp) hm).elim
    · rw [List.mem_singleton.1 h3] at hm
      exact (key y h4 _ (fun z => by simp [or_comm]) hm).elim
    · rw [List.mem_singleton.1 h3, List.mem_singleton.1 h4]

/-- There are not so many. -/
theorem Srch.few {m : Int} {l ls : List (List Int)} {f : Int → Int} {tr : List Int} {dl : List Nat} (s : Srch m l ls f tr dl) : ls.length ≤ 2 ^ m.toNat := by
  have := nodup_lt (2 ^ m.toNat) _ s.codes (fun x hx => by
    obtain ⟨c, _, rfl⟩ := List.mem_map.1 hx
    exact code_lt c _)
  simpa using this

/-- A bound on what can be learned: of sets of decisions, no two of which a clause of two forbids, there are fewer than 2000. -/
def FewC (m : Int) (l : List (List Int)) : Prop := ∀ cs : List (List Int), (cs.map (code · m.toNat)).Nodup → (∀ c ∈ cs, ∀ x ∈ c, x < 0 ∧ -m ≤ x ∧ ∀ y ∈ c, [x, y] ∈ l → x = y) → cs.length < 2000
theorem fewC_small {m : Int} (l : List (List Int)) (hm : m ≤ 10) : FewC m l := fun cs hc _ => by
  have := nodup_lt (2 ^ m.toNat) _ hc (fun x hx => by
    obtain ⟨c, _, rfl⟩ := List.mem_map.1 hx
    exact code_lt c _)
  have h2 : 2 ^ m.toNat ≤ 2 ^ 10 := Nat.pow_le_pow_right (by decide) (by omega)
  rw [List.length_map] at this
  omega
theorem Srch.fewC {m : Int} {l ls : List (List Int)} {f : Int → Int} {tr : List Int} {dl : List Nat} (s : Srch m l ls f tr dl) (h : FewC m l) : ls.length < 2000 :=
  h ls s.codes (fun c hc x hx => by
    obtain ⟨i, hi, rfl⟩ := List.getElem_of_mem hc
    exact ⟨s.neg _ hc x hx, (lit_of_good (s.learned i hi).1 hx).2.1, s.lapart _ hc x hx⟩)
/-- The learned clauses hold wherever all do. -/
theorem Srch.sound {m : Int} {l ls : List (List Int)} {f : Int → Int} {tr : List Int} {dl : List Nat} (s : Srch m l ls f tr dl) (hz : ∀ d ∈ l ++ ls, NoZero d) {v : Nat} (hv : allB v l = true) : allB v (l ++ ls) = true := by
  have key : ∀ i, i ≤ ls.length → allB v (l ++ ls.take i) = true := by
    intro i
    induction i with
    | zero => intro _; simpa using hv
    | succ i ih =>
      intro hi
      have h1 := ih (by omega)
      have h2 := (s.learned i (by omega)).sound (fun d hd => hz d (by rcases List.mem_append.1 hd with h | h; · simp [h]
                                                                      · simp [List.mem_of_mem_take h])) h1
      rw [List.take_succ_eq_append_getElem (by omega), ← List.append_assoc]
      unfold allB at h1 ⊢
      rw [List.all_append, h1]
      simpa using h2
  have := key ls.length (Nat.le_refl _)
  rwa [List.take_length] at this

/-- What values are told. -/
def Vals (m : Int) (f : Int → Int) (v : Nat) : Prop := ∀ k : Nat, v.testBit k = (decide ((k : Int) < m) && decide (f ((k : Int) + 1) = 1))
theorem Vals.lit {m : Int} {f : Int → Int} {v : Nat} (h : Vals m f v) (ht : Tri f) {x : Int} (hx : x ≠ 0) (h1 : -m ≤ x) (h2 : x ≤ m) (h0 : lv f x ≠ 0) : litB v x = decide (lv f x = 1) := by
  have ht2 := ht (vr x)
  rcases Int.lt_trichotomy x 0 with h3 | h3 | h3
  · have e : f (-x) ≠ 0 := fun e => h0 (by rw [lv, if_pos h3, vr_neg h3, e]; rfl)
    rw [vr_neg h3] at ht2
    rw [litB, if_neg (by omega), decide_eq_true h3, h, show (((-x).toNat - 1 : Nat) : Int) + 1 = -x by omega, lv, if_pos h3, vr_neg h3, decide_eq_true (by omega)]
    rcases (by omega : f (-x) = 1 ∨ f (-x) = -1) with h4 | h4 <;> simp [h4]
  · exact absurd h3 hx
  · rw [litB, if_pos h3, h, show ((x.toNat - 1 : Nat) : Int) + 1 = x by omega, lv, if_neg (by omega), vr_pos h3, decide_eq_true (by omega)]
    simp
/-- All are told, and nothing more follows: all clauses hold. -/
theorem Srch.holds {m : Int} {l ls : List (List Int)} {f : Int → Int} {tr : List Int} {dl : List Nat} (s : Srch m l ls f tr dl) (hr : ∀ d ∈ l, ∀ x ∈ d, x ≠ 0 ∧ -m ≤ x ∧ x ≤ m) (hst : ∀ d ∈ l ++ ls, Stuck f d) (hall : ∀ u, 1 ≤ u → u ≤ m → lv f u ≠ 0) {v : Nat} (hv : Vals m f v) : allB v l = true := by
  refine List.all_eq_true.2 fun d hd => ?_
  have told : ∀ x ∈ d, lv f x ≠ 0 := by
    intro x hx h0
    obtain ⟨h1, h2, h3⟩ := hr d hd x hx
    rw [lv_zero] at h0
    have h4 : lv f (vr x) = 0 := by
      rw [lv_zero, show vr (vr x) = vr x by unfold vr; omega]; exact h0
    exact hall (vr x) (by unfold vr; omega) (by unfold vr; omega) h4
  rcases hst d (by simp [hd]) with ⟨x, hx, h1⟩ | ⟨x, hx, _, _, _, h1, _⟩
  · obtain ⟨h2, h3, h4⟩ := hr d hd x hx
    exact List.any_eq_true.2 ⟨x, hx, by rw [hv.lit s.tok.tri h2 h3 h4 (told x hx), h1]; rfl⟩
  · exact absurd h1 (told x hx)
/-- .. and no values that come ahead (true ahead of false, variable by variable) are such. -/
theorem Srch.firstOf {m : Int} {l ls : List (List Int)} {f : Int → Int} {tr : List Int} {dl : List Nat} (s : Srch m l ls f tr dl) (hz : ∀ d ∈ l ++ ls, NoZero d) (hall : ∀ u, 1 ≤ u → u ≤ m → lv f u ≠ 0) {v : Nat} (hv : Vals m f v) {v' : Nat} (hv' : allB v' l = true)
    {k : Nat} (hk : (k : Int) < m) (hsame : ∀ i, i < k → v'.testBit i = v.testBit i) (h1 : v'.testBit k = true) (h0 : v.testBit k = false) : False := by
  have hall' := s.sound hz hv'
  have hfk : lv f ((k : Int) + 1) = -1 := by
    have h2 := hall ((k : Int) + 1) (by omega) (by omega)
    have h3 := s.tok.tri.lv ((k : Int) + 1)
    rw [hv k, decide_eq_true hk] at h0
    have h4 : f ((k : Int) + 1) ≠ 1 := by simpa using h0
    have e : lv f ((k : Int) + 1) = f ((k : Int) + 1) := by rw [lv, if_neg (by omega), vr_pos (by omega)]
    omega
  have hin := (s.tok.neg (by omega : ((k : Int) + 1) ≠ 0)).1 hfk
  obtain ⟨j, hj, hej⟩ := List.getElem_of_mem hin
  have key : ∀ i, i ≤ j → litB v' (tr.getD i 0) = true := by
    intro i
    induction i using Nat.strongRecOn with
    | _ i ih =>
      intro hij
      have hi : i < tr.length := by omega
      rcases s.just i hi with h | ⟨d, hdm, hx, hy⟩
      · obtain ⟨hpos, hlow⟩ := s.dec i h
        have hmem : tr.getD i 0 ∈ tr := by rw [getD_at _ _ hi]; exact List.getElem_mem _
        have hrng := s.tok.rng _ hmem
        have hlt : tr.getD i 0 < (k : Int) + 1 := by
          rcases Int.lt_trichotomy (tr.getD i 0) ((k : Int) + 1) with h2 | h2 | h2
          · exact h2
          · have h3 := (s.tok.iff _ (by omega)).2 hmem
            rw [h2] at h3; omega
          · exfalso
            rcases hlow ((k : Int) + 1) (by omega) h2 with h3 | h3
            · have h4 := (s.tok.iff _ (by omega)).2 (List.mem_of_mem_take h3)
              omega
            · obtain ⟨q, hq, heq⟩ := List.getElem_of_mem h3
              rw [List.length_take] at hq
              rw [List.getElem_take] at heq
              have := nodup_inj s.tok.nodup (heq.trans hej.symm)
              omega
        have h4 := (s.tok.iff _ (by omega)).2 hmem
        have h5 : litB v (tr.getD i 0) = true := by rw [hv.lit s.tok.tri (by omega) (by omega) (by omega) (by omega), h4]; rfl
        rw [litB, if_pos hpos] at h5 ⊢
        rw [hsame _ (by omega)]; exact h5
      · have h2 := List.all_eq_true.1 hall' d hdm
        obtain ⟨y, hyd, h3⟩ := List.any_eq_true.1 h2
        by_cases e : y = tr.getD i 0
        · rw [← e]; exact h3
        · obtain ⟨q, hq, heq⟩ := List.getElem_of_mem (hy y hyd e)
          rw [List.length_take] at hq
          rw [List.getElem_take] at heq
          have h4 := ih q (by omega) (by omega)
          rw [getD_at _ _ (by omega : q < tr.length), heq, litB_neg (hz d hdm y hyd), h3] at h4
          cases h4
  have h2 := key j (Nat.le_refl _)
  rw [getD_at _ _ hj, hej, litB_neg (by omega), litB, if_pos (by omega), show ((k : Int) + 1).toNat - 1 = k by omega, h1] at h2
  cases h2
end Go.Proofs.YtheemhelioendaaGreatDoor
