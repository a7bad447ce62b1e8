/- Plain law: taking variables away (Davis and Putnam). No program in sight. -/
import Derived.Test.YtdeaficdfooegaaDoorFolM
namespace Go.Proofs.YtdeaficdfooegaaDoor
set_option linter.unusedVariables false

variable {M : Int}
/-- A clause in form that says something, over variables from v on, within M. -/
structure Fm (M v : Int) (c : List Int) : Prop where
  risen : Risen c
  open_ : alwaysL c = false
  lo : ∀ x ∈ c, v < x ∨ x < -v
  hi : ∀ x ∈ c, -M ≤ x ∧ x ≤ M
theorem Fm.nz {v : Int} (h0 : 0 ≤ v) {c : List Int} (h : Fm M v c) : ∀ x ∈ c, x ≠ 0 := fun x hx => by have := h.lo x hx; omega
theorem Fm.sm (hM : M ≤ 24) {v : Int} {c : List Int} (h : Fm M v c) : Sm24 c := have h2 : ∀ x ∈ c, -24 ≤ x ∧ x ≤ 24 := fun x hx => by { have := h.hi x hx; omega }; ⟨h2, risen_len h.risen h2⟩
theorem Fm.opp {v : Int} (h0 : 0 ≤ v) {c : List Int} (h : Fm M v c) {x : Int} (h1 : x ∈ c) (h2 : -x ∈ c) : False := by
  have := mem_always h.risen (h.nz h0 x h1) h1 h2
  rw [h.open_] at this; cases this
/-- What a set of clauses, made so far, keeps to: each is in form, and holds wherever the old ones do. -/
structure Mk (M v : Int) (old new : List (List Int)) : Prop where
  fm : ∀ c ∈ new, Fm M v c
  snd : ∀ f, allF f old = true → allF f new = true
theorem Mk.nil (v : Int) (old : List (List Int)) : Mk M v old [] := ⟨fun c h => (by cases h), fun _ _ => rfl⟩
/-- One more. -/
def addL (all : List (List Int)) (c : List Int) : List (List Int) := if alwaysL (formL c) || all.any (fun d => decide (formL c = d)) then all else all ++ [formL c]
theorem add_old {all : List (List Int)} {c d : List Int} (h : d ∈ all) : d ∈ addL all c := by
  unfold addL; split
  · exact h
  · exact List.mem_append_left _ h
theorem add_new {all : List (List Int)} {c : List Int} (h : alwaysL (formL c) = false) : formL c ∈ addL all c := by
  unfold addL
  split
  · rename_i h2
    rw [h, Bool.false_or, List.any_eq_true] at h2
    obtain ⟨d, hd, e⟩ := h2
    rw [of_decide_eq_true e]; exact hd
  · exact List.mem_append_right _ (List.mem_singleton.2 rfl)
theorem add_len (all : List (List Int)) (c : List Int) : (addL all c).length ≤ all.length + 1 := by
  unfold addL; split
  · omega
  · rw [List.length_append]; simp
theorem allF_mem {f : Nat → Bool} {l : List (List Int)} : allF f l = true ↔ ∀ c ∈ l, clF f c = true := by unfold allF; rw [List.all_eq_true]
theorem Mk.add {v : Int} {old new : List (List Int)} (h : Mk M v old new) {c : List Int} (hlo : ∀ x ∈ c, v < x ∨ x < -v) (hhi : ∀ x ∈ c, -M ≤ x ∧ x ≤ M) (hc : ∀ f, allF f old = true → clF f c = true) : Mk M v old (addL new c) := by
  unfold addL
  split
  · exact h
  · rename_i h2
    have ha : alwaysL (formL c) = false := by
      cases g : alwaysL (formL c) with
      | false => rfl
      | true => rw [g] at h2; simp at h2
    refine ⟨fun d hd => ?_, fun f hf => ?_⟩
    · rcases List.mem_append.1 hd with h3 | h3
      · exact h.fm d h3
      · rw [List.mem_singleton.1 h3]
        exact ⟨form_risen c, ha, fun x hx => hlo x ((mem_form x).1 hx), fun x hx => hhi x ((mem_form x).1 hx)⟩
    · rw [allF_mem]
      intro d hd
      rcases List.mem_append.1 hd with h3 | h3
      · exact allF_mem.1 (h.snd f hf) d h3
      · rw [List.mem_singleton.1 h3, clF_form]; exact hc f hf
/-- A clause has nothing of variable v. -/
def freeL (v : Int) (c : List Int) : Prop := v + 1 ∉ c ∧ -v - 1 ∉ c
theorem free_lo {v : Int} (h0 : 0 ≤ v) {c : List Int} (h : Fm M v c) (hf : freeL v c) : ∀ x ∈ c, v + 1 < x ∨ x < -(v + 1) := fun x hx => by
  have h1 := h.lo x hx
  have h2 : x ≠ v + 1 := fun e => hf.1 (e ▸ hx)
  have h3 : x ≠ -v - 1 := fun e => hf.2 (e ▸ hx)
  omega
theorem left_lo {v : Int} (h0 : 0 ≤ v) {a b : List Int} (ha : Fm M v a) (hb : Fm M v b) (m1 : v + 1 ∈ a) (m2 : -v - 1 ∈ b) : ∀ x ∈ leftL a b v, v + 1 < x ∨ x < -(v + 1) := fun x hx => by
  rcases mem_left.1 hx with ⟨h1, h2⟩ | ⟨h1, h2⟩
  · have h3 := ha.lo x h1
    have h4 : x ≠ -v - 1 := fun e => ha.opp h0 m1 (by rw [show -(v + 1) = -v - 1 by omega, ← e]; exact h1)
    omega
  · have h3 := hb.lo x h1
    have h4 : x ≠ v + 1 := fun e => hb.opp h0 m2 (by rw [show -(-v - 1) = v + 1 by omega, ← e]; exact h1)
    omega
theorem left_hi {v : Int} {a b : List Int} (ha : ∀ x ∈ a, -M ≤ x ∧ x ≤ M) (hb : ∀ x ∈ b, -M ≤ x ∧ x ≤ M) : ∀ x ∈ leftL a b v, -M ≤ x ∧ x ≤ M := fun x hx => by
  rcases mem_left.1 hx with ⟨h1, _⟩ | ⟨h1, _⟩
  · exact ha x h1
  · exact hb x h1
/-- All that the step asks for is there. -/
structure Full (v : Int) (old new : List (List Int)) : Prop where
  free : ∀ c ∈ old, freeL v c → c ∈ new
  res : ∀ a ∈ old, ∀ b ∈ old, mayRes a b v = true → alwaysL (formL (leftL a b v)) = false → formL (leftL a b v) ∈ new
def setF (f : Nat → Bool) (k : Nat) (b : Bool) : Nat → Bool := fun j => if j = k then b else f j
theorem litF_set {f : Nat → Bool} {k : Nat} {b : Bool} {x : Int} (h1 : x ≠ (k : Int) + 1) (h2 : x ≠ -(k : Int) - 1) : litF (setF f k b) x = litF f x := by
  unfold litF setF
  by_cases hx : 0 < x
  · rw [if_pos hx, if_pos hx, if_neg (by omega)]
  · rw [if_neg hx, if_neg hx]
    by_cases hx2 : x < 0
    · rw [if_neg (by omega)]
    · rw [decide_eq_false hx2]; rfl
theorem litF_pos (f : Nat → Bool) (k : Nat) : litF (setF f k true) ((k : Int) + 1) = true := by
  unfold litF setF; rw [if_pos (by omega)]; simp
theorem litF_negk (f : Nat → Bool) (k : Nat) : litF (setF f k false) (-(k : Int) - 1) = true := by
  unfold litF setF; rw [if_neg (by omega), decide_eq_true (by omega)]; simp; omega
/-- Davis and Putnam: what is left can hold just if the old clauses can. -/
theorem dp_sat {k : Nat} (hk : k < 24) {old new : List (List Int)} (hf : ∀ c ∈ old, Fm M k c) (hn : Full k old new) {f : Nat → Bool} (h : allF f new = true) : ∃ g, allF g old = true := by
  rw [allF_mem] at h
  by_cases hp : ∀ a ∈ old, (k : Int) + 1 ∈ a → ∃ x ∈ a, x ≠ (k : Int) + 1 ∧ litF f x = true
  · refine ⟨setF f k false, allF_mem.2 (fun c hc => ?_)⟩
    have F := hf c hc
    rw [clF_mem]
    by_cases h1 : (k : Int) + 1 ∈ c
    · obtain ⟨x, hx, hne, ht⟩ := hp c hc h1
      have hn2 : x ≠ -(k : Int) - 1 := fun e => F.opp (by omega) h1 (by rw [show -((k : Int) + 1) = -(k : Int) - 1 by omega, ← e]; exact hx)
      exact ⟨x, hx, by rw [litF_set hne hn2]; exact ht⟩
    · by_cases h2 : -(k : Int) - 1 ∈ c
      · exact ⟨_, h2, litF_negk f k⟩
      · obtain ⟨x, hx, ht⟩ := clF_mem.1 (h c (hn.free c hc ⟨h1, h2⟩))
        exact ⟨x, hx, by rw [litF_set (fun e => h1 (e ▸ hx)) (fun e => h2 (e ▸ hx))]; exact ht⟩
  · have hp' : ∃ a ∈ old, (k : Int) + 1 ∈ a ∧ ∀ x ∈ a, x ≠ (k : Int) + 1 → litF f x = false := by
      apply Classical.byContradiction
      intro hno
      refine hp (fun a ha hm => ?_)
      apply Classical.byContradiction
      intro hno2
      refine hno ⟨a, ha, hm, fun x hx hne => ?_⟩
      cases g : litF f x with
      | false => rfl
      | true => exact absurd ⟨x, hx, hne, g⟩ hno2
    obtain ⟨a, ha, hm, hall⟩ := hp'
    refine ⟨setF f k true, allF_mem.2 (fun c hc => ?_)⟩
    have F := hf c hc
    rw [clF_mem]
    by_cases h1 : (k : Int) + 1 ∈ c
    · exact ⟨_, h1, litF_pos f k⟩
    · by_cases h2 : -(k : Int) - 1 ∈ c
      · have hmay : mayRes a c k = true := by unfold mayRes; simp [hm, h2]; omega
        have hl : clF f (leftL a c k) = true := by
          cases g : alwaysL (formL (leftL a c k)) with
          | true => exact clF_taut (fun x hx => by have := left_lo (by omega) (hf a ha) F hm h2 x hx; omega) g
          | false => rw [← clF_form]; exact h _ (hn.res a ha c hc hmay g)
        obtain ⟨x, hx, ht⟩ := clF_mem.1 hl
        rcases mem_left.1 hx with ⟨q1, q2⟩ | ⟨q1, q2⟩
        · rw [hall x q1 q2] at ht; cases ht
        · exact ⟨x, q1, by rw [litF_set (fun e => h1 (e ▸ q1)) q2]; exact ht⟩
      · obtain ⟨x, hx, ht⟩ := clF_mem.1 (h c (hn.free c hc ⟨h1, h2⟩))
        exact ⟨x, hx, by rw [litF_set (fun e => h1 (e ▸ hx)) (fun e => h2 (e ▸ hx))]; exact ht⟩
/-- What the loop over the variables keeps. -/
structure DpI (M : Int) (l all : List (List Int)) (v : Int) : Prop where
  fm : ∀ c ∈ all, Fm M v c
  sat : (∃ f, allF f all = true) ↔ ∃ f, allF f l = true
theorem DpI.step {l old new : List (List Int)} {k : Nat} (hk : k < 24) (h : DpI M l old k) (mk : Mk M ((k : Int) + 1) old new) (full : Full k old new) : DpI M l new ((k : Int) + 1) :=
  ⟨mk.fm, by rw [← h.sat]; exact ⟨fun ⟨f, hf⟩ => dp_sat hk h.fm full hf, fun ⟨f, hf⟩ => ⟨f, mk.snd f hf⟩⟩⟩
theorem DpI.first {l all : List (List Int)} (mk : Mk M 0 l all) (hz : ∀ c ∈ l, ∀ x ∈ c, x ≠ 0) (full : ∀ c ∈ l, alwaysL (formL c) = false → formL c ∈ all) : DpI M l all 0 :=
  ⟨mk.fm, fun ⟨f, hf⟩ => ⟨f, allF_mem.2 (fun c hc => by
    cases g : alwaysL (formL c) with
    | true => exact clF_taut (hz c hc) g
    | false => rw [← clF_form]; exact allF_mem.1 hf _ (full c hc g))⟩, fun ⟨f, hf⟩ => ⟨f, mk.snd f hf⟩⟩
/-- Behind the last variable there are clauses just if they can't hold. -/
theorem DpI.last {l all : List (List Int)} (h : DpI M l all M) : (all = []) ↔ ∃ f, allF f l = true := by
  rw [← h.sat]
  constructor
  · rintro rfl; exact ⟨fun _ => false, rfl⟩
  · rintro ⟨f, hf⟩
    cases all with
    | nil => rfl
    | cons c r =>
      obtain ⟨x, hx, _⟩ := clF_mem.1 (allF_mem.1 hf c (List.mem_cons_self ..))
      have h1 := (h.fm c (List.mem_cons_self ..)).lo x hx
      have h2 := (h.fm c (List.mem_cons_self ..)).hi x hx
      omega
/-- Values told by a function are told by a number. -/
theorem num_of_fun (f : Nat → Bool) : ∀ m : Nat, ∃ n, n < 2 ^ m ∧ ∀ k, k < m → n.testBit k = f k
  | 0 => ⟨0, by decide, fun k h => absurd h (Nat.not_lt_zero _)⟩
  | m + 1 => by
    obtain ⟨n, h1, h2⟩ := num_of_fun f m
    cases g : f m with
    | false =>
      refine ⟨n, by rw [Nat.pow_succ]; omega, fun k hk => ?_⟩
      by_cases e : k = m
      · subst e; rw [g, Nat.testBit_lt_two_pow h1]
      · exact h2 k (by omega)
    | true =>
      refine ⟨2 ^ m + n, by rw [Nat.pow_succ]; omega, fun k hk => ?_⟩
      by_cases e : k = m
      · subst e; rw [g, Nat.testBit_two_pow_add_eq, Nat.testBit_lt_two_pow h1]; rfl
      · rw [Nat.testBit_two_pow_add_gt (by omega)]; exact h2 k (by omega)
theorem sat_num {l : List (List Int)} (hs : ∀ c ∈ l, Sm24 c) {f : Nat → Bool} (h : allF f l = true) : ∃ n, allB n l = true := by
  obtain ⟨n, _, h2⟩ := num_of_fun f 24
  refine ⟨n, ?_⟩
  rw [← allF_bits, allF_mem]
  intro c hc
  obtain ⟨x, hx, ht⟩ := clF_mem.1 (allF_mem.1 h c hc)
  refine clF_mem.2 ⟨x, hx, ?_⟩
  have hb := (hs c hc).1 x hx
  unfold litF at ht ⊢
  by_cases h0 : 0 < x
  · rw [if_pos h0] at ht ⊢; rw [h2 _ (by omega)]; exact ht
  · rw [if_neg h0] at ht ⊢
    by_cases h1 : x < 0
    · rw [h2 _ (by omega)]; exact ht
    · rw [decide_eq_false h1] at ht; cases ht
end Go.Proofs.YtdeaficdfooegaaDoor
