/- Plain law: a trail of literals, and what follows. -/
import Derived.Test.YtheemhelioendaaGreatDoorRup
namespace Go.Proofs.YtheemhelioendaaGreatDoor
set_option linter.unusedVariables false

/-- The trail is just what is told. -/
structure TrailOK (m : Int) (f : Int → Int) (tr : List Int) : Prop where
  tri : Tri f
  iff : ∀ y, y ≠ 0 → (lv f y = 1 ↔ y ∈ tr)
  rng : ∀ x ∈ tr, x ≠ 0 ∧ -m ≤ x ∧ x ≤ m
  nodup : tr.Nodup

theorem TrailOK.neg {m : Int} {f : Int → Int} {tr : List Int} (h : TrailOK m f tr) {y : Int} (hy : y ≠ 0) : lv f y = -1 ↔ -y ∈ tr := by
  rw [← h.iff (-y) (by omega), lv_neg hy]; omega
theorem trailOK_nil (m : Int) : TrailOK m (fun _ => 0) [] := ⟨fun _ => by simp, fun y hy => by simp [lv], by simp, List.nodup_nil⟩
theorem TrailOK.snoc {m : Int} {f : Int → Int} {tr : List Int} (h : TrailOK m f tr) {x : Int} (hx : x ≠ 0) (h1 : -m ≤ x) (h2 : x ≤ m) (h0 : lv f x = 0) : TrailOK m (upd f (vr x) (sgn x)) (tr ++ [x]) := by
  refine ⟨h.tri.upd x, fun y hy => ?_, fun y hy => ?_, ?_⟩
  · rw [lv_upd hx hy, List.mem_append, List.mem_singleton]
    by_cases e : y = x
    · subst e; simp
    · rw [if_neg e]
      by_cases e2 : y = -x
      · rw [if_pos e2]
        subst e2
        have h3 : -x ∉ tr := fun hm => by
          have := (h.iff (-x) hy).2 hm
          rw [lv_neg hx] at this; omega
        simp [h3]; omega
      · rw [if_neg e2, h.iff y hy]; simp [e]
  · rcases List.mem_append.1 hy with h3 | h3
    · exact h.rng y h3
    · simp at h3; subst h3; exact ⟨hx, h1, h2⟩
  · rw [List.nodup_append]
    refine ⟨h.nodup, by simp, fun a ha b hb => ?_⟩
    simp at hb; subst hb
    intro e; subst e
    have := (h.iff a hx).2 ha
    omega

/-- A literal follows from a clause, when all others of it are against the trail. -/
def Just (l : List (List Int)) (t : List Int) (x : Int) : Prop := ∃ d ∈ l, x ∈ d ∧ ∀ y ∈ d, y ≠ x → -y ∈ t
/-- One behind the other. -/
def Justs (l : List (List Int)) (t ext : List Int) : Prop := ∀ j (h : j < ext.length), Just l (t ++ ext.take j) ext[j]
theorem justs_nil (l : List (List Int)) (t : List Int) : Justs l t [] := fun j h => absurd h (by simp)
theorem Justs.snoc {l : List (List Int)} {t ext : List Int} {x : Int} (h : Justs l t ext) (hx : Just l (t ++ ext) x) : Justs l t (ext ++ [x]) := by
  intro j hj
  by_cases e : j < ext.length
  · have h1 := h j e
    rw [List.getElem_append_left e]
    rw [List.take_append_of_le_length (by omega)]
    exact h1
  · have e2 : j = ext.length := by simp at hj; omega
    subst e2
    rw [List.getElem_append_right (Nat.le_refl _)]
    simpa using hx

/-- What state.unit tells of a clause. -/
def UnitSay (f : Int → Int) (c : List Int) (x : Int) (ok : Bool) : Prop :=
  (ok = false → x = 0 ∧ ∀ y ∈ c, lv f y = -1) ∧ (ok = true → x ≠ 0 → x ∈ c ∧ lv f x = 0 ∧ ∀ y ∈ c, y ≠ x → lv f y = -1) ∧ (ok = true → x = 0 → Stuck f c)

/-- The scan of state.unit: so far no literal holds, and at most one is left. -/
structure UScan (f : Int → Int) (c : List Int) (k : Nat) (left : Int) : Prop where
  fleft : left ≠ 0 → left ∈ c ∧ lv f left = 0
  frest : ∀ y ∈ c.take k, y ≠ left → lv f y = -1
theorem uscan_start (f : Int → Int) (c : List Int) : UScan f c 0 0 := ⟨by simp, by simp⟩
theorem UScan.stepm {f : Int → Int} {c : List Int} {k : Nat} {left : Int} (s : UScan f c k left) (h : k < c.length) (h1 : lv f c[k] = -1) : UScan f c (k + 1) left :=
  ⟨s.fleft, fun y hy hne => ((mem_take_succ h).1 hy).elim (fun h2 => s.frest y h2 hne) (fun e => by rw [e]; exact h1)⟩
theorem UScan.step0 {f : Int → Int} {c : List Int} {k : Nat} {left : Int} (s : UScan f c k left) (h : k < c.length) (hz : NoZero c) (h1 : lv f c[k] = 0) (hl : left = 0 ∨ left = c[k]) : UScan f c (k + 1) c[k] := by
  refine ⟨fun _ => ⟨List.getElem_mem h, h1⟩, fun y hy hne => ?_⟩
  rcases (mem_take_succ h).1 hy with h2 | e
  · refine s.frest y h2 (fun e => ?_)
    rcases hl with h3 | h3
    · exact hz y (List.mem_of_mem_take h2) (by rw [e, h3])
    · exact hne (by rw [e, h3])
  · exact absurd e hne
theorem UScan.say {f : Int → Int} {c : List Int} {left : Int} (s : UScan f c c.length left) (hz : NoZero c) : UnitSay f c left (left != 0) := by
  refine ⟨fun h => ?_, fun _ h => ⟨(s.fleft h).1, (s.fleft h).2, fun y hy hne => s.frest y (by simpa using hy) hne⟩, fun h h0 => ?_⟩
  · have h0 : left = 0 := by simpa using h
    exact ⟨h0, fun y hy => s.frest y (by simpa using hy) (by rw [h0]; exact hz y hy)⟩
  · subst h0; simp at h
theorem say_true {f : Int → Int} {c : List Int} {x : Int} (hx : x ∈ c) (h : lv f x = 1) : UnitSay f c 0 true :=
  ⟨fun h => (by cases h), fun _ h => absurd rfl h, fun _ _ => .inl ⟨x, hx, h⟩⟩
theorem say_two {f : Int → Int} {c : List Int} {k : Nat} {left : Int} (s : UScan f c k left) {x : Int} (hx : x ∈ c) (h : lv f x = 0) (h1 : left ≠ 0) (h2 : left ≠ x) : UnitSay f c 0 true :=
  ⟨fun h => (by cases h), fun _ h => absurd rfl h, fun _ _ => .inr ⟨left, (s.fleft h1).1, x, hx, h2, (s.fleft h1).2, h⟩⟩

theorem nodup_lt : ∀ (n : Nat) (l : List Nat), l.Nodup → (∀ x ∈ l, x < n) → l.length ≤ n
  | 0, l, _, h => by
    cases l with
    | nil => simp
    | cons x l => have := h x (by simp); omega
  | n + 1, l, hn, h => by
    have h1 := nodup_lt n (l.erase n) (hn.erase n) (fun x hx => by
      have h2 := (hn.mem_erase_iff).1 hx
      have := h x h2.2
      have := h2.1
      omega)
    by_cases hm : n ∈ l
    · rw [List.length_erase_of_mem hm] at h1
      omega
    · rw [List.erase_of_not_mem hm] at h1
      omega
theorem TrailOK.len {m : Int} {f : Int → Int} {tr : List Int} (h : TrailOK m f tr) (hm : m ≤ 24) : tr.length ≤ 49 := by
  have h1 := nodup_lt 49 (tr.map fun x => (x + 24).toNat) (by
    have key : ∀ t : List Int, t.Nodup → (∀ x ∈ t, -24 ≤ x ∧ x ≤ 24) → (t.map fun x => (x + 24).toNat).Nodup := by
      intro t
      induction t with
      | nil => intro _ _; exact List.nodup_nil
      | cons x t ih =>
        intro hn hr
        rw [List.map_cons, List.nodup_cons]
        rw [List.nodup_cons] at hn
        refine ⟨fun hm => ?_, ih hn.2 (fun y hy => hr y (by simp [hy]))⟩
        obtain ⟨y, hy, he⟩ := List.mem_map.1 hm
        have h1 := hr x (by simp)
        have h2 := hr y (by simp [hy])
        have : y = x := by omega
        subst this
        exact hn.1 hy
    exact key tr h.nodup (fun x hx => by have := h.rng x hx; omega)) (fun x hx => by
      obtain ⟨y, hy, rfl⟩ := List.mem_map.1 hx
      have := h.rng y hy
      omega)
  simpa using h1
end Go.Proofs.YtheemhelioendaaGreatDoor
