/- Plain law: what follows by unit propagation. No program in sight. -/
import Derived.Test.YtheemhelioendaaGreatDoorPkH
namespace Go.Proofs.YtheemhelioendaaGreatDoor
set_option linter.unusedVariables false

/-- A literal's variable, from 1 on. -/
def vr (x : Int) : Int := max x (-x)
theorem vr_neg {x : Int} (h : x < 0) : vr x = -x := by unfold vr; omega
theorem vr_pos {x : Int} (h : 0 < x) : vr x = x := by unfold vr; omega

def upd (f : Int → Int) (k v : Int) : Int → Int := fun x => if k = x then v else f x
/-- What a literal is: 1, -1, or 0 (not told). -/
def lv (f : Int → Int) (x : Int) : Int := if x < 0 then - f (vr x) else f (vr x)
def Tri (f : Int → Int) : Prop := ∀ v, -1 ≤ f v ∧ f v ≤ 1
theorem Tri.lv {f : Int → Int} (h : Tri f) (x : Int) : -1 ≤ lv f x ∧ lv f x ≤ 1 := by
  have := h (vr x); unfold Proofs.YtheemhelioendaaGreatDoor.lv; split <;> omega
/-- Only variables from 1 to 24 are told. -/
def In24 (f : Int → Int) : Prop := ∀ v, f v ≠ 0 → 1 ≤ v ∧ v ≤ 24
/-- The sign of a literal. -/
def sgn (x : Int) : Int := if x < 0 then -1 else 1

theorem lv_upd {f : Int → Int} {x y : Int} (hx : x ≠ 0) (hy : y ≠ 0) : lv (upd f (vr x) (sgn x)) y = if y = x then 1 else if y = -x then -1 else lv f y := by
  unfold lv upd sgn vr
  split <;> split <;> split <;> (try split) <;> (try split) <;> omega

theorem litB_neg {v : Nat} {x : Int} (hx : x ≠ 0) : litB v (-x) = !litB v x := by
  unfold litB
  rcases Int.lt_trichotomy x 0 with h | h | h
  · rw [if_pos (by omega), if_neg (by omega), decide_eq_true h]
    simp
  · exact absurd h hx
  · rw [if_neg (by omega), if_pos h, decide_eq_true (by omega)]
    simp

/-- What is told holds of the values. -/
def Agrees (f : Int → Int) (v : Nat) : Prop := ∀ x, x ≠ 0 → lv f x = 1 → litB v x = true
theorem lv_neg {f : Int → Int} {x : Int} (hx : x ≠ 0) : lv f (-x) = - lv f x := by
  unfold lv vr
  have : max (-x) (- -x) = max x (-x) := by omega
  rw [this]
  split <;> split <;> omega
theorem Agrees.false {f : Int → Int} {v : Nat} (h : Agrees f v) {x : Int} (hx : x ≠ 0) (hl : lv f x = -1) : litB v x = false := by
  have h1 := h (-x) (by omega) (by rw [lv_neg hx]; omega)
  rw [litB_neg hx] at h1
  simpa using h1
theorem Agrees.upd {f : Int → Int} {v : Nat} (h : Agrees f v) {x : Int} (hx : x ≠ 0) (hl : litB v x = true) : Agrees (upd f (vr x) (sgn x)) v := by
  intro y hy h1
  rw [lv_upd hx hy] at h1
  split at h1
  · rename_i e; subst e; exact hl
  · split at h1
    · omega
    · exact h y hy h1

/-- No literal of the clause is 0. -/
def NoZero (c : List Int) : Prop := ∀ x ∈ c, x ≠ 0

/-- What the scan of a clause's first literals says. -/
structure Scan (f : Int → Int) (d : List Int) (k : Nat) (left : Int) (holds several : Bool) : Prop where
  fholds : holds = true ↔ ∃ x ∈ d.take k, lv f x = 1
  fleft : left ≠ 0 → left ∈ d.take k ∧ lv f left = 0
  fnone : left = 0 → ∀ x ∈ d.take k, lv f x ≠ 0
  fsev : several = true → ∃ x ∈ d.take k, ∃ y ∈ d.take k, x ≠ y ∧ lv f x = 0 ∧ lv f y = 0
  fone : several = false → ∀ x ∈ d.take k, lv f x = 0 → x = left

theorem scan_start (f : Int → Int) (d : List Int) : Scan f d 0 0 false false := ⟨by simp, by simp, by simp, by simp, by simp⟩
theorem mem_take_succ {α : Type} {d : List α} {k : Nat} (h : k < d.length) {x : α} : x ∈ d.take (k + 1) ↔ x ∈ d.take k ∨ x = d[k] := by
  rw [List.take_succ_eq_append_getElem h, List.mem_append]; simp
theorem Scan.step1 {f : Int → Int} {d : List Int} {k : Nat} {left : Int} {holds several : Bool} (s : Scan f d k left holds several) (h : k < d.length) (h1 : lv f d[k] = 1) : Scan f d (k + 1) left true several := by
  refine ⟨⟨fun _ => ⟨d[k], (mem_take_succ h).2 (.inr rfl), h1⟩, fun _ => rfl⟩, fun h2 => ⟨(mem_take_succ h).2 (.inl (s.fleft h2).1), (s.fleft h2).2⟩, fun h2 x hx => ?_, fun h2 => ?_, fun h2 x hx h3 => ?_⟩
  · rcases (mem_take_succ h).1 hx with h3 | rfl
    · exact s.fnone h2 x h3
    · omega
  · obtain ⟨x, hx, y, hy, r⟩ := s.fsev h2
    exact ⟨x, (mem_take_succ h).2 (.inl hx), y, (mem_take_succ h).2 (.inl hy), r⟩
  · rcases (mem_take_succ h).1 hx with h4 | rfl
    · exact s.fone h2 x h4 h3
    · omega
theorem Scan.stepm {f : Int → Int} {d : List Int} {k : Nat} {left : Int} {holds several : Bool} (s : Scan f d k left holds several) (h : k < d.length) (h1 : lv f d[k] = -1) : Scan f d (k + 1) left holds several := by
  refine ⟨⟨fun h2 => ?_, fun ⟨x, hx, h2⟩ => ?_⟩, fun h2 => ⟨(mem_take_succ h).2 (.inl (s.fleft h2).1), (s.fleft h2).2⟩, fun h2 x hx => ?_, fun h2 => ?_, fun h2 x hx h3 => ?_⟩
  · obtain ⟨x, hx, h3⟩ := s.fholds.1 h2
    exact ⟨x, (mem_take_succ h).2 (.inl hx), h3⟩
  · rcases (mem_take_succ h).1 hx with h3 | rfl
    · exact s.fholds.2 ⟨x, h3, h2⟩
    · omega
  · rcases (mem_take_succ h).1 hx with h3 | rfl
    · exact s.fnone h2 x h3
    · omega
  · obtain ⟨x, hx, y, hy, r⟩ := s.fsev h2
    exact ⟨x, (mem_take_succ h).2 (.inl hx), y, (mem_take_succ h).2 (.inl hy), r⟩
  · rcases (mem_take_succ h).1 hx with h4 | rfl
    · exact s.fone h2 x h4 h3
    · omega
theorem Scan.step0 {f : Int → Int} {d : List Int} {k : Nat} {left : Int} {holds several : Bool} (s : Scan f d k left holds several) (h : k < d.length) (hz : d[k] ≠ 0) (h1 : lv f d[k] = 0) (b : Bool)
    (hb : b = true ↔ several = true ∨ (left ≠ 0 ∧ left ≠ d[k])) : Scan f d (k + 1) d[k] holds b := by
  refine ⟨⟨fun h2 => ?_, fun ⟨x, hx, h2⟩ => ?_⟩, fun _ => ⟨(mem_take_succ h).2 (.inr rfl), h1⟩, fun h2 => absurd h2 hz, fun h2 => ?_, fun h2 x hx h3 => ?_⟩
  · obtain ⟨x, hx, h3⟩ := s.fholds.1 h2
    exact ⟨x, (mem_take_succ h).2 (.inl hx), h3⟩
  · rcases (mem_take_succ h).1 hx with h3 | rfl
    · exact s.fholds.2 ⟨x, h3, h2⟩
    · omega
  · rcases hb.1 h2 with h3 | ⟨h3, h4⟩
    · obtain ⟨x, hx, y, hy, r⟩ := s.fsev h3
      exact ⟨x, (mem_take_succ h).2 (.inl hx), y, (mem_take_succ h).2 (.inl hy), r⟩
    · exact ⟨left, (mem_take_succ h).2 (.inl (s.fleft h3).1), d[k], (mem_take_succ h).2 (.inr rfl), h4, (s.fleft h3).2, h1⟩
  · rcases (mem_take_succ h).1 hx with h4 | rfl
    · have hs : several = false := by cases several with
        | true => exact absurd (hb.2 (.inl rfl)) (by simp [h2])
        | false => rfl
      have h5 := s.fone hs x h4 h3
      subst h5
      have h6 : ¬ (x ≠ 0 ∧ x ≠ d[k]) := fun h7 => by have := hb.2 (.inr h7); rw [h2] at this; cases this
      by_cases e : x = 0
      · exact absurd h3 (s.fnone e x h4)
      · by_cases e2 : x = d[k]
        · exact e2
        · exact absurd ⟨e, e2⟩ h6
    · rfl

/-- A clause from which nothing follows: it holds already, or two literals are left. -/
def Stuck (f : Int → Int) (d : List Int) : Prop := (∃ x ∈ d, lv f x = 1) ∨ ∃ x ∈ d, ∃ y ∈ d, x ≠ y ∧ lv f x = 0 ∧ lv f y = 0

theorem Scan.stuck {f : Int → Int} {d : List Int} {left : Int} {holds several : Bool} (s : Scan f d d.length left holds several) (h : holds = true ∨ several = true) : Stuck f d := by
  rcases h with h | h
  · obtain ⟨x, hx, h1⟩ := s.fholds.1 h
    exact .inl ⟨x, by simpa using hx, h1⟩
  · obtain ⟨x, hx, y, hy, r⟩ := s.fsev h
    exact .inr ⟨x, by simpa using hx, y, by simpa using hy, r⟩
/-- All literals are told false: it can't hold. -/
theorem Scan.conflict {f : Int → Int} {d : List Int} {several : Bool} (s : Scan f d d.length 0 false several) (ht : Tri f) : ∀ x ∈ d, lv f x = -1 := by
  intro x hx
  have h1 := s.fnone rfl x (by simpa using hx)
  have h2 : lv f x ≠ 1 := fun h => by have := s.fholds.2 ⟨x, by simpa using hx, h⟩; cases this
  have := ht.lv x
  omega
theorem Scan.unit {f : Int → Int} {d : List Int} {left : Int} (s : Scan f d d.length left false false) (hl : left ≠ 0) (ht : Tri f) : left ∈ d ∧ lv f left = 0 ∧ ∀ x ∈ d, x ≠ left → lv f x = -1 := by
  refine ⟨by simpa using (s.fleft hl).1, (s.fleft hl).2, fun x hx hne => ?_⟩
  have h1 : lv f x ≠ 0 := fun h => hne (s.fone rfl x (by simpa using hx) h)
  have h2 : lv f x ≠ 1 := fun h => by have := s.fholds.2 ⟨x, by simpa using hx, h⟩; cases this
  have := ht.lv x
  omega

/-- How many variables are not told. -/
def unset (f : Int → Int) : Nat := ((List.range 24).filter fun i : Nat => decide (f ((i : Int) + 1) = 0)).length
theorem filter_lt {α : Type} {p q : α → Bool} {l : List α} (hpq : ∀ x ∈ l, q x = true → p x = true) {y : α} (hy : y ∈ l) (hp : p y = true) (hq : q y = false) : (l.filter q).length < (l.filter p).length := by
  induction l with
  | nil => cases hy
  | cons z l ih =>
    have hle : (l.filter q).length ≤ (l.filter p).length := by
      clear ih hy
      induction l with
      | nil => simp
      | cons u l ih =>
        have ih := ih (fun x hx => hpq x (by rcases List.mem_cons.1 hx with rfl | hx <;> simp_all))
        have hu := hpq u (by simp)
        simp only [List.filter_cons]
        cases hqu : q u <;> cases hpu : p u <;> simp_all <;> omega
    simp only [List.filter_cons]
    rcases List.mem_cons.1 hy with rfl | hy
    · simp [hp, hq]; omega
    · have ih := ih (fun x hx => hpq x (by simp [hx])) hy
      have hz := hpq z (by simp)
      cases hqz : q z <;> cases hpz : p z <;> simp_all <;> omega
theorem unset_lt {f : Int → Int} {x : Int} (hx : 1 ≤ vr x) (hx2 : vr x ≤ 24) (h0 : f (vr x) = 0) : unset (upd f (vr x) (sgn x)) < unset f := by
  unfold unset
  refine filter_lt (y := (vr x).toNat - 1) (fun i _ h => ?_) (List.mem_range.2 (by omega)) ?_ ?_
  · simp only [decide_eq_true_eq] at h ⊢
    unfold upd at h
    split at h
    · rename_i e; rw [← e]; exact h0
    · exact h
  · simp only [decide_eq_true_eq]
    rw [show (((vr x).toNat - 1 : Nat) : Int) + 1 = vr x from by omega]; exact h0
  · rw [show (((vr x).toNat - 1 : Nat) : Int) + 1 = vr x from by omega]
    simp only [upd, if_true, sgn]
    split <;> rfl
theorem Tri.upd {f : Int → Int} (h : Tri f) (x : Int) : Tri (upd f (vr x) (sgn x)) := by
  intro v
  have := h v
  unfold Proofs.YtheemhelioendaaGreatDoor.upd sgn
  split <;> (try split) <;> omega
theorem lv_zero {f : Int → Int} {x : Int} : lv f x = 0 ↔ f (vr x) = 0 := by unfold lv; split <;> omega

/-- The clause's other sides, as they are told first. -/
structure Denied (f : Int → Int) (c : List Int) (k : Nat) : Prop where
  tri : Tri f
  all : ∀ x ∈ c.take k, lv f x = -1
  only : ∀ v, f v ≠ 0 → ∃ x ∈ c.take k, vr x = v
end Go.Proofs.YtheemhelioendaaGreatDoor
