import Derived.Test.YtmlfelbkgoplhaaGreatDoorZwPkZ
set_option linter.unusedVariables false
set_option linter.unusedSimpArgs false
namespace Go.Proofs.YtmlfelbkgoplhaaGreatDoor
open Go.RowKit
def zeA : Nat → Cells → Int → Bool → Int → Bool
 | 0, _, _, _, _ => false
 | f + 1, c, v, is, h => match getM c h with
  | none => h == 1
  | some n => ((decide (n.1 ≠ v) || is) && zeA f c v is n.2.2) || ((decide (n.1 ≠ v) || !is) && zeA f c v is n.2.1)
def qW (c : Cells) (v : Int) (is : Bool) (h : Int) : Bool := zeA 25 c v is h
theorem zdT {f : Nat} {c : Cells} {v : Int} {is : Bool} {h : Int} (e : getM c h = none) : zeA (f + 1) c v is h = (h == 1) := by simp only [zeA, e]
theorem zea {f : Nat} {c : Cells} {v : Int} {is : Bool} {h : Int} {n : Nd} (e : getM c h = some n) : zeA (f + 1) c v is h = (((decide (n.1 ≠ v) || is) && zeA f c v is n.2.2) || ((decide (n.1 ≠ v) || !is) && zeA f c v is n.2.1)) := by simp only [zeA, e]
theorem zcs {c : Cells} (o : Ok c) (v : Int) (is : Bool) : ∀ (f g : Nat) (h : Int), (24 - zm c h).toNat < f → f ≤ g → zeA f c v is h = zeA g c v is h
 | 0, _, _, h1, _ => absurd h1 (Nat.not_lt_zero _)
 | f + 1, 0, _, _, h2 => absurd h2 (by omega)
 | f + 1, g + 1, h, h1, h2 => by
  cases e : getM c h with
  | none => rw [zdT e, zdT e]
  | some n =>
   obtain ⟨k1, k2, _, _, k3, k4⟩ := o.kids e
   rw [yh e] at h1
   rw [zea e, zea e, zcs o v is f g n.2.1 (by omega) (by omega), zcs o v is f g n.2.2 (by omega) (by omega)]
theorem ziY {c : Cells} {v : Int} {is : Bool} {h : Int} (e : getM c h = none) : qW c v is h = (h == 1) := zdT (f := 24) e
theorem zgE {c : Cells} (o : Ok c) {v : Int} {is : Bool} {h : Int} {n : Nd} (e : getM c h = some n) : qW c v is h = (((decide (n.1 ≠ v) || is) && qW c v is n.2.2) || ((decide (n.1 ≠ v) || !is) && qW c v is n.2.1)) := by
 obtain ⟨k1, k2, _, _, k3, k4⟩ := o.kids e
 show zeA (24 + 1) c v is h = _
 rw [zea e, zcs o v is 24 25 n.2.1 (by omega) (by omega), zcs o v is 24 25 n.2.2 (by omega) (by omega)]
 rfl
theorem zm2 {c : Cells} (o : Ok c) (v : Int) (is : Bool) : ∀ h, qW c v is h = true ↔ ∃ val, val v = is ∧ den c h val = true := by
 refine zdg o (fun h g => ?_) (fun h n g ih1 ih2 => ?_)
 ·
  rw [ziY g]
  constructor
  ·
   intro e
   exact ⟨fun _ => is, rfl, by rw [xH g]; exact e⟩
  ·
   rintro ⟨val, _, e⟩
   rw [xH g] at e
   exact e
 ·
  rw [zgE o g, Bool.or_eq_true, Bool.and_eq_true, Bool.and_eq_true, ih1, ih2]
  constructor
  ·
   rintro (⟨h1, val, h2, h3⟩ | ⟨h1, val, h2, h3⟩)
   ·
    refine ⟨yI val n.1 true, ?_, by rw [zaW o g]; exact h3⟩
    unfold yI
    by_cases e : v = n.1
    ·
     rw [if_pos e]
     rw [decide_eq_false (fun q => q e.symm), Bool.false_or] at h1
     exact h1.symm
    · rw [if_neg e]; exact h2
   ·
    refine ⟨yI val n.1 false, ?_, by rw [zcl o g]; exact h3⟩
    unfold yI
    by_cases e : v = n.1
    ·
     rw [if_pos e]
     rw [decide_eq_false (fun q => q e.symm), Bool.false_or] at h1
     cases is with
     | false => rfl
     | true => cases h1
    · rw [if_neg e]; exact h2
  ·
   rintro ⟨val, h1, h2⟩
   rw [qm o g] at h2
   cases e : val n.1 with
   | true =>
    rw [e] at h2
    refine .inl ⟨?_, val, h1, by simpa using h2⟩
    by_cases q : n.1 = v
    · rw [q] at e; rw [← h1, e]; simp
    · rw [decide_eq_true q]; rfl
   | false =>
    rw [e] at h2
    refine .inr ⟨?_, val, h1, by simpa using h2⟩
    by_cases q : n.1 = v
    · rw [q] at e; rw [← h1, e]; simp
    · rw [decide_eq_true q]; rfl
theorem zou {V : Nat} {l : List (List Int)} (hz : ∀ c ∈ l, ∀ x ∈ c, x ≠ 0 ∧ -(V : Int) ≤ x ∧ x ≤ V) {v : Nat} (hv : v < V) (is : Bool) : (∃ val : Int → Bool, val v = is ∧ zbk l val = true) ↔ zfB (l ++ [[if is then (v : Int) + 1 else -(v : Int) - 1]]) := by
 have hB : ∀ k, zbk l (zeC k) = jD k l := fun k => zmz fun c hc x hx => (hz c hc x hx).1
 have hl : ∀ k : Nat, jD k [[if is then (v : Int) + 1 else -(v : Int) - 1]] = (k.testBit v == is) := fun k => by
  cases is with
  | true =>
   have e1 : (0 : Int) < (v : Int) + 1 := by omega
   have e3 : ((v : Int) + 1).toNat - 1 = v := by omega
   show (([((v : Int) + 1)].any (j6 k)) && true) = _
   rw [List.any_cons, List.any_nil, Bool.or_false, Bool.and_true, j6, if_pos e1, e3]
   cases k.testBit v <;> rfl
  | false =>
   have e1 : ¬ (0 : Int) < -(v : Int) - 1 := by omega
   have e2 : (-(v : Int) - 1) < 0 := by omega
   have e3 : (-(-(v : Int) - 1)).toNat - 1 = v := by omega
   show (([(-(v : Int) - 1)].any (j6 k)) && true) = _
   rw [List.any_cons, List.any_nil, Bool.or_false, Bool.and_true, j6, if_neg e1, decide_eq_true e2, Bool.true_and, e3]
   cases k.testBit v <;> rfl
 constructor
 ·
  rintro ⟨val, h1, h2⟩
  obtain ⟨k, _, hk⟩ := zhm (fun j => val (j : Int)) V
  refine ⟨k, ?_⟩
  unfold jD
  rw [List.all_append, Bool.and_eq_true]
  refine ⟨?_, ?_⟩
  ·
   show jD k l = true
   rw [← hB, ← h2]
   refine zfv hz (fun u h0 h1 => ?_)
   unfold zeC
   rw [decide_eq_true h0, Bool.true_and, hk u.toNat (by omega), show ((u.toNat : Nat) : Int) = u by omega]
  ·
   show jD k _ = true
   rw [hl, hk v hv, h1]; simp
 ·
  rintro ⟨k, hk⟩
  unfold jD at hk
  rw [List.all_append, Bool.and_eq_true] at hk
  have h1 : jD k l = true := hk.1
  have h2 : jD k [[if is then (v : Int) + 1 else -(v : Int) - 1]] = true := hk.2
  rw [hl] at h2
  exact ⟨zeC k, by unfold zeC; rw [Int.toNat_natCast, decide_eq_true (show (0 : Int) ≤ (v : Int) by omega), Bool.true_and]; simpa using h2, by rw [hB]; exact h1⟩
