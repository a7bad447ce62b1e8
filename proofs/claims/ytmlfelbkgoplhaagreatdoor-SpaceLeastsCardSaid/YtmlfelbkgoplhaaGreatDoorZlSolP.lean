import Derived.Test.YtmlfelbkgoplhaaGreatDoorZlSolL
set_option linter.unusedVariables false
set_option linter.unusedSimpArgs false
namespace Go.Proofs.YtmlfelbkgoplhaaGreatDoor
open Go.RowKit
def zY (cost : Int → Bool → Int) (val : Int → Bool) : Nat → Int
 | 0 => 0
 | n + 1 => zY cost val n + cost n (val n)
theorem zd0 {V : Nat} (cost : Int → Bool → Int) (val : Int → Bool) : ∀ n, n ≤ V → zY cost val n + xB V cost (V - n) val = xB V cost V val
 | 0, _ => by rw [zY, Nat.sub_zero, Int.zero_add]
 | n + 1, h => by
  have ih := zd0 (V := V) cost val n (by omega)
  have e : V - n = (V - (n + 1)) + 1 := by omega
  have e2 : (V : Int) - ((V - (n + 1) + 1 : Nat) : Int) = (n : Int) := by omega
  rw [e, xB, e2] at ih
  rw [zY]
  omega
theorem zgj {V : Nat} (cost : Int → Bool → Int) (val : Int → Bool) : zY cost val V = xB V cost V val := by
 have := zd0 (V := V) cost val V (znr _)
 rw [Nat.sub_self, xB, Int.add_zero] at this
 exact this
theorem jy {V : Nat} (hV : V ≤ 24) {s : Sp} (so : SOk V s) {h : Int} (hh : zy s.c h = true) (cost : Int → Bool → Int) {x : Nat} (hx : den s.c h (zU x) = true) :
 (zC V s.c cost V h).ok = true ∧ zY cost (zU (zC V s.c cost V h).vals) V ≤ zY cost (zU x) V := by
 have k := kR hV so cost V h (znr _) hh (by have := (so.ok.yI h).1; omega)
 have hk : (zC V s.c cost V h).ok = true := by
  cases e : (zC V s.c cost V h).ok with
  | true => rfl
  | false => rw [k.no e] at hx; cases hx
 refine ⟨hk, ?_⟩
 rw [zgj, zgj, ← k.price hk]
 exact k.least hk _ hx
theorem zfj {V : Nat} (hV : V ≤ 24) {s : Sp} (so : SOk V s) {h : Int} (hh : zy s.c h = true) (cost : Int → Bool → Int) : (zC V s.c cost V h).ok = true ↔ ∃ val, den s.c h val = true := by
 have k := kR hV so cost V h (znr _) hh (by have := (so.ok.yI h).1; omega)
 constructor
 · intro e; exact ⟨_, k.den e⟩
 ·
  rintro ⟨val, hv⟩
  cases e : (zC V s.c cost V h).ok with
  | true => rfl
  | false => rw [k.no e] at hv; cases hv
theorem zgx {cost : Int → Bool → Int} {val : Int → Bool} (h : ∀ v b, 0 ≤ cost v b) : ∀ n, 0 ≤ zY cost val n
 | 0 => Int.le_refl _
 | n + 1 => by have := zgx (val := val) h n; have := h n (val n); rw [zY]; omega
theorem ze8 {cost : Int → Bool → Int} {val : Int → Bool} (h : ∀ v b, 0 ≤ cost v b) : ∀ n, zY cost val n ≤ 0 → ∀ j : Nat, j < n → cost j (val j) = 0
 | 0, _, j, hj => absurd hj (Nat.not_lt_zero _)
 | n + 1, hs, j, hj => by
  have h1 := zgx (val := val) h n
  have h2 := h n (val n)
  rw [zY] at hs
  rcases Nat.lt_or_ge j n with q | q
  · exact ze8 h n (by omega) j q
  ·
   have : j = n := by omega
   subst this
   omega
def qb (now : Nat) (v : Int) (is : Bool) : Int := if zU now v != is then 1 else 0
theorem ziC (now : Nat) (v : Int) (b : Bool) : 0 ≤ qb now v b := by unfold qb; split <;> omega
theorem zgr (now : Nat) : ∀ n, zY (qb now) (zU now) n = 0
 | 0 => rfl
 | n + 1 => by rw [zY, zgr now n]; unfold qb; simp
theorem zl0 {V : Nat} (hV : V ≤ 24) {s : Sp} (so : SOk V s) {h : Int} (hh : zy s.c h = true) {x : Nat} (hx : den s.c h (zU x) = true) (hxl : x < 2 ^ V) : (zC V s.c (qb x) V h).vals = x := by
 have k := kR hV so (qb x) V h (znr _) hh (by have := (so.ok.yI h).1; omega)
 obtain ⟨hk, h1⟩ := jy hV so hh (qb x) hx
 rw [zgr] at h1
 have hz := ze8 (ziC x) V h1
 have hlow := k.low
 generalize (zC V s.c (qb x) V h).vals = y at hz hlow ⊢
 refine Nat.eq_of_testBit_eq fun j => ?_
 rcases Nat.lt_or_ge j V with q | q
 ·
  have := hz j q
  unfold qb zU at this
  rw [decide_eq_true (show (0 : Int) ≤ (j : Int) by omega), Int.toNat_natCast, Bool.true_and, Bool.true_and] at this
  cases e1 : x.testBit j <;> cases e2 : y.testBit j
  · rfl
  · rw [e1, e2] at this; cases this
  · rw [e1, e2] at this; cases this
  · rfl
 ·
  rw [Nat.testBit_lt_two_pow (Nat.lt_of_lt_of_le hxl (Nat.pow_le_pow_right (by decide) q))]
  cases e : y.testBit j with
  | false => rfl
  | true => have := (hlow j e).2; omega
