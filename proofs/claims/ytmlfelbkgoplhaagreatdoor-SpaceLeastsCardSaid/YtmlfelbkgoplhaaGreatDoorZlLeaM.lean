import Derived.Test.YtmlfelbkgoplhaaGreatDoorZlSolP
import Derived.Laws.Bits64b
set_option linter.unusedVariables false
set_option linter.unusedSimpArgs false
namespace Go.Proofs.YtmlfelbkgoplhaaGreatDoor
open Go.RowKit
def zew (a b : zdn) (f : Nat) (ct cf : Int) : zdn :=
 if !a.ok || (b.ok && decide (b.cost + cf < a.cost + ct)) then ⟨b.cost + cf, b.vals, b.ok⟩ else ⟨a.cost + ct, a.vals ||| 2 ^ f, a.ok⟩
theorem zbl (V : Nat) (c : Cells) (cost : Int → Bool → Int) (h : Int) : zC V c cost 0 h = ⟨0, 0, h == 1⟩ := rfl
theorem zgi (V : Nat) (c : Cells) (cost : Int → Bool → Int) (k : Nat) : zC V c cost (k + 1) 0 = ⟨0, 0, false⟩ := by rw [zC, if_pos rfl]
theorem zed {V f k : Nat} (hf : f + (k + 1) = V) (c : Cells) (cost : Int → Bool → Int) {h : Int} (h0 : h ≠ 0) : zC V c cost (k + 1) h = zew (zC V c cost k (atM c h f).2) (zC V c cost k (atM c h f).1) f (cost f true) (cost f false) := by
 have e1 : (V : Int) - ((k + 1 : Nat) : Int) = (f : Int) := by omega
 have e2 : V - (k + 1) = f := by omega
 rw [zC, if_neg h0]
 simp only [e1, e2]
 rfl
structure Fair (cost : Int → Bool → Int) : Prop where
 lo : ∀ v b, 0 ≤ cost v b
 hi : ∀ v b, cost v b ≤ 1000000
theorem qy {V : Nat} (hV : V ≤ 24) {c : Cells} {cost : Int → Bool → Int} (hc : Fair cost) : ∀ (k : Nat) (h : Int), k ≤ V → 0 ≤ (zC V c cost k h).cost ∧ (zC V c cost k h).cost ≤ k * 1000000 ∧ (zC V c cost k h).vals < 2 ^ V
 | 0, h, _ => ⟨Int.le_refl _, by rw [zbl]; simp, by rw [zbl]; exact Nat.two_pow_pos _⟩
 | k + 1, h, hk => by
  by_cases h0 : h = 0
  ·
   subst h0
   rw [zgi]
   exact ⟨Int.le_refl _, by dsimp only; omega, Nat.two_pow_pos _⟩
  ·
   rw [zed (f := V - (k + 1)) (by omega) c cost h0]
   have ha := qy hV (c := c) hc k (atM c h ((V - (k + 1) : Nat) : Int)).2 (by omega)
   have hb := qy hV (c := c) hc k (atM c h ((V - (k + 1) : Nat) : Int)).1 (by omega)
   generalize zC V c cost k (atM c h ((V - (k + 1) : Nat) : Int)).2 = a at ha ⊢
   generalize zC V c cost k (atM c h ((V - (k + 1) : Nat) : Int)).1 = b at hb ⊢
   have t1 := hc.lo ((V - (k + 1) : Nat) : Int) true; have t2 := hc.hi ((V - (k + 1) : Nat) : Int) true
   have t3 := hc.lo ((V - (k + 1) : Nat) : Int) false; have t4 := hc.hi ((V - (k + 1) : Nat) : Int) false
   unfold zew
   split
   · exact ⟨by dsimp only; omega, by dsimp only; omega, hb.2.2⟩
   · exact ⟨by dsimp only; omega, by dsimp only; omega, Nat.or_lt_two_pow ha.2.2 (Nat.pow_lt_pow_right (by decide) (by omega))⟩
theorem powW : ∀ M < 24, IntKind.u64.wrap ((2 : Int) ^ M) = ((2 ^ M : Nat) : Int) ∧ 2 ^ M < 16777216 := by decide
theorem orW {x M : Nat} (hx : x < 16777216) (hM : M < 24) : bits .or .u64 (x : Int) (IntKind.u64.wrap ((2 : Int) ^ M)) = ((x ||| 2 ^ M : Nat) : Int) := by
 obtain ⟨h1, h2⟩ := powW M hM
 rw [h1, bits_or_u64_nat _ _ (by omega) (by omega)]
