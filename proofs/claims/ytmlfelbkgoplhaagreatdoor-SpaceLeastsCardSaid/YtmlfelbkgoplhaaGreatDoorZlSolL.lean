import Derived.Test.YtmlfelbkgoplhaaGreatDoorZlSolF
set_option linter.unusedVariables false
set_option linter.unusedSimpArgs false
namespace Go.Proofs.YtmlfelbkgoplhaaGreatDoor
open Go.RowKit
def xB (V : Int) (cost : Int → Bool → Int) : Nat → (Int → Bool) → Int
 | 0, _ => 0
 | k + 1, val => xB V cost k val + cost (V - (k + 1 : Nat)) (val (V - (k + 1 : Nat)))
theorem zc5 {V : Int} {cost : Int → Bool → Int} : ∀ {k : Nat} {a b : Int → Bool}, (∀ u, V - k ≤ u → u < V → a u = b u) → xB V cost k a = xB V cost k b
 | 0, _, _, _ => rfl
 | k + 1, a, b, h => by
  rw [xB, xB, zc5 (a := a) (b := b) (fun u h1 h2 => h u (by omega) h2), h (V - (k + 1 : Nat)) (Int.le_refl _) (by omega)]
structure zdn where
 cost : Int
 vals : Nat
 ok : Bool
def zC (V : Nat) (c : Cells) (cost : Int → Bool → Int) : Nat → Int → zdn
 | 0, h => ⟨0, 0, h == 1⟩
 | k + 1, h =>
  if h = 0 then ⟨0, 0, false⟩ else
  let r := atM c h ((V : Int) - (k + 1 : Nat))
  let a := zC V c cost k r.2
  let b := zC V c cost k r.1
  let a' : zdn := ⟨a.cost + cost ((V : Int) - (k + 1 : Nat)) true, a.vals ||| 2 ^ (V - (k + 1)), a.ok⟩
  let b' : zdn := ⟨b.cost + cost ((V : Int) - (k + 1 : Nat)) false, b.vals, b.ok⟩
  if !a'.ok || (b'.ok && decide (b'.cost < a'.cost)) then b' else a'
structure WayOk (V : Nat) (c : Cells) (cost : Int → Bool → Int) (k : Nat) (h : Int) (w : zdn) : Prop where
 no : w.ok = false → ∀ val, den c h val = false
 den : w.ok = true → den c h (zU w.vals) = true
 price : w.ok = true → w.cost = xB V cost k (zU w.vals)
 low : ∀ j, w.vals.testBit j = true → V - k ≤ j ∧ j < V
 least : w.ok = true → ∀ val, Go.Proofs.YtmlfelbkgoplhaaGreatDoor.den c h val = true → w.cost ≤ xB V cost k val
theorem zoT {V : Nat} {s : Sp} (so : SOk V s) {h : Int} (ht : (V : Int) ≤ zi s.c h) : getM s.c h = none := by
 cases g : getM s.c h with
 | none => rfl
 | some n =>
  rw [yg g] at ht
  obtain ⟨j, rfl, hj, _⟩ := getM_some g
  have := so.vlt j n hj
  omega
theorem kR {V : Nat} (hV : V ≤ 24) {s : Sp} (so : SOk V s) (cost : Int → Bool → Int) : ∀ (k : Nat) (h : Int), k ≤ V → zy s.c h = true → (V : Int) - k ≤ zi s.c h → WayOk V s.c cost k h (zC V s.c cost k h)
 | 0, h, _, hh, ht => by
  have g := zoT so (h := h) (by omega)
  have hd : ∀ val, den s.c h val = (h == 1) := fun val => xq g val
  refine ⟨fun e val => ?_, fun e => ?_, fun _ => rfl, fun j hj => ?_, fun _ _ _ => Int.le_refl _⟩
  · rw [hd]; exact e
  · rw [hd]; exact e
  · rw [zC] at hj; simp at hj
 | k + 1, h, hk, hh, ht => by
  by_cases h0 : h = 0
  ·
   subst h0
   rw [zC, if_pos rfl]
   exact ⟨fun _ val => zaJ _ val, fun e => (by cases e), fun e => (by cases e), fun j hj => (by simp at hj), fun e => (by cases e)⟩
  ·
   obtain ⟨v, hv⟩ : ∃ v : Nat, v = V - (k + 1) := ⟨_, rfl⟩
   have hvi : (V : Int) - (k + 1 : Nat) = (v : Int) := by omega
   have A := jF so.ok hh (v := (v : Int)) (by omega) (by omega)
   have ha := kR hV so cost k (atM s.c h v).2 (by omega) A.jJ (by have := A.zfX; omega)
   have hb := kR hV so cost k (atM s.c h v).1 (by omega) A.zb1 (by have := A.zfT; omega)
   rw [zC, if_neg h0]
   simp only [hvi, ← hv]
   generalize zC V s.c cost k (atM s.c h v).2 = a at ha ⊢
   generalize zC V s.c cost k (atM s.c h v).1 = b at hb ⊢
   have hva : a.vals.testBit v = false := by
    cases e : a.vals.testBit v with
    | false => rfl
    | true => have := (ha.low v e).1; omega
   have hvb : b.vals.testBit v = false := by
    cases e : b.vals.testBit v with
    | false => rfl
    | true => have := (hb.low v e).1; omega
   have vv : ∀ x : Nat, zU x v = x.testBit v := fun x => by unfold zU; rw [decide_eq_true (show (0 : Int) ≤ (v : Int) by omega), Bool.true_and, Int.toNat_natCast]
   have sa : yG (zU a.vals) v true = zU (a.vals ||| 2 ^ v) := funext fun u => by
    unfold yG zU
    by_cases e : u = v
    · rw [if_pos e, e, decide_eq_true (show (0 : Int) ≤ (v : Int) by omega), Nat.testBit_or, Nat.testBit_two_pow, Int.toNat_natCast, decide_eq_true rfl, Bool.or_true]; rfl
    ·
     rw [if_neg e]
     by_cases h0 : 0 ≤ u
     · rw [Nat.testBit_or, Nat.testBit_two_pow, decide_eq_false (show ¬ v = u.toNat by omega), Bool.or_false]
     · rw [decide_eq_false h0]; rfl
   have sb : yG (zU b.vals) v false = zU b.vals := by
    have := zaL (zU b.vals) v
    rw [vv, hvb] at this
    exact this
   have fa : ∀ val, den s.c (atM s.c h v).2 val = den s.c h (yG val v true) := A.den2
   have fb : ∀ val, den s.c (atM s.c h v).1 val = den s.c h (yG val v false) := A.den1
   have sp : ∀ val, xB V cost (k + 1) val = xB V cost k val + cost v (val v) := fun val => by rw [xB, hvi]
   have pa : xB V cost (k + 1) (zU (a.vals ||| 2 ^ v)) = xB V cost k (zU a.vals) + cost v true := by
    rw [sp, ← sa]
    congr 1
    · exact zc5 fun u h1 h2 => by unfold yG; rw [if_neg (by omega)]
    · unfold yG; rw [if_pos rfl]
   have pb : xB V cost (k + 1) (zU b.vals) = xB V cost k (zU b.vals) + cost v false := by rw [sp, vv, hvb]
   have wa : a.ok = true → den s.c h (zU (a.vals ||| 2 ^ v)) = true := fun e => by rw [← sa, ← fa]; exact ha.den e
   have wb : b.ok = true → den s.c h (zU b.vals) = true := fun e => by rw [← sb, ← fb]; exact hb.den e
   have la : ∀ val, val v = true → den s.c h val = true → a.ok = true ∧ a.cost + cost v true ≤ xB V cost (k + 1) val := fun val h1 h2 => by
    have h3 : den s.c (atM s.c h v).2 val = true := by have h0 := zaL val v; rw [h1] at h0; rw [fa, h0]; exact h2
    have h4 : a.ok = true := by
     cases e : a.ok with
     | true => rfl
     | false => rw [ha.no e] at h3; cases h3
    have := ha.least h4 val h3
    rw [sp, h1]
    exact ⟨h4, by omega⟩
   have lb : ∀ val, val v = false → den s.c h val = true → b.ok = true ∧ b.cost + cost v false ≤ xB V cost (k + 1) val := fun val h1 h2 => by
    have h3 : den s.c (atM s.c h v).1 val = true := by have h0 := zaL val v; rw [h1] at h0; rw [fb, h0]; exact h2
    have h4 : b.ok = true := by
     cases e : b.ok with
     | true => rfl
     | false => rw [hb.no e] at h3; cases h3
    have := hb.least h4 val h3
    rw [sp, h1]
    exact ⟨h4, by omega⟩
   by_cases hc : (!a.ok || (b.ok && decide (b.cost + cost v false < a.cost + cost v true))) = true
   ·
    rw [if_pos hc]
    refine ⟨fun e val => ?_, wb, fun e => ?_, fun j hj => ?_, fun e val hd => ?_⟩
    ·
     cases e2 : den s.c h val with
     | false => rfl
     | true =>
      have e' : b.ok = false := e
      rw [e', Bool.false_and, Bool.or_false] at hc
      cases e3 : val v with
      | true => rw [(la val e3 e2).1] at hc; cases hc
      | false => have := (lb val e3 e2).1; rw [e'] at this; cases this
    · rw [pb, ← hb.price e]
    · have := hb.low j hj; omega
    ·
     cases e3 : val v with
     | false => exact (lb val e3 hd).2
     | true =>
      obtain ⟨h1, h2⟩ := la val e3 hd
      have e' : b.ok = true := e
      rw [h1, e', Bool.true_and, Bool.not_true, Bool.false_or, decide_eq_true_iff] at hc
      show b.cost + cost v false ≤ _
      omega
   ·
    rw [if_neg hc]
    have hc' : (!a.ok || (b.ok && decide (b.cost + cost v false < a.cost + cost v true))) = false := by simpa using hc
    rw [Bool.or_eq_false_iff] at hc'
    have hao : a.ok = true := by simpa using hc'.1
    refine ⟨fun e => ?_, wa, fun e => ?_, fun j hj => ?_, fun e val hd => ?_⟩
    ·
     have e' : a.ok = false := e
     rw [hao] at e'; cases e'
    · rw [pa, ← ha.price e]
    ·
     have hj' : (a.vals ||| 2 ^ v).testBit j = true := hj
     rw [Nat.testBit_or, Nat.testBit_two_pow, Bool.or_eq_true, decide_eq_true_iff] at hj'
     rcases hj' with q | q
     · have := ha.low j q; omega
     · omega
    ·
     cases e3 : val v with
     | true => exact (la val e3 hd).2
     | false =>
      obtain ⟨h1, h2⟩ := lb val e3 hd
      have h3 := hc'.2
      rw [h1, Bool.true_and, decide_eq_false_iff_not] at h3
      show a.cost + cost v true ≤ _
      omega
