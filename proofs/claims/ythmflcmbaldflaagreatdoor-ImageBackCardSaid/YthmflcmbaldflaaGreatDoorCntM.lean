/- Plain law: of how many values a handle is true. No program in sight. -/
import Derived.Test.YthmflcmbaldflaaGreatDoorIpA
namespace Go.Proofs.YthmflcmbaldflaaGreatDoor
set_option linter.unusedVariables false

abbrev FnB := (Int → Bool) → Bool
def oneIf (b : Bool) : Nat := if b then 1 else 0
/-- Of how many values of the last k of V variables it is true. -/
def sumS (V : Int) : Nat → FnB → (Int → Bool) → Nat
  | 0, D, val => oneIf (D val)
  | k + 1, D, val => sumS V k D (setV val (V - (k + 1 : Nat)) false) + sumS V k D (setV val (V - (k + 1 : Nat)) true)
theorem sumS_congr {V : Int} : ∀ (k : Nat) (D D' : FnB) (val : Int → Bool), (∀ val', (∀ u, u < V - k → val' u = val u) → D val' = D' val') → sumS V k D val = sumS V k D' val
  | 0, D, D', val, h => by rw [sumS, sumS, h val (fun _ _ => rfl)]
  | k + 1, D, D', val, h => by
    have key : ∀ b, sumS V k D (setV val (V - (k + 1 : Nat)) b) = sumS V k D' (setV val (V - (k + 1 : Nat)) b) := fun b => sumS_congr k D D' _ (fun val' hv => h val' (fun u hu => by
      rw [hv u (by omega)]; unfold setV; rw [if_neg (by omega)]))
    rw [sumS, sumS, key, key]
theorem sumS_le {V : Int} : ∀ (k : Nat) (D : FnB) (val : Int → Bool), sumS V k D val ≤ 2 ^ k
  | 0, D, val => by unfold sumS oneIf; split <;> simp
  | k + 1, D, val => by
    have h1 := sumS_le (V := V) k D (setV val (V - (k + 1 : Nat)) false)
    have h2 := sumS_le (V := V) k D (setV val (V - (k + 1 : Nat)) true)
    rw [sumS, Nat.pow_succ]; omega
theorem sumS_add {V : Int} (D1 D2 D3 D4 : FnB) (h : ∀ val, oneIf (D1 val) + oneIf (D2 val) = oneIf (D3 val) + oneIf (D4 val)) : ∀ (k : Nat) (val : Int → Bool), sumS V k D1 val + sumS V k D2 val = sumS V k D3 val + sumS V k D4 val
  | 0, val => h val
  | k + 1, val => by
    have h1 := sumS_add (V := V) D1 D2 D3 D4 h k (setV val (V - (k + 1 : Nat)) false)
    have h2 := sumS_add (V := V) D1 D2 D3 D4 h k (setV val (V - (k + 1 : Nat)) true)
    simp only [sumS]; omega
theorem sumS_not {V : Int} (D1 D2 : FnB) (h : ∀ val, oneIf (D1 val) + oneIf (D2 val) = 1) : ∀ (k : Nat) (val : Int → Bool), sumS V k D1 val + sumS V k D2 val = 2 ^ k
  | 0, val => h val
  | k + 1, val => by
    have h1 := sumS_not (V := V) D1 D2 h k (setV val (V - (k + 1 : Nat)) false)
    have h2 := sumS_not (V := V) D1 D2 h k (setV val (V - (k + 1 : Nat)) true)
    simp only [sumS, Nat.pow_succ]; omega

/-- Where a handle begins, no later than behind the last variable. -/
def cutT (V : Int) (c : Cells) (h : Int) : Int := min (topM c h) V
def cntH (V : Int) : Nat → Cells → Int → Nat
  | 0, _, _ => 0
  | f + 1, c, h => match getM c h with
    | none => h.toNat
    | some n => cntH V f c n.2.1 * 2 ^ (cutT V c n.2.1 - n.1 - 1).toNat + cntH V f c n.2.2 * 2 ^ (cutT V c n.2.2 - n.1 - 1).toNat
def cntX (V : Int) (c : Cells) (h : Int) : Nat := cntH V 25 c h
theorem cntH_none {V : Int} {f : Nat} {c : Cells} {h : Int} (e : getM c h = none) : cntH V (f + 1) c h = h.toNat := by simp only [cntH, e]
theorem cntH_some {V : Int} {f : Nat} {c : Cells} {h : Int} {n : Nd} (e : getM c h = some n) : cntH V (f + 1) c h = cntH V f c n.2.1 * 2 ^ (cutT V c n.2.1 - n.1 - 1).toNat + cntH V f c n.2.2 * 2 ^ (cutT V c n.2.2 - n.1 - 1).toNat := by simp only [cntH, e]
theorem cntH_more {V : Int} {c : Cells} (o : Ok c) : ∀ (f g : Nat) (h : Int), (24 - topM c h).toNat < f → f ≤ g → cntH V f c h = cntH V g c h
  | 0, _, _, h1, _ => absurd h1 (Nat.not_lt_zero _)
  | f + 1, 0, _, _, h2 => absurd h2 (by omega)
  | f + 1, g + 1, h, h1, h2 => by
    cases e : getM c h with
    | none => rw [cntH_none e, cntH_none e]
    | some n =>
      obtain ⟨k1, k2, _, _, k3, k4⟩ := o.kids e
      rw [top_node e] at h1
      rw [cntH_some e, cntH_some e, cntH_more o f g n.2.1 (by omega) (by omega), cntH_more o f g n.2.2 (by omega) (by omega)]
theorem cnt_node {V : Int} {c : Cells} (o : Ok c) {h : Int} {n : Nd} (e : getM c h = some n) : cntX V c h = cntX V c n.2.1 * 2 ^ (cutT V c n.2.1 - n.1 - 1).toNat + cntX V c n.2.2 * 2 ^ (cutT V c n.2.2 - n.1 - 1).toNat := by
  obtain ⟨k1, k2, _, _, k3, k4⟩ := o.kids e
  show cntH V (24 + 1) c h = cntH V 25 c n.2.1 * _ + cntH V 25 c n.2.2 * _
  rw [cntH_some e, cntH_more o 24 25 n.2.1 (by omega) (by omega), cntH_more o 24 25 n.2.2 (by omega) (by omega)]
theorem cnt_end {V : Int} {c : Cells} {h : Int} (e : getM c h = none) : cntX V c h = h.toNat := cntH_none (f := 24) e

/-- What is counted is of how many values it is true. -/
theorem sum_cnt {V : Int} {c : Cells} (hV : V ≤ 24) (o : COk V c) : ∀ (k : Nat) (h : Int) (val : Int → Bool), hasM c h = true → V - k ≤ cutT V c h → sumS V k (den c h) val = cntX V c h * 2 ^ (cutT V c h - (V - k)).toNat
  | 0, h, val, hh, hc => by
    have e : getM c h = none := by
      cases g : getM c h with
      | none => rfl
      | some n =>
        obtain ⟨j, rfl, h1, _⟩ := getM_some g
        have := o.vlt j n h1
        have := top_node g
        unfold cutT at hc; omega
    have hct : (cutT V c h - (V - (0 : Nat))).toNat = 0 := by unfold cutT; omega
    rw [sumS, den_end e, cnt_end e, hct]
    rcases getM_none_of_has hh e with rfl | rfl <;> rfl
  | k + 1, h, val, hh, hc => by
    by_cases he : cutT V c h = V - (k + 1 : Nat)
    · have ht : topM c h = V - (k + 1 : Nat) := by unfold cutT at he; omega
      cases g : getM c h with
      | none => have := top_end g; omega
      | some n =>
        obtain ⟨b1, b2, k1, k2, k3, k4⟩ := o.ok.kids g
        have h1 := top_node g
        have hn : n.1 = V - (k + 1 : Nat) := by omega
        have lo := sum_cnt hV o k n.2.1 (setV val n.1 false) k1 (by unfold cutT; omega)
        have hi := sum_cnt hV o k n.2.2 (setV val n.1 true) k2 (by unfold cutT; omega)
        have c1 : sumS V k (den c h) (setV val n.1 false) = sumS V k (den c n.2.1) (setV val n.1 false) := sumS_congr k _ _ _ (fun val' hv => by
          rw [den_node o.ok g, hv n.1 (by omega)]; simp [setV])
        have c2 : sumS V k (den c h) (setV val n.1 true) = sumS V k (den c n.2.2) (setV val n.1 true) := sumS_congr k _ _ _ (fun val' hv => by
          rw [den_node o.ok g, hv n.1 (by omega)]; simp [setV])
        rw [sumS, ← hn, c1, c2, lo, hi, cnt_node o.ok g, show (cutT V c h - n.1).toNat = 0 by omega, Nat.pow_zero, Nat.mul_one,
          show cutT V c n.2.1 - (V - (k : Nat)) = cutT V c n.2.1 - n.1 - 1 by omega, show cutT V c n.2.2 - (V - (k : Nat)) = cutT V c n.2.2 - n.1 - 1 by omega]
    · have i1 := sum_cnt hV o k h (setV val (V - (k + 1 : Nat)) false) hh (by omega)
      have i2 := sum_cnt hV o k h (setV val (V - (k + 1 : Nat)) true) hh (by omega)
      rw [sumS, i1, i2, ← Nat.mul_add]
      congr 1
      rw [show (cutT V c h - (V - (k + 1 : Nat))).toNat = (cutT V c h - (V - (k : Nat))).toNat + 1 by omega, Nat.pow_succ]; omega
theorem cnt_all {V : Nat} {c : Cells} (hV : V ≤ 24) (o : COk V c) {h : Int} (hh : hasM c h = true) (val : Int → Bool) : cntX V c h * 2 ^ (cutT V c h).toNat = sumS V V (den c h) val := by
  have t := (o.ok.top_pos h).1
  rw [sum_cnt (by omega) o V h val hh (by unfold cutT; omega), show cutT V c h - ((V : Int) - (V : Nat)) = cutT V c h by omega]
theorem cnt_bound {V : Nat} {c : Cells} (hV : V ≤ 24) (o : COk V c) {h : Int} (hh : hasM c h = true) : cntX V c h * 2 ^ (cutT V c h).toNat ≤ 2 ^ 24 := by
  rw [cnt_all hV o hh (fun _ => false)]
  exact Nat.le_trans (sumS_le _ _ _) (Nat.pow_le_pow_right (by decide) hV)
end Go.Proofs.YthmflcmbaldflaaGreatDoor
