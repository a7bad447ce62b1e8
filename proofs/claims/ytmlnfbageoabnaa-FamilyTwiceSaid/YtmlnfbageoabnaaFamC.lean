/- Plain law: of nodes of the last three things there are at most 256. No program in sight. -/
import Derived.Test.YtmlnfbageoabnaaFamM
namespace Go.Proofs.Ytmlnfbageoabnaa
set_option linter.unusedVariables false

theorem pigeon : ∀ (n : Nat) (l : List Nat), l.Nodup → (∀ x ∈ l, x < n) → l.length ≤ n
  | 0, l, _, h => by
    cases l with
    | nil => exact Nat.le_refl _
    | cons x l => exact absurd (h x (by simp)) (Nat.not_lt_zero _)
  | n + 1, l, hd, h => by
    by_cases hm : n ∈ l
    · have h1 := pigeon n (l.erase n) (hd.erase n) (fun x hx => by
        have h2 := h x (List.mem_of_mem_erase hx)
        have h3 : x ≠ n := fun e => by subst e; exact hd.not_mem_erase hx
        omega)
      rw [List.length_erase_of_mem hm] at h1
      omega
    · have h1 := pigeon n l hd (fun x hx => by
        have h2 := h x hx
        have h3 : x ≠ n := fun e => hm (e ▸ hx)
        omega)
      omega
def code (f : Nat → Bool) : Nat → Nat
  | 0 => 0
  | j + 1 => 2 * code f j + (f j).toNat
theorem code_lt (f : Nat → Bool) : ∀ m, code f m < 2 ^ m
  | 0 => by simp [code]
  | m + 1 => by
    have h1 := code_lt f m
    have h2 : (f m).toNat ≤ 1 := Bool.toNat_le _
    rw [code, Nat.pow_succ]; omega
theorem code_inj (f g : Nat → Bool) : ∀ m, code f m = code g m → ∀ j, j < m → f j = g j
  | 0, _, j, hj => absurd hj (Nat.not_lt_zero _)
  | m + 1, e, j, hj => by
    rw [code, code] at e
    have h1 : (f m).toNat ≤ 1 := Bool.toNat_le _
    have h2 : (g m).toNat ≤ 1 := Bool.toNat_le _
    rcases Nat.lt_succ_iff_lt_or_eq.1 hj with h | rfl
    · exact code_inj f g m (by omega) j h
    · have : (f j).toNat = (g j).toNat := by omega
      cases h3 : f j <;> cases h4 : g j <;> simp_all

/-- The sets of three things from L on. -/
def set3 (L : Int) (j : Nat) : St := fun u => decide (L ≤ u) && decide (u < L + 3) && j.testBit (u - L).toNat
theorem set3_all (L : Int) (s : St) (h1 : ∀ u, s u = true → L ≤ u) (h2 : ∀ u, s u = true → u < L + 3) : ∃ j, j < 8 ∧ s = set3 L j := by
  refine ⟨(s L).toNat + 2 * (s (L + 1)).toNat + 4 * (s (L + 2)).toNat, ?_, ?_⟩
  · have a := Bool.toNat_le (s L); have b := Bool.toNat_le (s (L + 1)); have c := Bool.toNat_le (s (L + 2)); omega
  · funext u
    unfold set3
    by_cases e : L ≤ u ∧ u < L + 3
    · have hu : u = L ∨ u = L + 1 ∨ u = L + 2 := by omega
      rw [decide_eq_true e.1, decide_eq_true e.2]
      rcases hu with rfl | rfl | rfl
      · rw [show (u - u).toNat = 0 by omega]
        cases s u <;> cases s (u + 1) <;> cases s (u + 2) <;> decide
      · rw [show (L + 1 - L).toNat = 1 by omega]
        cases s L <;> cases s (L + 1) <;> cases s (L + 2) <;> decide
      · rw [show (L + 2 - L).toNat = 2 by omega]
        cases s L <;> cases s (L + 1) <;> cases s (L + 2) <;> decide
    · cases hs : s u
      · by_cases a : L ≤ u
        · have b : ¬ u < L + 3 := fun b => e ⟨a, b⟩
          simp [b]
        · simp [a]
      · exact absurd ⟨h1 u hs, h2 u hs⟩ e

def isHigh (L : Int) (c : Cells) (k : Nat) : Bool := match c.at k with | some n => decide (L ≤ n.1) | none => false
open Classical in
noncomputable def codeOf (L : Int) (c : Cells) (k : Nat) : Nat := code (fun j => decide (Z c ((k : Int) + 2) (set3 L j))) 8
theorem code_same {L V : Int} {c : Cells} (o : ZOk V c) (hL : V ≤ L + 3) {k k' : Nat} (hk : isHigh L c k = true) (hk' : isHigh L c k' = true) (e : codeOf L c k = codeOf L c k') : k = k' := by
  classical
  unfold isHigh at hk hk'
  cases h : c.at k with
  | none => rw [h] at hk; cases hk
  | some n =>
    cases h' : c.at k' with
    | none => rw [h'] at hk'; cases hk'
    | some n' =>
      rw [h] at hk; rw [h'] at hk'
      simp only [decide_eq_true_eq] at hk hk'
      have g : getM c ((k : Int) + 2) = some n := by rw [getM_node]; exact h
      have g' : getM c ((k' : Int) + 2) = some n' := by rw [getM_node]; exact h'
      have hj := code_inj _ _ 8 e
      have key : (k : Int) + 2 = (k' : Int) + 2 := by
        refine canonZ_eq o.ok o.red (has_of_get g) (has_of_get g') (fun s => ?_)
        constructor
        · intro hz
          obtain ⟨j, hj8, rfl⟩ := set3_all L s (fun u hu => by have := Z_supp o.ok _ s hz u hu; rw [top_node g] at this; omega) (fun u hu => by have := Z_lt o.ok o.vlt _ s hz u hu; omega)
          have := hj j hj8
          simp only [decide_eq_decide] at this
          exact this.1 hz
        · intro hz
          obtain ⟨j, hj8, rfl⟩ := set3_all L s (fun u hu => by have := Z_supp o.ok _ s hz u hu; rw [top_node g'] at this; omega) (fun u hu => by have := Z_lt o.ok o.vlt _ s hz u hu; omega)
          have := hj j hj8
          simp only [decide_eq_decide] at this
          exact this.2 hz
      omega
theorem nodup_map_on {α β : Type} (f : α → β) : ∀ (l : List α), (∀ x ∈ l, ∀ y ∈ l, f x = f y → x = y) → l.Nodup → (l.map f).Nodup
  | [], _, _ => by simp
  | x :: l, h, hd => by
    rw [List.nodup_cons] at hd
    rw [List.map_cons, List.nodup_cons]
    refine ⟨fun hm => ?_, nodup_map_on f l (fun y hy z hz => h y (List.mem_cons_of_mem _ hy) z (List.mem_cons_of_mem _ hz)) hd.2⟩
    obtain ⟨y, hy, e⟩ := List.mem_map.1 hm
    have := h y (List.mem_cons_of_mem _ hy) x (by simp) e
    subst this
    exact hd.1 hy
theorem highs_le {L V : Int} {c : Cells} (o : ZOk V c) (hL : V ≤ L + 3) : ((List.range c.length).filter (isHigh L c)).length ≤ 256 := by
  have h1 := nodup_map_on (codeOf L c) ((List.range c.length).filter (isHigh L c)) (fun x hx y hy e => code_same o hL (List.mem_filter.1 hx).2 (List.mem_filter.1 hy).2 e) (List.nodup_range.filter _)
  have h2 := pigeon 256 _ h1 (fun x hx => by
    obtain ⟨y, _, rfl⟩ := List.mem_map.1 hx
    exact code_lt _ 8)
  rwa [List.length_map] at h2
theorem filter_split {α : Type} (p q r : α → Bool) (h : ∀ x, p x = true → q x = true ∨ r x = true) : ∀ l : List α, (l.filter p).length ≤ (l.filter q).length + (l.filter r).length
  | [] => by simp
  | x :: l => by
    have ih := filter_split p q r h l
    simp only [List.filter_cons]
    cases hp : p x <;> cases hq : q x <;> cases hr : r x <;> simp only [Bool.false_eq_true, if_false, if_true, List.length_cons] <;> first | omega | (rcases h x hp with h1 | h1 <;> simp_all)
/-- All nodes: those of the first things, and 256. -/
def hiB (V L : Int) : Nat := if V ≤ L then 0 else 256
theorem cnt_lows {L V : Int} {c : Cells} (o : ZOk V c) (hL : V ≤ L + 3) : cnt c ≤ lows L c + hiB V L := by
  unfold hiB
  split
  · rename_i h
    unfold cnt lows
    rw [Nat.add_zero]
    refine Nat.le_of_eq (List.countP_congr fun x hx => ?_)
    cases x with
    | none => simp [isLow]
    | some n =>
      obtain ⟨k, hk, e⟩ := List.getElem_of_mem hx
      have := o.vlt k n (by rw [at_get hk, e])
      simp [isLow]; omega
  · rw [cnt_range, lows_range]
    have h1 := filter_split (fun k => (c.at k).isSome) (fun k => isLow L (c.at k)) (isHigh L c) (fun k hk => by
      unfold isHigh isLow
      cases h : c.at k with
      | none => rw [h] at hk; cases hk
      | some n =>
        dsimp only
        by_cases e : n.1 < L
        · exact .inl (by simpa using e)
        · exact .inr (by simp; omega)) (List.range c.length)
    have h2 := highs_le o hL
    omega
end Go.Proofs.Ytmlnfbageoabnaa
