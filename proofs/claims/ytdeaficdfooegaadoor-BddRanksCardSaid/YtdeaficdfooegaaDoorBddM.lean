/- Plain model of a space of diagrams: what its methods make, and what handles mean. No program in sight. -/
import Derived.Test.YtdeaficdfooegaaDoorArM
namespace Go.Proofs.YtdeaficdfooegaaDoor
set_option linter.unusedVariables false

/-- What a handle is true of (fuel: the variables rise). -/
def denF : Nat → Cells → Int → (Int → Bool) → Bool
  | 0, _, _, _ => false
  | f + 1, c, h, val => match getM c h with
    | none => h == 1
    | some n => if val n.1 then denF f c n.2.2 val else denF f c n.2.1 val
theorem denF_none {f : Nat} {c : Cells} {h : Int} (e : getM c h = none) (val : Int → Bool) : denF (f + 1) c h val = (h == 1) := by simp only [denF, e]
theorem denF_some {f : Nat} {c : Cells} {h : Int} {n : Nd} (e : getM c h = some n) (val : Int → Bool) : denF (f + 1) c h val = if val n.1 then denF f c n.2.2 val else denF f c n.2.1 val := by simp only [denF, e]
def den (c : Cells) (h : Int) (val : Int → Bool) : Bool := denF 25 c h val
def setV (val : Int → Bool) (v : Int) (b : Bool) : Int → Bool := fun u => if u = v then b else val u

theorem top_node {c : Cells} {h : Int} {n : Nd} (g : getM c h = some n) : topM c h = n.1 := by unfold topM; rw [g]
theorem top_end {c : Cells} {h : Int} (g : getM c h = none) : topM c h = 24 := by unfold topM; rw [g]
theorem Ok.kids {c : Cells} (o : Ok c) {h : Int} {n : Nd} (g : getM c h = some n) :
    0 ≤ n.1 ∧ n.1 < 24 ∧ hasM c n.2.1 = true ∧ hasM c n.2.2 = true ∧ n.1 < topM c n.2.1 ∧ n.1 < topM c n.2.2 := by
  obtain ⟨k, rfl, h1, _⟩ := getM_some g
  exact ⟨(o.var k n h1).1, (o.var k n h1).2, (o.low k n h1).1, (o.high k n h1).1, (o.low k n h1).2, (o.high k n h1).2⟩
theorem has_of_get {c : Cells} {h : Int} {n : Nd} (g : getM c h = some n) : hasM c h = true := by unfold hasM; rw [g]; simp

theorem denF_more {c : Cells} (o : Ok c) (val : Int → Bool) : ∀ (f g : Nat) (h : Int), (24 - topM c h).toNat < f → f ≤ g → denF f c h val = denF g c h val
  | 0, _, _, h1, _ => absurd h1 (Nat.not_lt_zero _)
  | f + 1, 0, _, _, h2 => absurd h2 (by omega)
  | f + 1, g + 1, h, h1, h2 => by
    cases e : getM c h with
    | none => rw [denF_none e, denF_none e]
    | some n =>
      obtain ⟨k1, k2, _, _, k3, k4⟩ := o.kids e
      rw [top_node e] at h1
      rw [denF_some e, denF_some e, denF_more o val f g n.2.1 (by omega) (by omega), denF_more o val f g n.2.2 (by omega) (by omega)]
theorem den_node {c : Cells} (o : Ok c) {h : Int} {n : Nd} (e : getM c h = some n) (val : Int → Bool) : den c h val = if val n.1 then den c n.2.2 val else den c n.2.1 val := by
  obtain ⟨k1, k2, _, _, k3, k4⟩ := o.kids e
  show denF (24 + 1) c h val = if val n.1 then denF 25 c n.2.2 val else denF 25 c n.2.1 val
  rw [denF_some e, denF_more o val 24 25 n.2.1 (by omega) (by omega), denF_more o val 24 25 n.2.2 (by omega) (by omega)]
theorem den_end {c : Cells} {h : Int} (e : getM c h = none) (val : Int → Bool) : den c h val = (h == 1) := denF_none (f := 24) e val
theorem den_zero (c : Cells) (val : Int → Bool) : den c 0 val = false := by rw [den_end (getM_end c (.inl rfl))]; rfl
theorem den_one (c : Cells) (val : Int → Bool) : den c 1 val = true := by rw [den_end (getM_end c (.inr rfl))]; rfl

/-- Induction over what a handle leads to. -/
theorem node_ind {c : Cells} (o : Ok c) {Q : Int → Prop} (h0 : ∀ h, getM c h = none → Q h) (h1 : ∀ h n, getM c h = some n → Q n.2.1 → Q n.2.2 → Q h) : ∀ h, Q h := by
  have key : ∀ (f : Nat) (h : Int), (24 - topM c h).toNat < f → Q h := by
    intro f
    induction f with
    | zero => intro h hf; exact absurd hf (Nat.not_lt_zero _)
    | succ f ih =>
      intro h hf
      cases e : getM c h with
      | none => exact h0 h e
      | some n =>
        obtain ⟨k1, k2, _, _, k3, k4⟩ := o.kids e
        rw [top_node e] at hf
        exact h1 h n e (ih _ (by omega)) (ih _ (by omega))
  exact fun h => key _ h (Nat.lt_succ_self _)

theorem den_ext {c c' : Cells} (o : Ok c) (o' : Ok c') (e : Ext c c') (val : Int → Bool) : ∀ h, hasM c h = true → den c' h val = den c h val := by
  refine node_ind o (Q := fun h => hasM c h = true → den c' h val = den c h val) (fun h g hh => ?_) (fun h n g ih1 ih2 hh => ?_)
  · rw [den_end g, den_end ((e.get_eq hh).trans g)]
  · obtain ⟨_, _, k1, k2, _, _⟩ := o.kids g
    rw [den_node o g, den_node o' (e.get g), ih1 k1, ih2 k2]
/-- It does not hang on a variable ahead of its top. -/
theorem den_free {c : Cells} (o : Ok c) {v : Int} (b : Bool) (val : Int → Bool) : ∀ h, v < topM c h → den c h (setV val v b) = den c h val := by
  refine node_ind o (Q := fun h => v < topM c h → den c h (setV val v b) = den c h val) (fun h g hv => ?_) (fun h n g ih1 ih2 hv => ?_)
  · rw [den_end g, den_end g]
  · obtain ⟨_, _, k1, k2, k3, k4⟩ := o.kids g
    rw [top_node g] at hv
    rw [den_node o g, den_node o g, ih1 (by omega), ih2 (by omega)]
    have : setV val v b n.1 = val n.1 := by unfold setV; rw [if_neg (by omega)]
    rw [this]
theorem den_high {c : Cells} (o : Ok c) {h : Int} {n : Nd} (g : getM c h = some n) (val : Int → Bool) : den c h (setV val n.1 true) = den c n.2.2 val := by
  obtain ⟨_, _, k1, k2, k3, k4⟩ := o.kids g
  rw [den_node o g, den_free o true val n.2.2 k4]
  simp [setV]
theorem den_low {c : Cells} (o : Ok c) {h : Int} {n : Nd} (g : getM c h = some n) (val : Int → Bool) : den c h (setV val n.1 false) = den c n.2.1 val := by
  obtain ⟨_, _, k1, k2, k3, k4⟩ := o.kids g
  rw [den_node o g, den_free o false val n.2.1 k3]
  simp [setV]

/-- No node leads to the same either way. -/
def Red (c : Cells) : Prop := ∀ k n, c.at k = some n → n.2.1 ≠ n.2.2

/-- THE SAME FUNCTION IS THE SAME HANDLE. -/
theorem canon {c : Cells} (o : Ok c) (r : Red c) : ∀ (f : Nat) (h h' : Int), (24 - topM c h).toNat < f → (24 - topM c h').toNat < f → hasM c h = true → hasM c h' = true → (∀ val, den c h val = den c h' val) → h = h'
  | 0, _, _, h1, _, _, _, _ => absurd h1 (Nat.not_lt_zero _)
  | f + 1, h, h', hf, hf', hh, hh', he => by
    have node_case : ∀ {x x' : Int} {n : Nd}, getM c x = some n → n.1 < topM c x' → (24 - topM c x).toNat < f + 1 → (∀ val, den c x val = den c x' val) → False := by
      intro x x' n g hlt hx hd
      obtain ⟨k, rfl, hk, _⟩ := getM_some g
      obtain ⟨b1, b2, k1, k2, k3, k4⟩ := o.kids g
      rw [top_node g] at hx
      refine r k n hk (canon o r f n.2.1 n.2.2 (by omega) (by omega) k1 k2 (fun val => ?_))
      rw [← den_low o g val, ← den_high o g val, hd, hd, den_free o _ _ _ hlt, den_free o _ _ _ hlt]
    cases g : getM c h with
    | none =>
      cases g' : getM c h' with
      | none =>
        have h2 := he (fun _ => true)
        rw [den_end g, den_end g'] at h2
        rcases getM_none_of_has hh g with rfl | rfl <;> rcases getM_none_of_has hh' g' with rfl | rfl
        · rfl
        · exact absurd h2 (by decide)
        · exact absurd h2 (by decide)
        · rfl
      | some n' => exact (node_case g' (by rw [top_end g]; exact (o.kids g').2.1) hf' (fun val => (he val).symm)).elim
    | some n =>
      cases g' : getM c h' with
      | none => exact (node_case g (by rw [top_end g']; exact (o.kids g).2.1) hf he).elim
      | some n' =>
        rcases Int.lt_trichotomy n.1 n'.1 with h3 | h3 | h3
        · exact (node_case g (by rw [top_node g']; exact h3) hf he).elim
        · obtain ⟨b1, b2, k1, k2, k3, k4⟩ := o.kids g
          obtain ⟨b1', b2', k1', k2', k3', k4'⟩ := o.kids g'
          rw [top_node g] at hf
          rw [top_node g'] at hf'
          have e1 := canon o r f n.2.1 n'.2.1 (by omega) (by omega) k1 k1' (fun val => by rw [← den_low o g val, ← den_low o g' val, h3]; exact he _)
          have e2 := canon o r f n.2.2 n'.2.2 (by omega) (by omega) k2 k2' (fun val => by rw [← den_high o g val, ← den_high o g' val, h3]; exact he _)
          obtain ⟨k, rfl, hk, _⟩ := getM_some g
          obtain ⟨k', rfl, hk', _⟩ := getM_some g'
          have : n = n' := by
            obtain ⟨a, b, d⟩ := n
            obtain ⟨a', b', d'⟩ := n'
            simp only at h3 e1 e2
            rw [h3, e1, e2]
          subst this
          rw [o.uniq k k' n hk hk']
        · exact (node_case g' (by rw [top_node g]; exact h3) hf' (fun val => (he val).symm)).elim
theorem canon_eq {c : Cells} (o : Ok c) (r : Red c) {h h' : Int} (hh : hasM c h = true) (hh' : hasM c h' = true) (he : ∀ val, den c h val = den c h' val) : h = h' :=
  canon o r ((24 - topM c h).toNat + (24 - topM c h').toNat + 1) h h' (by omega) (by omega) hh hh' he

/-- node. -/
def nodeM (c : Cells) (v low high : Int) : Cells × Int × Nat := if low = high then (c, low, 0) else mkM c (v, low, high)
/-- at. -/
def atM (c : Cells) (h v : Int) : Int × Int := match getM c h with
  | some n => if n.1 = v then (n.2.1, n.2.2) else (h, h)
  | none => (h, h)

/-- A space: what its arena holds, and its cache. -/
structure Sp where
  c : Cells
  q : Int × Int × Int → Option Int
def putQ (q : Int × Int × Int → Option Int) (k : Int × Int × Int) (h : Int) : Int × Int × Int → Option Int := fun k' => if k = k' then some h else q k'
def min3 (a b c : Int) : Int := min (min a b) c

def hitM (s : Sp) (k : Int × Int × Int) : Option Int := match s.q k with
  | some h => if hasM s.c h then some h else none
  | none => none
def iteM : Nat → Sp → Int → Int → Int → Sp × Int × Nat
  | 0, s, _, _, _ => (s, 0, 99)
  | f + 1, s, a, b, c =>
    if a = 1 ∨ b = c then (s, b, 0) else if a = 0 then (s, c, 0) else
    match hitM s (a, b, c) with
    | some h => (s, h, 0)
    | none =>
      let v := min3 (topM s.c a) (topM s.c b) (topM s.c c)
      let r1 := iteM f s (atM s.c a v).1 (atM s.c b v).1 (atM s.c c v).1
      if r1.2.2 ≠ 0 then (r1.1, 0, r1.2.2) else
      let r2 := iteM f r1.1 (atM s.c a v).2 (atM s.c b v).2 (atM s.c c v).2
      if r2.2.2 ≠ 0 then (r2.1, 0, r2.2.2) else
      let r3 := nodeM r2.1.c v r1.2.1 r2.2.1
      (⟨r3.1, if r3.2.2 = 0 then putQ r2.1.q (a, b, c) r3.2.1 else r2.1.q⟩, r3.2.1, r3.2.2)

theorem nodeM_ext (c : Cells) (v l h : Int) : Ext c (nodeM c v l h).1 := by
  unfold nodeM; split
  · exact Ext.refl c
  · exact mkM_ext c _
theorem nodeM_ok {c : Cells} (o : Ok c) (v l h : Int) : Ok (nodeM c v l h).1 := by
  unfold nodeM; split
  · exact o
  · exact mkM_ok o _
theorem iteM_ext : ∀ (f : Nat) (s : Sp) (a b c : Int), Ext s.c (iteM f s a b c).1.c ∧ (Ok s.c → Ok (iteM f s a b c).1.c)
  | 0, s, _, _, _ => ⟨Ext.refl _, id⟩
  | f + 1, s, a, b, c => by
    unfold iteM
    split
    · exact ⟨Ext.refl _, id⟩
    · split
      · exact ⟨Ext.refl _, id⟩
      · split
        · exact ⟨Ext.refl _, id⟩
        · have i1 := iteM_ext f s (atM s.c a (min3 (topM s.c a) (topM s.c b) (topM s.c c))).1 (atM s.c b (min3 (topM s.c a) (topM s.c b) (topM s.c c))).1 (atM s.c c (min3 (topM s.c a) (topM s.c b) (topM s.c c))).1
          simp only
          split
          · exact i1
          · have i2 := iteM_ext f (iteM f s (atM s.c a (min3 (topM s.c a) (topM s.c b) (topM s.c c))).1 (atM s.c b (min3 (topM s.c a) (topM s.c b) (topM s.c c))).1 (atM s.c c (min3 (topM s.c a) (topM s.c b) (topM s.c c))).1).1 (atM s.c a (min3 (topM s.c a) (topM s.c b) (topM s.c c))).2 (atM s.c b (min3 (topM s.c a) (topM s.c b) (topM s.c c))).2 (atM s.c c (min3 (topM s.c a) (topM s.c b) (topM s.c c))).2
            split
            · exact ⟨i1.1.trans i2.1, fun o => i2.2 (i1.2 o)⟩
            · exact ⟨(i1.1.trans i2.1).trans (nodeM_ext _ _ _ _), fun o => nodeM_ok (i2.2 (i1.2 o)) _ _ _⟩
end Go.Proofs.YtdeaficdfooegaaDoor
