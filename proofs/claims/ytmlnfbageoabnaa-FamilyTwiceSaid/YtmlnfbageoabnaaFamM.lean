/- Plain model of a store of families: which sets a handle's family has; the same family is the same handle. No program in sight. -/
import Derived.Test.YtmlnfbageoabnaaIteM
namespace Go.Proofs.Ytmlnfbageoabnaa
set_option linter.unusedVariables false

/-- A set of things; a family. -/
abbrev St := Int → Bool
abbrev Fam := St → Prop
def zF : Nat → Cells → Int → St → Prop
  | 0, _, _, _ => False
  | f + 1, c, h, s => match getM c h with
    | none => h = 1 ∧ ∀ u, s u = false
    | some n => if s n.1 = true then zF f c n.2.2 (setV s n.1 false) else zF f c n.2.1 s
theorem zF_none {f : Nat} {c : Cells} {h : Int} (e : getM c h = none) (s : St) : zF (f + 1) c h s = (h = 1 ∧ ∀ u, s u = false) := by simp only [zF, e]
theorem zF_some {f : Nat} {c : Cells} {h : Int} {n : Nd} (e : getM c h = some n) (s : St) : zF (f + 1) c h s = if s n.1 = true then zF f c n.2.2 (setV s n.1 false) else zF f c n.2.1 s := by simp only [zF, e]
def Z (c : Cells) (h : Int) : Fam := fun s => zF 25 c h s

theorem zF_more {c : Cells} (o : Ok c) : ∀ (f g : Nat) (h : Int) (s : St), (24 - topM c h).toNat < f → f ≤ g → zF f c h s = zF g c h s
  | 0, _, _, _, h1, _ => absurd h1 (Nat.not_lt_zero _)
  | f + 1, 0, _, _, _, h2 => absurd h2 (by omega)
  | f + 1, g + 1, h, s, h1, h2 => by
    cases e : getM c h with
    | none => rw [zF_none e, zF_none e]
    | some n =>
      obtain ⟨k1, k2, _, _, k3, k4⟩ := o.kids e
      rw [top_node e] at h1
      rw [zF_some e, zF_some e, zF_more o f g n.2.1 s (by omega) (by omega), zF_more o f g n.2.2 _ (by omega) (by omega)]
theorem Z_node {c : Cells} (o : Ok c) {h : Int} {n : Nd} (e : getM c h = some n) (s : St) : Z c h s ↔ if s n.1 = true then Z c n.2.2 (setV s n.1 false) else Z c n.2.1 s := by
  obtain ⟨k1, k2, _, _, k3, k4⟩ := o.kids e
  show zF (24 + 1) c h s ↔ if s n.1 = true then zF 25 c n.2.2 (setV s n.1 false) else zF 25 c n.2.1 s
  rw [zF_some e, zF_more o 24 25 n.2.1 _ (by omega) (by omega), zF_more o 24 25 n.2.2 _ (by omega) (by omega)]
theorem Z_end {c : Cells} {h : Int} (e : getM c h = none) (s : St) : Z c h s ↔ (h = 1 ∧ ∀ u, s u = false) := by
  show zF (24 + 1) c h s ↔ _
  rw [zF_none e]
theorem Z_zero (c : Cells) (s : St) : ¬ Z c 0 s := fun h => by have := ((Z_end (getM_end c (.inl rfl)) s).1 h).1; omega
theorem Z_one (c : Cells) (s : St) : Z c 1 s ↔ ∀ u, s u = false := by rw [Z_end (getM_end c (.inr rfl))]; simp

theorem setV_at (s : St) (v : Int) (b : Bool) : setV s v b v = b := by unfold setV; simp
theorem setV_ne (s : St) {v u : Int} (b : Bool) (h : u ≠ v) : setV s v b u = s u := by unfold setV; rw [if_neg h]
theorem setV_set (s : St) (v : Int) (a b : Bool) : setV (setV s v a) v b = setV s v b := by funext u; unfold setV; split <;> rfl
theorem setV_back {s : St} {v : Int} {b : Bool} (h : s v = b) : setV s v b = s := by
  funext u
  unfold setV
  split
  · rename_i e; rw [e, h]
  · rfl
/-- A family's sets have things from its top on. -/
theorem Z_supp {c : Cells} (o : Ok c) : ∀ (h : Int) (s : St), Z c h s → ∀ u, s u = true → topM c h ≤ u := by
  refine node_ind o (Q := fun h => ∀ (s : St), Z c h s → ∀ u, s u = true → topM c h ≤ u) (fun h g s hz u hu => ?_) (fun h n g ih1 ih2 s hz u hu => ?_)
  · rw [((Z_end g s).1 hz).2 u] at hu; cases hu
  · obtain ⟨_, _, _, _, k3, k4⟩ := o.kids g
    rw [top_node g]
    rw [Z_node o g] at hz
    split at hz
    · by_cases e : u = n.1
      · omega
      · have := ih2 _ hz u (by rw [setV_ne _ _ e]; exact hu); omega
    · have := ih1 _ hz u hu; omega
theorem Z_lt {c : Cells} (o : Ok c) {V : Int} (hv : ∀ k n, c.at k = some n → n.1 < V) : ∀ (h : Int) (s : St), Z c h s → ∀ u, s u = true → u < V := by
  refine node_ind o (Q := fun h => ∀ (s : St), Z c h s → ∀ u, s u = true → u < V) (fun h g s hz u hu => ?_) (fun h n g ih1 ih2 s hz u hu => ?_)
  · rw [((Z_end g s).1 hz).2 u] at hu; cases hu
  · rw [Z_node o g] at hz
    split at hz
    · by_cases e : u = n.1
      · obtain ⟨k, rfl, h1, _⟩ := getM_some g; have := hv k n h1; omega
      · exact ih2 _ hz u (by rw [setV_ne _ _ e]; exact hu)
    · exact ih1 _ hz u hu
theorem Z_ext {c c' : Cells} (o : Ok c) (o' : Ok c') (e : Ext c c') : ∀ (h : Int), hasM c h = true → ∀ (s : St), Z c' h s ↔ Z c h s := by
  refine node_ind o (Q := fun h => hasM c h = true → ∀ (s : St), Z c' h s ↔ Z c h s) (fun h g hh s => ?_) (fun h n g ih1 ih2 hh s => ?_)
  · rw [Z_end g, Z_end ((e.get_eq hh).trans g)]
  · obtain ⟨_, _, k1, k2, _, _⟩ := o.kids g
    rw [Z_node o g, Z_node o' (e.get g)]
    split
    · exact ih2 k2 _
    · exact ih1 k1 _
/-- Without a thing that is ahead of the top, nothing has it. -/
theorem Z_not {c : Cells} (o : Ok c) {h v : Int} {s : St} (hv : v < topM c h) (hs : s v = true) : ¬ Z c h s := fun hz => by
  have := Z_supp o h s hz v hs; omega
theorem Z_low {c : Cells} (o : Ok c) {h : Int} {n : Nd} (g : getM c h = some n) (s : St) : Z c n.2.1 s ↔ s n.1 = false ∧ Z c h s := by
  obtain ⟨_, _, _, _, k3, k4⟩ := o.kids g
  rw [Z_node o g]
  cases e : s n.1
  · simp
  · simp only [Bool.true_eq_false, false_and, iff_false]; exact Z_not o k3 e
theorem Z_high {c : Cells} (o : Ok c) {h : Int} {n : Nd} (g : getM c h = some n) (s : St) : Z c n.2.2 s ↔ s n.1 = false ∧ Z c h (setV s n.1 true) := by
  obtain ⟨_, _, _, _, k3, k4⟩ := o.kids g
  rw [Z_node o g, setV_at, if_pos rfl, setV_set]
  cases e : s n.1
  · rw [setV_back e]; simp
  · simp only [Bool.true_eq_false, false_and, iff_false]; exact Z_not o k4 e

/-- No node's high way leads to nothing. -/
def RedZ (c : Cells) : Prop := ∀ k n, c.at k = some n → n.2.2 ≠ 0
theorem Z_some {c : Cells} (o : Ok c) (r : RedZ c) : ∀ (h : Int), hasM c h = true → h ≠ 0 → ∃ s, Z c h s := by
  refine node_ind o (Q := fun h => hasM c h = true → h ≠ 0 → ∃ s, Z c h s) (fun h g hh h0 => ?_) (fun h n g ih1 ih2 hh h0 => ?_)
  · rcases getM_none_of_has hh g with rfl | rfl
    · exact absurd rfl h0
    · exact ⟨fun _ => false, (Z_one c _).2 fun _ => rfl⟩
  · obtain ⟨_, _, k1, k2, k3, k4⟩ := o.kids g
    have hn : n.2.2 ≠ 0 := by obtain ⟨k, _, h1, _⟩ := getM_some g; exact r k n h1
    obtain ⟨s, hs⟩ := ih2 k2 hn
    exact ⟨_, ((Z_high o g s).1 hs).2⟩
theorem Z_has_top {c : Cells} (o : Ok c) (r : RedZ c) {h : Int} {n : Nd} (g : getM c h = some n) : ∃ s, Z c h s ∧ s n.1 = true := by
  obtain ⟨_, _, k1, k2, k3, k4⟩ := o.kids g
  have hn : n.2.2 ≠ 0 := by obtain ⟨k, _, h1, _⟩ := getM_some g; exact r k n h1
  obtain ⟨s, hs⟩ := Z_some o r _ k2 hn
  exact ⟨_, ((Z_high o g s).1 hs).2, setV_at _ _ _⟩

/-- THE SAME FAMILY IS THE SAME HANDLE. -/
theorem canonZ {c : Cells} (o : Ok c) (r : RedZ c) : ∀ (f : Nat) (h h' : Int), (24 - topM c h).toNat < f → (24 - topM c h').toNat < f → hasM c h = true → hasM c h' = true → (∀ s, Z c h s ↔ Z c h' s) → h = h'
  | 0, _, _, h1, _, _, _, _ => absurd h1 (Nat.not_lt_zero _)
  | f + 1, h, h', hf, hf', hh, hh', he => by
    have node_case : ∀ {x x' : Int} {n : Nd}, getM c x = some n → n.1 < topM c x' → (∀ s, Z c x s ↔ Z c x' s) → False := by
      intro x x' n g hlt hd
      obtain ⟨s, hs, ht⟩ := Z_has_top o r g
      exact Z_not o hlt ht ((hd s).1 hs)
    cases g : getM c h with
    | none =>
      cases g' : getM c h' with
      | none =>
        have h2 := he (fun _ => false)
        rw [Z_end g, Z_end g'] at h2
        rcases getM_none_of_has hh g with rfl | rfl <;> rcases getM_none_of_has hh' g' with rfl | rfl
        · rfl
        · simp at h2
        · simp at h2
        · rfl
      | some n' => exact (node_case g' (by rw [top_end g]; exact (o.kids g').2.1) (fun s => (he s).symm)).elim
    | some n =>
      cases g' : getM c h' with
      | none => exact (node_case g (by rw [top_end g']; exact (o.kids g).2.1) he).elim
      | some n' =>
        rcases Int.lt_trichotomy n.1 n'.1 with h3 | h3 | h3
        · exact (node_case g (by rw [top_node g']; exact h3) he).elim
        · obtain ⟨b1, b2, k1, k2, k3, k4⟩ := o.kids g
          obtain ⟨b1', b2', k1', k2', k3', k4'⟩ := o.kids g'
          rw [top_node g] at hf
          rw [top_node g'] at hf'
          have e1 := canonZ o r f n.2.1 n'.2.1 (by omega) (by omega) k1 k1' (fun s => by rw [Z_low o g s, Z_low o g' s, h3, he])
          have e2 := canonZ o r f n.2.2 n'.2.2 (by omega) (by omega) k2 k2' (fun s => by rw [Z_high o g s, Z_high o g' s, h3, he])
          obtain ⟨k, rfl, hk, _⟩ := getM_some g
          obtain ⟨k', rfl, hk', _⟩ := getM_some g'
          have : n = n' := by
            obtain ⟨a, b, d⟩ := n
            obtain ⟨a', b', d'⟩ := n'
            simp only at h3 e1 e2
            rw [h3, e1, e2]
          subst this
          rw [o.uniq k k' n hk hk']
        · exact (node_case g' (by rw [top_node g]; exact h3) (fun s => (he s).symm)).elim
theorem canonZ_eq {c : Cells} (o : Ok c) (r : RedZ c) {h h' : Int} (hh : hasM c h = true) (hh' : hasM c h' = true) (he : ∀ s, Z c h s ↔ Z c h' s) : h = h' :=
  canonZ o r ((24 - topM c h).toNat + (24 - topM c h').toNat + 1) h h' (by omega) (by omega) hh hh' he

/-- node. -/
def nodeZ (c : Cells) (v low high : Int) : Cells × Int × Nat := if high = 0 then (c, low, 0) else mkM c (v, low, high)
/-- at. -/
def atZ (c : Cells) (h v : Int) : Int × Int := match getM c h with
  | some n => if n.1 = v then (n.2.1, n.2.2) else (h, 0)
  | none => (h, 0)
/-- Those without a thing; those with it, without it; both joined. -/
def without (v : Int) (F : Fam) : Fam := fun s => s v = false ∧ F s
def withV (v : Int) (F : Fam) : Fam := fun s => s v = false ∧ F (setV s v true)
def mixF (v : Int) (F G : Fam) : Fam := fun s => if s v = true then G (setV s v false) else F s

/-- Nodes in order, over V things. -/
structure ZOk (V : Int) (c : Cells) : Prop where
  ok : Ok c
  red : RedZ c
  vlt : ∀ k n, c.at k = some n → n.1 < V
theorem ZOk.empty (V : Int) (R : Nat) : ZOk V (List.replicate R none) := by
  have hat : ∀ k, Cells.at (List.replicate R none) k = none := fun k => by unfold Cells.at; simp only [List.getD_eq_getElem?_getD, List.getElem?_replicate]; split <;> rfl
  exact ⟨⟨fun k n h => (by rw [hat] at h; cases h), fun k n h => (by rw [hat] at h; cases h), fun k n h => (by rw [hat] at h; cases h), fun j k n h => (by rw [hat] at h; cases h)⟩, fun k n h => (by rw [hat] at h; cases h), fun k n h => (by rw [hat] at h; cases h)⟩
theorem ZOk.sweep {V : Int} {c : Cells} (o : ZOk V c) (l : List Int) : ZOk V (sweepM c l) :=
  ⟨sweepM_ok o.ok l, fun k n h => o.red k n (sweepM_some.1 h).2, fun k n h => o.vlt k n (sweepM_some.1 h).2⟩

/-- How many nodes have a variable below L: all others are few. -/
def isLow (L : Int) (o : Option Nd) : Bool := match o with | some n => decide (n.1 < L) | none => false
def lows (L : Int) (c : Cells) : Nat := c.countP (isLow L)
theorem lows_set {L : Int} {c : Cells} {k : Nat} {n : Nd} (h : k < c.length) (h0 : c.at k = none) : lows L (c.set k (some n)) = lows L c + if n.1 < L then 1 else 0 := by
  unfold lows
  rw [at_get h] at h0
  rw [List.countP_set h, h0]
  unfold isLow
  by_cases e : n.1 < L <;> simp [e]
theorem lows_le_cnt (L : Int) (c : Cells) : lows L c ≤ cnt c := by
  unfold lows cnt
  exact List.countP_mono_left fun o _ h => by cases o <;> simp_all [isLow]
theorem lows_mkM (L : Int) (c : Cells) (n : Nd) : lows L (mkM c n).1 ≤ lows L c + if n.1 < L then 1 else 0 := by
  unfold mkM
  split
  · dsimp only; omega
  · split
    · dsimp only; omega
    · split
      · rename_i k h; rw [lows_set (freeM_some h).1 (freeM_some h).2.1]; exact Nat.le_refl _
      · dsimp only; omega
theorem lows_range (L : Int) (c : Cells) : lows L c = ((List.range c.length).filter fun k => isLow L (c.at k)).length := by
  unfold lows
  rw [List.countP_eq_length_filter]
  have : c = (List.range c.length).map fun k => c.at k := by
    apply List.ext_getElem
    · simp
    · intro i h1 h2; simp [at_get h1]
  conv => lhs; rw [this]
  rw [List.filter_map, List.length_map]
  rfl
theorem lows_sweep (L : Int) (c : Cells) (l : List Int) : lows L (sweepM c l) ≤ lows L c := by
  rw [lows_range, lows_range L c, sweepM_len, ← List.countP_eq_length_filter, ← List.countP_eq_length_filter]
  refine List.countP_mono_left fun k hk h => ?_
  cases e : (sweepM c l).at k with
  | none => rw [e] at h; cases h
  | some n => rw [e] at h; rw [(sweepM_some.1 e).2]; exact h

structure NodeZ (L : Int) (c : Cells) (v l h : Int) (r : Cells × Int × Nat) : Prop where
  err : r.2.2 = 0
  ext : Ext c r.1
  ok : Ok r.1
  red : RedZ r.1
  has : hasM r.1 r.2.1 = true
  z : ∀ s, Z r.1 r.2.1 s ↔ mixF v (Z c l) (Z c h) s
  top : v ≤ topM r.1 r.2.1
  cnt : lows L r.1 ≤ lows L c + if v < L then 1 else 0
  old : ∀ k n, r.1.at k = some n → c.at k = some n ∨ n = (v, l, h)

theorem nodeZ_spec (L : Int) {c : Cells} (o : Ok c) (rd : RedZ c) {v l h : Int} (v0 : 0 ≤ v) (v1 : v < 24) (hl : hasM c l = true) (hh : hasM c h = true) (tl : v < topM c l) (th : v < topM c h) (hr : cnt c < c.length) : NodeZ L c v l h (nodeZ c v l h) := by
  by_cases e : h = 0
  · subst e
    have hn : nodeZ c v l 0 = (c, l, 0) := by unfold nodeZ; rw [if_pos rfl]
    rw [hn]
    refine ⟨rfl, Ext.refl c, o, rd, hl, fun s => ?_, by dsimp only; omega, by dsimp only; omega, fun k n h => .inl h⟩
    unfold mixF
    dsimp only
    cases e : s v
    · simp
    · simp only [if_true]; exact ⟨fun hz => absurd hz (Z_not o tl e), fun hz => absurd hz (Z_zero _ _)⟩
  · have hn : nodeZ c v l h = mkM c (v, l, h) := by unfold nodeZ; rw [if_neg e]
    have hb : badM c (v, l, h) = 0 := badM_zero v0 v1 hl hh tl th
    have he := mkM_room hb hr
    have hext := mkM_ext c (v, l, h)
    have hok := mkM_ok o (v, l, h)
    have hg := mkM_get he
    have hold : ∀ k n, (mkM c (v, l, h)).1.at k = some n → c.at k = some n ∨ n = (v, l, h) := by
      intro k n hk
      unfold mkM at hk
      rw [if_neg (by simp [hb])] at hk
      split at hk
      · exact .inl hk
      · split at hk
        · rename_i j hj
          rw [at_set _ (freeM_some hj).1] at hk
          split at hk
          · cases hk; exact .inr rfl
          · exact .inl hk
        · exact .inl hk
    rw [hn]
    refine ⟨he, hext, hok, fun k n hk => ?_, has_of_get hg, fun s => ?_, ?_, lows_mkM L c _, hold⟩
    · rcases hold k n hk with h1 | rfl
      · exact rd k n h1
      · exact e
    · rw [Z_node hok hg]
      unfold mixF
      split
      · exact Z_ext o hok hext h hh _
      · exact Z_ext o hok hext l hl _
    · rw [top_node hg]; exact Int.le_refl _

structure AtZ (c : Cells) (h v : Int) (r : Int × Int) : Prop where
  has1 : hasM c r.1 = true
  has2 : hasM c r.2 = true
  z1 : ∀ s, Z c r.1 s ↔ without v (Z c h) s
  z2 : ∀ s, Z c r.2 s ↔ withV v (Z c h) s
  top1 : v < topM c r.1
  top2 : v < topM c r.2
theorem atZ_spec {c : Cells} (o : Ok c) {h v : Int} (hh : hasM c h = true) (hv : v ≤ topM c h) (hv2 : v < 24) : AtZ c h v (atZ c h v) := by
  have t0 : topM c 0 = 24 := top_end (getM_end c (.inl rfl))
  have key : v < topM c h → AtZ c h v (h, 0) := fun hlt => by
    refine ⟨hh, hasM_zero c, fun s => ⟨fun hz => ⟨?_, hz⟩, fun hz => hz.2⟩, fun s => ⟨fun hz => absurd hz (Z_zero _ _), fun hz => ?_⟩, hlt, by dsimp only; omega⟩
    · cases e : s v
      · rfl
      · exact absurd hz (Z_not o hlt e)
    · exact absurd hz.2 (Z_not o hlt (setV_at _ _ _))
  unfold atZ
  cases g : getM c h with
  | none => exact key (by rw [top_end g]; exact hv2)
  | some n =>
    obtain ⟨b1, b2, k1, k2, k3, k4⟩ := o.kids g
    have ht := top_node g
    dsimp only
    split
    · rename_i e
      subst e
      exact ⟨k1, k2, fun s => Z_low o g s, fun s => Z_high o g s, k3, k4⟩
    · exact key (by omega)
end Go.Proofs.Ytmlnfbageoabnaa
