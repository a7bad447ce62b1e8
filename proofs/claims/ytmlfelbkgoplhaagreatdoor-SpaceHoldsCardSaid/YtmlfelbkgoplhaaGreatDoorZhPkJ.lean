/- Some texts in one: BddM, IteM, IteG, IteC, SetM, CntM. -/
import Derived.Test.YtmlfelbkgoplhaaGreatDoorZhPkE
namespace Go.Proofs.YtmlfelbkgoplhaaGreatDoor
set_option linter.unusedVariables false
def denF : Nat → Cells → Int → (Int → Bool) → Bool
 | 0, _, _, _ => false
 | f + 1, c, h, val => match getM c h with
  | none => h == 1
  | some n => if val n.1 then denF f c n.2.2 val else denF f c n.2.1 val
theorem denF_none {f : Nat} {c : Cells} {h : Int} (e : getM c h = none) (val : Int → Bool) : denF (f + 1) c h val = (h == 1) := by simp only [denF, e]
theorem denF_some {f : Nat} {c : Cells} {h : Int} {n : Nd} (e : getM c h = some n) (val : Int → Bool) : denF (f + 1) c h val = if val n.1 then denF f c n.2.2 val else denF f c n.2.1 val := by simp only [denF, e]
def den (c : Cells) (h : Int) (val : Int → Bool) : Bool := denF 25 c h val
def setV (val : Int → Bool) (v : Int) (b : Bool) : Int → Bool := fun u => if u = v then b else val u
theorem top_node {c : Cells} {h : Int} {n : Nd} (g : getM c h = some n) : topM c h = n.1 := by unfold topM; rw [g]
theorem top_end {c : Cells} {h : Int} (g : getM c h = none) : topM c h = 24 := by unfold topM; rw [g]
theorem Ok.kids {c : Cells} (o : Ok c) {h : Int} {n : Nd} (g : getM c h = some n) :
 0 ≤ n.1 ∧ n.1 < 24 ∧ hasM c n.2.1 = true ∧ hasM c n.2.2 = true ∧ n.1 < topM c n.2.1 ∧ n.1 < topM c n.2.2 := by
 obtain ⟨k, rfl, h1, _⟩ := getM_some g
 exact ⟨(o.var k n h1).1, (o.var k n h1).2, (o.low k n h1).1, (o.high k n h1).1, (o.low k n h1).2, (o.high k n h1).2⟩
theorem has_of_get {c : Cells} {h : Int} {n : Nd} (g : getM c h = some n) : hasM c h = true := by unfold hasM; rw [g]; simp
theorem denF_more {c : Cells} (o : Ok c) (val : Int → Bool) : ∀ (f g : Nat) (h : Int), (24 - topM c h).toNat < f → f ≤ g → denF f c h val = denF g c h val
 | 0, _, _, h1, _ => absurd h1 (Nat.not_lt_zero _)
 | f + 1, 0, _, _, h2 => absurd h2 (by omega)
 | f + 1, g + 1, h, h1, h2 => by
  cases e : getM c h with
  | none => rw [denF_none e, denF_none e]
  | some n =>
   obtain ⟨k1, k2, _, _, k3, k4⟩ := o.kids e
   rw [top_node e] at h1
   rw [denF_some e, denF_some e, denF_more o val f g n.2.1 (by omega) (by omega), denF_more o val f g n.2.2 (by omega) (by omega)]
theorem den_node {c : Cells} (o : Ok c) {h : Int} {n : Nd} (e : getM c h = some n) (val : Int → Bool) : den c h val = if val n.1 then den c n.2.2 val else den c n.2.1 val := by
 obtain ⟨k1, k2, _, _, k3, k4⟩ := o.kids e
 show denF (24 + 1) c h val = if val n.1 then denF 25 c n.2.2 val else denF 25 c n.2.1 val
 rw [denF_some e, denF_more o val 24 25 n.2.1 (by omega) (by omega), denF_more o val 24 25 n.2.2 (by omega) (by omega)]
theorem den_end {c : Cells} {h : Int} (e : getM c h = none) (val : Int → Bool) : den c h val = (h == 1) := denF_none (f := 24) e val
theorem den_zero (c : Cells) (val : Int → Bool) : den c 0 val = false := by rw [den_end (getM_end c (.inl rfl))]; rfl
theorem den_one (c : Cells) (val : Int → Bool) : den c 1 val = true := by rw [den_end (getM_end c (.inr rfl))]; rfl
theorem node_ind {c : Cells} (o : Ok c) {Q : Int → Prop} (h0 : ∀ h, getM c h = none → Q h) (h1 : ∀ h n, getM c h = some n → Q n.2.1 → Q n.2.2 → Q h) : ∀ h, Q h := by
 have key : ∀ (f : Nat) (h : Int), (24 - topM c h).toNat < f → Q h := by
  intro f
  induction f with
  | zero => intro h hf; exact absurd hf (Nat.not_lt_zero _)
  | succ f ih =>
   intro h hf
   cases e : getM c h with
   | none => exact h0 h e
   | some n =>
    obtain ⟨k1, k2, _, _, k3, k4⟩ := o.kids e
    rw [top_node e] at hf
    exact h1 h n e (ih _ (by omega)) (ih _ (by omega))
 exact fun h => key _ h (Nat.lt_succ_self _)
theorem den_ext {c c' : Cells} (o : Ok c) (o' : Ok c') (e : Ext c c') (val : Int → Bool) : ∀ h, hasM c h = true → den c' h val = den c h val := by
 refine node_ind o (Q := fun h => hasM c h = true → den c' h val = den c h val) (fun h g hh => ?_) (fun h n g ih1 ih2 hh => ?_)
 · rw [den_end g, den_end ((e.get_eq hh).trans g)]
 ·
  obtain ⟨_, _, k1, k2, _, _⟩ := o.kids g
  rw [den_node o g, den_node o' (e.get g), ih1 k1, ih2 k2]
theorem den_free {c : Cells} (o : Ok c) {v : Int} (b : Bool) (val : Int → Bool) : ∀ h, v < topM c h → den c h (setV val v b) = den c h val := by
 refine node_ind o (Q := fun h => v < topM c h → den c h (setV val v b) = den c h val) (fun h g hv => ?_) (fun h n g ih1 ih2 hv => ?_)
 · rw [den_end g, den_end g]
 ·
  obtain ⟨_, _, k1, k2, k3, k4⟩ := o.kids g
  rw [top_node g] at hv
  rw [den_node o g, den_node o g, ih1 (by omega), ih2 (by omega)]
  have : setV val v b n.1 = val n.1 := by unfold setV; rw [if_neg (by omega)]
  rw [this]
theorem den_high {c : Cells} (o : Ok c) {h : Int} {n : Nd} (g : getM c h = some n) (val : Int → Bool) : den c h (setV val n.1 true) = den c n.2.2 val := by
 obtain ⟨_, _, k1, k2, k3, k4⟩ := o.kids g
 rw [den_node o g, den_free o true val n.2.2 k4]
 simp [setV]
theorem den_low {c : Cells} (o : Ok c) {h : Int} {n : Nd} (g : getM c h = some n) (val : Int → Bool) : den c h (setV val n.1 false) = den c n.2.1 val := by
 obtain ⟨_, _, k1, k2, k3, k4⟩ := o.kids g
 rw [den_node o g, den_free o false val n.2.1 k3]
 simp [setV]
def Red (c : Cells) : Prop := ∀ k n, c.at k = some n → n.2.1 ≠ n.2.2
theorem canon {c : Cells} (o : Ok c) (r : Red c) : ∀ (f : Nat) (h h' : Int), (24 - topM c h).toNat < f → (24 - topM c h').toNat < f → hasM c h = true → hasM c h' = true → (∀ val, den c h val = den c h' val) → h = h'
 | 0, _, _, h1, _, _, _, _ => absurd h1 (Nat.not_lt_zero _)
 | f + 1, h, h', hf, hf', hh, hh', he => by
  have node_case : ∀ {x x' : Int} {n : Nd}, getM c x = some n → n.1 < topM c x' → (24 - topM c x).toNat < f + 1 → (∀ val, den c x val = den c x' val) → False := by
   intro x x' n g hlt hx hd
   obtain ⟨k, rfl, hk, _⟩ := getM_some g
   obtain ⟨b1, b2, k1, k2, k3, k4⟩ := o.kids g
   rw [top_node g] at hx
   refine r k n hk (canon o r f n.2.1 n.2.2 (by omega) (by omega) k1 k2 (fun val => ?_))
   rw [← den_low o g val, ← den_high o g val, hd, hd, den_free o _ _ _ hlt, den_free o _ _ _ hlt]
  cases g : getM c h with
  | none =>
   cases g' : getM c h' with
   | none =>
    have h2 := he (fun _ => true)
    rw [den_end g, den_end g'] at h2
    rcases getM_none_of_has hh g with rfl | rfl <;> rcases getM_none_of_has hh' g' with rfl | rfl
    · rfl
    · exact absurd h2 (by decide)
    · exact absurd h2 (by decide)
    · rfl
   | some n' => exact (node_case g' (by rw [top_end g]; exact (o.kids g').2.1) hf' (fun val => (he val).symm)).elim
  | some n =>
   cases g' : getM c h' with
   | none => exact (node_case g (by rw [top_end g']; exact (o.kids g).2.1) hf he).elim
   | some n' =>
    rcases Int.lt_trichotomy n.1 n'.1 with h3 | h3 | h3
    · exact (node_case g (by rw [top_node g']; exact h3) hf he).elim
    ·
     obtain ⟨b1, b2, k1, k2, k3, k4⟩ := o.kids g
     obtain ⟨b1', b2', k1', k2', k3', k4'⟩ := o.kids g'
     rw [top_node g] at hf
     rw [top_node g'] at hf'
     have e1 := canon o r f n.2.1 n'.2.1 (by omega) (by omega) k1 k1' (fun val => by rw [← den_low o g val, ← den_low o g' val, h3]; exact he _)
     have e2 := canon o r f n.2.2 n'.2.2 (by omega) (by omega) k2 k2' (fun val => by rw [← den_high o g val, ← den_high o g' val, h3]; exact he _)
     obtain ⟨k, rfl, hk, _⟩ := getM_some g
     obtain ⟨k', rfl, hk', _⟩ := getM_some g'
     have : n = n' := by
      obtain ⟨a, b, d⟩ := n
      obtain ⟨a', b', d'⟩ := n'
      simp only at h3 e1 e2
      rw [h3, e1, e2]
     subst this
     rw [o.uniq k k' n hk hk']
    · exact (node_case g' (by rw [top_node g]; exact h3) hf' (fun val => (he val).symm)).elim
theorem canon_eq {c : Cells} (o : Ok c) (r : Red c) {h h' : Int} (hh : hasM c h = true) (hh' : hasM c h' = true) (he : ∀ val, den c h val = den c h' val) : h = h' :=
 canon o r ((24 - topM c h).toNat + (24 - topM c h').toNat + 1) h h' (by omega) (by omega) hh hh' he
def nodeM (c : Cells) (v low high : Int) : Cells × Int × Nat := if low = high then (c, low, 0) else mkM c (v, low, high)
def atM (c : Cells) (h v : Int) : Int × Int := match getM c h with
 | some n => if n.1 = v then (n.2.1, n.2.2) else (h, h)
 | none => (h, h)
structure Sp where
 c : Cells
 q : Int × Int × Int → Option Int
def putQ (q : Int × Int × Int → Option Int) (k : Int × Int × Int) (h : Int) : Int × Int × Int → Option Int := fun k' => if k = k' then some h else q k'
def min3 (a b c : Int) : Int := min (min a b) c
def hitM (s : Sp) (k : Int × Int × Int) : Option Int := match s.q k with
 | some h => if hasM s.c h then some h else none
 | none => none
def iteM : Nat → Sp → Int → Int → Int → Sp × Int × Nat
 | 0, s, _, _, _ => (s, 0, 99)
 | f + 1, s, a, b, c =>
  if a = 1 ∨ b = c then (s, b, 0) else if a = 0 then (s, c, 0) else
  match hitM s (a, b, c) with
  | some h => (s, h, 0)
  | none =>
   let v := min3 (topM s.c a) (topM s.c b) (topM s.c c)
   let r1 := iteM f s (atM s.c a v).1 (atM s.c b v).1 (atM s.c c v).1
   if r1.2.2 ≠ 0 then (r1.1, 0, r1.2.2) else
   let r2 := iteM f r1.1 (atM s.c a v).2 (atM s.c b v).2 (atM s.c c v).2
   if r2.2.2 ≠ 0 then (r2.1, 0, r2.2.2) else
   let r3 := nodeM r2.1.c v r1.2.1 r2.2.1
   (⟨r3.1, if r3.2.2 = 0 then putQ r2.1.q (a, b, c) r3.2.1 else r2.1.q⟩, r3.2.1, r3.2.2)
end Go.Proofs.YtmlfelbkgoplhaaGreatDoor
namespace Go.Proofs.YtmlfelbkgoplhaaGreatDoor
set_option linter.unusedVariables false
structure SOk (V : Int) (s : Sp) : Prop where
 ok : Ok s.c
 red : Red s.c
 vlt : ∀ k n, s.c.at k = some n → n.1 < V
 mem : ∀ a b c h, s.q (a, b, c) = some h → hasM s.c a = true ∧ hasM s.c b = true ∧ hasM s.c c = true ∧ hasM s.c h = true ∧ (∀ val, den s.c h val = if den s.c a val then den s.c b val else den s.c c val) ∧ min3 (topM s.c a) (topM s.c b) (topM s.c c) ≤ topM s.c h
theorem Ok.top_pos {c : Cells} (o : Ok c) (h : Int) : 0 ≤ topM c h ∧ topM c h ≤ 24 := topM_le o h
structure NodeOk (c : Cells) (v l h : Int) (r : Cells × Int × Nat) : Prop where
 err : r.2.2 = 0
 ext : Ext c r.1
 ok : Ok r.1
 red : Red r.1
 has : hasM r.1 r.2.1 = true
 den : ∀ val, den r.1 r.2.1 val = if val v then den c h val else den c l val
 top : v ≤ topM r.1 r.2.1
 cnt : cnt r.1 ≤ cnt c + 1
 old : ∀ k n, r.1.at k = some n → c.at k = some n ∨ n = (v, l, h)
theorem nodeM_spec {c : Cells} (o : Ok c) (rd : Red c) {v l h : Int} (v0 : 0 ≤ v) (v1 : v < 24) (hl : hasM c l = true) (hh : hasM c h = true) (tl : v < topM c l) (th : v < topM c h) (hr : cnt c < c.length) : NodeOk c v l h (nodeM c v l h) := by
 by_cases e : l = h
 ·
  subst e
  have hn : nodeM c v l l = (c, l, 0) := by unfold nodeM; rw [if_pos rfl]
  rw [hn]
  exact ⟨rfl, Ext.refl c, o, rd, hl, fun val => by simp, by dsimp only; omega, by simp, fun k n h => .inl h⟩
 ·
  have hn : nodeM c v l h = mkM c (v, l, h) := by unfold nodeM; rw [if_neg e]
  have hb : badM c (v, l, h) = 0 := badM_zero v0 v1 hl hh tl th
  have he := mkM_room hb hr
  have hext := mkM_ext c (v, l, h)
  have hok := mkM_ok o (v, l, h)
  have hg := mkM_get he
  have hold : ∀ k n, (mkM c (v, l, h)).1.at k = some n → c.at k = some n ∨ n = (v, l, h) := by
   intro k n hk
   unfold mkM at hk
   rw [if_neg (by simp [hb])] at hk
   split at hk
   · exact .inl hk
   ·
    split at hk
    ·
     rename_i j hj
     rw [at_set _ (freeM_some hj).1] at hk
     split at hk
     · cases hk; exact .inr rfl
     · exact .inl hk
    · exact .inl hk
  rw [hn]
  refine ⟨he, hext, hok, fun k n hk => ?_, has_of_get hg, fun val => ?_, ?_, mkM_cnt c _, hold⟩
  ·
   rcases hold k n hk with h1 | rfl
   · exact rd k n h1
   · exact e
  · rw [den_node hok hg, den_ext o hok hext val l hl, den_ext o hok hext val h hh]
  · rw [top_node hg]; exact Int.le_refl _
structure AtOk (c : Cells) (h v : Int) (r : Int × Int) : Prop where
 has1 : hasM c r.1 = true
 has2 : hasM c r.2 = true
 den1 : ∀ val, den c r.1 val = den c h (setV val v false)
 den2 : ∀ val, den c r.2 val = den c h (setV val v true)
 top1 : v < topM c r.1
 top2 : v < topM c r.2
theorem atM_spec {c : Cells} (o : Ok c) {h v : Int} (hh : hasM c h = true) (hv : v ≤ topM c h) (hv2 : v < 24) : AtOk c h v (atM c h v) := by
 unfold atM
 cases g : getM c h with
 | none =>
  have := top_end g
  exact ⟨hh, hh, fun val => by dsimp only; rw [den_end g, den_end g], fun val => by dsimp only; rw [den_end g, den_end g], by dsimp only; omega, by dsimp only; omega⟩
 | some n =>
  obtain ⟨b1, b2, k1, k2, k3, k4⟩ := o.kids g
  have ht := top_node g
  dsimp only
  split
  ·
   rename_i e
   subst e
   exact ⟨k1, k2, fun val => (den_low o g val).symm, fun val => (den_high o g val).symm, k3, k4⟩
  ·
   rename_i e
   have : v < topM c h := by omega
   exact ⟨hh, hh, fun val => (den_free o _ val h this).symm, fun val => (den_free o _ val h this).symm, this, this⟩
theorem setV_self (val : Int → Bool) (v : Int) : setV val v (val v) = val := by
 funext u; unfold setV; split
 · rename_i e; rw [e]
 · rfl
theorem two_pow_split {V v : Int} (h : v < V) : 2 ^ (V - v).toNat = 2 ^ (V - (v + 1)).toNat + 2 ^ (V - (v + 1)).toNat := by
 have : (V - v).toNat = (V - (v + 1)).toNat + 1 := by omega
 rw [this, Nat.pow_succ]; omega
theorem two_pow_le {a b : Nat} (h : a ≤ b) : 2 ^ a ≤ 2 ^ b := Nat.pow_le_pow_right (by decide) h
theorem two_pow_pos (a : Nat) : 1 ≤ 2 ^ a := Nat.one_le_two_pow
structure IteOk (V : Int) (s : Sp) (a b c : Int) (r : Sp × Int × Nat) : Prop where
 err : r.2.2 = 0
 sok : SOk V r.1
 ext : Ext s.c r.1.c
 has : hasM r.1.c r.2.1 = true
 den : ∀ val, den r.1.c r.2.1 val = if den s.c a val then den s.c b val else den s.c c val
 top : min3 (topM s.c a) (topM s.c b) (topM s.c c) ≤ topM r.1.c r.2.1
 cnt : cnt r.1.c + 1 ≤ cnt s.c + 2 ^ (V - min3 (topM s.c a) (topM s.c b) (topM s.c c)).toNat
theorem hitM_some {s : Sp} {k : Int × Int × Int} {h : Int} (e : hitM s k = some h) : s.q k = some h := by
 unfold hitM at e
 cases h1 : s.q k with
 | none => rw [h1] at e; cases e
 | some h' =>
  rw [h1] at e
  simp only at e
  split at e
  · exact e
  · cases e
theorem iteM_spec (V : Int) (hV : V ≤ 24) : ∀ (f : Nat) (s : Sp) (a b c : Int), SOk V s → hasM s.c a = true → hasM s.c b = true → hasM s.c c = true → (24 - min3 (topM s.c a) (topM s.c b) (topM s.c c)).toNat < f →
 cnt s.c + 2 ^ (V - min3 (topM s.c a) (topM s.c b) (topM s.c c)).toNat ≤ s.c.length + 1 → IteOk V s a b c (iteM f s a b c)
 | 0, _, _, _, _, _, _, _, _, hf, _ => absurd hf (Nat.not_lt_zero _)
 | f + 1, s, a, b, c, so, ha, hb, hc, hf, hr => by
  have ta := so.ok.top_pos a
  have tb := so.ok.top_pos b
  have tc := so.ok.top_pos c
  have p1 := two_pow_pos (V - min3 (topM s.c a) (topM s.c b) (topM s.c c)).toNat
  by_cases h1 : a = 1 ∨ b = c
  ·
   have e : iteM (f + 1) s a b c = (s, b, 0) := by rw [iteM, if_pos h1]
   rw [e]
   refine ⟨rfl, so, Ext.refl _, hb, fun val => ?_, by unfold min3; dsimp only; omega, by dsimp only; omega⟩
   rcases h1 with rfl | rfl
   · simp [den_one]
   · simp
  ·
   by_cases h0 : a = 0
   ·
    have e : iteM (f + 1) s a b c = (s, c, 0) := by rw [iteM, if_neg h1, if_pos h0]
    rw [e]
    refine ⟨rfl, so, Ext.refl _, hc, fun val => ?_, by unfold min3; dsimp only; omega, by dsimp only; omega⟩
    subst h0; simp [den_zero]
   ·
    cases hq : hitM s (a, b, c) with
    | some h =>
     have e : iteM (f + 1) s a b c = (s, h, 0) := by rw [iteM, if_neg h1, if_neg h0, hq]
     rw [e]
     obtain ⟨_, _, _, m1, m2, m3⟩ := so.mem a b c h (hitM_some hq)
     exact ⟨rfl, so, Ext.refl _, m1, m2, m3, by dsimp only; omega⟩
    | none =>
     obtain ⟨v, hv⟩ : ∃ v, v = min3 (topM s.c a) (topM s.c b) (topM s.c c) := ⟨_, rfl⟩
     have hva : v ≤ topM s.c a := by rw [hv]; unfold min3; omega
     have hvb : v ≤ topM s.c b := by rw [hv]; unfold min3; omega
     have hvc : v ≤ topM s.c c := by rw [hv]; unfold min3; omega
     have hv0 : 0 ≤ v := by rw [hv]; unfold min3; omega
     obtain ⟨n, g⟩ : ∃ n, getM s.c a = some n := by
      cases g : getM s.c a with
      | some n => exact ⟨n, rfl⟩
      | none =>
       rcases getM_none_of_has ha g with e | e
       · exact absurd e h0
       · exact absurd (.inl e) h1
     have hvV : v < V := by
      have h2 := top_node g
      obtain ⟨k, rfl, h3, _⟩ := getM_some g
      have := so.vlt k n h3
      omega
     have A := atM_spec so.ok ha hva (by omega)
     have B := atM_spec so.ok hb hvb (by omega)
     have C := atM_spec so.ok hc hvc (by omega)
     have m1 : v + 1 ≤ min3 (topM s.c (atM s.c a v).1) (topM s.c (atM s.c b v).1) (topM s.c (atM s.c c v).1) := by have := A.top1; have := B.top1; have := C.top1; unfold min3; omega
     have w1 := two_pow_le (show (V - min3 (topM s.c (atM s.c a v).1) (topM s.c (atM s.c b v).1) (topM s.c (atM s.c c v).1)).toNat ≤ (V - (v + 1)).toNat by omega)
     have sp := two_pow_split hvV
     have p2 := two_pow_pos (V - (v + 1)).toNat
     rw [← hv] at hr hf
     have r1 := iteM_spec V hV f s (atM s.c a v).1 (atM s.c b v).1 (atM s.c c v).1 so A.has1 B.has1 C.has1 (by omega) (by omega)
     have e : iteM (f + 1) s a b c = (let r1 := iteM f s (atM s.c a v).1 (atM s.c b v).1 (atM s.c c v).1
      if r1.2.2 ≠ 0 then (r1.1, 0, r1.2.2) else
      let r2 := iteM f r1.1 (atM s.c a v).2 (atM s.c b v).2 (atM s.c c v).2
      if r2.2.2 ≠ 0 then (r2.1, 0, r2.2.2) else
      let r3 := nodeM r2.1.c v r1.2.1 r2.2.1
      (⟨r3.1, if r3.2.2 = 0 then putQ r2.1.q (a, b, c) r3.2.1 else r2.1.q⟩, r3.2.1, r3.2.2)) := by rw [iteM, if_neg h1, if_neg h0, hq, hv]
     rw [e]
     generalize iteM f s (atM s.c a v).1 (atM s.c b v).1 (atM s.c c v).1 = R1 at r1 ⊢
     have E1 := r1.ext
     have c1 := r1.cnt
     have ht2 : ∀ {x : Int}, hasM s.c x = true → topM R1.1.c x = topM s.c x := fun hx => E1.top hx
     have m2 : v + 1 ≤ min3 (topM R1.1.c (atM s.c a v).2) (topM R1.1.c (atM s.c b v).2) (topM R1.1.c (atM s.c c v).2) := by
      rw [ht2 A.has2, ht2 B.has2, ht2 C.has2]; have := A.top2; have := B.top2; have := C.top2; unfold min3; omega
     have w2 := two_pow_le (show (V - min3 (topM R1.1.c (atM s.c a v).2) (topM R1.1.c (atM s.c b v).2) (topM R1.1.c (atM s.c c v).2)).toNat ≤ (V - (v + 1)).toNat by omega)
     have L1 := E1.len
     have r2 := iteM_spec V hV f R1.1 (atM s.c a v).2 (atM s.c b v).2 (atM s.c c v).2 r1.sok (E1.has A.has2) (E1.has B.has2) (E1.has C.has2) (by omega) (by omega)
     have er1 : ¬ (R1.2.2 ≠ 0) := by rw [r1.err]; simp
     simp only [if_neg er1]
     generalize iteM f R1.1 (atM s.c a v).2 (atM s.c b v).2 (atM s.c c v).2 = R2 at r2 ⊢
     have E2 := r2.ext
     have c2 := r2.cnt
     have L2 := E2.len
     have er2 : ¬ (R2.2.2 ≠ 0) := by rw [r2.err]; simp
     simp only [if_neg er2]
     have t1 : v < topM R2.1.c R1.2.1 := by rw [E2.top r1.has]; have := r1.top; omega
     have t2 : v < topM R2.1.c R2.2.1 := by have := r2.top; omega
     have r3 := nodeM_spec r2.sok.ok r2.sok.red hv0 (by omega) (E2.has r1.has) r2.has t1 t2 (by omega)
     generalize nodeM R2.1.c v R1.2.1 R2.2.1 = R3 at r3 ⊢
     have E3 := r3.ext
     have c3 := r3.cnt
     have E := (E1.trans E2).trans E3
     have hden : ∀ val, den R3.1 R3.2.1 val = if den s.c a val then den s.c b val else den s.c c val := by
      intro val
      rw [r3.den]
      cases hb' : val v
      ·
       have hs : setV val v false = val := by rw [← hb']; exact setV_self val v
       simp only [Bool.false_eq_true, if_false]
       rw [den_ext r1.sok.ok r2.sok.ok E2 val _ r1.has, r1.den, A.den1, B.den1, C.den1, hs]
      ·
       have hs : setV val v true = val := by rw [← hb']; exact setV_self val v
       simp only [if_true]
       rw [r2.den, den_ext so.ok r1.sok.ok E1 val _ A.has2, den_ext so.ok r1.sok.ok E1 val _ B.has2, den_ext so.ok r1.sok.ok E1 val _ C.has2, A.den2, B.den2, C.den2, hs]
     have D : ∀ {x : Int}, hasM s.c x = true → ∀ val, den R3.1 x val = den s.c x val := fun hx val => den_ext so.ok r3.ok E val _ hx
     rw [if_pos r3.err]
     refine ⟨r3.err, ⟨r3.ok, r3.red, fun k m hk => ?_, fun a' b' c' h' hm => ?_⟩, E, r3.has, hden, by rw [← hv]; exact r3.top, by rw [← hv]; dsimp only; omega⟩
     ·
      rcases r3.old k m hk with h3 | rfl
      · exact r2.sok.vlt k m h3
      · exact hvV
     ·
      unfold putQ at hm
      dsimp only at hm ⊢
      split at hm
      ·
       rename_i e4
       simp only [Prod.mk.injEq] at e4
       obtain ⟨rfl, rfl, rfl⟩ := e4
       cases hm
       refine ⟨E.has ha, E.has hb, E.has hc, r3.has, fun val => ?_, ?_⟩
       · rw [D ha, D hb, D hc]; exact hden val
       · rw [E.top ha, E.top hb, E.top hc, ← hv]; exact r3.top
      ·
       obtain ⟨n1, n2, n3, n4, n5, n6⟩ := r2.sok.mem a' b' c' h' hm
       have D2 : ∀ {x : Int}, hasM R2.1.c x = true → ∀ val, den R3.1 x val = den R2.1.c x val := fun hx val => den_ext r2.sok.ok r3.ok E3 val _ hx
       exact ⟨E3.has n1, E3.has n2, E3.has n3, E3.has n4, fun val => by rw [D2 n1, D2 n2, D2 n3, D2 n4]; exact n5 val, by rw [E3.top n1, E3.top n2, E3.top n3, E3.top n4]; exact n6⟩
end Go.Proofs.YtmlfelbkgoplhaaGreatDoor
namespace Go.Proofs.YtmlfelbkgoplhaaGreatDoor
set_option linter.unusedVariables false
theorem SOk.hit {V : Int} {st : Sp} (so : SOk V st) (a b c : Int) : hitM st (a, b, c) = st.q (a, b, c) := by
 unfold hitM
 cases e : st.q (a, b, c) with
 | none => rfl
 | some h => simp only [(so.mem a b c h e).2.2.2.1, if_true]
theorem iteM_go {V : Int} (hV : V ≤ 24) {f : Nat} {s : Sp} {a b c : Int} (so : SOk V s) (ha : hasM s.c a = true) (hb : hasM s.c b = true) (hc : hasM s.c c = true) (hf : (24 - min3 (topM s.c a) (topM s.c b) (topM s.c c)).toNat < f + 1)
 (hr : cnt s.c + 2 ^ (V - min3 (topM s.c a) (topM s.c b) (topM s.c c)).toNat ≤ s.c.length + 1) (h1 : ¬ (a = 1 ∨ b = c)) (h0 : ¬ a = 0) (hq : s.q (a, b, c) = none) {v : Int} (hv : v = min3 (topM s.c a) (topM s.c b) (topM s.c c)) :
 ∃ R1 R2 R3, R1 = iteM f s (atM s.c a v).1 (atM s.c b v).1 (atM s.c c v).1 ∧ R2 = iteM f R1.1 (atM s.c a v).2 (atM s.c b v).2 (atM s.c c v).2 ∧ R3 = nodeM R2.1.c v R1.2.1 R2.2.1 ∧
  iteM (f + 1) s a b c = (⟨R3.1, putQ R2.1.q (a, b, c) R3.2.1⟩, R3.2.1, 0) ∧ AtOk s.c a v (atM s.c a v) ∧ AtOk s.c b v (atM s.c b v) ∧ AtOk s.c c v (atM s.c c v) ∧ v < V ∧
  (24 - min3 (topM s.c (atM s.c a v).1) (topM s.c (atM s.c b v).1) (topM s.c (atM s.c c v).1)).toNat < f ∧ cnt s.c + 2 ^ (V - min3 (topM s.c (atM s.c a v).1) (topM s.c (atM s.c b v).1) (topM s.c (atM s.c c v).1)).toNat ≤ s.c.length + 1 ∧
  (24 - min3 (topM R1.1.c (atM s.c a v).2) (topM R1.1.c (atM s.c b v).2) (topM R1.1.c (atM s.c c v).2)).toNat < f ∧ cnt R1.1.c + 2 ^ (V - min3 (topM R1.1.c (atM s.c a v).2) (topM R1.1.c (atM s.c b v).2) (topM R1.1.c (atM s.c c v).2)).toNat ≤ R1.1.c.length + 1 ∧
  R1.2.2 = 0 ∧ R2.2.2 = 0 ∧ R3.2.2 = 0 ∧ SOk V R1.1 ∧ SOk V R2.1 ∧ Ext s.c R1.1.c ∧ Ext R1.1.c R2.1.c ∧ hasM R1.1.c R1.2.1 = true ∧ hasM R2.1.c R2.2.1 = true := by
 have ta := so.ok.top_pos a
 have tb := so.ok.top_pos b
 have tc := so.ok.top_pos c
 have hva : v ≤ topM s.c a := by rw [hv]; unfold min3; omega
 have hvb : v ≤ topM s.c b := by rw [hv]; unfold min3; omega
 have hvc : v ≤ topM s.c c := by rw [hv]; unfold min3; omega
 have hv0 : 0 ≤ v := by rw [hv]; unfold min3; omega
 obtain ⟨n, g⟩ : ∃ n, getM s.c a = some n := by
  cases g : getM s.c a with
  | some n => exact ⟨n, rfl⟩
  | none =>
   rcases getM_none_of_has ha g with e | e
   · exact absurd e h0
   · exact absurd (.inl e) h1
 have hvV : v < V := by
  have h2 := top_node g
  obtain ⟨k, rfl, h3, _⟩ := getM_some g
  have := so.vlt k n h3
  omega
 have A := atM_spec so.ok ha hva (by omega)
 have B := atM_spec so.ok hb hvb (by omega)
 have C := atM_spec so.ok hc hvc (by omega)
 have m1 : v + 1 ≤ min3 (topM s.c (atM s.c a v).1) (topM s.c (atM s.c b v).1) (topM s.c (atM s.c c v).1) := by have := A.top1; have := B.top1; have := C.top1; unfold min3; omega
 have w1 := two_pow_le (show (V - min3 (topM s.c (atM s.c a v).1) (topM s.c (atM s.c b v).1) (topM s.c (atM s.c c v).1)).toNat ≤ (V - (v + 1)).toNat by omega)
 have sp := two_pow_split hvV
 have p2 := two_pow_pos (V - (v + 1)).toNat
 rw [← hv] at hr hf
 have r1 := iteM_spec V hV f s (atM s.c a v).1 (atM s.c b v).1 (atM s.c c v).1 so A.has1 B.has1 C.has1 (by omega) (by omega)
 obtain ⟨R1, hR1⟩ : ∃ R, R = iteM f s (atM s.c a v).1 (atM s.c b v).1 (atM s.c c v).1 := ⟨_, rfl⟩
 rw [← hR1] at r1
 have E1 := r1.ext
 have c1 := r1.cnt
 have ht2 : ∀ {x : Int}, hasM s.c x = true → topM R1.1.c x = topM s.c x := fun hx => E1.top hx
 have m2 : v + 1 ≤ min3 (topM R1.1.c (atM s.c a v).2) (topM R1.1.c (atM s.c b v).2) (topM R1.1.c (atM s.c c v).2) := by
  rw [ht2 A.has2, ht2 B.has2, ht2 C.has2]; have := A.top2; have := B.top2; have := C.top2; unfold min3; omega
 have w2 := two_pow_le (show (V - min3 (topM R1.1.c (atM s.c a v).2) (topM R1.1.c (atM s.c b v).2) (topM R1.1.c (atM s.c c v).2)).toNat ≤ (V - (v + 1)).toNat by omega)
 have L1 := E1.len
 have r2 := iteM_spec V hV f R1.1 (atM s.c a v).2 (atM s.c b v).2 (atM s.c c v).2 r1.sok (E1.has A.has2) (E1.has B.has2) (E1.has C.has2) (by omega) (by omega)
 obtain ⟨R2, hR2⟩ : ∃ R, R = iteM f R1.1 (atM s.c a v).2 (atM s.c b v).2 (atM s.c c v).2 := ⟨_, rfl⟩
 rw [← hR2] at r2
 have E2 := r2.ext
 have c2 := r2.cnt
 have L2 := E2.len
 have t1 : v < topM R2.1.c R1.2.1 := by rw [E2.top r1.has]; have := r1.top; omega
 have t2 : v < topM R2.1.c R2.2.1 := by have := r2.top; omega
 have r3 := nodeM_spec r2.sok.ok r2.sok.red hv0 (by omega) (E2.has r1.has) r2.has t1 t2 (by omega)
 refine ⟨R1, R2, _, hR1, hR2, rfl, ?_, A, B, C, hvV, by omega, by omega, by omega, by omega, r1.err, r2.err, r3.err, r1.sok, r2.sok, E1, E2, r1.has, r2.has⟩
 have hh : hitM s (a, b, c) = none := by rw [so.hit]; exact hq
 rw [iteM, if_neg h1, if_neg h0, hh]
 simp only [← hv]
 rw [← hR1, if_neg (by rw [r1.err]; simp), ← hR2, if_neg (by rw [r2.err]; simp), r3.err]
 simp
end Go.Proofs.YtmlfelbkgoplhaaGreatDoor
namespace Go.Proofs.YtmlfelbkgoplhaaGreatDoor
set_option linter.unusedVariables false
def ClD (L : List (Int × Bool)) (val : Int → Bool) : Bool := L.any fun p => val p.1 == p.2
def IsCl (c : Cells) (h : Int) : Prop := ∃ L, ∀ val, den c h val = ClD L val
theorem clD_one (val : Int → Bool) : ClD [(0, true), (0, false)] val = true := by unfold ClD; cases h : val 0 <;> simp [h]
theorem clD_mem {L : List (Int × Bool)} {val : Int → Bool} {p : Int × Bool} (hp : p ∈ L) (h : val p.1 = p.2) : ClD L val = true := by
 unfold ClD
 rw [List.any_eq_true]
 exact ⟨p, hp, by rw [h]; simp⟩
theorem clD_set {L : List (Int × Bool)} {v : Int} {b : Bool} (hn : (v, b) ∉ L) (val : Int → Bool) : ClD L (setV val v b) = ClD (L.filter fun p => decide (p.1 ≠ v)) val := by
 unfold ClD
 rw [Bool.eq_iff_iff, List.any_eq_true, List.any_eq_true]
 constructor
 ·
  rintro ⟨p, hp, h⟩
  by_cases e : p.1 = v
  ·
   refine absurd hp ?_
   unfold setV at h
   rw [if_pos e] at h
   have : p = (v, b) := Prod.ext e (show p.2 = b from (show b = p.2 by simpa using h).symm)
   rw [this]; exact hn
  ·
   refine ⟨p, List.mem_filter.2 ⟨hp, by simpa using e⟩, ?_⟩
   unfold setV at h
   rw [if_neg e] at h
   exact h
 ·
  rintro ⟨p, hp, h⟩
  obtain ⟨h1, h2⟩ := List.mem_filter.1 hp
  have e : ¬ p.1 = v := by simpa using h2
  refine ⟨p, h1, ?_⟩
  unfold setV
  rw [if_neg e]
  exact h
theorem isCl_set {L : List (Int × Bool)} (v : Int) (b : Bool) : ∃ L', ∀ val, ClD L (setV val v b) = ClD L' val := by
 by_cases h : (v, b) ∈ L
 · exact ⟨[(0, true), (0, false)], fun val => by rw [clD_one]; exact clD_mem h (by unfold setV; rw [if_pos rfl])⟩
 · exact ⟨_, fun val => clD_set h val⟩
theorem IsCl.ext {c c' : Cells} (o : Ok c) (o' : Ok c') (e : Ext c c') {h : Int} (hh : hasM c h = true) (k : IsCl c h) : IsCl c' h := by
 obtain ⟨L, hL⟩ := k
 exact ⟨L, fun val => by rw [den_ext o o' e val h hh, hL]⟩
theorem cl_kids {V : Int} {s : Sp} (so : SOk V s) {h : Int} {n : Nd} (g : getM s.c h = some n) (k : IsCl s.c h) : (n.2.1 = 1 ∨ n.2.2 = 1) ∧ IsCl s.c n.2.1 ∧ IsCl s.c n.2.2 := by
 obtain ⟨L, hL⟩ := k
 obtain ⟨b1, b2, k1, k2, k3, k4⟩ := so.ok.kids g
 have hlo : ∀ val, den s.c n.2.1 val = ClD L (setV val n.1 false) := fun val => by rw [← den_low so.ok g, hL]
 have hhi : ∀ val, den s.c n.2.2 val = ClD L (setV val n.1 true) := fun val => by rw [← den_high so.ok g, hL]
 refine ⟨?_, ?_, ?_⟩
 ·
  by_cases e1 : (n.1, false) ∈ L
  · exact .inl (canon_eq so.ok so.red k1 (hasM_one _) fun val => by rw [hlo, den_one]; exact clD_mem e1 (by unfold setV; rw [if_pos rfl]))
  ·
   by_cases e2 : (n.1, true) ∈ L
   · exact .inr (canon_eq so.ok so.red k2 (hasM_one _) fun val => by rw [hhi, den_one]; exact clD_mem e2 (by unfold setV; rw [if_pos rfl]))
   ·
    exfalso
    obtain ⟨j, rfl, hj, _⟩ := getM_some g
    exact so.red j n hj (canon_eq so.ok so.red k1 k2 fun val => by rw [hlo, hhi, clD_set e1, clD_set e2])
 ·
  obtain ⟨L', h'⟩ := isCl_set (L := L) n.1 false
  exact ⟨L', fun val => by rw [hlo, h']⟩
 ·
  obtain ⟨L', h'⟩ := isCl_set (L := L) n.1 true
  exact ⟨L', fun val => by rw [hhi, h']⟩
theorem at_cl {V : Int} {s : Sp} (so : SOk V s) {x v : Int} (k : IsCl s.c x) : IsCl s.c (atM s.c x v).1 ∧ IsCl s.c (atM s.c x v).2 := by
 unfold atM
 cases g : getM s.c x with
 | none => exact ⟨k, k⟩
 | some n =>
  dsimp only
  split
  · exact (cl_kids so g k).2
  · exact ⟨k, k⟩
theorem at_hit {V : Int} {s : Sp} (so : SOk V s) {x v : Int} (k : IsCl s.c x) (ht : topM s.c x = v) (hv : v < 24) : (atM s.c x v).1 = 1 ∨ (atM s.c x v).2 = 1 := by
 unfold atM
 cases g : getM s.c x with
 | none => rw [top_end g] at ht; omega
 | some n =>
  rw [top_node g] at ht
  dsimp only
  rw [if_pos ht]
  exact (cl_kids so g k).1
theorem ite_still (f : Nat) (s : Sp) (a b c : Int) (h : a = 1 ∨ b = c) : (iteM f s a b c).1 = s := by
 cases f with
 | zero => rfl
 | succ f => rw [iteM, if_pos h]
theorem nodeM_cnt (c : Cells) (v l h : Int) : cnt (nodeM c v l h).1 ≤ cnt c + 1 := by
 unfold nodeM
 split
 · exact Nat.le_succ _
 · exact mkM_cnt c _
theorem at_end (c : Cells) (v : Int) : atM c 1 v = (1, 1) := by
 unfold atM
 rw [getM_end c (.inr rfl)]
theorem or_cnt {V : Int} (hV : V ≤ 24) : ∀ (f : Nat) (s : Sp) (a h : Int), SOk V s → hasM s.c a = true → hasM s.c h = true → (24 - min3 (topM s.c a) (topM s.c 1) (topM s.c h)).toNat < f →
 cnt s.c + 2 ^ (V - min3 (topM s.c a) (topM s.c 1) (topM s.c h)).toNat ≤ s.c.length + 1 → IsCl s.c a → IsCl s.c h → cnt (iteM f s a 1 h).1.c ≤ cnt s.c + (V - min3 (topM s.c a) (topM s.c 1) (topM s.c h)).toNat
 | 0, _, _, _, _, _, _, hf, _, _, _ => absurd hf (Nat.not_lt_zero _)
 | f + 1, s, a, h, so, ha, hh, hf, hr, ka, kh => by
  by_cases h1 : a = 1 ∨ (1 : Int) = h
  · rw [ite_still _ _ _ _ _ h1]; omega
  ·
   by_cases h0 : a = 0
   · rw [iteM, if_neg h1, if_pos h0]; dsimp only; omega
   ·
    cases hq : s.q (a, 1, h) with
    | some x =>
     have : hitM s (a, 1, h) = some x := by rw [so.hit]; exact hq
     rw [iteM, if_neg h1, if_neg h0, this]; dsimp only; omega
    | none =>
     obtain ⟨v, hv⟩ : ∃ v, v = min3 (topM s.c a) (topM s.c 1) (topM s.c h) := ⟨_, rfl⟩
     obtain ⟨R1, R2, R3, e1, e2, e3, e, A, B, C, hvV, f1, r1, f2, r2, _, _, _, so1, so2, x1, x2, _, _⟩ := iteM_go hV so ha (hasM_one _) hh hf hr h1 h0 hq hv
     rw [e, ← hv]
     have n3 := nodeM_cnt R2.1.c v R1.2.1 R2.2.1
     rw [← e3] at n3
     show cnt R3.1 ≤ _
     rw [at_end] at e1 e2 f1 r1 f2 r2
     have t1 : topM s.c 1 = 24 := top_end (getM_end _ (.inr rfl))
     have t1' : topM R1.1.c 1 = 24 := top_end (getM_end _ (.inr rfl))
     have ca := at_cl so (v := v) ka
     have ch := at_cl so (v := v) kh
     have hone : ((atM s.c a v).1 = 1 ∨ (atM s.c h v).1 = 1) ∨ ((atM s.c a v).2 = 1 ∨ (atM s.c h v).2 = 1) := by
      by_cases q : topM s.c a = v
      ·
       rcases at_hit so ka q (by omega) with q | q
       · exact .inl (.inl q)
       · exact .inr (.inl q)
      ·
       have q2 : topM s.c h = v := by
        unfold min3 at hv
        omega
       rcases at_hit so kh q2 (by omega) with q | q
       · exact .inl (.inr q)
       · exact .inr (.inr q)
     have hA1 := A.top1; have hA2 := A.top2; have hC1 := C.top1; have hC2 := C.top2
     rcases hone with q | q
     ·
      have s1 : R1.1 = s := by rw [e1]; exact ite_still _ _ _ _ _ (q.imp id (fun w => w.symm))
      have c2 := or_cnt hV f R1.1 (atM s.c a v).2 (atM s.c h v).2 so1 (x1.has A.has2) (x1.has C.has2) f2 r2 (ca.2.ext so.ok so1.ok x1 A.has2) (ch.2.ext so.ok so1.ok x1 C.has2)
      rw [← e2] at c2
      rw [x1.top A.has2, x1.top C.has2, t1'] at c2
      rw [s1] at c2
      unfold min3 at c2
      omega
     ·
      have s2 : R2.1 = R1.1 := by rw [e2]; exact ite_still _ _ _ _ _ (q.imp id (fun w => w.symm))
      have c1 := or_cnt hV f s (atM s.c a v).1 (atM s.c h v).1 so A.has1 C.has1 f1 r1 ca.1 ch.1
      rw [← e1, t1] at c1
      rw [s2] at n3
      unfold min3 at c1
      omega
theorem or_cnt_le {V : Int} (hV : V ≤ 24) {s : Sp} {a h : Int} (so : SOk V s) (ha : hasM s.c a = true) (hh : hasM s.c h = true) (hr : cnt s.c + 2 ^ V.toNat ≤ s.c.length + 1) (ka : IsCl s.c a) (kh : IsCl s.c h) : cnt (iteM 25 s a 1 h).1.c ≤ cnt s.c + V.toNat := by
 have p1 := so.ok.top_pos a; have p2 := so.ok.top_pos h; have p3 := so.ok.top_pos 1
 have hp : 0 ≤ min3 (topM s.c a) (topM s.c 1) (topM s.c h) := by unfold min3; omega
 have h1 := two_pow_le (show (V - min3 (topM s.c a) (topM s.c 1) (topM s.c h)).toNat ≤ V.toNat by omega)
 have := or_cnt hV 25 s a h so ha hh (by omega) (by omega) ka kh
 omega
end Go.Proofs.YtmlfelbkgoplhaaGreatDoor
namespace Go.Proofs.YtmlfelbkgoplhaaGreatDoor
set_option linter.unusedVariables false
structure COk (V : Int) (c : Cells) : Prop where
 ok : Ok c
 red : Red c
 vlt : ∀ k n, c.at k = some n → n.1 < V
theorem SOk.cells {V : Int} {s : Sp} (h : SOk V s) : COk V s.c := ⟨h.ok, h.red, h.vlt⟩
theorem SOk.more {V : Int} {c c' : Cells} {q : Int × Int × Int → Option Int} (h : SOk V ⟨c, q⟩) (e : Ext c c') (o : COk V c') : SOk V ⟨c', q⟩ := by
 refine ⟨o.ok, o.red, o.vlt, fun a b x y hm => ?_⟩
 obtain ⟨n1, n2, n3, n4, n5, n6⟩ := h.mem a b x y hm
 have D : ∀ {z : Int}, hasM c z = true → ∀ val, den c' z val = den c z val := fun hx val => den_ext h.ok o.ok e val _ hx
 exact ⟨e.has n1, e.has n2, e.has n3, e.has n4, fun val => by dsimp only; rw [D n1, D n2, D n3, D n4]; exact n5 val, by dsimp only at n6 ⊢; rw [e.top n1, e.top n2, e.top n3, e.top n4]; exact n6⟩
theorem SOk.none {V : Int} {c : Cells} (o : COk V c) : SOk V ⟨c, fun _ => none⟩ := ⟨o.ok, o.red, o.vlt, fun _ _ _ _ h => by cases h⟩
theorem COk.empty (V : Int) (R : Nat) : COk V (List.replicate R none) := by
 have hat : ∀ k, Cells.at (List.replicate R none) k = none := fun k => by unfold Cells.at; simp only [List.getD_eq_getElem?_getD, List.getElem?_replicate]; split <;> rfl
 exact ⟨⟨fun k n h => (by rw [hat] at h; cases h), fun k n h => (by rw [hat] at h; cases h), fun k n h => (by rw [hat] at h; cases h), fun j k n h => (by rw [hat] at h; cases h)⟩, fun k n h => (by rw [hat] at h; cases h), fun k n h => (by rw [hat] at h; cases h)⟩
theorem COk.sweep {V : Int} {c : Cells} (o : COk V c) (l : List Int) : COk V (sweepM c l) :=
 ⟨sweepM_ok o.ok l, fun k n h => o.red k n (sweepM_some.1 h).2, fun k n h => o.vlt k n (sweepM_some.1 h).2⟩
abbrev Done := Int → Option Int
def putD (d : Done) (h x : Int) : Done := fun k => if h = k then some x else d k
structure DOk (c : Cells) (d : Done) (v : Int) (is : Bool) : Prop where
 at_ : ∀ k x, d k = some x → hasM c k = true ∧ hasM c x = true ∧ (∀ val, den c x val = den c k (setV val v is)) ∧ topM c k ≤ topM c x
theorem DOk.ext {c c' : Cells} {d : Done} {v : Int} {is : Bool} (h : DOk c d v is) (o : Ok c) (o' : Ok c') (e : Ext c c') : DOk c' d v is :=
 ⟨fun k x hk => by
  obtain ⟨h1, h2, h3, h4⟩ := h.at_ k x hk
  exact ⟨e.has h1, e.has h2, fun val => by rw [den_ext o o' e val _ h2, den_ext o o' e _ _ h1]; exact h3 val, by rw [e.top h1, e.top h2]; exact h4⟩⟩
end Go.Proofs.YtmlfelbkgoplhaaGreatDoor
namespace Go.Proofs.YtmlfelbkgoplhaaGreatDoor
set_option linter.unusedVariables false
abbrev FnB := (Int → Bool) → Bool
def oneIf (b : Bool) : Nat := if b then 1 else 0
def sumS (V : Int) : Nat → FnB → (Int → Bool) → Nat
 | 0, D, val => oneIf (D val)
 | k + 1, D, val => sumS V k D (setV val (V - (k + 1 : Nat)) false) + sumS V k D (setV val (V - (k + 1 : Nat)) true)
theorem sumS_congr {V : Int} : ∀ (k : Nat) (D D' : FnB) (val : Int → Bool), (∀ val', (∀ u, u < V - k → val' u = val u) → D val' = D' val') → sumS V k D val = sumS V k D' val
 | 0, D, D', val, h => by rw [sumS, sumS, h val (fun _ _ => rfl)]
 | k + 1, D, D', val, h => by
  have key : ∀ b, sumS V k D (setV val (V - (k + 1 : Nat)) b) = sumS V k D' (setV val (V - (k + 1 : Nat)) b) := fun b => sumS_congr k D D' _ (fun val' hv => h val' (fun u hu => by
   rw [hv u (by omega)]; unfold setV; rw [if_neg (by omega)]))
  rw [sumS, sumS, key, key]
theorem sumS_le {V : Int} : ∀ (k : Nat) (D : FnB) (val : Int → Bool), sumS V k D val ≤ 2 ^ k
 | 0, D, val => by unfold sumS oneIf; split <;> simp
 | k + 1, D, val => by
  have h1 := sumS_le (V := V) k D (setV val (V - (k + 1 : Nat)) false)
  have h2 := sumS_le (V := V) k D (setV val (V - (k + 1 : Nat)) true)
  rw [sumS, Nat.pow_succ]; omega
def cutT (V : Int) (c : Cells) (h : Int) : Int := min (topM c h) V
def cntH (V : Int) : Nat → Cells → Int → Nat
 | 0, _, _ => 0
 | f + 1, c, h => match getM c h with
  | none => h.toNat
  | some n => cntH V f c n.2.1 * 2 ^ (cutT V c n.2.1 - n.1 - 1).toNat + cntH V f c n.2.2 * 2 ^ (cutT V c n.2.2 - n.1 - 1).toNat
def cntX (V : Int) (c : Cells) (h : Int) : Nat := cntH V 25 c h
theorem cntH_none {V : Int} {f : Nat} {c : Cells} {h : Int} (e : getM c h = none) : cntH V (f + 1) c h = h.toNat := by simp only [cntH, e]
theorem cntH_some {V : Int} {f : Nat} {c : Cells} {h : Int} {n : Nd} (e : getM c h = some n) : cntH V (f + 1) c h = cntH V f c n.2.1 * 2 ^ (cutT V c n.2.1 - n.1 - 1).toNat + cntH V f c n.2.2 * 2 ^ (cutT V c n.2.2 - n.1 - 1).toNat := by simp only [cntH, e]
theorem cntH_more {V : Int} {c : Cells} (o : Ok c) : ∀ (f g : Nat) (h : Int), (24 - topM c h).toNat < f → f ≤ g → cntH V f c h = cntH V g c h
 | 0, _, _, h1, _ => absurd h1 (Nat.not_lt_zero _)
 | f + 1, 0, _, _, h2 => absurd h2 (by omega)
 | f + 1, g + 1, h, h1, h2 => by
  cases e : getM c h with
  | none => rw [cntH_none e, cntH_none e]
  | some n =>
   obtain ⟨k1, k2, _, _, k3, k4⟩ := o.kids e
   rw [top_node e] at h1
   rw [cntH_some e, cntH_some e, cntH_more o f g n.2.1 (by omega) (by omega), cntH_more o f g n.2.2 (by omega) (by omega)]
theorem cnt_node {V : Int} {c : Cells} (o : Ok c) {h : Int} {n : Nd} (e : getM c h = some n) : cntX V c h = cntX V c n.2.1 * 2 ^ (cutT V c n.2.1 - n.1 - 1).toNat + cntX V c n.2.2 * 2 ^ (cutT V c n.2.2 - n.1 - 1).toNat := by
 obtain ⟨k1, k2, _, _, k3, k4⟩ := o.kids e
 show cntH V (24 + 1) c h = cntH V 25 c n.2.1 * _ + cntH V 25 c n.2.2 * _
 rw [cntH_some e, cntH_more o 24 25 n.2.1 (by omega) (by omega), cntH_more o 24 25 n.2.2 (by omega) (by omega)]
theorem cnt_end {V : Int} {c : Cells} {h : Int} (e : getM c h = none) : cntX V c h = h.toNat := cntH_none (f := 24) e
theorem sum_cnt {V : Int} {c : Cells} (hV : V ≤ 24) (o : COk V c) : ∀ (k : Nat) (h : Int) (val : Int → Bool), hasM c h = true → V - k ≤ cutT V c h → sumS V k (den c h) val = cntX V c h * 2 ^ (cutT V c h - (V - k)).toNat
 | 0, h, val, hh, hc => by
  have e : getM c h = none := by
   cases g : getM c h with
   | none => rfl
   | some n =>
    obtain ⟨j, rfl, h1, _⟩ := getM_some g
    have := o.vlt j n h1
    have := top_node g
    unfold cutT at hc; omega
  have hct : (cutT V c h - (V - (0 : Nat))).toNat = 0 := by unfold cutT; omega
  rw [sumS, den_end e, cnt_end e, hct]
  rcases getM_none_of_has hh e with rfl | rfl <;> rfl
 | k + 1, h, val, hh, hc => by
  by_cases he : cutT V c h = V - (k + 1 : Nat)
  ·
   have ht : topM c h = V - (k + 1 : Nat) := by unfold cutT at he; omega
   cases g : getM c h with
   | none => have := top_end g; omega
   | some n =>
    obtain ⟨b1, b2, k1, k2, k3, k4⟩ := o.ok.kids g
    have h1 := top_node g
    have hn : n.1 = V - (k + 1 : Nat) := by omega
    have lo := sum_cnt hV o k n.2.1 (setV val n.1 false) k1 (by unfold cutT; omega)
    have hi := sum_cnt hV o k n.2.2 (setV val n.1 true) k2 (by unfold cutT; omega)
    have c1 : sumS V k (den c h) (setV val n.1 false) = sumS V k (den c n.2.1) (setV val n.1 false) := sumS_congr k _ _ _ (fun val' hv => by
     rw [den_node o.ok g, hv n.1 (by omega)]; simp [setV])
    have c2 : sumS V k (den c h) (setV val n.1 true) = sumS V k (den c n.2.2) (setV val n.1 true) := sumS_congr k _ _ _ (fun val' hv => by
     rw [den_node o.ok g, hv n.1 (by omega)]; simp [setV])
    rw [sumS, ← hn, c1, c2, lo, hi, cnt_node o.ok g, show (cutT V c h - n.1).toNat = 0 by omega, Nat.pow_zero, Nat.mul_one,
     show cutT V c n.2.1 - (V - (k : Nat)) = cutT V c n.2.1 - n.1 - 1 by omega, show cutT V c n.2.2 - (V - (k : Nat)) = cutT V c n.2.2 - n.1 - 1 by omega]
  ·
   have i1 := sum_cnt hV o k h (setV val (V - (k + 1 : Nat)) false) hh (by omega)
   have i2 := sum_cnt hV o k h (setV val (V - (k + 1 : Nat)) true) hh (by omega)
   rw [sumS, i1, i2, ← Nat.mul_add]
   congr 1
   rw [show (cutT V c h - (V - (k + 1 : Nat))).toNat = (cutT V c h - (V - (k : Nat))).toNat + 1 by omega, Nat.pow_succ]; omega
theorem cnt_all {V : Nat} {c : Cells} (hV : V ≤ 24) (o : COk V c) {h : Int} (hh : hasM c h = true) (val : Int → Bool) : cntX V c h * 2 ^ (cutT V c h).toNat = sumS V V (den c h) val := by
 have t := (o.ok.top_pos h).1
 rw [sum_cnt (by omega) o V h val hh (by unfold cutT; omega), show cutT V c h - ((V : Int) - (V : Nat)) = cutT V c h by omega]
theorem cnt_bound {V : Nat} {c : Cells} (hV : V ≤ 24) (o : COk V c) {h : Int} (hh : hasM c h = true) : cntX V c h * 2 ^ (cutT V c h).toNat ≤ 2 ^ 24 := by
 rw [cnt_all hV o hh (fun _ => false)]
 exact Nat.le_trans (sumS_le _ _ _) (Nat.pow_le_pow_right (by decide) hV)
end Go.Proofs.YtmlfelbkgoplhaaGreatDoor
