import Derived.Test.YtmlfelbkgoplhaaGreatDoorZlPkE
set_option linter.unusedVariables false
namespace Go.Proofs.YtmlfelbkgoplhaaGreatDoor
def zde : Nat → Cells → Int → (Int → Bool) → Bool
 | 0, _, _, _ => false
 | f + 1, c, h, val => match getM c h with
  | none => h == 1
  | some n => if val n.1 then zde f c n.2.2 val else zde f c n.2.1 val
theorem zdR {f : Nat} {c : Cells} {h : Int} (e : getM c h = none) (val : Int → Bool) : zde (f + 1) c h val = (h == 1) := by simp only [zde, e]
theorem zdF {f : Nat} {c : Cells} {h : Int} {n : Nd} (e : getM c h = some n) (val : Int → Bool) : zde (f + 1) c h val = if val n.1 then zde f c n.2.2 val else zde f c n.2.1 val := by simp only [zde, e]
def den (c : Cells) (h : Int) (val : Int → Bool) : Bool := zde 25 c h val
def yG (val : Int → Bool) (v : Int) (b : Bool) : Int → Bool := fun u => if u = v then b else val u
theorem yg {c : Cells} {h : Int} {n : Nd} (g : getM c h = some n) : zi c h = n.1 := by unfold zi; rw [g]
theorem jZ {c : Cells} {h : Int} (g : getM c h = none) : zi c h = 24 := by unfold zi; rw [g]
theorem Ok.kids {c : Cells} (o : Ok c) {h : Int} {n : Nd} (g : getM c h = some n) :
 0 ≤ n.1 ∧ n.1 < 24 ∧ zy c n.2.1 = true ∧ zy c n.2.2 = true ∧ n.1 < zi c n.2.1 ∧ n.1 < zi c n.2.2 := by
 obtain ⟨k, rfl, h1, _⟩ := getM_some g
 exact ⟨(o.var k n h1).1, (o.var k n h1).2, (o.low k n h1).1, (o.high k n h1).1, (o.low k n h1).2, (o.high k n h1).2⟩
theorem zjl {c : Cells} {h : Int} {n : Nd} (g : getM c h = some n) : zy c h = true := by unfold zy; rw [g]; simp
theorem zbX {c : Cells} (o : Ok c) (val : Int → Bool) : ∀ (f g : Nat) (h : Int), (24 - zi c h).toNat < f → f ≤ g → zde f c h val = zde g c h val
 | 0, _, _, h1, _ => absurd h1 (Nat.not_lt_zero _)
 | f + 1, 0, _, _, h2 => absurd h2 (by omega)
 | f + 1, g + 1, h, h1, h2 => by
  cases e : getM c h with
  | none => rw [zdR e, zdR e]
  | some n =>
   obtain ⟨k1, k2, _, _, k3, k4⟩ := o.kids e
   rw [yg e] at h1
   rw [zdF e, zdF e, zbX o val f g n.2.1 (by omega) (by omega), zbX o val f g n.2.2 (by omega) (by omega)]
theorem xZ {c : Cells} (o : Ok c) {h : Int} {n : Nd} (e : getM c h = some n) (val : Int → Bool) : den c h val = if val n.1 then den c n.2.2 val else den c n.2.1 val := by
 obtain ⟨k1, k2, _, _, k3, k4⟩ := o.kids e
 show zde (24 + 1) c h val = if val n.1 then zde 25 c n.2.2 val else zde 25 c n.2.1 val
 rw [zdF e, zbX o val 24 25 n.2.1 (by omega) (by omega), zbX o val 24 25 n.2.2 (by omega) (by omega)]
theorem xq {c : Cells} {h : Int} (e : getM c h = none) (val : Int → Bool) : den c h val = (h == 1) := zdR (f := 24) e val
theorem zaJ (c : Cells) (val : Int → Bool) : den c 0 val = false := by rw [xq (jG c (.inl rfl))]; rfl
theorem za2 (c : Cells) (val : Int → Bool) : den c 1 val = true := by rw [xq (jG c (.inr rfl))]; rfl
theorem zfn {c : Cells} (o : Ok c) {Q : Int → Prop} (h0 : ∀ h, getM c h = none → Q h) (h1 : ∀ h n, getM c h = some n → Q n.2.1 → Q n.2.2 → Q h) : ∀ h, Q h := by
 have key : ∀ (f : Nat) (h : Int), (24 - zi c h).toNat < f → Q h := by
  intro f
  induction f with
  | zero => intro h hf; exact absurd hf (Nat.not_lt_zero _)
  | succ f ih =>
   intro h hf
   cases e : getM c h with
   | none => exact h0 h e
   | some n =>
    obtain ⟨k1, k2, _, _, k3, k4⟩ := o.kids e
    rw [yg e] at hf
    exact h1 h n e (ih _ (by omega)) (ih _ (by omega))
 exact fun h => key _ h (Nat.lt_succ_self _)
theorem ql {c c' : Cells} (o : Ok c) (o' : Ok c') (e : Ext c c') (val : Int → Bool) : ∀ h, zy c h = true → den c' h val = den c h val := by
 refine zfn o (Q := fun h => zy c h = true → den c' h val = den c h val) (fun h g hh => ?_) (fun h n g ih1 ih2 hh => ?_)
 · rw [xq g, xq ((e.get_eq hh).trans g)]
 ·
  obtain ⟨_, _, k1, k2, _, _⟩ := o.kids g
  rw [xZ o g, xZ o' (e.get g), ih1 k1, ih2 k2]
theorem zaz {c : Cells} (o : Ok c) {v : Int} (b : Bool) (val : Int → Bool) : ∀ h, v < zi c h → den c h (yG val v b) = den c h val := by
 refine zfn o (Q := fun h => v < zi c h → den c h (yG val v b) = den c h val) (fun h g hv => ?_) (fun h n g ih1 ih2 hv => ?_)
 · rw [xq g, xq g]
 ·
  obtain ⟨_, _, k1, k2, k3, k4⟩ := o.kids g
  rw [yg g] at hv
  rw [xZ o g, xZ o g, ih1 (by omega), ih2 (by omega)]
  have : yG val v b n.1 = val n.1 := by unfold yG; rw [if_neg (by omega)]
  rw [this]
theorem zbK {c : Cells} (o : Ok c) {h : Int} {n : Nd} (g : getM c h = some n) (val : Int → Bool) : den c h (yG val n.1 true) = den c n.2.2 val := by
 obtain ⟨_, _, k1, k2, k3, k4⟩ := o.kids g
 rw [xZ o g, zaz o true val n.2.2 k4]
 simp [yG]
theorem zc9 {c : Cells} (o : Ok c) {h : Int} {n : Nd} (g : getM c h = some n) (val : Int → Bool) : den c h (yG val n.1 false) = den c n.2.1 val := by
 obtain ⟨_, _, k1, k2, k3, k4⟩ := o.kids g
 rw [xZ o g, zaz o false val n.2.1 k3]
 simp [yG]
def Red (c : Cells) : Prop := ∀ k n, c.at k = some n → n.2.1 ≠ n.2.2
theorem canon {c : Cells} (o : Ok c) (r : Red c) : ∀ (f : Nat) (h h' : Int), (24 - zi c h).toNat < f → (24 - zi c h').toNat < f → zy c h = true → zy c h' = true → (∀ val, den c h val = den c h' val) → h = h'
 | 0, _, _, h1, _, _, _, _ => absurd h1 (Nat.not_lt_zero _)
 | f + 1, h, h', hf, hf', hh, hh', he => by
  have node_case : ∀ {x x' : Int} {n : Nd}, getM c x = some n → n.1 < zi c x' → (24 - zi c x).toNat < f + 1 → (∀ val, den c x val = den c x' val) → False := by
   intro x x' n g hlt hx hd
   obtain ⟨k, rfl, hk, _⟩ := getM_some g
   obtain ⟨b1, b2, k1, k2, k3, k4⟩ := o.kids g
   rw [yg g] at hx
   refine r k n hk (canon o r f n.2.1 n.2.2 (by omega) (by omega) k1 k2 (fun val => ?_))
   rw [← zc9 o g val, ← zbK o g val, hd, hd, zaz o _ _ _ hlt, zaz o _ _ _ hlt]
  cases g : getM c h with
  | none =>
   cases g' : getM c h' with
   | none =>
    have h2 := he (fun _ => true)
    rw [xq g, xq g'] at h2
    rcases yE hh g with rfl | rfl <;> rcases yE hh' g' with rfl | rfl
    · rfl
    · exact absurd h2 (by decide)
    · exact absurd h2 (by decide)
    · rfl
   | some n' => exact (node_case g' (by rw [jZ g]; exact (o.kids g').2.1) hf' (fun val => (he val).symm)).elim
  | some n =>
   cases g' : getM c h' with
   | none => exact (node_case g (by rw [jZ g']; exact (o.kids g).2.1) hf he).elim
   | some n' =>
    rcases Int.lt_trichotomy n.1 n'.1 with h3 | h3 | h3
    · exact (node_case g (by rw [yg g']; exact h3) hf he).elim
    ·
     obtain ⟨b1, b2, k1, k2, k3, k4⟩ := o.kids g
     obtain ⟨b1', b2', k1', k2', k3', k4'⟩ := o.kids g'
     rw [yg g] at hf
     rw [yg g'] at hf'
     have e1 := canon o r f n.2.1 n'.2.1 (by omega) (by omega) k1 k1' (fun val => by rw [← zc9 o g val, ← zc9 o g' val, h3]; exact he _)
     have e2 := canon o r f n.2.2 n'.2.2 (by omega) (by omega) k2 k2' (fun val => by rw [← zbK o g val, ← zbK o g' val, h3]; exact he _)
     obtain ⟨k, rfl, hk, _⟩ := getM_some g
     obtain ⟨k', rfl, hk', _⟩ := getM_some g'
     have : n = n' := by
      obtain ⟨a, b, d⟩ := n
      obtain ⟨a', b', d'⟩ := n'
      simp only at h3 e1 e2
      rw [h3, e1, e2]
     subst this
     rw [o.uniq k k' n hk hk']
    · exact (node_case g' (by rw [yg g]; exact h3) hf' (fun val => (he val).symm)).elim
theorem zfx {c : Cells} (o : Ok c) (r : Red c) {h h' : Int} (hh : zy c h = true) (hh' : zy c h' = true) (he : ∀ val, den c h val = den c h' val) : h = h' :=
 canon o r ((24 - zi c h).toNat + (24 - zi c h').toNat + 1) h h' (by omega) (by omega) hh hh' he
def xM (c : Cells) (v low high : Int) : Cells × Int × Nat := if low = high then (c, low, 0) else mkM c (v, low, high)
def atM (c : Cells) (h v : Int) : Int × Int := match getM c h with
 | some n => if n.1 = v then (n.2.1, n.2.2) else (h, h)
 | none => (h, h)
structure Sp where
 c : Cells
 q : Int × Int × Int → Option Int
def zk5 (q : Int × Int × Int → Option Int) (k : Int × Int × Int) (h : Int) : Int × Int × Int → Option Int := fun k' => if k = k' then some h else q k'
def yC (a b c : Int) : Int := min (min a b) c
def zhH (s : Sp) (k : Int × Int × Int) : Option Int := match s.q k with
 | some h => if zy s.c h then some h else none
 | none => none
def qo : Nat → Sp → Int → Int → Int → Sp × Int × Nat
 | 0, s, _, _, _ => (s, 0, 99)
 | f + 1, s, a, b, c =>
  if a = 1 ∨ b = c then (s, b, 0) else if a = 0 then (s, c, 0) else
  match zhH s (a, b, c) with
  | some h => (s, h, 0)
  | none =>
   let v := yC (zi s.c a) (zi s.c b) (zi s.c c)
   let r1 := qo f s (atM s.c a v).1 (atM s.c b v).1 (atM s.c c v).1
   if r1.2.2 ≠ 0 then (r1.1, 0, r1.2.2) else
   let r2 := qo f r1.1 (atM s.c a v).2 (atM s.c b v).2 (atM s.c c v).2
   if r2.2.2 ≠ 0 then (r2.1, 0, r2.2.2) else
   let r3 := xM r2.1.c v r1.2.1 r2.2.1
   (⟨r3.1, if r3.2.2 = 0 then zk5 r2.1.q (a, b, c) r3.2.1 else r2.1.q⟩, r3.2.1, r3.2.2)
structure SOk (V : Int) (s : Sp) : Prop where
 ok : Ok s.c
 red : Red s.c
 vlt : ∀ k n, s.c.at k = some n → n.1 < V
 mem : ∀ a b c h, s.q (a, b, c) = some h → zy s.c a = true ∧ zy s.c b = true ∧ zy s.c c = true ∧ zy s.c h = true ∧ (∀ val, den s.c h val = if den s.c a val then den s.c b val else den s.c c val) ∧ yC (zi s.c a) (zi s.c b) (zi s.c c) ≤ zi s.c h
theorem Ok.yI {c : Cells} (o : Ok c) (h : Int) : 0 ≤ zi c h ∧ zi c h ≤ 24 := zcN o h
structure zor (c : Cells) (v l h : Int) (r : Cells × Int × Nat) : Prop where
 err : r.2.2 = 0
 ext : Ext c r.1
 ok : Ok r.1
 red : Red r.1
 has : zy r.1 r.2.1 = true
 den : ∀ val, den r.1 r.2.1 val = if val v then den c h val else den c l val
 top : v ≤ zi r.1 r.2.1
 cnt : cnt r.1 ≤ cnt c + 1
 old : ∀ k n, r.1.at k = some n → c.at k = some n ∨ n = (v, l, h)
theorem za3 {c : Cells} (o : Ok c) (rd : Red c) {v l h : Int} (v0 : 0 ≤ v) (v1 : v < 24) (hl : zy c l = true) (hh : zy c h = true) (tl : v < zi c l) (th : v < zi c h) (hr : cnt c < c.length) : zor c v l h (xM c v l h) := by
 by_cases e : l = h
 ·
  subst e
  have hn : xM c v l l = (c, l, 0) := by unfold xM; rw [if_pos rfl]
  rw [hn]
  exact ⟨rfl, Ext.refl c, o, rd, hl, fun val => by simp, by dsimp only; omega, by simp, fun k n h => .inl h⟩
 ·
  have hn : xM c v l h = mkM c (v, l, h) := by unfold xM; rw [if_neg e]
  have hb : kY c (v, l, h) = 0 := zf7 v0 v1 hl hh tl th
  have he := znd hb hr
  have hext := zny c (v, l, h)
  have hok := zoy o (v, l, h)
  have hg := znH he
  have hold : ∀ k n, (mkM c (v, l, h)).1.at k = some n → c.at k = some n ∨ n = (v, l, h) := by
   intro k n hk
   unfold mkM at hk
   rw [if_neg (by simp [hb])] at hk
   split at hk
   · exact .inl hk
   ·
    split at hk
    ·
     rename_i j hj
     rw [at_set _ (yX hj).1] at hk
     split at hk
     · cases hk; exact .inr rfl
     · exact .inl hk
    · exact .inl hk
  rw [hn]
  refine ⟨he, hext, hok, fun k n hk => ?_, zjl hg, fun val => ?_, ?_, zkb c _, hold⟩
  ·
   rcases hold k n hk with h1 | rfl
   · exact rd k n h1
   · exact e
  · rw [xZ hok hg, ql o hok hext val l hl, ql o hok hext val h hh]
  · rw [yg hg]; exact Int.le_refl _
structure AtOk (c : Cells) (h v : Int) (r : Int × Int) : Prop where
 zb1 : zy c r.1 = true
 jJ : zy c r.2 = true
 den1 : ∀ val, den c r.1 val = den c h (yG val v false)
 den2 : ∀ val, den c r.2 val = den c h (yG val v true)
 zfT : v < zi c r.1
 zfX : v < zi c r.2
theorem jF {c : Cells} (o : Ok c) {h v : Int} (hh : zy c h = true) (hv : v ≤ zi c h) (hv2 : v < 24) : AtOk c h v (atM c h v) := by
 unfold atM
 cases g : getM c h with
 | none =>
  have := jZ g
  exact ⟨hh, hh, fun val => by dsimp only; rw [xq g, xq g], fun val => by dsimp only; rw [xq g, xq g], by dsimp only; omega, by dsimp only; omega⟩
 | some n =>
  obtain ⟨b1, b2, k1, k2, k3, k4⟩ := o.kids g
  have ht := yg g
  dsimp only
  split
  ·
   rename_i e
   subst e
   exact ⟨k1, k2, fun val => (zc9 o g val).symm, fun val => (zbK o g val).symm, k3, k4⟩
  ·
   rename_i e
   have : v < zi c h := by omega
   exact ⟨hh, hh, fun val => (zaz o _ val h this).symm, fun val => (zaz o _ val h this).symm, this, this⟩
theorem zaL (val : Int → Bool) (v : Int) : yG val v (val v) = val := by
 funext u; unfold yG; split
 · rename_i e; rw [e]
 · rfl
theorem zam {V v : Int} (h : v < V) : 2 ^ (V - v).toNat = 2 ^ (V - (v + 1)).toNat + 2 ^ (V - (v + 1)).toNat := by
 have : (V - v).toNat = (V - (v + 1)).toNat + 1 := by omega
 rw [this, Nat.pow_succ]; omega
theorem xA {a b : Nat} (h : a ≤ b) : 2 ^ a ≤ 2 ^ b := Nat.pow_le_pow_right (by decide) h
theorem two_pow_pos (a : Nat) : 1 ≤ 2 ^ a := Nat.one_le_two_pow
structure IteOk (V : Int) (s : Sp) (a b c : Int) (r : Sp × Int × Nat) : Prop where
 err : r.2.2 = 0
 sok : SOk V r.1
 ext : Ext s.c r.1.c
 has : zy r.1.c r.2.1 = true
 den : ∀ val, den r.1.c r.2.1 val = if den s.c a val then den s.c b val else den s.c c val
 top : yC (zi s.c a) (zi s.c b) (zi s.c c) ≤ zi r.1.c r.2.1
 cnt : cnt r.1.c + 1 ≤ cnt s.c + 2 ^ (V - yC (zi s.c a) (zi s.c b) (zi s.c c)).toNat
theorem zk0 {s : Sp} {k : Int × Int × Int} {h : Int} (e : zhH s k = some h) : s.q k = some h := by
 unfold zhH at e
 cases h1 : s.q k with
 | none => rw [h1] at e; cases e
 | some h' =>
  rw [h1] at e
  simp only at e
  split at e
  · exact e
  · cases e
theorem zay (V : Int) (hV : V ≤ 24) : ∀ (f : Nat) (s : Sp) (a b c : Int), SOk V s → zy s.c a = true → zy s.c b = true → zy s.c c = true → (24 - yC (zi s.c a) (zi s.c b) (zi s.c c)).toNat < f →
 cnt s.c + 2 ^ (V - yC (zi s.c a) (zi s.c b) (zi s.c c)).toNat ≤ s.c.length + 1 → IteOk V s a b c (qo f s a b c)
 | 0, _, _, _, _, _, _, _, _, hf, _ => absurd hf (Nat.not_lt_zero _)
 | f + 1, s, a, b, c, so, ha, hb, hc, hf, hr => by
  have ta := so.ok.yI a
  have tb := so.ok.yI b
  have tc := so.ok.yI c
  have p1 := two_pow_pos (V - yC (zi s.c a) (zi s.c b) (zi s.c c)).toNat
  by_cases h1 : a = 1 ∨ b = c
  ·
   have e : qo (f + 1) s a b c = (s, b, 0) := by rw [qo, if_pos h1]
   rw [e]
   refine ⟨rfl, so, Ext.refl _, hb, fun val => ?_, by unfold yC; dsimp only; omega, by dsimp only; omega⟩
   rcases h1 with rfl | rfl
   · simp [za2]
   · simp
  ·
   by_cases h0 : a = 0
   ·
    have e : qo (f + 1) s a b c = (s, c, 0) := by rw [qo, if_neg h1, if_pos h0]
    rw [e]
    refine ⟨rfl, so, Ext.refl _, hc, fun val => ?_, by unfold yC; dsimp only; omega, by dsimp only; omega⟩
    subst h0; simp [zaJ]
   ·
    cases hq : zhH s (a, b, c) with
    | some h =>
     have e : qo (f + 1) s a b c = (s, h, 0) := by rw [qo, if_neg h1, if_neg h0, hq]
     rw [e]
     obtain ⟨_, _, _, m1, m2, m3⟩ := so.mem a b c h (zk0 hq)
     exact ⟨rfl, so, Ext.refl _, m1, m2, m3, by dsimp only; omega⟩
    | none =>
     obtain ⟨v, hv⟩ : ∃ v, v = yC (zi s.c a) (zi s.c b) (zi s.c c) := ⟨_, rfl⟩
     have hva : v ≤ zi s.c a := by rw [hv]; unfold yC; omega
     have hvb : v ≤ zi s.c b := by rw [hv]; unfold yC; omega
     have hvc : v ≤ zi s.c c := by rw [hv]; unfold yC; omega
     have hv0 : 0 ≤ v := by rw [hv]; unfold yC; omega
     obtain ⟨n, g⟩ : ∃ n, getM s.c a = some n := by
      cases g : getM s.c a with
      | some n => exact ⟨n, rfl⟩
      | none =>
       rcases yE ha g with e | e
       · exact absurd e h0
       · exact absurd (.inl e) h1
     have hvV : v < V := by
      have h2 := yg g
      obtain ⟨k, rfl, h3, _⟩ := getM_some g
      have := so.vlt k n h3
      omega
     have A := jF so.ok ha hva (by omega)
     have B := jF so.ok hb hvb (by omega)
     have C := jF so.ok hc hvc (by omega)
     have m1 : v + 1 ≤ yC (zi s.c (atM s.c a v).1) (zi s.c (atM s.c b v).1) (zi s.c (atM s.c c v).1) := by have := A.zfT; have := B.zfT; have := C.zfT; unfold yC; omega
     have w1 := xA (show (V - yC (zi s.c (atM s.c a v).1) (zi s.c (atM s.c b v).1) (zi s.c (atM s.c c v).1)).toNat ≤ (V - (v + 1)).toNat by omega)
     have sp := zam hvV
     have p2 := two_pow_pos (V - (v + 1)).toNat
     rw [← hv] at hr hf
     have r1 := zay V hV f s (atM s.c a v).1 (atM s.c b v).1 (atM s.c c v).1 so A.zb1 B.zb1 C.zb1 (by omega) (by omega)
     have e : qo (f + 1) s a b c = (let r1 := qo f s (atM s.c a v).1 (atM s.c b v).1 (atM s.c c v).1
      if r1.2.2 ≠ 0 then (r1.1, 0, r1.2.2) else
      let r2 := qo f r1.1 (atM s.c a v).2 (atM s.c b v).2 (atM s.c c v).2
      if r2.2.2 ≠ 0 then (r2.1, 0, r2.2.2) else
      let r3 := xM r2.1.c v r1.2.1 r2.2.1
      (⟨r3.1, if r3.2.2 = 0 then zk5 r2.1.q (a, b, c) r3.2.1 else r2.1.q⟩, r3.2.1, r3.2.2)) := by rw [qo, if_neg h1, if_neg h0, hq, hv]
     rw [e]
     generalize qo f s (atM s.c a v).1 (atM s.c b v).1 (atM s.c c v).1 = R1 at r1 ⊢
     have E1 := r1.ext
     have c1 := r1.cnt
     have ht2 : ∀ {x : Int}, zy s.c x = true → zi R1.1.c x = zi s.c x := fun hx => E1.top hx
     have m2 : v + 1 ≤ yC (zi R1.1.c (atM s.c a v).2) (zi R1.1.c (atM s.c b v).2) (zi R1.1.c (atM s.c c v).2) := by
      rw [ht2 A.jJ, ht2 B.jJ, ht2 C.jJ]; have := A.zfX; have := B.zfX; have := C.zfX; unfold yC; omega
     have w2 := xA (show (V - yC (zi R1.1.c (atM s.c a v).2) (zi R1.1.c (atM s.c b v).2) (zi R1.1.c (atM s.c c v).2)).toNat ≤ (V - (v + 1)).toNat by omega)
     have L1 := E1.len
     have r2 := zay V hV f R1.1 (atM s.c a v).2 (atM s.c b v).2 (atM s.c c v).2 r1.sok (E1.has A.jJ) (E1.has B.jJ) (E1.has C.jJ) (by omega) (by omega)
     have er1 : ¬ (R1.2.2 ≠ 0) := by rw [r1.err]; simp
     simp only [if_neg er1]
     generalize qo f R1.1 (atM s.c a v).2 (atM s.c b v).2 (atM s.c c v).2 = R2 at r2 ⊢
     have E2 := r2.ext
     have c2 := r2.cnt
     have L2 := E2.len
     have er2 : ¬ (R2.2.2 ≠ 0) := by rw [r2.err]; simp
     simp only [if_neg er2]
     have t1 : v < zi R2.1.c R1.2.1 := by rw [E2.top r1.has]; have := r1.top; omega
     have t2 : v < zi R2.1.c R2.2.1 := by have := r2.top; omega
     have r3 := za3 r2.sok.ok r2.sok.red hv0 (by omega) (E2.has r1.has) r2.has t1 t2 (by omega)
     generalize xM R2.1.c v R1.2.1 R2.2.1 = R3 at r3 ⊢
     have E3 := r3.ext
     have c3 := r3.cnt
     have E := (E1.trans E2).trans E3
     have hden : ∀ val, den R3.1 R3.2.1 val = if den s.c a val then den s.c b val else den s.c c val := by
      intro val
      rw [r3.den]
      cases hb' : val v
      ·
       have hs : yG val v false = val := by rw [← hb']; exact zaL val v
       simp only [Bool.false_eq_true, if_false]
       rw [ql r1.sok.ok r2.sok.ok E2 val _ r1.has, r1.den, A.den1, B.den1, C.den1, hs]
      ·
       have hs : yG val v true = val := by rw [← hb']; exact zaL val v
       simp only [if_true]
       rw [r2.den, ql so.ok r1.sok.ok E1 val _ A.jJ, ql so.ok r1.sok.ok E1 val _ B.jJ, ql so.ok r1.sok.ok E1 val _ C.jJ, A.den2, B.den2, C.den2, hs]
     have D : ∀ {x : Int}, zy s.c x = true → ∀ val, den R3.1 x val = den s.c x val := fun hx val => ql so.ok r3.ok E val _ hx
     rw [if_pos r3.err]
     refine ⟨r3.err, ⟨r3.ok, r3.red, fun k m hk => ?_, fun a' b' c' h' hm => ?_⟩, E, r3.has, hden, by rw [← hv]; exact r3.top, by rw [← hv]; dsimp only; omega⟩
     ·
      rcases r3.old k m hk with h3 | rfl
      · exact r2.sok.vlt k m h3
      · exact hvV
     ·
      unfold zk5 at hm
      dsimp only at hm ⊢
      split at hm
      ·
       rename_i e4
       simp only [Prod.mk.injEq] at e4
       obtain ⟨rfl, rfl, rfl⟩ := e4
       cases hm
       refine ⟨E.has ha, E.has hb, E.has hc, r3.has, fun val => ?_, ?_⟩
       · rw [D ha, D hb, D hc]; exact hden val
       · rw [E.top ha, E.top hb, E.top hc, ← hv]; exact r3.top
      ·
       obtain ⟨n1, n2, n3, n4, n5, n6⟩ := r2.sok.mem a' b' c' h' hm
       have D2 : ∀ {x : Int}, zy R2.1.c x = true → ∀ val, den R3.1 x val = den R2.1.c x val := fun hx val => ql r2.sok.ok r3.ok E3 val _ hx
       exact ⟨E3.has n1, E3.has n2, E3.has n3, E3.has n4, fun val => by rw [D2 n1, D2 n2, D2 n3, D2 n4]; exact n5 val, by rw [E3.top n1, E3.top n2, E3.top n3, E3.top n4]; exact n6⟩
theorem SOk.hit {V : Int} {st : Sp} (so : SOk V st) (a b c : Int) : zhH st (a, b, c) = st.q (a, b, c) := by
 unfold zhH
 cases e : st.q (a, b, c) with
 | none => rfl
 | some h => simp only [(so.mem a b c h e).2.2.2.1, if_true]
theorem zke {V : Int} (hV : V ≤ 24) {f : Nat} {s : Sp} {a b c : Int} (so : SOk V s) (ha : zy s.c a = true) (hb : zy s.c b = true) (hc : zy s.c c = true) (hf : (24 - yC (zi s.c a) (zi s.c b) (zi s.c c)).toNat < f + 1)
 (hr : cnt s.c + 2 ^ (V - yC (zi s.c a) (zi s.c b) (zi s.c c)).toNat ≤ s.c.length + 1) (h1 : ¬ (a = 1 ∨ b = c)) (h0 : ¬ a = 0) (hq : s.q (a, b, c) = none) {v : Int} (hv : v = yC (zi s.c a) (zi s.c b) (zi s.c c)) :
 ∃ R1 R2 R3, R1 = qo f s (atM s.c a v).1 (atM s.c b v).1 (atM s.c c v).1 ∧ R2 = qo f R1.1 (atM s.c a v).2 (atM s.c b v).2 (atM s.c c v).2 ∧ R3 = xM R2.1.c v R1.2.1 R2.2.1 ∧
  qo (f + 1) s a b c = (⟨R3.1, zk5 R2.1.q (a, b, c) R3.2.1⟩, R3.2.1, 0) ∧ AtOk s.c a v (atM s.c a v) ∧ AtOk s.c b v (atM s.c b v) ∧ AtOk s.c c v (atM s.c c v) ∧ v < V ∧
  (24 - yC (zi s.c (atM s.c a v).1) (zi s.c (atM s.c b v).1) (zi s.c (atM s.c c v).1)).toNat < f ∧ cnt s.c + 2 ^ (V - yC (zi s.c (atM s.c a v).1) (zi s.c (atM s.c b v).1) (zi s.c (atM s.c c v).1)).toNat ≤ s.c.length + 1 ∧
  (24 - yC (zi R1.1.c (atM s.c a v).2) (zi R1.1.c (atM s.c b v).2) (zi R1.1.c (atM s.c c v).2)).toNat < f ∧ cnt R1.1.c + 2 ^ (V - yC (zi R1.1.c (atM s.c a v).2) (zi R1.1.c (atM s.c b v).2) (zi R1.1.c (atM s.c c v).2)).toNat ≤ R1.1.c.length + 1 ∧
  R1.2.2 = 0 ∧ R2.2.2 = 0 ∧ R3.2.2 = 0 ∧ SOk V R1.1 ∧ SOk V R2.1 ∧ Ext s.c R1.1.c ∧ Ext R1.1.c R2.1.c ∧ zy R1.1.c R1.2.1 = true ∧ zy R2.1.c R2.2.1 = true := by
 have ta := so.ok.yI a
 have tb := so.ok.yI b
 have tc := so.ok.yI c
 have hva : v ≤ zi s.c a := by rw [hv]; unfold yC; omega
 have hvb : v ≤ zi s.c b := by rw [hv]; unfold yC; omega
 have hvc : v ≤ zi s.c c := by rw [hv]; unfold yC; omega
 have hv0 : 0 ≤ v := by rw [hv]; unfold yC; omega
 obtain ⟨n, g⟩ : ∃ n, getM s.c a = some n := by
  cases g : getM s.c a with
  | some n => exact ⟨n, rfl⟩
  | none =>
   rcases yE ha g with e | e
   · exact absurd e h0
   · exact absurd (.inl e) h1
 have hvV : v < V := by
  have h2 := yg g
  obtain ⟨k, rfl, h3, _⟩ := getM_some g
  have := so.vlt k n h3
  omega
 have A := jF so.ok ha hva (by omega)
 have B := jF so.ok hb hvb (by omega)
 have C := jF so.ok hc hvc (by omega)
 have m1 : v + 1 ≤ yC (zi s.c (atM s.c a v).1) (zi s.c (atM s.c b v).1) (zi s.c (atM s.c c v).1) := by have := A.zfT; have := B.zfT; have := C.zfT; unfold yC; omega
 have w1 := xA (show (V - yC (zi s.c (atM s.c a v).1) (zi s.c (atM s.c b v).1) (zi s.c (atM s.c c v).1)).toNat ≤ (V - (v + 1)).toNat by omega)
 have sp := zam hvV
 have p2 := two_pow_pos (V - (v + 1)).toNat
 rw [← hv] at hr hf
 have r1 := zay V hV f s (atM s.c a v).1 (atM s.c b v).1 (atM s.c c v).1 so A.zb1 B.zb1 C.zb1 (by omega) (by omega)
 obtain ⟨R1, hR1⟩ : ∃ R, R = qo f s (atM s.c a v).1 (atM s.c b v).1 (atM s.c c v).1 := ⟨_, rfl⟩
 rw [← hR1] at r1
 have E1 := r1.ext
 have c1 := r1.cnt
 have ht2 : ∀ {x : Int}, zy s.c x = true → zi R1.1.c x = zi s.c x := fun hx => E1.top hx
 have m2 : v + 1 ≤ yC (zi R1.1.c (atM s.c a v).2) (zi R1.1.c (atM s.c b v).2) (zi R1.1.c (atM s.c c v).2) := by
  rw [ht2 A.jJ, ht2 B.jJ, ht2 C.jJ]; have := A.zfX; have := B.zfX; have := C.zfX; unfold yC; omega
 have w2 := xA (show (V - yC (zi R1.1.c (atM s.c a v).2) (zi R1.1.c (atM s.c b v).2) (zi R1.1.c (atM s.c c v).2)).toNat ≤ (V - (v + 1)).toNat by omega)
 have L1 := E1.len
 have r2 := zay V hV f R1.1 (atM s.c a v).2 (atM s.c b v).2 (atM s.c c v).2 r1.sok (E1.has A.jJ) (E1.has B.jJ) (E1.has C.jJ) (by omega) (by omega)
 obtain ⟨R2, hR2⟩ : ∃ R, R = qo f R1.1 (atM s.c a v).2 (atM s.c b v).2 (atM s.c c v).2 := ⟨_, rfl⟩
 rw [← hR2] at r2
 have E2 := r2.ext
 have c2 := r2.cnt
 have L2 := E2.len
 have t1 : v < zi R2.1.c R1.2.1 := by rw [E2.top r1.has]; have := r1.top; omega
 have t2 : v < zi R2.1.c R2.2.1 := by have := r2.top; omega
 have r3 := za3 r2.sok.ok r2.sok.red hv0 (by omega) (E2.has r1.has) r2.has t1 t2 (by omega)
 refine ⟨R1, R2, _, hR1, hR2, rfl, ?_, A, B, C, hvV, by omega, by omega, by omega, by omega, r1.err, r2.err, r3.err, r1.sok, r2.sok, E1, E2, r1.has, r2.has⟩
 have hh : zhH s (a, b, c) = none := by rw [so.hit]; exact hq
 rw [qo, if_neg h1, if_neg h0, hh]
 simp only [← hv]
 rw [← hR1, if_neg (by rw [r1.err]; simp), ← hR2, if_neg (by rw [r2.err]; simp), r3.err]
 simp
def ClD (L : List (Int × Bool)) (val : Int → Bool) : Bool := L.any fun p => val p.1 == p.2
def zb3 (c : Cells) (h : Int) : Prop := ∃ L, ∀ val, den c h val = ClD L val
theorem znS (val : Int → Bool) : ClD [(0, true), (0, false)] val = true := by unfold ClD; cases h : val 0 <;> simp [h]
theorem zhe {L : List (Int × Bool)} {val : Int → Bool} {p : Int × Bool} (hp : p ∈ L) (h : val p.1 = p.2) : ClD L val = true := by
 unfold ClD
 rw [List.any_eq_true]
 exact ⟨p, hp, by rw [h]; simp⟩
theorem zgX {L : List (Int × Bool)} {v : Int} {b : Bool} (hn : (v, b) ∉ L) (val : Int → Bool) : ClD L (yG val v b) = ClD (L.filter fun p => decide (p.1 ≠ v)) val := by
 unfold ClD
 rw [Bool.eq_iff_iff, List.any_eq_true, List.any_eq_true]
 constructor
 ·
  rintro ⟨p, hp, h⟩
  by_cases e : p.1 = v
  ·
   refine absurd hp ?_
   unfold yG at h
   rw [if_pos e] at h
   have : p = (v, b) := Prod.ext e (show p.2 = b from (show b = p.2 by simpa using h).symm)
   rw [this]; exact hn
  ·
   refine ⟨p, List.mem_filter.2 ⟨hp, by simpa using e⟩, ?_⟩
   unfold yG at h
   rw [if_neg e] at h
   exact h
 ·
  rintro ⟨p, hp, h⟩
  obtain ⟨h1, h2⟩ := List.mem_filter.1 hp
  have e : ¬ p.1 = v := by simpa using h2
  refine ⟨p, h1, ?_⟩
  unfold yG
  rw [if_neg e]
  exact h
theorem zhq {L : List (Int × Bool)} (v : Int) (b : Bool) : ∃ L', ∀ val, ClD L (yG val v b) = ClD L' val := by
 by_cases h : (v, b) ∈ L
 · exact ⟨[(0, true), (0, false)], fun val => by rw [znS]; exact zhe h (by unfold yG; rw [if_pos rfl])⟩
 · exact ⟨_, fun val => zgX h val⟩
theorem zb3.ext {c c' : Cells} (o : Ok c) (o' : Ok c') (e : Ext c c') {h : Int} (hh : zy c h = true) (k : zb3 c h) : zb3 c' h := by
 obtain ⟨L, hL⟩ := k
 exact ⟨L, fun val => by rw [ql o o' e val h hh, hL]⟩
theorem zj2 {V : Int} {s : Sp} (so : SOk V s) {h : Int} {n : Nd} (g : getM s.c h = some n) (k : zb3 s.c h) : (n.2.1 = 1 ∨ n.2.2 = 1) ∧ zb3 s.c n.2.1 ∧ zb3 s.c n.2.2 := by
 obtain ⟨L, hL⟩ := k
 obtain ⟨b1, b2, k1, k2, k3, k4⟩ := so.ok.kids g
 have hlo : ∀ val, den s.c n.2.1 val = ClD L (yG val n.1 false) := fun val => by rw [← zc9 so.ok g, hL]
 have hhi : ∀ val, den s.c n.2.2 val = ClD L (yG val n.1 true) := fun val => by rw [← zbK so.ok g, hL]
 refine ⟨?_, ?_, ?_⟩
 ·
  by_cases e1 : (n.1, false) ∈ L
  · exact .inl (zfx so.ok so.red k1 (xV _) fun val => by rw [hlo, za2]; exact zhe e1 (by unfold yG; rw [if_pos rfl]))
  ·
   by_cases e2 : (n.1, true) ∈ L
   · exact .inr (zfx so.ok so.red k2 (xV _) fun val => by rw [hhi, za2]; exact zhe e2 (by unfold yG; rw [if_pos rfl]))
   ·
    exfalso
    obtain ⟨j, rfl, hj, _⟩ := getM_some g
    exact so.red j n hj (zfx so.ok so.red k1 k2 fun val => by rw [hlo, hhi, zgX e1, zgX e2])
 ·
  obtain ⟨L', h'⟩ := zhq (L := L) n.1 false
  exact ⟨L', fun val => by rw [hlo, h']⟩
 ·
  obtain ⟨L', h'⟩ := zhq (L := L) n.1 true
  exact ⟨L', fun val => by rw [hhi, h']⟩
theorem zn6 {V : Int} {s : Sp} (so : SOk V s) {x v : Int} (k : zb3 s.c x) : zb3 s.c (atM s.c x v).1 ∧ zb3 s.c (atM s.c x v).2 := by
 unfold atM
 cases g : getM s.c x with
 | none => exact ⟨k, k⟩
 | some n =>
  dsimp only
  split
  · exact (zj2 so g k).2
  · exact ⟨k, k⟩
theorem zmk {V : Int} {s : Sp} (so : SOk V s) {x v : Int} (k : zb3 s.c x) (ht : zi s.c x = v) (hv : v < 24) : (atM s.c x v).1 = 1 ∨ (atM s.c x v).2 = 1 := by
 unfold atM
 cases g : getM s.c x with
 | none => rw [jZ g] at ht; omega
 | some n =>
  rw [yg g] at ht
  dsimp only
  rw [if_pos ht]
  exact (zj2 so g k).1
theorem zdo (f : Nat) (s : Sp) (a b c : Int) (h : a = 1 ∨ b = c) : (qo f s a b c).1 = s := by
 cases f with
 | zero => rfl
 | succ f => rw [qo, if_pos h]
theorem zla (c : Cells) (v l h : Int) : cnt (xM c v l h).1 ≤ cnt c + 1 := by
 unfold xM
 split
 · exact Nat.le_succ _
 · exact zkb c _
theorem at_end (c : Cells) (v : Int) : atM c 1 v = (1, 1) := by
 unfold atM
 rw [jG c (.inr rfl)]
theorem zjs {V : Int} (hV : V ≤ 24) : ∀ (f : Nat) (s : Sp) (a h : Int), SOk V s → zy s.c a = true → zy s.c h = true → (24 - yC (zi s.c a) (zi s.c 1) (zi s.c h)).toNat < f →
 cnt s.c + 2 ^ (V - yC (zi s.c a) (zi s.c 1) (zi s.c h)).toNat ≤ s.c.length + 1 → zb3 s.c a → zb3 s.c h → cnt (qo f s a 1 h).1.c ≤ cnt s.c + (V - yC (zi s.c a) (zi s.c 1) (zi s.c h)).toNat
 | 0, _, _, _, _, _, _, hf, _, _, _ => absurd hf (Nat.not_lt_zero _)
 | f + 1, s, a, h, so, ha, hh, hf, hr, ka, kh => by
  by_cases h1 : a = 1 ∨ (1 : Int) = h
  · rw [zdo _ _ _ _ _ h1]; omega
  ·
   by_cases h0 : a = 0
   · rw [qo, if_neg h1, if_pos h0]; dsimp only; omega
   ·
    cases hq : s.q (a, 1, h) with
    | some x =>
     have : zhH s (a, 1, h) = some x := by rw [so.hit]; exact hq
     rw [qo, if_neg h1, if_neg h0, this]; dsimp only; omega
    | none =>
     obtain ⟨v, hv⟩ : ∃ v, v = yC (zi s.c a) (zi s.c 1) (zi s.c h) := ⟨_, rfl⟩
     obtain ⟨R1, R2, R3, e1, e2, e3, e, A, B, C, hvV, f1, r1, f2, r2, _, _, _, so1, so2, x1, x2, _, _⟩ := zke hV so ha (xV _) hh hf hr h1 h0 hq hv
     rw [e, ← hv]
     have n3 := zla R2.1.c v R1.2.1 R2.2.1
     rw [← e3] at n3
     show cnt R3.1 ≤ _
     rw [at_end] at e1 e2 f1 r1 f2 r2
     have t1 : zi s.c 1 = 24 := jZ (jG _ (.inr rfl))
     have t1' : zi R1.1.c 1 = 24 := jZ (jG _ (.inr rfl))
     have ca := zn6 so (v := v) ka
     have ch := zn6 so (v := v) kh
     have hone : ((atM s.c a v).1 = 1 ∨ (atM s.c h v).1 = 1) ∨ ((atM s.c a v).2 = 1 ∨ (atM s.c h v).2 = 1) := by
      by_cases q : zi s.c a = v
      ·
       rcases zmk so ka q (by omega) with q | q
       · exact .inl (.inl q)
       · exact .inr (.inl q)
      ·
       have q2 : zi s.c h = v := by
        unfold yC at hv
        omega
       rcases zmk so kh q2 (by omega) with q | q
       · exact .inl (.inr q)
       · exact .inr (.inr q)
     have hA1 := A.zfT; have hA2 := A.zfX; have hC1 := C.zfT; have hC2 := C.zfX
     rcases hone with q | q
     ·
      have s1 : R1.1 = s := by rw [e1]; exact zdo _ _ _ _ _ (q.imp id (fun w => w.symm))
      have c2 := zjs hV f R1.1 (atM s.c a v).2 (atM s.c h v).2 so1 (x1.has A.jJ) (x1.has C.jJ) f2 r2 (ca.2.ext so.ok so1.ok x1 A.jJ) (ch.2.ext so.ok so1.ok x1 C.jJ)
      rw [← e2] at c2
      rw [x1.top A.jJ, x1.top C.jJ, t1'] at c2
      rw [s1] at c2
      unfold yC at c2
      omega
     ·
      have s2 : R2.1 = R1.1 := by rw [e2]; exact zdo _ _ _ _ _ (q.imp id (fun w => w.symm))
      have c1 := zjs hV f s (atM s.c a v).1 (atM s.c h v).1 so A.zb1 C.zb1 f1 r1 ca.1 ch.1
      rw [← e1, t1] at c1
      rw [s2] at n3
      unfold yC at c1
      omega
theorem zlp {V : Int} (hV : V ≤ 24) {s : Sp} {a h : Int} (so : SOk V s) (ha : zy s.c a = true) (hh : zy s.c h = true) (hr : cnt s.c + 2 ^ V.toNat ≤ s.c.length + 1) (ka : zb3 s.c a) (kh : zb3 s.c h) : cnt (qo 25 s a 1 h).1.c ≤ cnt s.c + V.toNat := by
 have p1 := so.ok.yI a; have p2 := so.ok.yI h; have p3 := so.ok.yI 1
 have hp : 0 ≤ yC (zi s.c a) (zi s.c 1) (zi s.c h) := by unfold yC; omega
 have h1 := xA (show (V - yC (zi s.c a) (zi s.c 1) (zi s.c h)).toNat ≤ V.toNat by omega)
 have := zjs hV 25 s a h so ha hh (by omega) (by omega) ka kh
 omega
structure COk (V : Int) (c : Cells) : Prop where
 ok : Ok c
 red : Red c
 vlt : ∀ k n, c.at k = some n → n.1 < V
theorem SOk.cells {V : Int} {s : Sp} (h : SOk V s) : COk V s.c := ⟨h.ok, h.red, h.vlt⟩
theorem SOk.more {V : Int} {c c' : Cells} {q : Int × Int × Int → Option Int} (h : SOk V ⟨c, q⟩) (e : Ext c c') (o : COk V c') : SOk V ⟨c', q⟩ := by
 refine ⟨o.ok, o.red, o.vlt, fun a b x y hm => ?_⟩
 obtain ⟨n1, n2, n3, n4, n5, n6⟩ := h.mem a b x y hm
 have D : ∀ {z : Int}, zy c z = true → ∀ val, den c' z val = den c z val := fun hx val => ql h.ok o.ok e val _ hx
 exact ⟨e.has n1, e.has n2, e.has n3, e.has n4, fun val => by dsimp only; rw [D n1, D n2, D n3, D n4]; exact n5 val, by dsimp only at n6 ⊢; rw [e.top n1, e.top n2, e.top n3, e.top n4]; exact n6⟩
theorem SOk.none {V : Int} {c : Cells} (o : COk V c) : SOk V ⟨c, fun _ => none⟩ := ⟨o.ok, o.red, o.vlt, fun _ _ _ _ h => by cases h⟩
theorem COk.empty (V : Int) (R : Nat) : COk V (List.replicate R none) := by
 have hat : ∀ k, Cells.at (List.replicate R none) k = none := fun k => by unfold Cells.at; simp only [List.getD_eq_getElem?_getD, List.getElem?_replicate]; split <;> rfl
 exact ⟨⟨fun k n h => (by rw [hat] at h; cases h), fun k n h => (by rw [hat] at h; cases h), fun k n h => (by rw [hat] at h; cases h), fun j k n h => (by rw [hat] at h; cases h)⟩, fun k n h => (by rw [hat] at h; cases h), fun k n h => (by rw [hat] at h; cases h)⟩
theorem COk.sweep {V : Int} {c : Cells} (o : COk V c) (l : List Int) : COk V (qi c l) :=
 ⟨zgD o.ok l, fun k n h => o.red k n (yB.1 h).2, fun k n h => o.vlt k n (yB.1 h).2⟩
abbrev Done := Int → Option Int
def putD (d : Done) (h x : Int) : Done := fun k => if h = k then some x else d k
structure DOk (c : Cells) (d : Done) (v : Int) (is : Bool) : Prop where
 at_ : ∀ k x, d k = some x → zy c k = true ∧ zy c x = true ∧ (∀ val, den c x val = den c k (yG val v is)) ∧ zi c k ≤ zi c x
theorem DOk.ext {c c' : Cells} {d : Done} {v : Int} {is : Bool} (h : DOk c d v is) (o : Ok c) (o' : Ok c') (e : Ext c c') : DOk c' d v is :=
 ⟨fun k x hk => by
  obtain ⟨h1, h2, h3, h4⟩ := h.at_ k x hk
  exact ⟨e.has h1, e.has h2, fun val => by rw [ql o o' e val _ h2, ql o o' e _ _ h1]; exact h3 val, by rw [e.top h1, e.top h2]; exact h4⟩⟩
abbrev FnB := (Int → Bool) → Bool
def zof (b : Bool) : Nat := if b then 1 else 0
def jN (V : Int) : Nat → FnB → (Int → Bool) → Nat
 | 0, D, val => zof (D val)
 | k + 1, D, val => jN V k D (yG val (V - (k + 1 : Nat)) false) + jN V k D (yG val (V - (k + 1 : Nat)) true)
theorem zcB {V : Int} : ∀ (k : Nat) (D D' : FnB) (val : Int → Bool), (∀ val', (∀ u, u < V - k → val' u = val u) → D val' = D' val') → jN V k D val = jN V k D' val
 | 0, D, D', val, h => by rw [jN, jN, h val (fun _ _ => rfl)]
 | k + 1, D, D', val, h => by
  have key : ∀ b, jN V k D (yG val (V - (k + 1 : Nat)) b) = jN V k D' (yG val (V - (k + 1 : Nat)) b) := fun b => zcB k D D' _ (fun val' hv => h val' (fun u hu => by
   rw [hv u (by omega)]; unfold yG; rw [if_neg (by omega)]))
  rw [jN, jN, key, key]
theorem zeB {V : Int} : ∀ (k : Nat) (D : FnB) (val : Int → Bool), jN V k D val ≤ 2 ^ k
 | 0, D, val => by unfold jN zof; split <;> simp
 | k + 1, D, val => by
  have h1 := zeB (V := V) k D (yG val (V - (k + 1 : Nat)) false)
  have h2 := zeB (V := V) k D (yG val (V - (k + 1 : Nat)) true)
  rw [jN, Nat.pow_succ]; omega
def xK (V : Int) (c : Cells) (h : Int) : Int := min (zi c h) V
def zdh (V : Int) : Nat → Cells → Int → Nat
 | 0, _, _ => 0
 | f + 1, c, h => match getM c h with
  | none => h.toNat
  | some n => zdh V f c n.2.1 * 2 ^ (xK V c n.2.1 - n.1 - 1).toNat + zdh V f c n.2.2 * 2 ^ (xK V c n.2.2 - n.1 - 1).toNat
def qJ (V : Int) (c : Cells) (h : Int) : Nat := zdh V 25 c h
theorem zdq {V : Int} {f : Nat} {c : Cells} {h : Int} (e : getM c h = none) : zdh V (f + 1) c h = h.toNat := by simp only [zdh, e]
theorem zdI {V : Int} {f : Nat} {c : Cells} {h : Int} {n : Nd} (e : getM c h = some n) : zdh V (f + 1) c h = zdh V f c n.2.1 * 2 ^ (xK V c n.2.1 - n.1 - 1).toNat + zdh V f c n.2.2 * 2 ^ (xK V c n.2.2 - n.1 - 1).toNat := by simp only [zdh, e]
theorem zbQ {V : Int} {c : Cells} (o : Ok c) : ∀ (f g : Nat) (h : Int), (24 - zi c h).toNat < f → f ≤ g → zdh V f c h = zdh V g c h
 | 0, _, _, h1, _ => absurd h1 (Nat.not_lt_zero _)
 | f + 1, 0, _, _, h2 => absurd h2 (by omega)
 | f + 1, g + 1, h, h1, h2 => by
  cases e : getM c h with
  | none => rw [zdq e, zdq e]
  | some n =>
   obtain ⟨k1, k2, _, _, k3, k4⟩ := o.kids e
   rw [yg e] at h1
   rw [zdI e, zdI e, zbQ o f g n.2.1 (by omega) (by omega), zbQ o f g n.2.2 (by omega) (by omega)]
theorem zie {V : Int} {c : Cells} (o : Ok c) {h : Int} {n : Nd} (e : getM c h = some n) : qJ V c h = qJ V c n.2.1 * 2 ^ (xK V c n.2.1 - n.1 - 1).toNat + qJ V c n.2.2 * 2 ^ (xK V c n.2.2 - n.1 - 1).toNat := by
 obtain ⟨k1, k2, _, _, k3, k4⟩ := o.kids e
 show zdh V (24 + 1) c h = zdh V 25 c n.2.1 * _ + zdh V 25 c n.2.2 * _
 rw [zdI e, zbQ o 24 25 n.2.1 (by omega) (by omega), zbQ o 24 25 n.2.2 (by omega) (by omega)]
theorem zjZ {V : Int} {c : Cells} {h : Int} (e : getM c h = none) : qJ V c h = h.toNat := zdq (f := 24) e
theorem zdc {V : Int} {c : Cells} (hV : V ≤ 24) (o : COk V c) : ∀ (k : Nat) (h : Int) (val : Int → Bool), zy c h = true → V - k ≤ xK V c h → jN V k (den c h) val = qJ V c h * 2 ^ (xK V c h - (V - k)).toNat
 | 0, h, val, hh, hc => by
  have e : getM c h = none := by
   cases g : getM c h with
   | none => rfl
   | some n =>
    obtain ⟨j, rfl, h1, _⟩ := getM_some g
    have := o.vlt j n h1
    have := yg g
    unfold xK at hc; omega
  have hct : (xK V c h - (V - (0 : Nat))).toNat = 0 := by unfold xK; omega
  rw [jN, xq e, zjZ e, hct]
  rcases yE hh e with rfl | rfl <;> rfl
 | k + 1, h, val, hh, hc => by
  by_cases he : xK V c h = V - (k + 1 : Nat)
  ·
   have ht : zi c h = V - (k + 1 : Nat) := by unfold xK at he; omega
   cases g : getM c h with
   | none => have := jZ g; omega
   | some n =>
    obtain ⟨b1, b2, k1, k2, k3, k4⟩ := o.ok.kids g
    have h1 := yg g
    have hn : n.1 = V - (k + 1 : Nat) := by omega
    have lo := zdc hV o k n.2.1 (yG val n.1 false) k1 (by unfold xK; omega)
    have hi := zdc hV o k n.2.2 (yG val n.1 true) k2 (by unfold xK; omega)
    have c1 : jN V k (den c h) (yG val n.1 false) = jN V k (den c n.2.1) (yG val n.1 false) := zcB k _ _ _ (fun val' hv => by
     rw [xZ o.ok g, hv n.1 (by omega)]; simp [yG])
    have c2 : jN V k (den c h) (yG val n.1 true) = jN V k (den c n.2.2) (yG val n.1 true) := zcB k _ _ _ (fun val' hv => by
     rw [xZ o.ok g, hv n.1 (by omega)]; simp [yG])
    rw [jN, ← hn, c1, c2, lo, hi, zie o.ok g, show (xK V c h - n.1).toNat = 0 by omega, Nat.pow_zero, Nat.mul_one,
     show xK V c n.2.1 - (V - (k : Nat)) = xK V c n.2.1 - n.1 - 1 by omega, show xK V c n.2.2 - (V - (k : Nat)) = xK V c n.2.2 - n.1 - 1 by omega]
  ·
   have i1 := zdc hV o k h (yG val (V - (k + 1 : Nat)) false) hh (by omega)
   have i2 := zdc hV o k h (yG val (V - (k + 1 : Nat)) true) hh (by omega)
   rw [jN, i1, i2, ← Nat.mul_add]
   congr 1
   rw [show (xK V c h - (V - (k + 1 : Nat))).toNat = (xK V c h - (V - (k : Nat))).toNat + 1 by omega, Nat.pow_succ]; omega
theorem zj8 {V : Nat} {c : Cells} (hV : V ≤ 24) (o : COk V c) {h : Int} (hh : zy c h = true) (val : Int → Bool) : qJ V c h * 2 ^ (xK V c h).toNat = jN V V (den c h) val := by
 have t := (o.ok.yI h).1
 rw [zdc (by omega) o V h val hh (by unfold xK; omega), show xK V c h - ((V : Int) - (V : Nat)) = xK V c h by omega]
theorem zkJ {V : Nat} {c : Cells} (hV : V ≤ 24) (o : COk V c) {h : Int} (hh : zy c h = true) : qJ V c h * 2 ^ (xK V c h).toNat ≤ 2 ^ 24 := by
 rw [zj8 hV o hh (fun _ => false)]
 exact Nat.le_trans (zeB _ _ _) (Nat.pow_le_pow_right (by decide) hV)
