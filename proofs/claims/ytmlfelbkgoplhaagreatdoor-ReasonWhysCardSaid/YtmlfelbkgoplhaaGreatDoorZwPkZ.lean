import Derived.Test.YtmlfelbkgoplhaaGreatDoorZwPkU
import Derived.Test.YtmlfelbkgoplhaaGreatDoorZwPkK
set_option linter.unusedVariables false
set_option linter.unusedSimpArgs false
namespace Go.Proofs.YtmlfelbkgoplhaaGreatDoor
open Go.RowKit
def zeC (v : Nat) : Int → Bool := fun u => decide (0 ≤ u) && v.testBit u.toNat
def zhr (val : Int → Bool) (x : Int) : Bool := if 0 < x then val (x - 1) else !val (-x - 1)
def clV (c : List Int) (val : Int → Bool) : Bool := c.any (zhr val)
def zbk (l : List (List Int)) (val : Int → Bool) : Bool := l.all fun c => clV c val
theorem zpt {v : Nat} {x : Int} (hx : x ≠ 0) : zhr (zeC v) x = j6 v x := by
 unfold zhr j6 zeC
 by_cases h : 0 < x
 · rw [if_pos h, if_pos h, decide_eq_true (show 0 ≤ x - 1 by omega), Bool.true_and, show (x - 1).toNat = x.toNat - 1 by omega]
 · rw [if_neg h, if_neg h, decide_eq_true (show x < 0 by omega), decide_eq_true (show 0 ≤ -x - 1 by omega), Bool.true_and, Bool.true_and, show (-x - 1).toNat = (-x).toNat - 1 by omega]
theorem any_congr {α : Type} {p q : α → Bool} : ∀ {l : List α}, (∀ x ∈ l, p x = q x) → l.any p = l.any q
 | [], _ => rfl
 | x :: l, h => by rw [List.any_cons, List.any_cons, h x (by simp), any_congr fun y hy => h y (by simp [hy])]
theorem all_congr {α : Type} {p q : α → Bool} : ∀ {l : List α}, (∀ x ∈ l, p x = q x) → l.all p = l.all q
 | [], _ => rfl
 | x :: l, h => by rw [List.all_cons, List.all_cons, h x (by simp), all_congr fun y hy => h y (by simp [hy])]
theorem clV_B {v : Nat} {c : List Int} (h : qU c) : clV c (zeC v) = clB v c := any_congr fun x hx => zpt (h x hx)
theorem zmz {v : Nat} {l : List (List Int)} (h : ∀ c ∈ l, qU c) : zbk l (zeC v) = jD v l := all_congr fun c hc => clV_B (h c hc)
def znH (x : Int) : Int × Bool := if 0 < x then (x - 1, true) else (-x - 1, false)
theorem zoQ (c : List Int) (val : Int → Bool) : clV c val = ClD (c.map znH) val := by
 unfold clV ClD
 rw [List.any_map]
 refine any_congr fun x _ => ?_
 unfold zhr znH
 simp only [Function.comp]
 by_cases h : 0 < x
 · rw [if_pos h, if_pos h]; cases val (x - 1) <;> rfl
 · rw [if_neg h, if_neg h]; cases val (-x - 1) <;> rfl
theorem znG (c : List Int) (x : Int) (val : Int → Bool) : clV (c ++ [x]) val = (clV c val || zhr val x) := by
 unfold clV
 rw [List.any_append]; simp
theorem zkX (l : List (List Int)) (c : List Int) (val : Int → Bool) : zbk (l ++ [c]) val = (zbk l val && clV c val) := by
 unfold zbk
 rw [List.all_append]; simp
theorem zfv {V : Int} {l : List (List Int)} (h : ∀ c ∈ l, ∀ x ∈ c, x ≠ 0 ∧ -V ≤ x ∧ x ≤ V) {val val' : Int → Bool} (he : ∀ u, 0 ≤ u → u < V → val u = val' u) : zbk l val = zbk l val' :=
 all_congr fun c hc => any_congr fun x hx => by
  obtain ⟨h0, h1, h2⟩ := h c hc x hx
  unfold zhr
  by_cases e : 0 < x
  · rw [if_pos e, if_pos e, he _ (by omega) (by omega)]
  · rw [if_neg e, if_neg e, he _ (by omega) (by omega)]
theorem zhm (f : Nat → Bool) : ∀ n : Nat, ∃ v, v < 2 ^ n ∧ ∀ j, j < n → v.testBit j = f j
 | 0 => ⟨0, by decide, fun j hj => absurd hj (Nat.not_lt_zero _)⟩
 | n + 1 => by
  obtain ⟨v, h1, h2⟩ := zhm f n
  cases e : f n with
  | false =>
   refine ⟨v, Nat.lt_of_lt_of_le h1 (Nat.pow_le_pow_right (by decide) (Nat.le_succ _)), fun j hj => ?_⟩
   rcases Nat.lt_or_ge j n with q | q
   · exact h2 j q
   ·
    have : j = n := by omega
    subst this
    rw [e, Nat.testBit_lt_two_pow h1]
  | true =>
   refine ⟨v ||| 2 ^ n, Nat.or_lt_two_pow (Nat.lt_of_lt_of_le h1 (Nat.pow_le_pow_right (by decide) (Nat.le_succ _))) (Nat.pow_lt_pow_right (by decide) (Nat.lt_succ_self _)), fun j hj => ?_⟩
   rw [Nat.testBit_or, Nat.testBit_two_pow]
   rcases Nat.lt_or_ge j n with q | q
   · rw [h2 j q, decide_eq_false (by omega), Bool.or_false]
   ·
    have : j = n := by omega
    subst this
    rw [e, decide_eq_true rfl, Bool.or_true]
theorem zfF {V : Int} : ∀ (k : Nat) (D : FnB) (val : Int → Bool), qZ V k D val = 0 ↔ ∀ val', (∀ u, u < V - k → val' u = val u) → (∀ u, V ≤ u → val' u = val u) → D val' = false
 | 0, D, val => by
  rw [qZ]
  constructor
  ·
   intro h val' h1 h2
   have : val' = val := funext fun u => by
    rcases Int.lt_or_le u V with q | q
    · exact h1 u (by omega)
    · exact h2 u q
   rw [this]
   cases e : D val with
   | false => rfl
   | true => rw [e] at h; exact absurd h (by decide)
  ·
   intro h
   rw [h val (fun _ _ => rfl) (fun _ _ => rfl)]
   rfl
 | k + 1, D, val => by
  rw [qZ, Nat.add_eq_zero_iff, zfF k D, zfF k D]
  constructor
  ·
   rintro ⟨h1, h2⟩ val' h3 h4
   have key : ∀ b, val' (V - (k + 1 : Nat)) = b → (∀ u, u < V - k → val' u = yI val (V - (k + 1 : Nat)) b u) ∧ (∀ u, V ≤ u → val' u = yI val (V - (k + 1 : Nat)) b u) := fun b hb => by
    unfold yI
    refine ⟨fun u hu => ?_, fun u hu => ?_⟩
    ·
     by_cases e : u = V - (k + 1 : Nat)
     · rw [if_pos e, e, hb]
     · rw [if_neg e, h3 u (by omega)]
    · rw [if_neg (by omega), h4 u hu]
   cases e : val' (V - (k + 1 : Nat)) with
   | false => exact h1 val' (key false e).1 (key false e).2
   | true => exact h2 val' (key true e).1 (key true e).2
  ·
   intro h
   have key : ∀ b, ∀ val', (∀ u, u < V - k → val' u = yI val (V - (k + 1 : Nat)) b u) → (∀ u, V ≤ u → val' u = yI val (V - (k + 1 : Nat)) b u) → D val' = false := fun b val' h1 h2 => by
    unfold yI at h1 h2
    refine h val' (fun u hu => ?_) (fun u hu => ?_)
    · rw [h1 u (by omega), if_neg (by omega)]
    · rw [h2 u hu, if_neg (by omega)]
   exact ⟨key false, key true⟩
theorem zfl {V : Nat} {l : List (List Int)} (hz : ∀ c ∈ l, ∀ x ∈ c, x ≠ 0 ∧ -(V : Int) ≤ x ∧ x ≤ V) : qZ V V (zbk l) (fun _ => false) = 0 ↔ ¬ zfB l := by
 have hB : ∀ v, zbk l (zeC v) = jD v l := fun v => zmz fun c hc x hx => (hz c hc x hx).1
 rw [zfF]
 constructor
 ·
  rintro h ⟨v, hv⟩
  have h1 := h (fun u => decide (0 ≤ u ∧ u < V) && v.testBit u.toNat) (fun u hu => by rw [decide_eq_false (by omega)]; rfl) (fun u hu => by rw [decide_eq_false (by omega)]; rfl)
  rw [zfv hz (val' := zeC v) (fun u h0 h1 => by unfold zeC; rw [decide_eq_true ⟨h0, h1⟩, decide_eq_true h0]), hB, hv] at h1
  cases h1
 ·
  intro h val' _ _
  obtain ⟨v, _, hv⟩ := zhm (fun j => val' (j : Int)) V
  cases e : zbk l val' with
  | false => rfl
  | true =>
   refine absurd ⟨v, ?_⟩ h
   rw [← hB, ← e]
   refine zfv hz (fun u h0 h1 => ?_)
   unfold zeC
   rw [decide_eq_true h0, Bool.true_and, hv u.toNat (by omega), show ((u.toNat : Nat) : Int) = u by omega]
def zav : Nat → Cells → Int → List Nat
 | 0, _, _ => []
 | f + 1, c, h => match getM c h with
  | none => []
  | some n => (h - 2).toNat :: (zav f c n.2.1 ++ zav f c n.2.2)
theorem zfV {f : Nat} {c : Cells} {h : Int} (e : getM c h = none) : zav (f + 1) c h = [] := by simp only [zav, e]
theorem zcS {f : Nat} {c : Cells} {h : Int} {n : Nd} (e : getM c h = some n) : zav (f + 1) c h = (h - 2).toNat :: (zav f c n.2.1 ++ zav f c n.2.2) := by simp only [zav, e]
theorem zdZ {V : Int} {c : Cells} (o : COk V c) : ∀ (f : Nat) (h : Int), (zav f c h).length + 1 ≤ 2 ^ (V - zm c h).toNat
 | 0, _ => Nat.one_le_two_pow
 | f + 1, h => by
  cases e : getM c h with
  | none => rw [zfV e]; exact Nat.one_le_two_pow
  | some n =>
   obtain ⟨_, _, _, _, k3, k4⟩ := o.ok.kids e
   obtain ⟨j, _, hj, _⟩ := getM_some e
   have hv := o.vlt j n hj
   rw [zcS e, yh e]
   have h1 := zdZ o f n.2.1
   have h2 := zdZ o f n.2.2
   have h3 := xK (show (V - zm c n.2.1).toNat ≤ (V - (n.1 + 1)).toNat by omega)
   have h4 := xK (show (V - zm c n.2.2).toNat ≤ (V - (n.1 + 1)).toNat by omega)
   have h5 := zaG hv
   simp only [List.length_cons, List.length_append]
   omega
theorem zcT {f : Nat} {c : Cells} {k : Nat} {n : Nd} (hn : c.at k = some n) : k ∈ zav (f + 1) c ((k : Int) + 2) := by
 rw [zcS ((xR k).trans hn), show (((k : Int) + 2) - 2).toNat = k by omega]
 exact List.mem_cons_self
theorem zb6 {c : Cells} (o : Ok c) {k k' : Nat} {n n' : Nd} (hn : c.at k = some n) (hn' : c.at k' = some n') (e : n.2.1 = (k' : Int) + 2 ∨ n.2.2 = (k' : Int) + 2) : ∀ (f : Nat) (h : Int), (24 - zm c h).toNat < f → k ∈ zav f c h → k' ∈ zav f c h
 | 0, _, hf, _ => absurd hf (Nat.not_lt_zero _)
 | f + 1, h, hf, hm => by
  cases g : getM c h with
  | none => rw [zfV g] at hm; cases hm
  | some m =>
   obtain ⟨m1, m2, _, _, k3, k4⟩ := o.kids g
   rw [yh g] at hf
   have t1 := zcb o m.2.1; have t2 := zcb o m.2.2
   rw [zcS g] at hm ⊢
   rcases List.mem_cons.1 hm with h1 | hm
   ·
    obtain ⟨j, rfl, hj, _⟩ := getM_some g
    obtain rfl : k = j := by omega
    have : m = n := by rw [hn] at hj; exact (Option.some.inj hj).symm
    subst this
    obtain ⟨f', rfl⟩ : ∃ f', f = f' + 1 := ⟨f - 1, by omega⟩
    refine List.mem_cons_of_mem _ (List.mem_append.2 ?_)
    rcases e with e | e
    · rw [e]; exact .inl (zcT hn')
    · rw [e]; exact .inr (zcT hn')
   ·
    refine List.mem_cons_of_mem _ (List.mem_append.2 ?_)
    rcases List.mem_append.1 hm with hm | hm
    · exact .inl (zb6 o hn hn' e f _ (by omega) hm)
    · exact .inr (zb6 o hn hn' e f _ (by omega) hm)
theorem zmb {c : Cells} (o : Ok c) {h : Int} {k : Nat} (hr : jH c [h] k) : k ∈ zav 25 c h := by
 have hf : (24 - zm c h).toNat < 25 := by have := zcb o h; omega
 refine Rch.ind (Q := fun k => k ∈ zav 25 c h) (fun k hu hm => ?_) (fun k k' h1 ih hu e => ?_) (fun k k' h1 ih hu e => ?_) hr
 ·
  obtain ⟨n, hn⟩ := Option.isSome_iff_exists.1 hu
  rw [← List.mem_singleton.1 hm]; exact zcT (f := 24) hn
 ·
  obtain ⟨m, hm⟩ := jH.used h1
  obtain ⟨n, hn⟩ := Option.isSome_iff_exists.1 hu
  rw [hm] at e
  exact zb6 o hm hn (.inl e) 25 h hf ih
 ·
  obtain ⟨m, hm⟩ := jH.used h1
  obtain ⟨n, hn⟩ := Option.isSome_iff_exists.1 hu
  rw [hm] at e
  exact zb6 o hm hn (.inr e) 25 h hf ih
theorem zf9 {V : Int} {c : Cells} (o : COk V c) (h : Int) : cnt (qx c [h]) + 1 ≤ 2 ^ V.toNat := by
 have t := zcb o.ok h
 refine Nat.le_trans ?_ (Nat.le_trans (zdZ o 25 h) (xK (by omega)))
 rw [zgv]
 refine Nat.succ_le_succ (jg (List.Pairwise.filter _ List.nodup_range) (fun k hk => ?_))
 obtain ⟨_, hk⟩ := List.mem_filter.1 hk
 obtain ⟨n, hn⟩ := Option.isSome_iff_exists.1 hk
 exact zmb o.ok (yF.1 hn).1
structure ClI (V : Nat) (st0 st : Sp) (c : List Int) (one : Int) : Prop where
 sok : SOk V st
 ext : Ext st0.c st.c
 has : zD st.c one = true
 den : ∀ val, den st.c one val = clV c val
 few : cnt st.c ≤ cnt st0.c + c.length * (V + 1)
theorem ClI.start {V : Nat} {st0 : Sp} (so : SOk V st0) : ClI V st0 st0 [] 0 := ⟨so, Ext.refl _, jm _, fun val => zbO _ _, by simp⟩
def qV (st : Sp) (x : Int) : Sp × Int × Nat := if 0 < x then zh1 st (x - 1) true else zh1 st (-x - 1) false
structure zo3 (V : Nat) (st0 st : Sp) (c : List Int) (one x : Int) : Prop where
 err1 : (qV st x).2.2 = 0
 sok : SOk V (qV st x).1
 ha : zD (qV st x).1.c one = true
 hb : zD (qV st x).1.c (qV st x).2.1 = true
 hr : cnt (qV st x).1.c + 2 ^ (V : Int).toNat ≤ (qV st x).1.c.length + 1
 err2 : (kM (qV st x).1 one 1 (qV st x).2.1).2.2 = 0
 next : ClI V st0 (kM (qV st x).1 one 1 (qV st x).2.1).1 (c ++ [x]) (kM (qV st x).1 one 1 (qV st x).2.1).2.1
theorem ClI.next {V : Nat} (hV : V ≤ 24) {st0 st : Sp} {c : List Int} {one x : Int} (h : ClI V st0 st c one) (hx : x ≠ 0 ∧ -(V : Int) ≤ x ∧ x ≤ V) (hr : cnt st0.c + (c.length + 1) * (V + 1) + 2 ^ V ≤ st0.c.length + 1) : zo3 V st0 st c one x := by
 have hp := Nat.two_pow_pos V
 have hl := h.ext.len
 have hc := h.few
 have hm : (c.length + 1) * (V + 1) = c.length * (V + 1) + (V + 1) := by rw [Nat.add_mul, Nat.one_mul]
 have L : ROk V st (qV st x) (fun val => zhr val x) 1 := by
  unfold qV
  by_cases e : 0 < x
  ·
   rw [if_pos e]
   exact (zkB (by omega) true (by omega) (by omega) h.sok (by omega)).of rfl fun val => by unfold zhr; rw [if_pos e]; cases val (x - 1) <;> rfl
  ·
   rw [if_neg e]
   exact (zkB (by omega) false (by omega) (by omega) h.sok (by omega)).of rfl fun val => by unfold zhr; rw [if_neg e]; cases val (-x - 1) <;> rfl
 have lc := L.cnt; have ll := L.ext.len
 have ha := L.zps h.has
 have hpe : 2 ^ (V : Int).toNat = 2 ^ V := by simp
 have hr2 : cnt (qV st x).1.c + 2 ^ (V : Int).toNat ≤ (qV st x).1.c.length + 1 := by rw [hpe]; omega
 have O := zkM (by omega) L.sok ha (ql _) L.has hr2
 have k1 : zcu (qV st x).1.c one := ⟨c.map znH, fun val => by rw [zkQ L h.sok h.has, h.den, zoQ]⟩
 have k2 : zcu (qV st x).1.c (qV st x).2.1 := ⟨[znH x], fun val => by
  rw [L.den, ← List.map_singleton (f := znH), ← zoQ]; unfold clV; simp⟩
 have hcnt := zlK (by omega) L.sok ha L.has hr2 k1 k2
 refine ⟨L.err, L.sok, ha, L.has, hr2, O.err, O.sok, h.ext.trans (L.ext.trans O.ext), O.has, fun val => ?_, ?_⟩
 ·
  rw [O.den, zkQ L h.sok h.has, h.den, zbb, L.den, znG]
  cases clV c val <;> simp
 ·
  rw [List.length_append, List.length_singleton]
  have : cnt (kM (qV st x).1 one 1 (qV st x).2.1).1.c ≤ cnt (qV st x).1.c + (V : Int).toNat := hcnt
  simp only [Int.toNat_natCast] at this
  omega
structure zhC (V R : Nat) (l : List (List Int)) (st : Sp) (all : Int) : Prop where
 sok : SOk V st
 len : st.c.length = R
 has : zD st.c all = true
 den : ∀ val, den st.c all val = zbk l val
 few : cnt st.c + 1 ≤ 2 ^ V
theorem zhC.start (V R : Nat) : zhC V R [] ⟨List.replicate R none, fun _ => none⟩ 1 :=
 ⟨SOk.none (COk.empty V R), by simp, ql _, fun val => zbb _ _, by
  have h : cnt (List.replicate R none : Cells) = 0 := by unfold cnt; rw [List.countP_replicate]; simp
  dsimp only; rw [h]; exact Nat.one_le_two_pow⟩
structure zoz (V R : Nat) (l : List (List Int)) (st st1 : Sp) (all : Int) (c : List Int) (h : Int) : Prop where
 ha : zD st1.c all = true
 hr : cnt st1.c + 2 ^ (V : Int).toNat ≤ st1.c.length + 1
 err : (kM st1 all h 0).2.2 = 0
 ok : Ok (kM st1 all h 0).1.c
 has : zD (kM st1 all h 0).1.c (kM st1 all h 0).2.1 = true
 next : zhC V R (l ++ [c]) (zm7 (kM st1 all h 0).1 [(kM st1 all h 0).2.1]) (kM st1 all h 0).2.1
theorem zhC.next {V R : Nat} (hV : V ≤ 24) {l : List (List Int)} {st st1 : Sp} {all : Int} {c : List Int} {h : Int} (i : zhC V R l st all) (k : ClI V st st1 c h) (hr : 2 * 2 ^ V + c.length * (V + 1) ≤ R + 1) : zoz V R l st st1 all c h := by
 have hp := Nat.two_pow_pos V
 have hl := k.ext.len
 have hl0 := i.len
 have hc := k.few
 have hc0 := i.few
 have ha := k.ext.has i.has
 have hpe : 2 ^ (V : Int).toNat = 2 ^ V := by simp
 have hr2 : cnt st1.c + 2 ^ (V : Int).toNat ≤ st1.c.length + 1 := by rw [hpe]; omega
 have O := zkM (by omega) k.sok ha k.has (jm _) hr2
 have hm : (kM st1 all h 0).2.1 ∈ [(kM st1 all h 0).2.1] := by simp
 refine ⟨ha, hr2, O.err, O.sok.ok, O.has, SOk.none (O.sok.cells.sweep _), ?_, zcX O.has (fun j e => by
  have g := O.has
  rw [e] at g
  exact zes g (by rw [← e]; simp)), fun val => ?_, ?_⟩
 ·
  show (qx _ _).length = R
  rw [kV, O.ext.len, hl, hl0]
 ·
  rw [zgd O.sok hm O.has, O.den, qz i.sok.ok k.sok.ok k.ext val all i.has, i.den, k.den, zbO, zkX]
  cases zbk l val <;> simp
 ·
  have := zf9 O.sok.cells (kM st1 all h 0).2.1
  rw [hpe] at this
  exact this
def zpc (V : Nat) (s : Sb) (st0 : Sp) (c : List Int) (w : World) (e : Ending) (w' : World) : Prop :=
 ∃ st h, e = .returned (.tuple #[.int .i64 h, .nilIface]) ∧ IsSpace w' s V st ∧ Only s.mem w w' ∧ ClI V st0 st c h
theorem zlc (st : Sp) (b : Int) : kM st 1 b 0 = (st, b, 0) := by
 unfold kM
 rw [qA, if_pos (.inl rfl)]
set_option maxRecDepth 100000 in
set_option maxHeartbeats 8000000 in
theorem zhM (V : Nat) (hV : V ≤ 10) (g : Nat) (vc : Value) (c : List Int) (w : World) (s : Sb) (st0 : Sp) (hs : IsSpace w s V st0) (so : SOk V st0) (hg : w.heap[g]? = some (.cells #[vc] 64 (0, 0))) (hgs : ¬ s.mem g) (hc : ∀ w', Only s.mem w w' → yP w' 0 vc c)
 (hx : ∀ x ∈ c, x ≠ 0 ∧ -(V : Int) ≤ x ∧ x ≤ V) (hn : c.length ≤ 100) (hr : cnt st0.c + c.length * (V + 1) + 2 ^ V ≤ st0.c.length + 1) :
 Calls Tryz.prog 47 #[.pointer (some ⟨s.ps, 0, none⟩), .slice (some ⟨g, 0, none⟩) 1 1] w (zpc V s st0 c w) := by
 have hgc : ∀ w', Only s.mem w w' → w'.cell? ⟨g, 0, none⟩ = some vc := fun w' ho => zco ((ho.block _ (zlb hg) hgs).trans hg)
 obtain ⟨a, cap, rfl, _, _⟩ := zk.shape (hc w (Only.refl _ _))
 have g0 := hgc w (Only.refl _ _)
 have Hs := hid hs; have Hso := hid so; have Hgc := hid hgc; have Hc := hid hc; have Hx := hid hx; have Hr := hid hr; have HV := hid hV
 clear hs so hg hgs hc hx hr hV hgc
 go_enter Tryz.func47, Tryz.ntmps47
 go_wp2_with fail
 go_loopg [6, 22] 1 (fun gk al i wr => (gk = 1 ∧ al = .int .i64 1 ∧ i = .int .i64 0 ∧ w = wr) ∨ (gk = 0 ∧ ∃ st h, al = .int .i64 h ∧ i = .int .i64 1 ∧ IsSpace wr s V st ∧ Only s.mem w wr ∧ ClI V st0 st c h))
 case atStart => exact .inl ⟨rfl, rfl, rfl, rfl⟩
 case round =>
  rcases hrel with ⟨rfl, rfl, rfl, rfl⟩ | ⟨rfl, st, h, rfl, rfl, hsp, hon, hcl⟩
  ·
   go_wp2_with fail
   go_loopg [9, 28] c.length (fun gk on i wx => ∃ (k : Nat) (one : Int) (st : Sp), k ≤ c.length ∧ gk = c.length - k ∧ on = .int .i64 one ∧ i = .int .i64 k ∧ IsSpace wx s V st ∧ ClI V st0 st (c.take k) one ∧ Only s.mem w wx)
   case atStart => exact ⟨0, 0, st0, znz _, rfl, rfl, rfl, Hs.out, ClI.start Hso.out, Only.refl _ _⟩
   case round =>
    obtain ⟨k, one, st, hk, rfl, rfl, rfl, hsp, hcl, hon⟩ := hrel
    obtain ⟨wo, rfl⟩ : ∃ y, y = wr := ⟨_, rfl⟩
    by_cases hlt : k < c.length
    ·
     have hi : (k : Int) < (c.length : Int) := by omega
     have hrow := Hc.out wo hon
     obtain ⟨b, rfl, _, _⟩ := zk.at hrow (by omega)
     have hcx := zk.cell (enc := zT) (z := 1) (fun _ => rfl) hrow (k := k) hlt (j := 0) (by decide) rfl
     rw [Nat.mul_one, Nat.add_zero] at hcx
     have hxk := Hx.out _ (List.getElem_mem hlt)
     have htk : c.take (k + 1) = c.take k ++ [c[k]] := List.take_succ_eq_append_getElem hlt
     have hlen : (c.take k).length = k := by rw [List.length_take]; omega
     obtain ⟨x, hxe⟩ : ∃ x, x = c[k] := ⟨_, rfl⟩
     rw [← hxe] at hcx hxk htk
     have hnx := hcl.next (x := x) (by have := HV.out; omega) hxk (by
      rw [hlen]
      have h1 := Hr.out
      have h2 : (k + 1) * (V + 1) ≤ c.length * (V + 1) := Nat.mul_le_mul_right _ hlt
      omega)
     have hV24 : (V : Int) ≤ 24 := by have := HV.out; omega
     have hlw := fun (is : Bool) h0 h1 => zof (V : Int) (if is then x - 1 else -x - 1) is wo s st hsp h0 h1
     obtain ⟨n1, n2, n3, n4, n5, n6, n7⟩ := hnx
     rw [← htk] at n7
     have Hon := hid hon; have H24 := hid hV24
     clear hrow htk hon hcl hsp hlen hxe hV24
     by_cases hp : x < 0
     ·
      have t1 : decide (x < 0) = true := decide_eq_true hp
      have w1 : IntKind.i64.wrap (-x) = -x := IntWalk.i64_in _ (by have := H24.out; have := hxk.2.1; omega)
      have w2 : IntKind.i64.wrap (-x - 1) = -x - 1 := IntWalk.i64_in _ (by have := H24.out; have := hxk.2.1; omega)
      have hL := hlw false (by simp only [Bool.false_eq_true, if_false]; omega) (by simp only [Bool.false_eq_true, if_false]; have := hxk.2.1; omega)
      simp only [Bool.false_eq_true, if_false] at hL
      have hls : zh1 st (-x - 1) false = qV st x := by unfold qV; rw [if_neg (by omega)]
      rw [hls] at hL
      generalize hr2 : kM (qV st x).1 one 1 (qV st x).2.1 = r2 at n6 n7
      generalize qV st x = r at n1 n2 n3 n4 n5 hr2 hL
      have HL := hid hL; have N1 := hid n1; have N6 := hid n6; have N7 := hid n7; have N2 := hid n2; have N3 := hid n3; have N4 := hid n4; have N5 := hid n5; have Hr2 := hid hr2
      clear hL hlw hls hxk hp n1 n2 n3 n4 n5 n6 n7 hr2
      go_wp2_with fail
      refine HL.out.mono ?_
      rintro e w5 ⟨rfl, hs5, ho5⟩
      rw [N1.out]
      simp only [zdQ, if_true]
      have hO := zn2 (V : Int) H24.out one r.2.1 w5 s r.1 hs5 N2.out N3.out N4.out N5.out
      rw [Hr2.out] at hO
      have HO := hid hO; have Ho5 := hid ho5
      clear hO ho5 hs5 HL
      go_wp2_with fail
      refine HO.out.mono ?_
      rintro e w6 ⟨rfl, hs6, ho6⟩
      rw [N6.out]
      simp only [zdQ, if_true]
      have Hs6 := hid hs6; have Ho6 := hid ho6
      clear hs6 ho6 HO
      go_wp2_with fail
      go_roundg (c.length - (k + 1))
      case measure => omega
      case rel => exact ⟨k + 1, r2.2.1, r2.1, by omega, rfl, rfl, by go_num, Hs6.out, N7.out, (Hon.out.trans Ho5.out).trans Ho6.out⟩
     ·
      have t1 : decide (x < 0) = false := decide_eq_false hp
      have w1 : IntKind.i64.wrap (x - 1) = x - 1 := IntWalk.i64_in _ (by have := H24.out; have := hxk.2.2; have := hxk.1; omega)
      have hL := hlw true (by simp only [if_true]; have := hxk.1; omega) (by simp only [if_true]; have := hxk.2.2; omega)
      simp only [if_true] at hL
      have hls : zh1 st (x - 1) true = qV st x := by unfold qV; rw [if_pos (by have := hxk.1; omega)]
      rw [hls] at hL
      generalize hr2 : kM (qV st x).1 one 1 (qV st x).2.1 = r2 at n6 n7
      generalize qV st x = r at n1 n2 n3 n4 n5 hr2 hL
      have HL := hid hL; have N1 := hid n1; have N6 := hid n6; have N7 := hid n7; have N2 := hid n2; have N3 := hid n3; have N4 := hid n4; have N5 := hid n5; have Hr2 := hid hr2
      clear hL hlw hls hxk hp n1 n2 n3 n4 n5 n6 n7 hr2
      go_wp2_with fail
      refine HL.out.mono ?_
      rintro e w5 ⟨rfl, hs5, ho5⟩
      rw [N1.out]
      simp only [zdQ, if_true]
      have hO := zn2 (V : Int) H24.out one r.2.1 w5 s r.1 hs5 N2.out N3.out N4.out N5.out
      rw [Hr2.out] at hO
      have HO := hid hO; have Ho5 := hid ho5
      clear hO ho5 hs5 HL
      go_wp2_with fail
      refine HO.out.mono ?_
      rintro e w6 ⟨rfl, hs6, ho6⟩
      rw [N6.out]
      simp only [zdQ, if_true]
      have Hs6 := hid hs6; have Ho6 := hid ho6
      clear hs6 ho6 HO
      go_wp2_with fail
      go_roundg (c.length - (k + 1))
      case measure => omega
      case rel => exact ⟨k + 1, r2.2.1, r2.1, by omega, rfl, rfl, by go_num, Hs6.out, N7.out, (Hon.out.trans Ho5.out).trans Ho6.out⟩
    ·
     obtain rfl : k = c.length := by omega
     rw [List.take_length] at hcl
     have hV24 : (V : Int) ≤ 24 := by have := HV.out; omega
     have hA := zj9 (V : Int) hV24 1 one wo s st hsp hcl.sok (ql _) hcl.has (by
      have h1 := Hr.out; have h2 := hcl.few; have h3 := hcl.ext.len
      simp only [Int.toNat_natCast]; omega)
     rw [zlc] at hA
     have HA := hid hA; have Hcl := hid hcl; have Hon := hid hon
     clear hA hcl hon hsp hV24 hlt
     go_wp2_with fail
     refine HA.out.mono ?_
     rintro e w7 ⟨rfl, hs7, ho7⟩
     simp only [zdQ, if_true]
     have Hs7 := hid hs7; have Ho7 := hid ho7
     clear hs7 ho7 HA
     go_wp2_with fail
     go_roundg 0
     case measure => omega
     case rel => exact .inr ⟨rfl, st, one, rfl, by go_num, Hs7.out, Hon.out.trans Ho7.out, Hcl.out⟩
  ·
   have Hsp := hid hsp; have Hon := hid hon; have Hcl := hid hcl
   clear hsp hon hcl
   go_wp2_with fail
   go_ret2
   exact ⟨st, h, rfl, Hsp.out, Hon.out, Hcl.out⟩
def zob (V R : Nat) (l : List (List Int)) (w : World) (e : Ending) (w' : World) : Prop :=
 (∃ q s st all, e = .returned (.tuple #[.pointer (some ⟨q, 0, none⟩), .nilIface]) ∧ w'.heap[q]? = some (.cells #[.pointer (some ⟨s.ps, 0, none⟩), .int .i64 all] 40 (0, 0)) ∧ IsSpace w' s V st ∧ zhC V R l st all ∧ w.heap.size ≤ q ∧ w.heap.size ≤ s.ps ∧ (∀ k, s.mem k → w.heap.size ≤ k)) ∧ Below w.heap.size w w'
set_option maxRecDepth 100000 in
set_option maxHeartbeats 16000000 in
theorem zll (p : Nat) (vl vi : Value) (ls : List zi) (items : List zq) (R : Nat) (w : World) (h : zal w p vl vi ls items) (ho : jK ls items) (h10 : items.length ≤ 10) (h200 : (zx ls items).length ≤ 200) (hR : 1 ≤ R ∧ R ≤ 4000) (hr : ∀ c ∈ zR (zx ls items), 2 * 2 ^ items.length + c.length * (items.length + 1) ≤ R + 1) :
 Calls Tryz.prog 11 #[.pointer (some ⟨p, 0, none⟩), .int .i64 R] w (zob items.length R (zR (zx ls items)) w) := by
 have HO := hid (zi7 p vl vi ls items w h ho)
 have hgood := zfQ ho h200
 have hx : ∀ c ∈ zR (zx ls items), c.length ≤ 100 ∧ ∀ x ∈ c, x ≠ 0 ∧ -(items.length : Int) ≤ x ∧ x ≤ items.length := by
  have hg := zkZ ho.few (ze5 ho h200 (by omega))
  intro c hc
  exact ⟨by have := (hg.1.2.2.2 c hc).1; omega, fun x hx => xZ (hg.1.2.2.2 c hc).2 hx⟩
 obtain ⟨rc, hrc⟩ : ∃ rc, rc = zx ls items := ⟨_, rfl⟩
 obtain ⟨V, hV⟩ : ∃ V, V = items.length := ⟨_, rfl⟩
 have HOk := hid ho
 have Hrc := hid hrc; have HVe := hid hV
 rw [← hrc] at hx h200 hr ⊢
 rw [← hV] at hx h10 hr ⊢
 have Hx := hid hx; have Hr := hid hr; have H10 := hid h10; have H200 := hid h200; have HR := hid hR
 clear hx hr h10 h200 hR h ho hgood hrc hV
 go_enter Tryz.func11, Tryz.ntmps11
 go_wp2_with fail
 refine HO.out.mono ?_
 rintro e w2 ⟨⟨a1, c1, a2, c2, rfl, hlen, hin⟩ | ⟨rfl, hlen⟩, hb2⟩
 ·
  rw [← Hrc.out] at hin hlen ⊢
  rw [← HVe.out]
  obtain ⟨us, hus, hul⟩ := zic hin
  obtain ⟨L, hL⟩ : ∃ L, L = rc.length := ⟨_, rfl⟩
  rw [← hL] at hus ⊢
  have hLu : us.length = L := by
   obtain ⟨_, _, e, _, _⟩ := hus.shape
   simp only [Value.slice.injEq] at e
   exact e.2.1.symm
  have hLc : (zR rc).length = L := by rw [hL]; unfold zR; simp
  have hV24 : (V : Int) ≤ 24 := by have := H10.out; omega
  obtain ⟨w3, hw3⟩ : ∃ w3, w3 = w2.alloc (.cells #[.int .i64 V, .slice a1 L c1, .slice a2 L c2] 27) := ⟨_, rfl⟩
  have hb3 : Below w2.heap.size w2 w3 := by rw [hw3]; exact zba
  have hk3 : w3.heap[w2.heap.size]? = some (.cells #[.int .i64 V, .slice a1 L c1, .slice a2 L c2] 27 (0, 0)) := by rw [hw3]; exact za rfl
  have HF := hid (show ∀ W, Below w2.heap.size w2 W → zk W w.heap.size 64 1 zaE (.slice a1 L c1) us ∧ xq (fun v c => yP W 0 v c) us (zR rc) from fun W hW => ⟨hus.below hW, xG (fun a _ b k => zk.below k hW) hul⟩)
  have HN := hid (znK (V : Int) R w3 (by omega) hV24 HR.out.1 HR.out.2)
  obtain ⟨y0, y1, y2⟩ := yA hk3
  have HLu := hid hLu; have HLc := hid hLc; have Hb2 := hid hb2; have Hb3 := hid hb3; have Hk3 := hid hk3; have HL := hid hL; have H24 := hid hV24
  clear hLu hLc hb2 hb3 hk3 hL hV24 hus hul hin hlen HO
  go_upto_region 4 with fail
  rw [← hw3]
  clear hw3
  go_wp2_with fail
  refine HN.out.mono ?_
  rintro e w4 ⟨⟨s, rfl, _, hs4, hps, hmem⟩, hb4⟩
  obtain ⟨q0, q1, q2⟩ := yA ((hb4.block _ (zlb Hk3.out)).trans Hk3.out)
  have hB24 : Below w2.heap.size w2 w4 := Hb3.out.trans (hb4.mono Hb3.out.size)
  have HB := hid (show ∀ W, Only s.mem w4 W → Below w2.heap.size w2 W from fun W ho => hB24.trans (ho.below hB24.size (fun k hk => Nat.le_trans Hb3.out.size (hmem k hk))))
  have Hs4 := hid hs4; have Hps := hid hps; have Hmem := hid hmem
  clear hs4 hps hmem hb4 hB24 HN y0 y1 y2
  go_wp2_with fail
  clear q0 q1 q2
  have hL2 : L ≤ 200 := by rw [HL.out]; exact H200.out
  go_loopg [9, 35] L (fun gk al i wr => ∃ (k : Nat) (all : Int) (st : Sp), k ≤ L ∧ gk = L - k ∧ al = .int .i64 all ∧ i = .int .i64 k ∧ IsSpace wr s V st ∧ zhC V R ((zR rc).take k) st all ∧ Only s.mem w4 wr)
  case atStart => exact ⟨0, 1, _, znz _, rfl, rfl, rfl, Hs4.out, zhC.start V R, Only.refl _ _⟩
  case round =>
   obtain ⟨k, all, st, hk, rfl, rfl, rfl, hsp, hsi, hon⟩ := hrel
   obtain ⟨wo, rfl⟩ : ∃ y, y = wr := ⟨_, rfl⟩
   have hbo := HB.out wo hon
   obtain ⟨hrow, hall⟩ := HF.out wo hbo
   by_cases hlt : k < L
   ·
    have hi : (k : Int) < (L : Int) := by omega
    have hku : k < us.length := by rw [HLu.out]; exact hlt
    have hkc : k < (zR rc).length := by rw [HLc.out]; exact hlt
    obtain ⟨g, rfl, hg, _⟩ := zk.at hrow (by omega)
    have hcx := zk.cell (enc := zaE) (z := 1) kY hrow (k := k) hku (j := 0) (by decide) rfl
    rw [Nat.mul_one, Nat.add_zero] at hcx
    have hout := hall.get k hku hkc
    have htk : (zR rc).take (k + 1) = (zR rc).take k ++ [(zR rc)[k]] := List.take_succ_eq_append_getElem hkc
    have hxk := Hx.out _ (List.getElem_mem hkc)
    have hrk := Hr.out _ (List.getElem_mem hkc)
    obtain ⟨c, hce⟩ : ∃ c, c = (zR rc)[k] := ⟨_, rfl⟩
    rw [← hce] at hout htk hxk hrk
    obtain ⟨u, hue⟩ : ∃ u, u = us[k] := ⟨_, rfl⟩
    rw [← hue] at hcx hout
    obtain ⟨ag, cg, rfl, _, _⟩ := zk.shape hout
    obtain ⟨wA, hwA⟩ : ∃ wA, wA = wo.alloc (.cells #[.slice ag c.length cg] 64) := ⟨_, rfl⟩
    have hbA : Below wo.heap.size wo wA := by rw [hwA]; exact zba
    have hkA : wA.heap[wo.heap.size]? = some (.cells #[.slice ag c.length cg] 64 (0, 0)) := by rw [hwA]; exact za rfl
    have honA : Only s.mem w4 wA := hon.trans (Only.of_below hbA rfl)
    have hclA : ∀ w', Only s.mem wA w' → yP w' 0 (.slice ag c.length cg) c := fun w' ho => by
     have h9 := ((HF.out w' (HB.out w' (honA.trans ho))).2).get k hku hkc
     rw [← hce, ← hue] at h9
     exact h9
    have HC := hid (zhM V H10.out wo.heap.size _ c wA s st (hsp.below hbA) hsi.sok hkA (fun hm => by have := hsp.lt hm; omega) hclA hxk.2 hxk.1 (by have := hsi.few; have := hsi.len; omega))
    have Hon := hid honA; have Htk := hid htk; have Hsi := hid hsi; have Hrk := hid hrk; have HwA := hid hwA
    clear hrow hall hout htk hxk hrk hce hue hbA hkA honA hclA hsp hsi hon hbo hku hkc hg hwA
    go_wp2_with fail
    rw [← HwA.out]
    refine HC.out.mono ?_
    rintro e w5 ⟨st1, h, rfl, hs5, ho5, hcl⟩
    obtain ⟨n1, n2, n3, n4, n5, n6⟩ := Hsi.out.next (by have := H10.out; omega) hcl Hrk.out
    rw [← Htk.out] at n6
    have hA := zj9 (V : Int) H24.out all h w5 s st1 hs5 hcl.sok n1 hcl.has n2
    generalize kM st1 all h 0 = r at n3 n4 n5 n6 hA
    have HA := hid hA; have Ho5 := hid ho5; have N3 := hid n3; have N4 := hid n4; have N5 := hid n5; have N6 := hid n6
    clear hA ho5 hs5 hcl n1 n2 n3 n4 n5 n6 HC
    go_wp2_with fail
    refine HA.out.mono ?_
    rintro e w6 ⟨rfl, hs6, ho6⟩
    rw [N3.out]
    simp only [zdQ, if_true]
    obtain ⟨wB, hwB⟩ : ∃ wB, wB = w6.alloc (.cells #[.int .i64 r.2.1] 3) := ⟨_, rfl⟩
    have hbB : Below w6.heap.size w6 wB := by rw [hwB]; exact zba
    have hkB : wB.heap[w6.heap.size]? = some (.cells #[.int .i64 r.2.1] 3 (0, 0)) := by rw [hwB]; exact za rfl
    have hint : zA wB (.slice (some ⟨w6.heap.size, 0, none⟩) 1 1) [r.2.1] := zjT (n := 1) (c := 1) [r.2.1] hkB rfl rfl (znr _) (by decide) (by simp)
    have hle : r.2.1 ≤ 9223372036854775807 := by have := xE N5.out; have := hs6.ar.len; have := hs6.ar.room.2; omega
    have hF := zmi (V : Int) _ [r.2.1] wB s r.1 (hs6.below hbB) N4.out hint (by simp) (by simpa using hle)
    obtain ⟨nq, hnq⟩ : ∃ nq, nq = zmx r.1 [r.2.1] := ⟨_, rfl⟩
    rw [← hnq] at hF
    have HFr := hid hF; have Ho6 := hid (ho6.trans (Only.of_below hbB rfl)); have HwB := hid hwB
    clear hF ho6 hbB hkB hint hle hnq hwB hs6 HA
    go_wp2_with fail
    rw [← HwB.out]
    refine HFr.out.mono ?_
    rintro e w7 ⟨rfl, hs7, ho7⟩
    have Hs7 := hid hs7; have Ho7 := hid ho7
    clear hs7 ho7 HFr
    go_wp2_with fail
    go_roundg (L - (k + 1))
    case measure => omega
    case rel => exact ⟨k + 1, r.2.1, _, by omega, rfl, rfl, by go_num, Hs7.out, N6.out, (Hon.out.trans Ho5.out).trans (Ho6.out.trans Ho7.out)⟩
   ·
    obtain rfl : k = L := by omega
    have htk : (zR rc).take k = zR rc := by rw [← HLc.out]; exact List.take_length
    rw [htk] at hsi
    have hbA : Below wo.heap.size wo (wo.alloc (.cells #[.pointer (some ⟨s.ps, 0, none⟩), .int .i64 all] 40)) := zba
    have Hsi := hid hsi; have Hsp := hid (hsp.below hbA); have Hbo := hid hbo; have HbA := hid hbA
    clear hsi hsp hbo hbA hon hrow hall htk hlt
    go_wp2_with fail
    go_ret2
    refine ⟨⟨wo.heap.size, s, st, all, rfl, za rfl, Hsp.out, Hsi.out, ?_, ?_, ?_⟩, ?_⟩
    · have := Hb2.out.size; have := Hbo.out.size; omega
    · have := Hb2.out.size; have := Hb3.out.size; have := Hps.out; omega
    · intro j hj; have := Hb2.out.size; have := Hb3.out.size; have := Hmem.out j hj; omega
    · exact Hb2.out.trans ((Hbo.out.trans (HbA.out.mono Hbo.out.size)).mono Hb2.out.size)
 ·
  rw [← Hrc.out] at hlen
  exact absurd H200.out (by omega)
