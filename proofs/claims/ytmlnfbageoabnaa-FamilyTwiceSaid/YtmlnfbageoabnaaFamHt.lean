/- The least sets that hit all of a family; contract: (*family.Store).Hits. -/
import Derived.Test.YtmlnfbageoabnaaFamCp
import Derived.Test.YtmlnfbageoabnaaFamLst
namespace Go.Proofs.Ytmlnfbageoabnaa
open Go.RowKit
set_option linter.unusedVariables false

/-! ### Plain law -/
/-- Sets of V things that have something of each of some words. -/
def hitL (V : Int) (zs : List Nat) : Fam := fun s => (∀ u, s u = true → 0 ≤ u ∧ u < V) ∧ ∀ z ∈ zs, ∃ u, s u = true ∧ smN z u = true
/-- .. of each set of a family. -/
def hitF (V : Int) (F : Fam) : Fam := fun s => (∀ u, s u = true → 0 ≤ u ∧ u < V) ∧ ∀ t, F t → ∃ u, s u = true ∧ t u = true
def oneS (v : Int) : St := fun u => decide (u = v)
/-- The families of one thing each, of a word's things below k. -/
def sngs (k : Int) (z : Nat) : Fam := fun s => ∃ v, 0 ≤ v ∧ v < k ∧ smN z v = true ∧ s = oneS v
theorem least_of_cover {H J : Fam} (h1 : ∀ s, J s → H s) (h2 : ∀ s, H s → ∃ j, J j ∧ Sub j s) (s : St) : leastP J s ↔ leastP H s := by
  constructor
  · rintro ⟨hj, hm⟩
    refine ⟨h1 s hj, fun t ht hs => ?_⟩
    obtain ⟨j, hj2, hjt⟩ := h2 t ht
    have e := hm j hj2 (hjt.trans hs)
    subst e
    exact Sub.antisymm hs hjt
  · rintro ⟨hh, hm⟩
    obtain ⟨j, hj, hjs⟩ := h2 s hh
    have e := hm j (h1 j hj) hjs
    subst e
    exact ⟨hj, fun t ht hs => hm t (h1 t ht) hs⟩
theorem hit_small {V : Int} (hV : V ≤ 24) (zs : List Nat) : Small (hitL V zs) := fun s hs u hu => by have := hs.1 u hu; omega
theorem hit_start {V : Int} (s : St) : (∀ u, s u = false) ↔ leastP (hitL V []) s := by
  have h0 : hitL V [] (fun _ => false) := ⟨fun u hu => (by cases hu), fun z hz => (by cases hz)⟩
  constructor
  · intro h
    have e : s = fun _ => false := funext h
    subst e
    exact ⟨h0, fun t _ hs => by
      funext u
      cases e : t u
      · rfl
      · exact absurd (hs u e) (by simp)⟩
  · intro h
    have := h.2 _ h0 (fun u hu => by cases hu)
    intro u; rw [← this]
theorem sub_cup {a b s : St} (h1 : Sub a s) (h2 : Sub b s) : Sub (cupS a b) s := fun u hu => by
  unfold cupS at hu
  rcases Bool.or_eq_true_iff.1 hu with h | h
  · exact h1 u h
  · exact h2 u h
theorem hit_step {V : Int} (hV : V ≤ 24) (zs : List Nat) (z : Nat) (s : St) : leastP (Kd.join.sem (leastP (hitL V zs)) (sngs V z)) s ↔ leastP (hitL V (zs ++ [z])) s := by
  refine least_of_cover (fun s hs => ?_) (fun s hs => ?_) s
  · simp only [Kd.sem] at hs
    obtain ⟨a, b, ha, ⟨v, v0, v1, v2, rfl⟩, rfl⟩ := hs
    refine ⟨fun u hu => ?_, fun y hy => ?_⟩
    · unfold cupS at hu
      rcases Bool.or_eq_true_iff.1 hu with h | h
      · exact ha.1.1 u h
      · have : u = v := by simpa [oneS] using h
        omega
    · rcases List.mem_append.1 hy with hy | hy
      · obtain ⟨u, h1, h2⟩ := ha.1.2 y hy
        exact ⟨u, by unfold cupS; rw [h1]; rfl, h2⟩
      · rw [List.mem_singleton.1 hy]
        exact ⟨v, by unfold cupS oneS; simp, v2⟩
  · have h1 : hitL V zs s := ⟨hs.1, fun y hy => hs.2 y (List.mem_append_left _ hy)⟩
    obtain ⟨a, ha, has⟩ := least_ex (hit_small hV zs) h1
    obtain ⟨v, hv, hzv⟩ := hs.2 z (List.mem_append_right _ (List.mem_singleton.2 rfl))
    have hb := hs.1 v hv
    refine ⟨cupS a (oneS v), ?_, sub_cup has (fun u hu => ?_)⟩
    · simp only [Kd.sem]; exact ⟨a, oneS v, ha, ⟨v, hb.1, hb.2, hzv, rfl⟩, rfl⟩
    · have : u = v := by simpa [oneS] using hu
      rw [this]; exact hv
theorem hit_all {V : Int} {F : Fam} {ys : List Nat} (hF : Small F) (hm : ∀ y, y ∈ ys ↔ F (smN y)) (s : St) : hitL V ys s ↔ hitF V F s := by
  constructor
  · rintro ⟨h1, h2⟩
    refine ⟨h1, fun t ht => ?_⟩
    have e := smN_of (hF t ht)
    have := h2 _ ((hm _).2 (by rw [e]; exact ht))
    rwa [e] at this
  · rintro ⟨h1, h2⟩
    exact ⟨h1, fun z hz => h2 _ ((hm z).1 hz)⟩
/-- What hits all that hit a family, least, is the family's least sets. -/
theorem berge {V : Int} {F : Fam} (hF : ∀ s, F s → ∀ u, s u = true → 0 ≤ u ∧ u < V) (hV : V ≤ 24) (s : St) : leastP (hitF V (leastP (hitF V F))) s ↔ leastP F s := by
  refine (least_of_cover (fun s hs => ?_) (fun s hs => ?_) s).symm
  · refine ⟨hF s hs, fun t ht => ?_⟩
    obtain ⟨u, h1, h2⟩ := ht.1.2 s hs
    exact ⟨u, h2, h1⟩
  · apply Classical.byContradiction
    intro hn
    have hc : hitF V F (fun u => decide (0 ≤ u) && decide (u < V) && !s u) := by
      refine ⟨fun u hu => by simp at hu; exact ⟨hu.1.1, hu.1.2⟩, fun t ht => ?_⟩
      apply Classical.byContradiction
      intro hno
      refine hn ⟨t, ht, fun u hu => ?_⟩
      cases e : s u
      · exfalso
        have hb := hF t ht u hu
        exact hno ⟨u, by simp [hb.1, hb.2, e], hu⟩
      · rfl
    have hsm : Small (hitF V F) := fun s hs u hu => by have := hs.1 u hu; omega
    obtain ⟨a, ha, has⟩ := least_ex hsm hc
    obtain ⟨u, h1, h2⟩ := hs.2 a ha
    have := has u h2
    simp [h1] at this
theorem hitF_congr {V : Int} {F G : Fam} (h : ∀ s, F s ↔ G s) (s : St) : hitF V F s ↔ hitF V G s := by
  constructor
  · rintro ⟨h1, h2⟩; exact ⟨h1, fun t ht => h2 t ((h t).2 ht)⟩
  · rintro ⟨h1, h2⟩; exact ⟨h1, fun t ht => h2 t ((h t).1 ht)⟩
/-- One thing's word. -/
theorem pow_nat (k : Nat) : (2 : Int) ^ k = ((2 ^ k : Nat) : Int) := by simp
theorem bits_one {V k : Nat} (hV : V ≤ 24) (hk : k < V) : bitsFrom V 0 ((2 : Int) ^ k) = oneS (k : Int) := by
  have hlt : 2 ^ k < 2 ^ V := Nat.pow_lt_pow_right (by decide) hk
  rw [pow_nat, bits_smN hV hlt]
  funext u
  unfold oneS
  by_cases h0 : 0 ≤ u
  · obtain ⟨j, rfl⟩ : ∃ j : Nat, u = j := ⟨u.toNat, by omega⟩
    rw [smN_at, Nat.testBit_two_pow]
    by_cases e : k = j
    · subst e; simp
    · rw [decide_eq_false e, decide_eq_false (by omega)]
  · rw [smN_neg _ h0, decide_eq_false (by omega)]
theorem pow_wrap {k : Nat} (hk : k < 24) : IntKind.u64.wrap ((2 : Int) ^ k) = (2 : Int) ^ k := by
  have h1 : (2 : Nat) ^ k < 2 ^ 24 := Nat.pow_lt_pow_right (by decide) hk
  rw [pow_nat, IntKind.wrap_u64]
  generalize (2 : Nat) ^ k = q at h1 ⊢
  omega
theorem pow_div {V k : Nat} (hk : k < V) : (2 : Int) ^ k / 2 ^ (V : Int).toNat = 0 := by
  have hlt : 2 ^ k < 2 ^ V := Nat.pow_lt_pow_right (by decide) hk
  rw [Int.toNat_natCast, pow_nat, pow_nat]
  generalize (2 : Nat) ^ k = q at hlt ⊢
  generalize (2 : Nat) ^ V = r at hlt ⊢
  exact Int.ediv_eq_zero_of_lt (by omega) (by omega)
theorem bit_zero (y : Nat) (hy : y < 18446744073709551616) (j : Nat) (hj : j < 64) : (bits .and .u64 ((y : Int) / 2 ^ j) 1 == 0) = !y.testBit j := by
  have e2 : (y : Int) / 2 ^ j = ((y / 2 ^ j : Nat) : Int) := by simp
  rw [e2, show (1 : Int) = ((1 : Nat) : Int) by rfl, bits_and_u64_nat _ _ (Nat.lt_of_le_of_lt (Nat.div_le_self _ _) hy) (by decide)]
  have h3 : y / 2 ^ j &&& 1 = (y / 2 ^ j) % 2 := Nat.and_one_is_mod _
  have h5 : y.testBit j = decide (y / 2 ^ j % 2 = 1) := Nat.testBit_eq_decide_div_mod_eq
  rw [h3, h5]
  rcases Nat.mod_two_eq_zero_or_one (y / 2 ^ j) with h4 | h4 <;> rw [h4] <;> rfl
theorem sngs_start (z : Nat) (s : St) : False ↔ sngs 0 z s := ⟨False.elim, fun ⟨v, h1, h2, _⟩ => by omega⟩
theorem sngs_no {z k : Nat} (h : z.testBit k = false) (s : St) : sngs (k : Int) z s ↔ sngs ((k : Int) + 1) z s := by
  constructor
  · rintro ⟨v, h1, h2, h3, h4⟩; exact ⟨v, h1, by omega, h3, h4⟩
  · rintro ⟨v, h1, h2, h3, h4⟩
    refine ⟨v, h1, ?_, h3, h4⟩
    by_cases e : v = k
    · subst e; rw [smN_at, h] at h3; cases h3
    · omega
theorem sngs_yes {z k : Nat} (h : z.testBit k = true) (s : St) : (sngs (k : Int) z s ∨ s = oneS (k : Int)) ↔ sngs ((k : Int) + 1) z s := by
  constructor
  · rintro (⟨v, h1, h2, h3, h4⟩ | h4)
    · exact ⟨v, h1, by omega, h3, h4⟩
    · exact ⟨k, by omega, by omega, by rw [smN_at]; exact h, h4⟩
  · rintro ⟨v, h1, h2, h3, h4⟩
    by_cases e : v = k
    · subst e; exact .inr h4
    · exact .inl ⟨v, h1, by omega, h3, h4⟩

/-- What Hits leaves. -/
structure HtOk (V L : Int) (c c' : Cells) (h x : Int) : Prop where
  zok : ZOk V c'
  ext : Ext c c'
  has : hasM c' x = true
  z : ∀ s, Z c' x s ↔ leastP (hitF V (Z c h)) s
  cnt : lows L c' ≤ lows L c + costO L.toNat
def HtPost (V L : Int) (s : Fb) (c : Cells) (h : Int) (w : World) (e : Ending) (w' : World) : Prop :=
  ∃ c' x, e = .returned (.tuple #[.int .i64 x, .nilIface]) ∧ IsStore w' s V c' ∧ Only s.b.mem w w' ∧ HtOk V L c c' h x
/-- The store of its own, behind a step's work. -/
structure TOk (V : Nat) (ct : Cells) (out : Int) (zs : List Nat) : Prop where
  zok : ZOk V ct
  len : ct.length = 4000
  low : lows ((V : Int) - 3) ct ≤ costO ((V : Int) - 3).toNat
  has : hasM ct out = true
  z : ∀ s, Z ct out s ↔ leastP (hitL V zs) s
/-- .. and while one is made. -/
structure IOk (V : Nat) (c0 ct : Cells) (one : Int) (k : Nat) (z : Nat) : Prop where
  zok : ZOk V ct
  ext : Ext c0 ct
  low : lows ((V : Int) - 3) ct ≤ lows ((V : Int) - 3) c0 + k * (4 + costO 4)
  has : hasM ct one = true
  z : ∀ s, Z ct one s ↔ sngs (k : Int) z s
theorem iok_start {V : Nat} {c0 : Cells} (o : ZOk V c0) (z : Nat) : IOk V c0 c0 0 0 z :=
  ⟨o, Ext.refl _, by omega, hasM_zero _, fun s => ⟨fun h => absurd h (Z_zero _ _), fun h => ((sngs_start z s).2 h).elim⟩⟩
theorem iok_no {V : Nat} {c0 ct : Cells} {one : Int} {k z : Nat} (i : IOk V c0 ct one k z) (h : z.testBit k = false) : IOk V c0 ct one (k + 1) z :=
  ⟨i.zok, i.ext, by have := i.low; rw [Nat.add_mul]; omega, i.has, fun s => (i.z s).trans (by rw [sngs_no h]; rfl)⟩
theorem iok_yes {V : Nat} (hV : V ≤ 7) {c0 ct c1 c2 : Cells} {one x y : Int} {k z : Nat} (hk : k < V) (i : IOk V c0 ct one k z) (h : z.testBit k = true) (a : OneOk V ((V : Int) - 3) ct c1 0 ((2 : Int) ^ k) x) (b : WOk V ((V : Int) - 3) .or c1 c2 one x y) : IOk V c0 c2 y (k + 1) z := by
  have h1 := a.cnt; have h2 := b.cnt; have h3 := i.low
  have t1 := topM_le a.zok.ok one; have t2 := topM_le a.zok.ok x
  have h4 : Kd.or.cost ((V : Int) - 3 - min (topM c1 one) (topM c1 x)).toNat ≤ costO 4 := costO_mono (by omega)
  refine ⟨b.zok, (i.ext.trans a.ext).trans b.ext, by rw [Nat.add_mul]; omega, b.has, fun s => (b.z s).trans ?_⟩
  rw [← show (sngs (k : Int) z s ∨ s = oneS (k : Int)) ↔ sngs ((k + 1 : Nat) : Int) z s from sngs_yes h s]
  simp only [Kd.sem]
  rw [Z_ext i.zok.ok a.zok.ok a.ext one i.has, i.z, a.z, bits_one (by omega) hk]
theorem tok_step {V : Nat} (hV : V ≤ 7) {ct c1 c2 c3 : Cells} {out one x y : Int} {zs : List Nat} {z : Nat} (t : TOk V ct out zs) (i : IOk V ct c1 one V z) (j : WOk V ((V : Int) - 3) .join c1 c2 out one x) (l : LOk V ((V : Int) - 3) c2 c3 x y) : TOk V (sweepM c3 [y]) y (zs ++ [z]) := by
  have hr : ∀ k : Nat, y = (k : Int) + 2 → RchC c3 [y] k := fun k e => by subst e; exact rchC_of_mem l.has (List.mem_singleton.2 rfl)
  have fm := (FMeans.sweep (keep := [y]) ⟨l.has, l.z⟩ l.zok (List.mem_singleton.2 rfl))
  refine ⟨l.zok.sweep _, ?_, ?_, fm.has, fun s => (fm.z s).trans ?_⟩
  · rw [sweepM_len, l.ext.len, j.ext.len, i.ext.len, t.len]
  · refine Nat.le_trans (lows_sweep_one l.zok.ok y) (costO_mono ?_)
    have := topM_le l.zok.ok y; omega
  · rw [← hit_step (V := (V : Int)) (by omega) zs z s]
    refine least_congr (fun s => (j.z s).trans (Kd.join.sem_congr (fun s => ?_) i.z s)) s
    rw [Z_ext t.zok.ok i.zok.ok i.ext out t.has, t.z]

theorem cmap_start {w : World} {md : Nat} {ct c : Cells} (h : MapOf w md (Value.int .i64) (putAssoc (putAssoc [] (0 : Int) (.int .i64 0)) (1 : Int) (.int .i64 1))) : CMap w md ct c := by
  refine ⟨_, h, by rw [assoc_put, assoc_put]; simp, by rw [assoc_put]; simp, fun k v hv => ?_⟩
  rw [assoc_put, assoc_put] at hv
  split at hv
  · rename_i e; subst e; cases hv
    exact ⟨1, rfl, hasM_one _, fun s => (Z_one c s).trans (Z_one ct s).symm, by rw [top_end (getM_end c (.inr rfl)), top_end (getM_end ct (.inr rfl))]; exact Int.le_refl _⟩
  · split at hv
    · rename_i e; subst e; cases hv
      exact ⟨0, rfl, hasM_zero _, fun s => ⟨fun h => absurd h (Z_zero _ _), fun h => absurd h (Z_zero _ _)⟩, by rw [top_end (getM_end c (.inl rfl)), top_end (getM_end ct (.inl rfl))]; exact Int.le_refl _⟩
    · cases hv

set_option maxRecDepth 100000 in
set_option maxHeartbeats 20000000 in
theorem Hits_any (V : Nat) (hV : V ≤ 7) (h : Int) (w : World) (s : Fb) (c : Cells) (hs : IsStore w s V c) (zo : ZOk V c) (hh : hasM c h = true) (hr : lows ((V : Int) - 3) c + costO ((V : Int) - 3).toNat + hiB V ((V : Int) - 3) < c.length) :
    Calls Try.prog 64 #[.pointer (some ⟨s.ps, 0, none⟩), .int .i64 h] w (HtPost V ((V : Int) - 3) s c h w) := by
  have hp : ((2 ^ (V : Int).toNat : Nat) : Int) ≤ 65536 := by
    have : 2 ^ V ≤ 2 ^ 7 := Nat.pow_le_pow_right (by decide) hV
    rw [Int.toNat_natCast]; omega
  have hF := Z_small (V := (V : Int)) (by omega) zo h
  have q0 := FList_any (V := V) (by omega) (by omega) h 65536 w s c hs zo hh hp
  have hmm := @run_makeMap Try.prog
  have Q0 := Lib.hid q0; have Hs := Lib.hid hs; have Hz := Lib.hid zo; have Hh := Lib.hid hh; have Hr := Lib.hid hr; have HF := Lib.hid hF
  clear q0 hs zo hh hr hF hp
  go_enter Try.func64, Try.ntmps64
  go_wp2_with fail
  refine Q0.out.mono ?_
  rintro e w1 ⟨vA, ys, rfl, hua, hsa, hma, hla, hb1⟩
  obtain ⟨aA, cA, rfl, hA1, hA2⟩ := hua.shape
  have hs1 := Hs.out.below hb1
  have s1 := hs1.s1
  have Hua := Lib.hid hua; have Hma := Lib.hid hma; have Hla := Lib.hid hla; have Hb1 := Lib.hid hb1; have Hs1 := Lib.hid hs1
  clear hua hsa hma hla hb1 hs1 Q0
  go_wp2_with fail
  refine (fnew_any V 4000 w1 (by omega) (by omega) (by decide) (by decide)).mono ?_
  rintro e w2 ⟨⟨t, rfl, hR, ht2, htp, htm⟩, hb2⟩
  have hl0 : lows ((V : Int) - 3) (List.replicate 4000 none) = 0 := by unfold lows; rw [List.countP_replicate]; simp [isLow]
  have ht0 : TOk V (List.replicate 4000 none) 1 [] := ⟨ZOk.empty V 4000, List.length_replicate, by rw [hl0]; exact Nat.zero_le _, hasM_one _, fun s => (Z_one _ s).trans (hit_start s)⟩
  have hs2 := Hs1.out.below hb2
  have Ht2 := Lib.hid ht2; have Htp := Lib.hid htp; have Htm := Lib.hid htm; have Hb2 := Lib.hid hb2; have Ht0 := Lib.hid ht0; have Hs2 := Lib.hid hs2
  clear ht2 htp htm hb2 ht0 hl0 hs2 hR s1 Hs1
  go_wp2_with fail
  have hcO4 : costO 4 = 15 := rfl
  have HcO4 := Lib.hid hcO4; clear hcO4
  go_loopg [9, 38] ys.length (fun gk o i wr => ∃ (k : Nat) (out : Int) (ct : Cells), k ≤ ys.length ∧ gk = ys.length - k ∧ o = .int .i64 out ∧ i = .int .i64 k ∧ IsStore wr t V ct ∧ TOk V ct out (ys.take k) ∧ Only t.b.mem w2 wr)
  case atStart => exact ⟨0, 1, _, Nat.zero_le _, rfl, rfl, rfl, Ht2.out, Ht0.out, Only.refl _ _⟩
  case round =>
    obtain ⟨k, out, ct, hk, rfl, rfl, rfl, ht, tk, hon⟩ := hrel
    obtain ⟨wo, hwo⟩ : ∃ wo : World, wo = wr := ⟨_, rfl⟩
    subst hwo
    have hbo : Below w1.heap.size w1 wo := Hb2.out.trans (hon.below Hb2.out.size Htm.out)
    by_cases hlt : k < ys.length
    · obtain ⟨bA, rfl, lA, gA0⟩ := (Hua.out.below hbo).addr hlt
      have gA := gA0 k hlt
      clear gA0
      have hz24 := Hla.out _ (List.getElem_mem hlt)
      have htk1 : ys.take (k + 1) = ys.take k ++ [ys[k]] := List.take_succ_eq_append_getElem hlt
      obtain ⟨z, hz⟩ : ∃ z, z = ys[k] := ⟨_, rfl⟩
      rw [← hz] at gA hz24 htk1
      have hz64 : z < 18446744073709551616 := by
        have : 2 ^ (V : Int).toNat ≤ 2 ^ 7 := Nat.pow_le_pow_right (by decide) (by rw [Int.toNat_natCast]; exact hV)
        omega
      have hso := Hs2.out.only hon (fun e => by have := Htm.out _ e; have := Hs2.out.lps; have := Hs.out.lps; have := Hb1.out.size; omega) (fun j hj e => by have := Htm.out _ e; have := Hs.out.lt hj; have := Hb1.out.size; omega)
      have s1 := hso.s1
      have iA : (k : Int) < (ys.length : Int) := by omega
      have Ht := Lib.hid ht; have Tk := Lib.hid tk; have Hon := Lib.hid hon; have Htk1 := Lib.hid htk1; have Hz64 := Lib.hid hz64
      clear ht tk hon hbo hz24 htk1 hz hz64 hso
      go_wp2_with fail
      clear gA
      go_loopg [12, 46] V (fun gk o i wx => ∃ (j : Nat) (one : Int) (c1 : Cells), j ≤ V ∧ gk = V - j ∧ o = .int .i64 one ∧ i = .int .i64 j ∧ IsStore wx t V c1 ∧ IOk V ct c1 one j z ∧ Only t.b.mem wo wx)
      case atStart => exact ⟨0, 0, ct, Nat.zero_le _, rfl, rfl, rfl, Ht.out, iok_start Tk.out.zok z, Only.refl _ _⟩
      case round =>
        clear s1
        obtain ⟨j, one, c1, hj, rfl, rfl, rfl, ht1, ik, ho1⟩ := hrel
        have Ht1 := Lib.hid ht1; have Ik := Lib.hid ik; have Ho1 := Lib.hid ho1; clear ht1 ik ho1
        by_cases hjl : j < V
        · have hbz := bit_zero z Hz64.out j (by omega)
          have e1 : min ((j : Int).toNat) 64 = j := by rw [Int.toNat_natCast]; omega
          cases hb : z.testBit j
          · rw [hb] at hbz
            have hin := Lib.hid (iok_no Ik.out hb)
            have hbz2 : (bits .and .u64 ((z : Int) / 2 ^ min j 64) 1 == 0) = true := by rw [Nat.min_eq_left (by omega)]; exact hbz
            have hbz1 : (bits .and .u64 ((z : Int) / 2 ^ j) 1 == 0) = true := hbz
            have jV : (j : Int) < (V : Int) := by omega
            clear hb e1 hbz
            go_wp2_with fail
            go_roundg (V - (j + 1))
            case measure => omega
            case rel => exact ⟨j + 1, one, c1, by omega, rfl, rfl, by go_num, Ht1.out, hin.out, Ho1.out⟩
          · rw [hb] at hbz
            have hbz2 : (bits .and .u64 ((z : Int) / 2 ^ min j 64) 1 == 0) = false := by rw [Nat.min_eq_left (by omega)]; exact hbz
            have hbz1 : (bits .and .u64 ((z : Int) / 2 ^ j) 1 == 0) = false := hbz
            have jV : (j : Int) < (V : Int) := by omega
            have hpw := pow_wrap (k := j) (by omega)
            have hli := Ik.out.low
            have hcap : j * (4 + costO 4) ≤ 7 * (4 + costO 4) := Nat.mul_le_mul_right _ (by omega)
            have hct := Tk.out.low; have hcl := Tk.out.len; have hle := Ik.out.ext.len
            have hcm : costO ((V : Int) - 3).toNat ≤ costO 4 := costO_mono (by omega)
            have q1 := One_any (V := V) (L := (V : Int) - 3) (by omega) (by omega) (by omega) ((2 : Int) ^ j) wr c1 Ht1.out Ik.out.zok (pow_div hjl) (by rw [hiB_V]; have := HcO4.out; omega)
            have Q1 := Lib.hid q1; have Hb := Lib.hid hb; have Hli := Lib.hid (show lows ((V : Int) - 3) c1 ≤ 148 by have := HcO4.out; omega); have Hle := Lib.hid (hle.trans hcl)
            have Hpw := Lib.hid hpw
            clear q1 hb e1 hbz hli hcap hct hcl hle hcm hpw
            go_wp2_with fail
            simp only [Hpw.out]
            refine Q1.out.mono ?_
            rintro e w5 ⟨c2, x, rfl, ht2, ho2, k1⟩
            have k1c := k1.cnt
            have q2 := for_any (V := V) (L := (V : Int) - 3) (by omega) (by omega) one x w5 c2 ht2 k1.zok (k1.ext.has Ik.out.has) k1.has (by
              rw [hiB_V, k1.ext.len, Hle.out]
              have h4 : Kd.or.cost ((V : Int) - 3 - min (topM c2 one) (topM c2 x)).toNat ≤ costO 4 := costO_mono (by have := topM_le k1.zok.ok one; have := topM_le k1.zok.ok x; omega)
              have := HcO4.out; have := Hli.out; omega)
            have Q2 := Lib.hid q2; have K1 := Lib.hid k1; have Ho2 := Lib.hid ho2
            clear q2 k1 ho2 ht2 k1c Q1
            go_wp2_with fail
            refine Q2.out.mono ?_
            rintro e w6 ⟨c3, y, rfl, ht3, ho3, k2⟩
            have Hin := Lib.hid (iok_yes hV hjl Ik.out Hb.out K1.out k2); have Ht3 := Lib.hid ht3; have Ho3 := Lib.hid ho3
            clear k2 ht3 ho3 Q2
            go_wp2_with fail
            go_roundg (V - (j + 1))
            case measure => omega
            case rel => exact ⟨j + 1, y, c3, by omega, rfl, rfl, by go_num, Ht3.out, Hin.out, (Ho1.out.trans Ho2.out).trans Ho3.out⟩
        · obtain rfl : V = j := by omega
          have hli := Ik.out.low
          have hcap : V * (4 + costO 4) ≤ 7 * (4 + costO 4) := Nat.mul_le_mul_right _ hV
          have hct := Tk.out.low; have hcl := Tk.out.len; have hle := Ik.out.ext.len
          have hcm : costO ((V : Int) - 3).toNat ≤ costO 4 := costO_mono (by omega)
          have hl148 : lows ((V : Int) - 3) c1 ≤ 148 := by have := HcO4.out; omega
          have hlen : c1.length = 4000 := hle.trans hcl
          have hout := Ik.out.ext.has Tk.out.has
          have hcj : Kd.join.cost ((V : Int) - 3 - min (topM c1 out) (topM c1 one)).toNat ≤ 190 := by
            have h4 : Kd.join.cost ((V : Int) - 3 - min (topM c1 out) (topM c1 one)).toNat ≤ Kd.join.cost 4 := Kd.join.cost_mono (by have := topM_le Ik.out.zok.ok out; have := topM_le Ik.out.zok.ok one; omega)
            have h5 : Kd.join.cost 4 = 190 := rfl
            omega
          have q1 := FJoin_any (V := V) (L := (V : Int) - 3) (by omega) (by omega) out one wr c1 Ht1.out Ik.out.zok hout Ik.out.has (by rw [hiB_V]; omega)
          have Q1 := Lib.hid q1; have H148 := Lib.hid hl148; have Hlen := Lib.hid hlen; have Hcj := Lib.hid hcj
          clear q1 hli hcap hct hcl hle hcm hl148 hlen hout hcj
          go_wp2_with fail
          refine Q1.out.mono ?_
          rintro e w5 ⟨c2, x, rfl, ht2, ho2, k1⟩
          have k1c := k1.cnt
          have hcl2 : costL ((V : Int) - 3 - topM c2 x).toNat ≤ 40 := by
            have h4 : costL ((V : Int) - 3 - topM c2 x).toNat ≤ costL 4 := costL_mono (by have := topM_le k1.zok.ok x; omega)
            have h5 : costL 4 = 40 := rfl
            omega
          have q2 := Least_any (V := V) (L := (V : Int) - 3) (by omega) (by omega) x w5 c2 ht2 k1.zok k1.has (by rw [hiB_V, k1.ext.len, Hlen.out]; have := H148.out; have := Hcj.out; omega)
          have Q2 := Lib.hid q2; have K1 := Lib.hid k1; have Ho2 := Lib.hid ho2
          clear q2 k1 ho2 ht2 k1c hcl2 Q1
          go_wp2_with fail
          refine Q2.out.mono ?_
          rintro e w6 ⟨c3, y, rfl, ht3, ho3, k2⟩
          have t0 := ht3.s0
          have lps := ht3.lps
          have hb6 : Below w6.heap.size w6 (w6.alloc (.cells #[.int .i64 y] 3)) := (Below.refl _ _).alloc (Nat.le_refl _) _
          have ht4 := ht3.below hb6
          have hint : IsInts (w6.alloc (.cells #[.int .i64 y] 3)) (.slice (some ⟨w6.heap.size, 0, none⟩) 1 1) [y] := isInts_row (n := 1) (c := 1) [y] (heap_at rfl) rfl rfl (Nat.le_refl _) (by decide) (by simp)
          have q3 := sweep_any _ [y] _ t.b c3 ht4.ar k2.zok.ok hint (by simp) (by simpa using ht4.le k2.has)
          obtain ⟨nq, hnq⟩ : ∃ z : Int, z = (cnt c3 : Int) - (reachM c3 [y]).length := ⟨_, rfl⟩
          rw [← hnq] at q3
          have Hnx := Lib.hid (tok_step hV Tk.out Ik.out K1.out k2)
          have Q3 := Lib.hid q3; have Ht4 := Lib.hid ht4; have Ho3 := Lib.hid ho3
          clear q3 ht4 ht3 ho3 k2 hb6 hint hnq Q2
          go_wp2_with fail
          refine Q3.out.mono ?_
          rintro e w7 ⟨rfl, ha7, ho7⟩
          have Ht7 := Lib.hid (Ht4.out.arena ho7 ha7); have Ho7 := Lib.hid ho7
          clear ha7 ho7 t0 Q3
          go_wp2_with fail
          go_roundg (ys.length - (k + 1))
          case measure => omega
          case rel => exact ⟨k + 1, y, _, by omega, rfl, rfl, by go_num, Ht7.out, by rw [Htk1.out]; exact Hnx.out, (((Hon.out.trans (Ho1.out.trans Ho2.out)).trans Ho3.out).alloc _).trans Ho7.out⟩
    · obtain rfl : k = ys.length := by omega
      rw [List.take_length] at tk
      have hso := Hs2.out.only hon (fun e => by have := Htm.out _ e; have := Hs2.out.lps; have := Hs.out.lps; have := Hb1.out.size; omega) (fun j hj e => by have := Htm.out _ e; have := Hs.out.lt hj; have := Hb1.out.size; omega)
      have hm0 := mapOf_new wo (Value.int .i64)
      have hbm : Below wo.heap.size wo (wo.alloc (.map #[] 0)) := (Below.refl _ _).alloc (Nat.le_refl _) _
      have hoff : COff s t wo.heap.size := ⟨fun hm => by have := hso.lt hm; omega, by have := hso.lps; omega, fun hm => by
        rcases hm with hm | hm
        · have := Hs.out.lt hm; have := Htp.out; have := Hb1.out.size; omega
        · have := ht.lps; omega, fun j hj hm => by
        rcases hm with hm | hm
        · have := Hs.out.lt hm; have := Htm.out j hj; have := Hb1.out.size; omega
        · have := ht.lt hj; omega⟩
      have hbw : Below w.heap.size w wo := Hb1.out.trans (hbo.mono Hb1.out.size)
      have Hoff := Lib.hid hoff; have Hso := Lib.hid hso; have Ht := Lib.hid ht; have Tk := Lib.hid tk; have Hm0 := Lib.hid hm0; have Hbm := Lib.hid hbm; have Hbw := Lib.hid hbw
      clear hoff hso ht tk hm0 hbm hbw hon hbo
      go_wp2_with (first
        | (show wpList _ _ _ (Oper.mk none (.insert _ _ (.const (.int .i64 0)) _) _ _ _ _ :: _) _ _; refine wpList_insert_of rfl (.tmp 105) (.const (.int .i64 0)) (.const (.int .i64 0)) 95 rfl (kt := 3) (et := 3) (enc := Value.int .i64) (intKey Try.underlying3) Try.underlying95 (b := wo.heap.size) rfl (l := []) Hm0.out (k := 0) rfl (.int .i64 0) rfl ?_; intro ob0 hob0; have hon0 : Only (· = wo.heap.size) wo (setObjW (wo.alloc (.map #[] 0)) wo.heap.size ob0) := (Only.of_below Hbm.out rfl).trans ⟨rfl, rfl, rfl, by simp [setObjW], fun k _ hk => setObjW_other ob0 hk⟩; have Hob0 := Lib.hid hob0; have Hon0 := Lib.hid hon0; clear hob0 hon0; generalize setObjW (wo.alloc (.map #[] 0)) wo.heap.size ob0 = wa at Hob0 Hon0 ⊢)
        | (show wpList _ _ _ (Oper.mk none (.insert _ _ (.const (.int .i64 1)) _) _ _ _ _ :: _) _ _; refine wpList_insert_of rfl (.tmp 105) (.const (.int .i64 1)) (.const (.int .i64 1)) 95 rfl (kt := 3) (et := 3) (enc := Value.int .i64) (intKey Try.underlying3) Try.underlying95 (b := wo.heap.size) rfl (l := putAssoc [] (0 : Int) (.int .i64 0)) Hob0.out (k := 1) rfl (.int .i64 1) rfl ?_; intro ob1 hob1; have hon1 : Only (· = wo.heap.size) wo (setObjW wa wo.heap.size ob1) := Hon0.out.trans ⟨rfl, rfl, rfl, by simp [setObjW], fun k _ hk => setObjW_other ob1 hk⟩; have Hob1 := Lib.hid hob1; have Hon1 := Lib.hid hon1; clear hob1 hon1 Hob0 Hon0; generalize setObjW wa wo.heap.size ob1 = wb at Hob1 Hon1 ⊢))
      have hsb := Hso.out.only Hon1.out (fun e => by have e2 : s.ps = wo.heap.size := e; have := Hso.out.lps; omega) (fun j hj e => by have e2 : j = wo.heap.size := e; have := Hso.out.lt hj; omega)
      have htb := Ht.out.only Hon1.out (fun e => by have e2 : t.ps = wo.heap.size := e; have := Ht.out.lps; omega) (fun j hj e => by have e2 : j = wo.heap.size := e; have := Ht.out.lt hj; omega)
      have hco : costO ((V : Int) - 3 - topM ct out).toNat ≤ costO ((V : Int) - 3).toNat := costO_mono (by have := topM_le Tk.out.zok.ok out; omega)
      have q := copy_in (V := V) (L := (V : Int) - 3) (by omega) (by omega) wo.heap.size Hoff.out Tk.out.zok 25 out wb c hsb htb (cmap_start Hob1.out) Hz.out Tk.out.has (by have := topM_le Tk.out.zok.ok out; omega) (by have := Hr.out; omega)
      refine q.mono ?_
      rintro e w9 ⟨c9, x9, rfl, hs9, hd9, ho9, k9⟩
      have Hs9 := Lib.hid hs9; have Ho9 := Lib.hid ho9; have K9 := Lib.hid k9; have Hco := Lib.hid hco
      clear hs9 hd9 ho9 k9 q hsb htb hco
      go_wp2_with fail
      go_ret2
      refine ⟨c9, x9, rfl, Hs9.out, ?_, K9.out.zok, K9.out.ext, K9.out.good.has, fun st => ?_, ?_⟩
      · have h1 : Only s.b.mem w wo := Only.of_below Hbw.out rfl
        refine h1.trans (((Hon1.out.mono (S' := famMem s wo.heap.size) (fun _ hk => .inr hk)).trans Ho9.out).cut2 (fun k hk hm => ?_))
        rcases hm with hm | hm
        · exact hm
        · omega
      · rw [K9.out.good.z, Tk.out.z]
        exact least_congr (hit_all HF.out Hma.out) st
      · have h1 := K9.out.cnt; have h2 := Hco.out; omega
end Go.Proofs.Ytmlnfbageoabnaa
