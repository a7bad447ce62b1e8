/- Plain law: what ite makes is what it says; and there is room. -/
import Derived.Test.YtdeaficdfooegaaDoorBddM
namespace Go.Proofs.YtdeaficdfooegaaDoor
set_option linter.unusedVariables false

/-- A space in order, over V variables. -/
structure SOk (V : Int) (s : Sp) : Prop where
  ok : Ok s.c
  red : Red s.c
  vlt : ∀ k n, s.c.at k = some n → n.1 < V
  mem : ∀ a b c h, s.q (a, b, c) = some h → hasM s.c a = true ∧ hasM s.c b = true ∧ hasM s.c c = true ∧ hasM s.c h = true ∧ (∀ val, den s.c h val = if den s.c a val then den s.c b val else den s.c c val) ∧ min3 (topM s.c a) (topM s.c b) (topM s.c c) ≤ topM s.c h

theorem Ok.top_pos {c : Cells} (o : Ok c) (h : Int) : 0 ≤ topM c h ∧ topM c h ≤ 24 := topM_le o h

structure NodeOk (c : Cells) (v l h : Int) (r : Cells × Int × Nat) : Prop where
  err : r.2.2 = 0
  ext : Ext c r.1
  ok : Ok r.1
  red : Red r.1
  has : hasM r.1 r.2.1 = true
  den : ∀ val, den r.1 r.2.1 val = if val v then den c h val else den c l val
  top : v ≤ topM r.1 r.2.1
  cnt : cnt r.1 ≤ cnt c + 1
  old : ∀ k n, r.1.at k = some n → c.at k = some n ∨ n = (v, l, h)

theorem nodeM_spec {c : Cells} (o : Ok c) (rd : Red c) {v l h : Int} (v0 : 0 ≤ v) (v1 : v < 24) (hl : hasM c l = true) (hh : hasM c h = true) (tl : v < topM c l) (th : v < topM c h) (hr : cnt c < c.length) : NodeOk c v l h (nodeM c v l h) := by
  by_cases e : l = h
  · subst e
    have hn : nodeM c v l l = (c, l, 0) := by unfold nodeM; rw [if_pos rfl]
    rw [hn]
    exact ⟨rfl, Ext.refl c, o, rd, hl, fun val => by simp, by dsimp only; omega, by simp, fun k n h => .inl h⟩
  · have hn : nodeM c v l h = mkM c (v, l, h) := by unfold nodeM; rw [if_neg e]
    have hb : badM c (v, l, h) = 0 := badM_zero v0 v1 hl hh tl th
    have he := mkM_room hb hr
    have hext := mkM_ext c (v, l, h)
    have hok := mkM_ok o (v, l, h)
    have hg := mkM_get he
    have hold : ∀ k n, (mkM c (v, l, h)).1.at k = some n → c.at k = some n ∨ n = (v, l, h) := by
      intro k n hk
      unfold mkM at hk
      rw [if_neg (by simp [hb])] at hk
      split at hk
      · exact .inl hk
      · split at hk
        · rename_i j hj
          rw [at_set _ (freeM_some hj).1] at hk
          split at hk
          · cases hk; exact .inr rfl
          · exact .inl hk
        · exact .inl hk
    rw [hn]
    refine ⟨he, hext, hok, fun k n hk => ?_, has_of_get hg, fun val => ?_, ?_, mkM_cnt c _, hold⟩
    · rcases hold k n hk with h1 | rfl
      · exact rd k n h1
      · exact e
    · rw [den_node hok hg, den_ext o hok hext val l hl, den_ext o hok hext val h hh]
    · rw [top_node hg]; exact Int.le_refl _

structure AtOk (c : Cells) (h v : Int) (r : Int × Int) : Prop where
  has1 : hasM c r.1 = true
  has2 : hasM c r.2 = true
  den1 : ∀ val, den c r.1 val = den c h (setV val v false)
  den2 : ∀ val, den c r.2 val = den c h (setV val v true)
  top1 : v < topM c r.1
  top2 : v < topM c r.2
theorem atM_spec {c : Cells} (o : Ok c) {h v : Int} (hh : hasM c h = true) (hv : v ≤ topM c h) (hv2 : v < 24) : AtOk c h v (atM c h v) := by
  unfold atM
  cases g : getM c h with
  | none =>
    have := top_end g
    exact ⟨hh, hh, fun val => by dsimp only; rw [den_end g, den_end g], fun val => by dsimp only; rw [den_end g, den_end g], by dsimp only; omega, by dsimp only; omega⟩
  | some n =>
    obtain ⟨b1, b2, k1, k2, k3, k4⟩ := o.kids g
    have ht := top_node g
    dsimp only
    split
    · rename_i e
      subst e
      exact ⟨k1, k2, fun val => (den_low o g val).symm, fun val => (den_high o g val).symm, k3, k4⟩
    · rename_i e
      have : v < topM c h := by omega
      exact ⟨hh, hh, fun val => (den_free o _ val h this).symm, fun val => (den_free o _ val h this).symm, this, this⟩

theorem setV_self (val : Int → Bool) (v : Int) : setV val v (val v) = val := by
  funext u; unfold setV; split
  · rename_i e; rw [e]
  · rfl

theorem two_pow_split {V v : Int} (h : v < V) : 2 ^ (V - v).toNat = 2 ^ (V - (v + 1)).toNat + 2 ^ (V - (v + 1)).toNat := by
  have : (V - v).toNat = (V - (v + 1)).toNat + 1 := by omega
  rw [this, Nat.pow_succ]; omega
theorem two_pow_le {a b : Nat} (h : a ≤ b) : 2 ^ a ≤ 2 ^ b := Nat.pow_le_pow_right (by decide) h
theorem two_pow_pos (a : Nat) : 1 ≤ 2 ^ a := Nat.one_le_two_pow

structure IteOk (V : Int) (s : Sp) (a b c : Int) (r : Sp × Int × Nat) : Prop where
  err : r.2.2 = 0
  sok : SOk V r.1
  ext : Ext s.c r.1.c
  has : hasM r.1.c r.2.1 = true
  den : ∀ val, den r.1.c r.2.1 val = if den s.c a val then den s.c b val else den s.c c val
  top : min3 (topM s.c a) (topM s.c b) (topM s.c c) ≤ topM r.1.c r.2.1
  cnt : cnt r.1.c + 1 ≤ cnt s.c + 2 ^ (V - min3 (topM s.c a) (topM s.c b) (topM s.c c)).toNat

theorem hitM_some {s : Sp} {k : Int × Int × Int} {h : Int} (e : hitM s k = some h) : s.q k = some h := by
  unfold hitM at e
  cases h1 : s.q k with
  | none => rw [h1] at e; cases e
  | some h' =>
    rw [h1] at e
    simp only at e
    split at e
    · exact e
    · cases e

theorem iteM_spec (V : Int) (hV : V ≤ 24) : ∀ (f : Nat) (s : Sp) (a b c : Int), SOk V s → hasM s.c a = true → hasM s.c b = true → hasM s.c c = true → (24 - min3 (topM s.c a) (topM s.c b) (topM s.c c)).toNat < f →
    cnt s.c + 2 ^ (V - min3 (topM s.c a) (topM s.c b) (topM s.c c)).toNat ≤ s.c.length + 1 → IteOk V s a b c (iteM f s a b c)
  | 0, _, _, _, _, _, _, _, _, hf, _ => absurd hf (Nat.not_lt_zero _)
  | f + 1, s, a, b, c, so, ha, hb, hc, hf, hr => by
    have ta := so.ok.top_pos a
    have tb := so.ok.top_pos b
    have tc := so.ok.top_pos c
    have p1 := two_pow_pos (V - min3 (topM s.c a) (topM s.c b) (topM s.c c)).toNat
    by_cases h1 : a = 1 ∨ b = c
    · have e : iteM (f + 1) s a b c = (s, b, 0) := by rw [iteM, if_pos h1]
      rw [e]
      refine ⟨rfl, so, Ext.refl _, hb, fun val => ?_, by unfold min3; dsimp only; omega, by dsimp only; omega⟩
      rcases h1 with rfl | rfl
      · simp [den_one]
      · simp
    · by_cases h0 : a = 0
      · have e : iteM (f + 1) s a b c = (s, c, 0) := by rw [iteM, if_neg h1, if_pos h0]
        rw [e]
        refine ⟨rfl, so, Ext.refl _, hc, fun val => ?_, by unfold min3; dsimp only; omega, by dsimp only; omega⟩
        subst h0; simp [den_zero]
      · cases hq : hitM s (a, b, c) with
        | some h =>
          have e : iteM (f + 1) s a b c = (s, h, 0) := by rw [iteM, if_neg h1, if_neg h0, hq]
          rw [e]
          obtain ⟨_, _, _, m1, m2, m3⟩ := so.mem a b c h (hitM_some hq)
          exact ⟨rfl, so, Ext.refl _, m1, m2, m3, by dsimp only; omega⟩
        | none =>
          obtain ⟨v, hv⟩ : ∃ v, v = min3 (topM s.c a) (topM s.c b) (topM s.c c) := ⟨_, rfl⟩
          have hva : v ≤ topM s.c a := by rw [hv]; unfold min3; omega
          have hvb : v ≤ topM s.c b := by rw [hv]; unfold min3; omega
          have hvc : v ≤ topM s.c c := by rw [hv]; unfold min3; omega
          have hv0 : 0 ≤ v := by rw [hv]; unfold min3; omega
          obtain ⟨n, g⟩ : ∃ n, getM s.c a = some n := by
            cases g : getM s.c a with
            | some n => exact ⟨n, rfl⟩
            | none =>
              rcases getM_none_of_has ha g with e | e
              · exact absurd e h0
              · exact absurd (.inl e) h1
          have hvV : v < V := by
            have h2 := top_node g
            obtain ⟨k, rfl, h3, _⟩ := getM_some g
            have := so.vlt k n h3
            omega
          have A := atM_spec so.ok ha hva (by omega)
          have B := atM_spec so.ok hb hvb (by omega)
          have C := atM_spec so.ok hc hvc (by omega)
          have m1 : v + 1 ≤ min3 (topM s.c (atM s.c a v).1) (topM s.c (atM s.c b v).1) (topM s.c (atM s.c c v).1) := by have := A.top1; have := B.top1; have := C.top1; unfold min3; omega
          have w1 := two_pow_le (show (V - min3 (topM s.c (atM s.c a v).1) (topM s.c (atM s.c b v).1) (topM s.c (atM s.c c v).1)).toNat ≤ (V - (v + 1)).toNat by omega)
          have sp := two_pow_split hvV
          have p2 := two_pow_pos (V - (v + 1)).toNat
          rw [← hv] at hr hf
          have r1 := iteM_spec V hV f s (atM s.c a v).1 (atM s.c b v).1 (atM s.c c v).1 so A.has1 B.has1 C.has1 (by omega) (by omega)
          have e : iteM (f + 1) s a b c = (let r1 := iteM f s (atM s.c a v).1 (atM s.c b v).1 (atM s.c c v).1
              if r1.2.2 ≠ 0 then (r1.1, 0, r1.2.2) else
              let r2 := iteM f r1.1 (atM s.c a v).2 (atM s.c b v).2 (atM s.c c v).2
              if r2.2.2 ≠ 0 then (r2.1, 0, r2.2.2) else
              let r3 := nodeM r2.1.c v r1.2.1 r2.2.1
              (⟨r3.1, if r3.2.2 = 0 then putQ r2.1.q (a, b, c) r3.2.1 else r2.1.q⟩, r3.2.1, r3.2.2)) := by rw [iteM, if_neg h1, if_neg h0, hq, hv]
          rw [e]
          generalize iteM f s (atM s.c a v).1 (atM s.c b v).1 (atM s.c c v).1 = R1 at r1 ⊢
          have E1 := r1.ext
          have c1 := r1.cnt
          have ht2 : ∀ {x : Int}, hasM s.c x = true → topM R1.1.c x = topM s.c x := fun hx => E1.top hx
          have m2 : v + 1 ≤ min3 (topM R1.1.c (atM s.c a v).2) (topM R1.1.c (atM s.c b v).2) (topM R1.1.c (atM s.c c v).2) := by
            rw [ht2 A.has2, ht2 B.has2, ht2 C.has2]; have := A.top2; have := B.top2; have := C.top2; unfold min3; omega
          have w2 := two_pow_le (show (V - min3 (topM R1.1.c (atM s.c a v).2) (topM R1.1.c (atM s.c b v).2) (topM R1.1.c (atM s.c c v).2)).toNat ≤ (V - (v + 1)).toNat by omega)
          have L1 := E1.len
          have r2 := iteM_spec V hV f R1.1 (atM s.c a v).2 (atM s.c b v).2 (atM s.c c v).2 r1.sok (E1.has A.has2) (E1.has B.has2) (E1.has C.has2) (by omega) (by omega)
          have er1 : ¬ (R1.2.2 ≠ 0) := by rw [r1.err]; simp
          simp only [if_neg er1]
          generalize iteM f R1.1 (atM s.c a v).2 (atM s.c b v).2 (atM s.c c v).2 = R2 at r2 ⊢
          have E2 := r2.ext
          have c2 := r2.cnt
          have L2 := E2.len
          have er2 : ¬ (R2.2.2 ≠ 0) := by rw [r2.err]; simp
          simp only [if_neg er2]
          have t1 : v < topM R2.1.c R1.2.1 := by rw [E2.top r1.has]; have := r1.top; omega
          have t2 : v < topM R2.1.c R2.2.1 := by have := r2.top; omega
          have r3 := nodeM_spec r2.sok.ok r2.sok.red hv0 (by omega) (E2.has r1.has) r2.has t1 t2 (by omega)
          generalize nodeM R2.1.c v R1.2.1 R2.2.1 = R3 at r3 ⊢
          have E3 := r3.ext
          have c3 := r3.cnt
          have E := (E1.trans E2).trans E3
          have hden : ∀ val, den R3.1 R3.2.1 val = if den s.c a val then den s.c b val else den s.c c val := by
            intro val
            rw [r3.den]
            cases hb' : val v
            · have hs : setV val v false = val := by rw [← hb']; exact setV_self val v
              simp only [Bool.false_eq_true, if_false]
              rw [den_ext r1.sok.ok r2.sok.ok E2 val _ r1.has, r1.den, A.den1, B.den1, C.den1, hs]
            · have hs : setV val v true = val := by rw [← hb']; exact setV_self val v
              simp only [if_true]
              rw [r2.den, den_ext so.ok r1.sok.ok E1 val _ A.has2, den_ext so.ok r1.sok.ok E1 val _ B.has2, den_ext so.ok r1.sok.ok E1 val _ C.has2, A.den2, B.den2, C.den2, hs]
          have D : ∀ {x : Int}, hasM s.c x = true → ∀ val, den R3.1 x val = den s.c x val := fun hx val => den_ext so.ok r3.ok E val _ hx
          rw [if_pos r3.err]
          refine ⟨r3.err, ⟨r3.ok, r3.red, fun k m hk => ?_, fun a' b' c' h' hm => ?_⟩, E, r3.has, hden, by rw [← hv]; exact r3.top, by rw [← hv]; dsimp only; omega⟩
          · rcases r3.old k m hk with h3 | rfl
            · exact r2.sok.vlt k m h3
            · exact hvV
          · unfold putQ at hm
            dsimp only at hm ⊢
            split at hm
            · rename_i e4
              simp only [Prod.mk.injEq] at e4
              obtain ⟨rfl, rfl, rfl⟩ := e4
              cases hm
              refine ⟨E.has ha, E.has hb, E.has hc, r3.has, fun val => ?_, ?_⟩
              · rw [D ha, D hb, D hc]; exact hden val
              · rw [E.top ha, E.top hb, E.top hc, ← hv]; exact r3.top
            · obtain ⟨n1, n2, n3, n4, n5, n6⟩ := r2.sok.mem a' b' c' h' hm
              have D2 : ∀ {x : Int}, hasM R2.1.c x = true → ∀ val, den R3.1 x val = den R2.1.c x val := fun hx val => den_ext r2.sok.ok r3.ok E3 val _ hx
              exact ⟨E3.has n1, E3.has n2, E3.has n3, E3.has n4, fun val => by rw [D2 n1, D2 n2, D2 n3, D2 n4]; exact n5 val, by rw [E3.top n1, E3.top n2, E3.top n3, E3.top n4]; exact n6⟩
end Go.Proofs.YtdeaficdfooegaaDoor
