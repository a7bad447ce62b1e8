/- Plain law: set; and the space's other methods, one by one. -/
import Derived.Test.YtdeaficdfooegaaDoorIteM
namespace Go.Proofs.YtdeaficdfooegaaDoor
set_option linter.unusedVariables false

/-- Nodes in order, over V variables. -/
structure COk (V : Int) (c : Cells) : Prop where
  ok : Ok c
  red : Red c
  vlt : ∀ k n, c.at k = some n → n.1 < V
theorem SOk.cells {V : Int} {s : Sp} (h : SOk V s) : COk V s.c := ⟨h.ok, h.red, h.vlt⟩
theorem SOk.more {V : Int} {c c' : Cells} {q : Int × Int × Int → Option Int} (h : SOk V ⟨c, q⟩) (e : Ext c c') (o : COk V c') : SOk V ⟨c', q⟩ := by
  refine ⟨o.ok, o.red, o.vlt, fun a b x y hm => ?_⟩
  obtain ⟨n1, n2, n3, n4, n5, n6⟩ := h.mem a b x y hm
  have D : ∀ {z : Int}, hasM c z = true → ∀ val, den c' z val = den c z val := fun hx val => den_ext h.ok o.ok e val _ hx
  exact ⟨e.has n1, e.has n2, e.has n3, e.has n4, fun val => by dsimp only; rw [D n1, D n2, D n3, D n4]; exact n5 val, by dsimp only at n6 ⊢; rw [e.top n1, e.top n2, e.top n3, e.top n4]; exact n6⟩
theorem SOk.none {V : Int} {c : Cells} (o : COk V c) : SOk V ⟨c, fun _ => none⟩ := ⟨o.ok, o.red, o.vlt, fun _ _ _ _ h => by cases h⟩
theorem COk.empty (V : Int) (R : Nat) : COk V (List.replicate R none) := by
  have hat : ∀ k, Cells.at (List.replicate R none) k = none := fun k => by unfold Cells.at; simp only [List.getD_eq_getElem?_getD, List.getElem?_replicate]; split <;> rfl
  exact ⟨⟨fun k n h => (by rw [hat] at h; cases h), fun k n h => (by rw [hat] at h; cases h), fun k n h => (by rw [hat] at h; cases h), fun j k n h => (by rw [hat] at h; cases h)⟩, fun k n h => (by rw [hat] at h; cases h), fun k n h => (by rw [hat] at h; cases h)⟩
theorem COk.sweep {V : Int} {c : Cells} (o : COk V c) (l : List Int) : COk V (sweepM c l) :=
  ⟨sweepM_ok o.ok l, fun k n h => o.red k n (sweepM_some.1 h).2, fun k n h => o.vlt k n (sweepM_some.1 h).2⟩

abbrev Done := Int → Option Int
def putD (d : Done) (h x : Int) : Done := fun k => if h = k then some x else d k
def setM : Nat → Cells → Done → Int → Int → Bool → Cells × Done × Int × Nat
  | 0, c, d, _, _, _ => (c, d, 0, 99)
  | f + 1, c, d, h, v, is =>
    match getM c h with
    | none => (c, d, h, 0)
    | some n =>
      if v < n.1 then (c, d, h, 0) else
      if n.1 = v then (c, d, if is then n.2.2 else n.2.1, 0) else
      match d h with
      | some x => (c, d, x, 0)
      | none =>
        let r1 := setM f c d n.2.1 v is
        if r1.2.2.2 ≠ 0 then (r1.1, r1.2.1, 0, r1.2.2.2) else
        let r2 := setM f r1.1 r1.2.1 n.2.2 v is
        if r2.2.2.2 ≠ 0 then (r2.1, r2.2.1, 0, r2.2.2.2) else
        let r3 := nodeM r2.1 n.1 r1.2.2.1 r2.2.2.1
        (r3.1, putD r2.2.1 h r3.2.1, r3.2.1, r3.2.2)

structure DOk (c : Cells) (d : Done) (v : Int) (is : Bool) : Prop where
  at_ : ∀ k x, d k = some x → hasM c k = true ∧ hasM c x = true ∧ (∀ val, den c x val = den c k (setV val v is)) ∧ topM c k ≤ topM c x
theorem DOk.ext {c c' : Cells} {d : Done} {v : Int} {is : Bool} (h : DOk c d v is) (o : Ok c) (o' : Ok c') (e : Ext c c') : DOk c' d v is :=
  ⟨fun k x hk => by
    obtain ⟨h1, h2, h3, h4⟩ := h.at_ k x hk
    exact ⟨e.has h1, e.has h2, fun val => by rw [den_ext o o' e val _ h2, den_ext o o' e _ _ h1]; exact h3 val, by rw [e.top h1, e.top h2]; exact h4⟩⟩

structure SetOk (V : Int) (c : Cells) (h v : Int) (is : Bool) (r : Cells × Done × Int × Nat) : Prop where
  err : r.2.2.2 = 0
  cok : COk V r.1
  ext : Ext c r.1
  dok : DOk r.1 r.2.1 v is
  has : hasM r.1 r.2.2.1 = true
  den : ∀ val, den r.1 r.2.2.1 val = den c h (setV val v is)
  top : topM c h ≤ topM r.1 r.2.2.1
  cnt : cnt r.1 + 1 ≤ cnt c + 2 ^ (V - topM c h).toNat
  cnt2 : v ≤ V → Go.Proofs.YtdeaficdfooegaaDoor.cnt r.1 + 1 ≤ Go.Proofs.YtdeaficdfooegaaDoor.cnt c + 2 ^ (v - topM c h).toNat

theorem setV_comm (val : Int → Bool) {v u : Int} (b : Bool) (h : u ≠ v) : setV val v b u = val u := by unfold setV; rw [if_neg h]

theorem setM_spec (V : Int) (hV : V ≤ 24) (v : Int) (is : Bool) : ∀ (f : Nat) (c : Cells) (d : Done) (h : Int), COk V c → DOk c d v is → hasM c h = true → (24 - topM c h).toNat < f → cnt c + 2 ^ (V - topM c h).toNat ≤ c.length + 1 → SetOk V c h v is (setM f c d h v is)
  | 0, _, _, _, _, _, _, hf, _ => absurd hf (Nat.not_lt_zero _)
  | f + 1, c, d, h, co, dk, hh, hf, hr => by
    have p1 := two_pow_pos (V - topM c h).toNat
    have p3 := two_pow_pos (v - topM c h).toNat
    cases g : getM c h with
    | none =>
      have e : setM (f + 1) c d h v is = (c, d, h, 0) := by rw [setM, g]
      rw [e]
      exact ⟨rfl, co, Ext.refl _, dk, hh, fun val => by dsimp only; rw [den_end g, den_end g], Int.le_refl _, by dsimp only; omega, fun _ => by dsimp only; omega⟩
    | some n =>
      obtain ⟨b1, b2, k1, k2, k3, k4⟩ := co.ok.kids g
      have ht := top_node g
      by_cases hv : v < n.1
      · have e : setM (f + 1) c d h v is = (c, d, h, 0) := by rw [setM, g]; simp only [if_pos hv]
        rw [e]
        exact ⟨rfl, co, Ext.refl _, dk, hh, fun val => (den_free co.ok _ val h (by rw [ht]; exact hv)).symm, Int.le_refl _, by dsimp only; omega, fun _ => by dsimp only; omega⟩
      · by_cases hq : n.1 = v
        · have e : setM (f + 1) c d h v is = (c, d, if is then n.2.2 else n.2.1, 0) := by rw [setM, g]; simp only [if_neg hv, if_pos hq]
          rw [e]
          subst hq
          cases is
          · exact ⟨rfl, co, Ext.refl _, dk, k1, fun val => (den_low co.ok g val).symm, by dsimp only; simp; omega, by dsimp only; omega, fun _ => by dsimp only; omega⟩
          · exact ⟨rfl, co, Ext.refl _, dk, k2, fun val => (den_high co.ok g val).symm, by dsimp only; simp; omega, by dsimp only; omega, fun _ => by dsimp only; omega⟩
        · cases hd : d h with
          | some x =>
            have e : setM (f + 1) c d h v is = (c, d, x, 0) := by rw [setM, g]; simp only [if_neg hv, if_neg hq, hd]
            rw [e]
            obtain ⟨_, d2, d3, d4⟩ := dk.at_ h x hd
            exact ⟨rfl, co, Ext.refl _, dk, d2, d3, d4, by dsimp only; omega, fun _ => by dsimp only; omega⟩
          | none =>
            have hnV : n.1 < V := by obtain ⟨k, rfl, h3, _⟩ := getM_some g; exact co.vlt k n h3
            rw [ht] at hr hf
            have sp := two_pow_split hnV
            have p2 := two_pow_pos (V - (n.1 + 1)).toNat
            have w1 := two_pow_le (show (V - topM c n.2.1).toNat ≤ (V - (n.1 + 1)).toNat by omega)
            have r1 := setM_spec V hV v is f c d n.2.1 co dk k1 (by omega) (by omega)
            have e : setM (f + 1) c d h v is = (let r1 := setM f c d n.2.1 v is
                if r1.2.2.2 ≠ 0 then (r1.1, r1.2.1, 0, r1.2.2.2) else
                let r2 := setM f r1.1 r1.2.1 n.2.2 v is
                if r2.2.2.2 ≠ 0 then (r2.1, r2.2.1, 0, r2.2.2.2) else
                let r3 := nodeM r2.1 n.1 r1.2.2.1 r2.2.2.1
                (r3.1, putD r2.2.1 h r3.2.1, r3.2.1, r3.2.2)) := by rw [setM, g]; simp only [if_neg hv, if_neg hq, hd]
            rw [e]
            generalize setM f c d n.2.1 v is = R1 at r1 ⊢
            have E1 := r1.ext
            have c1 := r1.cnt
            have L1 := E1.len
            have t2 : topM R1.1 n.2.2 = topM c n.2.2 := E1.top k2
            have w2 := two_pow_le (show (V - topM R1.1 n.2.2).toNat ≤ (V - (n.1 + 1)).toNat by omega)
            have r2 := setM_spec V hV v is f R1.1 R1.2.1 n.2.2 r1.cok r1.dok (E1.has k2) (by omega) (by omega)
            have er1 : ¬ (R1.2.2.2 ≠ 0) := by rw [r1.err]; simp
            simp only [if_neg er1]
            generalize setM f R1.1 R1.2.1 n.2.2 v is = R2 at r2 ⊢
            have E2 := r2.ext
            have c2 := r2.cnt
            have L2 := E2.len
            have er2 : ¬ (R2.2.2.2 ≠ 0) := by rw [r2.err]; simp
            simp only [if_neg er2]
            have u1 : n.1 < topM R2.1 R1.2.2.1 := by rw [E2.top r1.has]; have := r1.top; omega
            have u2 : n.1 < topM R2.1 R2.2.2.1 := by have := r2.top; omega
            have r3 := nodeM_spec r2.cok.ok r2.cok.red b1 b2 (E2.has r1.has) r2.has u1 u2 (by omega)
            generalize nodeM R2.1 n.1 R1.2.2.1 R2.2.2.1 = R3 at r3 ⊢
            have E3 := r3.ext
            have c3 := r3.cnt
            have E := (E1.trans E2).trans E3
            have hden : ∀ val, den R3.1 R3.2.1 val = den c h (setV val v is) := by
              intro val
              rw [r3.den, den_node co.ok g, setV_comm val is hq, den_ext r1.cok.ok r2.cok.ok E2 val _ r1.has, r1.den, r2.den, den_ext co.ok r1.cok.ok E1 _ _ k2]
            refine ⟨r3.err, ⟨r3.ok, r3.red, fun k m hk => ?_⟩, E, ⟨fun k x hk => ?_⟩, r3.has, hden, by rw [ht]; exact r3.top, by rw [ht]; dsimp only; omega, fun hvV => ?_⟩
            · rcases r3.old k m hk with h3 | rfl
              · exact r2.cok.vlt k m h3
              · exact hnV
            · dsimp only at hk
              unfold putD at hk
              split at hk
              · rename_i e4
                subst e4
                cases hk
                exact ⟨E.has hh, r3.has, fun val => by rw [den_ext co.ok r3.ok E _ _ hh]; exact hden val, by rw [E.top hh, ht]; exact r3.top⟩
              · exact (r2.dok.ext r2.cok.ok r3.ok E3).at_ k x hk
            · have q1 := r1.cnt2 hvV
              have q2 := r2.cnt2 hvV
              have sp2 := two_pow_split (show n.1 < v by omega)
              have x1 := two_pow_le (show (v - topM c n.2.1).toNat ≤ (v - (n.1 + 1)).toNat by omega)
              have x2 := two_pow_le (show (v - topM R1.1 n.2.2).toNat ≤ (v - (n.1 + 1)).toNat by omega)
              rw [ht]; dsimp only; omega
end Go.Proofs.YtdeaficdfooegaaDoor
