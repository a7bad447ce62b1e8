/- Plain law: what plain.Functions makes. -/
import Derived.Test.YtdeaficdfooegaaDoorSteps
namespace Go.Proofs.YtdeaficdfooegaaDoor
set_option linter.unusedVariables false

def odd (x : Int) : Bool := x.tmod 2 != 0
/-- One step. -/
def stepX (V : Nat) (st : Sp) (out : List Int) (x : Stp) : Sp × Int × Nat :=
  let a := outAt out x.2.1
  let b := outAt out x.2.2.1
  let c := outAt out x.2.2.2
  let v : Int := pickN x.2.2.1 V
  if pickN x.1 9 = 0 then litX st (pickN x.2.1 V) (odd x.2.2.1)
  else if pickN x.1 9 = 1 then iteX st a 0 1
  else if pickN x.1 9 = 2 then iteX st a b 0
  else if pickN x.1 9 = 3 then iteX st a 1 b
  else if pickN x.1 9 = 4 then xorX st a b
  else if pickN x.1 9 = 5 then iteX st a b c
  else if pickN x.1 9 = 6 then setX st a v (odd x.2.2.2)
  else if pickN x.1 9 = 7 then someX st a v
  else eachX st a v
noncomputable def funsX (V : Nat) : List Stp → Sp → List Int → Sp × List Int
  | [], st, out => (st, out)
  | x :: l, st, out => funsX V l (freeX (stepX V st out x).1 (out ++ [(stepX V st out x).2.1])) (out ++ [(stepX V st out x).2.1])

/-- A space and the handles that are kept. -/
structure FOk (V : Nat) (st : Sp) (out : List Int) : Prop where
  sok : SOk V st
  has : ∀ h ∈ out, hasM st.c h = true
  ne : 0 < out.length
theorem FOk.at_ {V : Nat} {st : Sp} {out : List Int} (h : FOk V st out) (a : Int) : hasM st.c (outAt out a) = true := by
  have hl := pickN_lt a h.ne
  refine h.has _ ?_
  unfold outAt
  rw [List.getD_eq_getElem?_getD, List.getElem?_eq_getElem hl]
  exact List.getElem_mem hl
theorem ROk.le {V : Int} {st : Sp} {r : Sp × Int × Nat} {D : (Int → Bool) → Bool} {k k' : Nat} (h : ROk V st r D k) (hk : k ≤ k') : ROk V st r D k' := ⟨h.err, h.sok, h.ext, h.has, h.den, by have := h.cnt; omega⟩
theorem ROk.of {V : Int} {st : Sp} {r r' : Sp × Int × Nat} {D D' : (Int → Bool) → Bool} {k : Nat} (h : ROk V st r D k) (e : r' = r) (hD : ∀ val, D val = D' val) : ROk V st r' D' k := by subst e; exact ⟨h.err, h.sok, h.ext, h.has, fun val => (h.den val).trans (hD val), h.cnt⟩

theorem litX_ok {V : Int} (hV : V ≤ 24) {st : Sp} {v : Int} (is : Bool) (h0 : 0 ≤ v) (h1 : v < V) (so : SOk V st) (hr : cnt st.c < st.c.length) : ROk V st (litX st v is) (fun val => val v == is) 1 := by
  have t1 : topM st.c 1 = 24 := top_end (getM_end _ (.inr rfl))
  have t0 : topM st.c 0 = 24 := top_end (getM_end _ (.inl rfl))
  cases is
  · have n := nodeM_spec so.ok so.red h0 (by omega) (hasM_one st.c) (hasM_zero st.c) (by rw [t1]; omega) (by rw [t0]; omega) hr
    refine ⟨n.err, so.more n.ext ⟨n.ok, n.red, fun k m hk => ?_⟩, n.ext, n.has, fun val => (n.den val).trans ?_, n.cnt⟩
    · rcases n.old k m hk with h | rfl
      · exact so.vlt k m h
      · exact h1
    · rw [den_zero, den_one]; cases val v <;> rfl
  · have n := nodeM_spec so.ok so.red h0 (by omega) (hasM_zero st.c) (hasM_one st.c) (by rw [t0]; omega) (by rw [t1]; omega) hr
    refine ⟨n.err, so.more n.ext ⟨n.ok, n.red, fun k m hk => ?_⟩, n.ext, n.has, fun val => (n.den val).trans ?_, n.cnt⟩
    · rcases n.old k m hk with h | rfl
      · exact so.vlt k m h
      · exact h1
    · rw [den_zero, den_one]; cases val v <;> rfl

theorem xorX_ok {V : Int} (hV : V ≤ 24) {st : Sp} {a b : Int} (so : SOk V st) (ha : hasM st.c a = true) (hb : hasM st.c b = true) (hr : cnt st.c + 2 * 2 ^ V.toNat ≤ st.c.length + 1) :
    ROk V st (xorX st a b) (fun val => den st.c a val != den st.c b val) (2 * 2 ^ V.toNat) := by
  have r1 := iteX_ok hV so hb (hasM_zero _) (hasM_one _) (by omega)
  have l1 := r1.ext.len; have c1 := r1.cnt
  have r2 := iteX_ok hV r1.sok (r1.hasOld ha) r1.has (r1.hasOld hb) (by omega)
  refine ⟨r2.err, r2.sok, r1.ext.trans r2.ext, r2.has, fun val => (r2.den val).trans ?_, by have := r2.cnt; unfold xorX; dsimp only; omega⟩
  rw [old_den r1 so ha, old_den r1 so hb, r1.den, den_zero, den_one]
  cases den st.c a val <;> cases den st.c b val <;> rfl

theorem stepX_ok {V : Nat} (h1 : 1 ≤ V) (hV : V ≤ 24) {st : Sp} {out : List Int} (f : FOk V st out) (x : Stp) (hr : cnt st.c + 2 * 2 ^ V ≤ st.c.length + 1) : ∃ D, ROk V st (stepX V st out x) D (2 * 2 ^ V) := by
  have hr2 : cnt st.c + 2 * 2 ^ (V : Int).toNat ≤ st.c.length + 1 := by simpa using hr
  have hp := Nat.two_pow_pos V
  have hpe : 2 ^ (V : Int).toNat = 2 ^ V := by simp
  have hV' : (V : Int) ≤ 24 := by omega
  have v1 := pickN_lt x.2.1 (show 0 < V by omega)
  have v2 := pickN_lt x.2.2.1 (show 0 < V by omega)
  have A := f.at_ x.2.1
  have B := f.at_ x.2.2.1
  have C := f.at_ x.2.2.2
  unfold stepX
  dsimp only
  rw [← hpe]
  repeat' split
  · exact ⟨_, (litX_ok hV' _ (by omega) (by omega) f.sok (by omega)).le (by omega)⟩
  · exact ⟨_, (iteX_ok hV' f.sok A (hasM_zero _) (hasM_one _) (by omega)).le (by omega)⟩
  · exact ⟨_, (iteX_ok hV' f.sok A B (hasM_zero _) (by omega)).le (by omega)⟩
  · exact ⟨_, (iteX_ok hV' f.sok A (hasM_one _) B (by omega)).le (by omega)⟩
  · exact ⟨_, xorX_ok hV' f.sok A B hr2⟩
  · exact ⟨_, (iteX_ok hV' f.sok A B C (by omega)).le (by omega)⟩
  · have ph := pow_half (V := V) (v := (pickN x.2.2.1 V : Int)) (by omega) (by omega)
    exact ⟨_, (setX_ok hV' _ (by omega) (by omega) f.sok A (by omega)).le (by omega)⟩
  · exact ⟨_, someX_ok hV' (by omega) (by omega) f.sok A hr2⟩
  · exact ⟨_, eachX_ok hV' (by omega) (by omega) f.sok A hr2⟩

theorem cnt_sweep_le (c : Cells) (l : List Int) : cnt (sweepM c l) ≤ cnt c := by
  rw [cnt_range, cnt_range c, sweepM_len, ← List.countP_eq_length_filter, ← List.countP_eq_length_filter]
  refine List.countP_mono_left fun k hk h => ?_
  obtain ⟨n, hn⟩ := Option.isSome_iff_exists.1 h
  rw [(sweepM_some.1 hn).2]; rfl
/-- What is freed leaves the handles that are kept. -/
theorem FOk.free {V : Nat} {st : Sp} {keep : List Int} (so : SOk V st) (hk : ∀ h ∈ keep, hasM st.c h = true) (hn : 0 < keep.length) : FOk V (freeX st keep) keep := by
  refine ⟨SOk.none (so.cells.sweep keep), fun h hm => sweepM_has (hk h hm) (fun k e => ?_), hn⟩
  subst e
  exact rchC_of_mem (hk _ hm) hm
theorem FOk.next {V : Nat} {st : Sp} {out : List Int} {r : Sp × Int × Nat} {D : (Int → Bool) → Bool} {k : Nat} (f : FOk V st out) (h : ROk V st r D k) : FOk V (freeX r.1 (out ++ [r.2.1])) (out ++ [r.2.1]) := by
  refine FOk.free h.sok (fun y hy => ?_) (by simp)
  rcases List.mem_append.1 hy with hy | hy
  · exact h.hasOld (f.has y hy)
  · rw [List.mem_singleton.1 hy]; exact h.has
end Go.Proofs.YtdeaficdfooegaaDoor
