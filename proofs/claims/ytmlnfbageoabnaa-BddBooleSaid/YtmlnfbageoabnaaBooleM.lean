/- Plain law: handles that mean the same are the same; what a space has behind a free. -/
import Derived.Test.YtmlnfbageoabnaaFreesM
namespace Go.Proofs.Ytmlnfbageoabnaa
set_option linter.unusedVariables false

abbrev Fn1 := (Int → Bool) → Bool
/-- A handle means D. -/
structure Means (st : Sp) (h : Int) (D : Fn1) : Prop where
  has : hasM st.c h = true
  den : ∀ val, den st.c h val = D val
theorem Means.up {V : Int} {st st' : Sp} {h : Int} {D : Fn1} (m : Means st h D) (so : SOk V st) (so' : SOk V st') (e : Ext st.c st'.c) : Means st' h D :=
  ⟨e.has m.has, fun val => (den_ext so.ok so'.ok e val _ m.has).trans (m.den val)⟩
theorem Means.same {V : Int} {st : Sp} {h h' : Int} {D D' : Fn1} (so : SOk V st) (m : Means st h D) (m' : Means st h' D') (e : ∀ val, D val = D' val) : h = h' :=
  canon_eq so.ok so.red m.has m'.has (fun val => (m.den val).trans ((e val).trans (m'.den val).symm))
theorem means_self {st : Sp} {h : Int} (hh : hasM st.c h = true) : Means st h (den st.c h) := ⟨hh, fun _ => rfl⟩
theorem means_zero (st : Sp) : Means st 0 (fun _ => false) := ⟨hasM_zero _, fun val => den_zero _ val⟩
theorem means_one (st : Sp) : Means st 1 (fun _ => true) := ⟨hasM_one _, fun val => den_one _ val⟩
/-- A step on from a state. -/
structure Up (V : Int) (st st' : Sp) (k : Nat) : Prop where
  sok : SOk V st'
  ext : Ext st.c st'.c
  cnt : cnt st'.c ≤ cnt st.c + k
theorem Up.refl {V : Int} {st : Sp} (so : SOk V st) : Up V st st 0 := ⟨so, Ext.refl _, Nat.le_refl _⟩
theorem Up.trans {V : Int} {a b c : Sp} {k j : Nat} (h : Up V a b k) (g : Up V b c j) : Up V a c (k + j) := ⟨g.sok, h.ext.trans g.ext, by have := h.cnt; have := g.cnt; omega⟩
theorem Up.means {V : Int} {st st' : Sp} {k : Nat} (u : Up V st st' k) (so : SOk V st) {h : Int} {D : Fn1} (m : Means st h D) : Means st' h D := m.up so u.sok u.ext
theorem ROk.up {V : Int} {st : Sp} {r : Sp × Int × Nat} {D : Fn1} {k : Nat} (h : ROk V st r D k) : Up V st r.1 k := ⟨h.sok, h.ext, h.cnt⟩
theorem ROk.means {V : Int} {st : Sp} {r : Sp × Int × Nat} {D : Fn1} {k : Nat} (h : ROk V st r D k) : Means r.1 r.2.1 D := ⟨h.has, h.den⟩

/-- What is reached is reached still where there is more. -/
theorem rch_ext {c c' : Cells} (o : Ok c) (e : Ext c c') {s : List Int} (hs : ∀ x ∈ s, hasM c x = true) {k : Nat} (h : RchC c' s k) : (c.at k).isSome = true := by
  refine Rch.ind (Q := fun k => (c.at k).isSome = true) (fun k _ hm => ?_) (fun k k' _ q _ g => ?_) (fun k k' _ q _ g => ?_) h
  · obtain ⟨n, hn⟩ := at_of_has (hs _ hm); rw [hn]; rfl
  · obtain ⟨n, hn⟩ := Option.isSome_iff_exists.1 q
    rw [e.old k n hn] at g
    have := (o.low k n hn).1
    simp only [Option.getD_some] at g
    rw [g] at this
    obtain ⟨n', hn'⟩ := at_of_has this; rw [hn']; rfl
  · obtain ⟨n, hn⟩ := Option.isSome_iff_exists.1 q
    rw [e.old k n hn] at g
    have := (o.high k n hn).1
    simp only [Option.getD_some] at g
    rw [g] at this
    obtain ⟨n', hn'⟩ := at_of_has this; rw [hn']; rfl
/-- What is left behind a free is not more than there was when the kept handles were. -/
theorem cnt_free {V : Int} {st st' : Sp} {k : Nat} {keep : List Int} (so : SOk V st) (u : Up V st st' k) (hs : ∀ x ∈ keep, hasM st.c x = true) : cnt (freeX st' keep).c ≤ cnt st.c := by
  unfold freeX
  dsimp only
  rw [cnt_range, cnt_range st.c, sweepM_len, u.ext.len, ← List.countP_eq_length_filter, ← List.countP_eq_length_filter]
  refine List.countP_mono_left fun j _ h => ?_
  obtain ⟨n, hn⟩ := Option.isSome_iff_exists.1 h
  exact rch_ext so.ok u.ext hs (sweepM_some.1 hn).1
theorem free_next {V : Nat} {st st' : Sp} {k : Nat} {keep : List Int} (f : FOk V st keep) (u : Up V st st' k) : FOk V (freeX st' keep) keep ∧ cnt (freeX st' keep).c ≤ cnt st.c ∧ (freeX st' keep).c.length = st.c.length :=
  ⟨FOk.free u.sok (fun h hh => u.ext.has (f.has h hh)) f.ne, cnt_free f.sok u f.has, (freeX_len _ _).trans u.ext.len⟩
end Go.Proofs.Ytmlnfbageoabnaa
