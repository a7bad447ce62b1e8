/- Plain law: what is kept when all else is freed is as it was; and made again it is the same. -/
import Derived.Test.YtmlnfbageoabnaaRoom
namespace Go.Proofs.Ytmlnfbageoabnaa
set_option linter.unusedVariables false

theorem at_of_has {c : Cells} {k : Nat} (g : hasM c ((k : Int) + 2) = true) : ∃ n, c.at k = some n := by
  rcases hasM_cases g with h | h | ⟨k', n, e, hn, _⟩
  · omega
  · omega
  · obtain rfl : k = k' := by omega
    exact ⟨n, hn⟩
theorem getM_sweep {c : Cells} {s : List Int} {h : Int} (hk : ∀ k : Nat, h = (k : Int) + 2 → RchC c s k) : getM (sweepM c s) h = getM c h := by
  rcases Int.lt_or_le h 2 with h1 | h1
  · unfold getM; rw [if_pos h1, if_pos h1]
  · obtain ⟨k, rfl⟩ : ∃ k : Nat, h = (k : Int) + 2 := ⟨(h - 2).toNat, by omega⟩
    rw [getM_node, getM_node, sweepM_at, if_pos (hk k rfl)]
theorem den_sweep {c : Cells} (o : Ok c) {s : List Int} (val : Int → Bool) : ∀ h, (∀ k : Nat, h = (k : Int) + 2 → RchC c s k) → den (sweepM c s) h val = den c h val := by
  refine node_ind o (Q := fun h => (∀ k : Nat, h = (k : Int) + 2 → RchC c s k) → den (sweepM c s) h val = den c h val) (fun h g hk => by rw [den_end g, den_end ((getM_sweep hk).trans g)]) (fun h n g ih1 ih2 hk => ?_)
  obtain ⟨k, rfl, hk1, _⟩ := getM_some g
  obtain ⟨_, _, l1, l2, _, _⟩ := o.kids g
  rw [den_node o g, den_node (sweepM_ok o s) ((getM_sweep hk).trans g), ih1 (fun j e => ?_), ih2 (fun j e => ?_)]
  · rw [e] at l2
    obtain ⟨n', hn'⟩ := at_of_has l2
    exact (hk k rfl).high hk1 hn' e
  · rw [e] at l1
    obtain ⟨n', hn'⟩ := at_of_has l1
    exact (hk k rfl).low hk1 hn' e
theorem den_free_keep {V : Int} {st : Sp} (so : SOk V st) {keep : List Int} {h : Int} (hm : h ∈ keep) (hh : hasM st.c h = true) (val : Int → Bool) : den (freeX st keep).c h val = den st.c h val :=
  den_sweep so.ok val h (fun k e => by subst e; exact rchC_of_mem hh hm)

theorem sweep_ext {c c' : Cells} {s : List Int} (hl : c.length = c'.length) (h : ∀ k, (sweepM c s).at k = (sweepM c' s).at k) : sweepM c s = sweepM c' s := by
  apply List.ext_getElem
  · rw [sweepM_len, sweepM_len, hl]
  · intro i h1 h2
    have := h i
    rwa [at_get h1, at_get h2] at this
theorem no_rch {c : Cells} {s : List Int} (hs : ∀ x ∈ s, x < 2) {k : Nat} (h : RchC c s k) : False :=
  Rch.ind (Q := fun _ => False) (fun k _ hm => by have := hs _ hm; omega) (fun _ _ _ q _ _ => q) (fun _ _ _ q _ _ => q) h
/-- Nothing is kept but ends. -/
theorem sweep_ends {c c' : Cells} {s : List Int} (hl : c.length = c'.length) (hs : ∀ x ∈ s, x < 2) : sweepM c s = sweepM c' s :=
  sweep_ext hl (fun k => by rw [sweepM_at, sweepM_at, if_neg (no_rch hs), if_neg (no_rch hs)])
theorem rch_lit {c : Cells} {s : List Int} {n : Nd} (h0 : c.at 0 = some n) (n1 : n.2.1 < 2) (n2 : n.2.2 < 2) (hs : ∀ x ∈ s, x < 3) (hm : (2 : Int) ∈ s) (k : Nat) : RchC c s k ↔ k = 0 := by
  constructor
  · intro h
    refine Rch.ind (Q := fun k => k = 0) (fun k _ hm => by have := hs _ hm; omega) (fun k k' _ q _ e => ?_) (fun k k' _ q _ e => ?_) h
    · subst q; rw [h0] at e; simp at e; omega
    · subst q; rw [h0] at e; simp at e; omega
  · rintro rfl
    exact RchC.start h0 (by simpa using hm)
/-- Nothing is kept but one node that leads to ends. -/
theorem sweep_lit {c c' : Cells} {s : List Int} {n : Nd} (hl : c.length = c'.length) (h0 : c.at 0 = some n) (h0' : c'.at 0 = some n) (n1 : n.2.1 < 2) (n2 : n.2.2 < 2) (hs : ∀ x ∈ s, x < 3) (hm : (2 : Int) ∈ s) : sweepM c s = sweepM c' s :=
  sweep_ext hl (fun k => by
    rw [sweepM_at, sweepM_at]
    by_cases hk : k = 0
    · subst hk; rw [if_pos ((rch_lit h0 n1 n2 hs hm 0).2 rfl), if_pos ((rch_lit h0' n1 n2 hs hm 0).2 rfl), h0, h0']
    · rw [if_neg (fun e => hk ((rch_lit h0 n1 n2 hs hm k).1 e)), if_neg (fun e => hk ((rch_lit h0' n1 n2 hs hm k).1 e))])

/-! ### The first step -/
theorem iteX_end (st : Sp) {a b c : Int} (ha : a = 0 ∨ a = 1) : iteX st a b c = (st, if a = 1 then b else c, 0) := by
  unfold iteX
  rw [iteM]
  rcases ha with rfl | rfl
  · by_cases e : b = c
    · subst e; simp
    · simp [e]
  · simp
theorem setX_end (st : Sp) {h : Int} (v : Int) (is : Bool) (hh : h = 0 ∨ h = 1) : setX st h v is = (st, h, 0) := by
  unfold setX
  rw [setM, getM_end _ hh]
theorem out_end (a : Int) : outAt [0, 1] a = 0 ∨ outAt [0, 1] a = 1 := by
  have h := pickN_lt a (show 0 < ([0, 1] : List Int).length by decide)
  unfold outAt
  generalize pickN a ([0, 1] : List Int).length = k at h
  match k, h with
  | 0, _ => exact .inl rfl
  | 1, _ => exact .inr rfl
theorem step_ends (V : Nat) (x : Stp) (h : pickN x.1 9 ≠ 0) : ∃ t : Int, (t = 0 ∨ t = 1) ∧ ∀ st, stepX V st [0, 1] x = (st, t, 0) := by
  have A := out_end x.2.1
  have B := out_end x.2.2.1
  have C := out_end x.2.2.2
  have key : ∀ {a b c : Int}, (a = 0 ∨ a = 1) → (b = 0 ∨ b = 1) → (c = 0 ∨ c = 1) → ((if a = 1 then b else c) = 0 ∨ (if a = 1 then b else c) = 1) := by
    intro a b c _ hb hc; split
    · exact hb
    · exact hc
  unfold stepX
  dsimp only
  generalize outAt [0, 1] x.2.1 = a at A
  generalize outAt [0, 1] x.2.2.1 = b at B
  generalize outAt [0, 1] x.2.2.2 = c at C
  have z : ∀ n : Int, n = 0 → (n = 0 ∨ n = 1) := fun _ h => .inl h
  have o : ∀ n : Int, n = 1 → (n = 0 ∨ n = 1) := fun _ h => .inr h
  have hk := pickN_lt x.1 (show 0 < 9 by decide)
  generalize pickN x.1 9 = k at h hk ⊢
  have h8 : k = 1 ∨ k = 2 ∨ k = 3 ∨ k = 4 ∨ k = 5 ∨ k = 6 ∨ k = 7 ∨ k = 8 := by omega
  rcases h8 with rfl | rfl | rfl | rfl | rfl | rfl | rfl | rfl
  · exact ⟨_, key A (z 0 rfl) (o 1 rfl), fun st => (show iteX st a 0 1 = _ from iteX_end st A)⟩
  · exact ⟨_, key A B (z 0 rfl), fun st => (show iteX st a b 0 = _ from iteX_end st A)⟩
  · exact ⟨_, key A (o 1 rfl) B, fun st => (show iteX st a 1 b = _ from iteX_end st A)⟩
  · refine ⟨_, key A (key B (z 0 rfl) (o 1 rfl)) B, fun st => ?_⟩
    show xorX st a b = _
    unfold xorX
    rw [iteX_end st B]
    exact iteX_end st A
  · exact ⟨_, key A B C, fun st => (show iteX st a b c = _ from iteX_end st A)⟩
  · exact ⟨_, A, fun st => (show setX st a _ _ = _ from setX_end st _ _ A)⟩
  · refine ⟨_, key A (o 1 rfl) A, fun st => ?_⟩
    show someX st a _ = _
    unfold someX
    rw [setX_end st _ _ A]
    dsimp only
    rw [setX_end st _ _ A]
    exact iteX_end st A
  · refine ⟨_, key A A (z 0 rfl), fun st => ?_⟩
    show eachX st a _ = _
    unfold eachX
    rw [setX_end st _ _ A]
    dsimp only
    rw [setX_end st _ _ A]
    exact iteX_end st A

/-- The node of a first step that makes one. -/
def litN (V : Nat) (x : Stp) : Nd := if odd x.2.2.1 then ((pickN x.2.1 V : Nat), 0, 1) else ((pickN x.2.1 V : Nat), 1, 0)
theorem step_lit {V : Nat} (h1 : 1 ≤ V) (hV : V ≤ 24) (x : Stp) (h : pickN x.1 9 = 0) {st : Sp} (o : Ok st.c) (hl : 0 < st.c.length) (h0 : st.c.at 0 = none ∨ st.c.at 0 = some (litN V x)) (hu : ∀ k, st.c.at k = some (litN V x) → k = 0) :
    (stepX V st [0, 1] x).2.1 = 2 ∧ (stepX V st [0, 1] x).1.c.at 0 = some (litN V x) ∧ (stepX V st [0, 1] x).1.c.length = st.c.length := by
  have hv := pickN_lt x.2.1 (show 0 < V by omega)
  have hb : badM st.c (litN V x) = 0 := by
    have e0 := top_end (getM_end st.c (h := 0) (.inl rfl))
    have e1 := top_end (getM_end st.c (h := 1) (.inr rfl))
    unfold litN
    split
    · exact badM_zero (by dsimp only; omega) (by dsimp only; omega) (hasM_zero _) (hasM_one _) (by dsimp only; rw [e0]; omega) (by dsimp only; rw [e1]; omega)
    · exact badM_zero (by dsimp only; omega) (by dsimp only; omega) (hasM_one _) (hasM_zero _) (by dsimp only; rw [e1]; omega) (by dsimp only; rw [e0]; omega)
  have hs : stepX V st [0, 1] x = (⟨(mkM st.c (litN V x)).1, st.q⟩, (mkM st.c (litN V x)).2.1, (mkM st.c (litN V x)).2.2) := by
    unfold stepX
    dsimp only
    rw [if_pos h]
    unfold litX litN
    cases odd x.2.2.1
    · simp [nodeM]
    · simp [nodeM]
  have hm : mkM st.c (litN V x) = (st.c, 2, 0) ∧ st.c.at 0 = some (litN V x) ∨ mkM st.c (litN V x) = (st.c.set 0 (some (litN V x)), 2, 0) := by
    unfold mkM
    rw [if_neg (by simp [hb])]
    rcases h0 with h0 | h0
    · right
      have e1 : findM st.c (litN V x) = none := by
        cases e : findM st.c (litN V x) with
        | none => rfl
        | some k =>
          have e2 := findM_some e
          rw [hu k e2, h0] at e2; cases e2
      have e2 : freeM st.c = some 0 := freeM_at hl h0 (fun j hj => absurd hj (Nat.not_lt_zero _))
      rw [e1, e2]; rfl
    · left
      have e1 : findM st.c (litN V x) = some 0 := findM_at hu h0
      rw [e1]; exact ⟨rfl, h0⟩
  rw [hs]
  rcases hm with ⟨e, e2⟩ | e
  · rw [e]; exact ⟨rfl, e2, rfl⟩
  · rw [e]; exact ⟨rfl, by dsimp only; rw [at_set _ hl]; simp, by simp⟩

/-- The state behind a step. -/
noncomputable def nextX (V : Nat) (st : Sp) (out : List Int) (x : Stp) : Sp × List Int :=
  (freeX (stepX V st out x).1 (out ++ [(stepX V st out x).2.1]), out ++ [(stepX V st out x).2.1])
theorem funsX_next (V : Nat) (x : Stp) (l : List Stp) (st : Sp) (out : List Int) : funsX V (x :: l) st out = funsX V l (nextX V st out x).1 (nextX V st out x).2 := rfl

/-- What makes a first step begin as in a space that is new. -/
def AsNew (V : Nat) (x : Stp) (c : Cells) : Prop := pickN x.1 9 = 0 → (c.at 0 = none ∨ c.at 0 = some (litN V x)) ∧ ∀ k, c.at k = some (litN V x) → k = 0
theorem next_same {V : Nat} (h1 : 1 ≤ V) (hV : V ≤ 24) (x : Stp) {st st' : Sp} (o : Ok st.c) (o' : Ok st'.c) (hl : 0 < st.c.length) (hll : st.c.length = st'.c.length) (a : AsNew V x st.c) (a' : AsNew V x st'.c) :
    nextX V st [0, 1] x = nextX V st' [0, 1] x := by
  unfold nextX
  by_cases h : pickN x.1 9 = 0
  · obtain ⟨e1, e2, e3⟩ := step_lit h1 hV x h o hl (a h).1 (a h).2
    obtain ⟨e1', e2', e3'⟩ := step_lit h1 hV x h o' (by omega) (a' h).1 (a' h).2
    have q : sweepM (stepX V st [0, 1] x).1.c ([0, 1] ++ [2]) = sweepM (stepX V st' [0, 1] x).1.c ([0, 1] ++ [2]) := by
      refine sweep_lit (by omega) e2 e2' ?_ ?_ (fun y hy => ?_) (by simp)
      · unfold litN; split <;> (dsimp only; decide)
      · unfold litN; split <;> (dsimp only; decide)
      · simp at hy; omega
    rw [e1, e1']
    unfold freeX
    rw [q]
  · obtain ⟨t, ht, hs⟩ := step_ends V x h
    have q : sweepM st.c ([0, 1] ++ [t]) = sweepM st'.c ([0, 1] ++ [t]) := by
      refine sweep_ends hll (fun y hy => ?_)
      simp at hy; omega
    rw [hs, hs]
    unfold freeX
    dsimp only
    rw [q]

/-- What lies in place 0 stays there. -/
theorem funs_stay {V : Nat} (h1 : 1 ≤ V) (hV : V ≤ 24) {n : Nd} : ∀ (l : List Stp) (st : Sp) (out : List Int), FOk V st out → RoomX V l st out → st.c.at 0 = some n → (2 : Int) ∈ out → (funsX V l st out).1.c.at 0 = some n
  | [], st, out, _, _, h0, _ => h0
  | x :: l, st, out, f, hr, h0, hm => by
    obtain ⟨hr1, hr2⟩ := hr
    obtain ⟨D, h⟩ := stepX_ok h1 hV f x hr1
    refine funs_stay h1 hV l _ _ (f.next h) hr2 ?_ (List.mem_append_left _ hm)
    have e := h.ext.old 0 n h0
    exact sweepM_some.2 ⟨RchC.start e (List.mem_append_left _ (by simpa using hm)), e⟩

/-- THE SAME AGAIN. -/
theorem funs_again {V : Nat} (h1 : 1 ≤ V) (hV : V ≤ 6) (l : List Stp) (h3 : l.length ≤ 25) {st : Sp} {R : Nat} {f : Int} (hR : R = 4000)
    (he : st = (funsX V l ⟨List.replicate R none, noQ⟩ [0, 1]).1) (hf : hasM st.c f = true) (hfo : FOk V st [f]) :
    l ≠ [] → funsX V l (freeX st [f]) [0, 1] = funsX V l ⟨List.replicate R none, noQ⟩ [0, 1] ∧ RoomX V l (freeX st [f]) [0, 1] := by
  intro hne
  have f0 : FOk V ⟨List.replicate R none, noQ⟩ [0, 1] := ⟨SOk.none (COk.empty V R), fun h hh => by
    rcases List.mem_cons.1 hh with rfl | hh
    · exact hasM_zero _
    · rw [List.mem_singleton.1 hh]; exact hasM_one _, by simp⟩
  have hc0 : cnt (List.replicate R none : Cells) = 0 := by unfold cnt; rw [List.countP_replicate]; simp
  have hp : 2 ^ V ≤ 2 ^ 6 := Nat.pow_le_pow_right (by decide) hV
  have hm : l.length * (2 * 2 ^ V) ≤ 25 * (2 * 2 ^ 6) := Nat.mul_le_mul h3 (by omega)
  obtain ⟨r1, r2, r3, r4, _⟩ := run_ok h1 (by omega) l _ _ f0 (by dsimp only; rw [hc0, List.length_replicate]; omega)
  rw [← he] at r2 r3 r4
  dsimp only at r3 r4
  rw [hc0] at r4
  rw [List.length_replicate] at r3
  have hat : ∀ k, Cells.at (List.replicate R none) k = none := fun k => by unfold Cells.at; simp only [List.getD_eq_getElem?_getD, List.getElem?_replicate]; split <;> rfl
  rcases l with _ | ⟨x, l⟩
  · exact absurd rfl hne
  ·
    have a0 : AsNew V x (List.replicate R none) := fun _ => ⟨.inl (hat 0), fun k hk => by rw [hat] at hk; cases hk⟩
    have o0 : Ok (List.replicate R none : Cells) := f0.sok.ok
    have o1 : Ok (freeX st [f]).c := sweepM_ok r2.sok.ok _
    have al : AsNew V x (freeX st [f]).c := fun h => by
      obtain ⟨e1, e2, _⟩ := step_lit h1 (by omega) x h (st := ⟨List.replicate R none, noQ⟩) o0 (by simp; omega) (a0 h).1 (a0 h).2
      obtain ⟨D, hs⟩ := stepX_ok h1 (by omega) f0 x r1.1
      have at0 : st.c.at 0 = some (litN V x) := by
        rw [he]
        refine funs_stay h1 (by omega) l _ _ (f0.next hs) r1.2 ?_ ?_
        · exact sweepM_some.2 ⟨RchC.start e2 (by rw [e1]; simp), e2⟩
        · rw [e1]; simp
      refine ⟨?_, fun k hk => ?_⟩
      · unfold freeX
        rw [sweepM_at]
        split
        · exact .inr at0
        · exact .inl rfl
      · exact r2.sok.ok.uniq k 0 _ (sweepM_some.1 hk).2 at0
    have hl1 : (freeX st [f]).c.length = R := (freeX_len _ _).trans r3
    have e := next_same h1 (by omega) x (st := freeX st [f]) (st' := ⟨List.replicate R none, noQ⟩) o1 o0 (by omega) (by simp [hl1]) al a0
    have c1 := freeX_cnt st [f]
    refine ⟨?_, ?_, ?_⟩
    · rw [funsX_next, funsX_next, e]
    · omega
    · have := r1.2
      show RoomX V l (nextX V (freeX st [f]) [0, 1] x).1 (nextX V (freeX st [f]) [0, 1] x).2
      rw [e]
      exact this

theorem funs_same {V : Nat} (h1 : 1 ≤ V) (hV : V ≤ 6) (l : List Stp) (h3 : l.length ≤ 25) {st : Sp} {f : Int}
    (he : st = (funsX V l ⟨List.replicate 4000 none, noQ⟩ [0, 1]).1) (hf : hasM st.c f = true) (hfo : FOk V st [f]) :
    (funsX V l (freeX st [f]) [0, 1]).2 = (funsX V l ⟨List.replicate 4000 none, noQ⟩ [0, 1]).2 ∧ RoomX V l (freeX st [f]) [0, 1] := by
  by_cases hne : l = []
  · subst hne; exact ⟨rfl, trivial⟩
  · obtain ⟨a, b⟩ := funs_again h1 hV l h3 rfl he hf hfo hne
    exact ⟨by rw [a], b⟩
end Go.Proofs.Ytmlnfbageoabnaa
