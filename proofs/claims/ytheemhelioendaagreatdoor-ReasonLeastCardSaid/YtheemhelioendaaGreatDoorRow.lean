/- From a walk to a row: arguments read in, and read again in whatever world has only grown. -/
import Derived.Test.YtheemhelioendaaGreatDoorPkM
import Derived.Test.YtheemhelioendaaGreatDoorPkH
import Derived.ProofKit
import Derived.OpenShut
import Derived.SizedLaws
import Derived.Deep.Matrix
import Derived.Carry
namespace Go.Proofs.YtheemhelioendaaGreatDoor
open Go.ChangeShapes Go.WideShapes Go.ChangeAt Go.RowKit
set_option linter.unusedVariables false

section
variable {H : Type} {enc : TypeId × Value → H} {P : Program}

theorem trodAll_below (hl : laidOutB P = true) {W W' : World} (hb : Below W.heap.size W W') : ∀ {ts : List TypeId} {vs : List Value} {ds : List (DataW H)} {p : List MemPlace},
    DataW.TrodAll enc P W 0 (fun _ => true) true ts vs ds p → (∀ t ∈ ts, P.readableRec t = true ∧ t < P.types.size) → (∀ x ∈ p, x.block < W.heap.size) →
    DataW.TrodAll enc P W' 0 (fun b => decide (b < W.heap.size)) true ts vs ds p
  | [], vs, ds, p, h, _, _ => by obtain ⟨rfl, rfl, rfl⟩ := trodAll_nil h; exact trodAll_mk0
  | t :: ts, vs, ds, p, h, ht, hlt => by
    obtain ⟨v, vs', d, ds', p1, q, rfl, rfl, rfl, h1, h2⟩ := trodAll_cons h
    have h3 := ht t (by simp)
    exact trodAll_cons_mk (Below.trod hl h3.1 h3.2 h1 hb (fun x hx => hlt x (by simp [hx]))) (trodAll_below hl hb h2 (fun t' ht' => ht t' (by simp [ht'])) (fun x hx => hlt x (by simp [hx])))

/-- The law answers true and nothing that was there has turned: its 'post'. -/
theorem law_post {s : ChangeSpec} {f : Func} {W W' : World} {args : Array Value} {ds : List (DataW H)} {before : List MemPlace} {tb : TypeId} (hl : laidOutB P = true) (hvars : s.vars = []) (hres : f.resultTypes = #[tb]) (htb : P.underlying tb = some .bool)
    (hr : ∀ t ∈ f.params.toList, P.readableRec t = true ∧ t < P.types.size) (hW : DataW.Whole enc P f.params.toList s.vars false W args.toList ds [] before)
    (hfn : s.fn H (ds ++ []) = { results := [.lit (.bool true)], args := ds }) (hg : Below W.heap.size W W') : s.post enc P f false true false false W args (.bool true) W' := by
  have hW' := hW
  obtain ⟨p, q, hA, hV, rfl, _, _⟩ := hW
  have hlt : ∀ x ∈ p, x.block < W.heap.size := fun x hx => hW'.lt x (by simp [hx])
  refine ⟨ds, [], _, [] ++ [], p, [], hW', ?_, ?_, ?_, hg.frame _, fun h => by cases h⟩
  · rw [hfn, hres]
    exact trodAll_mk1 (shut_bool htb true)
  · rw [hfn]
    exact trodAll_below hl hg hA hr hlt
  · rw [hfn, hvars]
    exact rfl

theorem weights_slice_le {t e : TypeId} {elems spare : List (DataW H)} (hu : P.underlying t = some (.slice e)) (h : (DataW.weights P t (.slice elems spare)).all (· ≤ reachBytes) = true) : (elems.length + spare.length) * P.bytesOf e ≤ reachBytes := by
  simp only [DataW.weights, hu, List.all_cons, Bool.and_eq_true, decide_eq_true_eq] at h
  exact h.1
theorem weights_all_mem {e : TypeId} : ∀ {l : List (DataW H)}, (DataW.weightsAll P e l).all (· ≤ reachBytes) = true → ∀ d ∈ l, (DataW.weights P e d).all (· ≤ reachBytes) = true
  | [], _, d, hd => by cases hd
  | x :: l, h, d, hd => by
    simp only [DataW.weightsAll, List.all_append, Bool.and_eq_true] at h
    rcases List.mem_cons.1 hd with rfl | hd
    · exact h.1
    · exact weights_all_mem h.2 d hd
theorem weights_elem {t e : TypeId} {elems spare : List (DataW H)} (hu : P.underlying t = some (.slice e)) (h : (DataW.weights P t (.slice elems spare)).all (· ≤ reachBytes) = true) : ∀ d ∈ elems, (DataW.weights P e d).all (· ≤ reachBytes) = true := by
  simp only [DataW.weights, hu, List.all_cons, List.all_append, Bool.and_eq_true] at h
  exact weights_all_mem h.2.1
theorem weights_each {t : TypeId} {ts : List TypeId} {d : DataW H} {ds : List (DataW H)} (h : (DataW.weightsEach P (t :: ts) (d :: ds)).all (· ≤ reachBytes) = true) :
    (DataW.weights P t d).all (· ≤ reachBytes) = true ∧ (DataW.weightsEach P ts ds).all (· ≤ reachBytes) = true := by
  simpa only [DataW.weightsEach, List.all_append, Bool.and_eq_true] using h

theorem addr_add {a : Addr} {b o : Nat} (h : a = ⟨b, o, none⟩) (i : Nat) : a.add i = ⟨b, o + i, none⟩ := by
  subst h; unfold Addr.add; split
  · subst i; rfl
  · rfl
theorem addr_of_cell {W : World} {a : Addr} {v : Value} (h : W.cell? (a.add 0) = some v) : a = ⟨a.block, a.off, none⟩ ∧ a.block < W.heap.size := by
  have h0 : a.add 0 = a := by simp [Addr.add]
  rw [h0] at h
  refine ⟨?_, World.block_lt_of_cell? _ _ h⟩
  have := World.cell?_spot h
  cases a; simp at this; subst this; rfl

/-- An argument that is a slice of integers. -/
theorem isInts_trod {t e : TypeId} {W : World} {base : Nat} {v : Value} {d : DataW H} {p : List MemPlace} (ht : P.underlying t = some (.slice e)) (he : P.underlying e = some (.int .i64)) (ce : P.cellsOf e = 1) (be : P.bytesOf e = 8)
    (hok : Value.okWide P W .any base t v) (h : DataW.Trod enc P W 0 (fun _ => true) true t v d p) (hw : (DataW.weights P t d).all (· ≤ reachBytes) = true) : ∃ xs, IsInts W v xs := by
  obtain ⟨a0, len, cap, rfl⟩ := okWide_slice ht hok
  obtain ⟨fuel, hf⟩ := h
  rcases open_ints ht he ce hf with ⟨hcs, hx⟩ | ⟨a, len', cap', zs, hcs, hb, hl, hm, hz, hx, hcell, hwz⟩
  · simp [Value.cells] at hcs
    obtain ⟨rfl, rfl, rfl⟩ := hcs
    exact ⟨[], none, 0, 0, 0, rfl, fun h => absurd rfl h, Nat.le_refl _, Nat.zero_le _, fun i hi => absurd hi (by simp), fun h => absurd rfl h, Nat.zero_le _⟩
  · simp [Value.cells] at hcs
    obtain ⟨rfl, rfl, rfl⟩ := hcs
    simp only [Prod.mk.injEq] at hx
    obtain ⟨rfl, _⟩ := hx
    simp only [if_true] at hz
    have h1 := weights_slice_le ht hw
    rw [be] at h1
    simp only [lits, List.length_map, List.length_take, List.length_drop, reachBytes] at h1
    have hlen : (zs.take len).length = len := by rw [List.length_take]; omega
    refine ⟨zs.take len, some a, a.block, a.off, cap, by rw [hlen], fun hne => ?_, by rw [hlen]; exact hl, hm, fun i hi => ?_, fun hne => ?_, by rw [hlen]; omega⟩
    · have : 0 < zs.length := by rcases zs with _ | ⟨z, zs⟩; · simp at hne
                                 · simp
      rw [← (addr_of_cell (hcell 0 this)).1]
    · have hi' : i < zs.length := by rw [List.length_take] at hi; omega
      have h2 := hcell i hi'
      rw [addr_add (addr_of_cell (hcell 0 (by omega))).1] at h2
      rw [h2]
      have hi3 : i < len := by rw [List.length_take] at hi; omega
      simp [hi', hi3]
    · have : 0 < zs.length := by rcases zs with _ | ⟨z, zs⟩; · simp at hne
                                 · simp
      exact (addr_of_cell (hcell 0 this)).2

/-- An argument that is a slice of slices of integers. -/
theorem isRows_trod {t e q : TypeId} {W : World} {base : Nat} {v : Value} {d : DataW H} {p : List MemPlace} (ht : P.underlying t = some (.slice e)) (he : P.underlying e = some (.slice q)) (hq : P.underlying q = some (.int .i64)) (ce : P.cellsOf e = 1) (cq : P.cellsOf q = 1) (be : P.bytesOf e = 24) (bq : P.bytesOf q = 8)
    (hok : Value.okWide P W .any base t v) (h : DataW.Trod enc P W 0 (fun _ => true) true t v d p) (hw : (DataW.weights P t d).all (· ≤ reachBytes) = true) : ∃ ls, IsRows W v ls := by
  obtain ⟨a0, len, cap, rfl⟩ := okWide_slice ht hok
  obtain ⟨fuel, hf⟩ := h
  rcases Go.Deep.open_int_rows ht he hq ce cq hf with ⟨hcs, hx⟩ | ⟨a, len', cap', A, L, C, Z, hcs, _, hl, hm, hx, hrows⟩
  · simp [Value.cells] at hcs
    obtain ⟨rfl, rfl, rfl⟩ := hcs
    exact ⟨[], none, 0, 0, 0, rfl, fun h => absurd rfl h, Nat.le_refl _, Nat.zero_le _, fun h => absurd rfl h, Nat.zero_le _, fun i hi => absurd hi (by simp)⟩
  · simp [Value.cells] at hcs
    obtain ⟨rfl, rfl, rfl⟩ := hcs
    simp only [Prod.mk.injEq] at hx
    obtain ⟨rfl, _⟩ := hx
    have h1 := weights_slice_le ht hw
    rw [be] at h1
    simp only [List.length_map, List.length_range, reachBytes] at h1
    have hlen : ((List.range len).map fun r => (Z r).take (L r)).length = len := by simp
    refine ⟨(List.range len).map fun r => (Z r).take (L r), some a, a.block, a.off, cap, by rw [hlen], fun hne => ?_, by rw [hlen]; exact hl, hm, fun hne => ?_, by rw [hlen]; omega, fun i hi => ?_⟩
    · have h0 : 0 < cap := by
        rcases Nat.eq_zero_or_pos len with h | h
        · subst h; exact absurd rfl hne
        · omega
      rw [← (addr_of_cell (hrows 0 h0).1).1]
    · have h0 : 0 < cap := by
        rcases Nat.eq_zero_or_pos len with h | h
        · subst h; exact absurd rfl hne
        · omega
      exact (addr_of_cell (hrows 0 h0).1).2
    · rw [hlen] at hi
      obtain ⟨hc, hLC, hCm, hZ, hwf, hnone, hA⟩ := hrows i (by omega)
      rw [addr_add (addr_of_cell (hrows 0 (by omega)).1).1] at hc
      refine ⟨_, hc, ?_⟩
      have e1 : ((List.range len).map fun r => (Z r).take (L r)).getD i [] = (Z i).take (L i) := by simp [hi]
      rw [e1]
      have hl2 : ((Z i).take (L i)).length = L i := by rw [List.length_take]; omega
      cases hAi : A i with
      | none =>
        have hC0 := hnone hAi
        have hL0 : L i = 0 := by omega
        exact ⟨none, 0, 0, C i, by rw [hl2], fun h => absurd (by rw [hL0]; simp) h, by rw [hl2]; exact hLC, hCm, fun j hj => by rw [hl2] at hj; omega, fun h => absurd (by rw [hL0]; simp) h, by rw [hl2]; omega⟩
      | some a' =>
        obtain ⟨_, hcell⟩ := hA a' hAi
        have h2 : (DataW.weights P e (Go.Deep.intRow .i64 (A i) (L i) (Z i))).all (· ≤ reachBytes) = true := weights_elem ht hw _ (List.mem_map.2 ⟨i, List.mem_range.2 hi, rfl⟩)
        rw [hAi] at h2
        have h3 := weights_slice_le he h2
        rw [bq] at h3
        simp only [lits, List.length_map, List.length_take, List.length_drop, reachBytes] at h3
        have h0 : ∀ (hne : (Z i).take (L i) ≠ []), 0 < C i := fun hne => by
          rcases Nat.eq_zero_or_pos (C i) with h | h
          · have : L i = 0 := by omega
            rw [this] at hne; simp at hne
          · exact h
        refine ⟨some a', a'.block, a'.off, C i, by rw [hl2], fun hne => by rw [← (addr_of_cell (hcell 0 (h0 hne))).1], by rw [hl2]; exact hLC, hCm, fun j hj => ?_, fun hne => (addr_of_cell (hcell 0 (h0 hne))).2, by rw [hl2]; omega⟩
        rw [hl2] at hj
        have h4 := hcell j (by omega)
        rw [addr_add (addr_of_cell (hcell 0 (by omega))).1] at h4
        rw [h4]
        have hjz : j < (Z i).length := by omega
        simp [hjz, hj]
end
end Go.Proofs.YtheemhelioendaaGreatDoor
