import Derived.Test.YtmlfelbkgoplhaaGreatDoorZlPkM
import Derived.ProofKit
import Derived.OpenShut
import Derived.SizedLaws
import Derived.Deep.Matrix
import Derived.Carry
set_option linter.unusedVariables false
set_option linter.unusedSimpArgs false
namespace Go.Proofs.YtmlfelbkgoplhaaGreatDoor
open Go.ChangeShapes Go.WideShapes Go.ChangeAt Go.RowKit
section
variable {H : Type} {enc : TypeId × Value → H} {P : Program}
theorem zb7 (hl : laidOutB P = true) {W W' : World} (hb : Below W.heap.size W W') : ∀ {ts : List TypeId} {vs : List Value} {ds : List (DataW H)} {p : List MemPlace},
 DataW.TrodAll enc P W 0 (fun _ => true) true ts vs ds p → (∀ t ∈ ts, P.readableRec t = true ∧ t < P.types.size) → (∀ x ∈ p, x.block < W.heap.size) →
 DataW.TrodAll enc P W' 0 (fun b => decide (b < W.heap.size)) true ts vs ds p
 | [], vs, ds, p, h, _, _ => by obtain ⟨rfl, rfl, rfl⟩ := trodAll_nil h; exact trodAll_mk0
 | t :: ts, vs, ds, p, h, ht, hlt => by
  obtain ⟨v, vs', d, ds', p1, q, rfl, rfl, rfl, h1, h2⟩ := trodAll_cons h
  have h3 := ht t (by simp)
  exact trodAll_cons_mk (Below.trod hl h3.1 h3.2 h1 hb (fun x hx => hlt x (by simp [hx]))) (zb7 hl hb h2 (fun t' ht' => ht t' (by simp [ht'])) (fun x hx => hlt x (by simp [hx])))
theorem zmA {s : ChangeSpec} {f : Func} {W W' : World} {args : Array Value} {ds : List (DataW H)} {before : List MemPlace} {tb : TypeId} (hl : laidOutB P = true) (hvars : s.vars = []) (hres : f.resultTypes = #[tb]) (htb : P.underlying tb = some .bool)
 (hr : ∀ t ∈ f.params.toList, P.readableRec t = true ∧ t < P.types.size) (hW : DataW.Whole enc P f.params.toList s.vars false W args.toList ds [] before)
 (hfn : s.fn H (ds ++ []) = { results := [.lit (.bool true)], args := ds }) (hg : Below W.heap.size W W') : s.post enc P f false true false false W args (.bool true) W' := by
 have hW' := hW
 obtain ⟨p, q, hA, hV, rfl, _, _⟩ := hW
 have hlt : ∀ x ∈ p, x.block < W.heap.size := fun x hx => hW'.lt x (by simp [hx])
 refine ⟨ds, [], _, [] ++ [], p, [], hW', ?_, ?_, ?_, hg.frame _, fun h => by cases h⟩
 ·
  rw [hfn, hres]
  exact trodAll_mk1 (shut_bool htb true)
 ·
  rw [hfn]
  exact zb7 hl hg hA hr hlt
 ·
  rw [hfn, hvars]
  exact rfl
theorem zdm {t e : TypeId} {elems spare : List (DataW H)} (hu : P.underlying t = some (.slice e)) (h : (DataW.weights P t (.slice elems spare)).all (· ≤ reachBytes) = true) : (elems.length + spare.length) * P.bytesOf e ≤ reachBytes := by
 simp only [DataW.weights, hu, List.all_cons, Bool.and_eq_true, decide_eq_true_eq] at h
 exact h.1
theorem jV {t : TypeId} {ts : List TypeId} {d : DataW H} {ds : List (DataW H)} (h : (DataW.weightsEach P (t :: ts) (d :: ds)).all (· ≤ reachBytes) = true) :
 (DataW.weights P t d).all (· ≤ reachBytes) = true ∧ (DataW.weightsEach P ts ds).all (· ≤ reachBytes) = true := by
 simpa only [DataW.weightsEach, List.all_append, Bool.and_eq_true] using h
theorem addr_add {a : Addr} {b o : Nat} (h : a = ⟨b, o, none⟩) (i : Nat) : a.add i = ⟨b, o + i, none⟩ := by
 subst h; unfold Addr.add; split
 · subst i; rfl
 · rfl
theorem za5 {W : World} {a : Addr} {v : Value} (h : W.cell? (a.add 0) = some v) : a = ⟨a.block, a.off, none⟩ ∧ a.block < W.heap.size := by
 have h0 : a.add 0 = a := by simp [Addr.add]
 rw [h0] at h
 refine ⟨?_, World.block_lt_of_cell? _ _ h⟩
 have := World.cell?_spot h
 cases a; simp at this; subst this; rfl
theorem zhr {t e : TypeId} {W : World} {base : Nat} {v : Value} {d : DataW H} {p : List MemPlace} (ht : P.underlying t = some (.slice e)) (he : P.underlying e = some (.int .i64)) (ce : P.cellsOf e = 1) (be : P.bytesOf e = 8)
 (hok : Value.okWide P W .any base t v) (h : DataW.Trod enc P W 0 (fun _ => true) true t v d p) (hw : (DataW.weights P t d).all (· ≤ reachBytes) = true) : ∃ xs, zD W v xs := by
 obtain ⟨a0, len, cap, rfl⟩ := okWide_slice ht hok
 obtain ⟨fuel, hf⟩ := h
 rcases open_ints ht he ce hf with ⟨hcs, hx⟩ | ⟨a, len', cap', zs, hcs, hb, hl, hm, hz, hx, hcell, hwz⟩
 ·
  simp [Value.cells] at hcs
  obtain ⟨rfl, rfl, rfl⟩ := hcs
  exact ⟨[], none, 0, 0, 0, rfl, fun h => absurd rfl h, znr _, znz _, fun i hi => absurd hi (by simp), fun h => absurd rfl h, znz _⟩
 ·
  simp [Value.cells] at hcs
  obtain ⟨rfl, rfl, rfl⟩ := hcs
  simp only [Prod.mk.injEq] at hx
  obtain ⟨rfl, _⟩ := hx
  simp only [if_true] at hz
  have h1 := zdm ht hw
  rw [be] at h1
  simp only [lits, List.length_map, List.length_take, List.length_drop, reachBytes] at h1
  have hlen : (zs.take len).length = len := by rw [List.length_take]; omega
  refine ⟨zs.take len, some a, a.block, a.off, cap, by rw [hlen], fun hne => ?_, by rw [hlen]; exact hl, hm, fun i hi => ?_, fun hne => ?_, by rw [hlen]; omega⟩
  ·
   have : 0 < zs.length := by rcases zs with _ | ⟨z, zs⟩; · simp at hne
                              · simp
   rw [← (za5 (hcell 0 this)).1]
  ·
   have hi' : i < zs.length := by rw [List.length_take] at hi; omega
   have h2 := hcell i hi'
   rw [addr_add (za5 (hcell 0 (by omega))).1] at h2
   rw [h2]
   have hi3 : i < len := by rw [List.length_take] at hi; omega
   simp [hi', hi3]
  ·
   have : 0 < zs.length := by rcases zs with _ | ⟨z, zs⟩; · simp at hne
                              · simp
   exact (za5 (hcell 0 this)).2
end
