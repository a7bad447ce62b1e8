/- Contracts: slices.Clone of clauses. -/
import Derived.Test.YtheemhelioendaaGreatDoorPkM
import Derived.Test.YtheemhelioendaaGreatDoorPkH
namespace Go.Proofs.YtheemhelioendaaGreatDoor
open Go.RowKit

theorem infoClauseC : (Tryz.prog.info? 80).map (fun i => (i.zero, i.size, i.bytes)) = some (some (.slice none 0 0), 1, 24) := by kernel_rfl

set_option maxHeartbeats 1000000 in
/-- slices.Clone of clauses. -/
theorem cloneR_any (v : Value) (ls : List (List Int)) (w : World) (hv : IsRows w v ls) (hlen : ls.length ≤ 100000) :
    Calls Tryz.prog 61 #[v] w fun e w' => (∃ v' rs, e = .returned v' ∧ w'.ownsRow w.heap.size 80 1 v' ls.length rs ∧ RowVals w rs ls) ∧ Below w.heap.size w w' := by
  obtain ⟨a, c, rfl, hl, hm, _⟩ := hv.shape
  obtain ⟨rs, hrs, hcells⟩ := hv.vals
  have heq := fun (W : World) n c => Lib.run_eql_slice_nil (P := Tryz.prog) W 25 80 a n c 0 0 Tryz.underlying25
  obtain ⟨i0, hi, hz0, hz1, hz2⟩ := info_parts infoClauseC
  cases a with
  | none =>
    have e : ls = [] := by
      cases ls with
      | nil => rfl
      | cons x l => obtain ⟨b, o, h, _⟩ := hv.addr (k := 0) (by simp); cases h
    subst e
    go_enter Tryz.func61, Tryz.ntmps61
    go_wp2
    go_ret
    exact ⟨⟨_, [], rfl, World.ownsRow_nil _ _ _ _, rfl, fun i h1 => absurd h1 (by simp)⟩, Below.refl _ _⟩
  | some ad =>
    have hal : Below w.heap.size w (w.alloc (.cells #[] 80)) := (Below.refl _ _).alloc (Nat.le_refl _) _
    have hcells' := fun j u (h : rs[j]? = some u) => (World.cell?_of_block (hal.block (ad.add j).block (World.block_lt_of_cell? _ _ (hcells ad rfl j u h)))).trans (hcells ad rfl j u h)
    have hrs' := hrs.below hal
    have Hrs := Lib.hid hrs; clear hrs
    have Hal := Lib.hid hal; clear hal
    have Hv := Lib.hid hv; clear hv
    have hz1' : rs.length = ls.length * 1 := by rw [Hrs.out.1]; omega
    have Hc := Lib.hid hcells'; clear hcells hcells'
    have Hz1' := Lib.hid hz1'; clear hz1'
    have hone := hrs'.oneCell
    have Hrs' := Lib.hid hrs'; clear hrs'
    have Hone := Lib.hid hone; clear hone
    go_enter Tryz.func61, Tryz.ntmps61
    go_wp2_with (at_builtin; refine wpList_append_own _ rfl _ _ 25 rfl w.heap.size 80 i0 (.slice none 0 0) 1 24 Tryz.underlying25 hi hz0 hz1 hz2 rfl (by decide) _ _ _ rfl (World.ownsRow_made w #[] 0 (Nat.le_refl _) (Nat.zero_le _) rfl) ad _ _ rs rfl Hz1'.out Hc.out Hone.out (by simp only [maxLen]; omega) (by omega) (by simp) ?_; intro v' w1 hown hgrow _; have Hown := Lib.hid hown; have Hgrow := Lib.hid hgrow; clear hown hgrow)
    go_ret
    have hb : Below w.heap.size w w1 := Hal.out.grown Hgrow.out (by simp) (fun k hk => by cases hk; exact Nat.le_refl _)
    refine ⟨⟨v', rs, rfl, ?_, Hrs.out⟩, hb⟩
    have := Hown.out
    rw [Nat.zero_add, List.nil_append] at this
    exact this
end Go.Proofs.YtheemhelioendaaGreatDoor
