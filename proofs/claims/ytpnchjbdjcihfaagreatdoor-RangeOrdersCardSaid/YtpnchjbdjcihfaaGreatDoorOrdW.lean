/- Contracts for the law RangeOrders: the closure that parses; Has, by members. -/
import Derived.Test.YtpnchjbdjcihfaaGreatDoorVerW
import Derived.Test.YtpnchjbdjcihfaaGreatDoorRBoole
namespace Go.Proofs.YtpnchjbdjcihfaaGreatDoor
open Go.RowKit
set_option linter.unusedVariables false

theorem cat_word (o l : List UInt8) : wordB o ++ wordB l = wordB (o ++ l) := by
  apply ByteArray.ext
  apply Array.toList_inj.1
  unfold wordB
  simp
def GetP (k : Nat) (a b c : Int) (w : World) (e : Ending) (w' : World) : Prop :=
  ∃ v r, e = .returned (.agg #[v]) ∧ IsSp w' v r ∧ OpR k a b c r ∧ r.length ≤ 7000 ∧ (∀ b, v.ownBlock = some b → w.heap.size ≤ b) ∧ Below w.heap.size w w'
set_option maxRecDepth 100000 in
set_option maxHeartbeats 4000000 in
theorem get_any (o : List UInt8) (k : Nat) (a b c : Int) (q : Nat) (w : World) (hm : (o, k) ∈ opsT) (h : VerOk a b c) (hq : w.cell? ⟨q, 0, none⟩ = some (.string (wordB (verL a b c)))) (hL : LaidR w) (hT : TypeLaid w) :
    Calls Tryz.prog 16 #[.string (wordB o), .pointer (some ⟨q, 0, none⟩)] w (GetP k a b c w) := by
  obtain ⟨r0, hr0⟩ := opR_some k h
  have ht := textR_op hm h hr0
  have ho := (ops_ok _ hm).2.2.1
  have hv := verL_len h
  have hsz : (wordB (o ++ verL a b c)).size ≤ 1000 := by rw [wordB_size, List.length_append]; simp only at ho; omega
  have hqb := World.block_lt_of_cell? _ _ hq
  obtain ⟨W, hW⟩ : ∃ W, W = w.alloc (.cells #[.slice none 0 0] 24) := ⟨_, rfl⟩
  have hb : Below w.heap.size w W := by rw [hW]; exact (Below.refl _ _).alloc (Nat.le_refl _) _
  have hk : W.heap[w.heap.size]? = some (.cells #[.slice none 0 0] 24 (0, 0)) := by rw [hW]; exact heap_at rfl
  have hq2 : W.cell? ⟨q, 0, none⟩ = some (.string (wordB (verL a b c))) := (hb.cell hqb).trans hq
  have hs1 : (wordB o).size ≤ 2 := by rw [wordB_size]; exact ho
  have hs2 : (wordB (verL a b c)).size ≤ 11 := by rw [wordB_size]; exact hv
  have HR := Lib.hid (range_any (wordB (o ++ verL a b c)) W (by omega) (hL.below hb) (hT.below hb))
  have Hcat := Lib.hid (cat_word o (verL a b c))
  have Hsz := Lib.hid hsz; have Ht := Lib.hid ht; have Hr0 := Lib.hid hr0; have Hb := Lib.hid hb; have Hk := Lib.hid hk
  rw [← Hcat.out] at HR
  clear ht hr0 hsz hb hk hq hL hT ho hv hm
  generalize wordB o = so at *
  generalize wordB (verL a b c) = sv at *
  go_enter Tryz.func16, Tryz.ntmps16
  go_upto_region 1 with fail
  rw [← hW]
  clear hW
  go_wp2_with fail
  refine HR.out.mono ?_
  intro e w1 hp
  rw [Hcat.out] at hp
  obtain ⟨v, r, er, rfl, hsp, hfr, hlen, hb1, hcase⟩ := hp
  have hrr : r = r0 ∧ er = .nilIface := by
    rcases hcase with ⟨e1, _, e2⟩ | ⟨_, _, e2⟩
    · exact ⟨e2.one Ht.out, e1⟩
    · exact absurd Ht.out (e2 r0 Hsz.out)
  obtain ⟨rfl, rfl⟩ := hrr
  clear hcase
  obtain ⟨a1, c1, rfl, _⟩ := hsp.shape
  obtain ⟨W2, hW2⟩ : ∃ W2, W2 = w1.alloc (.cells #[.slice a1 r.length c1] 24) := ⟨_, rfl⟩
  have hb2 : Below w1.heap.size w1 W2 := by rw [hW2]; exact (Below.refl _ _).alloc (Nat.le_refl _) _
  have hk2 : W2.heap[w1.heap.size]? = some (.cells #[.slice a1 r.length c1] 24 (0, 0)) := by rw [hW2]; exact heap_at rfl
  have hkr : W2.heap[w.heap.size]? = some (.cells #[.slice none 0 0] 24 (0, 0)) := (hb2.block _ (by have := lt_of_block Hk.out; have := hb1.size; omega)).trans ((hb1.block _ (lt_of_block Hk.out)).trans Hk.out)
  have hlt := lt_of_block Hk.out
  have d1 := cell_of_one hk2; have d2 := cell_of_one hkr; have d3 := free_of_one hkr; have d4 := lt_of_block hkr
  have k4 := cell_of_one (one_setCell (u := .slice a1 r.length c1) hkr)
  have Hs2 := Lib.hid ((hsp.below hb2).set_other (b := w.heap.size) (fun b hb => by have := hfr b hb; omega) (.slice a1 r.length c1))
  have Hf2 := Lib.hid (show ∀ b, (Value.slice a1 r.length c1).ownBlock = some b → w.heap.size ≤ b from fun b hb => by have := hfr b hb; omega)
  have HB2 := Lib.hid ((Hb.out.trans ((hb1.trans (hb2.mono hb1.size)).mono Hb.out.size)).setCell (p := ⟨w.heap.size, 0, none⟩) (Nat.le_refl _) (.slice a1 r.length c1))
  have Hlen := Lib.hid hlen
  clear hsp hfr hb1 hb2 hk2 hkr hlen HR
  go_upto_region 2 with fail
  rw [← hW2]
  clear hW2
  go_wp2_with fail
  exact bodyPost_ret (v := .agg #[.slice a1 r.length c1]) (by simp [results, Tryz.results16, go_sem, k4]) rfl ⟨_, r, rfl, Hs2.out, Hr0.out, Hlen.out, Hf2.out, HB2.out⟩
theorem hasT (v : Value) (l : List Spn) (x y z : Int) (w : World) (r : Bool) (hs : IsSp w v l) (h : VerOk x y z) (e : decide (inL l (numV x y z)) = r) : Calls Tryz.prog 14 #[.agg #[v], .agg #[.int .i64 x, .int .i64 y, .int .i64 z]] w fun e w' => e = .returned (.bool r) ∧ Below w.heap.size w w' := by
  have := has_any v l x y z w hs
  rwa [hasV_eq h, e] at this
end Go.Proofs.YtpnchjbdjcihfaaGreatDoor
