/- Contracts: NatField's closure "same" at like numbers; counts. -/
import Derived.Test.YtdeaficdfooegaaDoorNatParse
import Derived.Test.YtdeaficdfooegaaDoorNatCmp
import Derived.Test.YtdeaficdfooegaaDoorNatText
import Derived.Deep.RegionHeld3
namespace Go.Proofs.YtdeaficdfooegaaDoor
open Go.RowKit Go.Lib
set_option linter.unusedVariables false
def Sm (n : Nat) : Prop := ∃ k, k ≤ 400 ∧ n < 10 ^ k
theorem small_limbs {n : Nat} (h : Sm n) : (limbsOf n).length ≤ 1000000 := by
  obtain ⟨k, hk, h⟩ := h
  have h1 : (10 : Nat) ^ k ≤ B32 ^ k := Nat.pow_le_pow_left (by decide) k
  have := limbs_le (Nat.lt_of_lt_of_le h h1)
  omega
theorem small_chunks {n : Nat} (h : Sm n) : (chunks n).length ≤ 1000000 := by
  obtain ⟨k, hk, h⟩ := h
  have h1 : (10 : Nat) ^ k ≤ 1000000000 ^ k := Nat.pow_le_pow_left (by decide) k
  have := chunks_len k n (Nat.lt_of_lt_of_le h h1)
  omega
theorem cmpN_self (n : Nat) : cmpN n n = 0 := by unfold cmpN; simp
structure SameI (w wr : World) (s1 s2 : Value) (n : Nat) : Prop where
  below : Below w.heap.size w wr
  b1 : wr.heap[w.heap.size]? = some (.cells #[s1] 24 (0, 0))
  b2 : wr.heap[w.heap.size + 1]? = some (.cells #[s2] 24 (0, 0))
  n1 : IsNat wr (.agg #[s1]) n
  n2 : IsNat wr (.agg #[s2]) n
theorem SameI.grow {w wr w2 : World} {s1 s2 : Value} {n : Nat} (h : SameI w wr s1 s2 n) (hb : Below wr.heap.size wr w2) : SameI w w2 s1 s2 n :=
  ⟨h.below.trans (hb.mono h.below.size), (hb.block _ (lt_of_block h.b1)).trans h.b1, (hb.block _ (lt_of_block h.b2)).trans h.b2, h.n1.below hb, h.n2.below hb⟩

set_option maxRecDepth 100000 in
set_option maxHeartbeats 4000000 in
theorem Same_any (n : Nat) (va vb : Value) (w : World) (ha : IsNat w va n) (hb : IsNat w vb n) (hn : Sm n) :
    Calls Tryd.prog 10 #[va, vb] w fun e w' => e = .returned (.bool true) ∧ Below w.heap.size w w' := by
  obtain ⟨a1, c1, rfl⟩ := ha.shape
  obtain ⟨a2, c2, rfl⟩ := hb.shape
  have hbl : Below w.heap.size w ((w.alloc (.cells #[.slice a1 (limbsOf n).length c1] 24)).alloc (.cells #[.slice a2 (limbsOf n).length c2] 24)) := ((Below.refl _ _).alloc (Nat.le_refl _) _).alloc (by simp) _
  have hst : SameI w ((w.alloc (.cells #[.slice a1 (limbsOf n).length c1] 24)).alloc (.cells #[.slice a2 (limbsOf n).length c2] 24)) (.slice a1 (limbsOf n).length c1) (.slice a2 (limbsOf n).length c2) n := ⟨hbl, heap_up (heap_at rfl), heap_at (by simp), ha.below hbl, hb.below hbl⟩
  have cmpq := fun w' (h : SameI w w' (.slice a1 (limbsOf n).length c1) (.slice a2 (limbsOf n).length c2) n) => Cmp_any n n _ _ w' h.n1 h.n2
  rw [cmpN_self] at cmpq
  have txt1 := fun w' (h : SameI w w' (.slice a1 (limbsOf n).length c1) (.slice a2 (limbsOf n).length c2) n) => Text_any n _ w' h.n1 (small_limbs hn) (small_chunks hn)
  have txt2 := fun w' (h : SameI w w' (.slice a1 (limbsOf n).length c1) (.slice a2 (limbsOf n).length c2) n) => Text_any n _ w' h.n2 (small_limbs hn) (small_chunks hn)
  have Cmpq := Lib.hid cmpq; have Txt1 := Lib.hid txt1; have Txt2 := Lib.hid txt2; have Hst := Lib.hid hst
  clear ha hb hbl hst hn cmpq txt1 txt2
  go_enter Tryd.func10, Tryd.ntmps10
  go_wp2_with fail
  generalize ((w.alloc (.cells #[.slice a1 (limbsOf n).length c1] 24)).alloc (.cells #[.slice a2 (limbsOf n).length c2] 24)) = wr at Hst ⊢
  have q1 := cell_of_one Hst.out.b1; have q2 := cell_of_one Hst.out.b2
  have HI1 := Lib.hid (Hst.out.grow (w2 := wr.drew) ((Below.refl _ _).drew))
  clear Hst
  go_region_held3 (fun w' => w'.cell? ⟨w.heap.size, 0, none⟩ = some (.slice a1 (limbsOf n).length c1) ∧ w'.cell? ⟨w.heap.size + 1, 0, none⟩ = some (.slice a2 (limbsOf n).length c2))
    (first | exact ⟨q1, q2⟩ | exact ⟨h91, h92⟩ | exact ⟨h93, h94⟩ | exact ⟨h95, h96⟩ | go_keep)
    (first | (go_at_call 11; (with_reducible refine (Cmpq.out _ HI1.out).mono ?_); rintro e w9 ⟨rfl, hb9⟩; have HI1 := Lib.hid (HI1.out.grow hb9); have h91 := cell_of_one HI1.out.b1; have h92 := cell_of_one HI1.out.b2; clear hb9) | (go_at_call 12; (with_reducible refine (Txt1.out _ HI1.out).mono ?_); clear Txt1; rintro e w10 ⟨rfl, hb10⟩; have HI1 := Lib.hid (HI1.out.grow hb10); have h93 := cell_of_one HI1.out.b1; have h94 := cell_of_one HI1.out.b2; clear hb10) | (go_at_call 12; (with_reducible refine (Txt2.out _ HI1.out).mono ?_); rintro e w11 ⟨rfl, hb11⟩; have HI1 := Lib.hid (HI1.out.grow hb11); have h95 := cell_of_one HI1.out.b1; have h96 := cell_of_one HI1.out.b2; clear hb11))
  have HI := Lib.hid HI1.out.below
  clear HI1
  go_wp2_with fail
  go_ret
  exact ⟨by simp, HI.out⟩
end Go.Proofs.YtdeaficdfooegaaDoor
