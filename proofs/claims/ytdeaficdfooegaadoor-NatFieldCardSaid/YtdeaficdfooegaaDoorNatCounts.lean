/- Contract: solspacekeep.counts. -/
import Derived.Test.YtdeaficdfooegaaDoorNatSame
import Derived.Test.YtdeaficdfooegaaDoorNatMul
import Derived.Test.YtdeaficdfooegaaDoorNatAdd
namespace Go.Proofs.YtdeaficdfooegaaDoor
open Go.RowKit Go.Lib
set_option linter.unusedVariables false
structure BoxI (w wr : World) (b : Nat) (s1 : Value) (n : Nat) : Prop where
  below : Below w.heap.size w wr
  b1 : wr.heap[b]? = some (.cells #[s1] 24 (0, 0))
  n1 : IsNat wr (.agg #[s1]) n
theorem BoxI.grow {w wr w2 : World} {b : Nat} {s1 : Value} {n : Nat} (h : BoxI w wr b s1 n) (hb : Below wr.heap.size wr w2) : BoxI w w2 b s1 n :=
  ⟨h.below.trans (hb.mono h.below.size), (hb.block _ (lt_of_block h.b1)).trans h.b1, h.n1.below hb⟩
theorem text15 : textB 15 = ⟨#[49, 53]⟩ := by decide +kernel
theorem text56 : textB 56 = ⟨#[53, 54]⟩ := by decide +kernel
theorem good7 : goodD (ByteArray.mk #[55]).data.toList = true := by decide
theorem val7 : valD (ByteArray.mk #[55]).data.toList = 7 := by decide

set_option maxRecDepth 100000 in
set_option maxHeartbeats 4000000 in
theorem counts_any (w : World) :
    Calls Tryd.prog 9 #[] w fun e w' => e = .returned (.bool true) ∧ Below w.heap.size w w' := by
  have pq := Parse_good (ByteArray.mk #[55]) w good7 (by decide)
  rw [val7] at pq
  have Pq := Lib.hid pq; clear pq
  have ofq : ∀ w' : World, Calls Tryd.prog 18 #[.int .i64 8] w' fun e w2 => ∃ v, e = .returned v ∧ IsNat w2 v 8 ∧ Below w'.heap.size w' w2 := fun w' => Of_any 8 w' (by decide)
  have l7 : (limbsOf 7).length ≤ 1000000 := small_limbs ⟨2, by decide, by decide⟩
  have l8 : (limbsOf 8).length ≤ 1000000 := small_limbs ⟨2, by decide, by decide⟩
  have addq := fun w' va vb (h1 : IsNat w' va 7) (h2 : IsNat w' vb 8) => Add_any 7 8 va vb w' h1 h2 l7 l8
  have mulq := fun w' va vb (h1 : IsNat w' va 7) (h2 : IsNat w' vb 8) => Mul_any 7 8 va vb w' h1 h2 l7 l8
  have tx1 := fun w' va (h1 : IsNat w' va 15) => Text_any 15 va w' h1 (small_limbs ⟨2, by decide, by decide⟩) (small_chunks ⟨2, by decide, by decide⟩)
  have tx2 := fun w' va (h1 : IsNat w' va 56) => Text_any 56 va w' h1 (small_limbs ⟨2, by decide, by decide⟩) (small_chunks ⟨2, by decide, by decide⟩)
  rw [text15] at tx1; rw [text56] at tx2
  have Ofq := Lib.hid ofq; have Addq := Lib.hid addq; have Mulq := Lib.hid mulq; have Tx1 := Lib.hid tx1; have Tx2 := Lib.hid tx2
  clear ofq addq mulq tx1 tx2 l7 l8
  go_enter Tryd.func9, Tryd.ntmps9
  go_wp2_with fail
  refine Pq.out.mono ?_
  rintro e w1 ⟨v, rfl, hn, hb⟩
  obtain ⟨a1, c1, rfl⟩ := hn.shape
  have hb4 : Below w1.heap.size w1 (w1.alloc (.cells #[.slice a1 (limbsOf 7).length c1] 24)) := (Below.refl _ _).alloc (Nat.le_refl _) _
  have hst : BoxI w (w1.alloc (.cells #[.slice a1 (limbsOf 7).length c1] 24)) w1.heap.size (.slice a1 (limbsOf 7).length c1) 7 := ⟨hb.trans (hb4.mono hb.size), heap_at rfl, hn.below hb4⟩
  have Hst := Lib.hid hst
  clear hst hb hb4 hn Pq
  generalize (limbsOf 7).length = n7 at Hst ⊢
  go_wp2_with fail
  generalize (w1.alloc (.cells #[.slice a1 n7 c1] 24)) = wr at Hst ⊢
  generalize w1.heap.size = bx at Hst ⊢
  have q1 := cell_of_one Hst.out.b1
  have HI1 := Lib.hid (Hst.out.grow (w2 := wr.drew) ((Below.refl _ _).drew))
  clear Hst
  go_region_held3 (fun w' => w'.cell? ⟨bx, 0, none⟩ = some (.slice a1 n7 c1))
    (first | exact q1 | exact h91 | exact h92 | exact h93 | exact h94 | exact h95 | exact h96 | go_keep)
    (first | (go_at_call 18; (with_reducible refine (Ofq.out _).mono ?_); rintro e w9 ⟨v9, rfl, hn9, hb9⟩; obtain ⟨a9, c9, rfl⟩ := hn9.shape; have HI1 := Lib.hid (HI1.out.grow hb9); have h91 := cell_of_one HI1.out.b1; have Hn9 := Lib.hid hn9; clear hb9 hn9) | (go_at_call 13; (with_reducible refine (Addq.out _ _ _ HI1.out.n1 Hn9.out).mono ?_); rintro e w10 ⟨v10, rfl, hn10, hb10⟩; obtain ⟨a10, c10, rfl⟩ := hn10.shape; have HI1 := Lib.hid (HI1.out.grow hb10); have h92 := cell_of_one HI1.out.b1; have Hn10 := Lib.hid hn10; clear hb10 hn10) | (go_at_call 16; (with_reducible refine (Mulq.out _ _ _ HI1.out.n1 Hn9.out).mono ?_); rintro e w11 ⟨v11, rfl, hn11, hb11⟩; obtain ⟨a11, c11, rfl⟩ := hn11.shape; have HI1 := Lib.hid (HI1.out.grow hb11); have h93 := cell_of_one HI1.out.b1; have Hn11 := Lib.hid hn11; clear hb11 hn11) | (go_at_call 12; (with_reducible refine (Tx1.out _ _ Hn10.out).mono ?_); clear Tx1; rintro e w12 ⟨rfl, hb12⟩; have HI1 := Lib.hid (HI1.out.grow hb12); have h94 := cell_of_one HI1.out.b1; clear hb12) | (go_at_call 12; (with_reducible refine (Tx2.out _ _ Hn11.out).mono ?_); clear Tx2; rintro e w13 ⟨rfl, hb13⟩; have HI1 := Lib.hid (HI1.out.grow hb13); have h95 := cell_of_one HI1.out.b1; clear hb13))
  have HI := Lib.hid HI1.out.below
  clear HI1
  go_wp2_with fail
  go_ret
  exact ⟨by simp, HI.out⟩
end Go.Proofs.YtdeaficdfooegaaDoor
