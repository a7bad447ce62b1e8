import Derived.Test.YtmlfelbkgoplhaaGreatDoorZlSolF
import Derived.Test.YtmlfelbkgoplhaaGreatDoorZlPkV
set_option linter.unusedVariables false
set_option linter.unusedSimpArgs false
namespace Go.Proofs.YtmlfelbkgoplhaaGreatDoor
open Go.RowKit
def zhQ (w : World) (md : Nat) (c : Cells) (v : Int) (is : Bool) : Prop := ∃ mq : List (Int × Value), MapOf w md (Value.int .i64) mq ∧ ∀ k x, assoc mq k = some x → x = .bool (canX c v is k)
theorem zhQ.lt {w : World} {md : Nat} {c : Cells} {v : Int} {is : Bool} (h : zhQ w md c v is) : md < w.heap.size := by obtain ⟨mq, h1, _⟩ := h; exact h1.lt
theorem zhQ.below {w w' : World} {md : Nat} {c : Cells} {v : Int} {is : Bool} (h : zhQ w md c v is) (hb : Below w.heap.size w w') : zhQ w' md c v is := by
 obtain ⟨mq, h1, h2⟩ := h; exact ⟨mq, h1.yS (hb.block _ h1.lt), h2⟩
structure zfN (w : World) (q : Nat) (s : Sb) (V : Int) (st : Sp) (all : Int) (md : Nat) (v : Int) (is : Bool) : Prop where
 sp : IsSpace w s V st
 bx : w.heap[q]? = some (.cells #[.pointer (some ⟨s.ps, 0, none⟩), .int .i64 all] 40 (0, 0))
 mp : zhQ w md st.c v is
 off1 : ¬ s.mem md
 off2 : s.ps ≠ md
 off3 : q ≠ md
section
variable {w w2 : World} {q : Nat} {s : Sb} {V : Int} {st : Sp} {all : Int} {md : Nat} {v : Int} {is : Bool}
theorem zfN.below (h : zfN w q s V st all md v is) (hb : Below w.heap.size w w2) : zfN w2 q s V st all md v is :=
 ⟨h.sp.below hb, (hb.block _ (zlb h.bx)).trans h.bx, h.mp.below hb, h.off1, h.off2, h.off3⟩
theorem zfN.step (h : zfN w q s V st all md v is) (ho : Only (· = md) w w2) (hm : zhQ w2 md st.c v is) : zfN w2 q s V st all md v is :=
 ⟨h.sp.only ho h.off2 (fun k hk e => h.off1 (e ▸ hk)), (ho.block _ (zlb h.bx) h.off3).trans h.bx, hm, h.off1, h.off2, h.off3⟩
theorem zfN.cells (h : zfN w q s V st all md v is) : w.cell? ⟨q, 0, none⟩ = some (.pointer (some ⟨s.ps, 0, none⟩)) ∧ w.cell? ⟨s.ps, 0, none⟩ = some (.pointer (some ⟨s.b.p, 0, none⟩)) := ⟨(zcz h.bx).1, h.sp.s0⟩
theorem zfN.put {mq : List (Int × Value)} (h : zfN w q s V st all md v is) (hmv : ∀ k x, assoc mq k = some x → x = .bool (canX st.c v is k)) {k : Int} {b : Bool} (hb : b = canX st.c v is k) {o : Obj} (hm : MapOf (zA w md o) md (Value.int .i64) (zS mq k (.bool b))) : zhQ (zA w md o) md st.c v is ∧ Only (· = md) w (zA w md o) := by
 refine ⟨⟨_, hm, fun k' x hx => ?_⟩, ⟨rfl, rfl, rfl, by simp [zA], fun k _ hk => yH o hk⟩⟩
 rw [zax] at hx
 split at hx
 · rename_i e; subst e; cases hx; rw [hb]
 · exact hmv k' x hx
end
structure zeW (w : World) (nb : Nat) (u lo hi : Int) : Prop where
 blk : w.heap[nb]? = some (.cells #[.int .i64 u, .int .i64 lo, .int .i64 hi] 117 (0, 0))
theorem zeW.cells {w : World} {nb : Nat} {u lo hi : Int} (h : zeW w nb u lo hi) : w.cell? ⟨nb, 0, none⟩ = some (.int .i64 u) ∧ w.cell? ⟨nb, 1, none⟩ = some (.int .i64 lo) ∧ w.cell? ⟨nb, 2, none⟩ = some (.int .i64 hi) := zL h.blk
theorem zeW.only {w w2 : World} {nb md : Nat} {u lo hi : Int} (h : zeW w nb u lo hi) (ho : Only (· = md) w w2) (hne : nb ≠ md) : zeW w2 nb u lo hi := ⟨(ho.block _ (zlb h.blk) hne).trans h.blk⟩
