/- Numbers in boxes and in maps. -/
import Derived.Test.YthmflcmbaldflaaGreatDoorNat
import Derived.Test.YthmflcmbaldflaaGreatDoorIpC
import Derived.Test.YthmflcmbaldflaaGreatDoorIpB
namespace Go.Proofs.YthmflcmbaldflaaGreatDoor
open Go.RowKit
set_option linter.unusedVariables false

theorem IsLimbs.mapOnly {w w' : World} {v : Value} {xs : List Nat} {md : Nat} {mq : List (Int × Value)} (h : IsLimbs w v xs) (hm : MapOf w md (Value.int .i64) mq) (ho : Only (· = md) w w') : IsLimbs w' v xs := by
  obtain ⟨a, b, o, c, h1, h2, h3, h4, h5, h6, h7⟩ := h
  refine ⟨a, b, o, c, h1, h2, h3, h4, fun i hi => ?_, fun e => Nat.lt_of_lt_of_le (h6 e) ho.size, h7⟩
  have hlt := h6 (by intro e; subst e; simp at hi)
  have hc := h5 i hi
  have hn : b ≠ md := fun e => by
    subst e
    obtain ⟨es, cl, hb, _⟩ := hm
    simp [World.cell?, hb] at hc
  exact (ho.cell hlt hn).trans hc
theorem IsNat.mapOnly {w w' : World} {v : Value} {n md : Nat} {mq : List (Int × Value)} (h : IsNat w v n) (hm : MapOf w md (Value.int .i64) mq) (ho : Only (· = md) w w') : IsNat w' v n := by
  obtain ⟨s, rfl, hs⟩ := h; exact ⟨s, rfl, hs.mapOnly hm ho⟩
/-- A number in a box. -/
structure NBox (wr : World) (B : Nat) (a : Option Addr) (c n : Nat) : Prop where
  blk : wr.heap[B]? = some (.cells #[.slice a (limbsOf n).length c] 43 (0, 0))
  nat : IsNat wr (.agg #[.slice a (limbsOf n).length c]) n
theorem NBox.below {wr w2 : World} {B : Nat} {a : Option Addr} {c n : Nat} (h : NBox wr B a c n) (hb : Below wr.heap.size wr w2) : NBox w2 B a c n := ⟨(hb.block _ (lt_of_block h.blk)).trans h.blk, h.nat.below hb⟩
theorem NBox.mk' {wr : World} {a : Option Addr} {c k : Nat} (hn : IsNat wr (.agg #[.slice a (limbsOf k).length c]) k) : NBox (wr.alloc (.cells #[.slice a (limbsOf k).length c] 43)) wr.heap.size a c k := ⟨heap_at rfl, hn.below ((Below.refl _ _).alloc (Nat.le_refl _) _)⟩
theorem NBox.more {wr : World} {b : Option Addr} {d j : Nat} {E : Nat} (h : NBox wr E b d j) (o : Obj) : NBox (wr.alloc o) E b d j := h.below ((Below.refl _ _).alloc (Nat.le_refl _) _)
theorem NBox.lt {wr : World} {b : Option Addr} {d j : Nat} {E : Nat} (h : NBox wr E b d j) : E < wr.heap.size := lt_of_block h.blk
theorem below3 (w : World) (o1 o2 o3 : Obj) : Below w.heap.size w (((w.alloc o1).alloc o2).alloc o3) := (((Below.refl _ _).alloc (Nat.le_refl _) _).alloc (by simp) _).alloc (by simp only [alloc_size]; omega) _
theorem below4 (w : World) (o1 o2 o3 o4 : Obj) : Below w.heap.size w ((((w.alloc o1).alloc o2).alloc o3).alloc o4) := (below3 w o1 o2 o3).alloc (by simp only [alloc_size]; omega) _
theorem zeroNat (w : World) : (zeroValue 43).run Tryz.prog w = .ok (.agg #[.slice none 0 0]) w := by kernel_rfl

theorem short24 {n : Nat} (h : n ≤ 2 ^ 24) : (limbsOf n).length ≤ 1000000 := by
  have := limbs_le (n := n) (k := 1) (by rw [Nat.pow_one]; unfold B32; omega)
  omega
end Go.Proofs.YthmflcmbaldflaaGreatDoor
