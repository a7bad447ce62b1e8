/- Contract: (count.Nat).Fits, of a number of one limb. -/
import Derived.Test.YtdeaficdfooegaaDoorNat
import Derived.Laws.Bits64b
namespace Go.Proofs.YtdeaficdfooegaaDoor
open Go.RowKit
set_option linter.unusedVariables false

theorem limbs_one {n : Nat} (h0 : n ≠ 0) (h : n < B32) : limbsOf n = [n] := by
  rw [limbs_pos h0, Nat.mod_eq_of_lt h, Nat.div_eq_of_lt h, limbs_zero]

theorem or_zero {n : Nat} (h : n < B32) : bits .or .u64 0 (n : Int) = (n : Int) := by
  have := bits_or_u64_nat 0 n (by decide) (by unfold B32 at h; omega)
  simpa using this

set_option maxRecDepth 100000 in
set_option maxHeartbeats 2000000 in
theorem Fits_any (n : Nat) (v : Value) (w : World) (hv : IsNat w v n) (hn : n < B32) :
    Calls Tryd.prog 22 #[v] w fun e w' => e = .returned (.tuple #[.int .i64 n, .bool true]) ∧ Below w.heap.size w w' := by
  obtain ⟨a, c, rfl⟩ := hv.shape
  have hl := hv.limbs
  by_cases h0 : n = 0
  · subst h0
    rw [limbs_zero] at hl ⊢
    have Hl := Lib.hid hl; clear hv hl hn
    go_enter Tryd.func22, Tryd.ntmps22
    go_wp2_with fail
    go_loopg [4, 10] 0 (fun gk u i wr => gk = 0 ∧ u = .int .u64 0 ∧ i = .int .i64 0 ∧ wr = w.alloc (.cells #[.slice a 0 c] 24))
    case atStart => exact ⟨rfl, rfl, rfl, rfl⟩
    case round =>
      obtain ⟨rfl, rfl, rfl, rfl⟩ := hrel
      go_wp2_with fail
      go_ret2
      exact ⟨rfl, (Below.refl _ _).alloc (Nat.le_refl _) _⟩
  · have hn' := hn
    have Hor := Lib.hid (or_zero hn)
    unfold B32 at hn'
    rw [limbs_one h0 hn] at hl ⊢
    obtain ⟨b, o, rfl, lb⟩ := hl.addr (k := 0) (by simp)
    have hc := hl.get (k := 0) (by simp)
    simp only [List.getElem_cons_zero, Nat.add_zero] at hc
    have Hl := Lib.hid hl; clear hv hl hn
    have hx0 : (0 : Int) ≤ (n : Int) := by omega
    have hx1 : (n : Int) < 4294967296 := by omega
    generalize ((n : Nat) : Int) = x at hc Hor hx0 hx1 ⊢
    have hge : decide ((9223372036854775808 : Int) ≤ x) = false := by simp; omega
    clear hn'
    go_enter Tryd.func22, Tryd.ntmps22
    go_wp2_with fail
    go_loopg [4, 10] 1 (fun gk u i wr => wr = w.alloc (.cells #[.slice (some ⟨b, o, none⟩) 1 c] 24) ∧ ((gk = 1 ∧ u = .int .u64 0 ∧ i = .int .i64 0) ∨ (gk = 0 ∧ u = .int .u64 x ∧ i = .int .i64 1)))
    case atStart => exact ⟨rfl, .inl ⟨rfl, rfl, rfl⟩⟩
    case round =>
      obtain ⟨rfl, ⟨rfl, rfl, rfl⟩ | ⟨rfl, rfl, rfl⟩⟩ := hrel
      · go_wp2_with fail
        go_roundg 0
        case measure => omega
        case rel => exact ⟨rfl, .inr ⟨rfl, by rw [Hor.out], rfl⟩⟩
      · go_wp2_with fail
        go_ret2
        exact ⟨rfl, (Below.refl _ _).alloc (Nat.le_refl _) _⟩
end Go.Proofs.YtdeaficdfooegaaDoor
