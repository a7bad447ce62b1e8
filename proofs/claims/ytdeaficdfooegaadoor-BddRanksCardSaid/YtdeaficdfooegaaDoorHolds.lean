/- Contracts: (*bdd.Space).Holds, Size; plain.At, pick, Len. -/
import Derived.Test.YtdeaficdfooegaaDoorSetOps
import Derived.Test.YtdeaficdfooegaaDoorStp
namespace Go.Proofs.YtdeaficdfooegaaDoor
open Go.RowKit
set_option linter.unusedVariables false

set_option maxHeartbeats 4000000 in
theorem Holds_any (V : Int) (h x : Int) (w : World) (s : Sb) (st : Sp) (hs : IsSpace w s V st) (so : SOk V st) (hh : hasM st.c h = true) :
    Calls Tryd.prog 25 #[.pointer (some ⟨s.ps, 0, none⟩), .int .i64 h, .int .u64 x] w fun e w' => e = .returned (.tuple #[.bool (den st.c h (bitAt x)), .nilIface]) ∧ Below w.heap.size w w' := by
  have hlen := hs.ar.len
  have hR := hs.ar.room.2
  have lh : ∀ k : Int, hasM st.c k = true → k ≤ 9223372036854775807 := fun k hk => by have := hasM_le hk; omega
  have c0 := hs.s0
  have hha := has_any h w s.b st.c hs.ar (lh h hh)
  rw [hh] at hha
  obtain ⟨D, hD⟩ : ∃ D, D = den st.c h (bitAt x) := ⟨_, rfl⟩
  rw [← hD]
  have Hha := Lib.hid hha; have Hs := Lib.hid hs; have Hso := Lib.hid so; have Hhh := Lib.hid hh; have HD := Lib.hid hD; have Lh := Lib.hid lh
  clear hha hs so hh hD lh hlen hR
  go_enter Tryd.func25, Tryd.ntmps25
  go_wp2_with fail
  refine Hha.out.mono ?_
  rintro e w1 ⟨rfl, rfl⟩
  go_wp2_with fail
  go_loopg [1] (24 - topM st.c h).toNat (fun gk i wr => Below w.heap.size w wr ∧ ∃ k : Int, i = .int .i64 k ∧ gk = (24 - topM st.c k).toNat ∧ hasM st.c k = true ∧ den st.c k (bitAt x) = D)
  case atStart => exact ⟨Below.refl _ _, h, rfl, rfl, Hhh.out, HD.out.symm⟩
  case round =>
    clear c0 Hha
    obtain ⟨hb, k, rfl, rfl, hk, hd⟩ := hrel
    have hsr := Hs.out.below hb
    have c0 := hsr.s0
    have hg := get_any k wr s.b st.c hsr.ar (Lh.out k hk)
    have Hb := Lib.hid hb; have Hk := Lib.hid hk; have Hd := Lib.hid hd; clear hsr hb hk hd
    cases g : getM st.c k with
    | none =>
      rw [g] at hg
      have hd2 := Hd.out
      rw [den_end g] at hd2
      have Hg := Lib.hid hg; clear hg g
      go_wp2_with fail
      refine Hg.out.mono ?_
      rintro e w2 ⟨rfl, rfl⟩
      simp only [gotV, encNd, Option.getD_none, Option.isSome_none]
      go_wp2_with fail
      go_ret2
      exact ⟨rfl, Hb.out.trans ((((Below.refl _ _).alloc (Nat.le_refl _) _).alloc (by simp) _).mono Hb.out.size)⟩
    | some n =>
      obtain ⟨u, lo, hi⟩ := n
      rw [g] at hg
      have hd2 := Hd.out
      rw [den_node Hso.out.ok g] at hd2
      obtain ⟨b1, b2, k1, k2, k3, k4⟩ := Hso.out.ok.kids g
      have ht := top_node g
      dsimp only at hd2 b1 b2 k1 k2 k3 k4 ht
      have hu : 0 ≤ u := b1
      have hm1 : (24 - topM st.c lo).toNat < (24 - topM st.c k).toNat := by omega
      have hm2 : (24 - topM st.c hi).toNat < (24 - topM st.c k).toNat := by omega
      have Hg := Lib.hid hg; have K1 := Lib.hid k1; have K2 := Lib.hid k2; have Hm1 := Lib.hid hm1; have Hm2 := Lib.hid hm2; have Hd2 := Lib.hid hd2; clear hg g k1 k2 k3 k4 ht b1 b2 hm1 hm2 hd2
      by_cases hbit : bitAt x u = true
      · have hbit2 : (bits .and .u64 (x / 2 ^ min u.toNat 64) 1 == 1) = true := hbit
        have Hbit := Lib.hid hbit; clear hbit
        go_wp2_with fail
        refine Hg.out.mono ?_
        rintro e w2 ⟨rfl, rfl⟩
        simp only [gotV, encNd, Option.getD_some, Option.isSome_some]
        go_wp2_with fail
        go_roundg ((24 - topM st.c hi).toNat)
        case measure => exact Hm2.out
        case rel => exact ⟨Hb.out.trans ((((Below.refl _ _).alloc (Nat.le_refl _) _).alloc (by simp) _).mono Hb.out.size), hi, rfl, rfl, K2.out, by have := Hd2.out; rw [Hbit.out] at this; exact this⟩
      · have hbit2 : (bits .and .u64 (x / 2 ^ min u.toNat 64) 1 == 1) = false := by simpa [bitAt] using hbit
        have hbf : bitAt x u = false := hbit2
        have Hbit := Lib.hid hbf; clear hbf hbit
        go_wp2_with fail
        refine Hg.out.mono ?_
        rintro e w2 ⟨rfl, rfl⟩
        simp only [gotV, encNd, Option.getD_some, Option.isSome_some]
        go_wp2_with fail
        go_roundg ((24 - topM st.c lo).toNat)
        case measure => exact Hm1.out
        case rel => exact ⟨Hb.out.trans ((((Below.refl _ _).alloc (Nat.le_refl _) _).alloc (by simp) _).mono Hb.out.size), lo, rfl, rfl, K1.out, by have := Hd2.out; rw [Hbit.out] at this; exact this⟩
end Go.Proofs.YtdeaficdfooegaaDoor
