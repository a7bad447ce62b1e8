/- Contracts: clause.Check. -/
import Derived.Test.YtheemhelioendaaGreatDoorPkL
namespace Go.Proofs.YtheemhelioendaaGreatDoor
open Go.RowKit

set_option maxHeartbeats 400000 in
theorem check1_any (x m : Int) (b : Nat) (w : World) (h0 : 0 ≤ m) (h1 : m ≤ 24) (hc : w.cell? ⟨b, 0, none⟩ = some (.int .i64 m)) :
    Calls Tryz.prog 90 #[.int .i64 x, .pointer (some ⟨b, 0, none⟩)] w fun e w' => e = .returned (.bool (badLit m x)) ∧ w = w' := by
  by_cases hx0 : x = 0
  · subst hx0
    go_enter Tryz.func90, Tryz.ntmps90
    go_wp2
    go_ret
    exact ⟨by simp [badLit], rfl⟩
  · have hx0' : (x == 0) = false := by simp [hx0]
    by_cases h2 : m < x
    · go_enter Tryz.func90, Tryz.ntmps90
      go_wp2
      go_ret
      exact ⟨by simp [badLit, h2], rfl⟩
    · go_enter Tryz.func90, Tryz.ntmps90
      go_wp2
      go_ret
      exact ⟨by simp [badLit, hx0]; omega, rfl⟩

def CheckPost (m : Int) (ls : List (List Int)) (w : World) (e : Ending) (w' : World) : Prop :=
  (∃ ev, e = .returned ev ∧ (Good m ls → ev = .nilIface) ∧ (¬ Good m ls → ∃ t v, ev = .iface t v)) ∧ Below w.heap.size w w'

theorem good_take_succ {m : Int} {ls : List (List Int)} {k : Nat} (hk : k < ls.length) (h : ∀ c ∈ ls.take k, c.length ≤ 48 ∧ c.any (badLit m) = false)
    (h1 : ls[k].length ≤ 48) (h2 : ls[k].any (badLit m) = false) : ∀ c ∈ ls.take (k + 1), c.length ≤ 48 ∧ c.any (badLit m) = false := by
  intro c hc
  rw [List.take_succ_eq_append_getElem hk] at hc
  rcases List.mem_append.1 hc with h3 | h3
  · exact h c h3
  · simp at h3; subst h3; exact ⟨h1, h2⟩

set_option maxHeartbeats 1000000 in
/-- clause.Check. -/
theorem checkCl_any (m : Int) (v : Value) (ls : List (List Int)) (w : World) (hv : IsRows w v ls) :
    Calls Tryz.prog 60 #[.int .i64 m, v] w (CheckPost m ls w) := by
  obtain ⟨a, c, rfl, hl, hm, hlen⟩ := hv.shape
  have Hv := Lib.hid hv; clear hv
  by_cases h0 : m < 0
  · go_enter Tryz.func60, Tryz.ntmps60
    go_wp2
    go_ret
    exact ⟨⟨_, rfl, fun h => absurd h.1 (by omega), fun _ => ⟨_, _, rfl⟩⟩, (Below.refl _ _).alloc (Nat.le_refl _) _⟩
  by_cases h1 : 24 < m
  · go_enter Tryz.func60, Tryz.ntmps60
    go_wp2
    go_ret
    exact ⟨⟨_, rfl, fun h => absurd h.2.1 (by omega), fun _ => ⟨_, _, rfl⟩⟩, (Below.refl _ _).alloc (Nat.le_refl _) _⟩
  by_cases h2 : 200 < ls.length
  · go_enter Tryz.func60, Tryz.ntmps60
    go_wp2
    go_ret
    exact ⟨⟨_, rfl, fun h => absurd h.2.2.1 (by omega), fun _ => ⟨_, _, rfl⟩⟩, (Below.refl _ _).alloc (Nat.le_refl _) _⟩
  have hc1 := fun (r : Value) (xs : List Int) (w1 : World) (h1' : IsInts w1 r xs) (h2' : w1.cell? ⟨w.heap.size, 0, none⟩ = some (.int .i64 m)) =>
    containsFunc_any 90 (.pointer (some ⟨w.heap.size, 0, none⟩)) (badLit m) r xs w1 h1' (by intro a w; go_simp)
    (fun x hx => check1_any x m _ w1 (by omega) (by omega) h2')
  have Hc1 := Lib.hid hc1; clear hc1
  go_enter Tryz.func60, Tryz.ntmps60
  go_wp2
  go_loopg [20] ls.length (fun gk i wr => Below w.heap.size w wr ∧ w.heap.size < wr.heap.size ∧ wr.cell? ⟨w.heap.size, 0, none⟩ = some (.int .i64 m) ∧ ∃ k : Nat, k ≤ ls.length ∧ gk = ls.length - k ∧ i = .int .i64 k ∧ ∀ c ∈ ls.take k, c.length ≤ 48 ∧ c.any (badLit m) = false)
  case atStart => exact ⟨(Below.refl _ _).alloc (Nat.le_refl _) _, by simp, by simp [go_sem], 0, Nat.zero_le _, rfl, rfl, by simp⟩
  case round =>
    obtain ⟨hbw, hsz, hcm, k, hk, rfl, rfl, hno⟩ := hrel
    have Hno := Lib.hid hno; clear hno
    have Hb := Lib.hid hbw; clear hbw
    by_cases hlt : k < ls.length
    · obtain ⟨b, o, rfl, hblk⟩ := Hv.out.addr hlt
      obtain ⟨a2, n2, c2, hc, hr⟩ := (Hv.out.below Hb.out).get hlt
      have hn2 := hr.len
      have Hn2 := Lib.hid hn2; clear hn2
      have Hr := Lib.hid hr; clear hr
      by_cases h48 : 48 < n2
      · go_wp2
        go_ret
        refine ⟨⟨_, rfl, fun h => ?_, fun _ => ⟨_, _, rfl⟩⟩, Hb.out.alloc (by omega) _⟩
        have := (h.2.2.2 _ (List.getElem_mem hlt)).1
        have := Hn2.out
        omega
      · cases hp : ls[k].any (badLit m)
        · have Hp := Lib.hid hp; clear hp
          go_wp2_with (go_at_call 68; refine (Hc1.out _ _ _ Hr.out hcm).mono ?_; rw [Hp.out]; rintro e w' ⟨rfl, rfl⟩)
          go_roundg (ls.length - (k + 1))
          case measure => omega
          case rel => exact ⟨Hb.out, hsz, hcm, k + 1, by omega, rfl, by go_num, good_take_succ hlt Hno.out (by have := Hn2.out; omega) Hp.out⟩
        · have Hp := Lib.hid hp; clear hp
          go_wp2_with (go_at_call 68; refine (Hc1.out _ _ _ Hr.out hcm).mono ?_; rw [Hp.out]; rintro e w' ⟨rfl, rfl⟩)
          go_ret
          refine ⟨⟨_, rfl, fun h => ?_, fun _ => ⟨_, _, rfl⟩⟩, Hb.out.alloc (by omega) _⟩
          have h5 := (h.2.2.2 _ (List.getElem_mem hlt)).2
          rw [Hp.out] at h5
          exact absurd h5 (by decide)
    · go_wp2
      go_ret
      refine ⟨⟨_, rfl, fun _ => rfl, fun h => absurd ⟨by omega, by omega, by omega, ?_⟩ h⟩, Hb.out⟩
      have := Hno.out
      rw [List.take_of_length_le (by omega)] at this
      exact this
end Go.Proofs.YtheemhelioendaaGreatDoor
