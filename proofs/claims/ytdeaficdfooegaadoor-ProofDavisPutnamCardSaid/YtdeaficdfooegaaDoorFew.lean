/- Contracts: few. -/
import Derived.Test.YtdeaficdfooegaaDoorAllHold
namespace Go.Proofs.YtdeaficdfooegaaDoor
open Go.RowKit

def FewPost (m most : Int) (ls : List (List Int)) (w : World) (e : Ending) (w' : World) : Prop :=
  (∃ t : Bool, e = .returned (.bool t) ∧ (t = true → m ≤ 10 ∧ (ls.length ≤ 100000 → (total ls : Int) ≤ most))) ∧ w = w'

def upTo (ls : List (List Int)) (k : Nat) : Nat := ls.length + ((ls.take k).map List.length).sum

theorem upTo_succ {ls : List (List Int)} {k : Nat} (h : k < ls.length) : upTo ls (k + 1) = upTo ls k + ls[k].length := by
  unfold upTo
  rw [List.take_succ_eq_append_getElem h, List.map_append, List.sum_append]
  simp only [List.map_cons, List.map_nil, List.sum_cons, List.sum_nil]
  omega

theorem sum_le {l : List Nat} {B : Nat} (h : ∀ x ∈ l, x ≤ B) : l.sum ≤ l.length * B := by
  induction l with
  | nil => simp
  | cons x l ih =>
    have h1 := h x (by simp)
    have h2 := ih (fun y hy => h y (by simp [hy]))
    simp only [List.sum_cons, List.length_cons, Nat.add_mul]
    omega

theorem wrap_step (a b : Nat) : wrap64 (wrap64 (a : Int) + b) = wrap64 ((a + b : Nat) : Int) := by
  simp only [wrap64]
  omega

set_option maxHeartbeats 1000000 in
theorem few_any (m most : Int) (v : Value) (ls : List (List Int)) (w : World) (hv : IsRows w v ls) :
    Calls Tryd.prog 32 #[.int .i64 m, v, .int .i64 most] w (FewPost m most ls w) := by
  obtain ⟨a, c, rfl, hl, hm, hlen⟩ := hv.shape
  have hs : ls.length ≤ 100000 → wrap64 (total ls) = total ls := by
    intro h1
    have h2 : ∀ x ∈ ls.map List.length, x ≤ 17592186044416 := by
      intro x hx
      obtain ⟨y, hy, rfl⟩ := List.mem_map.1 hx
      obtain ⟨k, hk, rfl⟩ := List.getElem_of_mem hy
      obtain ⟨b, o, rfl, _⟩ := hv.addr hk
      obtain ⟨a2, n2, c2, _, hr⟩ := hv.get hk
      obtain ⟨_, _, _, _, _, h3⟩ := hr.shape
      exact h3
    have h3 := sum_le h2
    rw [List.length_map] at h3
    have h4 : (ls.map List.length).sum ≤ 100000 * 17592186044416 := Nat.le_trans h3 (Nat.mul_le_mul_right _ h1)
    have h5 : total ls ≤ 100000 + 100000 * 17592186044416 := by unfold total; omega
    simp only [wrap64]
    omega
  have Ht := Lib.hid hs; clear hs
  have Hv := Lib.hid hv; clear hv
  go_enter Tryd.func32, Tryd.ntmps32
  go_wp2
  go_loopg [7, 8] ls.length (fun gk n i wr => w = wr ∧ ∃ (k : Nat) (s : Int), k ≤ ls.length ∧ gk = ls.length - k ∧ i = .int .i64 k ∧ n = .int .i64 s ∧ s = wrap64 (upTo ls k))
  case atStart => exact ⟨rfl, 0, _, Nat.zero_le _, rfl, rfl, rfl, by simp only [upTo, wrap64, List.take_zero, List.map_nil, List.sum_nil]; omega⟩
  case round =>
    obtain ⟨rfl, k, s, hk, rfl, rfl, rfl, hs⟩ := hrel
    have Hs := Lib.hid hs; clear hs
    by_cases hlt : k < ls.length
    · obtain ⟨b, o, rfl, hblk⟩ := Hv.out.addr hlt
      obtain ⟨a2, n2, c2, hc, hr⟩ := Hv.out.get hlt
      have hn2 := hr.len
      have Hn2 := Lib.hid hn2; clear hn2
      clear hr
      go_wp2
      go_roundg (ls.length - (k + 1))
      case measure => omega
      case rel => exact ⟨rfl, k + 1, _, by omega, rfl, by go_num, rfl, by rw [Hs.out, wrap_step, Hn2.out, upTo_succ hlt]⟩
    · go_wp2
      · go_ret
        refine ⟨⟨_, rfl, fun ht => ⟨by assumption, fun h1 => ?_⟩⟩, rfl⟩
        have h2 := of_decide_eq_true ht
        have h3 := Hs.out
        rw [show upTo ls k = total ls from by unfold upTo total; rw [List.take_of_length_le (by omega)], Ht.out h1] at h3
        omega
      · go_ret
        exact ⟨⟨_, rfl, fun ht => by cases ht⟩, rfl⟩
end Go.Proofs.YtdeaficdfooegaaDoor
