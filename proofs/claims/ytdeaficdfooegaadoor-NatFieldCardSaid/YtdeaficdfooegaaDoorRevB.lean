/- Contract: slices.Reverse of bytes. -/
import Derived.Test.YtdeaficdfooegaaDoorAMem
import Derived.BigQuiet
import Derived.Deep.QuietTactic
import Derived.BigRegion
namespace Go.Proofs.YtdeaficdfooegaaDoor
open Go.RowKit
set_option linter.unusedVariables false

/-- A row of bytes in block g. -/
def BRow (w : World) (g cap n : Nat) (f : Nat → Nat) : Prop := ∃ cur : Array Value, w.heap[g]? = some (.cells cur 5 (0, 0)) ∧ n ≤ cap ∧ cur.size = cap ∧ ∀ k, k < n → cur[k]? = some (.int .u8 (f k : Nat))
theorem BRow.cell {w : World} {g cap n : Nat} {f : Nat → Nat} (h : BRow w g cap n f) {k : Nat} (hk : k < n) : w.cell? ⟨g, k, none⟩ = some (.int .u8 (f k : Nat)) := by
  obtain ⟨cur, h1, _, _, h2⟩ := h; rw [cell_of_row w g k cur _ _ h1]; exact h2 k hk
theorem BRow.free {w : World} {g cap n : Nat} {f : Nat → Nat} (h : BRow w g cap n f) (k : Nat) : w.frozen? ⟨g, k, none⟩ = false := by
  obtain ⟨cur, h1, _⟩ := h; simp [World.frozen?, h1]
theorem BRow.lt {w : World} {g cap n : Nat} {f : Nat → Nat} (h : BRow w g cap n f) : g < w.heap.size := by
  obtain ⟨cur, h1, _⟩ := h; exact (Array.getElem?_eq_some_iff.1 h1).1
theorem BRow.drew {w : World} {g cap n : Nat} {f : Nat → Nat} (h : BRow w g cap n f) (m : Nat) : BRow (w.drewN m) g cap n f := h
theorem BRow.less {w : World} {g cap n m : Nat} {f : Nat → Nat} (h : BRow w g cap n f) (hm : m ≤ n) : BRow w g cap m f := by
  obtain ⟨cur, h1, h2, h3, h4⟩ := h; exact ⟨cur, h1, by omega, h3, fun k hk => h4 k (by omega)⟩
theorem BRow.keep {w w' : World} {g cap n : Nat} {f : Nat → Nat} (h : BRow w g cap n f) (hb : w'.heap[g]? = w.heap[g]?) : BRow w' g cap n f := by
  obtain ⟨cur, h1, h2⟩ := h; exact ⟨cur, hb.trans h1, h2⟩
theorem BRow.set {w : World} {g cap n : Nat} {f : Nat → Nat} (h : BRow w g cap n f) (j v : Nat) : BRow (w.setCell ⟨g, j, none⟩ (.int .u8 (v : Nat))) g cap n (fun k => if k = j then v else f k) := by
  obtain ⟨cur, h1, h2, h3, h4⟩ := h
  have hlt := (Array.getElem?_eq_some_iff.1 h1).1
  have h' : w.heap[g] = .cells cur 5 (0, 0) := (Array.getElem?_eq_some_iff.1 h1).2
  refine ⟨cur.setIfInBounds j (.int .u8 (v : Nat)), ?_, h2, by simp [h3], fun k hk => ?_⟩
  · show (w.heap.modify g _)[g]? = _
    rw [Array.getElem?_eq_getElem (by simpa using hlt), Array.getElem_modify_self, h']
    rfl
  · dsimp only
    by_cases e : k = j
    · subst e
      rw [Array.getElem?_setIfInBounds_self_of_lt (by omega), if_pos rfl]
    · rw [Array.getElem?_setIfInBounds_ne (fun e2 => e e2.symm), if_neg e]; exact h4 k hk
theorem BRow.same {w : World} {g cap n : Nat} {f f' : Nat → Nat} (h : BRow w g cap n f) (e : ∀ k, k < n → f k = f' k) : BRow w g cap n f' := by
  obtain ⟨cur, h1, h2, h3, h4⟩ := h; exact ⟨cur, h1, h2, h3, fun k hk => by rw [← e k hk]; exact h4 k hk⟩

def revF (n k : Nat) (f : Nat → Nat) : Nat → Nat := fun x => if x < k ∨ n - k ≤ x then f (n - 1 - x) else f x
set_option maxRecDepth 100000 in
set_option maxHeartbeats 4000000 in
theorem revB_any (g cap n : Nat) (f : Nat → Nat) (w : World) (h : BRow w g cap n f) (hn : n ≤ 20000000) :
    Calls Tryd.prog 43 #[.slice (some ⟨g, 0, none⟩) n cap] w fun e w' => e = .returned (.tuple #[]) ∧ BRow w' g cap n (fun k => f (n - 1 - k)) ∧ Only (· = g) w w' := by
  have hc : n ≤ cap := by obtain ⟨_, _, h2, _⟩ := h; exact h2
  have H := Lib.hid h; clear h
  go_enter Tryd.func43, Tryd.ntmps43
  go_wp2_with fail
  go_loopg [2, 3] n (fun gk i j wr => ∃ k : Nat, 2 * k ≤ n + 1 ∧ gk = n - k ∧ i = .int .i64 k ∧ j = .int .i64 ((n : Int) - 1 - k) ∧ BRow wr g cap n (revF n k f) ∧ Only (· = g) w wr)
  case atStart => exact ⟨0, by omega, rfl, rfl, by go_num, H.out.same (fun k hk => by unfold revF; rw [if_neg (by omega)]), Only.refl _ _⟩
  case round =>
    clear H
    obtain ⟨k, hk, rfl, rfl, rfl, hr, ho⟩ := hrel
    have Hr := Lib.hid hr; have Ho := Lib.hid ho; clear hr ho
    by_cases hlt : (k : Int) < (n : Int) - 1 - k
    · obtain ⟨j, hj⟩ : ∃ j : Nat, j = n - 1 - k := ⟨_, rfl⟩
      rw [show (n : Int) - 1 - k = (j : Int) by omega] at hlt ⊢
      have c1 := Hr.out.cell (k := k) (by omega)
      have c2 := Hr.out.cell (k := j) (by omega)
      have z1 := Hr.out.free k
      have z2 := Hr.out.free j
      have hjn : (j : Int) < n := by omega
      have hkn : (k : Int) < n := by omega
      have hset := ((Hr.out.drew 1).set k (revF n k f j)).set j (revF n k f k)
      have hnx : ∀ x, x < n → (if x = j then revF n k f k else if x = k then revF n k f j else revF n k f x) = revF n (k + 1) f x := fun x hx => by
        unfold revF
        by_cases e1 : x = j
        · rw [if_pos e1, if_neg (by omega), if_pos (by omega)]; congr 1; omega
        · rw [if_neg e1]
          by_cases e2 : x = k
          · rw [if_pos e2, if_neg (by omega), if_pos (by omega)]; congr 1; omega
          · rw [if_neg e2]
            by_cases e3 : x < k ∨ n - k ≤ x
            · rw [if_pos e3, if_pos (by omega)]
            · rw [if_neg e3, if_neg (by omega)]
      have Hset := Lib.hid (hset.same hnx); have Hj := Lib.hid hj
      clear hset hnx hj
      generalize revF n k f k = u1 at c1 Hset
      generalize revF n k f j = u2 at c2 Hset
      go_wp2_with fail
      go_region
      all_goals
        go_wp2_with fail
        go_roundg (n - (k + 1))
        case measure => omega
        case rel => exact ⟨k + 1, by have := Hj.out; omega, rfl, by go_num, by have := Hj.out; rw [show ((n : Int) - 1 - ((k + 1 : Nat) : Int)) = (j : Int) - 1 by omega], Hset.out, ((Ho.out.drew).setCell (.inl rfl) _).setCell (.inl rfl) _⟩
    · go_wp2_with fail
      go_end0
      refine ⟨rfl, Hr.out.same (fun x hx => ?_), Ho.out⟩
      unfold revF
      by_cases e : x < k ∨ n - k ≤ x
      · rw [if_pos e]
      · rw [if_neg e]; congr 1; omega
end Go.Proofs.YtdeaficdfooegaaDoor
