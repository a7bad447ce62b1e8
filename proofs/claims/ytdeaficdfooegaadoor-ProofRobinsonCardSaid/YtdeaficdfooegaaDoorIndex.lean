/- Contracts: slices.Index over an arena's marks. -/
import Derived.Test.YtdeaficdfooegaaDoorPlace
import Derived.Deep.OwnRows
namespace Go.Proofs.YtdeaficdfooegaaDoor
open Go.RowKit
set_option linter.unusedVariables false

/-- Where there is room, as slices.Index tells it. -/
def freeI (c : Cells) : Int := match freeM c with | some k => (k : Int) | none => -1

set_option maxHeartbeats 1000000 in
theorem index_any (w : World) (b : Bk) (c : Cells) (ha : IsArena w b c) :
    Calls Tryd.prog 137 #[.slice (some ⟨b.bu, 0, none⟩) b.R b.R, .bool false] w fun e w' => e = .returned (.int .i64 (freeI c)) ∧ w = w' := by
  obtain ⟨hlen, hroom, hap, nodes, tab, hat, -⟩ := ha
  have hR := hroom.2
  have Hat := Lib.hid hat; clear hat
  have Hlen := Lib.hid hlen; clear hlen
  go_enter Tryd.func137, Tryd.ntmps137
  go_wp2
  go_loop [5, 8] (fun u i => ∃ k : Nat, k ≤ b.R ∧ i = .int .i64 k ∧ ∀ j, j < k → (c.at j).isSome = true) (fun _ i => b.R - (intOf i).toNat)
  case atStart => exact ⟨0, Nat.zero_le _, rfl, fun j h => absurd h (Nat.not_lt_zero _)⟩
  case round =>
    obtain ⟨k, hk, rfl, hno⟩ := hrel
    have Hno := Lib.hid hno; clear hno
    by_cases hlt : k < b.R
    · have hu := Hat.out.u hlt
      cases hs : (c.at k).isSome
      · rw [hs] at hu
        have Hs := Lib.hid hs; clear hs
        go_wp2
        go_ret
        refine ⟨?_, rfl⟩
        have h1 : freeM c = some k := freeM_at (by rw [Hlen.out]; exact hlt) (by simpa using Hs.out) Hno.out
        unfold freeI; rw [h1]; rfl
      · rw [hs] at hu
        have Hs := Lib.hid hs; clear hs
        go_wp2
        go_round
        case rel =>
          refine ⟨k + 1, by omega, by go_num, fun j hj => ?_⟩
          rcases Nat.lt_or_ge j k with h1 | h1
          · exact Hno.out j h1
          · obtain rfl : j = k := by omega
            exact Hs.out
        case measure => simp [intOf]; omega
    · go_wp2
      go_ret
      refine ⟨?_, rfl⟩
      have h1 : freeM c = none := freeM_full (fun j hj => Hno.out j (by rw [Hlen.out] at hj; omega))
      unfold freeI; rw [h1]; rfl

theorem infoNode : (Tryd.prog.info? 106).map (fun i => (i.zero, i.size, i.bytes)) = some (some (.agg #[.int .i64 0, .int .i64 0, .int .i64 0]), 3, 24) := by kernel_rfl
theorem infoBool : (Tryd.prog.info? 4).map (fun i => (i.zero, i.size, i.bytes)) = some (some (.bool false), 1, 1) := by kernel_rfl
theorem infoInt : (Tryd.prog.info? 3).map (fun i => (i.zero, i.size, i.bytes)) = some (some (.int .i64 0), 1, 8) := by kernel_rfl

theorem make_nodes (R : Nat) (h : R ≤ 4000) (w : World) : (Instr.makeSlice 149 (.int .i64 (R : Int)) (.int .i64 (R : Int))).run Tryd.prog w = .ok (.slice (some ⟨w.heap.size, 0, none⟩) R R) (w.alloc (.cells (madeCells #[.int .i64 0, .int .i64 0, .int .i64 0] (R * 3)) 106)) := by
  obtain ⟨i, hi, hzz⟩ := Option.map_eq_some_iff.1 infoNode
  simp only [Prod.mk.injEq] at hzz
  obtain ⟨hz, hs, hb⟩ := hzz
  have := run_make (P := Tryd.prog) w 149 106 i _ Tryd.underlying149 hi hz .i64 .i64 R R (by omega) (Int.le_refl _) (by rw [hb]; omega) (by omega)
  simpa [hs, Value.cells] using this

/-- An arena that was made. -/
theorem arena_made {w : World} (b : Bk) (ap : b.Apart) (h1 : 1 ≤ b.R) (h2 : b.R ≤ 4000) (hp : w.heap[b.p]? = some (.cells #[.slice (some ⟨b.bn, 0, none⟩) b.R b.R, .slice (some ⟨b.bu, 0, none⟩) b.R b.R, .slice (some ⟨b.bt, 0, none⟩) (2 * b.R + 1) (2 * b.R + 1), .int .i64 0] 152 (0, 0)))
    (hn : w.heap[b.bn]? = some (.cells (madeCells #[.int .i64 0, .int .i64 0, .int .i64 0] (b.R * 3)) 106 (0, 0))) (hu : w.heap[b.bu]? = some (.cells (madeCells #[.bool false] b.R) 4 (0, 0)))
    (ht : w.heap[b.bt]? = some (.cells (madeCells #[.int .i64 0] (2 * b.R + 1)) 3 (0, 0))) : IsArena w b (List.replicate b.R none) := by
  have hat : ∀ k, Cells.at (List.replicate b.R none) k = none := fun k => by unfold Cells.at; simp only [List.getD_eq_getElem?_getD, List.getElem?_replicate]; split <;> rfl
  have hcnt : cnt (List.replicate b.R none) = 0 := by unfold cnt; rw [List.countP_replicate]; simp
  refine ⟨by simp, ⟨h1, h2⟩, ap, fun _ => (0, 0, 0), List.replicate (2 * b.R + 1) 0, ⟨?_, ⟨_, hn, by rw [size_madeCells]; omega, fun k hk => ?_⟩, ⟨_, hu, by rw [size_madeCells], fun k hk => ?_⟩, ?_⟩, by simp, ?_, fun k n h => by rw [hat] at h; cases h⟩
  · rw [hcnt, List.length_replicate]; exact hp
  · have h3 : ∀ i, i < b.R * 3 → (madeCells #[Value.int .i64 0, .int .i64 0, .int .i64 0] (b.R * 3))[i]? = some (.int .i64 0) := by
      intro i hi
      unfold madeCells
      have h4 : i % 3 = 0 ∨ i % 3 = 1 ∨ i % 3 = 2 := by omega
      rcases h4 with e | e | e <;> simp [hi, e]
    exact ⟨h3 _ (by omega), h3 _ (by omega), h3 _ (by omega)⟩
  · rw [hat, ← Array.getElem?_toList, toList_madeCells_one]; simp [hk]
  · rw [ht]
    congr 2
    apply Array.toList_inj.1
    rw [toList_madeCells_one]; simp
  · exact (tabOK_empty _ (fun _ => (0, 0, 0)) _).congr (fun k => by simp [hat]) (fun k h => h.elim)

theorem four_blocks (w : World) (o0 o1 o2 o3 : Obj) : ((((w.alloc o0).alloc o1).alloc o2).alloc o3).drew.heap[w.heap.size]? = some o0 ∧ ((((w.alloc o0).alloc o1).alloc o2).alloc o3).drew.heap[w.heap.size + 1]? = some o1 ∧
    ((((w.alloc o0).alloc o1).alloc o2).alloc o3).drew.heap[w.heap.size + 1 + 1]? = some o2 ∧ ((((w.alloc o0).alloc o1).alloc o2).alloc o3).drew.heap[w.heap.size + 1 + 1 + 1]? = some o3 :=
  ⟨heap_up (heap_up (heap_up (heap_at rfl))), heap_up (heap_up (heap_at (by simp only [alloc_size]))), heap_up (heap_at (by simp only [alloc_size])), heap_at (by simp only [alloc_size])⟩

theorem four_below (w : World) (o0 o1 o2 o3 : Obj) : Below w.heap.size w ((((w.alloc o0).alloc o1).alloc o2).alloc o3).drew :=
  (((((Below.refl _ _).alloc (Nat.le_refl _) _).alloc (by simp) _).alloc (by simp only [alloc_size]; omega) _).alloc (by simp only [alloc_size]; omega) _).drew

set_option maxHeartbeats 4000000 in
theorem new_any (R : Nat) (w : World) (h1 : 1 ≤ R) (h2 : R ≤ 4000) :
    Calls Tryd.prog 84 #[.int .i64 R] w fun e w' => (∃ b : Bk, e = .returned (.tuple #[.pointer (some ⟨b.p, 0, none⟩), .nilIface]) ∧ b.R = R ∧ IsArena w' b (List.replicate R none) ∧ ∀ k, b.mem k → w.heap.size ≤ k) ∧ Below w.heap.size w w' := by
  have hm1 := make_nodes R h2
  have hm2 := run_make_row' (P := Tryd.prog) 150 4 (.bool false) 1 Tryd.underlying150 infoBool rfl .i64 .i64 R (by omega) (by omega)
  have hm3 := run_make_row' (P := Tryd.prog) 40 3 (.int .i64 0) 8 Tryd.underlying40 infoInt rfl .i64 .i64 (2 * R + 1) (by omega) (by omega)
  rw [show ((2 * R + 1 : Nat) : Int) = 2 * (R : Int) + 1 by omega] at hm3
  go_enter Tryd.func84, Tryd.ntmps84
  go_wp2
  go_region
  all_goals (try go_wp2)
  all_goals go_ret2
  all_goals first
    | exact ⟨⟨⟨w.heap.size + 1 + 1 + 1, w.heap.size, w.heap.size + 1, w.heap.size + 1 + 1, R⟩, rfl, rfl, arena_made _ ⟨by dsimp only; omega, by dsimp only; omega, by dsimp only; omega, by dsimp only; omega, by dsimp only; omega, by dsimp only; omega⟩ h1 h2 (four_blocks _ _ _ _ _).2.2.2 (four_blocks _ _ _ _ _).1 (four_blocks _ _ _ _ _).2.1 (four_blocks _ _ _ _ _).2.2.1, by rintro k (rfl | rfl | rfl | rfl) <;> (dsimp only; omega)⟩, four_below _ _ _ _ _⟩
    | exact ⟨⟨⟨w.heap.size + 1 + 1 + 1, w.heap.size, w.heap.size + 1 + 1, w.heap.size + 1, R⟩, rfl, rfl, arena_made _ ⟨by dsimp only; omega, by dsimp only; omega, by dsimp only; omega, by dsimp only; omega, by dsimp only; omega, by dsimp only; omega⟩ h1 h2 (four_blocks _ _ _ _ _).2.2.2 (four_blocks _ _ _ _ _).1 (four_blocks _ _ _ _ _).2.2.1 (four_blocks _ _ _ _ _).2.1, by rintro k (rfl | rfl | rfl | rfl) <;> (dsimp only; omega)⟩, four_below _ _ _ _ _⟩
    | exact ⟨⟨⟨w.heap.size + 1 + 1 + 1, w.heap.size + 1, w.heap.size, w.heap.size + 1 + 1, R⟩, rfl, rfl, arena_made _ ⟨by dsimp only; omega, by dsimp only; omega, by dsimp only; omega, by dsimp only; omega, by dsimp only; omega, by dsimp only; omega⟩ h1 h2 (four_blocks _ _ _ _ _).2.2.2 (four_blocks _ _ _ _ _).2.1 (four_blocks _ _ _ _ _).1 (four_blocks _ _ _ _ _).2.2.1, by rintro k (rfl | rfl | rfl | rfl) <;> (dsimp only; omega)⟩, four_below _ _ _ _ _⟩
    | exact ⟨⟨⟨w.heap.size + 1 + 1 + 1, w.heap.size + 1, w.heap.size + 1 + 1, w.heap.size, R⟩, rfl, rfl, arena_made _ ⟨by dsimp only; omega, by dsimp only; omega, by dsimp only; omega, by dsimp only; omega, by dsimp only; omega, by dsimp only; omega⟩ h1 h2 (four_blocks _ _ _ _ _).2.2.2 (four_blocks _ _ _ _ _).2.1 (four_blocks _ _ _ _ _).2.2.1 (four_blocks _ _ _ _ _).1, by rintro k (rfl | rfl | rfl | rfl) <;> (dsimp only; omega)⟩, four_below _ _ _ _ _⟩
    | exact ⟨⟨⟨w.heap.size + 1 + 1 + 1, w.heap.size + 1 + 1, w.heap.size, w.heap.size + 1, R⟩, rfl, rfl, arena_made _ ⟨by dsimp only; omega, by dsimp only; omega, by dsimp only; omega, by dsimp only; omega, by dsimp only; omega, by dsimp only; omega⟩ h1 h2 (four_blocks _ _ _ _ _).2.2.2 (four_blocks _ _ _ _ _).2.2.1 (four_blocks _ _ _ _ _).1 (four_blocks _ _ _ _ _).2.1, by rintro k (rfl | rfl | rfl | rfl) <;> (dsimp only; omega)⟩, four_below _ _ _ _ _⟩
    | exact ⟨⟨⟨w.heap.size + 1 + 1 + 1, w.heap.size + 1 + 1, w.heap.size + 1, w.heap.size, R⟩, rfl, rfl, arena_made _ ⟨by dsimp only; omega, by dsimp only; omega, by dsimp only; omega, by dsimp only; omega, by dsimp only; omega, by dsimp only; omega⟩ h1 h2 (four_blocks _ _ _ _ _).2.2.2 (four_blocks _ _ _ _ _).2.2.1 (four_blocks _ _ _ _ _).2.1 (four_blocks _ _ _ _ _).1, by rintro k (rfl | rfl | rfl | rfl) <;> (dsimp only; omega)⟩, four_below _ _ _ _ _⟩
end Go.Proofs.YtdeaficdfooegaaDoor
