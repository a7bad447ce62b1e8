/- Contract: slices.SortFunc at spans, by the shelf. -/
import Derived.Test.YtheemhelioendaaGreatDoorSpanE
import Derived.Test.YtheemhelioendaaGreatDoorShelfS
namespace Go.Proofs.YtheemhelioendaaGreatDoor
open Go.RowKit
set_option linter.unusedVariables false

def encS (x : Spn) : List Value := [.int .i64 x.1, .int .i64 x.2]
def cfS (x y : Spn) : Int := Lib.compareInt x.1 y.1
theorem ltS (x y : Spn) : ltOf cfS x y = decide (x.1 < y.1) := by
  unfold ltOf cfS Lib.compareInt
  by_cases h : x.1 < y.1
  · simp [h]
  · by_cases h2 : y.1 < x.1
    · simp [h, h2]
    · simp [h, h2]
theorem swoS : Sort.SWO (ltOf cfS) where
  irrefl x := by rw [ltS]; simp
  trans x y z h1 h2 := by rw [ltS] at *; simp at *; omega
  ntrans x y z h1 h2 := by rw [ltS] at *; simp at *; omega
theorem isAggS : ∀ w, (isAgg 115).run Tryz.prog w = .ok true w := fun w => by kernel_rfl
theorem sizeOfS : ∀ w, (Go.sizeOf 115).run Tryz.prog w = .ok 2 w := fun w => by kernel_rfl

set_option maxHeartbeats 1000000 in
theorem compareI_any (x y : Int) (w : World) : Calls Tryz.prog 88 #[.int .i64 x, .int .i64 y] w fun e w' => e = .returned (.int .i64 (Lib.compareInt x y)) ∧ w' = w := by
  go_enter Tryz.func88, Tryz.ntmps88
  go_wp2
  all_goals (go_ret; refine ⟨?_, rfl⟩; unfold Lib.compareInt; (repeat' split) <;> first | rfl | (exfalso; omega))

set_option maxHeartbeats 1000000 in
theorem made2_any (x y : Spn) (W : World) : Calls Tryz.prog 175 #[.agg #[.int .i64 x.1, .int .i64 x.2], .agg #[.int .i64 y.1, .int .i64 y.2]] W fun e w' => e = .returned (.int .i64 (Lib.compareInt x.1 y.1)) ∧ ∃ q os', w' = Sort.grow (W.drewN q) os' := by
  have hcon := fun W' => compareI_any x.1 y.1 W'
  generalize Lib.compareInt x.1 y.1 = r at hcon ⊢
  go_enter Tryz.func175, Tryz.ntmps175
  go_wp2_with (go_at_call 88; refine (hcon _).mono ?_; rintro e w' ⟨rfl, rfl⟩)
  go_ret
  exact ⟨rfl, 0, _, by rw [Sort.alloc_eq_grow, Sort.alloc_eq_grow, Sort.grow_grow]; rfl⟩
theorem cmpLaysS (blk off size : Nat) (w : World) : CmpLays Tryz.prog 175 #[] encS 2 cfS blk off size w := fun _ _ _ _ x y => made2_any x y _

theorem spL_get {n : Nat} {f : Nat → Spn} {i : Nat} (h : i < n) : (spL n f).toArray[i]! = f i := by
  rw [getElem!_pos _ i (by simp [spL_len]; exact h)]; simp [spL]
theorem holdsS {w : World} {g cap n : Nat} {f : Nat → Spn} (h : SRow w g cap n f) : Sort.HoldsK encS 2 w g 0 (spL n f).toArray := by
  intro j hj
  rw [Sort.size_flatK] at hj
  have hn : (spL n f).toArray.size = n := by simp [spL_len]
  rw [hn] at hj
  rw [Sort.get_flatK _ _ _ _ (by rw [hn]; exact hj), spL_get (by omega)]
  refine ⟨?_, h.free _⟩
  have h2 : j % 2 = 0 ∨ j % 2 = 1 := by omega
  rcases h2 with e | e
  · have := h.cell1 (k := j / 2) (by omega)
    rw [show j / 2 * 2 = 0 + j by omega] at this
    rw [this, e]; rfl
  · have := h.cell2 (k := j / 2) (by omega)
    rw [show j / 2 * 2 + 1 = 0 + j by omega] at this
    rw [this, e]; rfl
/-- A row that is read alone. -/
structure RRow (w : World) (g n : Nat) (f : Nat → Spn) : Prop where
  c1 : ∀ k, k < n → w.cell? ⟨g, k * 2, none⟩ = some (.int .i64 (f k).1)
  c2 : ∀ k, k < n → w.cell? ⟨g, k * 2 + 1, none⟩ = some (.int .i64 (f k).2)
  lt : g < w.heap.size
theorem SRow.read {w : World} {g cap n : Nat} {f : Nat → Spn} (h : SRow w g cap n f) : RRow w g n f := ⟨fun k hk => h.cell1 hk, fun k hk => h.cell2 hk, h.lt⟩
theorem RRow.keep {w w' : World} {g n : Nat} {f : Nat → Spn} (h : RRow w g n f) (hb : w'.heap[g]? = w.heap[g]?) : RRow w' g n f :=
  ⟨fun k hk => (World.cell?_of_block (w := w) (a := ⟨g, k * 2, none⟩) hb).trans (h.c1 k hk), fun k hk => (World.cell?_of_block (w := w) (a := ⟨g, k * 2 + 1, none⟩) hb).trans (h.c2 k hk), by
    obtain ⟨o, ho⟩ : ∃ o, w.heap[g]? = some o := ⟨_, Array.getElem?_eq_getElem h.lt⟩
    exact lt_of_block (hb.trans ho)⟩
theorem rrow_of_holds {w : World} {g : Nat} {d : Array Spn} (h : Sort.HoldsK encS 2 w g 0 d) (hl : g < w.heap.size) : RRow w g d.size (fun k => d[k]!) := by
  refine ⟨fun k hk => ?_, fun k hk => ?_, hl⟩
  · have := h (k * 2) (by rw [Sort.size_flatK]; omega)
    rw [Sort.get_flatK _ _ _ _ (by omega), show k * 2 / 2 = k by omega, show k * 2 % 2 = 0 by omega, Nat.zero_add] at this
    exact this.1
  · have := h (k * 2 + 1) (by rw [Sort.size_flatK]; omega)
    rw [Sort.get_flatK _ _ _ _ (by omega), show (k * 2 + 1) / 2 = k by omega, show (k * 2 + 1) % 2 = 1 by omega, Nat.zero_add] at this
    exact this.1
theorem only1_sort {w : World} {g n : Nat} {d : Array Spn} {os : Array Obj} : Only1 g w (sortWorldK encS 2 w g 0 n d os) := by
  refine ⟨rfl, rfl, rfl, ?_, fun k hk hne => ?_⟩
  · simp [sortWorldK, Sort.grow, Sort.putRowK, Sort.putRow, Sort.mapBlock, Sort.ahead]
  · show ((w.heap.modify g _) ++ os)[k]? = _
    rw [Array.getElem?_append_left (by simpa using hk), Array.getElem?_modify, if_neg (fun e => hne e.symm)]

set_option maxHeartbeats 1000000 in
theorem sortS_any (g cap n : Nat) (f : Nat → Spn) (w : World) (h : SRow w g cap n f) (hn : n ≤ 1000000) :
    Calls Tryz.prog 174 #[.slice (some ⟨g, 0, none⟩) n cap, .func (.func 175) #[] #[]] w fun e w' =>
      ∃ f', e = .returned (.tuple #[]) ∧ RRow w' g n f' ∧ (∀ s, s ∈ spL n f' ↔ s ∈ spL n f) ∧ (∀ i j, i < j → j < n → (f' i).1 ≤ (f' j).1) ∧ Only1 g w w' := by
  have eg : ∀ args w, (callFunc 175 args).run Tryz.prog w = .ok (.enter 175 args) w := enters_of Tryz.func175 (by kernel_rfl) rfl
  have hsz : (spL n f).toArray.size = n := by simp [spL_len]
  have hc := AnyQ.slices_SortFunc Tryz.sortL 2 isAggS sizeOfS encS (fun _ => rfl) (fun x v hv => by simp [encS] at hv; rcases hv with rfl | rfl <;> rfl) cfS swoS 175 #[] g 0 cap (spL n f).toArray w eg (cmpLaysS g 0 _ w) (holdsS h) h.lt (by rw [hsz]; omega)
  rw [hsz] at hc
  refine Calls.mono hc ?_
  rintro e w' ⟨rfl, d', q, os, hp, hs, rfl⟩
  have hd : d'.size = n := hp.1.trans hsz
  have hh := holdsK_sortWorldK encS 2 w g 0 q (spL n f).toArray d' os h.lt (holdsS h) (hd.trans hsz.symm)
  have hr := rrow_of_holds hh (lt_sortWorldK encS 2 w g 0 q d' os h.lt)
  rw [hd] at hr
  refine ⟨fun k => d'[k]!, rfl, hr, fun s => ?_, fun i j h1 h2 => ?_, only1_sort⟩
  · have hperm := hp.2.2.mem_iff (a := s)
    rw [Array.extract_eq_self_of_le (by omega), Array.extract_eq_self_of_le (by omega)] at hperm
    have e : spL n (fun k => d'[k]!) = d'.toList := by
      apply List.ext_getElem
      · simp [spL_len, hd]
      · intro i h1 h2
        have hi : i < d'.size := by simpa using h2
        simp [spL, getElem!_pos d' i hi]
    rw [e]
    simpa using hperm
  · have := hs i j (Nat.zero_le _) h1 h2
    rw [ltS] at this
    simpa using this
end Go.Proofs.YtheemhelioendaaGreatDoor
