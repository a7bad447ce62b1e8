/- Contracts: reason.lines; a row of bools that is set. -/
import Derived.Test.YtheemhelioendaaGreatDoorCorM
import Derived.Test.YtheemhelioendaaGreatDoorPkO
import Derived.Deep.RegionHeld3
import Derived.Deep.OwnRows
namespace Go.Proofs.YtheemhelioendaaGreatDoor
open Go.RowKit
set_option linter.unusedVariables false

theorem infoBoolR : (Tryz.prog.info? 4).map (fun i => (i.zero, i.size, i.bytes)) = some (some (.bool false), 1, 1) := by kernel_rfl
/-- A row of bools. -/
def BoolRow (w : World) (p n : Nat) (S : Nat → Bool) : Prop := ∃ cur : Array Value, w.heap[p]? = some (.cells cur 4 (0, 0)) ∧ cur.size = n ∧ ∀ j, j < n → cur[j]? = some (.bool (S j))
theorem BoolRow.made {w : World} {p n : Nat} (h : w.heap[p]? = some (.cells (madeCells #[.bool false] n) 4 (0, 0))) : BoolRow w p n (fun _ => false) :=
  ⟨_, h, by rw [size_madeCells], fun j hj => by rw [← Array.getElem?_toList, toList_madeCells_one]; simp [hj]⟩
theorem BoolRow.set {w : World} {p n : Nat} {S : Nat → Bool} (h : BoolRow w p n S) {k : Nat} (hk : k < n) (b : Bool) : BoolRow (w.setCell ⟨p, k, none⟩ (.bool b)) p n (fun i => if i = k then b else S i) := by
  obtain ⟨cur, h1, h2, h3⟩ := h
  refine ⟨_, heap_set h1 k _, by simp [h2], fun j hj => ?_⟩
  rw [Array.getElem?_setIfInBounds]
  by_cases e : k = j
  · subst e; rw [if_pos rfl, if_pos (by omega)]; simp
  · rw [if_neg e]
    show cur[j]? = some (.bool (if j = k then b else S j))
    rw [if_neg (fun q => e q.symm)]; exact h3 j hj
theorem BoolRow.cell {w : World} {p n : Nat} {S : Nat → Bool} (h : BoolRow w p n S) {j : Nat} (hj : j < n) : w.cell? ⟨p, j, none⟩ = some (.bool (S j)) ∧ w.frozen? ⟨p, j, none⟩ = false ∧ p < w.heap.size := by
  obtain ⟨cur, h1, h2, h3⟩ := h
  exact ⟨by rw [cell_of_row _ _ _ _ _ _ h1]; exact h3 j hj, by simp [World.frozen?, h1], lt_of_block h1⟩
theorem BoolRow.lt {w : World} {p n : Nat} {S : Nat → Bool} (h : BoolRow w p n S) : p < w.heap.size := by
  obtain ⟨cur, h1, _⟩ := h
  exact lt_of_block h1
theorem BoolRow.block {w w' : World} {p n : Nat} {S : Nat → Bool} (h : BoolRow w p n S) (hb : w'.heap[p]? = w.heap[p]?) : BoolRow w' p n S := by
  obtain ⟨cur, h1, h2⟩ := h
  exact ⟨cur, hb.trans h1, h2⟩
theorem BoolRow.below {w w' : World} {p n : Nat} {S : Nat → Bool} (h : BoolRow w p n S) (hb : Below w.heap.size w w') : BoolRow w' p n S := h.block (hb.block _ h.lt)
theorem BoolRow.congr {w : World} {p n : Nat} {S S' : Nat → Bool} (h : BoolRow w p n S) (e : ∀ i, i < n → S i = S' i) : BoolRow w p n S' := by
  obtain ⟨cur, h1, h2, h3⟩ := h
  exact ⟨cur, h1, h2, fun j hj => by rw [← e j hj]; exact h3 j hj⟩
theorem BoolRow.bools {w : World} {p n : Nat} {S : Nat → Bool} (h : BoolRow w p n S) (hn : n ≤ 1000) : IsBools w (.slice (some ⟨p, 0, none⟩) n n) (boolsL n S) := by
  have hc := fun j hj => (h.cell (j := j) hj).1
  refine ⟨_, p, 0, n, by rw [boolsL_len], fun _ => rfl, by rw [boolsL_len]; exact Nat.le_refl _, by unfold maxLen; omega, fun i hi => ?_, fun _ => h.lt⟩
  rw [boolsL_len] at hi
  rw [Nat.zero_add, hc i hi, boolsL_get hi]
set_option maxRecDepth 100000 in
set_option maxHeartbeats 8000000 in
theorem says_any (p : Nat) (vl vi : Value) (ls : List LineM) (items : List ItemM) (w : World) (h : CatAt w p vl vi ls items) (hn : ls.length ≤ 100) :
    Calls Tryz.prog 59 #[.pointer (some ⟨p, 0, none⟩)] w fun e w' => (∃ v, e = .returned v ∧ OutI w' w.heap.size v ((saysN ls ls.length).map fun k : Nat => (k : Int))) ∧ Below w.heap.size w w' := by
  have HLi := Lib.hid (lines_any p vl vi ls items w h (by omega))
  clear h
  go_enter Tryz.func59, Tryz.ntmps59
  go_wp2_with fail
  refine HLi.out.mono ?_
  rintro e w4 ⟨⟨v4, rfl, hl4⟩, hb4⟩
  obtain ⟨al, cl, rfl, hll, hlm⟩ := hl4.row.shape
  have Hl4 := Lib.hid hl4; have Hb4 := Lib.hid hb4
  clear hl4 hb4 HLi
  go_wp2_with fail
  go_loopg [3, 9] ls.length (fun gk vo i wr => ∃ k : Nat, k ≤ ls.length ∧ gk = ls.length - k ∧ i = .int .i64 k ∧ OutI wr w4.heap.size vo ((saysN ls k).map fun k : Nat => (k : Int)) ∧ Below w4.heap.size w4 wr)
  case atStart => exact ⟨0, Nat.zero_le _, rfl, rfl, RowG.nil _ _ _ _ _, Below.refl _ _⟩
  case round =>
    obtain ⟨k, hk, rfl, rfl, hout, hbw⟩ := hrel
    obtain ⟨wo, rfl⟩ : ∃ y, y = wr := ⟨_, rfl⟩
    obtain ⟨ss, hss⟩ : ∃ ss, ss = (saysN ls k).map (fun k : Nat => (k : Int)) := ⟨_, rfl⟩
    rw [← hss] at hout
    have hsl : ss.length ≤ 100 := by rw [hss, List.length_map]; have := says_len ls k; omega
    obtain ⟨ao, co, rfl, _, _⟩ := RowG.shape hout
    by_cases hlt : k < ls.length
    · have hi : (k : Int) < (ls.length : Int) := by omega
      have hlw := Hl4.out.below hbw
      obtain ⟨gl, rfl, hgl, _⟩ := hlw.row.at (by omega)
      obtain ⟨c0, c1, c2, c3, c4, c5, c6⟩ := hlw.cells hlt
      have hin := hlw.ins _ (List.getElem_mem hlt)
      have hsu := saysN_succ ls k
      rw [kindAt_get hlt] at hsu
      obtain ⟨lx, hlx⟩ : ∃ lx, lx = ls[k] := ⟨_, rfl⟩
      rw [← hlx] at c0 c1 c2 c3 c4 c5 c6 hin hsu
      obtain ⟨kd, nm, a, b, c, ot, rg, rv⟩ := lx
      have hrg := hin.rng
      simp only at c0 c1 c2 c3 c4 c5 c6 hrg hsu
      obtain ⟨ar, cr, rfl, _, _⟩ := hrg.shape
      obtain ⟨wB, hwB⟩ : ∃ q, q = wo.alloc (.cells #[.int .i64 kd, .string nm, .int .i64 a, .int .i64 b, .int .i64 c, .string ot, .slice ar rg.length cr] 51) := ⟨_, rfl⟩
      have hbB : Below wo.heap.size wo wB := by rw [hwB]; exact (Below.refl _ _).alloc (Nat.le_refl _) _
      have hkB : wB.heap[wo.heap.size]? = some (.cells #[.int .i64 kd, .string nm, .int .i64 a, .int .i64 b, .int .i64 c, .string ot, .slice ar rg.length cr] 51 (0, 0)) := by rw [hwB]; exact heap_at rfl
      obtain ⟨k0, _, _, _, _, _, _⟩ := cells7 hkB
      have Hout := Lib.hid (RowG.below hout hbB); have Hbw := Lib.hid (hbw.trans (hbB.mono hbw.size)); have Hsu := Lib.hid hsu; have Hss := Lib.hid hss
      clear hout hbw hsu hss hbB hkB hlw hin hrg hlx
      go_upto_region 5 with fail
      rw [← hwB]
      clear hwB c0 c1 c2 c3 c4 c5 c6
      by_cases hk1 : kd = 1
      · have t1 : (kd != 1) = false := by rw [hk1]; rfl
        have Hk1 := Lib.hid hk1; clear hk1
        go_wp2_with fail
        go_roundg (ls.length - (k + 1))
        case measure => omega
        case rel => exact ⟨k + 1, by omega, rfl, by go_num, by rw [Hsu.out, if_neg (by rw [Hk1.out]; simp), List.append_nil, ← Hss.out]; exact Hout.out, Hbw.out⟩
      · have t1 : (kd != 1) = true := by rw [bne_iff_ne]; exact hk1
        have Hk1 := Lib.hid hk1; clear hk1
        go_wp2_with (at_builtin; refine wpList_append_L rfl (.tmp 17) (.tmp 19) rfl w4.heap.size (.slice ao ss.length co) ss rfl Hout.out k _ rfl rfl (by omega) Hbw.out.size ?_; intro g9 c9 w9 ho9 hb9 hk9 hg9; have Ho9 := Lib.hid ho9; have Hb9 := Lib.hid hb9; clear ho9 hb9 hk9 hg9)
        go_roundg (ls.length - (k + 1))
        case measure => omega
        case rel => exact ⟨k + 1, by omega, rfl, by go_num, by rw [Hsu.out, if_pos Hk1.out, List.map_append, ← Hss.out]; exact Ho9.out, Hbw.out.trans Hb9.out⟩
    · obtain rfl : k = ls.length := by omega
      have Hout := Lib.hid (RowG.less hout Hb4.out.size); have Hbw := Lib.hid (Hb4.out.trans (hbw.mono Hb4.out.size)); have Hss := Lib.hid hss
      clear hout hbw hss hlt
      go_wp2_with fail
      go_ret
      exact ⟨⟨_, rfl, by rw [← Hss.out]; exact Hout.out⟩, Hbw.out⟩
end Go.Proofs.YtheemhelioendaaGreatDoor
