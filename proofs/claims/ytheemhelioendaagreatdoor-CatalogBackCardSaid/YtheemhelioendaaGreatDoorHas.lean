/- Contracts: Version.number; the closure of Range.Has; slices.IndexFunc, ContainsFunc with it; Range.Has. -/
import Derived.Test.YtheemhelioendaaGreatDoorSame
namespace Go.Proofs.YtheemhelioendaaGreatDoor
open Go.RowKit
set_option linter.unusedVariables false

def numV (a b c : Int) : Int := (a * 1000 + b) * 1000 + c
set_option maxHeartbeats 1000000 in
theorem number_any (a b c : Int) (w : World) (ha : 0 ≤ a ∧ a ≤ 1000) (hb : 0 ≤ b ∧ b ≤ 1000) (hc : 0 ≤ c ∧ c ≤ 1000) : Calls Tryz.prog 75 #[.agg #[.int .i64 a, .int .i64 b, .int .i64 c]] w fun e w' => e = .returned (.int .i64 (numV a b c)) ∧ Below w.heap.size w w' := by
  have hal : Below w.heap.size w (w.alloc (.cells #[.int .i64 a, .int .i64 b, .int .i64 c] 46)) := (Below.refl _ _).alloc (Nat.le_refl _) _
  have Hal := Lib.hid hal; clear hal
  obtain ⟨a1, a2⟩ := ha; obtain ⟨b1, b2⟩ := hb; obtain ⟨c1, c2⟩ := hc
  go_enter Tryz.func75, Tryz.ntmps75
  go_wp2_with fail
  go_ret
  exact ⟨rfl, Hal.out⟩

def inB (n : Int) (s : Spn) : Bool := decide (s.1 ≤ n) && decide (n < s.2)
theorem inB_iff {n : Int} {s : Spn} : inB n s = true ↔ inS n s := by unfold inB inS; simp
set_option maxHeartbeats 1000000 in
theorem has1_any (a b n : Int) (q : Nat) (w : World) (hq : w.cell? ⟨q, 0, none⟩ = some (.int .i64 n)) : Calls Tryz.prog 77 #[.agg #[.int .i64 a, .int .i64 b], .pointer (some ⟨q, 0, none⟩)] w fun e w' => e = .returned (.bool (inB n (a, b))) ∧ Below w.heap.size w w' := by
  have hb : Below w.heap.size w (w.alloc (.cells #[.int .i64 a, .int .i64 b] 115)) := (Below.refl _ _).alloc (Nat.le_refl _) _
  have hqb := World.block_lt_of_cell? _ _ hq
  have hq2 := (hb.cell hqb).trans hq
  have Hb := Lib.hid hb; clear hb
  by_cases h : a ≤ n
  · have e : inB n (a, b) = decide (n < b) := by unfold inB; simp [h]
    have h2 : decide (a ≤ n) = true := by simpa using h
    rw [e]
    clear e h
    go_enter Tryz.func77, Tryz.ntmps77
    go_wp2_with fail
    go_ret
    exact ⟨rfl, Hb.out⟩
  · have e : inB n (a, b) = false := by unfold inB; simp [h]
    have h2 : decide (a ≤ n) = false := by simpa using h
    rw [e]
    clear e h
    go_enter Tryz.func77, Tryz.ntmps77
    go_wp2_with fail
    go_ret
    exact ⟨rfl, Hb.out⟩
set_option maxRecDepth 100000 in
set_option maxHeartbeats 4000000 in
theorem indexN_any (v : Value) (l : List Spn) (n : Int) (q : Nat) (w : World) (h : IsSp w v l) (hq : w.cell? ⟨q, 0, none⟩ = some (.int .i64 n)) :
    Calls Tryz.prog 96 #[v, .func (.func 77) #[] #[.pointer (some ⟨q, 0, none⟩)]] w fun e w' =>
      (∃ r : Int, e = .returned (.int .i64 r) ∧ decide (0 ≤ r) = l.any (inB n)) ∧ Below w.heap.size w w' := by
  obtain ⟨a1, c1, rfl, hl1, hc1⟩ := h.shape
  have hm1 : l.length ≤ 9223372036854775807 := Nat.le_trans hl1 hc1
  have hqb := World.block_lt_of_cell? _ _ hq
  have H := Lib.hid h; have Hq := Lib.hid hq; clear h hq
  go_enter Tryz.func96, Tryz.ntmps96
  go_wp2_with fail
  go_loopg [8] l.length (fun gk i wr => ∃ k : Nat, k ≤ l.length ∧ gk = l.length - k ∧ i = .int .i64 k ∧ Below w.heap.size w wr ∧ (l.take k).any (inB n) = false)
  case atStart => exact ⟨0, Nat.zero_le _, rfl, rfl, Below.refl _ _, rfl⟩
  case round =>
    obtain ⟨k, hk, rfl, rfl, hb, hno⟩ := hrel
    by_cases hlt : k < l.length
    · obtain ⟨g, rfl, hgl, e1, e2⟩ := (H.out.below hb).get hlt
      have hp := has1_any l[k].1 l[k].2 n q wr ((hb.cell hqb).trans Hq.out)
      have htk : l.take (k + 1) = l.take k ++ [l[k]] := List.take_succ_eq_append_getElem hlt
      have hmem := List.getElem_mem hlt
      generalize l[k] = s at e1 e2 hp htk hmem
      have Hp := Lib.hid hp; have Htk := Lib.hid htk; have Hmem := Lib.hid hmem; have Hb := Lib.hid hb; have Hno := Lib.hid hno
      clear hp htk hmem hb hno
      go_wp2_with fail
      refine Hp.out.mono ?_
      rintro e w9 ⟨rfl, hb9⟩
      have Hb9 := Lib.hid (Hb.out.trans (hb9.mono Hb.out.size))
      clear hb9 Hp
      cases hps : inB n (s.1, s.2) with
      | true =>
        have Hps := Lib.hid hps; clear hps
        go_wp2_with fail
        go_ret
        refine ⟨⟨_, rfl, ?_⟩, Hb9.out⟩
        rw [List.any_eq_true.2 ⟨s, Hmem.out, Hps.out⟩]
        simp
      | false =>
        have Hps := Lib.hid hps; clear hps
        go_wp2_with fail
        go_roundg (l.length - (k + 1))
        case measure => omega
        case rel => exact ⟨k + 1, by omega, rfl, by go_num, Hb9.out, by rw [Htk.out, List.any_append, Hno.out]; simp; exact Hps.out⟩
    · obtain rfl : k = l.length := by omega
      rw [List.take_length] at hno
      have Hb := Lib.hid hb; have Hno := Lib.hid hno
      clear hb hno
      go_wp2_with fail
      go_ret
      exact ⟨⟨_, rfl, by rw [Hno.out]; rfl⟩, Hb.out⟩
theorem containsN_any (v : Value) (l : List Spn) (n : Int) (q : Nat) (w : World) (h : IsSp w v l) (hq : w.cell? ⟨q, 0, none⟩ = some (.int .i64 n)) :
    Calls Tryz.prog 76 #[v, .func (.func 77) #[] #[.pointer (some ⟨q, 0, none⟩)]] w fun e w' => e = .returned (.bool (l.any (inB n))) ∧ Below w.heap.size w w' := by
  have hi := indexN_any v l n q w h hq
  obtain ⟨a1, c1, rfl, _, _⟩ := h.shape
  generalize l.any (inB n) = res at hi ⊢
  have Hi := Lib.hid hi; clear hi h hq
  go_enter Tryz.func76, Tryz.ntmps76
  go_wp2_with fail
  refine Hi.out.mono ?_
  rintro e w1 ⟨⟨r, rfl, hr⟩, hb⟩
  have Hb := Lib.hid hb; have Hr := Lib.hid hr; clear hb hr
  go_wp2_with fail
  go_ret
  refine ⟨?_, Hb.out⟩
  rw [← Hr.out]; rfl

def inP (x : Int) : Bool := decide (0 ≤ x) && decide (x ≤ 999)
theorem inP_neg {x : Int} (h : x < 0) : inP x = false := by unfold inP; rw [decide_eq_false (by omega)]; rfl
theorem inP_big {x : Int} (h : 999 < x) : inP x = false := by unfold inP; rw [decide_eq_false (p := x ≤ 999) (by omega)]; simp
theorem inP_ok {x : Int} (h : ¬ x < 0) (h2 : ¬ 999 < x) : inP x = true := by unfold inP; rw [decide_eq_true (p := 0 ≤ x) (by omega), decide_eq_true (p := x ≤ 999) (by omega)]; rfl
theorem inP_of {x : Int} (h : inP x = true) : 0 ≤ x ∧ x ≤ 1000 := by unfold inP at h; simp at h; omega
def hasV (l : List Spn) (a b c : Int) : Bool := inP a && inP b && inP c && l.any (inB (numV a b c))
set_option maxRecDepth 100000 in
set_option maxHeartbeats 8000000 in
theorem has_any (v : Value) (l : List Spn) (a b c : Int) (w : World) (h : IsSp w v l) :
    Calls Tryz.prog 45 #[.agg #[v], .agg #[.int .i64 a, .int .i64 b, .int .i64 c]] w fun e w' => e = .returned (.bool (hasV l a b c)) ∧ Below w.heap.size w w' := by
  obtain ⟨a1, c1, rfl, _, _⟩ := h.shape
  obtain ⟨W, hW⟩ : ∃ W, W = ((w.alloc (.cells #[.slice a1 l.length c1] 49)).alloc (.cells #[.int .i64 a, .int .i64 b, .int .i64 c] 46)) := ⟨_, rfl⟩
  have hbW : Below w.heap.size w W := by rw [hW]; exact ((Below.refl _ _).alloc (Nat.le_refl _) _).alloc (by simp) _
  have hb1 : W.heap[w.heap.size]? = some (.cells #[.slice a1 l.length c1] 49 (0, 0)) := by rw [hW]; exact heap_up (heap_at rfl)
  have hb2 : W.heap[w.heap.size + 1]? = some (.cells #[.int .i64 a, .int .i64 b, .int .i64 c] 46 (0, 0)) := by rw [hW]; exact heap_at (by simp)
  have hspW := h.below hbW
  have Hsp := Lib.hid hspW; have HbW := Lib.hid hbW; have Hb1 := Lib.hid hb1; have Hb2 := Lib.hid hb2
  generalize hres : hasV l a b c = res
  have Hres := Lib.hid hres
  clear hspW hbW hb1 hb2 h hres
  go_enter Tryz.func45, Tryz.ntmps45
  go_upto_region 1 with fail
  rw [← hW]
  clear hW
  have e0 : W.cell? ⟨w.heap.size + 1, 0, none⟩ = some (.int .i64 a) := by rw [cell_of_row _ _ _ _ _ _ Hb2.out]; rfl
  have e1 : W.cell? ⟨w.heap.size + 1, 1, none⟩ = some (.int .i64 b) := by rw [cell_of_row _ _ _ _ _ _ Hb2.out]; rfl
  have e2 : W.cell? ⟨w.heap.size + 1, 2, none⟩ = some (.int .i64 c) := by rw [cell_of_row _ _ _ _ _ _ Hb2.out]; rfl
  have e3 := cell_of_one Hb1.out
  have x0 : ∀ W : World, (Instr.index 46 (.agg #[.int .i64 a, .int .i64 b, .int .i64 c]) (.int .i64 0)).run Tryz.prog W = .ok (.int .i64 a) W := fun _ => by kernel_rfl
  have x1 : ∀ W : World, (Instr.index 46 (.agg #[.int .i64 a, .int .i64 b, .int .i64 c]) (.int .i64 1)).run Tryz.prog W = .ok (.int .i64 b) W := fun _ => by kernel_rfl
  have x2 : ∀ W : World, (Instr.index 46 (.agg #[.int .i64 a, .int .i64 b, .int .i64 c]) (.int .i64 2)).run Tryz.prog W = .ok (.int .i64 c) W := fun _ => by kernel_rfl
  go_wp2_with fail
  go_loopg [9] 3 (fun gk i wr => ∃ k : Nat, k ≤ 3 ∧ gk = 3 - k ∧ i = .int .i64 k ∧ W = wr ∧ (0 < k → inP a = true) ∧ (1 < k → inP b = true) ∧ (2 < k → inP c = true))
  case atStart => exact ⟨0, by omega, rfl, rfl, rfl, fun h => by omega, fun h => by omega, fun h => by omega⟩
  case round =>
    obtain ⟨k, hk, rfl, rfl, rfl, ia, ib, ic⟩ := hrel
    have Ia := Lib.hid ia; have Ib := Lib.hid ib; have Ic := Lib.hid ic
    clear ia ib ic
    obtain rfl | rfl | rfl | rfl : k = 0 ∨ k = 1 ∨ k = 2 ∨ k = 3 := by omega
    · by_cases y1 : a < 0
      · have d1 : decide (a < 0) = true := by simpa using y1
        have hr : res = false := by rw [← Hres.out]; unfold hasV; rw [inP_neg y1]; simp
        subst hr
        clear y1
        go_wp2_with fail
        go_ret
        exact ⟨rfl, HbW.out⟩
      · have d1 : decide (a < 0) = false := by simpa using y1
        have Hx1 := Lib.hid y1
        by_cases y2 : 999 < a
        · have d2 : decide (999 < a) = true := by simpa using y2
          have hr : res = false := by rw [← Hres.out]; unfold hasV; rw [inP_big y2]; simp
          subst hr
          clear y1 y2
          go_wp2_with fail
          go_ret
          exact ⟨rfl, HbW.out⟩
        · have d2 : decide (999 < a) = false := by simpa using y2
          have Hx2 := Lib.hid y2
          clear y1 y2
          go_wp2_with fail
          go_roundg 2
          case measure => omega
          case rel => exact ⟨1, by omega, rfl, rfl, rfl, fun _ => inP_ok (by have := Hx1.out; omega) (by have := Hx2.out; omega), fun h => by omega, fun h => by omega⟩
    · by_cases y1 : b < 0
      · have d1 : decide (b < 0) = true := by simpa using y1
        have hr : res = false := by rw [← Hres.out]; unfold hasV; rw [inP_neg y1]; simp
        subst hr
        clear y1
        go_wp2_with fail
        go_ret
        exact ⟨rfl, HbW.out⟩
      · have d1 : decide (b < 0) = false := by simpa using y1
        have Hx1 := Lib.hid y1
        by_cases y2 : 999 < b
        · have d2 : decide (999 < b) = true := by simpa using y2
          have hr : res = false := by rw [← Hres.out]; unfold hasV; rw [inP_big y2]; simp
          subst hr
          clear y1 y2
          go_wp2_with fail
          go_ret
          exact ⟨rfl, HbW.out⟩
        · have d2 : decide (999 < b) = false := by simpa using y2
          have Hx2 := Lib.hid y2
          clear y1 y2
          go_wp2_with fail
          go_roundg 1
          case measure => omega
          case rel => exact ⟨2, by omega, rfl, rfl, rfl, fun _ => Ia.out (by omega), fun _ => inP_ok (by have := Hx1.out; omega) (by have := Hx2.out; omega), fun h => by omega⟩
    · by_cases y1 : c < 0
      · have d1 : decide (c < 0) = true := by simpa using y1
        have hr : res = false := by rw [← Hres.out]; unfold hasV; rw [inP_neg y1]; simp
        subst hr
        clear y1
        go_wp2_with fail
        go_ret
        exact ⟨rfl, HbW.out⟩
      · have d1 : decide (c < 0) = false := by simpa using y1
        have Hx1 := Lib.hid y1
        by_cases y2 : 999 < c
        · have d2 : decide (999 < c) = true := by simpa using y2
          have hr : res = false := by rw [← Hres.out]; unfold hasV; rw [inP_big y2]; simp
          subst hr
          clear y1 y2
          go_wp2_with fail
          go_ret
          exact ⟨rfl, HbW.out⟩
        · have d2 : decide (999 < c) = false := by simpa using y2
          have Hx2 := Lib.hid y2
          clear y1 y2
          go_wp2_with fail
          go_roundg 0
          case measure => omega
          case rel => exact ⟨3, by omega, rfl, rfl, rfl, fun _ => Ia.out (by omega), fun _ => Ib.out (by omega), fun _ => inP_ok (by have := Hx1.out; omega) (by have := Hx2.out; omega)⟩
    · have pa := Ia.out (by omega); have pb := Ib.out (by omega); have pc := Ic.out (by omega)
      have hr : res = l.any (inB (numV a b c)) := by rw [← Hres.out]; unfold hasV; rw [pa, pb, pc]; simp
      have hnum := number_any a b c W (inP_of pa) (inP_of pb) (inP_of pc)
      have Hnum := Lib.hid hnum; have Hr := Lib.hid hr
      clear pa pb pc hnum hr
      generalize numV a b c = N at Hnum Hr
      go_wp2_with fail
      refine Hnum.out.mono ?_
      rintro e w1 ⟨rfl, hb1⟩
      have hal : Below w1.heap.size w1 (w1.alloc (.cells #[.int .i64 N] 3)) := (Below.refl _ _).alloc (Nat.le_refl _) _
      have hcn := containsN_any _ l N w1.heap.size _ ((Hsp.out.below hb1).below hal) (cell_of_one (heap_at (w := w1) (o := .cells #[.int .i64 N] 3) rfl))
      have q3 := (hb1.cell (World.block_lt_of_cell? _ _ e3)).trans e3
      have Hcn := Lib.hid hcn; have Hw1 := Lib.hid (HbW.out.trans (hb1.mono HbW.out.size)); have Hal := Lib.hid hal
      have q4 := World.block_lt_of_cell? _ _ q3
      clear hcn hal hb1 Hnum
      go_wp2_with fail
      refine Hcn.out.mono ?_
      rintro e w2 ⟨rfl, hb2⟩
      have Hb2' := Lib.hid ((Hw1.out.alloc Hw1.out.size _).trans (hb2.mono (Nat.le_trans Hw1.out.size Hal.out.size)))
      clear hb2 Hcn
      rw [← Hr.out]
      go_wp2_with fail
      go_ret
      exact ⟨rfl, Hb2'.out⟩
end Go.Proofs.YtheemhelioendaaGreatDoor
