/- Contracts: slices.Equal of clauses; the closures of proof.Eliminate. -/
import Derived.Test.YtdeaficdfooegaaDoorRowsG
import Derived.Test.YtdeaficdfooegaaDoorDpM
import Derived.Test.YtdeaficdfooegaaDoorAllHold
import Derived.BigQuiet
import Derived.Deep.QuietTactic
import Derived.OneCell
namespace Go.Proofs.YtdeaficdfooegaaDoor
open Go.RowKit
set_option linter.unusedVariables false

set_option maxHeartbeats 1000000 in
theorem equalC_any (va vb : Value) (xs ys : List Int) (w : World) (ha : IsInts w va xs) (hb : IsInts w vb ys) :
    Calls Tryd.prog 73 #[va, vb] w fun e w' => e = .returned (.bool (xs == ys)) ∧ Below w.heap.size w w' := by
  obtain ⟨a1, c1, rfl, hl1, hc1, hx1⟩ := ha.shape
  obtain ⟨a2, c2, rfl, hl2, hc2, hx2⟩ := hb.shape
  have Ha := Lib.hid ha; have Hb := Lib.hid hb; clear ha hb
  by_cases hlen : xs.length = ys.length
  · have hq : ((xs.length : Int) != (ys.length : Int)) = false := by simp [hlen]
    have hlq : (xs.length != ys.length) = false := by simp [hlen]
    have Hlen := Lib.hid hlen; clear hlen
    go_enter Tryd.func73, Tryd.ntmps73
    go_wp2_with fail
    go_loopg [13] xs.length (fun gk i wr => ∃ k : Nat, k ≤ xs.length ∧ gk = xs.length - k ∧ i = .int .i64 k ∧ Below w.heap.size w wr ∧ xs.take k = ys.take k)
    case atStart => exact ⟨0, Nat.zero_le _, rfl, rfl, Below.refl _ _, by simp⟩
    case round =>
      obtain ⟨k, hk, rfl, rfl, hbw, he⟩ := hrel
      have He := Lib.hid he; have Hbw := Lib.hid hbw; clear he hbw
      by_cases hlt : k < xs.length
      · have hlt2 : k < ys.length := by rw [← Hlen.out]; exact hlt
        obtain ⟨b1, o1, rfl, lb1⟩ := Ha.out.addr hlt
        obtain ⟨b2, o2, rfl, lb2⟩ := Hb.out.addr hlt2
        have g1 := (Ha.out.below Hbw.out).get hlt
        have g2 := (Hb.out.below Hbw.out).get hlt2
        obtain ⟨x, hx⟩ : ∃ x, x = xs[k] := ⟨_, rfl⟩
        obtain ⟨y, hy⟩ : ∃ y, y = ys[k] := ⟨_, rfl⟩
        rw [← hx] at g1
        rw [← hy] at g2
        have Hx := Lib.hid hx; have Hy := Lib.hid hy; clear hx hy
        have i1 : (k : Int) < (xs.length : Int) := by omega
        have i2 : (k : Int) < (ys.length : Int) := by omega
        by_cases hxy : x = y
        · have e0 : (x != y) = false := by simp [hxy]
          have Hxy := Lib.hid hxy; clear hxy
          go_wp2_with fail
          go_quiet (fail)
          go_wp2_with fail
          go_roundg (xs.length - (k + 1))
          case measure => omega
          case rel => exact ⟨k + 1, by omega, rfl, by go_num, below_drewN Hbw.out _, by rw [List.take_succ_eq_append_getElem hlt, List.take_succ_eq_append_getElem hlt2, He.out, ← Hx.out, ← Hy.out, Hxy.out]⟩
        · have e0 : (x != y) = true := by simpa using hxy
          have Hxy := Lib.hid hxy; clear hxy
          go_wp2_with fail
          go_quiet (fail)
          go_wp2_with fail
          go_ret
          refine ⟨?_, below_drewN Hbw.out _⟩
          have : (xs == ys) = false := by
            rw [beq_eq_false_iff_ne]
            rintro rfl
            exact Hxy.out (Hx.out.trans Hy.out.symm)
          rw [this]; rfl
      · obtain rfl : k = xs.length := by omega
        go_wp2_with fail
        go_ret
        refine ⟨?_, Hbw.out⟩
        have h1 := He.out
        rw [List.take_length, Hlen.out, List.take_length] at h1
        subst h1
        simp
  · have hq : ((xs.length : Int) != (ys.length : Int)) = true := by simp; omega
    have hlq : (xs.length != ys.length) = true := by simpa using hlen
    have he : (xs == ys) = false := by
      rw [beq_eq_false_iff_ne]
      rintro rfl
      exact hlen rfl
    rw [he]
    have Hlen := Lib.hid hlen; clear hlen he
    go_enter Tryd.func73, Tryd.ntmps73
    go_wp2_with fail
    go_ret
    exact ⟨rfl, Below.refl _ _⟩

/-- The closure that compares. -/
theorem same_any (bc : Nat) (vf r : Value) (f d : List Int) (w : World) (hc : w.cell? ⟨bc, 0, none⟩ = some vf) (hf : IsInts w vf f) (hd : IsInts w r d) :
    Calls Tryd.prog 72 #[r, .pointer (some ⟨bc, 0, none⟩)] w fun e w' => e = .returned (.bool (f == d)) ∧ Below w.heap.size w w' := by
  have Hq := Lib.hid (equalC_any vf r f d w hf hd)
  obtain ⟨af, cf, rfl, _⟩ := hf.shape
  generalize (f == d) = bb at Hq ⊢
  clear hf hd
  go_enter Tryd.func72, Tryd.ntmps72
  go_wp2_with fail
  refine Hq.out.mono ?_
  rintro e w1 ⟨rfl, hb⟩
  have Hb := Lib.hid hb; clear hb
  go_wp2_with fail
  go_ret
  exact ⟨rfl, Hb.out⟩

/-- What is kept while clauses are added: all below base but one cell. -/
structure KeepB (base B8 : Nat) (w w' : World) : Prop where
  os : w'.os = w.os
  tape : w'.tape = w.tape
  output : w'.output = w.output
  size : w.heap.size ≤ w'.heap.size
  block : ∀ k, k < base → k ≠ B8 → w'.heap[k]? = w.heap[k]?
theorem KeepB.refl (base B8 : Nat) (w : World) : KeepB base B8 w w := ⟨rfl, rfl, rfl, Nat.le_refl _, fun _ _ _ => rfl⟩
theorem KeepB.trans {base B8 : Nat} {w w1 w2 : World} (h : KeepB base B8 w w1) (h2 : KeepB base B8 w1 w2) : KeepB base B8 w w2 := ⟨h2.os.trans h.os, h2.tape.trans h.tape, h2.output.trans h.output, Nat.le_trans h.size h2.size, fun k h1 hn => (h2.block k h1 hn).trans (h.block k h1 hn)⟩
theorem KeepB.of_below {base B8 B : Nat} {w w1 : World} (h : Below B w w1) (hB : base ≤ B) : KeepB base B8 w w1 := ⟨h.os, h.tape, h.output, h.size, fun k hk _ => h.block k (by omega)⟩
theorem KeepB.set {base B8 : Nat} {w w1 : World} (h : KeepB base B8 w w1) (u : Value) : KeepB base B8 w (w1.setCell ⟨B8, 0, none⟩ u) := ⟨h.os, h.tape, h.output, by simpa using h.size, fun k h1 hn => (Below.heap_setCell _ _ _ _ hn).trans (h.block k h1 hn)⟩
theorem KeepB.below {base B8 B : Nat} {w w1 : World} (h : KeepB base B8 w w1) (h1 : B ≤ base) (h2 : B ≤ B8) : Below B w w1 := ⟨h.os, h.tape, h.output, h.size, fun k hk => h.block k (by omega) (by omega)⟩
/-- A clause lies in no block that holds a slice. -/
theorem ints_ne {w : World} {v : Value} {xs : List Int} (h : IsInts w v xs) (hne : xs ≠ []) {B8 : Nat} {a : Option Addr} {n c : Nat} {T : TypeId} (hB : w.heap[B8]? = some (.cells #[.slice a n c] T (0, 0))) : ∀ b, v.ownBlock = some b → b ≠ B8 := by
  obtain ⟨a1, b, o, c1, rfl, h2, h3, h4, h5, h6, h7⟩ := h
  intro k hk e
  subst e
  rw [h2 hne] at hk
  cases hk
  have hp : 0 < xs.length := List.length_pos_iff.2 hne
  have hc := h5 0 hp
  rw [cell_of_row w _ _ _ _ _ hB] at hc
  rcases Nat.eq_zero_or_pos (o + 0) with e0 | e0
  · rw [e0] at hc; simp at hc
  · rw [Array.getElem?_eq_none (by simp; omega)] at hc; cases hc
theorem RowsG.setB {w : World} {base B8 : Nat} {v : Value} {rs : List Value} {ls : List (List Int)} {a : Option Addr} {n c : Nat} {T : TypeId} (h : RowsG w base v rs ls) (hB : w.heap[B8]? = some (.cells #[.slice a n c] T (0, 0))) (hlt : B8 < base) (u : Value) : RowsG (w.setCell ⟨B8, 0, none⟩ u) base v rs ls := by
  have hb : ∀ k, k ≠ B8 → (w.setCell ⟨B8, 0, none⟩ u).heap[k]? = w.heap[k]? := fun k hk => Below.heap_setCell _ _ _ _ hk
  refine ⟨?_, ⟨h.vals.1, fun i h1 h2 => ints_same (h.vals.2 i h1 h2) (fun hne b e _ => hb b (ints_ne (h.vals.2 i h1 h2) hne hB b e)) (by simp)⟩, h.off⟩
  obtain ⟨g1, g2 | ⟨g, cap, cur, rfl, hg, hh, hr⟩⟩ := h.own
  · exact ⟨g1, .inl g2⟩
  · exact ⟨g1, .inr ⟨g, cap, cur, rfl, hg, (hb g (by omega)).trans hh, hr⟩⟩
/-- Clauses that were there are read while others are added. -/
theorem RowsG.keepB {w w' : World} {base B8 : Nat} {v : Value} {rs : List Value} {ls : List (List Int)} {a : Option Addr} {n c : Nat} (h : RowsG w base v rs ls) (hB : w.heap[B8]? = some (.cells #[.slice a n c] 56 (0, 0))) (hk : KeepB w.heap.size B8 w w') : RowsG w' base v rs ls := by
  refine ⟨?_, ⟨h.vals.1, fun i h1 h2 => ints_same (h.vals.2 i h1 h2) (fun hne b e hlt => hk.block b hlt (ints_ne (h.vals.2 i h1 h2) hne hB b e)) hk.size⟩, h.off⟩
  obtain ⟨g1, g2 | ⟨g, cap, cur, rfl, hg, hh, hr⟩⟩ := h.own
  · exact ⟨g1, .inl g2⟩
  · refine ⟨g1, .inr ⟨g, cap, cur, rfl, hg, (hk.block g (Array.getElem?_eq_some_iff.1 hh).1 (fun e => ?_)).trans hh, hr⟩⟩
    rw [e, hB] at hh
    injection hh with hh
    injection hh with _ h2 _
    exact absurd h2 (by decide)
theorem addL_yes {all : List (List Int)} {c : List Int} (h : alwaysL (formL c) = true) : addL all c = all := by unfold addL; rw [h]; simp
theorem addL_in {all : List (List Int)} {c : List Int} (h : alwaysL (formL c) = false) (h2 : all.any (fun d => formL c == d) = true) : addL all c = all := by
  unfold addL
  have e : (fun d => decide (formL c = d)) = fun d => formL c == d := by funext d; rw [Bool.eq_iff_iff]; simp
  rw [e, h2]; simp
theorem addL_out {all : List (List Int)} {c : List Int} (h : alwaysL (formL c) = false) (h2 : all.any (fun d => formL c == d) = false) : addL all c = all ++ [formL c] := by
  unfold addL
  have e : (fun d => decide (formL c = d)) = fun d => formL c == d := by funext d; rw [Bool.eq_iff_iff]; simp
  rw [e, h2, h]; simp

def AddP (base B8 : Nat) (all : List (List Int)) (w : World) (e : Ending) (w' : World) : Prop :=
  e = .returned (.tuple #[]) ∧ (∃ a n c rs, w'.heap[B8]? = some (.cells #[.slice a n c] 56 (0, 0)) ∧ RowsG w' base (.slice a n c) rs all ∧ ∀ r ∈ rs, ∀ b, r.ownBlock = some b → base ≤ b) ∧ KeepB base B8 w w'
set_option maxRecDepth 100000 in
set_option maxHeartbeats 4000000 in
/-- The closure that adds a clause. -/
theorem add_any {base B8 : Nat} {aa : Option Addr} {na ca : Nat} (vc : Value) (rs : List Value) (all : List (List Int)) (c : List Int) (w : World) (hB : w.heap[B8]? = some (.cells #[.slice aa na ca] 56 (0, 0))) (hlt : B8 < base) (hbase : base ≤ w.heap.size)
    (hrg : RowsG w base (.slice aa na ca) rs all) (hfr : ∀ r ∈ rs, ∀ b, r.ownBlock = some b → base ≤ b) (hc : IsInts w vc c) (hs : ∀ x ∈ c, -1000 ≤ x ∧ x ≤ 1000) (hcl : c.length ≤ 100000) (hl : all.length ≤ 100000) :
    Calls Tryd.prog 71 #[vc, .pointer (some ⟨B8, 0, none⟩)] w (AddP base B8 (addL all c) w) := by
  have hmf : ∀ (fn : Fn) (first cap : Array Value) (w : World), (Instr.makeFunc fn first cap).run Tryd.prog w = .ok (.func fn first cap) w := fun _ _ _ _ => rfl
  obtain ⟨ac, cc, rfl, hc1, hc2, _⟩ := hc.shape
  have hal : Below w.heap.size w (w.alloc (.cells #[.slice ac c.length cc] 54)) := (Below.refl _ _).alloc (Nat.le_refl _) _
  have hfm := form_any _ c _ (hc.below hal) hs hcl
  have hyes := fun h => addL_yes (all := all) (c := c) h
  have hin := fun h h2 => addL_in (all := all) (c := c) h h2
  have hout := fun h h2 => addL_out (all := all) (c := c) h h2
  generalize addL all c = all2 at hyes hin hout ⊢
  have hfl := form_len c
  generalize formL c = f at hfm hyes hin hout hfl
  have Hfm := Lib.hid hfm; have Hal := Lib.hid hal; have Hyes := Lib.hid hyes; have Hin := Lib.hid hin; have Hout := Lib.hid hout; have Hrg := Lib.hid hrg; have HB := Lib.hid hB; have Hfr := Lib.hid hfr
  have hvl := Lib.hid hrg.own.lt
  clear hfm hal hyes hin hout hrg hB hc hs hfr
  go_enter Tryd.func71, Tryd.ntmps71
  go_wp2_with fail
  refine Hfm.out.mono ?_
  rintro e w2 ⟨v2, rfl, hi2, hb2, hf2⟩
  have hblk : w2.heap[w.heap.size]? = some (.cells #[.slice ac c.length cc] 54 (0, 0)) := (hb2.block _ (by simp)).trans (heap_at rfl)
  have q1 := cell_of_one hblk; have q2 := free_of_one hblk; have q3 := lt_of_block hblk
  have hbw := Hal.out.trans (hb2.mono Hal.out.size)
  obtain ⟨a2, c2, rfl⟩ : ∃ a2 c2, v2 = .slice a2 (if alwaysL f then ([] : List Int) else f).length c2 := by obtain ⟨a, c', h, _⟩ := hi2.shape; exact ⟨a, c', h⟩
  have Hi2 := Lib.hid hi2; have Hf2 := Lib.hid (hf2.mono (show w.heap.size ≤ _ from Hal.out.size)); have Hbw := Lib.hid hbw; have Hblk := Lib.hid hblk
  clear hi2 hb2 hf2 hbw hblk Hfm Hal
  have HB2 := Lib.hid ((Hbw.out.block _ (by omega : B8 < w.heap.size)).trans HB.out)
  have p1 := cell_of_one HB2.out; have p2 := free_of_one HB2.out; have p3 := lt_of_block HB2.out
  have hb3 : Below w.heap.size w (w2.setCell ⟨w.heap.size, 0, none⟩ (.slice a2 (if alwaysL f then ([] : List Int) else f).length c2)) := Hbw.out.setCell (Nat.le_refl _) _
  have Hb3 := Lib.hid hb3
  clear hb3
  cases hfa : alwaysL f with
  | true =>
    rw [hfa] at Hi2 Hf2 Hb3
    have Hfa := Lib.hid hfa
    go_wp2_with fail
    go_end0
    refine ⟨rfl, ⟨_, _, _, rs, (Hb3.out.block _ (by omega)).trans HB.out, ?_, Hfr.out⟩, KeepB.of_below Hb3.out hbase⟩
    rw [Hyes.out Hfa.out]
    exact Hrg.out.below Hb3.out
  | false =>
    rw [hfa] at Hi2 Hf2 Hb3
    simp only [Bool.false_eq_true, if_false] at Hi2 Hf2 Hb3 ⊢
    have Hfa := Lib.hid hfa
    clear hfa
    have Hi3 := Lib.hid (ints_same (w' := w2.setCell ⟨w.heap.size, 0, none⟩ (.slice a2 f.length c2)) Hi2.out (fun hne b e _ => Below.heap_setCell _ _ _ _ (ints_ne Hi2.out hne Hblk.out b e)) (by simp))
    have Hc3 := Lib.hid (one_setCell (u := .slice a2 f.length c2) Hblk.out)
    have Hfv := Lib.hid Hf2.out
    have Hoff := Lib.hid (show ∀ b, (Value.slice a2 f.length c2).ownBlock = some b → (Value.slice aa na ca).ownBlock ≠ some b from fun b hb e => by
      have q1 := Hf2.out b hb
      have q2 := (hvl.out b e).2
      omega)
    go_wp2_with fail
    clear Hi2 Hf2 q1 q2 q3 p1 p2 p3 Hblk HB2
    generalize w2.setCell ⟨w.heap.size, 0, none⟩ (.slice a2 f.length c2) = w3 at Hb3 Hi3 Hc3 ⊢
    have hlt3 : w.heap.size < w3.heap.size := lt_of_block Hc3.out
    refine (containsFuncR_any 72 (.pointer (some ⟨w.heap.size, 0, none⟩)) (fun d => f == d) (.slice aa na ca) all w3 ((Hrg.out.below Hb3.out).rows (by omega)) (by intro a w; go_simp)
      (fun x hx w2 h4 r hr => same_any w.heap.size (.slice a2 f.length c2) r f x w2 ((h4.cell hlt3).trans (cell_of_one Hc3.out)) (Hi3.out.below h4) hr)).mono ?_
    rintro e w4 ⟨rfl, hb4⟩
    have Hb4 := Lib.hid (Hb3.out.trans (hb4.mono Hb3.out.size))
    have HB4 := Lib.hid ((Hb4.out.block _ (by omega : B8 < w.heap.size)).trans HB.out)
    have p1 := cell_of_one HB4.out; have p2 := free_of_one HB4.out; have p3 := lt_of_block HB4.out
    have HC4 := Lib.hid ((hb4.block _ hlt3).trans Hc3.out)
    have q1 := cell_of_one HC4.out; have q2 := free_of_one HC4.out; have q3 := lt_of_block HC4.out
    have Hi4 := Lib.hid (Hi3.out.below hb4)
    have HG4 := Lib.hid (Hrg.out.below Hb4.out)
    have hs4 := Hb4.out.size
    clear hb4 Hi3 Hc3 Hb3
    cases han : all.any (fun d => f == d) with
    | true =>
      have Han := Lib.hid han
      clear han
      go_wp2_with fail
      go_end0
      refine ⟨rfl, ⟨_, _, _, rs, HB4.out, ?_, Hfr.out⟩, KeepB.of_below Hb4.out hbase⟩
      rw [Hin.out Hfa.out Han.out]
      exact HG4.out
    | false =>
      have Han := Lib.hid han
      clear han
      go_wp2_with (at_builtin; refine wpList_append_row rfl (.tmp 17) (.tmp 19) rfl base _ rs all rfl HG4.out _ f Hi4.out (fun _ => Hoff.out) _ rfl rfl (by omega) (by omega) ?_; intro v5 w5 hg5 hb5; have HG5 := Lib.hid hg5; have HB5 := Lib.hid ((hb5.block _ hlt).trans HB4.out); have Hb5 := Lib.hid hb5; obtain ⟨a5, c5, rfl⟩ := owns_shape hg5.own; have z1 := cell_of_one HB5.out; have z2 := free_of_one HB5.out; have z3 := lt_of_block HB5.out; clear hg5 hb5)
      go_end0
      refine ⟨rfl, ⟨_, _, _, rs ++ [.slice a2 f.length c2], one_setCell HB5.out, ?_, fun r hr => by
        rcases List.mem_append.1 hr with h | h
        · exact Hfr.out r h
        · rw [List.mem_singleton.1 h]; exact fun b hb => Nat.le_trans hbase (Hfv.out b hb)⟩, ((KeepB.of_below Hb4.out hbase).trans (KeepB.of_below Hb5.out (Nat.le_refl _))).set _⟩
      rw [Hout.out Hfa.out Han.out]
      have h := HG5.out.setB HB5.out hlt (.slice a5 (all.length + 1) c5)
      rw [show (all ++ [f]).length = all.length + 1 from by simp] at h
      exact h
end Go.Proofs.YtdeaficdfooegaaDoor
