/- Contracts: the search's state: clause.state. -/
import Derived.Test.YtheemhelioendaaGreatDoorRup
import Derived.Test.YtheemhelioendaaGreatDoorPkL
import Derived.Test.YtheemhelioendaaGreatDoorAppend
namespace Go.Proofs.YtheemhelioendaaGreatDoor
open Go.RowKit
set_option linter.unusedVariables false

/-- Block p is a state: values as f tells them, the trail tr behind v. -/
structure StateAt (w : World) (p : Nat) (f : Int → Int) (tr : List Int) (v : Value) : Prop where
  blk : ∃ cur : Array Value, w.heap[p]? = some (.cells cur 128 (0, 0)) ∧ cur.size = 25 ∧ (∀ i : Nat, i < 24 → cur[i]? = some (.int .i64 (f ((i : Int) + 1)))) ∧ cur[24]? = some v
  own : w.ownsRow 0 3 1 v tr.length (tr.map (Value.int .i64))
  apart : v.ownBlock ≠ some p

theorem StateAt.cell {w : World} {p : Nat} {f : Int → Int} {tr : List Int} {v : Value} (h : StateAt w p f tr v) {k : Int} (h1 : 1 ≤ k) (h2 : k ≤ 24) : w.cell? ⟨p, k.toNat - 1, none⟩ = some (.int .i64 (f k)) := by
  obtain ⟨cur, h3, h4, h5, h6⟩ := h.blk
  rw [cell_of_row w p _ cur _ (0, 0) h3, h5 _ (by omega)]
  rw [show ((k.toNat - 1 : Nat) : Int) + 1 = k by omega]
theorem StateAt.trail {w : World} {p : Nat} {f : Int → Int} {tr : List Int} {v : Value} (h : StateAt w p f tr v) : w.cell? ⟨p, 24, none⟩ = some v := by
  obtain ⟨cur, h3, h4, h5, h6⟩ := h.blk
  rw [cell_of_row w p _ cur _ (0, 0) h3, h6]
theorem StateAt.free {w : World} {p : Nat} {f : Int → Int} {tr : List Int} {v : Value} (h : StateAt w p f tr v) (i : Nat) : w.frozen? ⟨p, i, none⟩ = false := by
  obtain ⟨cur, h3, _⟩ := h.blk
  simp [World.frozen?, h3]
theorem StateAt.lt {w : World} {p : Nat} {f : Int → Int} {tr : List Int} {v : Value} (h : StateAt w p f tr v) : p < w.heap.size := by
  obtain ⟨cur, h3, _⟩ := h.blk
  exact (Array.getElem?_eq_some_iff.1 h3).1

/-- Only block p, and the row ov, may have turned; blocks may have come. -/
structure Mod (p : Nat) (ov : Option Nat) (w w' : World) : Prop where
  os : w'.os = w.os
  tape : w'.tape = w.tape
  output : w'.output = w.output
  size : w.heap.size ≤ w'.heap.size
  block : ∀ k, k < w.heap.size → k ≠ p → some k ≠ ov → w'.heap[k]? = w.heap[k]?
theorem Mod.refl (p : Nat) (ov : Option Nat) (w : World) : Mod p ov w w := ⟨rfl, rfl, rfl, Nat.le_refl _, fun _ _ _ _ => rfl⟩
theorem Mod.trans {p : Nat} {ov ov' : Option Nat} {a b c : World} (h : Mod p ov a b) (k : Mod p ov' b c) (ho : ov' = ov ∨ ∃ g, ov' = some g ∧ a.heap.size ≤ g) : Mod p ov a c :=
  ⟨k.os.trans h.os, k.tape.trans h.tape, k.output.trans h.output, Nat.le_trans h.size k.size, fun i h1 h2 h3 => (k.block i (Nat.lt_of_lt_of_le h1 h.size) h2 (by
    rcases ho with rfl | ⟨g, rfl, hg⟩
    · exact h3
    · intro e; cases e; omega)).trans (h.block i h1 h2 h3)⟩
theorem Mod.of_below {p : Nat} {ov : Option Nat} {w w' : World} (h : Below w.heap.size w w') : Mod p ov w w' := ⟨h.os, h.tape, h.output, h.size, fun k h1 _ _ => h.block k h1⟩
theorem Mod.below {p B : Nat} {ov : Option Nat} {w w' : World} (h : Mod p ov w w') (hp : B ≤ p) (ho : ∀ g, ov = some g → B ≤ g) (hB : B ≤ w.heap.size) : Below B w w' :=
  ⟨h.os, h.tape, h.output, h.size, fun k hk => h.block k (by omega) (by omega) (fun e => by have := ho k e.symm; omega)⟩

set_option maxHeartbeats 1000000 in
theorem is_any (x : Int) (p : Nat) (f : Int → Int) (tr : List Int) (v : Value) (w : World) (hs : StateAt w p f tr v) (hx : x ≠ 0) (h1 : -24 ≤ x) (h2 : x ≤ 24) (ht : Tri f) :
    Calls Tryz.prog 113 #[.pointer (some ⟨p, 0, none⟩), .int .i64 x] w fun e w' => e = .returned (.int .i64 (lv f x)) ∧ w = w' := by
  by_cases hneg : x < 0
  · have hc := hs.cell (k := -x) (by omega) (by omega)
    have h3 : 1 ≤ -x := by omega
    obtain ⟨h4, h5⟩ := ht (-x)
    have e : lv f x = - f (-x) := by rw [lv, if_pos hneg, vr_neg hneg]
    rw [e]
    clear hs ht e
    go_enter Tryz.func113, Tryz.ntmps113
    go_wp2
    go_ret
    exact ⟨rfl, rfl⟩
  · have hc := hs.cell (k := x) (by omega) (by omega)
    have h3 : 1 ≤ x := by omega
    have e : lv f x = f x := by rw [lv, if_neg hneg, vr_pos h3]
    rw [e]
    clear hs ht e
    go_enter Tryz.func113, Tryz.ntmps113
    go_wp2
    go_ret
    exact ⟨rfl, rfl⟩

theorem setCell_block {w : World} {p : Nat} {cur : Array Value} {e : TypeId} {fz : Nat × Nat} (h : w.heap[p]? = some (.cells cur e fz)) (i : Nat) (u : Value) : (w.setCell ⟨p, i, none⟩ u).heap[p]? = some (.cells (cur.setIfInBounds i u) e fz) := by
  simp only [World.setCell]
  rw [Array.getElem?_modify, if_pos rfl, h]
  rfl

/-- What a store into a state's block leaves. -/
theorem StateAt.store {w : World} {p : Nat} {f : Int → Int} {tr : List Int} {v : Value} (h : StateAt w p f tr v) {k n : Int} (h1 : 1 ≤ k) (h2 : k ≤ 24) : StateAt (w.setCell ⟨p, k.toNat - 1, none⟩ (.int .i64 n)) p (upd f k n) tr v := by
  obtain ⟨cur, h3, h4, h5, h6⟩ := h.blk
  refine ⟨⟨cur.setIfInBounds (k.toNat - 1) (.int .i64 n), ?_, by simp [h4], fun i hi => ?_, ?_⟩, ?_, h.apart⟩
  · exact setCell_block h3 _ _
  · rw [Array.getElem?_setIfInBounds]
    unfold upd
    by_cases e : k.toNat - 1 = i
    · rw [if_pos e, if_pos (by omega), if_pos (by omega)]
    · rw [if_neg e, if_neg (by omega), h5 i hi]
  · rw [Array.getElem?_setIfInBounds, if_neg (by omega), h6]
  · refine ⟨h.own.1, ?_⟩
    rcases h.own.2 with hn | ⟨g, cap, cur', hv, hg, hh, r⟩
    · exact .inl hn
    · refine .inr ⟨g, cap, cur', hv, hg, ?_, r⟩
      rw [Below.heap_setCell _ _ _ _ (by intro e; have := h.apart; rw [hv] at this; exact this (by simp [Value.ownBlock]; exact e))]
      exact hh
theorem Mod.store {w : World} {p : Nat} {ov : Option Nat} {i : Nat} {u : Value} : Mod p ov w (w.setCell ⟨p, i, none⟩ u) :=
  ⟨rfl, rfl, rfl, by simp [World.setCell], fun k hk h1 _ => Below.heap_setCell _ _ _ _ h1⟩
/-- The trail takes another slice. -/
theorem StateAt.storeTrail {w w1 : World} {p : Nat} {f : Int → Int} {tr tr' : List Int} {v v' : Value} (h : StateAt w p f tr v) (hp : w1.heap[p]? = w.heap[p]?) (ho : w1.ownsRow 0 3 1 v' tr'.length (tr'.map (Value.int .i64))) (ha : v'.ownBlock ≠ some p) :
    StateAt (w1.setCell ⟨p, 24, none⟩ v') p f tr' v' := by
  obtain ⟨cur, h3, h4, h5, h6⟩ := h.blk
  refine ⟨⟨cur.setIfInBounds 24 v', ?_, by simp [h4], fun i hi => ?_, ?_⟩, ?_, ha⟩
  · exact setCell_block (hp.trans h3) _ _
  · rw [Array.getElem?_setIfInBounds, if_neg (by omega), h5 i hi]
  · rw [Array.getElem?_setIfInBounds, if_pos rfl, if_pos (by omega)]
  · refine ⟨ho.1, ?_⟩
    rcases ho.2 with hn | ⟨g, cap, cur', hv, hg, hh, r⟩
    · exact .inl hn
    · refine .inr ⟨g, cap, cur', hv, hg, ?_, r⟩
      rw [Below.heap_setCell _ _ _ _ (by intro e; rw [hv] at ha; exact ha (by simp [Value.ownBlock]; exact e))]
      exact hh

theorem infoInt : (Tryz.prog.info? 3).map (fun i => (i.zero, i.size, i.bytes)) = some (some (.int .i64 0), 1, 8) := by kernel_rfl

/-- Where a slice lies behind what was done: where it lay, or in a new block. -/
def Next (w : World) (v v' : Value) : Prop := v'.ownBlock = v.ownBlock ∨ ∃ g, v'.ownBlock = some g ∧ w.heap.size ≤ g

theorem set_fin {w : World} {p : Nat} {f : Int → Int} {tr : List Int} {v : Value} (hs : StateAt w p f tr v) (x k n : Int) (hk1 : 1 ≤ k) (hk2 : k ≤ 24) (v3 : Value) (w3 : World)
    (hown : w3.ownsRow 0 3 1 v3 (tr.length + 1) (tr.map (Value.int .i64) ++ [.int .i64 x])) (hgrow : ((w.setCell ⟨p, k.toNat - 1, none⟩ (.int .i64 n)).alloc (.cells #[.int .i64 x] 3)).grownBy w3 v.ownBlock)
    (hor : v3.ownBlock = v.ownBlock ∨ v3.ownBlock = some ((w.setCell ⟨p, k.toNat - 1, none⟩ (.int .i64 n)).alloc (.cells #[.int .i64 x] 3)).heap.size) :
    w3.cell? ⟨p, 24, none⟩ = some v ∧ w3.frozen? ⟨p, 24, none⟩ = false ∧
    (∃ v', StateAt (w3.setCell ⟨p, 24, none⟩ v3) p (upd f k n) (tr ++ [x]) v' ∧ Next w v v') ∧ Mod p v.ownBlock w (w3.setCell ⟨p, 24, none⟩ v3) := by
  have hs2 := hs.store (n := n) hk1 hk2
  have hlt := hs.lt
  have hb : w3.heap[p]? = (w.setCell ⟨p, k.toNat - 1, none⟩ (.int .i64 n)).heap[p]? := by
    rw [hgrow.block p (by simp only [alloc_size]; have := hs2.lt; omega) (fun e => hs.apart e.symm), alloc_get, if_neg (by have := hs2.lt; omega)]
  have hsz : (w.setCell ⟨p, k.toNat - 1, none⟩ (.int .i64 n)).heap.size = w.heap.size := by simp [World.setCell]
  rw [alloc_size, hsz] at hor
  have hap : v3.ownBlock ≠ some p := by
    rcases hor with e | e
    · rw [e]; exact hs.apart
    · rw [e]; intro e2; cases e2; omega
  refine ⟨?_, ?_, ⟨v3, hs2.storeTrail hb (by simpa using hown) hap, ?_⟩, hgrow.os, hgrow.tape, hgrow.output, ?_, fun j hj h3 h4 => ?_⟩
  · exact (World.cell?_of_block hb).trans hs2.trail
  · exact (World.frozen?_of_block hb).trans (hs2.free 24)
  · rcases hor with e | e
    · exact .inl e
    · exact .inr ⟨_, e, by omega⟩
  · have := hgrow.size
    rw [alloc_size, hsz] at this
    simp [World.setCell]; omega
  · rw [Below.heap_setCell _ _ _ _ h3, hgrow.block j (by rw [alloc_size, hsz]; omega) h4, alloc_get, if_neg (by rw [hsz]; omega), Below.heap_setCell _ _ _ _ h3]

/-- What state.set leaves. -/
def SetPost (x : Int) (p : Nat) (f : Int → Int) (tr : List Int) (v : Value) (w : World) (e : Ending) (w' : World) : Prop :=
  e = .returned (.tuple #[]) ∧ (∃ v', StateAt w' p (upd f (vr x) (sgn x)) (tr ++ [x]) v' ∧ Next w v v') ∧ Mod p v.ownBlock w w'

set_option maxHeartbeats 1000000 in
theorem set_any (x : Int) (p : Nat) (f : Int → Int) (tr : List Int) (v : Value) (w : World) (hs : StateAt w p f tr v) (hx : x ≠ 0) (h1 : -24 ≤ x) (h2 : x ≤ 24) (hl : tr.length ≤ 1000) :
    Calls Tryz.prog 65 #[.pointer (some ⟨p, 0, none⟩), .int .i64 x] w (SetPost x p f tr v w) := by
  have hlt := hs.lt
  obtain ⟨i0, hi, hz0, hz1, hz2⟩ := info_parts infoInt
  by_cases hneg : x < 0
  · have hc := hs.cell (k := -x) (by omega) (by omega)
    have h3 : 1 ≤ -x := by omega
    have hfz := hs.free ((-x).toNat - 1)
    have hs2 := hs.store (k := -x) (n := -1) (by omega) (by omega)
    have hct := hs2.trail
    have hown := hs2.own.alloc (.cells #[.int .i64 x] 3)
    have Hown := Lib.hid hown
    have Hs := Lib.hid hs
    clear hs hs2 hown
    go_enter Tryz.func65, Tryz.ntmps65
    go_wp2_with (at_builtin; go_loud (refine wpList_append_at _ rfl _ _ 26 rfl 0 3 i0 (.int .i64 0) 1 8 Tryz.underlying26 hi hz0 hz1 hz2 rfl (by decide) _ _ _ rfl Hown.out _ 1 1 [.int .i64 x] rfl rfl (cell_new_at _ _ _ _ (by simp [World.setCell])) (by intro u hu; simp at hu; subst hu; rfl) (by simp only [maxLen]; omega) (by omega) (Nat.zero_le _) ?_); intro v3 w3 hown3 hgrow3 hor3; obtain ⟨a3, c3, rfl⟩ := owns_shape hown3; obtain ⟨hc3, hf3, hfin, hmod⟩ := set_fin Hs.out x (-x) (-1) (by omega) (by omega) _ w3 hown3 hgrow3 hor3; have Hfin := Lib.hid hfin; have Hmod := Lib.hid hmod; clear hown3 hgrow3 hor3 hfin hmod)
    go_end0
    exact ⟨rfl, by rw [vr_neg hneg, sgn, if_pos hneg]; exact Hfin.out, Hmod.out⟩
  · have hc := hs.cell (k := x) (by omega) (by omega)
    have h3 : 1 ≤ x := by omega
    have hfz := hs.free (x.toNat - 1)
    have hs2 := hs.store (k := x) (n := 1) (by omega) (by omega)
    have hct := hs2.trail
    have hown := hs2.own.alloc (.cells #[.int .i64 x] 3)
    have Hown := Lib.hid hown
    have Hs := Lib.hid hs
    clear hs hs2 hown
    go_enter Tryz.func65, Tryz.ntmps65
    go_wp2_with (at_builtin; go_loud (refine wpList_append_at _ rfl _ _ 26 rfl 0 3 i0 (.int .i64 0) 1 8 Tryz.underlying26 hi hz0 hz1 hz2 rfl (by decide) _ _ _ rfl Hown.out _ 1 1 [.int .i64 x] rfl rfl (cell_new_at _ _ _ _ (by simp [World.setCell])) (by intro u hu; simp at hu; subst hu; rfl) (by simp only [maxLen]; omega) (by omega) (Nat.zero_le _) ?_); intro v3 w3 hown3 hgrow3 hor3; obtain ⟨a3, c3, rfl⟩ := owns_shape hown3; obtain ⟨hc3, hf3, hfin, hmod⟩ := set_fin Hs.out x x 1 (by omega) (by omega) _ w3 hown3 hgrow3 hor3; have Hfin := Lib.hid hfin; have Hmod := Lib.hid hmod; clear hown3 hgrow3 hor3 hfin hmod)
    go_end0
    exact ⟨rfl, by rw [vr_pos h3, sgn, if_neg (show ¬ x < 0 by omega)]; exact Hfin.out, Hmod.out⟩
end Go.Proofs.YtheemhelioendaaGreatDoor
