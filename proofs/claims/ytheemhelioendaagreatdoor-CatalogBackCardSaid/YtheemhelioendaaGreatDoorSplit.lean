/- Contract: the iterator of strings.SplitSeq: it hands over what Split cuts, in this order. -/
import Derived.Test.YtheemhelioendaaGreatDoorSeqL
import Derived.Test.YtheemhelioendaaGreatDoorPrsA
import Derived.Lib.SplitLaws
import Derived.WalkKit
import Derived.OwnWalkIn
import Derived.TacticsInMore
import Derived.LoopIn
import Derived.RangeFuncNested
namespace Go.Proofs.YtheemhelioendaaGreatDoor
open Go.RowKit
set_option linter.unusedVariables false
attribute [local go_sem] Oper.semAt_some

theorem split_hit {s sep : ByteArray} {i : Nat} (h1 : 1 ≤ sep.size) (h : Lib.indexB s sep = i) : Lib.splitB sep 0 (Lib.countB s sep) s = s.extract 0 i :: Lib.splitB sep 0 (Lib.countB (s.extract (i + sep.size) s.size) sep) (s.extract (i + sep.size) s.size) := by
  rw [Lib.countB_hit s sep i h1 h, Nat.add_comm, Lib.splitB_hit sep 0 _ s i h]; rfl
theorem drop_cons {α : Type} {xs : List α} {k : Nat} {x : α} {r : List α} (h : xs.drop k = x :: r) : ∃ hk : k < xs.length, xs[k] = x ∧ xs.drop (k + 1) = r := by
  have hk : k < xs.length := by
    rcases Nat.lt_or_ge k xs.length with h1 | h1
    · exact h1
    · rw [List.drop_eq_nil_of_le h1] at h; cases h
  rw [List.drop_eq_getElem_cons hk] at h
  exact ⟨hk, (List.cons.inj h).1, (List.cons.inj h).2⟩
/-- What the iterator of a cut reads and writes. -/
structure SplW (bs bp bv : Nat) (s sep : ByteArray) (w : World) : Prop where
  s : w.heap[bs]? = some (.cells #[.string s] 9 (0, 0))
  p : w.heap[bp]? = some (.cells #[.string sep] 9 (0, 0))
  v : w.heap[bv]? = some (.cells #[.int .i64 0] 3 (0, 0))
  m : ∃ m : Int, w.cell? ⟨3, 0, none⟩ = some (.int .i64 m)
def splKeep (bs bp bv : Nat) (k : Nat) : Prop := k = bs ∨ k = bp ∨ k = bv ∨ k = 3
theorem SplW.same {bs bp bv : Nat} {s sep : ByteArray} {w w' : World} (h : SplW bs bp bv s sep w) (hs : SameOn (splKeep bs bp bv) w w') : SplW bs bp bv s sep w' := by
  obtain ⟨m, hm⟩ := h.m
  exact ⟨(hs.block _ (.inl rfl)).trans h.s, (hs.block _ (.inr (.inl rfl))).trans h.p, (hs.block _ (.inr (.inr (.inl rfl)))).trans h.v, m, (World.cell?_of_block (hs.block _ (.inr (.inr (.inr rfl))))).trans hm⟩
structure SplNe (bs bp bv : Nat) : Prop where
  p : bp ≠ bs
  v : bv ≠ bs
  m : 3 ≠ bs
theorem SplW.set {bs bp bv : Nat} {s s' sep : ByteArray} {w : World} (h : SplW bs bp bv s sep w) (hn : SplNe bs bp bv) : SplW bs bp bv s' sep (w.setCell ⟨bs, 0, none⟩ (.string s')) := by
  obtain ⟨m, hm⟩ := h.m
  exact ⟨one_setCell h.s, (Below.heap_setCell _ _ _ _ hn.p).trans h.p, (Below.heap_setCell _ _ _ _ hn.v).trans h.v, m, (World.cell?_of_block (Below.heap_setCell _ _ _ _ hn.m)).trans hm⟩
def splM (bs : Nat) (w : World) : Nat := match w.cell? ⟨bs, 0, none⟩ with | some (.string s) => s.size | _ => 0

set_option maxRecDepth 100000 in
set_option maxHeartbeats 4000000 in
theorem split_iter (bs bp bv : Nat) (s0 sep : ByteArray) (w0 : World) (hsep : 1 ≤ sep.size) (hs0 : s0.size ≤ 1000000) (h0 : SplW bs bp bv s0 sep w0) (hne : SplNe bs bp bv) :
    IterC Tryz.prog 97 #[.pointer (some ⟨bp, 0, none⟩), .pointer (some ⟨bs, 0, none⟩), .pointer (some ⟨bv, 0, none⟩)] Value.string (Lib.splitB sep 0 (Lib.countB s0 sep) s0) (splKeep bs bp bv) (· = bs) w0 := by
  intro n l J Jx W hW hJ hY hJ0
  generalize hxs : Lib.splitB sep 0 (Lib.countB s0 sep) s0 = xs at hY ⊢
  have hw := h0.same hW
  have c1 := cell_of_one hw.p
  have hd : ((sep.size : Int) == 0) = false := by rw [beq_eq_false_iff_ne]; omega
  have HJ := Lib.hid hJ; have HY := Lib.hid hY; have Hxs := Lib.hid hxs; have Hw := Lib.hid hw; have H0 := Lib.hid hJ0
  clear hJ hY hxs hw hJ0 h0 hW
  refine callsIn_of_wp Tryz.func97 rfl trivial ?_ rfl
  simp only [Tryz.ntmps97, List.size_toArray, List.length_cons, List.length_nil, Nat.reduceAdd, Nat.reduceSub, Array.replicate_succ, Array.replicate_zero, List.push_toArray, List.append_toArray, List.nil_append, List.cons_append]
  gi_wp2_with fail
  gi_loopw [] (fun wr => ∃ (k : Nat) (s : ByteArray), SplW bs bp bv s sep wr ∧ s.size ≤ 1000000 ∧ xs.drop k = Lib.splitB sep 0 (Lib.countB s sep) s ∧ J k wr) (fun wr => splM bs wr)
  case atStart => exact ⟨0, s0, Hw.out, hs0, by rw [Hxs.out]; rfl, H0.out⟩
  case round =>
    obtain ⟨k, s, hw, hs, hdrop, hj⟩ := hrel
    obtain ⟨m, hm⟩ := hw.m
    have b1 := cell_of_one hw.s; have b2 := cell_of_one hw.p; have b3 := cell_of_one hw.v; have b4 := free_of_one hw.s; have b5 := lt_of_block hw.s
    have hix : Calls Tryz.prog 99 #[.string s, .string sep] wr fun e w' => e = .returned (.int .i64 (Lib.index s.data.toList sep.data.toList)) ∧ w' = wr := Any.strings_Index Tryz.lays143 s sep m wr (by omega) hm
    rcases Lib.indexB_cases s sep with hmiss | ⟨i, hi, hroom⟩
    · rw [Lib.splitB_miss _ _ _ _ hmiss] at hdrop
      obtain ⟨hk, hx, hnil⟩ := drop_cons hdrop
      have hlen : k + 1 = xs.length := by have := List.drop_eq_nil_iff.1 hnil; omega
      have hy := HY.out k hk wr hj
      rw [hx] at hy
      obtain ⟨fn, tmps, assign, body, hy, hR⟩ := hy
      have hix' : Lib.index s.data.toList sep.data.toList = -1 := hmiss
      rw [hix'] at hix
      have Hix := Lib.hid hix; have HR := Lib.hid hR; have Hlen := Lib.hid hlen
      clear hix hix' hmiss hdrop hx hnil hlen hR hw hj
      gi_wp2_with fail
      refine ⟨trivial, fun h => by simp [Fence.wide] at h, ?_⟩
      refine (callsIn_wide.2 Hix.out).mono ?_
      rintro e w' ⟨rfl, rfl⟩
      gi_wp2_with fail
      refine ⟨fun h => by simp [Fence.wide] at h, ?_⟩
      refine HR.out.mono ?_
      rintro e W' (⟨rfl, hj2, _⟩ | ⟨rfl, hx2⟩)
      · rw [Hlen.out] at hj2
        have Hj2 := Lib.hid hj2; clear hj2
        gi_wp2_with fail
        go_end0
        exact ⟨⟨_, rfl⟩, .inl Hj2.out⟩
      · have Hx2 := Lib.hid hx2; clear hx2
        gi_wp2_with fail
        go_end0
        exact ⟨⟨_, rfl⟩, .inr Hx2.out⟩
    · rw [split_hit hsep hi] at hdrop
      obtain ⟨hk, hx, hnil⟩ := drop_cons hdrop
      have hy := HY.out k hk wr hj
      rw [hx] at hy
      obtain ⟨fn, tmps, assign, body, hy, hR⟩ := hy
      have hix' : Lib.index s.data.toList sep.data.toList = (i : Int) := hi
      rw [hix'] at hix
      have hi1 : (i : Int) ≤ (s.size : Int) := by omega
      have hi2 : (i : Int) + (sep.size : Int) ≤ (s.size : Int) := by omega
      have hlt : decide ((i : Int) < 0) = false := by simp
      have hi3 : i ≤ 9223372036854775807 := by omega
      have hi4 : sep.size ≤ 9223372036854775807 := by omega
      have Hix := Lib.hid hix; have HR := Lib.hid hR; have Hnil := Lib.hid hnil; have Hwr := Lib.hid hw
      clear hix hix' hi hdrop hx hnil hR hw hj
      gi_wp2_with fail
      refine ⟨trivial, fun h => by simp [Fence.wide] at h, ?_⟩
      refine (callsIn_wide.2 Hix.out).mono ?_
      rintro e w' ⟨rfl, rfl⟩
      gi_wp2_with fail
      refine ⟨fun h => by simp [Fence.wide] at h, ?_⟩
      refine HR.out.mono ?_
      rintro e W' (⟨rfl, hj2, hkp⟩ | ⟨rfl, hx2⟩)
      · have hw2 := Hwr.out.same hkp
        have Hj2 := Lib.hid hj2; have Hw2 := Lib.hid hw2
        have c1 := cell_of_one hw2.s; have c2 := cell_of_one hw2.p; have c3 := cell_of_one hw2.v; have c4 := free_of_one hw2.s; have c5 := lt_of_block hw2.s
        clear hj2 hw2 hkp
        gi_wp2_with fail
        refine ⟨⟨k + 1, s.extract (i + sep.size) s.size, Hw2.out.set hne, by simp; omega, Hnil.out, HJ.out _ _ _ Hj2.out (Kept.set _ _ _ rfl)⟩, ?_⟩
        have e1 : splM bs (W'.setCell ⟨bs, 0, none⟩ (.string (s.extract (i + sep.size) s.size))) = (s.extract (i + sep.size) s.size).size := by unfold splM; rw [cell_of_one (one_setCell Hw2.out.s)]
        have e2 : splM bs w' = s.size := by unfold splM; rw [b1]
        rw [e1, e2]
        simp; omega
      · have Hx2 := Lib.hid hx2; clear hx2
        gi_wp2_with fail
        refine bodyPost_ret (results_none rfl _ _ _) rfl ?_
        exact ⟨⟨_, rfl⟩, .inr Hx2.out⟩

/-- The value of strings.SplitSeq. -/
def splFn (b : Nat) : Value := .func (.func 97) #[] #[.pointer (some ⟨b + 1, 0, none⟩), .pointer (some ⟨b, 0, none⟩), .pointer (some ⟨b + 1 + 1, 0, none⟩)]
theorem seq_any (s sep : ByteArray) (w : World) : Calls Tryz.prog 46 #[.string s, .string sep] w fun e w' =>
    e = .returned (splFn w.heap.size) ∧ w' = ((w.alloc (.cells #[.string s] 9)).alloc (.cells #[.string sep] 9)).alloc (.cells #[.int .i64 0] 3) := by
  unfold splFn
  have h : ∀ w : World, Calls Tryz.prog 78 #[.string s, .string sep, .int .i64 0] w fun e w' => e = .returned (.func (.func 97) #[] #[.pointer (some ⟨w.heap.size + 1, 0, none⟩), .pointer (some ⟨w.heap.size, 0, none⟩), .pointer (some ⟨w.heap.size + 1 + 1, 0, none⟩)]) ∧ ((w.alloc (.cells #[.string s] 9)).alloc (.cells #[.string sep] 9)).alloc (.cells #[.int .i64 0] 3) = w' := fun w => by
    go_enter Tryz.func78, Tryz.ntmps78
    go_wp2_with fail
    go_ret
    exact ⟨rfl, rfl⟩
  have H := Lib.hid (h w); clear h
  go_enter Tryz.func46, Tryz.ntmps46
  go_wp2_with fail
  refine H.out.mono ?_
  rintro e w1 ⟨rfl, rfl⟩
  go_wp2_with fail
  go_ret
  exact ⟨rfl, rfl⟩
end Go.Proofs.YtheemhelioendaaGreatDoor
