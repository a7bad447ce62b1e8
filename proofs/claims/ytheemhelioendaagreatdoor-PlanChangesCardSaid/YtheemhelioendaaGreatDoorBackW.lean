/- Contract: slices.Backward of ints, and its iterator. -/
import Derived.Test.YtheemhelioendaaGreatDoorSeqN
import Derived.Test.YtheemhelioendaaGreatDoorPkI
import Derived.Test.YtheemhelioendaaGreatDoorPkO
namespace Go.Proofs.YtheemhelioendaaGreatDoor
open Go.RowKit
set_option linter.unusedVariables false
attribute [local go_sem] Oper.semAt_some

/-- What the iterator reads. -/
structure BackW (bx : Nat) (a : Option Addr) (c : Nat) (xs : List Int) (w : World) : Prop where
  box : w.heap[bx]? = some (.cells #[.slice a xs.length c] 26 (0, 0))
  row : OutI w 0 (.slice a xs.length c) xs
def backKeep (bx : Nat) (a : Option Addr) (j : Nat) : Prop := j = bx ∨ (Value.slice a 0 0).ownBlock = some j
theorem BackW.same {bx : Nat} {a : Option Addr} {c : Nat} {xs : List Int} {w w' : World} (h : BackW bx a c xs w) (hs : SameOn (backKeep bx a) w w') : BackW bx a c xs w' :=
  ⟨(hs.block _ (.inl rfl)).trans h.box, RowG.keep h.row (fun b e => hs.block b (.inr (by cases a with | none => cases e | some ad => exact e)))⟩
/-- The pairs that it hands over. -/
def backL (xs : List Int) : List (Nat × Int) := (List.range xs.length).reverse.map fun i => (i, xs.getD i 0)
def encB (p : Nat × Int) : Array Value := #[.int .i64 p.1, .int .i64 p.2]
theorem backL_len (xs : List Int) : (backL xs).length = xs.length := by unfold backL; simp
theorem backL_at (xs : List Int) {m : Nat} (h : m < xs.length) : (backL xs)[xs.length - (m + 1)]'(by rw [backL_len]; omega) = (m, xs[m]) := by
  unfold backL
  rw [List.getElem_map, List.getElem_reverse, List.getElem_range]
  have e : (List.range xs.length).length - 1 - (xs.length - (m + 1)) = m := by rw [List.length_range]; omega
  rw [e]
  simp [h]
theorem backL_snd (xs : List Int) : (backL xs).map (·.2) = xs.reverse := by
  unfold backL
  rw [List.map_map, List.map_reverse]
  congr 1
  refine List.ext_getElem (by simp) (fun i h1 h2 => ?_)
  have : i < xs.length := h2
  simp [this]
theorem backL_get (xs : List Int) {k : Nat} (h : k < (backL xs).length) : (backL xs)[k].2 = xs.reverse[k]'(by rw [backL_len] at h; simpa using h) := by
  have := backL_snd xs
  have h2 : ((backL xs).map (·.2))[k]'(by simpa using h) = xs.reverse[k]'(by rw [backL_len] at h; simpa using h) := by simp only [this]
  simpa using h2
def backM (v : Value) : Nat := match v with | .int _ z => (z + 1).toNat | _ => 0
theorem backM_pred (k : IntKind) (m : Nat) : backM (.int k ((m : Int) - 1)) = m := by unfold backM; simp
set_option maxHeartbeats 1000000 in
theorem back_any (a : Option Addr) (n c : Nat) (w : World) : Calls Tryz.prog 58 #[.slice a n c] w fun e w' => e = .returned (.func (.func 89) #[] #[.pointer (some ⟨w.heap.size, 0, none⟩)]) ∧ w' = w.alloc (.cells #[.slice a n c] 26) := by
  go_enter Tryz.func58, Tryz.ntmps58
  go_wp2_with fail
  go_ret
  exact ⟨rfl, rfl⟩
set_option maxRecDepth 100000 in
set_option maxHeartbeats 4000000 in
theorem back_iter (bx : Nat) (a : Option Addr) (c : Nat) (xs : List Int) (w0 : World) (h0 : BackW bx a c xs w0) (hn : xs.length ≤ 100000) :
    IterN Tryz.prog 89 #[.pointer (some ⟨bx, 0, none⟩)] encB (backL xs) (backKeep bx a) (fun _ => False) w0 := by
  intro n l J Jx W hW hJ hY hJ0
  have hw := h0.same hW
  have c1 := cell_of_one hw.box
  have HY := Lib.hid hY; have Hw := Lib.hid hw; have H0 := Lib.hid hJ0
  clear hJ hY hw hJ0 h0 hW
  refine callsIn_of_wp Tryz.func89 rfl trivial ?_ rfl
  simp only [Tryz.ntmps89, List.size_toArray, List.length_cons, List.length_nil, Nat.reduceAdd, Nat.reduceSub, Array.replicate_succ, Array.replicate_zero, List.push_toArray, List.append_toArray, List.nil_append, List.cons_append]
  gi_wp2_with fail
  clear c1
  gi_loopw [3] (fun s3 wr => ∃ m : Nat, m ≤ xs.length ∧ s3 = .int .i64 ((m : Int) - 1) ∧ BackW bx a c xs wr ∧ J (xs.length - m) wr) (fun s3 _ => backM s3)
  case atStart => exact ⟨xs.length, Nat.le_refl _, by go_num, Hw.out, by rw [Nat.sub_self]; exact H0.out⟩
  case round =>
    obtain ⟨m, hm, rfl, hw, hj⟩ := hrel
    cases m with
    | zero =>
      rw [show (((0 : Nat) : Int) - 1) = -1 from rfl]
      have Hj := Lib.hid hj
      clear hj hw
      gi_wp2_with fail
      go_end0
      exact ⟨⟨_, rfl⟩, .inl (by rw [backL_len]; exact Hj.out)⟩
    | succ q =>
      rw [show (((q + 1 : Nat) : Int) - 1) = (q : Int) by omega]
      have hq : q < xs.length := by omega
      have hqi : (q : Int) < (xs.length : Int) := by omega
      have hb := cell_of_one hw.box
      have hrow := hw.row
      obtain ⟨g, rfl, hg, _⟩ := RowG.at hrow (by omega)
      have hc := RowG.cell (enc := encInt) (z := 1) (fun _ => rfl) hrow hq (j := 0) (by decide) rfl
      rw [Nat.mul_one, Nat.add_zero] at hc
      have hy := HY.out (xs.length - (q + 1)) (by rw [backL_len]; omega) wr hj
      rw [backL_at xs hq] at hy
      obtain ⟨X, hX⟩ : ∃ X, X = xs[q] := ⟨_, rfl⟩
      rw [← hX] at hc hy
      unfold encB at hy
      obtain ⟨fn, tmps, assign, body, hy, hR⟩ := hy
      have HR := Lib.hid hR; have Hwr := Lib.hid hw
      clear hR hw hj hrow hX
      gi_wp2_with fail
      refine ⟨fun h => by simp [Fence.wide] at h, ?_⟩
      refine HR.out.mono ?_
      rintro e W' (⟨rfl, hj2, hkp⟩ | ⟨rfl, hx2⟩)
      · have hw2 := Hwr.out.same hkp
        have Hj2 := Lib.hid hj2; have Hw2 := Lib.hid hw2
        clear hj2 hw2 hkp
        gi_wp2_with fail
        refine ⟨⟨q, by omega, by go_num, Hw2.out, by have := Hj2.out; rw [show xs.length - (q + 1) + 1 = xs.length - q by omega] at this; exact this⟩, ?_⟩
        rw [backM_pred, show backM (.int .i64 (q : Int)) = q + 1 by unfold backM; simp]
        omega
      · have Hx2 := Lib.hid hx2; clear hx2
        gi_wp2_with fail
        refine bodyPost_ret (results_none rfl _ _ _) rfl ?_
        exact ⟨⟨_, rfl⟩, .inr Hx2.out⟩
end Go.Proofs.YtheemhelioendaaGreatDoor
