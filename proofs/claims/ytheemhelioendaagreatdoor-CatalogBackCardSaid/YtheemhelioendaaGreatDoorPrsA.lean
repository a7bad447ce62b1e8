/- Contracts: strconv.Atoi and Itoa, by the shelf, at whatever text. -/
import Derived.Test.YtheemhelioendaaGreatDoorSpan
import Derived.Test.YtheemhelioendaaGreatDoorShelfA
import Derived.Test.YtheemhelioendaaGreatDoorShelfT
import Derived.Lib.AtoiErrMem
import Derived.Lib.SmallJoins
namespace Go.Proofs.YtheemhelioendaaGreatDoor
open Go.RowKit
set_option linter.unusedVariables false

/-- What the laid variables hold. -/
structure LaidR (w : World) : Prop where
  len : ∃ m : Int, w.cell? ⟨3, 0, none⟩ = some (.int .i64 m)
  syn : ∃ t v, w.cell? ⟨5, 0, none⟩ = some (.iface t v)
  rng : ∃ t v, w.cell? ⟨6, 0, none⟩ = some (.iface t v)
  tab : Lib.TabIs Tryz.prog w "internal/strconv.uint64pow10" .u64 Lib.pow10Tab
theorem LaidR.cells {w w' : World} {g : Nat} {v : Value} (h : w.cell? ⟨g, 0, none⟩ = some v) (hb : Below w.heap.size w w') : w'.cell? ⟨g, 0, none⟩ = some v := (hb.cell (World.block_lt_of_cell? _ _ h)).trans h
theorem hPow : Tryz.prog.globalNamed "internal/strconv.uint64pow10" = some 4 := by kernel_rfl
theorem tab_below {n : String} {g : Nat} {k : IntKind} {zs : List Int} {w w' : World} (hg : Tryz.prog.globalNamed n = some g) (h : Lib.TabIs Tryz.prog w n k zs) (hb : Below w.heap.size w w') : Lib.TabIs Tryz.prog w' n k zs := by
  unfold Lib.TabIs World.var? at h ⊢
  rw [hg, Option.bind_some] at h ⊢
  have hlt : g < w.heap.size := by
    rcases Nat.lt_or_ge g w.heap.size with h1 | h1
    · exact h1
    · rw [Array.getElem?_eq_none h1] at h; simp at h
  rw [hb.block g hlt]; exact h
theorem LaidR.below {w w' : World} (h : LaidR w) (hb : Below w.heap.size w w') : LaidR w' := by
  obtain ⟨⟨m, h1⟩, ⟨t, v, h2⟩, ⟨t', v', h3⟩, h4⟩ := h
  exact ⟨⟨m, LaidR.cells h1 hb⟩, ⟨t, v, LaidR.cells h2 hb⟩, ⟨t', v', LaidR.cells h3 hb⟩, tab_below hPow h4 hb⟩

def AtoiP (l : List UInt8) (w : World) (e : Ending) (w' : World) : Prop :=
  ∃ n er, e = .returned (.tuple #[.int .i64 n, er]) ∧ ((er = .nilIface ∧ Lib.atoiAll l = .ok n) ∨ ((∃ t v, er = .iface t v) ∧ ∀ k, Lib.atoiAll l ≠ .ok k)) ∧ Below w.heap.size w w'
theorem atoi_any (s : ByteArray) (w : World) (hs : s.size ≤ 1000000) (h : LaidR w) : Calls Tryz.prog 118 #[.string s] w (AtoiP s.data.toList w) := by
  obtain ⟨_, ⟨t, v, h2⟩, ⟨t', v', h3⟩, _⟩ := h
  cases ha : Lib.atoiAll s.data.toList
  · rename_i n
    refine Calls.mono (Any.strconv_Atoi_ok Tryz.lays172 s (by omega) n ha w) ?_
    rintro e w' ⟨rfl, hw⟩
    refine ⟨_, _, rfl, .inl ⟨rfl, ha⟩, ?_⟩
    rcases hw with rfl | ⟨t, rfl⟩
    · exact Below.refl _ _
    · exact Lib.bytesWorld_below _ _ _
  · refine Calls.mono (Any.strconv_Atoi_syntax Tryz.lays172 s (by omega) ha _ w h2 (.inr ⟨_, _, rfl⟩)) ?_
    rintro e w' ⟨N, rfl, _, _, hb⟩
    exact ⟨_, _, rfl, .inr ⟨⟨_, _, rfl⟩, fun k h => by rw [ha] at h; cases h⟩, hb⟩
  · refine Calls.mono (Any.strconv_Atoi_range Tryz.lays172 s (by omega) ha _ w h3 (.inr ⟨_, _, rfl⟩)) ?_
    rintro e w' ⟨N, rfl, _, _, hb⟩
    exact ⟨_, _, rfl, .inr ⟨⟨_, _, rfl⟩, fun k h => by rw [ha] at h; cases h⟩, hb⟩
theorem itoa_any (n : Int) (w : World) (h0 : -9223372036854775808 ≤ n) (h1 : n ≤ 9223372036854775807) (h : LaidR w) : Calls Tryz.prog 86 #[.int .i64 n] w fun e w' => e = .returned (.string ⟨(Lib.itoa n).toArray⟩) ∧ Below w.heap.size w w' := by
  refine Calls.mono (Any.strconv_Itoa Tryz.lays171 n h0 h1 w h.tab) ?_
  rintro e w' ⟨rfl, k, os, rfl⟩
  refine ⟨rfl, rfl, rfl, rfl, by simp [Sort.grow], fun j hj => ?_⟩
  show (w.heap ++ os)[j]? = _
  rw [Array.getElem?_append_left hj]
theorem infoStr : (Tryz.prog.info? 9).map (fun i => (i.zero, i.size, i.bytes)) = some (some (.string ByteArray.empty), 1, 16) := by kernel_rfl
theorem split_any (s sep : ByteArray) (w : World) (hs : s.size ≤ 1000000) (h1 : 1 ≤ sep.size) (h : LaidR w) : Calls Tryz.prog 117 #[.string s, .string sep] w fun e w' =>
    e = .returned (.slice (some ⟨w.heap.size, 0, none⟩) (Lib.countB s sep + 1) (Lib.countB s sep + 1)) ∧ w' = w.alloc (.cells ((Lib.splitB sep 0 (Lib.countB s sep) s).map Value.string).toArray 9) := by
  obtain ⟨⟨m, hm⟩, _⟩ := h
  exact Any.strings_Split Tryz.lays146 infoStr s sep m w (by omega) hm h1
end Go.Proofs.YtheemhelioendaaGreatDoor
