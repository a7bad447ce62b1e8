/- Contracts: slices.SortFunc of a clause by proof.before; slices.Compact of a clause. -/
import Derived.Test.YtdeaficdfooegaaDoorHeap
import Derived.Test.YtdeaficdfooegaaDoorFormM
import Derived.Test.YtdeaficdfooegaaDoorShelfP
import Derived.Lib.OwnBridge
namespace Go.Proofs.YtdeaficdfooegaaDoor
open Go.RowKit
set_option linter.unusedVariables false

theorem before_any (x y : Int) (w : World) (hx : -1000 ≤ x ∧ x ≤ 1000) (hy : -1000 ≤ y ∧ y ≤ 1000) :
    Calls Tryd.prog 61 #[.int .i64 x, .int .i64 y] w fun e w' => e = .returned (.int .i64 (befC x y)) ∧ w = w' := by
  obtain ⟨x1, x2⟩ := hx
  obtain ⟨y1, y2⟩ := hy
  go_enter Tryd.func61, Tryd.ntmps61
  go_wp2_with fail
  · have h : (max x (-x) != max y (-y)) = true := by assumption
    go_ret
    refine ⟨?_, rfl⟩
    have h' : ¬ max x (-x) = max y (-y) := by simpa using h
    unfold befC; rw [if_neg h']; rfl
  · have h : (max x (-x) != max y (-y)) = false := by assumption
    go_ret
    refine ⟨?_, rfl⟩
    have h' : max x (-x) = max y (-y) := by simpa using h
    unfold befC; rw [if_pos h']; rfl

/-- A literal that is small. -/
abbrev LitS := {x : Int // -1000 ≤ x ∧ x ≤ 1000}
instance : Inhabited LitS := ⟨⟨0, by decide⟩⟩
def encL (x : LitS) : Value := .int .i64 x.val
def cfL (x y : LitS) : Int := befC x.val y.val
theorem ltL (x y : LitS) : ltOf cfL x y = befB x.val y.val := rfl
theorem swoL : Sort.SWO (ltOf cfL) where
  irrefl x := bef_irrefl x.val
  trans x y z h1 h2 := bef_trans (x := x.val) (y := y.val) (z := z.val) h1 h2
  ntrans x y z h1 h2 := bef_ntrans (x := x.val) (y := y.val) (z := z.val) h1 h2
theorem totL (x y : LitS) (h1 : ltOf cfL x y = false) (h2 : ltOf cfL y x = false) : x = y := Subtype.ext (bef_total (x := x.val) (y := y.val) h1 h2)

section
variable {w w0 : World} {base e g n cap q : Nat}
theorem ownsRow_grow {size : Nat} {v : Value} {k : Nat} {xs : List Value} (h : w.ownsRow base e size v k xs) (os : Array Obj) : (Sort.grow w os).ownsRow base e size v k xs := by
  obtain ⟨h1, h2 | ⟨g, cap, cur, rfl, hb, hg, hr⟩⟩ := h
  · exact ⟨h1, .inl h2⟩
  · refine ⟨h1, .inr ⟨g, cap, cur, rfl, hb, ?_, hr⟩⟩
    have hlt := (Array.getElem?_eq_some_iff.1 hg).1
    show (w.heap ++ os)[g]? = _
    rw [Array.getElem?_append_left hlt]; exact hg
theorem below_grow {B : Nat} (h : Below B w0 w) (hB : B ≤ w.heap.size) (os : Array Obj) : Below B w0 (Sort.grow w os) :=
  ⟨h.os, h.tape, h.output, by have := h.size; simp [Sort.grow]; omega, fun k hk => by
    rw [← h.block k hk]
    show (w.heap ++ os)[k]? = _
    rw [Array.getElem?_append_left (by omega)]⟩
theorem sortW_owns {zs ys : List LitS} (h : w.ownsRow base e 1 (.slice (some ⟨g, 0, none⟩) n cap) n (zs.map encL)) (hy : ys.length = n) (os : Array Obj) : (sortWorld encL w g 0 q ys.toArray os).ownsRow base e 1 (.slice (some ⟨g, 0, none⟩) n cap) n (ys.map encL) := by
  have h1 := Lib.ownsRow_putRow (q := q) h hy (Nat.le_refl n)
  rw [List.take_of_length_le (by omega)] at h1
  exact ownsRow_grow h1 os
theorem sortW_below {B : Nat} {d : Array LitS} (h : Below B w0 w) (hB : B ≤ w.heap.size) (hg : B ≤ g) (os : Array Obj) : Below B w0 (sortWorld encL w g 0 q d os) :=
  below_grow (Lib.below_putRow h hg) (by simpa [Sort.putRow, Sort.mapBlock, Sort.ahead] using hB) os
end
/-- Small literals, told so. -/
def smallL (xs : List Int) (hb : ∀ x ∈ xs, -1000 ≤ x ∧ x ≤ 1000) : List LitS := xs.pmap (fun x h => ⟨x, h⟩) hb
theorem smallL_val (xs : List Int) (hb : ∀ x ∈ xs, -1000 ≤ x ∧ x ≤ 1000) : (smallL xs hb).map (·.val) = xs := by unfold smallL; rw [List.map_pmap]; simp
theorem smallL_enc (l : List LitS) : l.map encL = (l.map (·.val)).map (Value.int .i64) := by rw [List.map_map]; rfl
theorem smallL_sort (l : List LitS) : (l.mergeSort fun x y => !ltOf cfL y x).map (·.val) = (l.map (·.val)).mergeSort befLe :=
  List.map_mergeSort (fun a _ b _ => rfl)

set_option maxHeartbeats 2000000 in
/-- slices.SortFunc, at an address. -/
theorem sortC_some (cap : Nat) (d : Array LitS) (blk : Nat) (w : World) (hH : Sort.Holds encL w blk 0 d) (hblk : blk < w.heap.size) (hsz : d.size ≤ 1000000) :
    Calls Tryd.prog 60 #[.slice (some ⟨blk, 0, none⟩) d.size cap, .func (.func 61) #[] #[]] w fun e w' =>
      e = .returned (.tuple #[]) ∧ ∃ n os, w' = sortWorld encL w blk 0 n (d.toList.mergeSort fun x y => !ltOf cfL y x).toArray os := by
  have eg : ∀ args w, (callFunc 61 args).run Tryd.prog w = .ok (.enter 61 args) w := enters_of Tryd.func61 (by kernel_rfl) rfl
  have hcr : CmpReads Tryd.prog 61 #[] encL cfL blk 0 d.size w := fun _ _ _ _ x y => (before_any x.val y.val _ x.property y.property).mono fun e w' ⟨he, hw⟩ => ⟨he, 0, hw.symm⟩
  have hlim : Lib.bitLen d.size < 4611686018427387904 := Nat.lt_of_le_of_lt (Lib.bitLen_le d.size 62 (by omega) (by omega)) (by omega)
  have hp := Any.pdqsortCmpFunc_all Tryd.pdqL encL cfL 61 #[] swoL blk 0 cap d w eg hcr.lays ⟨fun _ => rfl, hH, hblk⟩ (d.size + 1) 0 d.size (Lib.bitLen d.size) d w (by omega) rfl (SW.start hH) (Nat.zero_le _) (Nat.le_refl _) (by omega) hlim (Or.inl rfl)
  have hs := Sort.pdq_sorts (ltOf cfL) swoL d 0 d.size (Lib.bitLen d.size) true true (Nat.zero_le _) (Nat.le_refl _) (Or.inl rfl)
  have hu := Sort.sorted_unique_holds swoL totL d _ hs.1 hs.2
  have hu' : Sort.pdq (ltOf cfL) d 0 d.size (Lib.bitLen d.size) true true = (d.toList.mergeSort fun x y => !ltOf cfL y x).toArray := by rw [← hu, Array.toArray_toList]
  rw [hu'] at hp
  clear hs hu hu'
  have hl : Calls Tryd.prog 105 #[.int .u64 (d.size : Int)] w fun e w' => e = .returned (.int .i64 (Lib.bitLen d.size : Nat)) ∧ w' = w := by
    have h := Any.bits_Len Tryd.lays125 (d.size : Int) w (by omega) (by omega)
    rwa [Int.toNat_natCast] at h
  have wr : IntKind.u64.wrap (d.size : Int) = d.size := by simp [IntKind.wrap, IntKind.bits, IntKind.signed]; omega
  change Calls Tryd.prog 104 _ _ _ at hp
  have Hp := Lib.hid hp; have Hl := Lib.hid hl
  clear hH hcr hlim hp hl eg
  go_enter Tryd.func60, Tryd.ntmps60
  go_wp2_with (first | (go_at_call 105; refine Hl.out.mono ?_; rintro e w' ⟨rfl, rfl⟩) | (go_at_call 104; refine Hp.out.mono ?_; rintro e w' ⟨rfl, n, os, rfl⟩))
  go_end0
  exact ⟨rfl, n, os, rfl⟩

set_option maxHeartbeats 1000000 in
theorem sortC_none (p : Option Addr) (cap : Nat) (w : World) :
    Calls Tryd.prog 60 #[.slice p 0 cap, .func (.func 61) #[] #[]] w fun e w' => e = .returned (.tuple #[]) ∧ w = w' := by
  have hp := fun lim W => AnyF.pdqsortCmpFunc_none (P := Tryd.prog) (ρ := Tryd.pdqL_ren) { Tryd.pdqL with } p cap lim (.func (.func 61) #[] #[]) W
  have hl : ∀ W, Calls Tryd.prog 105 #[.int .u64 0] W fun e w' => e = .returned (.int .i64 (Lib.bitLen 0 : Nat)) ∧ w' = W := fun W => Any.bits_Len Tryd.lays125 0 W (by omega) (by omega)
  change ∀ lim W, Calls Tryd.prog 104 _ _ _ at hp
  have Hp := Lib.hid hp; have Hl := Lib.hid hl; clear hp hl
  go_enter Tryd.func60, Tryd.ntmps60
  go_wp2_with (first | (go_at_call 105; refine (Hl.out _).mono ?_; rintro e w' ⟨rfl, rfl⟩) | (go_at_call 104; refine (Hp.out _ _).mono ?_; rintro e w' ⟨rfl, rfl⟩))
  go_end0
  exact ⟨rfl, rfl⟩

theorem enc_nil {w : World} {base : Nat} {e : TypeId} {n : Nat} {xs : List Value} (h : w.ownsRow base e 1 (.slice none 0 0) n xs) : n = 0 ∧ xs = [] := by
  obtain ⟨h1, ⟨_, h2⟩ | ⟨g, cap, cur, h2, _⟩⟩ := h
  · subst h2; exact ⟨rfl, List.eq_nil_of_length_eq_zero (by simpa using h1)⟩
  · cases h2
/-- slices.SortFunc of a row of the call's own. -/
theorem sortC_any {base : Nat} (v : Value) (xs : List Int) (w : World) (hb : ∀ x ∈ xs, -1000 ≤ x ∧ x ≤ 1000) (hl : xs.length ≤ 1000000) (hB : base ≤ w.heap.size) (ho : w.ownsRow base 3 1 v xs.length (xs.map (Value.int .i64))) :
    Calls Tryd.prog 60 #[v, .func (.func 61) #[] #[]] w fun e w' => e = .returned (.tuple #[]) ∧ w'.ownsRow base 3 1 v xs.length ((xs.mergeSort befLe).map (Value.int .i64)) ∧ Below base w w' := by
  by_cases hv : v = .slice none 0 0
  · subst hv
    obtain ⟨h0, h1⟩ := enc_nil ho
    have hx : xs = [] := List.eq_nil_of_length_eq_zero h0
    subst hx
    exact (sortC_none none 0 w).mono fun e w' ⟨he, hw⟩ => by subst hw; exact ⟨he, by simpa using ho, Below.refl _ _⟩
  · have ho' : w.ownsRow base 3 1 v xs.length ((smallL xs hb).map encL) := by rw [smallL_enc, smallL_val]; exact ho
    have hlen : (smallL xs hb).length = xs.length := by simp [smallL]
    obtain ⟨g, cap, rfl, hg, hlt, hn, hm, hz, hH⟩ := Lib.holds_of_ownsRow ho' hv
    have h := sortC_some cap (smallL xs hb).toArray g w hH hlt (by simp [hlen]; exact hl)
    simp only [List.size_toArray, hlen] at h
    refine h.mono fun e w' ⟨he, n, os, hw⟩ => ?_
    subst hw
    refine ⟨he, ?_, sortW_below (Below.refl _ _) hB hg os⟩
    have h2 := sortW_owns (q := n) (ys := (smallL xs hb).mergeSort fun x y => !ltOf cfL y x) ho' (by rw [List.length_mergeSort]; exact hlen) os
    rw [smallL_enc, smallL_sort, smallL_val] at h2
    exact h2
/-- slices.Compact of a row of the call's own. -/
theorem compactC_any {base : Nat} (v : Value) (xs : List Int) (w : World) (hl : xs.length ≤ 1000000) (ho : w.ownsRow base 3 1 v xs.length (xs.map (Value.int .i64))) :
    Calls Tryd.prog 62 #[v] w fun e w' => ∃ v', e = .returned v' ∧ w'.ownsRow base 3 1 v' (Lib.compact xs).length ((Lib.compact xs).map (Value.int .i64)) ∧ Below base w w' := by
  have hle := Lib.compact_length_le xs
  by_cases hv : v = .slice none 0 0
  · subst hv
    obtain ⟨h0, h1⟩ := enc_nil ho
    have hx : xs = [] := List.eq_nil_of_length_eq_zero h0
    subst hx
    have h := AnyG.slices_Compact_int_empty Tryd.compL none 0 w
    change Calls Tryd.prog 62 _ _ _ at h
    exact h.mono fun e w' ⟨he, hw⟩ => by subst hw; exact ⟨_, he, by simpa [Lib.compact, Lib.compactUpTo] using ho, Below.refl _ _⟩
  · obtain ⟨g, cap, rfl, hg, hlt, hn, hm, hz, hH⟩ := Lib.holds_of_ownsRow ho hv
    have h := AnyG.slices_Compact_int Tryd.compL g 0 cap xs w hH (by omega) hn
    change Calls Tryd.prog 62 _ _ _ at h
    refine h.mono fun e w' ⟨he, q, hw⟩ => ?_
    subst hw
    refine ⟨_, he, ?_, Lib.below_putRow (Below.refl _ _) hg⟩
    have h2 := Lib.ownsRow_putRow (q := q) (k := (Lib.compact xs).length) ho (ys := Lib.compact xs ++ List.replicate (xs.length - (Lib.compact xs).length) 0) (by simp; omega) hle
    rw [List.take_left' rfl] at h2
    exact h2
end Go.Proofs.YtdeaficdfooegaaDoor
