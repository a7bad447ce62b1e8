/- Rows of bytes whose marks lie behind their room (what a conversion from a string leaves): appends to them. -/
import Derived.Test.YthmflcmbaldflaaGreatDoorIpH
import Derived.Lib.AppendStr
import Derived.Lib.ConvBytes
import Derived.Lib.UnsafeStr
namespace Go.Proofs.YthmflcmbaldflaaGreatDoor
open Go.RowKit
set_option linter.unusedVariables false

/-- One block's row turned, all else is as it was. -/
structure RowSet (w w' : World) (g : Nat) (cs : Array Value) (t : TypeId) (fz : Nat × Nat) : Prop where
  row : w'.heap[g]? = some (.cells cs t fz)
  oth : ∀ k, k ≠ g → w'.heap[k]? = w.heap[k]?
  size : w'.heap.size = w.heap.size
  os : w'.os = w.os
  tape : w'.tape = w.tape
  output : w'.output = w.output
theorem storeZ (P : Program) (g o : Nat) (t : TypeId) (fz : Nat × Nat) : ∀ (vs : List Value) (i : Nat) (cur : Array Value) (w : World), w.heap[g]? = some (.cells cur t fz) → (o + i + vs.length ≤ fz.1 ∨ fz.2 = 0) → o + i + vs.length ≤ cur.size → (∀ v ∈ vs, v.oneCell' = true) →
    ∃ w' cur', (storeCells ⟨g, o, none⟩ vs i).run P w = .ok () w' ∧ RowSet w w' g cur' t fz ∧ cur'.size = cur.size ∧ ∀ j, cur'[j]? = if o + i ≤ j ∧ j < o + i + vs.length then vs[j - (o + i)]? else cur[j]?
  | [], i, cur, w, hg, _, _, _ => ⟨w, cur, rfl, ⟨hg, fun _ _ => rfl, rfl, rfl, rfl, rfl⟩, rfl, fun j => by rw [if_neg (by simp)]⟩
  | v :: rest, i, cur, w, hg, hf, hl, h1 => by
    rw [List.length_cons] at hf hl
    have hin : o + i < cur.size := by omega
    have ha : (⟨g, o, none⟩ : Addr).add i = ⟨g, o + i, none⟩ := by unfold Addr.add; split <;> simp_all
    have hcell : w.cell? ⟨g, o + i, none⟩ = some cur[o + i] := by simp [World.cell?, hg, hin]
    have hfree : w.frozen? ⟨g, o + i, none⟩ = false := by
      unfold World.frozen?
      rw [hg]
      rcases hf with h | h
      · have : ¬ fz.1 ≤ o + i := by omega
        simp [this]
      · simp [h]
    have hrun : (store ((⟨g, o, none⟩ : Addr).add i) v).run P w = .ok () (w.setCell ⟨g, o + i, none⟩ v) := by
      rw [ha, run_store P w _ v _ (h1 v (List.mem_cons_self ..)), hcell]
      simp [hfree]
    have hg1 := heap_setA hg (o + i) v
    obtain ⟨w', cur', r1, r2, r3, r4⟩ := storeZ P g o t fz rest (i + 1) _ _ hg1 (by omega) (by simp; omega) (fun x hx => h1 x (List.mem_cons_of_mem _ hx))
    refine ⟨w', cur', ?_, ⟨r2.row, fun k hk => (r2.oth k hk).trans (Below.heap_setCell _ _ _ _ hk), r2.size.trans (by simp), r2.os.trans rfl, r2.tape.trans rfl, r2.output.trans rfl⟩, r3.trans (by simp), fun j => ?_⟩
    · simp only [storeCells, Sem.run_bind, hrun, Result.andThen_ok, r1]
    · rw [r4, List.length_cons]
      by_cases c1 : o + (i + 1) ≤ j ∧ j < o + (i + 1) + rest.length
      · rw [if_pos c1, if_pos (by omega), show j - (o + i) = (j - (o + (i + 1))) + 1 by omega, List.getElem?_cons_succ]
      · rw [if_neg c1]
        by_cases c2 : j = o + i
        · subst c2
          rw [if_pos (by omega), Nat.sub_self]
          simp [hin]
        · rw [if_neg (by omega), Array.getElem?_setIfInBounds_ne (by omega)]
/-- An own row of one-cell values, with room behind it that may be written. -/
def OwnZ (w : World) (base : Nat) (T : TypeId) (v : Value) (xs : List Value) : Prop :=
  ∃ g cap cur fz, v = .slice (some ⟨g, 0, none⟩) xs.length cap ∧ base ≤ g ∧ w.heap[g]? = some (.cells cur T fz) ∧ (cap ≤ fz.1 ∨ fz.2 = 0) ∧ xs.length ≤ cap ∧ cap ≤ maxLen ∧ cur.size = cap ∧ ∀ j, j < xs.length → cur[j]? = xs[j]?
theorem OwnZ.keep {w w' : World} {base : Nat} {T : TypeId} {v : Value} {xs : List Value} (h : OwnZ w base T v xs) (hb : ∀ g, v.ownBlock = some g → w'.heap[g]? = w.heap[g]?) : OwnZ w' base T v xs := by
  obtain ⟨g, cap, cur, fz, rfl, h1, h2, h3⟩ := h
  exact ⟨g, cap, cur, fz, rfl, h1, (hb g rfl).trans h2, h3⟩
theorem OwnZ.below {w w' : World} {base : Nat} {T : TypeId} {v : Value} {xs : List Value} (h : OwnZ w base T v xs) (hb : Below w.heap.size w w') : OwnZ w' base T v xs := by
  obtain ⟨g, cap, cur, fz, rfl, h1, h2, h3⟩ := id h
  exact h.keep (fun k hk => by injection hk with hk; subst hk; exact hb.block _ (Array.getElem?_eq_some_iff.1 h2).1)
/-- What is read of it. -/
theorem OwnZ.cells {w : World} {base : Nat} {T : TypeId} {v : Value} {xs : List Value} (h : OwnZ w base T v xs) : ∃ g cap, v = .slice (some ⟨g, 0, none⟩) xs.length cap ∧ base ≤ g ∧ g < w.heap.size ∧ xs.length ≤ cap ∧ cap ≤ maxLen ∧ ∀ j u, xs[j]? = some u → w.cell? ((⟨g, 0, none⟩ : Addr).add j) = some u ∧ w.cell? ⟨g, j, none⟩ = some u := by
  obtain ⟨g, cap, cur, fz, rfl, h1, h2, _, h4, h5, _, h6⟩ := h
  refine ⟨g, cap, rfl, h1, (Array.getElem?_eq_some_iff.1 h2).1, h4, h5, fun j u hu => ?_⟩
  have ha : (⟨g, 0, none⟩ : Addr).add j = ⟨g, j, none⟩ := by
    have : (⟨g, 0, none⟩ : Addr).add j = ⟨g, 0 + j, none⟩ := by unfold Addr.add; split <;> simp_all
    rwa [Nat.zero_add] at this
  rw [ha]
  have hj := (List.getElem?_eq_some_iff.1 hu).1
  have : w.cell? ⟨g, j, none⟩ = some u := by
    rw [cell_of_row w _ _ _ _ _ h2, h6 j hj, hu]
  exact ⟨this, this⟩
section
variable {P : Program} {w : World} {base : Nat} {T : TypeId}
theorem ownZ_room {w' : World} {g cap : Nat} {cur cur' : Array Value} {fz : Nat × Nat} {xs news : List Value} (hb : base ≤ g) (hf : cap ≤ fz.1 ∨ fz.2 = 0) (hcap : xs.length + news.length ≤ cap) (hm : cap ≤ maxLen) (hc : cur.size = cap) (hx : ∀ j, j < xs.length → cur[j]? = xs[j]?)
    (hr : RowSet w w' g cur' T fz) (hs : cur'.size = cur.size) (hj : ∀ j, cur'[j]? = if xs.length + 0 ≤ j ∧ j < xs.length + 0 + news.length then news[j - (xs.length + 0)]? else cur[j]?) : OwnZ w' base T (.slice (some ⟨g, 0, none⟩) (xs ++ news).length cap) (xs ++ news) := by
  refine ⟨g, cap, cur', fz, rfl, hb, hr.row, hf, by simpa using hcap, hm, hs.trans hc, fun j hlt => ?_⟩
  rw [hj]
  by_cases c : j < xs.length
  · rw [if_neg (by omega), hx j c, List.getElem?_append_left c]
  · rw [List.length_append] at hlt
    rw [if_pos (by omega), List.getElem?_append_right (by omega), Nat.add_zero]
theorem ownZ_new {xs : List Value} {cap : Nat} {z : Array Value} (hz : z.size = cap - xs.length) (hb : base ≤ w.heap.size) (h1 : xs.length ≤ cap) (h2 : cap ≤ maxLen) : OwnZ (w.drew.alloc (.cells (xs.toArray ++ z) T)) base T (.slice (some ⟨w.heap.size, 0, none⟩) xs.length cap) xs := by
  refine ⟨w.heap.size, cap, _, (0, 0), rfl, hb, heap_alloc_new w.drew _, .inr rfl, h1, h2, by simp [hz]; omega, fun j hj => ?_⟩
  rw [Array.getElem?_append_left (by simpa using hj)]
  simp
theorem RowSet.below {w w' : World} {g : Nat} {cs : Array Value} {t : TypeId} {fz : Nat × Nat} (h : RowSet w w' g cs t fz) (hb : base ≤ g) : Below base w w' :=
  ⟨h.os, h.tape, h.output, by rw [h.size]; exact Nat.le_refl _, fun k hk => h.oth k (by omega)⟩
/-- A row of one-cell values is appended. -/
theorem run_appendZ (t ty : TypeId) (i : TypeInfo) (z : Value) (ht : P.underlying t = some (.slice T)) (hi : P.info? T = some i) (hz : i.zero = some z) (hs1 : i.size = 1) (hby : i.bytes = 1) (hz1 : z.cells.size = 1)
    (v : Value) (xs : List Value) (hown : OwnZ w base T v xs) (src : Option Addr) (m c : Nat) (news : List Value) (hl : news.length = m) (hsrc : (src = none ∧ m = 0) ∨ ∃ a, src = some a ∧ ∀ j u, news[j]? = some u → w.cell? (a.add j) = some u) (h1 : ∀ u ∈ news, u.oneCell' = true)
    (hn : xs.length + m ≤ 1000000) (hbase : base ≤ w.heap.size) :
    ∃ v' w', (Builtin.append_ #[t, t] ty #[v, .slice src m c]).run P w = .ok v' w' ∧ OwnZ w' base T v' (xs ++ news) ∧ Below base w w' := by
  subst hl
  obtain ⟨g0, cap0, hv0, _, hlt, _, _, hcells⟩ := hown.cells
  obtain ⟨g, cap, cur, fz, rfl, hb, hg, hf, hle, hm, hcs, hx⟩ := hown
  injection hv0 with e1 e2 e3
  injection e1 with e1
  injection e1 with e1
  subst e1
  have hsz : xs.length * i.size = xs.length := by rw [hs1, Nat.mul_one]
  by_cases hroom : xs.length + news.length ≤ cap
  · obtain ⟨w', cur', r1, r2, r3, r4⟩ := storeZ P g xs.length T fz news 0 cur w hg (by omega) (by omega) h1
    refine ⟨.slice (some ⟨g, 0, none⟩) (xs ++ news).length cap, w', ?_, ownZ_room hb hf hroom hm hcs hx r2 r3 r4, r2.below hb⟩
    rcases hsrc with ⟨rfl, h0⟩ | ⟨a, rfl, hnews⟩
    · have hn0 : news = [] := List.eq_nil_of_length_eq_zero h0
      subst hn0
      simp [Builtin.append_, run_underlying ht, sizeOf, typeInfo, hi, Builtin.lenOf, Builtin.firstCells, loadCells, hle, Addr.add_lit, hs1, r1]
    · have hfc := run_firstCells_some (P := P) w i.size news.length a news.length c news (by rw [hs1, Nat.mul_one]) hnews
      rw [hs1] at hfc
      simp [Builtin.append_, run_underlying ht, sizeOf, typeInfo, hi, Builtin.lenOf, hroom, hfc, Addr.add_lit, hs1, r1]
  · rcases hsrc with ⟨rfl, h0⟩ | ⟨a, rfl, hnews⟩
    · omega
    · have hr := run_append_grow (P := P) w t ty T i z ht hi hz ⟨g, 0, none⟩ xs.length cap xs (by rw [hs1, Nat.mul_one]) (fun j u hu => (hcells j u hu).1) a news.length c news (by rw [hs1, Nat.mul_one]) hnews (by omega) (by omega) (by rw [hby]; exact growslice_fits (by omega) (by omega))
      have hge := grownCap_ge w (xs.length + news.length) cap T
      have hcm := grownCap_le_maxLen w (xs.length + news.length) cap T (by unfold maxLen; omega)
      have hnew := ownZ_new (w := w) (base := base) (T := T) (xs := xs ++ news) (cap := grownCap w (xs.length + news.length) cap T) (z := Builtin.zeroCells z.cells (grownCap w (xs.length + news.length) cap T - (xs.length + news.length))) (by rw [size_zeroCells, hz1, List.length_append]; omega) hbase (by rw [List.length_append]; exact hge) hcm
      refine ⟨_, _, hr, ?_, ?_⟩
      · rw [List.length_append] at hnew
        simpa using hnew
      · exact ((Below.refl _ w).drew).alloc hbase _
theorem strCells_one (s : ByteArray) : ∀ v ∈ Lib.strCells s, v.oneCell' = true := by
  intro v hv
  rw [Lib.strCells_eq] at hv
  unfold Lib.byteCells at hv
  obtain ⟨x, _, rfl⟩ := List.mem_map.1 hv
  rfl
/-- A text is appended. -/
theorem run_appendZ_str (t u ty : TypeId) (i : TypeInfo) (ht : P.underlying t = some (.slice T)) (hu : P.underlying u = some .string) (hi : P.info? T = some i) (hz : i.zero = some (.int .u8 0)) (hs1 : i.size = 1) (hby : i.bytes = 1)
    (v : Value) (xs : List Value) (hown : OwnZ w base T v xs) (s : ByteArray) (hn : xs.length + s.size ≤ 1000000) (hbase : base ≤ w.heap.size) :
    ∃ v' w', (Builtin.append_ #[t, u] ty #[v, .string s]).run P w = .ok v' w' ∧ OwnZ w' base T v' (xs ++ Lib.strCells s) ∧ Below base w w' := by
  obtain ⟨g0, cap0, hv0, _, hlt, _, _, hcells⟩ := hown.cells
  obtain ⟨g, cap, cur, fz, rfl, hb, hg, hf, hle, hm, hcs, hx⟩ := hown
  injection hv0 with e1 e2 e3
  injection e1 with e1
  injection e1 with e1
  subst e1
  have hsl : (Lib.strCells s).length = s.size := Lib.strCells_length s
  have hfc := Lib.run_firstCells_string (P := P) w 1 s
  by_cases hroom : xs.length + s.size ≤ cap
  · obtain ⟨w', cur', r1, r2, r3, r4⟩ := storeZ P g xs.length T fz (Lib.strCells s) 0 cur w hg (by omega) (by omega) (strCells_one s)
    refine ⟨.slice (some ⟨g, 0, none⟩) (xs ++ Lib.strCells s).length cap, w', ?_, ownZ_room hb hf (by omega) hm hcs hx r2 r3 r4, r2.below hb⟩
    simp [Builtin.append_, run_underlying ht, run_underlying hu, sizeOf, typeInfo, hi, Builtin.lenOf, hroom, hfc, Addr.add_lit, hs1, r1, hsl]
  · have hr := Lib.run_append_grow_string (P := P) w t u ty T i (.int .u8 0) ht hu hi hz ⟨g, 0, none⟩ xs.length cap xs (by rw [hs1, Nat.mul_one]) (fun j u hu => (hcells j u hu).1) s (by omega) (by omega) (by rw [hby]; exact growslice_fits (by omega) (by omega))
    have hge := grownCap_ge w (xs.length + s.size) cap T
    have hcm := grownCap_le_maxLen w (xs.length + s.size) cap T (by unfold maxLen; omega)
    have hnew := ownZ_new (w := w) (base := base) (T := T) (xs := xs ++ Lib.strCells s) (cap := grownCap w (xs.length + s.size) cap T) (z := Builtin.zeroCells (Value.int .u8 0).cells (grownCap w (xs.length + s.size) cap T - (xs.length + s.size))) (by rw [size_zeroCells, List.length_append, hsl]; show _ * 1 = _; omega) hbase (by rw [List.length_append, hsl]; exact hge) hcm
    refine ⟨_, _, hr, ?_, ((Below.refl _ w).drew).alloc hbase _⟩
    rw [List.length_append, hsl] at hnew
    simpa using hnew
/-- What a conversion from a text leaves. -/
theorem ownZ_conv (w : World) (T : TypeId) (s : ByteArray) (hn : s.size ≤ 1000000) : OwnZ (Lib.bytesWorld w T s) w.heap.size T (.slice (some ⟨w.heap.size, 0, none⟩) s.size (grownCap w s.size 0 T)) (Lib.strCells s) := by
  have hge := grownCap_ge w s.size 0 T
  have hcm := grownCap_le_maxLen w s.size 0 T (by unfold maxLen; omega)
  have hsz : (Lib.bytesCells w T s).size = grownCap w s.size 0 T := by
    have : s.data.size = s.size := rfl
    unfold Lib.bytesCells
    simp [this]; omega
  refine ⟨w.heap.size, grownCap w s.size 0 T, _, _, by rw [Lib.strCells_length], Nat.le_refl _, Lib.bytesWorld_at_new w T s, .inl (by rw [hsz]; exact Nat.le_refl _), by rw [Lib.strCells_length]; exact hge, hcm, hsz, fun j hj => ?_⟩
  rw [Lib.strCells_length] at hj
  have hjd : j < s.data.size := hj
  unfold Lib.bytesCells Lib.strCells
  rw [Array.getElem?_append_left (by simpa using hj)]
  simp
end
end Go.Proofs.YthmflcmbaldflaaGreatDoor
