/- A row of strings that the call owns, and that grows; version(n); its text; strings.Join. -/
import Derived.Test.YtpnchjbdjcihfaaGreatDoorVerW
import Derived.Test.YtpnchjbdjcihfaaGreatDoorRTxtM
import Derived.Test.YtpnchjbdjcihfaaGreatDoorShelfJ
import Derived.Laws.AppendOwn
import Derived.Deep.AppendLies
import Derived.Shelf.Strings.OnBuilder
namespace Go.Proofs.YtpnchjbdjcihfaaGreatDoor
open Go.RowKit
set_option linter.unusedVariables false

/-- The row's texts. -/
def strF (xs : List (List UInt8)) : List Value := xs.map fun x => .string (wordB x)
theorem infoStrS : (Tryz.prog.info? 9).map (fun i => (i.zero, i.size, i.bytes)) = some (some (.string ⟨#[]⟩), 1, 16) := by kernel_rfl
theorem under_strs : Tryz.prog.underlying 61 = some (.slice 9) := by kernel_rfl
def OutS (w : World) (base : Nat) (v : Value) (xs : List (List UInt8)) : Prop := w.ownsRow base 9 1 v xs.length (strF xs)
theorem OutS.nil (w : World) (base : Nat) : OutS w base (.slice none 0 0) [] := ⟨rfl, .inl ⟨rfl, rfl⟩⟩
theorem OutS.keep {w w' : World} {base : Nat} {v : Value} {xs : List (List UInt8)} (h : OutS w base v xs) (hk : ∀ b, v.ownBlock = some b → w'.heap[b]? = w.heap[b]?) : OutS w' base v xs := by
  obtain ⟨h0, h1 | ⟨g, cap, cur, e, h1, h2, h3⟩⟩ := h
  · exact ⟨h0, .inl h1⟩
  · exact ⟨h0, .inr ⟨g, cap, cur, e, h1, (hk g (by rw [e]; rfl)).trans h2, h3⟩⟩
theorem OutS.below {w w' : World} {base : Nat} {v : Value} {xs : List (List UInt8)} (h : OutS w base v xs) (hb : Below w.heap.size w w') : OutS w' base v xs :=
  h.keep (fun b e => hb.block b (World.ownsRow.lt h b e).2)
theorem OutS.shape {w : World} {base : Nat} {v : Value} {xs : List (List UInt8)} (h : OutS w base v xs) : ∃ a c, v = .slice a xs.length c := by
  obtain ⟨h0, ⟨h1, h2⟩ | ⟨g, cap, cur, e, h1, h2, h3, h4, h5⟩⟩ := h
  · exact ⟨none, 0, by rw [h2]; exact h1⟩
  · exact ⟨some ⟨g, 0, none⟩, cap, e⟩
theorem OutS.row {w : World} {base : Nat} {v : Value} {xs : List (List UInt8)} (h : OutS w base v xs) (hne : 0 < xs.length) :
    ∃ g c, v = .slice (some ⟨g, 0, none⟩) xs.length c ∧ g < w.heap.size ∧ xs.length ≤ c ∧ ∀ (j : Nat) x, (xs.map wordB)[j]? = some x → w.cell? ⟨g, 0 + j, none⟩ = some (.string x) := by
  obtain ⟨h0, ⟨h1, h2⟩ | ⟨g, cap, cur, e, h1, h2, h3, h4, h5, h6⟩⟩ := h
  · omega
  · refine ⟨g, cap, e, (Array.getElem?_eq_some_iff.1 h2).1, h3, fun j x hx => ?_⟩
    rw [cell_of_row w g _ cur _ _ h2, Nat.zero_add]
    have hj : j < xs.length := by
      have := (List.getElem?_eq_some_iff.1 hx).1
      simpa using this
    have e1 : (cur.toList.take (xs.length * 1))[j]? = (strF xs)[j]? := by rw [h6]
    rw [List.getElem?_take_of_lt (by omega), Array.getElem?_toList] at e1
    rw [e1]
    unfold strF
    rw [List.getElem?_map] at hx ⊢
    cases hq : xs[j]? with
    | none => rw [hq] at hx; cases hx
    | some y => rw [hq] at hx; cases hx; rfl
set_option maxHeartbeats 1000000 in
/-- An append of one text. -/
theorem wpList_append_str {W : World} {ops : Array Oper} {rest : List Oper} {o : Oper} {a : Act} {Q : Exit → Act → World → Prop} (hgd : o.guard = none) (s x : Operand)
    (ho : o.op = .call { callee := .builtin .append, args := #[s, x], argTypes := #[61, 61] })
    (base : Nat) (v : Value) (xs : List (List UInt8)) (hs : a.eval s = v) (hr : OutS W base v xs) (y : List UInt8) (yb : ByteArray) (hy : yb = wordB y)
    (q : Nat) (hq : q = W.heap.size) (hx : a.eval x = .slice (some ⟨q, 0, none⟩) 1 1) (hn : xs.length + 1 ≤ 1000000) (hbase : base ≤ W.heap.size)
    (h : ∀ v' w', OutS w' base v' (xs ++ [y]) → Below base W w' → (∀ k, k < W.heap.size → v.ownBlock ≠ some k → w'.heap[k]? = W.heap[k]?) → wpList Tryz.prog ops Q rest (a.put o.dst v') w') : wpList Tryz.prog ops Q (o :: rest) a (W.alloc (.cells #[.string yb] 9)) := by
  subst hq hy
  obtain ⟨i0, hi0, hz0, hz1, hz2⟩ := info_parts infoStrS
  have hal : Below W.heap.size W (W.alloc (.cells #[.string (wordB y)] 9)) := (Below.refl _ _).alloc (Nat.le_refl _) _
  have hb : (W.alloc (.cells #[.string (wordB y)] 9)).heap[W.heap.size]? = some (.cells #[.string (wordB y)] 9 (0, 0)) := heap_at rfl
  have hcell : ∀ (j : Nat) (u' : Value), [Value.string (wordB y)][j]? = some u' → (W.alloc (.cells #[.string (wordB y)] 9)).cell? ((⟨W.heap.size, 0, none⟩ : Addr).add j) = some u' := by
    intro j u' hu
    rw [show (⟨W.heap.size, 0, none⟩ : Addr).add j = ⟨W.heap.size, j, none⟩ from by simp [Addr.add]; exact fun h => h.symm, cell_of_row _ _ _ _ _ _ hb]
    simpa using hu
  have hr' : OutS (W.alloc (.cells #[.string (wordB y)] 9)) base v xs := hr.below hal
  refine wpList_append_own _ hgd s x 61 ho base 9 i0 (.string ⟨#[]⟩) 1 16 under_strs hi0 hz0 hz1 hz2 rfl (by decide) v xs.length _ hs hr' ⟨W.heap.size, 0, none⟩ 1 1 [.string (wordB y)] hx rfl hcell (fun u hu => by
    simp at hu; subst hu; rfl) (by simp only [maxLen]; omega) (by omega) (by simp; omega) (fun v' w' h2 h3 _ => ?_)
  refine h v' w' ?_ ?_ (fun k hk hne => (h3.block k (by simp; omega) (fun e => hne e.symm)).trans (hal.block k hk))
  · unfold OutS strF
    rw [List.map_append, List.length_append]
    exact h2
  · exact (hal.mono hbase).grown h3 (by simp; omega) (fun j hj => (World.ownsRow.lt hr' j hj).1)

set_option maxHeartbeats 1000000 in
/-- The same at a step of a region that draws its order. -/
theorem step_append_str {W : World} {ops : Array Oper} {o : Oper} {a : Act} {K : Act → World → Prop} {Q : Exit → Act → World → Prop} {E : Prop} (hgd : o.guard = none) (s x : Operand)
    (ho : o.op = .call { callee := .builtin .append, args := #[s, x], argTypes := #[61, 61] })
    (base : Nat) (v : Value) (xs : List (List UInt8)) (hs : a.eval s = v) (hr : OutS W base v xs) (y : List UInt8) (yb : ByteArray) (hy : yb = wordB y)
    (q : Nat) (hq : q = W.heap.size) (hx : a.eval x = .slice (some ⟨q, 0, none⟩) 1 1) (hn : xs.length + 1 ≤ 1000000) (hbase : base ≤ W.heap.size)
    (h : ∀ g cap w', OutS w' base (.slice (some ⟨g, 0, none⟩) (xs.length + 1) cap) (xs ++ [y]) → Below base W w' → (∀ k, k < W.heap.size → v.ownBlock ≠ some k → w'.heap[k]? = W.heap[k]?) → K (a.put o.dst (.slice (some ⟨g, 0, none⟩) (xs.length + 1) cap)) w') :
    if Region.wanted o (yielded ops a.tmps) = true then Oper.wp Tryz.prog o a (W.alloc (.cells #[.string yb] 9)) K Q else E := by
  subst hq hy
  obtain ⟨i0, hi0, hz0, hz1, hz2⟩ := info_parts infoStrS
  have hal : Below W.heap.size W (W.alloc (.cells #[.string (wordB y)] 9)) := (Below.refl _ _).alloc (Nat.le_refl _) _
  have hb : (W.alloc (.cells #[.string (wordB y)] 9)).heap[W.heap.size]? = some (.cells #[.string (wordB y)] 9 (0, 0)) := heap_at rfl
  have hr' : OutS (W.alloc (.cells #[.string (wordB y)] 9)) base v xs := hr.below hal
  refine step_append_lies _ hgd s x 61 ho base 9 i0 (.string ⟨#[]⟩) 1 16 under_strs hi0 hz0 hz1 hz2 rfl (by decide) v xs.length _ hs hr' ⟨W.heap.size, 0, none⟩ 1 1 [.string (wordB y)] hx rfl (World.news_of_block hb) (fun u hu => by
    simp at hu; subst hu; rfl) (by decide) (by simp only [maxLen]; omega) (by omega) (by simp; omega) _ rfl (fun g cap w' h2 h3 _ _ => ?_)
  refine h g cap w' ?_ ?_ (fun k hk hne => (h3.block k (by simp; omega) (fun e => hne e.symm)).trans (hal.block k hk))
  · unfold OutS strF
    rw [List.map_append, List.length_append]
    exact h2
  · exact (hal.mono hbase).grown h3 (by simp; omega) (fun j hj => (World.ownsRow.lt hr' j hj).1)

theorem builderX : Builder.Extra Tryz.prog Tryz.lays156_ren where
  sizeBuilder := by kernel_rfl
  liesBuilder := by kernel_rfl
  t5 := Tryz.underlying5
  a5 := Tryz.isAgg5
  z5 := Tryz.sizeOf5
  v5 := Tryz.zeroValue5
  infoByte := by kernel_rfl
  cellsByte := by kernel_rfl
  sizeByte := by kernel_rfl
  neB5 := by decide
/-- strings.Join of a row that the call owns, not empty. -/
theorem join_any (base : Nat) (v : Value) (xs : List (List UInt8)) (sep : List UInt8) (w : World) (h : OutS w base v xs) (hne : 0 < xs.length) (hn : xs.length ≤ 1000000) (hlen : (Lib.join xs sep).length ≤ 140737488355328) :
    Calls Tryz.prog 31 #[v, .string (wordB sep)] w fun e w' => e = .returned (.string (wordB (Lib.join xs sep))) ∧ Below w.heap.size w w' := by
  obtain ⟨g, c, rfl, hg, hc, hcells⟩ := h.row hne
  have em : (xs.map wordB).map (·.data.toList) = xs := by simp [List.map_map, Function.comp_def, wordB_data]
  have := Any.strings_Join Tryz.lays156 builderX g 0 c (xs.map wordB) (wordB sep) w hcells hg (by simp; omega) (by simpa using hc) (by rw [em, wordB_data]; exact hlen)
  rw [em, wordB_data, List.length_map] at this
  exact this
end Go.Proofs.YtpnchjbdjcihfaaGreatDoor
