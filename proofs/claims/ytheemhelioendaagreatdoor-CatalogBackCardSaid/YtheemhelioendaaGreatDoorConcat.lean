/- Contracts: slices.Grow and Concat at spans; Range.Or. -/
import Derived.Test.YtheemhelioendaaGreatDoorSame
import Derived.Test.YtheemhelioendaaGreatDoorShelfG
namespace Go.Proofs.YtheemhelioendaaGreatDoor
open Go.RowKit
set_option linter.unusedVariables false

section
variable {P : Program} {w : World}
theorem run_append_nil (base : Nat) (t ty e : TypeId) (i : TypeInfo) (size c : Nat) (ht : P.underlying t = some (.slice e)) (hi : P.info? e = some i)
    (v : Value) (n : Nat) (xs : List Value) (hown : w.ownsRow base e size v n xs) :
    (Builtin.append_ #[t, t] ty #[v, .slice none 0 c]).run P w = .ok v w := by
  rcases hown.2 with ⟨rfl, rfl⟩ | ⟨g, cap, cur, rfl, _, _, hnc, _⟩
  · simp [Builtin.append_, run_underlying ht, sizeOf, typeInfo, hi, Builtin.lenOf, Builtin.firstCells]
  · simp [Builtin.append_, run_underlying ht, sizeOf, typeInfo, hi, Builtin.lenOf, Builtin.firstCells, hnc, storeCells]
theorem wpList_append_nil {ops : Array Oper} {rest : List Oper} {o : Oper} {a : Act} {Q : Exit → Act → World → Prop} (hgd : o.guard = none) (s x : Operand) (t : TypeId)
    (ho : o.op = .call { callee := .builtin .append, args := #[s, x], argTypes := #[t, t] })
    (base : Nat) (e : TypeId) (i : TypeInfo) (size c : Nat) (ht : P.underlying t = some (.slice e)) (hi : P.info? e = some i)
    (v : Value) (n : Nat) (xs : List Value) (hs : a.eval s = v) (hown : w.ownsRow base e size v n xs) (hx : a.eval x = .slice none 0 c)
    (h : wpList P ops Q rest (a.put o.dst v) w) : wpList P ops Q (o :: rest) a w := by
  refine wpList_plain hgd fun K hK => ?_
  have hrun := run_append_nil (P := P) (w := w) base t o.type e i size c ht hi v n xs hown
  unfold Oper.wp
  simp [execOp, ho, resolve, invoke, builtin, hs, hx, hrun, Result.andThen]
  exact hK _ _ h
end
theorem OutR.of_own0 {w : World} {base : Nat} {v : Value} {n : Nat} {f : Nat → Spn} (h : w.ownsRow base 115 2 v n (flatF n f)) : OutR w base v n f := by
  obtain ⟨hl, h0 | ⟨g, cap, cur, e, h1, h2, h3, h4, h5, h6⟩⟩ := h
  · exact .inl h0
  · refine .inr ⟨g, cap, e, h1, h4, cur, h2, h3, h5, fun k hk => ?_⟩
    have get : ∀ t, t < n * 2 → cur[t]? = (flatF n f)[t]? := fun t ht => by
      rw [← h6, List.getElem?_take_of_lt ht, Array.getElem?_toList]
    rw [get _ (by omega), get _ (by omega), flatF_get (by omega), flatF_get (by omega), if_pos (by omega), if_neg (by omega), show k * 2 / 2 = k by omega, show (k * 2 + 1) / 2 = k by omega]
    exact ⟨rfl, rfl⟩
def catF (n : Nat) (f h : Nat → Spn) : Nat → Spn := fun k => if k < n then f k else h (k - n)
theorem flatF_cat (n m : Nat) (f h : Nat → Spn) : flatF (n + m) (catF n f h) = flatF n f ++ flatF m h := by
  apply List.ext_getElem?
  intro t
  by_cases ht : t < (n + m) * 2
  · rw [flatF_get ht]
    by_cases h1 : t < n * 2
    · rw [List.getElem?_append_left (by rw [flatF_len]; exact h1), flatF_get h1, show catF n f h (t / 2) = f (t / 2) from if_pos (by omega)]
    · rw [List.getElem?_append_right (by rw [flatF_len]; omega), flatF_len, flatF_get (by omega), show catF n f h (t / 2) = h (t / 2 - n) from if_neg (by omega), show (t - n * 2) % 2 = t % 2 by omega, show (t - n * 2) / 2 = t / 2 - n by omega]
  · rw [List.getElem?_eq_none (by rw [flatF_len]; omega), List.getElem?_eq_none (by rw [List.length_append, flatF_len, flatF_len]; omega)]
theorem spL_cat (n m : Nat) (f h : Nat → Spn) : spL (n + m) (catF n f h) = spL n f ++ spL m h := by
  apply List.ext_getElem
  · simp [spL_len]
  · intro i h1 h2
    rw [spL_len] at h1
    by_cases h3 : i < n
    · rw [List.getElem_append_left (by rw [spL_len]; exact h3)]
      simp [spL, catF, h3]
    · rw [List.getElem_append_right (by rw [spL_len]; omega)]
      simp [spL, catF, h3]
/-- An append of a row that lies anywhere. -/
theorem wpList_append_spans {w : World} {ops : Array Oper} {rest : List Oper} {o : Oper} {a : Act} {Q : Exit → Act → World → Prop} (hgd : o.guard = none) (s x : Operand)
    (ho : o.op = .call { callee := .builtin .append, args := #[s, x], argTypes := #[47, 47] })
    (base : Nat) (v : Value) (n : Nat) (f : Nat → Spn) (hs : a.eval s = v) (hown : OutR w base v n f)
    (src : Value) (ys : List Spn) (hx : a.eval x = src) (hsrc : IsSp w src ys) (hn : n + ys.length ≤ 1000000) (hbase : base ≤ w.heap.size)
    (h : ∀ v' w' f', OutR w' base v' (n + ys.length) f' → spL (n + ys.length) f' = spL n f ++ ys → Below base w w' → wpList Tryz.prog ops Q rest (a.put o.dst v') w') : wpList Tryz.prog ops Q (o :: rest) a w := by
  obtain ⟨i0, hi, hz0, hz1, hz2⟩ := info_parts infoSpan
  rcases hsrc with ⟨rfl, rfl⟩ | ⟨g, cap, fy, rfl, h1, h2, h3⟩
  · refine wpList_append_nil hgd s x 47 ho base 115 i0 2 0 under_spans hi v n _ hs hown.own hx ?_
    exact h v w f hown (by simp) (Below.refl _ _)
  · refine wpList_append_own w hgd s x 47 ho base 115 i0 (.agg #[.int .i64 0, .int .i64 0]) 2 16 under_spans hi hz0 hz1 hz2 rfl (by decide) v n _ hs hown.own ⟨g, 0, none⟩ ys.length cap (flatF ys.length fy) hx (flatF_len _ _) (fun j u hu => ?_) (fun u hu => ?_) (by simp only [maxLen]; omega) (by omega) hbase (fun v' w' ho' hg _ => ?_)
    · have hj : j < ys.length * 2 := by
        have := (List.getElem?_eq_some_iff.1 hu).1; rwa [flatF_len] at this
      rw [flatF_get hj] at hu
      rw [show (⟨g, 0, none⟩ : Addr).add j = ⟨g, j, none⟩ from by simp [Addr.add]; exact fun h => h.symm]
      rw [← hu]
      rcases (show j % 2 = 0 ∨ j % 2 = 1 by omega) with e | e
      · rw [if_pos e]
        have := h2.cell1 (k := j / 2) (by omega)
        rwa [show j / 2 * 2 = j by omega] at this
      · rw [if_neg (by omega)]
        have := h2.cell2 (k := j / 2) (by omega)
        rwa [show j / 2 * 2 + 1 = j by omega] at this
    · obtain ⟨t, ht, rfl⟩ := List.mem_map.1 hu
      split <;> rfl
    · rw [← flatF_cat] at ho'
      exact h v' w' _ (OutR.of_own0 ho') (by rw [spL_cat, h3]) ((Below.refl base w).grown hg hbase (fun j hj => (hown.own.lt j hj).1))

theorem grow_any (n : Nat) (w : World) (hn : n ≤ 1000000) : Calls Tryz.prog 176 #[.slice none 0 0, .int .i64 n] w fun e w' => ∃ v, e = .returned v ∧ OutR w' w.heap.size v 0 (fun _ => (0, 0)) ∧ Below w.heap.size w w' := by
  obtain ⟨i0, hi, hz0, hz1, hz2⟩ := info_parts infoSpan
  rcases Nat.eq_zero_or_pos n with rfl | h0
  · refine Calls.mono (Any8.slices_Grow_room Tryz.growL none 0 0 0 w (by omega) (by omega) (by omega) (by omega)) ?_
    rintro e w' ⟨rfl, rfl⟩
    exact ⟨_, rfl, OutR.nil _ _ _, Below.refl _ _⟩
  · refine Calls.mono (Any8.slices_Grow_grow Tryz.growL i0 (.agg #[.int .i64 0, .int .i64 0]) hi hz0 (by omega) none 0 0 n [] w (by omega) (by omega) (by rw [hz2]; omega) (by omega) (by simp) (fun _ => rfl) (fun a h => by cases h)) ?_
    rintro e w' ⟨rfl, rfl⟩
    refine ⟨_, rfl, .inr ⟨w.heap.size, _, rfl, Nat.le_refl _, grownCap_le_maxLen _ _ _ _ (by simp only [maxLen]; omega), _, heap_at rfl, Nat.zero_le _, ?_, fun k hk => absurd hk (by omega)⟩, (Below.refl _ _).drew.alloc (Nat.le_refl _) _⟩
    have hge := grownCap_ge w (0 + n) 0 115
    have hcc : (Value.agg #[.int .i64 0, .int .i64 0]).cells = #[.int .i64 0, .int .i64 0] := rfl
    simp only [hcc, Builtin.zeroCells, Array.size_append, Array.size_map, Array.size_range]
    show 0 + (0 + n - 0) * 2 + (grownCap w (0 + n) 0 115 - (0 + n)) * 2 = grownCap w (0 + n) 0 115 * 2
    omega
end Go.Proofs.YtheemhelioendaaGreatDoor
