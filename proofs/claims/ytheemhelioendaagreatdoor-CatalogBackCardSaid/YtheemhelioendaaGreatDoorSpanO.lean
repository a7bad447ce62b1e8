/- A row of spans that the call owns, and that grows. -/
import Derived.Test.YtheemhelioendaaGreatDoorSpanF
import Derived.Laws.AppendOwn
namespace Go.Proofs.YtheemhelioendaaGreatDoor
open Go.RowKit
set_option linter.unusedVariables false

def flatF (n : Nat) (f : Nat → Spn) : List Value := (List.range (n * 2)).map (fun t => if t % 2 = 0 then .int .i64 (f (t / 2)).1 else .int .i64 (f (t / 2)).2)
theorem flatF_len (n : Nat) (f : Nat → Spn) : (flatF n f).length = n * 2 := by simp [flatF]
theorem flatF_get {n : Nat} {f : Nat → Spn} {t : Nat} (h : t < n * 2) : (flatF n f)[t]? = some (if t % 2 = 0 then .int .i64 (f (t / 2)).1 else .int .i64 (f (t / 2)).2) := by
  unfold flatF; rw [List.getElem?_map, List.getElem?_range h]; rfl
/-- The row of the first n, in memory of the call's own; nil too. -/
def OutR (w : World) (base : Nat) (v : Value) (n : Nat) (f : Nat → Spn) : Prop :=
  (v = .slice none 0 0 ∧ n = 0) ∨ ∃ g cap, v = .slice (some ⟨g, 0, none⟩) n cap ∧ base ≤ g ∧ cap ≤ maxLen ∧ SRow w g cap n f
theorem OutR.nil (w : World) (base : Nat) (f : Nat → Spn) : OutR w base (.slice none 0 0) 0 f := .inl ⟨rfl, rfl⟩
theorem OutR.below {w w' : World} {base : Nat} {v : Value} {n : Nat} {f : Nat → Spn} (h : OutR w base v n f) (hb : Below w.heap.size w w') : OutR w' base v n f := by
  rcases h with h | ⟨g, cap, e, h1, h2, h3⟩
  · exact .inl h
  · exact .inr ⟨g, cap, e, h1, h2, h3.keep (hb.block g h3.lt)⟩
theorem OutR.own {w : World} {base : Nat} {v : Value} {n : Nat} {f : Nat → Spn} (h : OutR w base v n f) : w.ownsRow base 115 2 v n (flatF n f) := by
  refine ⟨flatF_len n f, ?_⟩
  rcases h with h | ⟨g, cap, e, h1, h2, cur, q1, q2, q3, q4⟩
  · exact .inl h
  · refine .inr ⟨g, cap, cur, e, h1, q1, q2, h2, q3, ?_⟩
    apply List.ext_getElem?
    intro t
    by_cases ht : t < n * 2
    · rw [List.getElem?_take_of_lt ht, flatF_get ht, Array.getElem?_toList]
      have h5 := q4 (t / 2) (by omega)
      rcases (show t % 2 = 0 ∨ t % 2 = 1 by omega) with e | e
      · rw [if_pos e]
        have h6 := h5.1
        rwa [show t / 2 * 2 = t by omega] at h6
      · rw [if_neg (by omega)]
        have h6 := h5.2
        rwa [show t / 2 * 2 + 1 = t by omega] at h6
    · rw [List.getElem?_eq_none (by rw [List.length_take]; omega), List.getElem?_eq_none (by rw [flatF_len]; omega)]
theorem OutR.of_own {w : World} {base : Nat} {v : Value} {n : Nat} {f : Nat → Spn} {a b : Int} (h : w.ownsRow base 115 2 v (n + 1) (flatF n f ++ [.int .i64 a, .int .i64 b])) : OutR w base v (n + 1) (fun k => if k = n then (a, b) else f k) := by
  obtain ⟨hl, ⟨_, h0⟩ | ⟨g, cap, cur, e, h1, h2, h3, h4, h5, h6⟩⟩ := h
  · omega
  · refine .inr ⟨g, cap, e, h1, h4, cur, h2, h3, h5, fun k hk => ?_⟩
    have get : ∀ t, t < (n + 1) * 2 → cur[t]? = (flatF n f ++ [.int .i64 a, .int .i64 b])[t]? := fun t ht => by
      rw [← h6, List.getElem?_take_of_lt ht, Array.getElem?_toList]
    rw [get _ (by omega), get _ (by omega)]
    dsimp only
    by_cases e : k = n
    · subst e
      rw [if_pos rfl, List.getElem?_append_right (by rw [flatF_len]; omega), List.getElem?_append_right (by rw [flatF_len]; omega), flatF_len]
      refine ⟨?_, ?_⟩
      · rw [show k * 2 - k * 2 = 0 by omega]; rfl
      · rw [show k * 2 + 1 - k * 2 = 1 by omega]; rfl
    · rw [if_neg e, List.getElem?_append_left (by rw [flatF_len]; omega), List.getElem?_append_left (by rw [flatF_len]; omega), flatF_get (by omega), flatF_get (by omega), if_pos (by omega), if_neg (by omega), show k * 2 / 2 = k by omega, show (k * 2 + 1) / 2 = k by omega]
      exact ⟨rfl, rfl⟩
theorem OutR.lt {w : World} {base : Nat} {v : Value} {n : Nat} {f : Nat → Spn} (h : OutR w base v n f) : ∀ b, v.ownBlock = some b → b < w.heap.size := fun b hb => (h.own.lt b hb).2
theorem SRow.set2 {w : World} {g cap n : Nat} {f : Nat → Spn} (h : SRow w g cap n f) (j : Nat) (b : Int) : SRow (w.setCell ⟨g, j * 2 + 1, none⟩ (.int .i64 b)) g cap n (fun k => if k = j then ((f j).1, b) else f k) := by
  obtain ⟨cur, h1, h2, h3, h4⟩ := h
  refine ⟨_, heap_set h1 _ _, h2, by simp [h3], fun k hk => ?_⟩
  dsimp only
  by_cases e : k = j
  · subst e
    rw [if_pos rfl]
    exact ⟨by rw [Array.getElem?_setIfInBounds_ne (by omega)]; exact (h4 k hk).1, by rw [Array.getElem?_setIfInBounds_self_of_lt (by omega)]⟩
  · rw [if_neg e]
    exact ⟨by rw [Array.getElem?_setIfInBounds_ne (by omega)]; exact (h4 k hk).1, by rw [Array.getElem?_setIfInBounds_ne (by omega)]; exact (h4 k hk).2⟩
theorem infoSpan : (Tryz.prog.info? 115).map (fun i => (i.zero, i.size, i.bytes)) = some (some (.agg #[.int .i64 0, .int .i64 0]), 2, 16) := by kernel_rfl
set_option maxHeartbeats 1000000 in
/-- An append of one span. -/
theorem wpList_append_span {W : World} {ops : Array Oper} {rest : List Oper} {o : Oper} {a : Act} {Q : Exit → Act → World → Prop} (hgd : o.guard = none) (s x : Operand)
    (ho : o.op = .call { callee := .builtin .append, args := #[s, x], argTypes := #[47, 47] })
    (base : Nat) (v : Value) (n : Nat) (f : Nat → Spn) (hs : a.eval s = v) (hr : OutR W base v n f) (lo hi : Int)
    (q : Nat) (hq : q = W.heap.size) (hx : a.eval x = .slice (some ⟨q, 0, none⟩) 1 1) (hn : n + 1 ≤ 1000000) (hbase : base ≤ W.heap.size)
    (h : ∀ v' w', OutR w' base v' (n + 1) (fun k => if k = n then (lo, hi) else f k) → Below base W w' → (∀ k, k < W.heap.size → v.ownBlock ≠ some k → w'.heap[k]? = W.heap[k]?) → wpList Tryz.prog ops Q rest (a.put o.dst v') w') : wpList Tryz.prog ops Q (o :: rest) a (W.alloc (.cells #[.int .i64 lo, .int .i64 hi] 115)) := by
  subst hq
  obtain ⟨i0, hi0, hz0, hz1, hz2⟩ := info_parts infoSpan
  have hal : Below W.heap.size W (W.alloc (.cells #[.int .i64 lo, .int .i64 hi] 115)) := (Below.refl _ _).alloc (Nat.le_refl _) _
  have hb : (W.alloc (.cells #[.int .i64 lo, .int .i64 hi] 115)).heap[W.heap.size]? = some (.cells #[.int .i64 lo, .int .i64 hi] 115 (0, 0)) := heap_at rfl
  have hcell : ∀ (j : Nat) (u' : Value), [Value.int .i64 lo, .int .i64 hi][j]? = some u' → (W.alloc (.cells #[.int .i64 lo, .int .i64 hi] 115)).cell? ((⟨W.heap.size, 0, none⟩ : Addr).add j) = some u' := by
    intro j u' hu
    rw [show (⟨W.heap.size, 0, none⟩ : Addr).add j = ⟨W.heap.size, j, none⟩ from by simp [Addr.add]; exact fun h => h.symm, cell_of_row _ _ _ _ _ _ hb]
    simpa using hu
  have hr' := hr.below hal
  refine wpList_append_own _ hgd s x 47 ho base 115 i0 (.agg #[.int .i64 0, .int .i64 0]) 2 16 under_spans hi0 hz0 hz1 hz2 rfl (by decide) v n _ hs hr'.own ⟨W.heap.size, 0, none⟩ 1 1 [.int .i64 lo, .int .i64 hi] hx rfl hcell (fun u hu => by
    simp at hu; rcases hu with rfl | rfl <;> rfl) (by simp only [maxLen]; omega) (by omega) (by simp; omega) (fun v' w' h2 h3 _ => ?_)
  refine h v' w' (OutR.of_own h2) ?_ (fun k hk hne => (h3.block k (by simp; omega) (fun e => hne e.symm)).trans (hal.block k hk))
  exact (hal.mono hbase).grown h3 (by simp; omega) (fun j hj => (hr'.own.lt j hj).1)
end Go.Proofs.YtheemhelioendaaGreatDoor
