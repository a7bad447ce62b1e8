/- clear at a row of spans; what a deletion keeps. -/
import Derived.Test.YtheemhelioendaaGreatDoorSpan
import Derived.Laws.Tables
import Derived.Laws.CopyRow
namespace Go.Proofs.YtheemhelioendaaGreatDoor
open Go.RowKit
set_option linter.unusedVariables false

theorem under_spans : Tryz.prog.underlying 47 = some (.slice 115) := by kernel_rfl

theorem SRow.setRow {w : World} {g cap n i : Nat} {f : Nat → Spn} {vs : List Value} (h : SRow w g cap n f) (hi : i ≤ n) (hl : i * 2 + vs.length = n * 2) (cur : Array Value) (hg : w.heap[g]? = some (.cells cur 115 (0, 0))) : SRow (w.setRow g (cur.toList.take (i * 2 + 0) ++ vs ++ cur.toList.drop (i * 2 + 0 + vs.length)).toArray) g cap i f := by
  obtain ⟨cur2, h1, h2, h3, h4⟩ := h
  rw [hg] at h1
  cases h1
  refine ⟨_, setRow_heap w g cur _ _ _ hg, by omega, ?_, fun k hk => ?_⟩
  · simp; omega
  · have h5 := h4 k (by omega)
    rw [List.append_assoc]
    refine ⟨?_, ?_⟩
    · rw [List.getElem?_toArray, List.getElem?_append_left (by simp; omega), List.getElem?_take_of_lt (by omega)]
      simpa using h5.1
    · rw [List.getElem?_toArray, List.getElem?_append_left (by simp; omega), List.getElem?_take_of_lt (by omega)]
      simpa using h5.2
theorem wpList_clear_spans {w : World} {ops : Array Oper} {rest : List Oper} {o : Oper} {a : Act} {Q : Exit → Act → World → Prop} (hgd : o.guard = none) (x : Operand)
    (ho : o.op = .call { callee := .builtin .clear, args := #[x], argTypes := #[47] }) {g n i m c cap : Nat} {f : Nat → Spn} (hx : a.eval x = .slice (some ⟨g, i * 2, none⟩) m c) (hr : SRow w g cap n f) (hm : m = n - i) (hi : i < n)
    (hK : ∀ w2, SRow w2 g cap i f → Only1 g w w2 → wpList Tryz.prog ops Q rest (a.put o.dst (.tuple #[])) w2) : wpList Tryz.prog ops Q (o :: rest) a w := by
  refine wpList_plain hgd fun K hK' => ?_
  obtain ⟨q, rfl⟩ : ∃ q, m = q + 1 := ⟨m - 1, by omega⟩
  obtain ⟨cur, hg, h2, h3, h4⟩ := id hr
  have hzl : (Builtin.zeroCells #[.int .i64 0, .int .i64 0] (q + 1)).toList.length = (q + 1) * 2 := by simp [Builtin.zeroCells]
  have hz1 : ∀ v ∈ (Builtin.zeroCells #[.int .i64 0, .int .i64 0] (q + 1)).toList, v.oneCell' = true := by
    intro v hv
    unfold Builtin.zeroCells at hv
    simp only [Array.toList_map, List.mem_map] at hv
    obtain ⟨j, _, rfl⟩ := hv
    have hj : j % 2 = 0 ∨ j % 2 = 1 := by omega
    rcases hj with e | e
    · simp [e]; rfl
    · simp [e]; rfl
  have hst := run_storeCells_at (P := Tryz.prog) g (i * 2) 115 (Builtin.zeroCells #[.int .i64 0, .int .i64 0] (q + 1)).toList 0 cur w hg (by rw [hzl]; omega) hz1
  have hrun : (Builtin.clear_ #[47] o.type #[.slice (some ⟨g, i * 2, none⟩) (q + 1) c]).run Tryz.prog w = .ok (.tuple #[]) (w.setRow g (cur.toList.take (i * 2 + 0) ++ (Builtin.zeroCells #[.int .i64 0, .int .i64 0] (q + 1)).toList ++ cur.toList.drop (i * 2 + 0 + (Builtin.zeroCells #[.int .i64 0, .int .i64 0] (q + 1)).toList.length)).toArray) := by
    have hcc : (Value.agg #[.int .i64 0, .int .i64 0]).cells = #[.int .i64 0, .int .i64 0] := rfl
    simp [Builtin.clear_, Sem.run_bind, run_underlying under_spans, hcc, hst]
  have hn := hr.setRow (Nat.le_of_lt hi) (vs := (Builtin.zeroCells #[.int .i64 0, .int .i64 0] (q + 1)).toList) (by rw [hzl]; omega) cur hg
  have hon : Only1 g w (w.setRow g (cur.toList.take (i * 2 + 0) ++ (Builtin.zeroCells #[.int .i64 0, .int .i64 0] (q + 1)).toList ++ cur.toList.drop (i * 2 + 0 + (Builtin.zeroCells #[.int .i64 0, .int .i64 0] (q + 1)).toList.length)).toArray) := ⟨rfl, rfl, rfl, by simp, fun k hk hne => setRow_other w g k _ hne⟩
  unfold Oper.wp execOp
  simp only [ho, resolve, invoke, builtin, Sem.run_bind, Sem.run_pure, Result.andThen_ok, List.map_toArray, List.map_cons, List.map_nil, hx, hrun]
  exact hK' _ _ (hK _ hn hon)

/-- What a deletion has kept of the first j. -/
structure KeptI (p : Spn → Bool) (f0 : Nat → Spn) (n i j : Nat) (f : Nat → Spn) : Prop where
  le : i ≤ j
  lj : j ≤ n
  kept : spL i f = (spL j f0).filter (fun s => !p s)
  rest : ∀ x, j ≤ x → x < n → f x = f0 x
theorem spL_congr {n : Nat} {f g : Nat → Spn} (h : ∀ k, k < n → f k = g k) : spL n f = spL n g := by
  unfold spL; exact List.map_congr_left (fun k hk => h k (List.mem_range.1 hk))
theorem KeptI.start {p : Spn → Bool} {f : Nat → Spn} {n : Nat} : ∀ k, k ≤ n → (∀ x, x < k → p (f x) = false) → KeptI p f n k k f := fun k hk h =>
  ⟨Nat.le_refl _, hk, by rw [List.filter_eq_self.2]; intro s hs; obtain ⟨x, hx, rfl⟩ := mem_spL.1 hs; simp [h x hx], fun _ _ _ => rfl⟩
theorem KeptI.drop {p : Spn → Bool} {f0 f : Nat → Spn} {n i j : Nat} (h : KeptI p f0 n i j f) (hj : j < n) (hp : p (f0 j) = true) : KeptI p f0 n i (j + 1) f :=
  ⟨by have := h.le; omega, hj, by rw [h.kept, spL_succ, List.filter_append]; simp [hp], fun x h1 h2 => h.rest x (by omega) h2⟩
theorem KeptI.keep {p : Spn → Bool} {f0 f : Nat → Spn} {n i j : Nat} (h : KeptI p f0 n i j f) (hj : j < n) (hp : p (f0 j) = false) : KeptI p f0 n (i + 1) (j + 1) (fun k => if k = i then f0 j else f k) := by
  have h1 := h.le
  refine ⟨by omega, hj, ?_, fun x h1 h2 => by rw [if_neg (by omega)]; exact h.rest x (by omega) h2⟩
  rw [spL_succ, spL_succ, List.filter_append, ← h.kept, if_pos rfl]
  rw [spL_congr (g := f) (fun k hk => by rw [if_neg (by omega)])]
  simp [hp]
theorem KeptI.lt {p : Spn → Bool} {f0 f : Nat → Spn} {n i j k : Nat} (h : KeptI p f0 n i j f) (hk : k < j) (hp : p (f0 k) = true) : i < j := by
  have e := congrArg List.length h.kept
  rw [spL_len] at e
  rw [e]
  have h2 : ((spL j f0).filter (fun s => !p s)).length < (spL j f0).length := List.length_filter_lt_length_iff_exists.2 ⟨f0 k, mem_spL.2 ⟨k, hk, rfl⟩, by simp [hp]⟩
  rwa [spL_len] at h2
end Go.Proofs.YtheemhelioendaaGreatDoor
