/- Contracts: clause.Solve. -/
import Derived.Test.YtheemhelioendaaGreatDoorSMem
import Derived.Test.YtheemhelioendaaGreatDoorSpread
import Derived.Test.YtheemhelioendaaGreatDoorClone
import Derived.BigQuiet
import Derived.BigRegion
import Derived.Laws.Bits64b
namespace Go.Proofs.YtheemhelioendaaGreatDoor
open Go.RowKit
set_option linter.unusedVariables false

/-- What clause.Solve says. -/
structure SolveSay (m : Int) (l : List (List Int)) (holds : Bool) (vals : Nat) (vp err : Value) (w' : World) : Prop where
  bad : ¬ Good m l → holds = false ∧ vals = 0 ∧ vp = .slice none 0 0 ∧ ∃ t v, err = .iface t v
  small : Good m l → FewC m l → err = .nilIface
  errs : Good m l → err = .nilIface ∨ (holds = false ∧ vals = 0 ∧ vp = .slice none 0 0 ∧ ∃ t v, err = .iface t v)
  yes : Good m l → err = .nilIface → holds = true → vp = .slice none 0 0 ∧ allB vals l = true ∧ (∀ k : Nat, m ≤ k → vals.testBit k = false) ∧
    ∀ v', allB v' l = true → ∀ k : Nat, (k : Int) < m → (∀ i, i < k → v'.testBit i = vals.testBit i) → v'.testBit k = true → vals.testBit k = true
  no : Good m l → err = .nilIface → holds = false → vals = 0 ∧ ∃ ls, IsRows w' vp ls ∧ ls.length ≤ 2000 ∧ (∀ i (h : i < ls.length), Rup m (l ++ ls.take i) ls[i]) ∧ ls.getLast? = some [] ∧ (Rup m l [] → ls = [[]])

theorem SolveSay.small10 {m : Int} {l : List (List Int)} {holds : Bool} {vals : Nat} {vp err : Value} {w' : World} (h : SolveSay m l holds vals vp err w') (hg : Good m l) (hm : m ≤ 10) : err = .nilIface := h.small hg (fewC_small l hm)
def SolvePost (m : Int) (l : List (List Int)) (w : World) (e : Ending) (w' : World) : Prop :=
  (∃ (holds : Bool) (vals : Nat) (vp err : Value), e = .returned (.tuple #[.agg #[.bool holds, .int .u64 vals, vp], err]) ∧ vals < 18446744073709551616 ∧ SolveSay m l holds vals vp err w') ∧ Below w.heap.size w w'

theorem res_cells {w : World} {B : Nat} {a b c : Value} {T : TypeId} (h : w.heap[B]? = some (.cells #[a, b, c] T (0, 0))) :
    w.cell? ⟨B, 0, none⟩ = some a ∧ w.cell? ⟨B, 1, none⟩ = some b ∧ w.cell? ⟨B, 2, none⟩ = some c ∧ w.frozen? ⟨B, 0, none⟩ = false ∧ w.frozen? ⟨B, 1, none⟩ = false ∧ w.frozen? ⟨B, 2, none⟩ = false := by
  refine ⟨?_, ?_, ?_, ?_, ?_, ?_⟩
  · rw [cell_of_row w B _ _ _ _ h]; rfl
  · rw [cell_of_row w B _ _ _ _ h]; rfl
  · rw [cell_of_row w B _ _ _ _ h]; rfl
  all_goals simp [World.frozen?, h]

theorem not_res {w : World} {B : Nat} {r : Value} {xs : List Int} {a : Bool} {n c : Nat} {o : Option Addr} {u : Int} {T : TypeId} (h : w.heap[B]? = some (.cells #[.bool a, .int .u64 u, .slice o n c] T (0, 0))) (hi : IsInts w r xs) (hne : xs ≠ []) : r.ownBlock ≠ some B := by
  intro e
  obtain ⟨ad, cc, rfl, _⟩ := hi.shape
  have hlen : 0 < xs.length := List.length_pos_iff.2 hne
  obtain ⟨bb, oo, rfl, _⟩ := hi.addr hlen
  have h1 := hi.get hlen
  simp only [Value.ownBlock, Option.some.injEq] at e
  subst e
  rw [cell_of_row w _ _ _ _ _ h] at h1
  generalize oo + 0 = q at h1
  match q with
  | 0 => simp at h1
  | 1 => simp at h1
  | 2 => simp at h1
  | q + 3 => simp at h1

theorem smem_start {B : Nat} {w1 w2 : World} {vl : Value} {l : List (List Int)} {rs : List Value} (hB : B < w1.heap.size) (hres : w1.heap[B]? = some (.cells #[.bool false, .int .u64 0, .slice none 0 0] 72 (0, 0)))
    (hown : w2.ownsRow w1.heap.size 80 1 vl l.length rs) (hrv : RowVals w1 rs l) (hb : Below w1.heap.size w1 w2) (cs : Array Value) (hcs : cs = ((List.replicate 24 (Value.int .i64 0)) ++ [Value.slice none 0 0]).toArray) :
    ∃ tg, SMem B w2.heap.size (w2.alloc (.cells cs 128)) l [] (fun _ => 0) [] [] vl (.slice none 0 0) (.slice none 0 0) (.slice none 0 0) tg rs [] := by
  have hsz := hb.size
  have hal : Below w2.heap.size w2 (w2.alloc (.cells cs 128)) := (Below.refl _ _).alloc (Nat.le_refl _) _
  have hlow : Below w1.heap.size w1 (w2.alloc (.cells cs 128)) := hb.trans (hal.mono hsz)
  have hown3 := ownsRow_below hown hal
  have hrl : rs.length = l.length := hrv.1
  refine ⟨fun k => if k < w1.heap.size then (if k = B then 6 else 5) else if k < w2.heap.size then 2 else 0, ⟨⟨cs, heap_at rfl, by subst hcs; rfl, fun i hi => ?_, by subst hcs; rfl⟩, World.ownsRow_nil _ _ _ _, by simp [Value.ownBlock]⟩, ?_, by simp [Value.ownBlock], ?_, ?_, ⟨hrv.below hlow, fun i h1 h2 hne b hb2 => ?_⟩,
    World.ownsRow_nil _ _ _ _, by simp [Value.ownBlock], World.ownsRow_nil _ _ _ _, by simp [Value.ownBlock], ⟨rowVals_nil _, fun i h => absurd h (by simp)⟩, ?_, ?_, fun k hk => ?_⟩
  · subst hcs
    rw [List.getElem?_toArray, List.getElem?_append_left (by rw [List.length_replicate]; exact hi), List.getElem?_replicate, if_pos hi]
  · rw [if_neg (by omega), if_neg (by omega)]
  · refine ⟨by omega, ?_⟩
    rw [hrl]
    rcases hown3.2 with h | ⟨g, cap, cur, h1, h2, r⟩
    · exact .inl h
    · exact .inr ⟨g, cap, cur, h1, Nat.zero_le _, r⟩
  · intro b hb2
    have h1 := hown.lt b hb2
    rw [if_neg (by omega), if_pos h1.2]
  · obtain ⟨b', hb', hlt⟩ := (hrv.2 i h1 h2).own hne
    rw [hb2] at hb'; cases hb'
    have h3 := not_res hres (hrv.2 i h1 h2) hne
    rw [if_pos hlt, if_neg (by rintro rfl; exact h3 hb2)]
  · rw [hlow.block B hB]; exact hres
  · rw [if_pos hB, if_pos rfl]
  · rw [if_pos (by omega), if_neg (by omega)]

theorem srch_range {m : Int} {l ls : List (List Int)} {f : Int → Int} {tr : List Int} {dl : List Nat} (hg : Good m l) (s : Srch m l ls f tr dl) : ∀ d ∈ l ++ ls, ∀ x ∈ d, x ≠ 0 ∧ -m ≤ x ∧ x ≤ m := by
  intro d hd x hx
  rcases List.mem_append.1 hd with h | h
  · exact lit_of_good (hg.2.2.2 d h).2 hx
  · obtain ⟨i, hi, rfl⟩ := List.getElem_of_mem h
    exact lit_of_good (s.learned i hi).1 hx

theorem srch_decs {m : Int} {l ls : List (List Int)} {f : Int → Int} {tr : List Int} {dl : List Nat} (s : Srch m l ls f tr dl) (hm : m ≤ 24) : dl.length ≤ 49 := by
  have h1 := s.tok.len hm
  have h2 := nodup_lt tr.length dl (s.dinc.imp (fun h => Nat.ne_of_lt h)) s.dlt
  omega

/-- A clause that was made anew is put into a block of its own. -/
theorem smem_box {B p : Nat} {w w3 : World} {all pf : List (List Int)} {f : Int → Int} {tr : List Int} {dl : List Nat} {vl vd vp v : Value} {tg : Nat → Nat} {rl rp : List Value} {r : Value} {c : List Int}
    (h : SMem B p w all pf f tr dl vl vd vp v (retag w3.heap.size tg 5) rl rp) (hi : IsInts w r c) (hb : ∀ j, r.ownBlock = some j → w3.heap.size ≤ j) (o : Obj) :
    SMem B p (w.alloc o) all pf f tr dl vl vd vp v (retag w.heap.size (retag w3.heap.size tg 5) 5) rl rp ∧ IsInts (w.alloc o) r c ∧ (c ≠ [] → ∀ j, r.ownBlock = some j → retag w.heap.size (retag w3.heap.size tg 5) 5 j = 5) := by
  have hal : Below w.heap.size w (w.alloc o) := (Below.refl _ _).alloc (Nat.le_refl _) _
  refine ⟨h.fresh hal, hi.below hal, fun _ j hj => ?_⟩
  unfold retag
  split
  · rw [if_neg (by have := hb j hj; omega)]
  · rfl

theorem next_of {w : World} {v v' : Value} (h : v'.ownBlock = v.ownBlock ∨ v'.ownBlock = some w.heap.size) : Next w v v' := h.imp id (fun e => ⟨_, e, Nat.le_refl _⟩)
/-- The proof's clauses, when the result has been written. -/
theorem smem_proof_rows {B p : Nat} {w : World} {all pf : List (List Int)} {f : Int → Int} {tr : List Int} {dl : List Nat} {vl vd vp v : Value} {tg : Nat → Nat} {rl rp : List Value}
    (h : SMem B p w all pf f tr dl vl vd vp v tg rl rp) (hl : pf.length ≤ 17592186044416) (a b c : Value) : IsRows (((w.setCell ⟨B, 0, none⟩ a).setCell ⟨B, 1, none⟩ b).setCell ⟨B, 2, none⟩ c) vp pf := by
  have hc : Chg tg (fun t => t == 6) w (((w.setCell ⟨B, 0, none⟩ a).setCell ⟨B, 1, none⟩ b).setCell ⟨B, 2, none⟩ c) := by
    refine ⟨rfl, rfl, rfl, by simp [World.setCell], fun k hk ht => ?_⟩
    have hne : k ≠ B := by rintro rfl; rw [h.tB] at ht; cases ht
    rw [Below.heap_setCell _ _ _ _ hne, Below.heap_setCell _ _ _ _ hne, Below.heap_setCell _ _ _ _ hne]
  exact isRows_of_owns (hc.own h.op (fun b hb => by rw [h.tpp b hb]; rfl)) (h.cp.chg hc rfl 0).vals hl

theorem srch_few2 {m : Int} {l ls : List (List Int)} {f : Int → Int} {tr : List Int} {dl : List Nat} (s : Srch m l ls f tr dl) (hdl : 0 < dl.length) (hz : ∀ d ∈ l ++ ls, NoZero d) {d : List Int} (hd : d ∈ l ++ ls) (hc : ∀ y ∈ d, lv f y = -1) (hf : FewC m l) : ls.length + 1 < 2000 := by
  rcases List.eq_nil_or_concat dl with rfl | ⟨dl', n, rfl⟩
  · simp at hdl
  · rw [List.concat_eq_append] at s
    have := (s.back hz hd hc (s.tok.take n)).fewC hf
    simpa using this

/-- .. and once more, behind what has been put to the proof. -/
theorem smem_box2 {B p : Nat} {w w' w3 : World} {all all' pf pf' : List (List Int)} {f f' : Int → Int} {tr tr' : List Int} {dl dl' : List Nat} {vl vl' vd vd' vp vp' v v' : Value} {tg : Nat → Nat} {rl rl' rp rp' : List Value} {r : Value} {c : List Int}
    (h : SMem B p w all pf f tr dl vl vd vp v tg rl rp) (h' : SMem B p w' all' pf' f' tr' dl' vl' vd' vp' v' (retag w.heap.size tg 4) rl' rp') (hg : w.grownBy w' vp.ownBlock) (hi : IsInts w r c) (ht : c ≠ [] → ∀ j, r.ownBlock = some j → tg j = 5)
    (hb : ∀ j, r.ownBlock = some j → w3.heap.size ≤ j) (hbel : Below B w w') (o : Obj) :
    SMem B p (w'.alloc o) all' pf' f' tr' dl' vl' vd' vp' v' (retag w'.heap.size (retag w.heap.size tg 4) 5) rl' rp' ∧ IsInts (w'.alloc o) r c ∧ (c ≠ [] → ∀ j, r.ownBlock = some j → retag w'.heap.size (retag w.heap.size tg 4) 5 j = 5) ∧ IsInts w' r c ∧ True := by
  have hal : Below w'.heap.size w' (w'.alloc o) := (Below.refl _ _).alloc (Nat.le_refl _) _
  have hi' : IsInts w' r c := hi.same' (fun hne b hb2 hlt => hg.block b hlt (fun e => by have h1 := h.tpp b e.symm; have h2 := ht hne b hb2; omega)) hg.size
  refine ⟨h'.fresh hal, hi'.below hal, fun hne j hj => ?_, hi', trivial⟩
  obtain ⟨j', hj', hlt⟩ := hi.own hne
  rw [hj] at hj'; cases hj'
  have := hg.size
  rw [retag_old (by omega), retag_old hlt]
  exact ht hne j hj

theorem IsInts.cap {w : World} {a : Option Addr} {n c : Nat} {xs : List Int} (h : IsInts w (.slice a n c) xs) : xs.length ≤ c ∧ c ≤ 9223372036854775807 := by
  obtain ⟨_, _, e, h1, h2, _⟩ := h.shape
  cases e
  exact ⟨h1, h2⟩

/-- The last decision, in memory. -/
theorem smem_dec {B p : Nat} {w : World} {all pf : List (List Int)} {f : Int → Int} {tr : List Int} {dl : List Nat} {vl vp v : Value} {tg : Nat → Nat} {rl rp : List Value} {b8 o8 n8 c8 : Nat}
    (h : SMem B p w all pf f tr dl vl (.slice (some ⟨b8, o8, none⟩) n8 c8) vp v tg rl rp) (hl : dl.length ≤ 49) (hd : 0 < dl.length) : w.cell? ⟨b8, o8 + (dl.length - 1), none⟩ = some (.int .i64 (dl[dl.length - 1]'(by omega) : Nat)) := by
  have hints : IsInts w (.slice (some ⟨b8, o8, none⟩) n8 c8) (dl.map fun n : Nat => (n : Int)) := isInts_of_owns (n := dl.length) (by rw [List.map_map]; exact h.od) (by simp; omega)
  have := hints.get (k := dl.length - 1) (by simp; omega)
  rw [List.getElem_map] at this
  exact this

/-- The state's variables as a slice of its array. -/
theorem StateAt.vars {w : World} {p : Nat} {f : Int → Int} {tr : List Int} {v : Value} (h : StateAt w p f tr v) {M : Nat} (hM : M ≤ 24) : IsInts w (.slice (some ⟨p, 0, none⟩) M 24) ((List.range M).map fun i : Nat => f ((i : Int) + 1)) := by
  refine ⟨some ⟨p, 0, none⟩, p, 0, 24, by simp, fun _ => rfl, by simpa using hM, by decide, fun i hi => ?_, fun _ => h.lt, by simp; omega⟩
  have hi' : i < M := by simpa using hi
  have hc := h.cell (k := (i : Int) + 1) (by omega) (by omega)
  rw [show ((i : Int) + 1).toNat - 1 = i by omega] at hc
  rw [Nat.zero_add, hc, List.getD_eq_getElem?_getD, List.getElem?_map, List.getElem?_range hi']
  rfl

theorem vars_in {f : Int → Int} {M : Nat} (h : (0 : Int) ∉ (List.range M).map fun i : Nat => f ((i : Int) + 1)) : ∀ u : Int, 1 ≤ u → u ≤ M → lv f u ≠ 0 := by
  intro u h1 h2 e
  rw [lv_zero, vr_pos (by omega)] at e
  exact h (List.mem_map.2 ⟨(u - 1).toNat, List.mem_range.2 (by omega), by rw [show (((u - 1).toNat : Nat) : Int) + 1 = u by omega]; exact e⟩)

theorem vars_low {f : Int → Int} {M k : Nat} (hk : k < M) (h : (0 : Int) ∉ ((List.range M).map fun i : Nat => f ((i : Int) + 1)).take k) : ∀ u : Int, 1 ≤ u → u < (k : Int) + 1 → lv f u ≠ 0 := by
  intro u h1 h2
  refine vars_in (M := k) (fun hm => h ?_) u h1 (by omega)
  rw [← List.map_take, List.take_range, Nat.min_eq_left (by omega)]
  exact hm

theorem vals_skip {f : Int → Int} {k V : Nat} (h : Vals (k : Nat) f V) (h1 : f ((k : Int) + 1) ≠ 1) : Vals ((k + 1 : Nat) : Nat) f V := by
  intro j
  rw [h j]
  rcases Nat.lt_trichotomy j k with h2 | rfl | h2
  · rw [decide_eq_true (by omega : (j : Int) < k), decide_eq_true (by omega : (j : Int) < ((k + 1 : Nat) : Int))]
  · simp [h1]
  · rw [decide_eq_false (by omega : ¬ (j : Int) < k), decide_eq_false (by omega : ¬ (j : Int) < ((k + 1 : Nat) : Int))]
theorem vals_bit {f : Int → Int} {k V : Nat} (h : Vals (k : Nat) f V) (h1 : f ((k : Int) + 1) = 1) : Vals ((k + 1 : Nat) : Nat) f (V ||| 2 ^ k) := by
  intro j
  rw [Nat.testBit_or, h j, Nat.testBit_two_pow]
  rcases Nat.lt_trichotomy j k with h2 | rfl | h2
  · rw [decide_eq_true (by omega : (j : Int) < k), decide_eq_true (by omega : (j : Int) < ((k + 1 : Nat) : Int)), decide_eq_false (by omega : ¬ k = j), Bool.or_false]
  · simp [h1]; omega
  · rw [decide_eq_false (by omega : ¬ (j : Int) < k), decide_eq_false (by omega : ¬ (j : Int) < ((k + 1 : Nat) : Int)), decide_eq_false (by omega : ¬ k = j)]; rfl
theorem pow_wrap : ∀ k < 24, IntKind.u64.wrap ((2 : Int) ^ k) = ((2 ^ k : Nat) : Int) ∧ 2 ^ k < 16777216 := by decide
theorem or_bit {V k : Nat} (hV : V < 16777216) (hk : k < 24) : bits .or .u64 (V : Int) (IntKind.u64.wrap ((2 : Int) ^ k)) = ((V ||| 2 ^ k : Nat) : Int) ∧ V ||| 2 ^ k < 16777216 := by
  obtain ⟨h1, h2⟩ := pow_wrap k hk
  rw [h1, bits_or_u64_nat _ _ (by omega) (by omega)]
  exact ⟨rfl, Nat.or_lt_two_pow (n := 24) hV h2⟩

/-- What holds at the head of the search's loop. -/
def SHead (B p : Nat) (m : Int) (l : List (List Int)) (gk : Nat) (vl vd vp : Value) (w : World) : Prop :=
  ∃ ls f tr dl v tg rl rp, SMem B p w (l ++ ls) ls f tr dl vl vd vp v tg rl rp ∧ Srch m l ls f tr dl ∧ ls.length < 2000 ∧ gk = (2000 - ls.length) * 100 + (50 - tr.length)

set_option maxRecDepth 100000 in
set_option maxHeartbeats 2000000 in
theorem solve_any (m : Int) (vl : Value) (l : List (List Int)) (w : World) (hl : IsRows w vl l) :
    Calls Tryz.prog 29 #[.int .i64 m, vl] w (SolvePost m l w) := by
  obtain ⟨al, cl, rfl, hll, hlm, hllen⟩ := hl.shape
  have Hl := Lib.hid hl; clear hl
  have hal : Below w.heap.size w (w.alloc (.cells #[.bool false, .int .u64 0, .slice none 0 0] 72)) := (Below.refl _ _).alloc (Nat.le_refl _) _
  have Hck := Lib.hid (checkCl_any m _ l _ (Hl.out.below hal))
  have Hal := Lib.hid hal; clear hal
  by_cases hgood : Good m l
  · have Hgood := Lib.hid hgood; clear hgood
    obtain ⟨M, rfl⟩ := Int.eq_ofNat_of_zero_le Hgood.out.1
    have hM : M ≤ 24 := by have := Hgood.out.2.1; omega
    have hl200 : l.length ≤ 200 := Hgood.out.2.2.1
    go_enter Tryz.func29, Tryz.ntmps29
    go_wp2_with fail
    refine Hck.out.mono ?_
    rintro e w1 ⟨⟨ev, rfl, hev, -⟩, hb⟩
    obtain rfl := hev Hgood.out
    clear hev
    have hres : w1.heap[w.heap.size]? = some (.cells #[.bool false, .int .u64 0, .slice none 0 0] 72 (0, 0)) := by
      rw [hb.block _ (by simp)]; exact heap_at rfl
    have Hres := Lib.hid hres
    have Hb := Lib.hid hb; clear hb hres
    go_wp2_with fail
    refine (cloneR_any _ l _ ((Hl.out.below Hal.out).below Hb.out) (by omega)).mono ?_
    rintro e w2 ⟨⟨v', rs, rfl, hown, hrv⟩, hb2⟩
    have Hown := Lib.hid hown; have Hrv := Lib.hid hrv; have Hb2 := Lib.hid hb2; clear hown hrv hb2
    have hsz1 : w.heap.size < w1.heap.size := by have := Hb.out.size; rw [alloc_size] at this; omega
    obtain ⟨tg0, hmem0⟩ := smem_start hsz1 Hres.out Hown.out Hrv.out Hb2.out _ rfl
    have Hmem0 := Lib.hid hmem0; clear hmem0
    have hbel0 : Below w.heap.size w w2 := (Hal.out.trans (Hb.out.mono (by simp))).trans (Hb2.out.mono (by omega))
    have Hbel0 := Lib.hid hbel0; clear hbel0
    go_wp2_with fail
    go_loopg [1, 8, 9] 200050 (fun gk vl vd vp wr => Below w.heap.size w wr ∧ SHead w.heap.size w2.heap.size M l gk vl vd vp wr)
    case atStart =>
      refine ⟨Hbel0.out.alloc (by have := Hb2.out.size; omega) _, [], fun _ => 0, [], [], .slice none 0 0, tg0, rs, [], ?_, srch_start _ _, by decide, rfl⟩
      rw [List.append_nil]
      exact Hmem0.out
    case round =>
      clear Hmem0 Hbel0 Hown Hrv Hb2 Hres Hb Hck tg0
      obtain ⟨hbel, ls, f, tr, dl, v, tg, rl, rp, hmem, hsr, hls, rfl⟩ := hrel
      have Hbel := Lib.hid hbel; have Hmem := Lib.hid hmem; have Hsr := Lib.hid hsr; clear hbel hmem hsr
      obtain ⟨a1, c1, rfl⟩ := owns_shape Hmem.out.ol
      obtain ⟨a8, c8, rfl⟩ := owns_shape Hmem.out.od
      obtain ⟨a9, c9, rfl⟩ := owns_shape Hmem.out.op
      have hrl := Lib.hid (show rl.length = (l ++ ls).length from Hmem.out.cl.vals.1)
      have hrp := Lib.hid (show rp.length = ls.length from Hmem.out.cp.vals.1)
      have hall : (l ++ ls).length ≤ 2200 := by rw [List.length_append]; omega
      have hrange : ∀ d ∈ l ++ ls, ∀ x ∈ d, x ≠ 0 ∧ -(M : Int) ≤ x ∧ x ≤ M := srch_range Hgood.out Hsr.out
      have Hrange := Lib.hid hrange; clear hrange
      go_wp2_with fail
      with_reducible refine (spread_any M w2.heap.size f tr (l ++ ls) v _ wr (by omega) Hmem.out.st Hsr.out.tok (fun w' h => Hmem.out.rows (by omega) h) Hrange.out (by omega)).mono ?_
      rintro e w3 ⟨n, g, ext, v3, rfl, hst, hnx, hmod, htk, hj, hn⟩
      obtain ⟨hmem3, hbel3⟩ := Hmem.out.state hmod hst hnx
      have hsr3 := Hsr.out.spread htk hj
      have hext : tr.length ≤ (tr ++ ext).length := by simp
      generalize htr3 : tr ++ ext = tr3 at hmem3 hsr3 hext
      have Hmem3 := Lib.hid hmem3; have Hbel3 := Lib.hid (Hbel.out.trans hbel3); have Hsr3 := Lib.hid hsr3
      clear hmem3 hbel3 hsr3 hst hnx hmod htk hj htr3
      rcases hn with ⟨rfl, hstuck⟩ | ⟨kk, rfl, hkk, hconf⟩
      · have Hstuck := Lib.hid hstuck; clear hstuck
        have hlt3 := Hmem3.out.st.lt
        have hvars := Hmem3.out.st.vars (M := M) (by omega)
        have Hvars := Lib.hid hvars; clear hvars
        have hlen3 := Hsr3.out.tok.len (by omega)
        have hdl3 : dl.length ≤ 49 := srch_decs Hsr3.out (by omega)
        have hM24 : (M : Int) ≤ 24 := by omega
        have hM0 : 0 ≤ (M : Int) := by omega
        have hMa : (M : Int) ≤ ((Tryz.prog.arrayLen 126 : Nat) : Int) := hM24
        go_wp2_with fail
        refine (index_any 0 _ _ _ Hvars.out).mono ?_
        rintro e w4 ⟨⟨n, rfl, hn⟩, rfl⟩
        rcases hn with ⟨rfl, hno⟩ | ⟨k, rfl, hk, hk0, hno⟩
        · have Hall := Lib.hid (vars_in hno); clear hno
          go_wp2_with fail
          go_loopg [16, 91] M (fun gk u16 i wr => Below w3.heap.size w3 wr ∧ ∃ k V : Nat, k ≤ M ∧ gk = M - k ∧ i = .int .i64 k ∧ Vals (k : Nat) g V ∧ V < 16777216 ∧
            wr.heap[w3.heap.size]? = some (.cells #[.bool true, .int .u64 V, .slice none 0 0] 72 (0, 0)))
          case atStart =>
            exact ⟨(Below.refl _ _).alloc (Nat.le_refl _) _, 0, 0, Nat.zero_le _, rfl, rfl, fun j => by simp; omega, by decide, heap_at rfl⟩
          case round =>
            obtain ⟨hb, k, V, hk, rfl, rfl, hV, hV24, hbl⟩ := hrel
            have hBlt : w.heap.size < w3.heap.size := Hmem3.out.lt
            obtain ⟨hr0, hr1, hr2, hz0, hz1, hz2⟩ := res_cells ((hb.block _ hBlt).trans Hmem3.out.res)
            obtain ⟨hc0, hc1, hc2, hf0, hf1, hf2⟩ := res_cells hbl
            have Hb := Lib.hid hb; have HV := Lib.hid hV; have Hbl := Lib.hid hbl; clear hb hV hbl
            by_cases hlt : k < M
            · have hc3 : wr.cell? ⟨w2.heap.size, k, none⟩ = some (.int .i64 (g ((k : Int) + 1))) := by
                have := Hmem3.out.st.cell (k := (k : Int) + 1) (by omega) (by omega)
                rw [show ((k : Int) + 1).toNat - 1 = k by omega] at this
                rw [Hb.out.cell (by exact hlt3)]; exact this
              by_cases hg1 : g ((k : Int) + 1) = 1
              · have Hg1 := Lib.hid hg1
                rw [hg1] at hc3
                clear hg1
                obtain ⟨hor, hor24⟩ := or_bit hV24 (show k < 24 by omega)
                have Hor := Lib.hid hor; clear hor
                go_wp2_with fail
                go_region
                all_goals go_wp2_with fail
                all_goals rw [Hor.out]
                all_goals go_roundg (M - (k + 1))
                case measure => omega
                case rel => 
                  exact ⟨(Hb.out.setCell (Nat.le_refl _) _).drew, k + 1, V ||| 2 ^ k, by omega, rfl, by go_num, vals_bit HV.out Hg1.out, hor24, setCell_block Hbl.out 1 _⟩
              · have hg1' : (g ((k : Int) + 1) == 1) = false := by simpa using hg1
                have Hg1 := Lib.hid hg1
                clear hg1
                go_wp2_with fail
                go_roundg (M - (k + 1))
                case measure => omega
                case rel => exact ⟨Hb.out, k + 1, V, by omega, rfl, by go_num, vals_skip HV.out Hg1.out, hV24, Hbl.out⟩
            · obtain rfl : k = M := by omega
              clear hlt hk
              go_wp2_with fail
              have hV := HV.out
              have hz : ∀ d ∈ l ++ ls, NoZero d := fun d hd x hx => (Hrange.out d hd x hx).1
              have hbw : Below w.heap.size w wr := Hbel3.out.trans (Hb.out.mono (by have := Hbel3.out.size; omega))
              refine bodyPost_ret (v := .tuple #[.agg #[.bool true, .int .u64 V, .slice none 0 0], .nilIface]) (by simp [results, Tryz.results29, go_sem, hr0, hr1, hr2]) rfl ⟨⟨true, V, _, _, rfl, by omega, ⟨fun h => absurd Hgood.out h, fun _ _ => rfl, fun _ => .inl rfl, fun _ _ _ => ⟨rfl, ?_, fun j hj => ?_, fun v' hv' j hj hsame h1 => ?_⟩, fun _ _ h => (by cases h)⟩⟩, ?_⟩
              · exact Hsr3.out.holds (fun d hd => Hrange.out d (List.mem_append_left _ hd)) Hstuck.out Hall.out hV
              · rw [hV j, decide_eq_false (by omega)]; rfl
              · rcases hh : V.testBit j with _ | _
                · exact (Hsr3.out.firstOf hz Hall.out hV hv' hj hsame h1 hh).elim
                · rfl
              · exact ((hbw.setCell (Nat.le_refl _) _).setCell (Nat.le_refl _) _).setCell (Nat.le_refl _) _
        · have hkM : k < M := by simpa using hk
          have hk1 : g ((k : Int) + 1) = 0 := by simpa using hk0
          have Hlow := Lib.hid (vars_low hkM hno)
          clear hno hk hk0
          obtain ⟨a3, c3, rfl⟩ := owns_shape Hmem3.out.st.own
          obtain ⟨i0, hi, hz0, hz1, hz2⟩ := info_parts infoInt
          have hct := Hmem3.out.st.trail
          have hk2 : lv g ((k : Int) + 1) = 0 := by rw [lv_zero, vr_pos (by omega)]; exact hk1
          have Hk2 := Lib.hid hk2; clear hk1 hk2
          go_wp2_with (at_builtin; refine wpList_append_at _ rfl (.tmp 80) (.tmp 84) 26 rfl 0 3 i0 (.int .i64 0) 1 8 Tryz.underlying26 hi hz0 hz1 hz2 rfl (by decide) _ _ _ rfl (Hmem3.out.od.alloc _) _ 1 1 [.int .i64 tr3.length] rfl rfl (cell_new_at _ _ _ _ (by simp)) (by intro u hu; simp at hu; subst hu; rfl) (by simp only [maxLen]; omega) (by omega) (Nat.zero_le _) ?_; intro v5 w5 hown5 hgrow5 hor5; obtain ⟨hmem5, hbel5⟩ := (Hmem3.out.fresh ((Below.refl _ _).alloc (Nat.le_refl _) _)).decided hgrow5 hown5 (next_of hor5); have Hmem5 := Lib.hid hmem5; have Hbel5 := Lib.hid hbel5; clear hmem5 hbel5 hown5 hgrow5 hor5)
          refine (set_any ((k : Int) + 1) w2.heap.size g tr3 _ w5 Hmem5.out.st (by omega) (by omega) (by omega) (by omega)).mono ?_
          rintro e w6 ⟨rfl, ⟨v6, hst6, hnx6⟩, hmod6⟩
          obtain ⟨hmem6, hbel6⟩ := Hmem5.out.state hmod6 hst6 hnx6
          have Hmem6 := Lib.hid hmem6; have Hbel6 := Lib.hid hbel6
          clear hst6 hnx6 hmod6 hmem6 hbel6
          go_wp2_with fail
          go_roundg ((2000 - ls.length) * 100 + (50 - (tr3 ++ [(k : Int) + 1]).length))
          case measure => rw [List.length_append]; simp; omega
          case rel =>
            refine ⟨(Hbel3.out.trans (((Below.refl _ _).alloc (by have := Hbel3.out.size; omega) _).trans Hbel5.out)).trans Hbel6.out, ls, _, _, _, v6, _, _, _, Hmem6.out,
              Hsr3.out.decide (fun d hd x hx => (Hrange.out d hd x hx).1) Hstuck.out (by omega) (by omega) Hk2.out Hlow.out, hls, rfl⟩
      · have Hconf := Lib.hid hconf; clear hconf
        obtain ⟨a3, c3, rfl⟩ := owns_shape Hmem3.out.st.own
        have hlen3 := Hsr3.out.tok.len (by omega)
        have hdl3 : dl.length ≤ 49 := srch_decs Hsr3.out (by omega)
        obtain ⟨i0, hi, hz0, hz1, hz2⟩ := info_parts infoInt
        go_wp2_with fail
        go_loopg [10, 31] dl.length (fun gk vc i wi => Below w3.heap.size w3 wi ∧ ∃ k : Nat, k ≤ dl.length ∧ gk = dl.length - k ∧ i = .int .i64 k ∧ wi.ownsRow w3.heap.size 3 1 vc k ((dl.take k).map fun n => Value.int .i64 (-(tr3.getD n 0))))
        case atStart => exact ⟨Below.refl _ _, 0, Nat.zero_le _, rfl, rfl, World.ownsRow_nil _ _ _ _⟩
        case round =>
          obtain ⟨hbi, k, hk, rfl, rfl, hownc⟩ := hrel
          have hmemi := Hmem3.out.fresh hbi
          have Hbi := Lib.hid hbi; have Hmemi := Lib.hid hmemi; have Hownc := Lib.hid hownc; clear hbi hmemi hownc
          have hszi := Hbi.out.size
          by_cases hlt : k < dl.length
          · have hints : IsInts wr (.slice a8 dl.length c8) (dl.map fun n : Nat => (n : Int)) := isInts_of_owns (by rw [List.map_map]; exact Hmemi.out.od) (by simp; omega)
            obtain ⟨b8, o8, rfl, _⟩ := hints.addr (k := k) (by simpa using hlt)
            have hc8 := hints.get (k := k) (by simpa using hlt)
            rw [List.getElem_map] at hc8
            have hq : dl[k] < tr3.length := Hsr3.out.dlt _ (List.getElem_mem hlt)
            have htake : (dl.take (k + 1)).map (fun n => Value.int .i64 (-(tr3.getD n 0))) = (dl.take k).map (fun n => Value.int .i64 (-(tr3.getD n 0))) ++ [.int .i64 (-(tr3.getD dl[k] 0))] := by
              rw [List.take_succ_eq_append_getElem hlt, List.map_append]; rfl
            have Htake := Lib.hid htake; clear htake hints
            generalize hqq : dl[k] = q at hc8 hq
            have Hqq := Lib.hid hqq; clear hqq
            have hct := Hmemi.out.st.trail
            have hti := Hmemi.out.st.ints (by omega)
            obtain ⟨b3, o3, rfl, _⟩ := hti.addr hq
            have hc3 := hti.get hq
            obtain ⟨hx0, hx1, hx2⟩ := Hsr3.out.tok.rng _ (List.getElem_mem hq)
            have hgd : tr3.getD q 0 = tr3[q] := getD_at _ _ hq
            have Hgd := Lib.hid hgd; clear hgd hti
            generalize hxx : tr3[q] = x at hc3 hx0 hx1 hx2
            have Hxx := Lib.hid hxx; clear hxx
            go_wp2_with (at_builtin; refine wpList_append_at _ rfl _ _ 80 rfl w3.heap.size 3 i0 (.int .i64 0) 1 8 Tryz.underlying80 hi hz0 hz1 hz2 rfl (by decide) _ _ _ rfl (Hownc.out.alloc _) _ 1 1 [.int .i64 (-x)] rfl rfl (cell_new_at _ _ _ _ (by simp)) (by intro u hu; simp at hu; subst hu; rfl) (by simp only [maxLen]; omega) (by omega) (by simp; omega) ?_; intro v5 w5 hown5 hgrow5 _; have Hown5 := Lib.hid hown5; have Hgrow5 := Lib.hid hgrow5; clear hown5 hgrow5)
            go_roundg (dl.length - (k + 1))
            case measure => omega
            case rel =>
              refine ⟨(Hbi.out.alloc hszi _).grown Hgrow5.out (by simp; omega) (fun j hj => (Hownc.out.lt j hj).1), k + 1, by omega, rfl, by go_num, ?_⟩
              rw [Htake.out, Hqq.out, Hgd.out, Hxx.out]
              exact Hown5.out
          · obtain rfl : k = dl.length := by omega
            clear hlt hk
            obtain ⟨a10, c10, rfl⟩ := owns_shape Hownc.out
            have hintc : IsInts wr (.slice a10 dl.length c10) ((decs tr3 dl).map fun x => -x) := isInts_of_owns (by
              have := Hownc.out
              rw [List.take_length] at this
              have e : ((decs tr3 dl).map fun x => -x).map (Value.int .i64) = dl.map fun n => Value.int .i64 (-(tr3.getD n 0)) := by simp [decs, Function.comp]
              rw [e]; exact this) (by simp [decs]; omega)
            have hblk10 : ∀ j, Value.ownBlock (.slice a10 dl.length c10) = some j → w3.heap.size ≤ j := fun j hj => (Hownc.out.lt j hj).1
            obtain ⟨hmem6, hint6, htag6⟩ := smem_box Hmemi.out hintc hblk10 (.cells #[.slice a10 dl.length c10] 80)
            have Hmem6 := Lib.hid hmem6; have Hint6 := Lib.hid hint6; have Htag6 := Lib.hid htag6
            have Hblk10 := Lib.hid hblk10
            clear hmem6 hint6 htag6 hintc hblk10 Hownc hi hz0 hz1 hz2
            obtain ⟨i1, hi, hz0, hz1, hz2⟩ := info_parts infoClauseC
            by_cases hd0 : dl.length = 0
            · have hd0' : ((dl.length : Int) == 0) = true := by simpa using hd0
              have Hd0 := Lib.hid hd0; clear hd0
              go_wp2_with (at_builtin; refine wpList_append_at _ rfl (.tmp 45) (.tmp 47) 25 rfl 0 80 i1 (.slice none 0 0) 1 24 Tryz.underlying25 hi hz0 hz1 hz2 rfl (by decide) _ _ _ rfl Hmem6.out.op _ 1 1 [.slice a10 dl.length c10] rfl rfl (cell_new_at _ _ _ _ (by simp)) (by intro u hu; simp at hu; subst hu; rfl) (by have := hrp.out; simp only [maxLen]; omega) (by have := hrp.out; omega) (Nat.zero_le _) ?_; intro v6 w6 hown6 hgrow6 hor6; obtain ⟨a6, c6, rfl⟩ := owns_shape hown6; obtain ⟨hmem7, hbel7⟩ := Hmem6.out.proof hgrow6 hown6 (next_of hor6) Hint6.out Htag6.out; obtain ⟨hc0, hc1, hc2, hf0, hf1, hf2⟩ := res_cells hmem7.res; have Hmem7 := Lib.hid hmem7; have Hbel7 := Lib.hid hbel7; clear hown6 hgrow6 hor6 hmem7 hbel7)
              have hdl : dl = [] := List.eq_nil_of_length_eq_zero Hd0.out
              subst hdl
              have hbw6 : Below w.heap.size w w6 := (Hbel3.out.trans (Hbi.out.mono (by have := Hbel3.out.size; omega))).trans (((Below.refl _ _).alloc (by have := Hbel3.out.size; omega) _).trans Hbel7.out)
              have hcc : ((decs tr3 []).map fun x => -x) = ([] : List Int) := rfl
              have hrup := Hsr3.out.rup (fun d hd x hx => (Hrange.out d hd x hx).1) (List.getElem_mem hkk) Hconf.out
              rw [hcc] at hrup
              refine bodyPost_ret (v := .tuple #[.agg #[.bool false, .int .u64 0, .slice a6 (rp.length + 1) c6], .nilIface]) (by simp [results, Tryz.results29, go_sem, hc0, hc1, hc2]) rfl ⟨⟨false, 0, _, _, rfl, by decide, ⟨fun h => absurd Hgood.out h, fun _ _ => rfl, fun _ => .inl rfl, fun _ _ h => (by cases h), fun _ _ _ => ⟨rfl, ls ++ [[]], ?_, by rw [List.length_append]; simp; omega, fun i hi => ?_, by simp, fun h => by rw [(Hsr3.out.start h).1]; rfl⟩⟩⟩, ?_⟩
              · have := smem_proof_rows Hmem7.out (by rw [List.length_append]; simp; omega) (.bool false) (.int .u64 0) (.slice a6 (rp.length + 1) c6)
                rw [hcc] at this
                exact this
              · rcases Nat.lt_or_ge i ls.length with h1 | h1
                · rw [List.getElem_append_left h1, List.take_append_of_le_length (by omega)]
                  exact Hsr3.out.learned i h1
                · have e : i = ls.length := by simp at hi; omega
                  subst e
                  rw [List.getElem_append_right (Nat.le_refl _), List.take_left]
                  simpa using hrup
              · exact ((hbw6.setCell (Nat.le_refl _) _).setCell (Nat.le_refl _) _).setCell (Nat.le_refl _) _
            · have hd0' : ((dl.length : Int) == 0) = false := by simpa using hd0
              have hdpos : 0 < dl.length := Nat.pos_of_ne_zero hd0
              clear hd0
              by_cases h2000 : ls.length + 1 = 2000
              · have h2000' : (((rp.length + 1 : Nat) : Int) == 2000) = true := by have := hrp.out; simp; omega
                have H2000 := Lib.hid h2000; clear h2000
                go_wp2_with (at_builtin; refine wpList_append_at _ rfl (.tmp 45) (.tmp 47) 25 rfl 0 80 i1 (.slice none 0 0) 1 24 Tryz.underlying25 hi hz0 hz1 hz2 rfl (by decide) _ _ _ rfl Hmem6.out.op _ 1 1 [.slice a10 dl.length c10] rfl rfl (cell_new_at _ _ _ _ (by simp)) (by intro u hu; simp at hu; subst hu; rfl) (by have := hrp.out; simp only [maxLen]; omega) (by have := hrp.out; omega) (Nat.zero_le _) ?_; intro v6 w6 hown6 hgrow6 hor6; obtain ⟨a6, c6, rfl⟩ := owns_shape hown6; obtain ⟨hmem7, hbel7⟩ := Hmem6.out.proof hgrow6 hown6 (next_of hor6) Hint6.out Htag6.out; obtain ⟨hc0, hc1, hc2, hf0, hf1, hf2⟩ := res_cells hmem7.res; have Hmem7 := Lib.hid hmem7; have Hbel7 := Lib.hid hbel7; clear hown6 hgrow6 hor6 hmem7 hbel7)
                have hbw6 : Below w.heap.size w w6 := (Hbel3.out.trans (Hbi.out.mono (by have := Hbel3.out.size; omega))).trans (((Below.refl _ _).alloc (by have := Hbel3.out.size; omega) _).trans Hbel7.out)
                refine bodyPost_ret (v := .tuple #[.agg #[.bool false, .int .u64 0, .slice none 0 0], .iface 43 (.int .i64 4)]) (by simp [results, Tryz.results29, go_sem, hc0, hc1, hc2]) rfl ⟨⟨false, 0, _, _, rfl, by decide, ⟨fun h => absurd Hgood.out h, fun _ hm10 => ?_, fun _ => .inr ⟨rfl, rfl, rfl, _, _, rfl⟩, fun _ h => (by cases h), fun _ h => (by cases h)⟩⟩, ?_⟩
                · have h1 := srch_few2 Hsr3.out hdpos (fun d hd x hx => (Hrange.out d hd x hx).1) (List.getElem_mem hkk) Hconf.out hm10
                  have := H2000.out
                  omega
                · exact ((hbw6.setCell (Nat.le_refl _) _).setCell (Nat.le_refl _) _).setCell (Nat.le_refl _) _
              · have h2000' : (((rp.length + 1 : Nat) : Int) == 2000) = false := by have := hrp.out; simp; omega
                have H2000 := Lib.hid h2000; clear h2000
                have hints3 : IsInts w3 (.slice a8 dl.length c8) (dl.map fun n : Nat => (n : Int)) := isInts_of_owns (by rw [List.map_map]; exact Hmem3.out.od) (by simp; omega)
                obtain ⟨b8, o8, rfl, _⟩ := hints3.addr (k := dl.length - 1) (by simp; omega)
                have hdc8 : dl.length ≤ c8 ∧ c8 ≤ 9223372036854775807 := by have := hints3.cap; rw [List.length_map] at this; exact this
                clear hints3
                obtain ⟨hdc8, hdc8'⟩ := hdc8
                have h0d : 0 ≤ (dl.length : Int) - 1 := by omega
                have h1d : 1 ≤ (dl.length : Int) := by omega
                have hq : dl[dl.length - 1] < tr3.length := Hsr3.out.dlt _ (List.getElem_mem _)
                generalize hqq : dl[dl.length - 1] = q at hq
                have Hqq := Lib.hid hqq; clear hqq
                go_wp2_with (first
                  | (at_builtin; refine wpList_append_at _ rfl (.tmp 45) (.tmp 47) 25 rfl 0 80 i1 (.slice none 0 0) 1 24 Tryz.underlying25 hi hz0 hz1 hz2 rfl (by decide) _ _ _ rfl Hmem6.out.op _ 1 1 [.slice a10 dl.length c10] rfl rfl (cell_new_at _ _ _ _ (by simp)) (by intro u hu; simp at hu; subst hu; rfl) (by have := hrp.out; simp only [maxLen]; omega) (by have := hrp.out; omega) (Nat.zero_le _) ?_; intro v6 w6 hown6 hgrow6 hor6; obtain ⟨a6, c6, rfl⟩ := owns_shape hown6; obtain ⟨hmem7, hbel7⟩ := Hmem6.out.proof hgrow6 hown6 (next_of hor6) Hint6.out Htag6.out; obtain ⟨hc0, hc1, hc2, hf0, hf1, hf2⟩ := res_cells hmem7.res; obtain ⟨hmem8, hint8, htag8, hint9, htag9⟩ := smem_box2 Hmem6.out hmem7 hgrow6 Hint6.out Htag6.out Hblk10.out hbel7 (.cells #[.slice a10 dl.length c10] 80); have Hmem8 := Lib.hid hmem8; have Hint8 := Lib.hid hint8; have Htag8 := Lib.hid htag8; have Hbel7 := Lib.hid hbel7; clear hown6 hgrow6 hor6 hmem7 hbel7 hmem8 hint8 htag8 hc0 hc1 hc2 hf0 hf1 hf2)
                  | (at_builtin; refine wpList_append_at _ rfl (.tmp 59) (.tmp 61) 25 rfl 0 80 i1 (.slice none 0 0) 1 24 Tryz.underlying25 hi hz0 hz1 hz2 rfl (by decide) _ _ _ rfl Hmem8.out.ol _ 1 1 [.slice a10 dl.length c10] rfl rfl (cell_new_at _ _ _ _ (by simp)) (by intro u hu; simp at hu; subst hu; rfl) (by have := hrl.out; simp only [maxLen]; omega) (by have := hrl.out; omega) (Nat.zero_le _) ?_; intro v9 w9 hown9 hgrow9 hor9; obtain ⟨a11, c11, rfl⟩ := owns_shape hown9; obtain ⟨hmem10, hbel10⟩ := Hmem8.out.clauses hgrow9 hown9 (next_of hor9) Hint8.out Htag8.out; have hc8 := smem_dec hmem10 (by omega) hdpos; rw [Hqq.out] at hc8; have Hmem10 := Lib.hid hmem10; have Hbel10 := Lib.hid hbel10; clear hmem10 hbel10 hown9 hgrow9 hor9))
                refine (back_any M q w2.heap.size g tr3 _ w9 (by omega) Hmem10.out.st Hsr3.out.tok hq).mono ?_
                rintro e w11 ⟨rfl, ⟨g2, v11, hst11, htk11, hob11⟩, hmod11⟩
                obtain ⟨hmem11, hbel11⟩ := Hmem10.out.state hmod11 hst11 (.inl hob11)
                have Hmem11 := Lib.hid hmem11; have Hbel11 := Lib.hid hbel11; have Htk11 := Lib.hid htk11
                clear hst11 htk11 hob11 hmod11 hmem11 hbel11
                go_wp2_with fail
                go_roundg ((2000 - (ls.length + 1)) * 100 + (50 - (tr3.take q).length))
                case measure => omega
                case rel =>
                  have hb9 : Below w.heap.size w w9 := ((((Hbel3.out.trans (Hbi.out.mono (by have := Hbel3.out.size; omega))).alloc (by have := Hbel3.out.size; omega) _).trans Hbel7.out).alloc (by have := Hbel3.out.size; have := Hbel7.out.size; simp at this; omega) _).trans Hbel10.out
                  refine ⟨hb9.trans Hbel11.out, ?_⟩
                  rcases List.eq_nil_or_concat dl with e | ⟨dl', n, e⟩
                  · exact absurd (congrArg List.length e) (by rw [List.length_nil]; omega)
                  · rw [List.concat_eq_append] at e
                    have hqn : n = q := by
                      have := Hqq.out
                      subst e
                      rw [← this]; simp
                    subst hqn
                    have hm := Hmem11.out
                    have hs := Hsr3.out
                    have hl : dl.length = dl'.length + 1 := by rw [e]; simp
                    rw [e] at hm hs
                    rw [← e, hl] at hm
                    rw [hl, Nat.add_sub_cancel]
                    rw [e] at hm
                    have hback := hs.back (fun d hd x hx => (Hrange.out d hd x hx).1) (List.getElem_mem hkk) Hconf.out Htk11.out
                    have hu := hm.undecide
                    rw [List.append_assoc] at hu
                    exact ⟨_, g2, _, dl', v11, _, _, _, hu, hback, by rw [List.length_append]; simp; have := H2000.out; omega, by rw [List.length_append]; simp⟩
  · have Hgood := Lib.hid hgood; clear hgood
    go_enter Tryz.func29, Tryz.ntmps29
    go_wp2_with fail
    refine Hck.out.mono ?_
    rintro e w1 ⟨⟨ev, rfl, -, hev⟩, hb⟩
    obtain ⟨t, v, rfl⟩ := hev Hgood.out
    clear hev
    have hres : w1.heap[w.heap.size]? = some (.cells #[.bool false, .int .u64 0, .slice none 0 0] 72 (0, 0)) := by
      rw [hb.block _ (by simp)]; exact heap_at rfl
    obtain ⟨hc0, hc1, hc2, hf0, hf1, hf2⟩ := res_cells hres
    have Hb := Lib.hid hb; clear hb hres
    go_wp2_with fail
    refine bodyPost_ret (v := .tuple #[.agg #[.bool false, .int .u64 0, .slice none 0 0], .iface t v]) (by simp [results, Tryz.results29, go_sem, hc0, hc1, hc2]) rfl ⟨⟨false, 0, _, _, rfl, by decide, ⟨fun _ => ⟨rfl, rfl, rfl, _, _, rfl⟩, fun h => absurd h Hgood.out, fun h => absurd h Hgood.out, fun h => absurd h Hgood.out, fun h => absurd h Hgood.out⟩⟩, ?_⟩
    exact (((Hal.out.trans (Hb.out.mono (by simp))).setCell (Nat.le_refl _) _).setCell (Nat.le_refl _) _).setCell (Nat.le_refl _) _
end Go.Proofs.YtheemhelioendaaGreatDoor
