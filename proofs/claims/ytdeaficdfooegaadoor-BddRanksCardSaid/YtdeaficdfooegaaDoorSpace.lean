/- A space of diagrams in memory; contracts: bdd.New, node, at. -/
import Derived.Test.YtdeaficdfooegaaDoorIteM
import Derived.Test.YtdeaficdfooegaaDoorPick
namespace Go.Proofs.YtdeaficdfooegaaDoor
open Go.RowKit
set_option linter.unusedVariables false

/-! ### Keys of the cache -/
def enc4 (k : Int × Int × Int × Int) : Value := .agg #[.int .i64 k.1, .int .i64 k.2.1, .int .i64 k.2.2.1, .int .i64 k.2.2.2]

theorem equal4 (a b c d a' b' c' d' : Int) (w : World) : (Op.equalIn 10000 206 (.agg #[.int .i64 a, .int .i64 b, .int .i64 c, .int .i64 d]) (.agg #[.int .i64 a', .int .i64 b', .int .i64 c', .int .i64 d'])).run Tryd.prog w = .ok (decide ((a, b, c, d) = (a', b', c', d'))) w := by
  have u3 := Tryd.underlying3
  have a3 := Tryd.isAgg3
  have z3 := Tryd.sizeOf3
  rw [show (10000 : Nat) = 9999 + 1 from rfl, Op.equalIn]
  simp only [Sem.run_bind, run_underlying Tryd.underlying206, Result.andThen_ok]
  simp only [Std.Legacy.Range.forIn_eq_forIn_range', Std.Legacy.Range.size, Nat.sub_zero, Nat.add_sub_cancel, Nat.div_one, List.range'_succ, List.range'_zero, List.forIn_cons, List.forIn_nil]
  go_simp
  by_cases h1 : a = a' <;> by_cases h2 : b = b' <;> by_cases h3 : c = c' <;> by_cases h4 : d = d' <;> simp [h1, h2, h3, h4]
theorem check4 (n : Nat) (b : Bool) (x y z u : Int) (w : World) : (Instr.checkKey b (n + 1 + 1) 206 (.agg #[.int .i64 x, .int .i64 y, .int .i64 z, .int .i64 u])).run Tryd.prog w = .ok () w := by
  have u3 := Tryd.underlying3
  have a3 := Tryd.isAgg3
  have z3 := Tryd.sizeOf3
  have k3 := fun x w => checkKey_int (P := Tryd.prog) u3 n b x w
  rw [Instr.checkKey]
  simp only [Sem.run_bind, run_underlying Tryd.underlying206, Result.andThen_ok]
  simp only [Std.Legacy.Range.forIn_eq_forIn_range', Std.Legacy.Range.size, Nat.sub_zero, Nat.add_sub_cancel, Nat.div_one, List.range'_succ, List.range'_zero, List.forIn_cons, List.forIn_nil]
  go_simp
theorem key4 : KeyTy Tryd.prog 206 enc4 :=
  askKey _ Tryd.underlying206 (fun a b => by cases a <;> cases b <;> rfl) (fun x y w => by
    obtain ⟨a, b, c, d⟩ := x
    obtain ⟨a', b', c', d'⟩ := y
    exact equal4 a b c d a' b' c' d' w) (fun b n w => check4 9998 b n.1 n.2.1 n.2.2.1 n.2.2.2 w) (fun n => by simp [enc4, Instr.sameBits])

/-! ### The space -/
structure Sb where
  ps : Nat
  b : Bk
  mc : Nat
/-- What a space's methods may turn. -/
def Sb.mem (s : Sb) (k : Nat) : Prop := s.b.mem k ∨ k = s.mc
structure IsSpace (w : World) (s : Sb) (V : Int) (st : Sp) : Prop where
  blk : w.heap[s.ps]? = some (.cells #[.pointer (some ⟨s.b.p, 0, none⟩), .int .i64 V, .map (some s.mc)] 97 (0, 0))
  ar : IsArena w s.b st.c
  map : ∃ mq, MapOf w s.mc enc4 mq ∧ ∀ a b c, assoc mq (0, a, b, c) = (st.q (a, b, c)).map (Value.int .i64)
  off : ¬ s.mem s.ps
  off2 : ¬ s.b.mem s.mc

section
variable {w w2 : World} {s : Sb} {V : Int} {st : Sp}
theorem IsSpace.lps (h : IsSpace w s V st) : s.ps < w.heap.size := (Array.getElem?_eq_some_iff.1 h.blk).1
theorem IsSpace.lt (h : IsSpace w s V st) {k : Nat} (hk : s.mem k) : k < w.heap.size := by
  rcases hk with hk | rfl
  · exact h.ar.lt hk
  · obtain ⟨mq, hm, _⟩ := h.map; exact hm.lt
theorem IsSpace.s0 (h : IsSpace w s V st) : w.cell? ⟨s.ps, 0, none⟩ = some (.pointer (some ⟨s.b.p, 0, none⟩)) := by rw [cell_of_row w _ _ _ _ _ h.blk]; rfl
theorem IsSpace.s1 (h : IsSpace w s V st) : w.cell? ⟨s.ps, 1, none⟩ = some (.int .i64 V) := by rw [cell_of_row w _ _ _ _ _ h.blk]; rfl
theorem IsSpace.s2 (h : IsSpace w s V st) : w.cell? ⟨s.ps, 2, none⟩ = some (.map (some s.mc)) := by rw [cell_of_row w _ _ _ _ _ h.blk]; rfl
theorem IsSpace.below (h : IsSpace w s V st) (hb : Below w.heap.size w w2) : IsSpace w2 s V st := by
  obtain ⟨mq, hm, hq⟩ := h.map
  exact ⟨by rw [hb.block _ h.lps]; exact h.blk, h.ar.below hb, ⟨mq, hm.block_eq (hb.block _ hm.lt), hq⟩, h.off, h.off2⟩
theorem IsSpace.arena (h : IsSpace w s V st) {c : Cells} (ho : Only s.b.mem w w2) (ha : IsArena w2 s.b c) : IsSpace w2 s V ⟨c, st.q⟩ := by
  obtain ⟨mq, hm, hq⟩ := h.map
  exact ⟨by rw [ho.block _ h.lps (fun e => h.off (.inl e))]; exact h.blk, ha, ⟨mq, hm.block_eq (ho.block _ hm.lt h.off2), hq⟩, h.off, h.off2⟩
theorem IsSpace.only {S : Nat → Prop} (h : IsSpace w s V st) (ho : Only S w w2) (h1 : ¬ S s.ps) (h2 : ∀ k, s.mem k → ¬ S k) : IsSpace w2 s V st := by
  obtain ⟨mq, hm, hq⟩ := h.map
  exact ⟨by rw [ho.block _ h.lps h1]; exact h.blk, h.ar.only ho (fun k hk => h2 k (.inl hk)), ⟨mq, hm.block_eq (ho.block _ hm.lt (h2 _ (.inr rfl))), hq⟩, h.off, h.off2⟩
theorem IsSpace.put (h : IsSpace w s V st) {mq : List ((Int × Int × Int × Int) × Value)} (hq : ∀ a b c, assoc mq (0, a, b, c) = (st.q (a, b, c)).map (Value.int .i64)) {a b c x : Int} {o : Obj} (hm : MapOf (setObjW w s.mc o) s.mc enc4 (putAssoc mq (0, a, b, c) (.int .i64 x))) :
    IsSpace (setObjW w s.mc o) s V ⟨st.c, putQ st.q (a, b, c) x⟩ := by
  have ho : Only (· = s.mc) w (setObjW w s.mc o) := ⟨rfl, rfl, rfl, by simp [setObjW], fun k _ hk => setObjW_other o hk⟩
  refine ⟨by rw [ho.block _ h.lps (fun e => h.off (.inr e))]; exact h.blk, h.ar.only ho (fun k hk e => h.off2 (e ▸ hk)), ⟨_, hm, fun a' b' c' => ?_⟩, h.off, h.off2⟩
  rw [assoc_put]
  unfold putQ
  by_cases e : (a, b, c) = (a', b', c')
  · simp only [Prod.mk.injEq] at e
    obtain ⟨rfl, rfl, rfl⟩ := e
    simp
  · dsimp only; rw [if_neg e, if_neg (fun e2 => e (by simpa using e2))]; exact hq a' b' c'
end

def noQ : Int × Int × Int → Option Int := fun _ => none

set_option maxHeartbeats 2000000 in
theorem bnew_any (V : Int) (R : Nat) (w : World) (hV0 : 0 ≤ V) (hV : V ≤ 24) (h1 : 1 ≤ R) (h2 : R ≤ 4000) :
    Calls Tryd.prog 46 #[.int .i64 V, .int .i64 R] w fun e w' => (∃ s : Sb, e = .returned (.tuple #[.pointer (some ⟨s.ps, 0, none⟩), .nilIface]) ∧ s.b.R = R ∧ IsSpace w' s V ⟨List.replicate R none, noQ⟩ ∧ w.heap.size ≤ s.ps ∧ ∀ k, s.mem k → w.heap.size ≤ k) ∧ Below w.heap.size w w' := by
  have hmm := @run_makeMap Tryd.prog
  go_enter Tryd.func46, Tryd.ntmps46
  go_wp2_with fail
  refine (new_any R w h1 h2).mono ?_
  rintro e w1 ⟨⟨b, rfl, hR, ha, hm⟩, hb1⟩
  have Ha := Lib.hid ha; have Hm := Lib.hid hm; have Hb1 := Lib.hid hb1; have HR := Lib.hid hR
  clear ha hm hb1 hR
  go_wp2_with fail
  go_ret2
  have hb2 : Below w1.heap.size w1 ((w1.alloc (.map #[] 0)).alloc (.cells #[.pointer (some ⟨b.p, 0, none⟩), .int .i64 V, .map (some w1.heap.size)] 97)) := ((Below.refl _ _).alloc (Nat.le_refl _) _).alloc (by simp) _
  refine ⟨⟨⟨w1.heap.size + 1, b, w1.heap.size⟩, rfl, HR.out, ⟨heap_at (by simp only [alloc_size]), Ha.out.below hb2, ⟨[], (mapOf_new w1 enc4).below ((Below.refl _ _).alloc (by simp) _), fun _ _ _ => rfl⟩, ?_, ?_⟩, ?_, ?_⟩, Hb1.out.trans (hb2.mono Hb1.out.size)⟩
  · rintro (h | h)
    · have := Ha.out.lt h; dsimp only at this; omega
    · dsimp only at h; omega
  · intro h; have := Ha.out.lt h; dsimp only at this; omega
  · have := Hb1.out.size; dsimp only; omega
  · rintro k (h | rfl)
    · exact Hm.out k h
    · exact Hb1.out.size

set_option maxHeartbeats 1000000 in
theorem node_any (v l h : Int) (w : World) (s : Sb) (V : Int) (st : Sp) (hs : IsSpace w s V st) (hl : l ≤ 9223372036854775807) (hh : h ≤ 9223372036854775807) :
    Calls Tryd.prog 96 #[.pointer (some ⟨s.ps, 0, none⟩), .int .i64 v, .int .i64 l, .int .i64 h] w fun e w' =>
      e = .returned (.tuple #[.int .i64 (nodeM st.c v l h).2.1, errV (nodeM st.c v l h).2.2]) ∧ IsSpace w' s V ⟨(nodeM st.c v l h).1, st.q⟩ ∧ Only s.b.mem w w' := by
  by_cases e : l = h
  · subst e
    have hn : nodeM st.c v l l = (st.c, l, 0) := by unfold nodeM; rw [if_pos rfl]
    rw [hn]
    have Hs := Lib.hid hs; clear hs hn
    go_enter Tryd.func96, Tryd.ntmps96
    go_wp2_with fail
    go_ret2
    exact ⟨rfl, Hs.out, Only.refl _ _⟩
  · have hn : nodeM st.c v l h = mkM st.c (v, l, h) := by unfold nodeM; rw [if_neg e]
    rw [hn]
    have e0 : (l == h) = false := by simpa using e
    have c0 := hs.s0
    have hm := make_any (v, l, h) w s.b st.c hs.ar hl hh
    unfold encNd MkPost at hm
    dsimp only at hm
    have Hs := Lib.hid hs; have Hm := Lib.hid hm; clear hs hm hn e
    go_enter Tryd.func96, Tryd.ntmps96
    go_wp2_with fail
    refine Hm.out.mono ?_
    rintro e w1 ⟨rfl, ha, ho⟩
    have Ha := Lib.hid ha; have Ho := Lib.hid ho; clear ha ho
    go_wp2_with fail
    go_ret2
    exact ⟨rfl, Hs.out.arena Ho.out Ha.out, Ho.out⟩

set_option maxRecDepth 100000 in
set_option maxHeartbeats 1000000 in
theorem bat_any (h v : Int) (w : World) (s : Sb) (V : Int) (st : Sp) (hs : IsSpace w s V st) (hh : h ≤ 9223372036854775807) :
    Calls Tryd.prog 52 #[.pointer (some ⟨s.ps, 0, none⟩), .int .i64 h, .int .i64 v] w fun e w' =>
      e = .returned (.tuple #[.int .i64 (atM st.c h v).1, .int .i64 (atM st.c h v).2]) ∧ Below w.heap.size w w' := by
  have c0 := hs.s0
  have lp := hs.lps
  have hg := get_any h w s.b st.c hs.ar hh
  have Hs := Lib.hid hs; clear hs
  cases g : getM st.c h with
  | none =>
    have ha : atM st.c h v = (h, h) := by unfold atM; rw [g]
    rw [ha]
    rw [g] at hg
    have Hg := Lib.hid hg; have G := Lib.hid g; clear hg g ha
    go_enter Tryd.func52, Tryd.ntmps52
    go_wp2_with fail
    refine Hg.out.mono ?_
    rintro e w1 ⟨rfl, rfl⟩
    simp only [gotV, encNd, Option.getD_none, Option.isSome_none]
    go_wp2_with fail
    go_ret2
    exact ⟨rfl, ((Below.refl _ _).alloc (Nat.le_refl _) _).alloc (by simp) _⟩
  | some n =>
    obtain ⟨a, l, u⟩ := n
    rw [g] at hg
    by_cases e : a = v
    · subst e
      have ha : atM st.c h a = (l, u) := by unfold atM; rw [g]; simp
      rw [ha]
      have Hg := Lib.hid hg; have G := Lib.hid g; clear hg g ha
      go_enter Tryd.func52, Tryd.ntmps52
      go_wp2_with fail
      refine Hg.out.mono ?_
      rintro e w1 ⟨rfl, rfl⟩
      simp only [gotV, encNd, Option.getD_some, Option.isSome_some]
      go_wp2_with fail
      go_quiet (fail)
      go_wp2_with fail
      go_ret2
      exact ⟨rfl, below_drewN (((Below.refl _ _).alloc (Nat.le_refl _) _).alloc (by simp) _) _⟩
    · have ha : atM st.c h v = (h, h) := by unfold atM; rw [g]; simp [e]
      have e0 : (a == v) = false := by simpa using e
      rw [ha]
      have Hg := Lib.hid hg; have G := Lib.hid g; clear hg g ha e
      go_enter Tryd.func52, Tryd.ntmps52
      go_wp2_with fail
      refine Hg.out.mono ?_
      rintro e w1 ⟨rfl, rfl⟩
      simp only [gotV, encNd, Option.getD_some, Option.isSome_some]
      go_wp2_with fail
      go_ret2
      exact ⟨rfl, ((Below.refl _ _).alloc (Nat.le_refl _) _).alloc (by simp) _⟩
end Go.Proofs.YtdeaficdfooegaaDoor
