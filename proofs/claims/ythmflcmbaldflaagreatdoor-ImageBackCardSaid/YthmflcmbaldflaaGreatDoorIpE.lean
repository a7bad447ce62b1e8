/- Some texts in one: Space, Range, Ite, Ops. -/
import Derived.Test.YthmflcmbaldflaaGreatDoorIpA
import Derived.Test.YthmflcmbaldflaaGreatDoorIpD
import Derived.Test.YthmflcmbaldflaaGreatDoorIpB
import Derived.Test.YthmflcmbaldflaaGreatDoorIpC
import Derived.Maps.RangeWalk
import Derived.Maps.OwnSet
namespace Go.Proofs.YthmflcmbaldflaaGreatDoor
open Go.RowKit
set_option linter.unusedVariables false

/-! ### Keys of the cache -/
def enc4 (k : Int × Int × Int × Int) : Value := .agg #[.int .i64 k.1, .int .i64 k.2.1, .int .i64 k.2.2.1, .int .i64 k.2.2.2]

theorem equal4 (a b c d a' b' c' d' : Int) (w : World) : (Op.equalIn 10000 135 (.agg #[.int .i64 a, .int .i64 b, .int .i64 c, .int .i64 d]) (.agg #[.int .i64 a', .int .i64 b', .int .i64 c', .int .i64 d'])).run Tryz.prog w = .ok (decide ((a, b, c, d) = (a', b', c', d'))) w := by
  have u3 := Tryz.underlying3
  have a3 := Tryz.isAgg3
  have z3 := Tryz.sizeOf3
  rw [show (10000 : Nat) = 9999 + 1 from rfl, Op.equalIn]
  simp only [Sem.run_bind, run_underlying Tryz.underlying135, Result.andThen_ok]
  simp only [Std.Legacy.Range.forIn_eq_forIn_range', Std.Legacy.Range.size, Nat.sub_zero, Nat.add_sub_cancel, Nat.div_one, List.range'_succ, List.range'_zero, List.forIn_cons, List.forIn_nil]
  go_simp
  by_cases h1 : a = a' <;> by_cases h2 : b = b' <;> by_cases h3 : c = c' <;> by_cases h4 : d = d' <;> simp [h1, h2, h3, h4]
theorem check4 (n : Nat) (b : Bool) (x y z u : Int) (w : World) : (Instr.checkKey b (n + 1 + 1) 135 (.agg #[.int .i64 x, .int .i64 y, .int .i64 z, .int .i64 u])).run Tryz.prog w = .ok () w := by
  have u3 := Tryz.underlying3
  have a3 := Tryz.isAgg3
  have z3 := Tryz.sizeOf3
  have k3 := fun x w => checkKey_int (P := Tryz.prog) u3 n b x w
  rw [Instr.checkKey]
  simp only [Sem.run_bind, run_underlying Tryz.underlying135, Result.andThen_ok]
  simp only [Std.Legacy.Range.forIn_eq_forIn_range', Std.Legacy.Range.size, Nat.sub_zero, Nat.add_sub_cancel, Nat.div_one, List.range'_succ, List.range'_zero, List.forIn_cons, List.forIn_nil]
  go_simp
theorem key4 : KeyTy Tryz.prog 135 enc4 :=
  askKey _ Tryz.underlying135 (fun a b => by cases a <;> cases b <;> rfl) (fun x y w => by
    obtain ⟨a, b, c, d⟩ := x
    obtain ⟨a', b', c', d'⟩ := y
    exact equal4 a b c d a' b' c' d' w) (fun b n w => check4 9998 b n.1 n.2.1 n.2.2.1 n.2.2.2 w) (fun n => by simp [enc4, Instr.sameBits])

/-! ### The space -/
structure Sb where
  ps : Nat
  b : Bk
  mc : Nat
/-- What a space's methods may turn. -/
def Sb.mem (s : Sb) (k : Nat) : Prop := s.b.mem k ∨ k = s.mc
structure IsSpace (w : World) (s : Sb) (V : Int) (st : Sp) : Prop where
  blk : w.heap[s.ps]? = some (.cells #[.pointer (some ⟨s.b.p, 0, none⟩), .int .i64 V, .map (some s.mc)] 52 (0, 0))
  ar : IsArena w s.b st.c
  map : ∃ mq, MapOf w s.mc enc4 mq ∧ ∀ a b c, assoc mq (0, a, b, c) = (st.q (a, b, c)).map (Value.int .i64)
  off : ¬ s.mem s.ps
  off2 : ¬ s.b.mem s.mc

section
variable {w w2 : World} {s : Sb} {V : Int} {st : Sp}
theorem IsSpace.lps (h : IsSpace w s V st) : s.ps < w.heap.size := (Array.getElem?_eq_some_iff.1 h.blk).1
theorem IsSpace.lt (h : IsSpace w s V st) {k : Nat} (hk : s.mem k) : k < w.heap.size := by
  rcases hk with hk | rfl
  · exact h.ar.lt hk
  · obtain ⟨mq, hm, _⟩ := h.map; exact hm.lt
theorem IsSpace.s0 (h : IsSpace w s V st) : w.cell? ⟨s.ps, 0, none⟩ = some (.pointer (some ⟨s.b.p, 0, none⟩)) := by rw [cell_of_row w _ _ _ _ _ h.blk]; rfl
theorem IsSpace.s1 (h : IsSpace w s V st) : w.cell? ⟨s.ps, 1, none⟩ = some (.int .i64 V) := by rw [cell_of_row w _ _ _ _ _ h.blk]; rfl
theorem IsSpace.s2 (h : IsSpace w s V st) : w.cell? ⟨s.ps, 2, none⟩ = some (.map (some s.mc)) := by rw [cell_of_row w _ _ _ _ _ h.blk]; rfl
theorem IsSpace.below (h : IsSpace w s V st) (hb : Below w.heap.size w w2) : IsSpace w2 s V st := by
  obtain ⟨mq, hm, hq⟩ := h.map
  exact ⟨by rw [hb.block _ h.lps]; exact h.blk, h.ar.below hb, ⟨mq, hm.block_eq (hb.block _ hm.lt), hq⟩, h.off, h.off2⟩
theorem IsSpace.arena (h : IsSpace w s V st) {c : Cells} (ho : Only s.b.mem w w2) (ha : IsArena w2 s.b c) : IsSpace w2 s V ⟨c, st.q⟩ := by
  obtain ⟨mq, hm, hq⟩ := h.map
  exact ⟨by rw [ho.block _ h.lps (fun e => h.off (.inl e))]; exact h.blk, ha, ⟨mq, hm.block_eq (ho.block _ hm.lt h.off2), hq⟩, h.off, h.off2⟩
theorem IsSpace.only {S : Nat → Prop} (h : IsSpace w s V st) (ho : Only S w w2) (h1 : ¬ S s.ps) (h2 : ∀ k, s.mem k → ¬ S k) : IsSpace w2 s V st := by
  obtain ⟨mq, hm, hq⟩ := h.map
  exact ⟨by rw [ho.block _ h.lps h1]; exact h.blk, h.ar.only ho (fun k hk => h2 k (.inl hk)), ⟨mq, hm.block_eq (ho.block _ hm.lt (h2 _ (.inr rfl))), hq⟩, h.off, h.off2⟩
theorem IsSpace.put (h : IsSpace w s V st) {mq : List ((Int × Int × Int × Int) × Value)} (hq : ∀ a b c, assoc mq (0, a, b, c) = (st.q (a, b, c)).map (Value.int .i64)) {a b c x : Int} {o : Obj} (hm : MapOf (setObjW w s.mc o) s.mc enc4 (putAssoc mq (0, a, b, c) (.int .i64 x))) :
    IsSpace (setObjW w s.mc o) s V ⟨st.c, putQ st.q (a, b, c) x⟩ := by
  have ho : Only (· = s.mc) w (setObjW w s.mc o) := ⟨rfl, rfl, rfl, by simp [setObjW], fun k _ hk => setObjW_other o hk⟩
  refine ⟨by rw [ho.block _ h.lps (fun e => h.off (.inr e))]; exact h.blk, h.ar.only ho (fun k hk e => h.off2 (e ▸ hk)), ⟨_, hm, fun a' b' c' => ?_⟩, h.off, h.off2⟩
  rw [assoc_put]
  unfold putQ
  by_cases e : (a, b, c) = (a', b', c')
  · simp only [Prod.mk.injEq] at e
    obtain ⟨rfl, rfl, rfl⟩ := e
    simp
  · dsimp only; rw [if_neg e, if_neg (fun e2 => e (by simpa using e2))]; exact hq a' b' c'
end

def noQ : Int × Int × Int → Option Int := fun _ => none

set_option maxHeartbeats 2000000 in
theorem bnew_any (V : Int) (R : Nat) (w : World) (hV0 : 0 ≤ V) (hV : V ≤ 24) (h1 : 1 ≤ R) (h2 : R ≤ 4000) :
    Calls Tryz.prog 16 #[.int .i64 V, .int .i64 R] w fun e w' => (∃ s : Sb, e = .returned (.tuple #[.pointer (some ⟨s.ps, 0, none⟩), .nilIface]) ∧ s.b.R = R ∧ IsSpace w' s V ⟨List.replicate R none, noQ⟩ ∧ w.heap.size ≤ s.ps ∧ ∀ k, s.mem k → w.heap.size ≤ k) ∧ Below w.heap.size w w' := by
  have hmm := @run_makeMap Tryz.prog
  go_enter Tryz.func16, Tryz.ntmps16
  go_wp2_with fail
  refine (anew_any R w h1 h2).mono ?_
  rintro e w1 ⟨⟨b, rfl, hR, ha, hm⟩, hb1⟩
  have Ha := Lib.hid ha; have Hm := Lib.hid hm; have Hb1 := Lib.hid hb1; have HR := Lib.hid hR
  clear ha hm hb1 hR
  go_wp2_with fail
  go_ret2
  have hb2 : Below w1.heap.size w1 ((w1.alloc (.map #[] 0)).alloc (.cells #[.pointer (some ⟨b.p, 0, none⟩), .int .i64 V, .map (some w1.heap.size)] 52)) := ((Below.refl _ _).alloc (Nat.le_refl _) _).alloc (by simp) _
  refine ⟨⟨⟨w1.heap.size + 1, b, w1.heap.size⟩, rfl, HR.out, ⟨heap_at (by simp only [alloc_size]), Ha.out.below hb2, ⟨[], (mapOf_new w1 enc4).below ((Below.refl _ _).alloc (by simp) _), fun _ _ _ => rfl⟩, ?_, ?_⟩, ?_, ?_⟩, Hb1.out.trans (hb2.mono Hb1.out.size)⟩
  · rintro (h | h)
    · have := Ha.out.lt h; dsimp only at this; omega
    · dsimp only at h; omega
  · intro h; have := Ha.out.lt h; dsimp only at this; omega
  · have := Hb1.out.size; dsimp only; omega
  · rintro k (h | rfl)
    · exact Hm.out k h
    · exact Hb1.out.size

set_option maxHeartbeats 1000000 in
theorem node_any (v l h : Int) (w : World) (s : Sb) (V : Int) (st : Sp) (hs : IsSpace w s V st) (hl : l ≤ 9223372036854775807) (hh : h ≤ 9223372036854775807) :
    Calls Tryz.prog 48 #[.pointer (some ⟨s.ps, 0, none⟩), .int .i64 v, .int .i64 l, .int .i64 h] w fun e w' =>
      e = .returned (.tuple #[.int .i64 (nodeM st.c v l h).2.1, errV (nodeM st.c v l h).2.2]) ∧ IsSpace w' s V ⟨(nodeM st.c v l h).1, st.q⟩ ∧ Only s.b.mem w w' := by
  by_cases e : l = h
  · subst e
    have hn : nodeM st.c v l l = (st.c, l, 0) := by unfold nodeM; rw [if_pos rfl]
    rw [hn]
    have Hs := Lib.hid hs; clear hs hn
    go_enter Tryz.func48, Tryz.ntmps48
    go_wp2_with fail
    go_ret2
    exact ⟨rfl, Hs.out, Only.refl _ _⟩
  · have hn : nodeM st.c v l h = mkM st.c (v, l, h) := by unfold nodeM; rw [if_neg e]
    rw [hn]
    have e0 : (l == h) = false := by simpa using e
    have c0 := hs.s0
    have hm := make_any (v, l, h) w s.b st.c hs.ar hl hh
    unfold encNd MkPost at hm
    dsimp only at hm
    have Hs := Lib.hid hs; have Hm := Lib.hid hm; clear hs hm hn e
    go_enter Tryz.func48, Tryz.ntmps48
    go_wp2_with fail
    refine Hm.out.mono ?_
    rintro e w1 ⟨rfl, ha, ho⟩
    have Ha := Lib.hid ha; have Ho := Lib.hid ho; clear ha ho
    go_wp2_with fail
    go_ret2
    exact ⟨rfl, Hs.out.arena Ho.out Ha.out, Ho.out⟩

set_option maxRecDepth 100000 in
set_option maxHeartbeats 1000000 in
theorem bat_any (h v : Int) (w : World) (s : Sb) (V : Int) (st : Sp) (hs : IsSpace w s V st) (hh : h ≤ 9223372036854775807) :
    Calls Tryz.prog 82 #[.pointer (some ⟨s.ps, 0, none⟩), .int .i64 h, .int .i64 v] w fun e w' =>
      e = .returned (.tuple #[.int .i64 (atM st.c h v).1, .int .i64 (atM st.c h v).2]) ∧ Below w.heap.size w w' := by
  have c0 := hs.s0
  have lp := hs.lps
  have hg := get_any h w s.b st.c hs.ar hh
  have Hs := Lib.hid hs; clear hs
  cases g : getM st.c h with
  | none =>
    have ha : atM st.c h v = (h, h) := by unfold atM; rw [g]
    rw [ha]
    rw [g] at hg
    have Hg := Lib.hid hg; have G := Lib.hid g; clear hg g ha
    go_enter Tryz.func82, Tryz.ntmps82
    go_wp2_with fail
    refine Hg.out.mono ?_
    rintro e w1 ⟨rfl, rfl⟩
    simp only [gotV, encNd, Option.getD_none, Option.isSome_none]
    go_wp2_with fail
    go_ret2
    exact ⟨rfl, ((Below.refl _ _).alloc (Nat.le_refl _) _).alloc (by simp) _⟩
  | some n =>
    obtain ⟨a, l, u⟩ := n
    rw [g] at hg
    by_cases e : a = v
    · subst e
      have ha : atM st.c h a = (l, u) := by unfold atM; rw [g]; simp
      rw [ha]
      have Hg := Lib.hid hg; have G := Lib.hid g; clear hg g ha
      go_enter Tryz.func82, Tryz.ntmps82
      go_wp2_with fail
      refine Hg.out.mono ?_
      rintro e w1 ⟨rfl, rfl⟩
      simp only [gotV, encNd, Option.getD_some, Option.isSome_some]
      go_wp2_with fail
      go_quiet (fail)
      go_wp2_with fail
      go_ret2
      exact ⟨rfl, below_drewA (((Below.refl _ _).alloc (Nat.le_refl _) _).alloc (by simp) _) _⟩
    · have ha : atM st.c h v = (h, h) := by unfold atM; rw [g]; simp [e]
      have e0 : (a == v) = false := by simpa using e
      rw [ha]
      have Hg := Lib.hid hg; have G := Lib.hid g; clear hg g ha e
      go_enter Tryz.func82, Tryz.ntmps82
      go_wp2_with fail
      refine Hg.out.mono ?_
      rintro e w1 ⟨rfl, rfl⟩
      simp only [gotV, encNd, Option.getD_some, Option.isSome_some]
      go_wp2_with fail
      go_ret2
      exact ⟨rfl, ((Below.refl _ _).alloc (Nat.le_refl _) _).alloc (by simp) _⟩
end Go.Proofs.YthmflcmbaldflaaGreatDoor
namespace Go.Proofs.YthmflcmbaldflaaGreatDoor
open Go.RowKit
open Go.ChangeMaps (setBlock)
set_option linter.unusedVariables false

theorem erase_map {α β : Type} (f : α → β) : ∀ (l : List α) (i : Nat), (l.eraseIdx i).map f = (l.map f).eraseIdx i
  | [], _ => rfl
  | x :: l, 0 => rfl
  | x :: l, i + 1 => by simp [erase_map f l i]
theorem filter_erase : ∀ (l : List MapEntry) (i : Nat) (e : MapEntry), l[i]? = some e → (l.map (·.born)).Nodup → l.filter (fun x => x.born != e.born) = l.eraseIdx i
  | [], _, _, h, _ => by simp at h
  | x :: l, 0, e, h, hn => by
    have e1 : x = e := by simpa using h
    subst e1
    simp only [List.map_cons, List.nodup_cons] at hn
    rw [List.filter_cons_of_neg (by simp), List.eraseIdx_cons_zero, List.filter_eq_self]
    intro y hy
    simp only [bne_iff_ne, ne_eq]
    intro e2
    exact hn.1 (List.mem_map.2 ⟨y, hy, e2⟩)
  | x :: l, i + 1, e, h, hn => by
    simp only [List.map_cons, List.nodup_cons] at hn
    have h' : l[i]? = some e := by simpa using h
    have hm : e ∈ l := List.mem_of_getElem? h'
    rw [List.filter_cons_of_pos (by
      simp only [bne_iff_ne, ne_eq]
      intro e2
      exact hn.1 (List.mem_map.2 ⟨e, hm, e2.symm⟩)), List.eraseIdx_cons_succ, filter_erase l i e h' hn.2]

section
variable {α : Type} {P : Program}
/-- Block r goes over the map in block b; left is still to come. -/
def IterOf (w : World) (r b : Nat) (enc : α → Value) (m left : List (α × Value)) : Prop :=
  ∃ es clock since seen c0, w.heap[b]? = some (.map es clock) ∧ es.toList.map (fun e => (e.key, e.val)) = m.map (fun p => (enc p.1, p.2)) ∧ (m.map (·.1)).Nodup ∧ (es.toList.map (·.born)).Pairwise (· < ·) ∧ (∀ e ∈ es.toList, e.born < clock) ∧
    w.heap[r]? = some (.mapIter (some b) since seen c0) ∧ (∀ x ∈ es.toList, x.born < since) ∧ since ≤ c0 ∧ since ≤ clock ∧ (∀ p ∈ left, p ∈ m) ∧ (leftOf es seen).toList.map (fun e => (e.key, e.val)) = left.map (fun p => (enc p.1, p.2))

theorem IterOf.map {w : World} {r b : Nat} {enc : α → Value} {m left : List (α × Value)} (h : IterOf w r b enc m left) : MapOf w b enc m := by
  obtain ⟨es, clock, since, seen, c0, h1, h2, h3, h4, h5, _⟩ := h
  exact ⟨es, clock, h1, h2, h3, h4, h5⟩
theorem IterOf.keep {w w' : World} {r b : Nat} {enc : α → Value} {m left : List (α × Value)} (h : IterOf w r b enc m left) (h1 : w'.heap[b]? = w.heap[b]?) (h2 : w'.heap[r]? = w.heap[r]?) : IterOf w' r b enc m left := by
  obtain ⟨es, clock, since, seen, c0, g1, g2, g3, g4, g5, g6, g7⟩ := h
  exact ⟨es, clock, since, seen, c0, by rw [h1]; exact g1, g2, g3, g4, g5, by rw [h2]; exact g6, g7⟩
theorem IterOf.lt {w : World} {r b : Nat} {enc : α → Value} {m left : List (α × Value)} (h : IterOf w r b enc m left) : b < w.heap.size ∧ r < w.heap.size ∧ b ≠ r := by
  obtain ⟨es, clock, since, seen, c0, g1, g2, g3, g4, g5, g6, g7⟩ := h
  exact ⟨(Array.getElem?_eq_some_iff.1 g1).1, (Array.getElem?_eq_some_iff.1 g6).1, fun e => by subst e; rw [g1] at g6; cases g6⟩
theorem IterOf.below {w w' : World} {r b : Nat} {enc : α → Value} {m left : List (α × Value)} (h : IterOf w r b enc m left) (hb : Below w.heap.size w w') : IterOf w' r b enc m left :=
  h.keep (hb.block _ h.lt.1) (hb.block _ h.lt.2.1)

theorem MapOf.range {w : World} {b : Nat} {kt et t : TypeId} {enc : α → Value} {m : List (α × Value)} (h : MapOf w b enc m) (ht : P.underlying t = some (.map kt et)) :
    ∃ w', (Instr.range t (.map (some b))).run P w = .ok (.pointer (some ⟨w.heap.size, 0, none⟩)) w' ∧ IterOf w' w.heap.size b enc m m ∧ Below w.heap.size w w' ∧ w'.heap.size = w.heap.size + 1 := by
  have hlt := h.lt
  obtain ⟨es, clock, h1, h2, h3, h4, h5⟩ := h
  refine ⟨w.alloc (.mapIter (some b) clock #[] clock), ?_, ⟨es, clock, clock, #[], clock, heap_up h1, h2, h3, h4, h5, heap_at rfl, h5, Nat.le_refl _, Nat.le_refl _, fun _ h => h, ?_⟩, (Below.refl _ _).alloc (Nat.le_refl _) _, by simp⟩
  · simp only [Instr.range, Sem.run_bind, run_underlying ht, Result.andThen_ok, run_getObjM h1, Sem.run_pure]
    rfl
  · have : leftOf es #[] = es := by simp [leftOf]
    rw [this]; exact h2

theorem setBlock_get {w : World} {r k : Nat} {o : Obj} (hr : r < w.heap.size) : (setBlock w r o).heap[k]? = if k = r then some o else w.heap[k]? := by
  simp only [setBlock, Array.getElem?_setIfInBounds]
  by_cases e : r = k
  · subst e; simp [hr]
  · rw [if_neg e, if_neg (fun e2 => e e2.symm)]

theorem IterOf.next {w : World} {r b : Nat} {enc : α → Value} {m left : List (α × Value)} (h : IterOf w r b enc m left) (ty : TypeId) :
    (left = [] ∧ (Instr.next (.pointer (some ⟨r, 0, none⟩)) false ty).run P w = .ok (.tuple #[.bool false]) w) ∨
    ∃ i p w', left[i]? = some p ∧ p ∈ m ∧ (Instr.next (.pointer (some ⟨r, 0, none⟩)) false ty).run P w = .ok (.tuple #[.bool true, enc p.1, p.2]) w' ∧ IterOf w' r b enc m (left.eraseIdx i) ∧ Only (· = r) w w' ∧ w'.heap.size = w.heap.size ∧
      (Instr.entry (.pointer (some ⟨r, 0, none⟩))).run P w' = .ok (.tuple #[enc p.1, p.2]) w' := by
  obtain ⟨hlb, hlr, hbr⟩ := h.lt
  obtain ⟨es, clock, since, seen, c0, g1, g2, g3, g4, g5, g6, g7, g8, g10, g11, g9⟩ := h
  have hnd : (es.toList.map (·.born)).Nodup := List.Pairwise.imp (fun h => Nat.ne_of_lt h) g4
  rcases run_next_at (P := P) w ty r b since c0 seen es clock g6 g1 g7 g8 with ⟨h0, hrun⟩ | ⟨e, he, w1, hw1, hrun⟩
  · left
    have : (leftOf es seen).toList = [] := List.eq_nil_of_length_eq_zero (by simpa using h0)
    rw [this] at g9
    exact ⟨List.map_eq_nil_iff.1 g9.symm, hrun⟩
  · right
    obtain ⟨i, hi⟩ := List.getElem?_of_mem he
    have hl : (left.map fun p => (enc p.1, p.2))[i]? = some (e.key, e.val) := by rw [← g9, List.getElem?_map, hi]; rfl
    rw [List.getElem?_map] at hl
    obtain ⟨p, hp, hpe⟩ := Option.map_eq_some_iff.1 hl
    simp only [Prod.mk.injEq] at hpe
    have hem : e ∈ es.toList := (mem_left he).1
    have hs1 : w1.heap = w.heap := by rcases hw1 with rfl | rfl <;> rfl
    have hlr1 : r < w1.heap.size := by rw [hs1]; exact hlr
    have hI : ∀ k, (setBlock w1 r (.mapIter (some b) since (seen.push e.born) clock)).heap[k]? = if k = r then some (.mapIter (some b) since (seen.push e.born) clock) else w.heap[k]? := fun k => by rw [setBlock_get hlr1, hs1]
    have hb2 : (setBlock w1 r (.mapIter (some b) since (seen.push e.born) clock)).heap[b]? = some (.map es clock) := by rw [hI, if_neg hbr]; exact g1
    have hr2 : (setBlock w1 r (.mapIter (some b) since (seen.push e.born) clock)).heap[r]? = some (.mapIter (some b) since (seen.push e.born) clock) := by rw [hI, if_pos rfl]
    have hsz : (setBlock w1 r (.mapIter (some b) since (seen.push e.born) clock)).heap.size = w.heap.size := by simp [setBlock, hs1]
    have hen := run_entry_at (P := P) _ r b since seen es clock e hr2 hb2 hem hnd
    have hleft : (leftOf es (seen.push e.born)).toList = (leftOf es seen).toList.eraseIdx i := by
      rw [← filter_erase _ i e hi]
      · unfold leftOf
        rw [Array.toList_filter, Array.toList_filter, List.filter_filter]
        apply List.filter_congr
        intro x _
        simp only [Array.contains_push, Bool.not_or, bne]
        cases x.born == e.born <;> cases seen.contains x.born <;> rfl
      · unfold leftOf
        rw [Array.toList_filter]
        exact List.Nodup.sublist (List.Sublist.map _ List.filter_sublist) hnd
    refine ⟨i, p, _, hp, g11 p (List.mem_of_getElem? hp), by rw [hpe.1, hpe.2]; exact hrun, ⟨es, clock, since, seen.push e.born, clock, hb2, g2, g3, g4, g5, hr2, g7, g10, g10, fun q hq => g11 q (List.mem_of_mem_eraseIdx hq), ?_⟩, ?_, hsz, by rw [hpe.1, hpe.2]; exact hen⟩
    · rw [hleft, erase_map, erase_map, g9]
    · refine ⟨?_, ?_, ?_, by rw [hsz]; exact Nat.le_refl _, fun k _ hk => by rw [hI, if_neg hk]⟩ <;> rcases hw1 with rfl | rfl <;> rfl
end

section
variable {α : Type} {P : Program} {w : World} {ops : Array Oper} {rest : List Oper} {o : Oper} {a : Act} {Q : Exit → Act → World → Prop}
theorem wpList_range_of (hg : o.guard = none) (m : Operand) (t : TypeId) (hop : o.op = Op.range t m) {kt et : TypeId} (ht : P.underlying t = some (.map kt et)) {b : Nat} {enc : α → Value} {l : List (α × Value)} (hm : a.eval m = .map (some b)) (h : MapOf w b enc l)
    (hK : ∀ w', IterOf w' w.heap.size b enc l l → Below w.heap.size w w' → w'.heap.size = w.heap.size + 1 → wpList P ops Q rest (a.put o.dst (.pointer (some ⟨w.heap.size, 0, none⟩))) w') : wpList P ops Q (o :: rest) a w := by
  refine wpList_plain hg fun K' hK' => ?_
  obtain ⟨w', hrun, r1, r2, r3⟩ := h.range ht
  unfold Oper.wp
  simp [execOp, hop, hm, hrun, Result.andThen]
  exact hK' _ _ (hK w' r1 r2 r3)
theorem wpList_len_of (hg : o.guard = none) (x : Operand) (t : TypeId) (hop : o.op = Op.call { callee := Callee.builtin Builtin.len, args := #[x], argTypes := #[t] }) {kt et : TypeId} (ht : P.underlying t = some (.map kt et)) {b : Nat} {enc : α → Value} {l : List (α × Value)} (hm : a.eval x = .map (some b)) (h : MapOf w b enc l)
    (hK : wpList P ops Q rest (a.put o.dst (.int .i64 l.length)) w) : wpList P ops Q (o :: rest) a w := by
  obtain ⟨es, clock, h1, h2, _⟩ := h
  have hsz : es.size = l.length := by simpa using congrArg List.length h2
  have hr : (Builtin.len_ #[t] o.type #[.map (some b)]).run P w = .ok (.int .i64 l.length) w := by
    simp [Builtin.len_, Sem.run_bind, run_underlying ht, run_getObjM h1, goInt, hsz]
  refine wpList_plain hg fun K' hK' => ?_
  unfold Oper.wp
  simp [execOp, hop, resolve, invoke, builtin, hm, hr, Result.andThen]
  exact hK' _ _ hK
theorem wpList_next_of (hg : o.guard = none) (it : Operand) (hop : o.op = Op.next it false) {r b : Nat} {enc : α → Value} {m left : List (α × Value)} (hit : a.eval it = .pointer (some ⟨r, 0, none⟩)) (h : IterOf w r b enc m left)
    (hDone : left = [] → wpList P ops Q rest (a.put o.dst (.tuple #[.bool false])) w)
    (hMore : ∀ i p w', left[i]? = some p → p ∈ m → IterOf w' r b enc m (left.eraseIdx i) → Only (· = r) w w' → w'.heap.size = w.heap.size → (Instr.entry (.pointer (some ⟨r, 0, none⟩))).run P w' = .ok (.tuple #[enc p.1, p.2]) w' →
      wpList P ops Q rest (a.put o.dst (.tuple #[.bool true, enc p.1, p.2])) w') : wpList P ops Q (o :: rest) a w := by
  refine wpList_plain hg fun K' hK' => ?_
  unfold Oper.wp
  rcases h.next (P := P) o.type with ⟨h0, hrun⟩ | ⟨i, p, w', hp, hm, hrun, hi, ho, hsz, hen⟩
  · simp [execOp, hop, hit, hrun, Result.andThen]
    exact hK' _ _ (hDone h0)
  · simp [execOp, hop, hit, hrun, Result.andThen]
    exact hK' _ _ (hMore i p w' hp hm hi ho hsz hen)
end
end Go.Proofs.YthmflcmbaldflaaGreatDoor
namespace Go.Proofs.YthmflcmbaldflaaGreatDoor
open Go.RowKit
set_option linter.unusedVariables false

/-- What a space's method leaves that makes handles. -/
def SpPost (s : Sb) (V : Int) (r : Sp × Int × Nat) (w : World) (e : Ending) (w' : World) : Prop :=
  e = .returned (.tuple #[.int .i64 r.2.1, errV r.2.2]) ∧ IsSpace w' s V r.1 ∧ Only s.mem w w'

/-- ite on its way: the key lies in a box. -/
structure ISt (w wr : World) (s : Sb) (V : Int) (st : Sp) (a b c : Int) : Prop where
  sp : IsSpace wr s V st
  only : Only s.mem w wr
  lt : w.heap.size < wr.heap.size
  off : ∀ k, s.mem k → k < w.heap.size
  b0 : wr.cell? ⟨w.heap.size, 0, none⟩ = some (.int .i64 0)
  b1 : wr.cell? ⟨w.heap.size, 1, none⟩ = some (.int .i64 a)
  b2 : wr.cell? ⟨w.heap.size, 2, none⟩ = some (.int .i64 b)
  b3 : wr.cell? ⟨w.heap.size, 3, none⟩ = some (.int .i64 c)
section
variable {w wr w2 : World} {s : Sb} {V : Int} {st st' : Sp} {a b c : Int}
theorem ISt.grow (h : ISt w wr s V st a b c) (hb : Below wr.heap.size wr w2) : ISt w w2 s V st a b c :=
  ⟨h.sp.below hb, h.only.trans (Only.of_below hb rfl), Nat.lt_of_lt_of_le h.lt hb.size, h.off, (hb.cell h.lt).trans h.b0, (hb.cell h.lt).trans h.b1, (hb.cell h.lt).trans h.b2, (hb.cell h.lt).trans h.b3⟩
theorem ISt.step (h : ISt w wr s V st a b c) (ho : Only s.mem wr w2) (hs : IsSpace w2 s V st') : ISt w w2 s V st' a b c := by
  have hn : ¬ s.mem w.heap.size := fun hk => by have := h.off _ hk; omega
  exact ⟨hs, h.only.trans ho, Nat.lt_of_lt_of_le h.lt ho.size, h.off, (ho.cell h.lt hn).trans h.b0, (ho.cell h.lt hn).trans h.b1, (ho.cell h.lt hn).trans h.b2, (ho.cell h.lt hn).trans h.b3⟩
theorem ist_start (h : IsSpace w s V st) : ISt w (w.alloc (.cells #[.int .i64 0, .int .i64 a, .int .i64 b, .int .i64 c] 135)) s V st a b c := by
  have hb : Below w.heap.size w (w.alloc (.cells #[.int .i64 0, .int .i64 a, .int .i64 b, .int .i64 c] 135)) := (Below.refl _ _).alloc (Nat.le_refl _) _
  exact ⟨h.below hb, Only.of_below hb rfl, by simp, fun k hk => h.lt hk, by simp, by simp, by simp, by simp⟩
end

theorem Sb.sub (s : Sb) : ∀ k, s.b.mem k → s.mem k := fun k hk => .inl hk

set_option maxRecDepth 100000 in
set_option maxHeartbeats 8000000 in
theorem ite_in (V : Int) (hV : V ≤ 24) : ∀ (f : Nat) (a b c : Int) (w : World) (s : Sb) (st : Sp), IsSpace w s V st → SOk V st → hasM st.c a = true → hasM st.c b = true → hasM st.c c = true →
    (24 - min3 (topM st.c a) (topM st.c b) (topM st.c c)).toNat < f → cnt st.c + 2 ^ (V - min3 (topM st.c a) (topM st.c b) (topM st.c c)).toNat ≤ st.c.length + 1 →
    Calls Tryz.prog 63 #[.pointer (some ⟨s.ps, 0, none⟩), .int .i64 a, .int .i64 b, .int .i64 c] w (SpPost s V (iteM f st a b c) w)
  | 0, _, _, _, _, _, _, _, _, _, _, _, hf, _ => absurd hf (Nat.not_lt_zero _)
  | f + 1, a, b, c, w, s, st, hs, so, ha, hb, hc, hf, hr => by
    have Hih := Lib.hid (ite_in V hV f)
    have Hs := Lib.hid hs; have Hso := Lib.hid so; have Hha := Lib.hid ha; have Hhb := Lib.hid hb; have Hhc := Lib.hid hc; have Hf := Lib.hid hf; have Hr := Lib.hid hr
    have hlen := hs.ar.len
    have hR := hs.ar.room.2
    have la : a ≤ 9223372036854775807 := by have := hasM_le ha; omega
    have lb : b ≤ 9223372036854775807 := by have := hasM_le hb; omega
    have lc : c ≤ 9223372036854775807 := by have := hasM_le hc; omega
    have Hlen := Lib.hid hlen
    clear hs so ha hb hc hf hr hlen hR
    by_cases h1 : a = 1 ∨ b = c
    · have e : iteM (f + 1) st a b c = (st, b, 0) := by rw [iteM, if_pos h1]
      rw [e]
      clear e
      rcases h1 with rfl | rfl
      · go_enter Tryz.func63, Tryz.ntmps63
        go_wp2_with fail
        go_ret2
        exact ⟨rfl, Hs.out, Only.refl _ _⟩
      · by_cases h2 : a = 1
        · subst h2
          go_enter Tryz.func63, Tryz.ntmps63
          go_wp2_with fail
          go_ret2
          exact ⟨rfl, Hs.out, Only.refl _ _⟩
        · have e1 : (a == 1) = false := by simpa using h2
          clear h2
          go_enter Tryz.func63, Tryz.ntmps63
          go_wp2_with fail
          go_ret2
          exact ⟨rfl, Hs.out, Only.refl _ _⟩
    · have e1 : (a == 1) = false := by simp; exact fun e => h1 (.inl e)
      have e2 : (b == c) = false := by simp; exact fun e => h1 (.inr e)
      by_cases h0 : a = 0
      · have e : iteM (f + 1) st a b c = (st, c, 0) := by rw [iteM, if_neg h1, if_pos h0]
        rw [e]
        clear e h1
        subst h0
        go_enter Tryz.func63, Tryz.ntmps63
        go_wp2_with fail
        go_ret2
        exact ⟨rfl, Hs.out, Only.refl _ _⟩
      · have e3 : (a == 0) = false := by simpa using h0
        obtain ⟨mq, hmq, hmv⟩ := Hs.out.map
        have hi0 := ist_start (a := a) (b := b) (c := c) Hs.out
        have hlk0 := fun n => ((hmq.below (w' := (w.alloc (.cells #[.int .i64 0, .int .i64 a, .int .i64 b, .int .i64 c] 135)).drewN n) (below_drewA ((Below.refl _ _).alloc (Nat.succ_le_of_lt hmq.lt) _) n)).lookup (P := Tryz.prog) (kt := 135) (et := 3) (t := 50) key4 Tryz.underlying50 (zeroInt _) (0, a, b, c) true)
        simp only [enc4, if_true, hmv] at hlk0
        have H1 := Lib.hid h1; have H0 := Lib.hid h0; have Hmq := Lib.hid hmq; have Hmv := Lib.hid hmv
        clear h1 h0 hmq hmv
        cases hq : st.q (a, b, c) with
        | some h =>
          have e : iteM (f + 1) st a b c = (st, h, 0) := by rw [iteM, if_neg H1.out, if_neg H0.out, Hso.out.hit, hq]
          have hh := (Hso.out.mem a b c h hq).2.2.2.1
          rw [e]
          rw [hq] at hlk0
          simp only [Option.map_some, Option.getD_some, Option.isSome_some] at hlk0
          have lh : h ≤ 9223372036854775807 := by have := hasM_le hh; have := Hlen.out; have := Hs.out.ar.room.2; omega
          have Hi0 := Lib.hid hi0; have Hlk := Lib.hid hlk0; have Hhh := Lib.hid hh
          clear hi0 hlk0 hh hq e
          go_enter Tryz.func63, Tryz.ntmps63
          go_wp2_with fail
          have hi := Hi0.out
          have hlk := Hlk.out
          clear Hi0 Hlk
          generalize w.alloc (.cells #[.int .i64 0, .int .i64 a, .int .i64 b, .int .i64 c] 135) = w0 at hi hlk ⊢
          have c2 := hi.sp.s2
          have b0 := hi.b0
          have b1 := hi.b1
          have b2 := hi.b2
          have b3 := hi.b3
          have Hi := Lib.hid hi; clear hi
          go_quiet (fail)
          have hi2 := Hi.out.grow (w2 := w0.drewN nq) (below_drewA (Below.refl _ _) nq)
          have c0 := hi2.sp.s0
          have hha := ahas_any h (w0.drewN nq) s.b st.c hi2.sp.ar lh
          rw [Hhh.out] at hha
          have Hi2 := Lib.hid hi2; have Hha := Lib.hid hha
          clear hi2 hha hlk c2 b0 b1 b2 b3 Hi
          go_wp2_with fail
          refine Hha.out.mono ?_
          rintro e w' ⟨rfl, rfl⟩
          go_wp2_with fail
          go_ret2
          exact ⟨rfl, Hi2.out.sp, Hi2.out.only⟩
        | none =>
          rw [hq] at hlk0
          simp only [Option.map_none, Option.getD_none, Option.isSome_none] at hlk0
          obtain ⟨v, hv⟩ : ∃ v, v = min3 (topM st.c a) (topM st.c b) (topM st.c c) := ⟨_, rfl⟩
          obtain ⟨R1, R2, R3, hR1, hR2, hR3, he, A, B, C, hvV, f1, r1, f2, r2, er1, er2, er3, so1, so2, E1, E2, hh1, hh2⟩ := iteM_go hV Hso.out Hha.out Hhb.out Hhc.out Hf.out Hr.out H1.out H0.out hq hv
          rw [he]
          obtain ⟨ta, hta⟩ : ∃ t, t = topM st.c a := ⟨_, rfl⟩
          obtain ⟨tb, htb⟩ : ∃ t, t = topM st.c b := ⟨_, rfl⟩
          obtain ⟨tc, htc⟩ : ∃ t, t = topM st.c c := ⟨_, rfl⟩
          have hmin : (if tc < (if tb < ta then tb else ta) then tc else (if tb < ta then tb else ta)) = v := by
            rw [hv, ← hta, ← htb, ← htc]; unfold min3
            split <;> split <;> omega
          have hm1 := A.has1; have hm2 := B.has1; have hm3 := C.has1
          have hv24 : v < 24 := by omega
          have len1 := E1.len; have len2 := E2.len
          have l1 : R1.2.1 ≤ 9223372036854775807 := by have := hasM_le hh1; have := Hlen.out; have := Hs.out.ar.room.2; omega
          have l2 : R2.2.1 ≤ 9223372036854775807 := by have := hasM_le hh2; have := Hlen.out; have := Hs.out.ar.room.2; omega
          have Hi0 := Lib.hid hi0; have Hlk := Lib.hid hlk0; have Hta := Lib.hid hta.symm; have Htb := Lib.hid htb.symm; have Htc := Lib.hid htc.symm; have Hmin := Lib.hid hmin
          have HA := Lib.hid A; have HB := Lib.hid B; have HC := Lib.hid C; have Hf1 := Lib.hid f1; have Hr1 := Lib.hid r1; have Hf2 := Lib.hid f2; have Hr2 := Lib.hid r2; have Her1 := Lib.hid er1; have Her2 := Lib.hid er2; have Her3 := Lib.hid er3
          have Hso1 := Lib.hid so1; have Hso2 := Lib.hid so2; have HE1 := Lib.hid E1; have HE2 := Lib.hid E2; have Hh1 := Lib.hid hh1; have Hh2 := Lib.hid hh2; have HR1 := Lib.hid hR1; have HR2 := Lib.hid hR2; have HR3 := Lib.hid hR3
          clear hi0 hlk0 hta htb htc hmin hm1 hm2 hm3 A B C f1 r1 f2 r2 er1 er2 er3 so1 so2 E1 E2 hh1 hh2 hR1 hR2 hR3 he hq hv len1 len2
          go_enter Tryz.func63, Tryz.ntmps63
          go_wp2_with fail
          have hi := Hi0.out
          have hlk := Hlk.out
          clear Hi0 Hlk
          generalize w.alloc (.cells #[.int .i64 0, .int .i64 a, .int .i64 b, .int .i64 c] 135) = w0 at hi hlk ⊢
          have c2 := hi.sp.s2
          have b0 := hi.b0
          have b1 := hi.b1
          have b2 := hi.b2
          have b3 := hi.b3
          have Hi := Lib.hid hi; clear hi
          go_quiet (fail)
          have hi2 := Hi.out.grow (w2 := w0.drewN nq) (below_drewA (Below.refl _ _) nq)
          clear hlk c2 b0 b1 b2 b3 Hi
          generalize w0.drewN nq = wq at hi2 ⊢
          have Hi0 := Lib.hid hi2; clear hi2
          go_wp2_with fail
          refine wp_region_class (fun w' => ISt w w' s V st a b c) (by kernel_rfl) (by kernel_rfl) (Hi0.out.grow (Below.refl _ _).drew) ?_
          go_big_quiet_want
          go_big_quiet_op
          go_big_quiet_on
          go_big_quiet_want
          refine quiet_run (.pointer (some ⟨s.ps, 0, none⟩)) (fun w' hc => by go_simp) ?_
          simp [Act.put]
          go_big_quiet_on
          go_big_quiet_want
          refine quiet_run (.pointer (some ⟨s.ps, 0, none⟩)) (fun w' hc => by go_simp) ?_
          simp [Act.put]
          go_big_quiet_on
          go_big_quiet_want
          refine quiet_run (.pointer (some ⟨s.b.p, 0, none⟩)) (fun w' hc => by have c0 := hc.sp.s0; go_simp) ?_
          simp [Act.put]
          go_big_quiet_on
          go_big_quiet_want
          go_big_quiet_op
          go_big_quiet_on
          go_big_quiet_want
          refine quiet_call (.int .i64 ta) 33 #[.pointer (some ⟨s.b.p, 0, none⟩), .int .i64 a] (fun w' => by go_simp) (fun w' hc => (top_any a w' s.b st.c hc.sp.ar la).mono fun e w2 he => ⟨by rw [← Hta.out]; exact he.1, hc.grow he.2⟩) ?_
          simp [Act.put]
          go_big_quiet_on
          go_big_quiet_want
          go_big_quiet_op
          go_big_quiet_on
          go_big_quiet_want
          refine quiet_run (.pointer (some ⟨s.ps, 0, none⟩)) (fun w' hc => by go_simp) ?_
          simp [Act.put]
          go_big_quiet_on
          go_big_quiet_want
          refine quiet_run (.pointer (some ⟨s.ps, 0, none⟩)) (fun w' hc => by go_simp) ?_
          simp [Act.put]
          go_big_quiet_on
          go_big_quiet_want
          refine quiet_run (.pointer (some ⟨s.b.p, 0, none⟩)) (fun w' hc => by have c0 := hc.sp.s0; go_simp) ?_
          simp [Act.put]
          go_big_quiet_on
          go_big_quiet_want
          go_big_quiet_op
          go_big_quiet_on
          go_big_quiet_want
          refine quiet_call (.int .i64 tb) 33 #[.pointer (some ⟨s.b.p, 0, none⟩), .int .i64 b] (fun w' => by go_simp) (fun w' hc => (top_any b w' s.b st.c hc.sp.ar lb).mono fun e w2 he => ⟨by rw [← Htb.out]; exact he.1, hc.grow he.2⟩) ?_
          simp [Act.put]
          go_big_quiet_on
          go_big_quiet_want
          go_big_quiet_op
          go_big_quiet_on
          go_big_quiet_want
          refine quiet_run (.pointer (some ⟨s.ps, 0, none⟩)) (fun w' hc => by go_simp) ?_
          simp [Act.put]
          go_big_quiet_on
          go_big_quiet_want
          refine quiet_run (.pointer (some ⟨s.ps, 0, none⟩)) (fun w' hc => by go_simp) ?_
          simp [Act.put]
          go_big_quiet_on
          go_big_quiet_want
          refine quiet_run (.pointer (some ⟨s.b.p, 0, none⟩)) (fun w' hc => by have c0 := hc.sp.s0; go_simp) ?_
          simp [Act.put]
          go_big_quiet_on
          go_big_quiet_want
          go_big_quiet_op
          go_big_quiet_on
          go_big_quiet_want
          refine quiet_call (.int .i64 tc) 33 #[.pointer (some ⟨s.b.p, 0, none⟩), .int .i64 c] (fun w' => by go_simp) (fun w' hc => (top_any c w' s.b st.c hc.sp.ar lc).mono fun e w2 he => ⟨by rw [← Htc.out]; exact he.1, hc.grow he.2⟩) ?_
          simp [Act.put]
          go_big_quiet_on
          go_big_quiet_want
          refine quiet_run (.int .i64 v) (fun w' hc => by have hm := Hmin.out; go_simp) ?_
          simp [Act.put]
          go_big_quiet_on
          go_big_quiet_want
          go_big_quiet_op
          go_big_quiet_on
          refine wpQuiet_nil ?_
          intro w1 hi1
          have Hi1 := Lib.hid hi1; clear hi1 Hi0
          go_wp2_with fail
          refine (bat_any a v w1 s V st Hi1.out.sp la).mono ?_
          rintro e w2 ⟨rfl, hb2⟩
          have Hi2 := Lib.hid (Hi1.out.grow hb2); clear hb2 Hi1
          go_wp2_with fail
          refine (bat_any b v w2 s V st Hi2.out.sp lb).mono ?_
          rintro e w3 ⟨rfl, hb3⟩
          have Hi3 := Lib.hid (Hi2.out.grow hb3); clear hb3 Hi2
          go_wp2_with fail
          refine (bat_any c v w3 s V st Hi3.out.sp lc).mono ?_
          rintro e w4 ⟨rfl, hb4⟩
          have Hi4 := Lib.hid (Hi3.out.grow hb4); clear hb4 Hi3
          have hr1 := Hih.out (atM st.c a v).1 (atM st.c b v).1 (atM st.c c v).1 w4 s st Hi4.out.sp Hso.out HA.out.has1 HB.out.has1 HC.out.has1 Hf1.out Hr1.out
          rw [← HR1.out] at hr1
          have Hq1 := Lib.hid hr1; clear hr1
          go_wp2_with fail
          refine Hq1.out.mono ?_
          rintro e w5 ⟨rfl, hs5, ho5⟩
          have Hi5 := Lib.hid (Hi4.out.step ho5 hs5); clear hs5 ho5 Hi4 Hq1
          rw [Her1.out]
          simp only [errV, if_true]
          have hr2 := Hih.out (atM st.c a v).2 (atM st.c b v).2 (atM st.c c v).2 w5 s R1.1 Hi5.out.sp Hso1.out (HE1.out.has HA.out.has2) (HE1.out.has HB.out.has2) (HE1.out.has HC.out.has2) Hf2.out Hr2.out
          rw [← HR2.out] at hr2
          have Hq2 := Lib.hid hr2; clear hr2
          go_wp2_with fail
          refine Hq2.out.mono ?_
          rintro e w6 ⟨rfl, hs6, ho6⟩
          have Hi6 := Lib.hid (Hi5.out.step ho6 hs6); clear hs6 ho6 Hi5 Hq2
          rw [Her2.out]
          simp only [errV, if_true]
          have hn3 := node_any v R1.2.1 R2.2.1 w6 s V R2.1 Hi6.out.sp l1 l2
          rw [← HR3.out] at hn3
          have Hq3 := Lib.hid hn3; clear hn3
          go_wp2_with fail
          refine Hq3.out.mono ?_
          rintro e w7 ⟨rfl, hs7, ho7⟩
          have hi7 := Hi6.out.step (ho7.mono s.sub) hs7
          rw [Her3.out]
          simp only [errV, if_true]
          have hi8 := hi7.grow (w2 := w7.drew) (Below.refl _ _).drew
          obtain ⟨mq7, hmq7, hmv7⟩ := hi8.sp.map
          obtain ⟨ob, hrun, hob⟩ := hmq7.update (P := Tryz.prog) (kt := 135) (et := 3) (t := 50) key4 Tryz.underlying50 (0, a, b, c) (.int .i64 R3.2.1)
          have hfin := hi8.sp.put hmv7 hob
          simp only [enc4] at hrun
          have hon : Only s.mem w (setObjW w7.drew s.mc ob) := hi8.only.trans ⟨rfl, rfl, rfl, by simp [setObjW], fun k _ hk => setObjW_other ob (fun e => hk (.inr e))⟩
          have c2 := hi7.sp.s2
          have b0 := hi7.b0
          have b1 := hi7.b1
          have b2 := hi7.b2
          have b3 := hi7.b3
          have Hfin := Lib.hid hfin; have Hon := Lib.hid hon
          clear hi7 hi8 hmq7 hmv7 hob hfin hon hs7 ho7 Hi6 Hq3
          go_wp2_with fail
          go_region
          all_goals go_wp2_with fail
          all_goals go_ret2
          all_goals exact ⟨rfl, Hfin.out, Hon.out⟩
end Go.Proofs.YthmflcmbaldflaaGreatDoor
namespace Go.Proofs.YthmflcmbaldflaaGreatDoor
open Go.RowKit
set_option linter.unusedVariables false

def iteX (st : Sp) (a b c : Int) : Sp × Int × Nat := iteM 25 st a b c
def xorX (st : Sp) (a b : Int) : Sp × Int × Nat := let r := iteX st b 0 1; iteX r.1 a r.2.1 b
def litX (st : Sp) (v : Int) (is : Bool) : Sp × Int × Nat := let r := if is then nodeM st.c v 0 1 else nodeM st.c v 1 0; (⟨r.1, st.q⟩, r.2.1, r.2.2)
noncomputable def freeX (st : Sp) (keep : List Int) : Sp := ⟨sweepM st.c keep, noQ⟩
noncomputable def freeN (st : Sp) (keep : List Int) : Int := (cnt st.c : Int) - (reachM st.c keep).length

/-- What a method makes: no error, a handle that means D; k nodes at most. -/
structure ROk (V : Int) (st : Sp) (r : Sp × Int × Nat) (D : (Int → Bool) → Bool) (k : Nat) : Prop where
  err : r.2.2 = 0
  sok : SOk V r.1
  ext : Ext st.c r.1.c
  has : hasM r.1.c r.2.1 = true
  den : ∀ val, den r.1.c r.2.1 val = D val
  cnt : cnt r.1.c ≤ cnt st.c + k

theorem min3_pos {c : Cells} (o : Ok c) (a b d : Int) : 0 ≤ min3 (topM c a) (topM c b) (topM c d) := by
  have := o.top_pos a; have := o.top_pos b; have := o.top_pos d; unfold min3; omega
theorem iteX_ok {V : Int} (hV : V ≤ 24) {st : Sp} {a b c : Int} (so : SOk V st) (ha : hasM st.c a = true) (hb : hasM st.c b = true) (hc : hasM st.c c = true) (hr : cnt st.c + 2 ^ V.toNat ≤ st.c.length + 1) :
    ROk V st (iteX st a b c) (fun val => if den st.c a val then den st.c b val else den st.c c val) (2 ^ V.toNat) := by
  have hp := min3_pos so.ok a b c
  have h1 := two_pow_le (show (V - min3 (topM st.c a) (topM st.c b) (topM st.c c)).toNat ≤ V.toNat by omega)
  have h := iteM_spec V hV 25 st a b c so ha hb hc (by omega) (by omega)
  exact ⟨h.err, h.sok, h.ext, h.has, h.den, by have := h.cnt; unfold iteX; omega⟩
theorem iteX_bound {V : Int} (hV : V ≤ 24) {st : Sp} {a b c : Int} (so : SOk V st) (hr : cnt st.c + 2 ^ V.toNat ≤ st.c.length + 1) :
    (24 - min3 (topM st.c a) (topM st.c b) (topM st.c c)).toNat < 25 ∧ cnt st.c + 2 ^ (V - min3 (topM st.c a) (topM st.c b) (topM st.c c)).toNat ≤ st.c.length + 1 := by
  have hp := min3_pos so.ok a b c
  have h1 := two_pow_le (show (V - min3 (topM st.c a) (topM st.c b) (topM st.c c)).toNat ≤ V.toNat by omega)
  exact ⟨by omega, by omega⟩

set_option maxHeartbeats 2000000 in
theorem Ite_any (V : Int) (hV : V ≤ 24) (a b c : Int) (w : World) (s : Sb) (st : Sp) (hs : IsSpace w s V st) (so : SOk V st) (ha : hasM st.c a = true) (hb : hasM st.c b = true) (hc : hasM st.c c = true) (hr : cnt st.c + 2 ^ V.toNat ≤ st.c.length + 1) :
    Calls Tryz.prog 43 #[.pointer (some ⟨s.ps, 0, none⟩), .int .i64 a, .int .i64 b, .int .i64 c] w (SpPost s V (iteX st a b c) w) := by
  have hlen := hs.ar.len
  have hR := hs.ar.room.2
  have la : a ≤ 9223372036854775807 := by have := hasM_le ha; omega
  have lb : b ≤ 9223372036854775807 := by have := hasM_le hb; omega
  have lc : c ≤ 9223372036854775807 := by have := hasM_le hc; omega
  have c0 := hs.s0
  have h1 := ahas_any a w s.b st.c hs.ar la
  have h2 := ahas_any b w s.b st.c hs.ar lb
  have h3 := ahas_any c w s.b st.c hs.ar lc
  rw [ha] at h1
  rw [hb] at h2
  rw [hc] at h3
  have hb2 := iteX_bound (a := a) (b := b) (c := c) hV so hr
  have hit := ite_in V hV 25 a b c w s st hs so ha hb hc hb2.1 hb2.2
  have H1 := Lib.hid h1; have H2 := Lib.hid h2; have H3 := Lib.hid h3; have Hit := Lib.hid hit
  clear h1 h2 h3 hit hb2 hs so ha hb hc hr hlen hR
  go_enter Tryz.func43, Tryz.ntmps43
  go_wp2_with fail
  refine H1.out.mono ?_
  rintro e w' ⟨rfl, rfl⟩
  go_wp2_with fail
  refine H2.out.mono ?_
  rintro e w' ⟨rfl, rfl⟩
  go_wp2_with fail
  refine H3.out.mono ?_
  rintro e w' ⟨rfl, rfl⟩
  go_wp2_with fail
  refine Hit.out.mono ?_
  rintro e w1 ⟨rfl, hs1, ho1⟩
  have Hs1 := Lib.hid hs1; have Ho1 := Lib.hid ho1; clear hs1 ho1
  go_wp2_with fail
  go_ret2
  exact ⟨rfl, Hs1.out, Ho1.out⟩

section
variable (V : Int) (hV : V ≤ 24) (a b : Int) (w : World) (s : Sb) (st : Sp) (hs : IsSpace w s V st) (so : SOk V st) (ha : hasM st.c a = true) (hb : hasM st.c b = true) (hr : cnt st.c + 2 ^ V.toNat ≤ st.c.length + 1)
include hV hs so ha hr
set_option maxHeartbeats 1000000 in
theorem Not_any : Calls Tryz.prog 39 #[.pointer (some ⟨s.ps, 0, none⟩), .int .i64 a] w (SpPost s V (iteX st a 0 1) w) := by
  have Hit := Lib.hid (Ite_any V hV a 0 1 w s st hs so ha (hasM_zero _) (hasM_one _) hr)
  clear hs so ha hr
  go_enter Tryz.func39, Tryz.ntmps39
  go_wp2_with fail
  refine Hit.out.mono ?_
  rintro e w1 ⟨rfl, hs1, ho1⟩
  have Hs1 := Lib.hid hs1; have Ho1 := Lib.hid ho1; clear hs1 ho1
  go_wp2_with fail
  go_ret2
  exact ⟨rfl, Hs1.out, Ho1.out⟩
include hb
set_option maxHeartbeats 1000000 in
theorem And_any : Calls Tryz.prog 40 #[.pointer (some ⟨s.ps, 0, none⟩), .int .i64 a, .int .i64 b] w (SpPost s V (iteX st a b 0) w) := by
  have Hit := Lib.hid (Ite_any V hV a b 0 w s st hs so ha hb (hasM_zero _) hr)
  clear hs so ha hb hr
  go_enter Tryz.func40, Tryz.ntmps40
  go_wp2_with fail
  refine Hit.out.mono ?_
  rintro e w1 ⟨rfl, hs1, ho1⟩
  have Hs1 := Lib.hid hs1; have Ho1 := Lib.hid ho1; clear hs1 ho1
  go_wp2_with fail
  go_ret2
  exact ⟨rfl, Hs1.out, Ho1.out⟩
set_option maxHeartbeats 1000000 in
theorem Or_any : Calls Tryz.prog 41 #[.pointer (some ⟨s.ps, 0, none⟩), .int .i64 a, .int .i64 b] w (SpPost s V (iteX st a 1 b) w) := by
  have Hit := Lib.hid (Ite_any V hV a 1 b w s st hs so ha (hasM_one _) hb hr)
  clear hs so ha hb hr
  go_enter Tryz.func41, Tryz.ntmps41
  go_wp2_with fail
  refine Hit.out.mono ?_
  rintro e w1 ⟨rfl, hs1, ho1⟩
  have Hs1 := Lib.hid hs1; have Ho1 := Lib.hid ho1; clear hs1 ho1
  go_wp2_with fail
  go_ret2
  exact ⟨rfl, Hs1.out, Ho1.out⟩
end

set_option maxHeartbeats 1000000 in
theorem Xor_any (V : Int) (hV : V ≤ 24) (a b : Int) (w : World) (s : Sb) (st : Sp) (hs : IsSpace w s V st) (so : SOk V st) (ha : hasM st.c a = true) (hb : hasM st.c b = true) (hr : cnt st.c + 2 * 2 ^ V.toNat ≤ st.c.length + 1) :
    Calls Tryz.prog 42 #[.pointer (some ⟨s.ps, 0, none⟩), .int .i64 a, .int .i64 b] w (SpPost s V (xorX st a b) w) := by
  have r1 := iteX_ok hV so hb (hasM_zero _) (hasM_one _) (by omega)
  have hn := Not_any V hV b w s st hs so hb (by omega)
  obtain ⟨R1, hR1⟩ : ∃ R, R = iteX st b 0 1 := ⟨_, rfl⟩
  have hx : xorX st a b = iteX R1.1 a R1.2.1 b := by unfold xorX; rw [hR1]
  rw [← hR1] at r1 hn
  rw [hx]
  have Hn := Lib.hid hn; have Hr1 := Lib.hid r1; have Ha := Lib.hid ha; have Hb := Lib.hid hb; have Hr := Lib.hid hr
  clear hn r1 hs so ha hb hr hR1 hx
  go_enter Tryz.func42, Tryz.ntmps42
  go_wp2_with fail
  refine Hn.out.mono ?_
  rintro e w1 ⟨rfl, hs1, ho1⟩
  rw [Hr1.out.err]
  simp only [errV, if_true]
  have hit := Ite_any V hV a R1.2.1 b w1 s R1.1 hs1 Hr1.out.sok (Hr1.out.ext.has Ha.out) Hr1.out.has (Hr1.out.ext.has Hb.out) (by have := Hr1.out.cnt; have := Hr1.out.ext.len; have := Hr.out; omega)
  have Hit := Lib.hid hit; have Ho1 := Lib.hid ho1; clear hit hs1 ho1
  go_wp2_with fail
  refine Hit.out.mono ?_
  rintro e w2 ⟨rfl, hs2, ho2⟩
  have Hs2 := Lib.hid hs2; have Ho2 := Lib.hid ho2; clear hs2 ho2
  go_wp2_with fail
  go_ret2
  exact ⟨rfl, Hs2.out, Ho1.out.trans Ho2.out⟩

set_option maxHeartbeats 1000000 in
theorem Lit_any (V : Int) (v : Int) (is : Bool) (w : World) (s : Sb) (st : Sp) (hs : IsSpace w s V st) (h0 : 0 ≤ v) (h1 : v < V) :
    Calls Tryz.prog 18 #[.pointer (some ⟨s.ps, 0, none⟩), .int .i64 v, .bool is] w (SpPost s V (litX st v is) w) := by
  have c1 := hs.s1
  cases is
  · have hn := node_any v 1 0 w s V st hs (by decide) (by decide)
    have hx : litX st v false = (⟨(nodeM st.c v 1 0).1, st.q⟩, (nodeM st.c v 1 0).2.1, (nodeM st.c v 1 0).2.2) := rfl
    rw [hx]
    have Hn := Lib.hid hn; clear hn hs hx
    go_enter Tryz.func18, Tryz.ntmps18
    go_wp2_with fail
    refine Hn.out.mono ?_
    rintro e w1 ⟨rfl, hs1, ho1⟩
    have Hs1 := Lib.hid hs1; have Ho1 := Lib.hid ho1; clear hs1 ho1
    go_wp2_with fail
    go_ret2
    exact ⟨rfl, Hs1.out, Ho1.out.mono s.sub⟩
  · have hn := node_any v 0 1 w s V st hs (by decide) (by decide)
    have hx : litX st v true = (⟨(nodeM st.c v 0 1).1, st.q⟩, (nodeM st.c v 0 1).2.1, (nodeM st.c v 0 1).2.2) := rfl
    rw [hx]
    have Hn := Lib.hid hn; clear hn hs hx
    go_enter Tryz.func18, Tryz.ntmps18
    go_wp2_with fail
    refine Hn.out.mono ?_
    rintro e w1 ⟨rfl, hs1, ho1⟩
    have Hs1 := Lib.hid hs1; have Ho1 := Lib.hid ho1; clear hs1 ho1
    go_wp2_with fail
    go_ret2
    exact ⟨rfl, Hs1.out, Ho1.out.mono s.sub⟩

theorem Vars_any (V : Int) (w : World) (s : Sb) (st : Sp) (hs : IsSpace w s V st) : Calls Tryz.prog 10 #[.pointer (some ⟨s.ps, 0, none⟩)] w fun e w' => e = .returned (.int .i64 V) ∧ w = w' := by
  have c1 := hs.s1
  clear hs
  go_enter Tryz.func10, Tryz.ntmps10
  go_wp2_with fail
  go_ret
  exact ⟨rfl, rfl⟩

theorem free_space {w w2 : World} {s : Sb} {V : Int} {c : Cells} {q : Int × Int × Int → Option Int} (h : IsSpace w s V ⟨c, q⟩) (ho : Only (· = s.mc) w w2) (hm : MapOf w2 s.mc enc4 ([] : List ((Int × Int × Int × Int) × Value))) : IsSpace w2 s V ⟨c, noQ⟩ :=
  ⟨by rw [ho.block _ h.lps (fun e => h.off (.inr e))]; exact h.blk, h.ar.only ho (fun k hk e => h.off2 (e ▸ hk)), ⟨[], hm, fun _ _ _ => rfl⟩, h.off, h.off2⟩

set_option maxHeartbeats 1000000 in
theorem Free_any (V : Int) (vs : Value) (keep : List Int) (w : World) (s : Sb) (st : Sp) (hs : IsSpace w s V st) (o : Ok st.c) (hv : IsInts w vs keep) (hl : keep.length ≤ 100000) (hm : ∀ x ∈ keep, x ≤ 9223372036854775807) :
    Calls Tryz.prog 47 #[.pointer (some ⟨s.ps, 0, none⟩), vs] w fun e w' => e = .returned (.int .i64 (freeN st keep)) ∧ IsSpace w' s V (freeX st keep) ∧ Only s.mem w w' := by
  have c0 := hs.s0
  have hsw := sweep_any vs keep w s.b st.c hs.ar o hv hl hm
  obtain ⟨z, hz⟩ : ∃ z, z = freeN st keep := ⟨_, rfl⟩
  have hz2 : (cnt st.c : Int) - (reachM st.c keep).length = z := by rw [hz]; rfl
  rw [hz2] at hsw
  rw [← hz]
  have Hsw := Lib.hid hsw; have Hs := Lib.hid hs; clear hsw hs hz hz2 o hv hm
  go_enter Tryz.func47, Tryz.ntmps47
  go_wp2_with fail
  refine Hsw.out.mono ?_
  rintro e w1 ⟨rfl, ha1, ho1⟩
  have hs1 := Hs.out.arena ho1 ha1
  obtain ⟨mq, hmq, _⟩ := hs1.map
  have c2 := hs1.s2
  have Hs1 := Lib.hid hs1; have Hmq := Lib.hid hmq; have Ho1 := Lib.hid ho1
  clear hs1 hmq ho1 ha1
  go_wp2_with (show wpList _ _ _ (Oper.mk none (.call { callee := .builtin .clear, args := _, argTypes := _ }) _ _ _ _ :: _) _ _; refine wpList_clear_map (o := ⟨none, .call { callee := .builtin .clear, args := #[.tmp 15], argTypes := #[50] }, _, _, _, _⟩) rfl (.tmp 15) 50 rfl (kt := 135) (et := 3) (b := s.mc) (enc := enc4) (m := mq) rfl Tryz.underlying50 Hmq.out ?_; intro ob hob; have hon : Only (· = s.mc) w1 (setObjW w1 s.mc ob) := ⟨rfl, rfl, rfl, (by simp [setObjW]), fun k _ hk => setObjW_other ob hk⟩; have hs2 := free_space Hs1.out hon hob; have Hs2 := Lib.hid hs2; have Hon := Lib.hid hon; clear hs2 hon hob; generalize setObjW w1 s.mc ob = w2 at Hs2 Hon ⊢)
  go_ret
  exact ⟨rfl, Hs2.out, (Ho1.out.mono s.sub).trans (Hon.out.mono (fun k hk => .inr hk))⟩
end Go.Proofs.YthmflcmbaldflaaGreatDoor
