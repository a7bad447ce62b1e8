/- A store of families in memory; contracts: family.New, node, at, both. -/
import Derived.Test.YtmlnfbageoabnaaFamOp
import Derived.Test.YtmlnfbageoabnaaPick
namespace Go.Proofs.Ytmlnfbageoabnaa
open Go.RowKit
set_option linter.unusedVariables false

structure Fb where
  ps : Nat
  b : Bk
structure IsStore (w : World) (s : Fb) (V : Int) (c : Cells) : Prop where
  blk : w.heap[s.ps]? = some (.cells #[.pointer (some ⟨s.b.p, 0, none⟩), .int .i64 V] 118 (0, 0))
  ar : IsArena w s.b c
  off : ¬ s.b.mem s.ps
section
variable {w w2 : World} {s : Fb} {V : Int} {c c' : Cells}
theorem IsStore.lps (h : IsStore w s V c) : s.ps < w.heap.size := (Array.getElem?_eq_some_iff.1 h.blk).1
theorem IsStore.lt (h : IsStore w s V c) {k : Nat} (hk : s.b.mem k) : k < w.heap.size := h.ar.lt hk
theorem IsStore.s0 (h : IsStore w s V c) : w.cell? ⟨s.ps, 0, none⟩ = some (.pointer (some ⟨s.b.p, 0, none⟩)) := by rw [cell_of_row w _ _ _ _ _ h.blk]; rfl
theorem IsStore.s1 (h : IsStore w s V c) : w.cell? ⟨s.ps, 1, none⟩ = some (.int .i64 V) := by rw [cell_of_row w _ _ _ _ _ h.blk]; rfl
theorem IsStore.below (h : IsStore w s V c) (hb : Below w.heap.size w w2) : IsStore w2 s V c :=
  ⟨by rw [hb.block _ h.lps]; exact h.blk, h.ar.below hb, h.off⟩
theorem IsStore.arena (h : IsStore w s V c) (ho : Only s.b.mem w w2) (ha : IsArena w2 s.b c') : IsStore w2 s V c' :=
  ⟨by rw [ho.block _ h.lps h.off]; exact h.blk, ha, h.off⟩
theorem IsStore.only {S : Nat → Prop} (h : IsStore w s V c) (ho : Only S w w2) (h1 : ¬ S s.ps) (h2 : ∀ k, s.b.mem k → ¬ S k) : IsStore w2 s V c :=
  ⟨by rw [ho.block _ h.lps h1]; exact h.blk, h.ar.only ho h2, h.off⟩
theorem IsStore.le (h : IsStore w s V c) {x : Int} (hx : hasM c x = true) : x ≤ 9223372036854775807 := by
  have := hasM_le hx; have := h.ar.len; have := h.ar.room.2; omega
end

set_option maxHeartbeats 2000000 in
theorem fnew_any (V : Int) (R : Nat) (w : World) (hV0 : 0 ≤ V) (hV : V ≤ 24) (h1 : 1 ≤ R) (h2 : R ≤ 4000) :
    Calls Try.prog 82 #[.int .i64 V, .int .i64 R] w fun e w' => (∃ s : Fb, e = .returned (.tuple #[.pointer (some ⟨s.ps, 0, none⟩), .nilIface]) ∧ s.b.R = R ∧ IsStore w' s V (List.replicate R none) ∧ w.heap.size ≤ s.ps ∧ ∀ k, s.b.mem k → w.heap.size ≤ k) ∧ Below w.heap.size w w' := by
  go_enter Try.func82, Try.ntmps82
  go_wp2_with fail
  refine (new_any R w h1 h2).mono ?_
  rintro e w1 ⟨⟨b, rfl, hR, ha, hm⟩, hb1⟩
  have Ha := Lib.hid ha; have Hm := Lib.hid hm; have Hb1 := Lib.hid hb1; have HR := Lib.hid hR
  clear ha hm hb1 hR
  go_wp2_with fail
  go_ret2
  have hb2 : Below w1.heap.size w1 (w1.alloc (.cells #[.pointer (some ⟨b.p, 0, none⟩), .int .i64 V] 118)) := (Below.refl _ _).alloc (Nat.le_refl _) _
  refine ⟨⟨⟨w1.heap.size, b⟩, rfl, HR.out, ⟨heap_at rfl, Ha.out.below hb2, ?_⟩, Hb1.out.size, Hm.out⟩, Hb1.out.trans (hb2.mono Hb1.out.size)⟩
  intro h
  have := Ha.out.lt h; dsimp only at this; omega

set_option maxHeartbeats 1000000 in
theorem fnode_any (v l h : Int) (w : World) (s : Fb) (V : Int) (c : Cells) (hs : IsStore w s V c) (hl : l ≤ 9223372036854775807) (hh : h ≤ 9223372036854775807) :
    Calls Try.prog 90 #[.pointer (some ⟨s.ps, 0, none⟩), .int .i64 v, .int .i64 l, .int .i64 h] w fun e w' =>
      e = .returned (.tuple #[.int .i64 (nodeZ c v l h).2.1, errV (nodeZ c v l h).2.2]) ∧ IsStore w' s V (nodeZ c v l h).1 ∧ Only s.b.mem w w' := by
  by_cases e : h = 0
  · subst e
    have hn : nodeZ c v l 0 = (c, l, 0) := by unfold nodeZ; rw [if_pos rfl]
    rw [hn]
    have Hs := Lib.hid hs; clear hs hn
    go_enter Try.func90, Try.ntmps90
    go_wp2_with fail
    go_ret2
    exact ⟨rfl, Hs.out, Only.refl _ _⟩
  · have hn : nodeZ c v l h = mkM c (v, l, h) := by unfold nodeZ; rw [if_neg e]
    rw [hn]
    have e0 : (h == 0) = false := by simpa using e
    have c0 := hs.s0
    have hm := make_any (v, l, h) w s.b c hs.ar hl hh
    unfold encNd MkPost at hm
    dsimp only at hm
    have Hs := Lib.hid hs; have Hm := Lib.hid hm; clear hs hm hn e
    go_enter Try.func90, Try.ntmps90
    go_wp2_with fail
    refine Hm.out.mono ?_
    rintro e w1 ⟨rfl, ha, ho⟩
    have Ha := Lib.hid ha; have Ho := Lib.hid ho; clear ha ho
    go_wp2_with fail
    go_ret2
    exact ⟨rfl, Hs.out.arena Ho.out Ha.out, Ho.out⟩

set_option maxRecDepth 100000 in
set_option maxHeartbeats 1000000 in
theorem fat_any (h v : Int) (w : World) (s : Fb) (V : Int) (c : Cells) (hs : IsStore w s V c) (hh : h ≤ 9223372036854775807) :
    Calls Try.prog 100 #[.pointer (some ⟨s.ps, 0, none⟩), .int .i64 h, .int .i64 v] w fun e w' =>
      e = .returned (.tuple #[.int .i64 (atZ c h v).1, .int .i64 (atZ c h v).2]) ∧ Below w.heap.size w w' := by
  have c0 := hs.s0
  have lp := hs.lps
  have hg := get_any h w s.b c hs.ar hh
  have Hs := Lib.hid hs; clear hs
  cases g : getM c h with
  | none =>
    have ha : atZ c h v = (h, 0) := by unfold atZ; rw [g]
    rw [ha]
    rw [g] at hg
    have Hg := Lib.hid hg; have G := Lib.hid g; clear hg g ha
    go_enter Try.func100, Try.ntmps100
    go_wp2_with fail
    refine Hg.out.mono ?_
    rintro e w1 ⟨rfl, rfl⟩
    simp only [gotV, encNd, Option.getD_none, Option.isSome_none]
    go_wp2_with fail
    go_ret2
    exact ⟨rfl, ((Below.refl _ _).alloc (Nat.le_refl _) _).alloc (by simp) _⟩
  | some n =>
    obtain ⟨a, l, u⟩ := n
    rw [g] at hg
    by_cases e : a = v
    · subst e
      have ha : atZ c h a = (l, u) := by unfold atZ; rw [g]; simp
      rw [ha]
      have Hg := Lib.hid hg; have G := Lib.hid g; clear hg g ha
      go_enter Try.func100, Try.ntmps100
      go_wp2_with fail
      refine Hg.out.mono ?_
      rintro e w1 ⟨rfl, rfl⟩
      simp only [gotV, encNd, Option.getD_some, Option.isSome_some]
      go_wp2_with fail
      go_quiet (fail)
      go_wp2_with fail
      go_ret2
      exact ⟨rfl, below_drewN (((Below.refl _ _).alloc (Nat.le_refl _) _).alloc (by simp) _) _⟩
    · have ha : atZ c h v = (h, 0) := by unfold atZ; rw [g]; simp [e]
      have e0 : (a == v) = false := by simpa using e
      rw [ha]
      have Hg := Lib.hid hg; have G := Lib.hid g; clear hg g ha e
      go_enter Try.func100, Try.ntmps100
      go_wp2_with fail
      refine Hg.out.mono ?_
      rintro e w1 ⟨rfl, rfl⟩
      simp only [gotV, encNd, Option.getD_some, Option.isSome_some]
      go_wp2_with fail
      go_ret2
      exact ⟨rfl, ((Below.refl _ _).alloc (Nat.le_refl _) _).alloc (by simp) _⟩

set_option maxHeartbeats 1000000 in
theorem fboth_any (a b : Int) (w : World) (s : Fb) (V : Int) (c : Cells) (hs : IsStore w s V c) (ha : hasM c a = true) (hb : hasM c b = true) :
    Calls Try.prog 86 #[.pointer (some ⟨s.ps, 0, none⟩), .int .i64 a, .int .i64 b] w fun e w' => e = .returned .nilIface ∧ w = w' := by
  have c0 := hs.s0
  have h1 := has_any a w s.b c hs.ar (hs.le ha)
  have h2 := has_any b w s.b c hs.ar (hs.le hb)
  rw [ha] at h1
  rw [hb] at h2
  have H1 := Lib.hid h1; have H2 := Lib.hid h2; clear h1 h2 hs ha hb
  go_enter Try.func86, Try.ntmps86
  go_wp2_with fail
  refine H1.out.mono ?_
  rintro e w' ⟨rfl, rfl⟩
  go_wp2_with fail
  refine H2.out.mono ?_
  rintro e w' ⟨rfl, rfl⟩
  go_wp2_with fail
  go_ret
  exact ⟨rfl, rfl⟩
end Go.Proofs.Ytmlnfbageoabnaa
