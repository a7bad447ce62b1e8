/- Contracts: the arena's Make. -/
import Derived.Test.YtdeaficdfooegaaDoorIndex
import Derived.Deep.RegionHeld3
import Derived.Deep.RegionWith
import Derived.Test.YtdeaficdfooegaaDoorQuiet
import Derived.Deep.Cut
namespace Go.Proofs.YtdeaficdfooegaaDoor
open Go.RowKit
set_option linter.unusedVariables false

/-- An error by its number. -/
def errV (k : Nat) : Value := if k = 0 then .nilIface else .iface 49 (.int .i64 k)

def MkPost (b : Bk) (c : Cells) (n : Nd) (w : World) (e : Ending) (w' : World) : Prop :=
  e = .returned (.tuple #[.int .i64 (mkM c n).2.1, errV (mkM c n).2.2]) ∧ IsArena w' b (mkM c n).1 ∧ Only b.mem w w'

theorem mk_bad {b : Bk} {c : Cells} {n : Nd} {w w' : World} (k : Nat) (hk : badM c n = k) (h0 : k ≠ 0) (ha : IsArena w b c) (hb : Below w.heap.size w w') (e : Ending) (he : e = .returned (.tuple #[.int .i64 0, errV k])) : MkPost b c n w e w' := by
  have h1 : mkM c n = (c, 0, k) := by unfold mkM; rw [hk, if_pos h0]
  unfold MkPost
  rw [h1]
  exact ⟨he, ha.below hb, Only.of_below hb rfl⟩

set_option maxRecDepth 100000 in
set_option maxHeartbeats 2000000 in
theorem make_range (v l h : Int) (w : World) (b : Bk) (c : Cells) (ha : IsArena w b c) (hv : v < 0 ∨ 24 ≤ v) :
    Calls Tryd.prog 116 #[.pointer (some ⟨b.p, 0, none⟩), .agg #[.int .i64 v, .int .i64 l, .int .i64 h]] w (MkPost b c (v, l, h) w) := by
  have Ha := Lib.hid ha; clear ha
  have hb : badM c (v, l, h) = 2 := by unfold badM; rw [if_pos hv]
  have Hb := Lib.hid hb; clear hb
  rcases hv with h0 | h0
  · go_enter Tryd.func116, Tryd.ntmps116
    go_wp2_with fail
    go_ret2
    exact mk_bad 2 Hb.out (by decide) Ha.out ((Below.refl _ _).alloc (Nat.le_refl _) _) _ rfl
  · have h1 : ¬ v < 0 := by omega
    go_enter Tryd.func116, Tryd.ntmps116
    go_wp2_with fail
    go_ret2
    exact mk_bad 2 Hb.out (by decide) Ha.out ((Below.refl _ _).alloc (Nat.le_refl _) _) _ rfl

set_option maxRecDepth 100000 in
set_option maxHeartbeats 2000000 in
theorem make_missing (v l h : Int) (w : World) (b : Bk) (c : Cells) (ha : IsArena w b c) (h1 : 0 ≤ v) (h2 : v < 24) (hl : l ≤ 9223372036854775807) (hh : h ≤ 9223372036854775807) (hm : hasM c l = false ∨ hasM c h = false) :
    Calls Tryd.prog 116 #[.pointer (some ⟨b.p, 0, none⟩), .agg #[.int .i64 v, .int .i64 l, .int .i64 h]] w (MkPost b c (v, l, h) w) := by
  have Ha := Lib.hid ha; clear ha
  have hb : badM c (v, l, h) = 7 := by unfold badM; rw [if_neg (by simp; omega), if_pos hm]
  have Hb := Lib.hid hb; clear hb
  cases e1 : hasM c l
  · have E1 := Lib.hid e1; clear e1 hm
    go_enter Tryd.func116, Tryd.ntmps116
    go_wp2_with fail
    refine (has_any l _ b c (Ha.out.below ((Below.refl _ _).alloc (Nat.le_refl _) _)) hl).mono ?_
    rw [E1.out]
    rintro e w' ⟨rfl, rfl⟩
    go_wp2_with fail
    go_ret2
    exact mk_bad 7 Hb.out (by decide) Ha.out ((Below.refl _ _).alloc (Nat.le_refl _) _) _ rfl
  · have e2 : hasM c h = false := hm.elim (fun h3 => by rw [h3] at e1; cases e1) id
    have E1 := Lib.hid e1; clear e1 hm
    have E2 := Lib.hid e2; clear e2
    go_enter Tryd.func116, Tryd.ntmps116
    go_wp2_with fail
    refine (has_any l _ b c (Ha.out.below ((Below.refl _ _).alloc (Nat.le_refl _) _)) hl).mono ?_
    rw [E1.out]
    rintro e w' ⟨rfl, rfl⟩
    go_wp2_with fail
    refine (has_any h _ b c (Ha.out.below ((Below.refl _ _).alloc (Nat.le_refl _) _)) hh).mono ?_
    rw [E2.out]
    rintro e w' ⟨rfl, rfl⟩
    go_wp2_with fail
    go_ret2
    exact mk_bad 7 Hb.out (by decide) Ha.out ((Below.refl _ _).alloc (Nat.le_refl _) _) _ rfl

theorem boxS_start (w : World) (b : Bk) (c : Cells) (v l h : Int) (ha : IsArena w b c) :
    (w.alloc (.cells #[.int .i64 v, .int .i64 l, .int .i64 h] 106)).cell? ⟨w.heap.size, 0, none⟩ = some (.int .i64 v) ∧ (w.alloc (.cells #[.int .i64 v, .int .i64 l, .int .i64 h] 106)).cell? ⟨w.heap.size, 1, none⟩ = some (.int .i64 l) ∧
    (w.alloc (.cells #[.int .i64 v, .int .i64 l, .int .i64 h] 106)).cell? ⟨w.heap.size, 2, none⟩ = some (.int .i64 h) ∧ IsArena (w.alloc (.cells #[.int .i64 v, .int .i64 l, .int .i64 h] 106)) b c ∧
    Below w.heap.size w (w.alloc (.cells #[.int .i64 v, .int .i64 l, .int .i64 h] 106)) ∧ w.heap.size < (w.alloc (.cells #[.int .i64 v, .int .i64 l, .int .i64 h] 106)).heap.size := by
  have hb : Below w.heap.size w (w.alloc (.cells #[.int .i64 v, .int .i64 l, .int .i64 h] 106)) := (Below.refl _ _).alloc (Nat.le_refl _) _
  exact ⟨by simp, by simp, by simp, ha.below hb, hb, by simp⟩
theorem boxS_step {w w1 w2 : World} {b : Bk} {c : Cells} {v l h : Int} (s0 : w1.cell? ⟨w.heap.size, 0, none⟩ = some (.int .i64 v)) (s1 : w1.cell? ⟨w.heap.size, 1, none⟩ = some (.int .i64 l)) (s2 : w1.cell? ⟨w.heap.size, 2, none⟩ = some (.int .i64 h))
    (s3 : IsArena w1 b c) (s4 : Below w.heap.size w w1) (s5 : w.heap.size < w1.heap.size) (hb : Below w1.heap.size w1 w2) :
    w2.cell? ⟨w.heap.size, 0, none⟩ = some (.int .i64 v) ∧ w2.cell? ⟨w.heap.size, 1, none⟩ = some (.int .i64 l) ∧ w2.cell? ⟨w.heap.size, 2, none⟩ = some (.int .i64 h) ∧ IsArena w2 b c ∧ Below w.heap.size w w2 ∧ w.heap.size < w2.heap.size :=
  ⟨by rw [hb.cell s5]; exact s0, by rw [hb.cell s5]; exact s1, by rw [hb.cell s5]; exact s2, s3.below hb, s4.trans (hb.mono (Nat.le_of_lt s5)), Nat.lt_of_lt_of_le s5 hb.size⟩

section
variable {c : Cells} {nodes : Nat → Nd} {tab : List Int} {n : Nd} {i : Nat} {hs : Nd → Nat}
theorem mk_findM_none (ht : TabOK hs nodes (fun k => (c.at k).isSome = true) tab) (hag : ∀ k n, c.at k = some n → nodes k = n) (hp : Placed hs nodes tab n i) (h0 : tab.getD i 0 = 0) : findM c n = none := by
  cases e : findM c n with
  | none => rfl
  | some k => exact absurd (hag k n (findM_some e)) (hp.free ht h0 k (by rw [findM_some e]; rfl))
theorem mk_findM_some (ht : TabOK hs nodes (fun k => (c.at k).isSome = true) tab) (hag : ∀ k n, c.at k = some n → nodes k = n) (hp : Placed hs nodes tab n i) (h0 : tab.getD i 0 ≠ 0) : ∃ k : Nat, tab.getD i 0 = (k : Int) + 2 ∧ findM c n = some k := by
  obtain ⟨k, hk, hn, hv⟩ := hp.found ht h0
  obtain ⟨m, hm⟩ := Option.isSome_iff_exists.1 hk
  have h1 := hag k m hm
  rw [hn] at h1
  subst h1
  exact ⟨k, hv, findM_at (fun j hj => ht.uniq j k (by rw [hj]; rfl) (by rw [hm]; rfl) (by rw [hag j _ hj, hag k _ hm])) hm⟩
end
theorem mk_full {b : Bk} {c : Cells} {n : Nd} {w w' : World} (hb : badM c n = 0) (hf : findM c n = none) (hr : freeM c = none) (ha : IsArena w' b c) (ho : Only b.mem w w') :
    MkPost b c n w (.returned (.tuple #[.int .i64 0, .iface 49 (.int .i64 12)])) w' := by
  have h1 : mkM c n = (c, 0, 12) := by unfold mkM; rw [if_neg (by simp [hb]), hf, hr]
  unfold MkPost
  rw [h1]
  exact ⟨rfl, ha, ho⟩
theorem mk_found {b : Bk} {c : Cells} {n : Nd} {w w' : World} {x y : Int} (hb : badM c n = 0) (hf : ∃ k : Nat, x = (k : Int) + 2 ∧ findM c n = some k) (hy : y = x) (ha : IsArena w' b c) (ho : Only b.mem w w') :
    MkPost b c n w (.returned (.tuple #[.int .i64 y, .nilIface])) w' := by
  obtain ⟨k, h2, h3⟩ := hf
  have h1 : mkM c n = (c, (k : Int) + 2, 0) := by unfold mkM; rw [if_neg (by simp [hb]), h3]
  unfold MkPost
  rw [h1]
  exact ⟨by rw [hy, h2]; rfl, ha, ho⟩
theorem mk_new {b : Bk} {c : Cells} {n : Nd} {w w4 : World} {k i : Nat} {nodes : Nat → Nd} {tab : List Int} (hb : badM c n = 0) (hf : findM c n = none) (hr : freeM c = some k) (hlen : c.length = b.R) (hroom : 1 ≤ b.R ∧ b.R ≤ 4000) (hap : b.Apart)
    (htl : tab.length = 2 * b.R + 1) (hto : TabOK (hsh (2 * b.R + 1)) nodes (fun k => (c.at k).isSome = true) tab) (hag : ∀ k n, c.at k = some n → nodes k = n) (hp : Placed (hsh (2 * b.R + 1)) nodes tab n i) (h0 : tab.getD i 0 = 0)
    (hat : ArAt w4 b.p b.bn b.bu b.bt b.R (fun j => if j = k then n else nodes j) (fun j => if j = k then true else (c.at j).isSome) tab (cnt c)) (ho : Only b.mem w w4) :
    MkPost b c n w (.returned (.tuple #[.int .i64 ((k : Int) + 2), .nilIface])) ((w4.setCell ⟨b.bt, i, none⟩ (.int .i64 ((k : Int) + 2))).setCell ⟨b.p, 3, none⟩ (.int .i64 ((cnt c : Int) + 1))) := by
  have h1 : mkM c n = (c.set k (some n), (k : Int) + 2, 0) := by unfold mkM; rw [if_neg (by simp [hb]), hf, hr]
  obtain ⟨hk, hk0, _⟩ := freeM_some hr
  have hs : ∀ j, Cells.at (c.set k (some n)) j = if j = k then some n else c.at j := at_set _ hk
  unfold MkPost
  rw [h1]
  refine ⟨rfl, ⟨by simpa using hlen, hroom, hap, fun j => if j = k then n else nodes j, tab.set i ((k : Int) + 2), ?_, by simpa using htl, ?_, fun j m hj => ?_⟩, (ho.setCell (.inl (.inr (.inr (.inr rfl)))) _).setCell (.inl (.inl rfl)) _⟩
  · have h2 := (hat.setTab hap i ((k : Int) + 2)).setMany hap ((cnt c : Int) + 1)
    have e1 : (fun j => if j = k then true else (c.at j).isSome) = fun j => (Cells.at (c.set k (some n)) j).isSome := by
      funext j; rw [hs]; split <;> rfl
    have e2 : ((cnt (c.set k (some n)) : Nat) : Int) = (cnt c : Int) + 1 := by rw [cnt_set hk hk0]; omega
    rw [e1] at h2
    rw [e2]
    exact h2
  · refine (hto.insert hp h0 (by rw [hk0]; simp) (nodes' := fun j => if j = k then n else nodes j) (fun j hj => ?_) (by simp)).congr (fun j => ?_) (fun j _ => rfl)
    · have : j ≠ k := fun e => by subst e; rw [hk0] at hj; cases hj
      simp only [if_neg this]
    · rw [hs]
      split
      · rename_i e; simp [e]
      · rename_i e; simp [e]
  · rw [hs] at hj
    split at hj
    · rename_i e; cases hj; simp [e]
    · rename_i e; simp only [if_neg e]; exact hag j m hj

set_option maxRecDepth 100000 in
set_option maxHeartbeats 4000000 in
theorem make_order1 (v l h : Int) (w : World) (b : Bk) (c : Cells) (ha : IsArena w b c) (h1 : 0 ≤ v) (h2 : v < 24) (hl : l ≤ 9223372036854775807) (hh : h ≤ 9223372036854775807) (e1 : hasM c l = true) (e2 : hasM c h = true) (ht : topM c l ≤ v) :
    Calls Tryd.prog 116 #[.pointer (some ⟨b.p, 0, none⟩), .agg #[.int .i64 v, .int .i64 l, .int .i64 h]] w (MkPost b c (v, l, h) w) := by
  have Ha := Lib.hid ha; clear ha
  have hb : badM c (v, l, h) = 10 := by unfold badM; rw [if_neg (by simp; omega), if_neg (by simp [e1, e2]), if_pos (.inl ht)]
  have Hb := Lib.hid hb; clear hb
  have E1 := Lib.hid e1; clear e1
  have E2 := Lib.hid e2; clear e2
  obtain ⟨t, he⟩ : ∃ t, t = topM c l := ⟨_, rfl⟩
  rw [← he] at ht
  have He := Lib.hid he.symm; clear he
  go_enter Tryd.func116, Tryd.ntmps116
  go_wp2_with fail
  refine (has_any l _ b c (Ha.out.below ((Below.refl _ _).alloc (Nat.le_refl _) _)) hl).mono ?_
  rw [E1.out]
  rintro e w' ⟨rfl, rfl⟩
  go_wp2_with fail
  refine (has_any h _ b c (Ha.out.below ((Below.refl _ _).alloc (Nat.le_refl _) _)) hh).mono ?_
  rw [E2.out]
  rintro e w' ⟨rfl, rfl⟩
  go_wp2_with fail
  have hs := boxS_start w b c v l h Ha.out
  generalize w.alloc (.cells #[.int .i64 v, .int .i64 l, .int .i64 h] 106) = wx at hs ⊢
  obtain ⟨s0, s1, s2, s3, s4, s5⟩ := hs
  refine wp_region_class (fun w' => w'.cell? ⟨w.heap.size, 0, none⟩ = some (.int .i64 v) ∧ w'.cell? ⟨w.heap.size, 1, none⟩ = some (.int .i64 l) ∧ w'.cell? ⟨w.heap.size, 2, none⟩ = some (.int .i64 h) ∧ IsArena w' b c ∧ Below w.heap.size w w' ∧ w.heap.size < w'.heap.size) (by kernel_rfl) (by kernel_rfl) ⟨s0, s1, s2, s3.below (Below.refl _ _).drew, s4.drew, s5⟩ ?_
  go_big_quiet_want
  go_big_quiet_op
  go_big_quiet_on
  go_big_quiet_want
  refine quiet_run (.pointer (some ⟨w.heap.size, 1, none⟩)) (fun w' hc => by go_simp) ?_
  simp [Act.put]
  go_big_quiet_on
  go_big_quiet_want
  refine quiet_run (.int .i64 l) (fun w' hc => by obtain ⟨c0, c1, c2, -⟩ := hc; go_simp) ?_
  simp [Act.put]
  go_big_quiet_on
  go_big_quiet_want
  refine quiet_call (.int .i64 t) 51 #[.pointer (some ⟨b.p, 0, none⟩), .int .i64 l] (fun w' => by go_simp) (fun w' hc => (top_any l w' b c hc.2.2.2.1 hl).mono fun e w2 he => ⟨by rw [← He.out]; exact he.1, boxS_step hc.1 hc.2.1 hc.2.2.1 hc.2.2.2.1 hc.2.2.2.2.1 hc.2.2.2.2.2 he.2⟩) ?_
  simp [Act.put]
  go_big_quiet_on
  go_big_quiet_want
  refine quiet_run (.pointer (some ⟨w.heap.size, 0, none⟩)) (fun w' hc => by go_simp) ?_
  simp [Act.put]
  go_big_quiet_on
  go_big_quiet_want
  refine quiet_run (.int .i64 v) (fun w' hc => by obtain ⟨c0, c1, c2, -⟩ := hc; go_simp) ?_
  simp [Act.put]
  go_big_quiet_on
  go_big_quiet_want
  refine quiet_run (.bool true) (fun w' hc => by go_simp) ?_
  simp [Act.put]
  go_big_quiet_on
  go_big_quiet_want
  go_big_quiet_op
  go_big_quiet_on
  go_big_quiet_skip
  go_big_quiet_skip
  go_big_quiet_skip
  go_big_quiet_skip
  go_big_quiet_skip
  go_big_quiet_skip
  go_big_quiet_skip
  go_big_quiet_want
  refine quiet_run (.bool true) (fun w' hc => by go_simp) ?_
  simp [Act.put]
  go_big_quiet_on
  go_big_quiet_want
  go_big_quiet_op
  go_big_quiet_on
  refine wpQuiet_nil ?_
  rintro w1 ⟨s0', s1', s2', s3', s4', s5'⟩
  go_wp2_with fail
  go_ret2
  exact mk_bad 10 Hb.out (by decide) Ha.out s4' _ rfl

set_option maxRecDepth 100000 in
set_option maxHeartbeats 4000000 in
theorem make_order2 (v l h : Int) (w : World) (b : Bk) (c : Cells) (ha : IsArena w b c) (h1 : 0 ≤ v) (h2 : v < 24) (hl : l ≤ 9223372036854775807) (hh : h ≤ 9223372036854775807) (e1 : hasM c l = true) (e2 : hasM c h = true) (ht : v < topM c l) (hu : topM c h ≤ v) :
    Calls Tryd.prog 116 #[.pointer (some ⟨b.p, 0, none⟩), .agg #[.int .i64 v, .int .i64 l, .int .i64 h]] w (MkPost b c (v, l, h) w) := by
  have Ha := Lib.hid ha; clear ha
  have hb : badM c (v, l, h) = 10 := by unfold badM; rw [if_neg (by simp; omega), if_neg (by simp [e1, e2]), if_pos (.inr hu)]
  have Hb := Lib.hid hb; clear hb
  have E1 := Lib.hid e1; clear e1
  have E2 := Lib.hid e2; clear e2
  obtain ⟨t, he⟩ : ∃ t, t = topM c l := ⟨_, rfl⟩
  rw [← he] at ht
  have He := Lib.hid he.symm; clear he
  obtain ⟨u, hf⟩ : ∃ u, u = topM c h := ⟨_, rfl⟩
  rw [← hf] at hu
  have Hf := Lib.hid hf.symm; clear hf
  go_enter Tryd.func116, Tryd.ntmps116
  go_wp2_with fail
  refine (has_any l _ b c (Ha.out.below ((Below.refl _ _).alloc (Nat.le_refl _) _)) hl).mono ?_
  rw [E1.out]
  rintro e w' ⟨rfl, rfl⟩
  go_wp2_with fail
  refine (has_any h _ b c (Ha.out.below ((Below.refl _ _).alloc (Nat.le_refl _) _)) hh).mono ?_
  rw [E2.out]
  rintro e w' ⟨rfl, rfl⟩
  go_wp2_with fail
  have hs := boxS_start w b c v l h Ha.out
  generalize w.alloc (.cells #[.int .i64 v, .int .i64 l, .int .i64 h] 106) = wx at hs ⊢
  obtain ⟨s0, s1, s2, s3, s4, s5⟩ := hs
  refine wp_region_class (fun w' => w'.cell? ⟨w.heap.size, 0, none⟩ = some (.int .i64 v) ∧ w'.cell? ⟨w.heap.size, 1, none⟩ = some (.int .i64 l) ∧ w'.cell? ⟨w.heap.size, 2, none⟩ = some (.int .i64 h) ∧ IsArena w' b c ∧ Below w.heap.size w w' ∧ w.heap.size < w'.heap.size) (by kernel_rfl) (by kernel_rfl) ⟨s0, s1, s2, s3.below (Below.refl _ _).drew, s4.drew, s5⟩ ?_
  go_big_quiet_want
  go_big_quiet_op
  go_big_quiet_on
  go_big_quiet_want
  refine quiet_run (.pointer (some ⟨w.heap.size, 1, none⟩)) (fun w' hc => by go_simp) ?_
  simp [Act.put]
  go_big_quiet_on
  go_big_quiet_want
  refine quiet_run (.int .i64 l) (fun w' hc => by obtain ⟨c0, c1, c2, -⟩ := hc; go_simp) ?_
  simp [Act.put]
  go_big_quiet_on
  go_big_quiet_want
  refine quiet_call (.int .i64 t) 51 #[.pointer (some ⟨b.p, 0, none⟩), .int .i64 l] (fun w' => by go_simp) (fun w' hc => (top_any l w' b c hc.2.2.2.1 hl).mono fun e w2 he => ⟨by rw [← He.out]; exact he.1, boxS_step hc.1 hc.2.1 hc.2.2.1 hc.2.2.2.1 hc.2.2.2.2.1 hc.2.2.2.2.2 he.2⟩) ?_
  simp [Act.put]
  go_big_quiet_on
  go_big_quiet_want
  refine quiet_run (.pointer (some ⟨w.heap.size, 0, none⟩)) (fun w' hc => by go_simp) ?_
  simp [Act.put]
  go_big_quiet_on
  go_big_quiet_want
  refine quiet_run (.int .i64 v) (fun w' hc => by obtain ⟨c0, c1, c2, -⟩ := hc; go_simp) ?_
  simp [Act.put]
  go_big_quiet_on
  go_big_quiet_want
  refine quiet_run (.bool false) (fun w' hc => by go_simp) ?_
  simp [Act.put]
  go_big_quiet_on
  go_big_quiet_want
  go_big_quiet_op
  go_big_quiet_on
  go_big_quiet_want
  go_big_quiet_op
  go_big_quiet_on
  go_big_quiet_want
  refine quiet_run (.pointer (some ⟨w.heap.size, 2, none⟩)) (fun w' hc => by go_simp) ?_
  simp [Act.put]
  go_big_quiet_on
  go_big_quiet_want
  refine quiet_run (.int .i64 h) (fun w' hc => by obtain ⟨c0, c1, c2, -⟩ := hc; go_simp) ?_
  simp [Act.put]
  go_big_quiet_on
  go_big_quiet_want
  refine quiet_call (.int .i64 u) 51 #[.pointer (some ⟨b.p, 0, none⟩), .int .i64 h] (fun w' => by go_simp) (fun w' hc => (top_any h w' b c hc.2.2.2.1 hh).mono fun e w2 he => ⟨by rw [← Hf.out]; exact he.1, boxS_step hc.1 hc.2.1 hc.2.2.1 hc.2.2.2.1 hc.2.2.2.2.1 hc.2.2.2.2.2 he.2⟩) ?_
  simp [Act.put]
  go_big_quiet_on
  go_big_quiet_want
  refine quiet_run (.pointer (some ⟨w.heap.size, 0, none⟩)) (fun w' hc => by go_simp) ?_
  simp [Act.put]
  go_big_quiet_on
  go_big_quiet_want
  refine quiet_run (.int .i64 v) (fun w' hc => by obtain ⟨c0, c1, c2, -⟩ := hc; go_simp) ?_
  simp [Act.put]
  go_big_quiet_on
  go_big_quiet_want
  refine quiet_run (.bool true) (fun w' hc => by go_simp) ?_
  simp [Act.put]
  go_big_quiet_on
  go_big_quiet_want
  refine quiet_run (.bool true) (fun w' hc => by go_simp) ?_
  simp [Act.put]
  go_big_quiet_on
  go_big_quiet_want
  go_big_quiet_op
  go_big_quiet_on
  refine wpQuiet_nil ?_
  rintro w1 ⟨s0', s1', s2', s3', s4', s5'⟩
  go_wp2_with fail
  go_ret2
  exact mk_bad 10 Hb.out (by decide) Ha.out s4' _ rfl

set_option maxRecDepth 100000 in
set_option maxHeartbeats 4000000 in
theorem make_ok (v l h : Int) (w : World) (b : Bk) (c : Cells) (ha : IsArena w b c) (h1 : 0 ≤ v) (h2 : v < 24) (hl : l ≤ 9223372036854775807) (hh : h ≤ 9223372036854775807) (e1 : hasM c l = true) (e2 : hasM c h = true) (ht : v < topM c l) (hu : v < topM c h) :
    Calls Tryd.prog 116 #[.pointer (some ⟨b.p, 0, none⟩), .agg #[.int .i64 v, .int .i64 l, .int .i64 h]] w (MkPost b c (v, l, h) w) := by
  have Ha := Lib.hid ha; clear ha
  have hb : badM c (v, l, h) = 0 := badM_zero h1 h2 e1 e2 ht hu
  have Hb := Lib.hid hb; clear hb
  have E1 := Lib.hid e1; clear e1
  have E2 := Lib.hid e2; clear e2
  obtain ⟨t, he⟩ : ∃ t, t = topM c l := ⟨_, rfl⟩
  rw [← he] at ht
  have He := Lib.hid he.symm; clear he
  obtain ⟨u, hf⟩ : ∃ u, u = topM c h := ⟨_, rfl⟩
  rw [← hf] at hu
  have Hf := Lib.hid hf.symm; clear hf
  go_enter Tryd.func116, Tryd.ntmps116
  go_wp2_with fail
  refine (has_any l _ b c (Ha.out.below ((Below.refl _ _).alloc (Nat.le_refl _) _)) hl).mono ?_
  rw [E1.out]
  rintro e w' ⟨rfl, rfl⟩
  go_wp2_with fail
  refine (has_any h _ b c (Ha.out.below ((Below.refl _ _).alloc (Nat.le_refl _) _)) hh).mono ?_
  rw [E2.out]
  rintro e w' ⟨rfl, rfl⟩
  go_wp2_with fail
  have hs := boxS_start w b c v l h Ha.out
  generalize w.alloc (.cells #[.int .i64 v, .int .i64 l, .int .i64 h] 106) = wx at hs ⊢
  obtain ⟨s0, s1, s2, s3, s4, s5⟩ := hs
  refine wp_region_class (fun w' => w'.cell? ⟨w.heap.size, 0, none⟩ = some (.int .i64 v) ∧ w'.cell? ⟨w.heap.size, 1, none⟩ = some (.int .i64 l) ∧ w'.cell? ⟨w.heap.size, 2, none⟩ = some (.int .i64 h) ∧ IsArena w' b c ∧ Below w.heap.size w w' ∧ w.heap.size < w'.heap.size) (by kernel_rfl) (by kernel_rfl) ⟨s0, s1, s2, s3.below (Below.refl _ _).drew, s4.drew, s5⟩ ?_
  go_big_quiet_want
  go_big_quiet_op
  go_big_quiet_on
  go_big_quiet_want
  refine quiet_run (.pointer (some ⟨w.heap.size, 1, none⟩)) (fun w' hc => by go_simp) ?_
  simp [Act.put]
  go_big_quiet_on
  go_big_quiet_want
  refine quiet_run (.int .i64 l) (fun w' hc => by obtain ⟨c0, c1, c2, -⟩ := hc; go_simp) ?_
  simp [Act.put]
  go_big_quiet_on
  go_big_quiet_want
  refine quiet_call (.int .i64 t) 51 #[.pointer (some ⟨b.p, 0, none⟩), .int .i64 l] (fun w' => by go_simp) (fun w' hc => (top_any l w' b c hc.2.2.2.1 hl).mono fun e w2 he => ⟨by rw [← He.out]; exact he.1, boxS_step hc.1 hc.2.1 hc.2.2.1 hc.2.2.2.1 hc.2.2.2.2.1 hc.2.2.2.2.2 he.2⟩) ?_
  simp [Act.put]
  go_big_quiet_on
  go_big_quiet_want
  refine quiet_run (.pointer (some ⟨w.heap.size, 0, none⟩)) (fun w' hc => by go_simp) ?_
  simp [Act.put]
  go_big_quiet_on
  go_big_quiet_want
  refine quiet_run (.int .i64 v) (fun w' hc => by obtain ⟨c0, c1, c2, -⟩ := hc; go_simp) ?_
  simp [Act.put]
  go_big_quiet_on
  go_big_quiet_want
  refine quiet_run (.bool false) (fun w' hc => by go_simp) ?_
  simp [Act.put]
  go_big_quiet_on
  go_big_quiet_want
  go_big_quiet_op
  go_big_quiet_on
  go_big_quiet_want
  go_big_quiet_op
  go_big_quiet_on
  go_big_quiet_want
  refine quiet_run (.pointer (some ⟨w.heap.size, 2, none⟩)) (fun w' hc => by go_simp) ?_
  simp [Act.put]
  go_big_quiet_on
  go_big_quiet_want
  refine quiet_run (.int .i64 h) (fun w' hc => by obtain ⟨c0, c1, c2, -⟩ := hc; go_simp) ?_
  simp [Act.put]
  go_big_quiet_on
  go_big_quiet_want
  refine quiet_call (.int .i64 u) 51 #[.pointer (some ⟨b.p, 0, none⟩), .int .i64 h] (fun w' => by go_simp) (fun w' hc => (top_any h w' b c hc.2.2.2.1 hh).mono fun e w2 he => ⟨by rw [← Hf.out]; exact he.1, boxS_step hc.1 hc.2.1 hc.2.2.1 hc.2.2.2.1 hc.2.2.2.2.1 hc.2.2.2.2.2 he.2⟩) ?_
  simp [Act.put]
  go_big_quiet_on
  go_big_quiet_want
  refine quiet_run (.pointer (some ⟨w.heap.size, 0, none⟩)) (fun w' hc => by go_simp) ?_
  simp [Act.put]
  go_big_quiet_on
  go_big_quiet_want
  refine quiet_run (.int .i64 v) (fun w' hc => by obtain ⟨c0, c1, c2, -⟩ := hc; go_simp) ?_
  simp [Act.put]
  go_big_quiet_on
  go_big_quiet_want
  refine quiet_run (.bool false) (fun w' hc => by go_simp) ?_
  simp [Act.put]
  go_big_quiet_on
  go_big_quiet_want
  refine quiet_run (.bool false) (fun w' hc => by go_simp) ?_
  simp [Act.put]
  go_big_quiet_on
  go_big_quiet_want
  go_big_quiet_op
  go_big_quiet_on
  refine wpQuiet_nil ?_
  rintro w1 ⟨s0', s1', s2', s3', s4', s5'⟩
  obtain ⟨hlen, hroom, hap, nodes, tab, hat, htl, hto, hag⟩ := s3'
  have hS : ∀ k, (c.at k).isSome = true → k < b.R := fun k hk => by obtain ⟨m, hm⟩ := Option.isSome_iff_exists.1 hk; rw [← hlen]; exact at_lt hm
  have hpl := place_any (v, l, h) w1 b nodes _ tab _ _ hat hroom.2 htl hto hS
  unfold encNd at hpl
  dsimp only at hpl
  have Hpl := Lib.hid hpl; clear hpl
  have Hat := Lib.hid hat; have Htl := Lib.hid htl; have Hto := Lib.hid hto; have Hag := Lib.hid hag; have HS := Lib.hid hS; have Hlen := Lib.hid hlen
  clear hat htl hto hag hS hlen
  have S4 := Lib.hid s4'; clear s4'
  go_wp2_with fail
  refine Hpl.out.mono ?_
  rintro e w2 ⟨⟨i, rfl, hp⟩, hb2⟩
  have hi1 := hp.lt
  rw [Htl.out] at hi1
  have Hp := Lib.hid hp; clear hp
  have Hb2 := Lib.hid hb2; clear hb2
  have hat2 := Hat.out.below Hb2.out
  have f2 := hat2.f2
  rw [Htl.out] at f2
  have f1 := hat2.f1
  have ft := hat2.t Hp.out.lt
  obtain ⟨x, hx⟩ : ∃ x, x = tab.getD i 0 := ⟨_, rfl⟩
  rw [← hx] at ft
  have Hx := Lib.hid hx; clear hx
  have Hat2 := Lib.hid hat2; clear hat2
  have ha2 : IsArena w2 b c := ⟨Hlen.out, hroom, hap, nodes, tab, Hat2.out, Htl.out, Hto.out, Hag.out⟩
  have Ha2 := Lib.hid ha2; clear ha2
  have ho : Only b.mem w w2 := (Only.of_below S4.out rfl).trans (Only.of_below Hb2.out rfl)
  have Ho := Lib.hid ho; clear ho
  have hR := hroom.2
  by_cases x0 : x = 0
  · have e0 : (x != 0) = false := by simp [x0]
    have hfn : findM c (v, l, h) = none := mk_findM_none Hto.out Hag.out Hp.out (by rw [← Hx.out]; exact x0)
    have Hfn := Lib.hid hfn; clear hfn
    have X0 := Lib.hid x0; clear x0
    have hix := index_any w2 b c Ha2.out
    cases hfr : freeM c with
    | none =>
      have e1 : freeI c = -1 := by unfold freeI; rw [hfr]
      rw [e1] at hix
      have Hix := Lib.hid hix; clear hix
      have Hfr := Lib.hid hfr; clear hfr e1
      go_wp2_with fail
      refine Hix.out.mono ?_
      rintro e w3 ⟨rfl, rfl⟩
      go_wp2_with fail
      go_ret2
      exact mk_full Hb.out Hfn.out Hfr.out Ha2.out Ho.out
    | some k =>
      have e1 : freeI c = (k : Int) := by unfold freeI; rw [hfr]
      rw [e1] at hix
      have Hix := Lib.hid hix; clear hix
      have hk : k < b.R := by rw [← Hlen.out]; exact (freeM_some hfr).1
      have Hfr := Lib.hid hfr; clear hfr e1
      go_wp2_with fail
      refine Hix.out.mono ?_
      rintro e w3 ⟨rfl, rfl⟩
      have hk1 : (k : Int) < (b.R : Int) := by omega
      have f0 := Hat2.out.f0
      have f3 := Hat2.out.f3
      have n0 := Hat2.out.n0 hk
      have n1 := Hat2.out.n1 hk
      have n2 := Hat2.out.n2 hk
      have u0 := Hat2.out.u hk
      have z0 := Hat2.out.zn (k * 3)
      have z1 := Hat2.out.zn (k * 3 + 1)
      have z2 := Hat2.out.zn (k * 3 + 2)
      have z3 := Hat2.out.zu k
      have z4 := Hat2.out.zt i
      have z5 := Hat2.out.zp 3
      have q0 : w2.cell? ⟨w.heap.size, 0, none⟩ = some (.int .i64 v) := by rw [Hb2.out.cell s5']; exact s0'
      have q1 : w2.cell? ⟨w.heap.size, 1, none⟩ = some (.int .i64 l) := by rw [Hb2.out.cell s5']; exact s1'
      have q2 : w2.cell? ⟨w.heap.size, 2, none⟩ = some (.int .i64 h) := by rw [Hb2.out.cell s5']; exact s2'
      have a1 := hap.n1; have a2 := hap.n2; have a3 := hap.n3; have a4 := hap.n4; have a5 := hap.n5; have a6 := hap.n6
      have a1' := hap.n1.symm; have a2' := hap.n2.symm; have a3' := hap.n3.symm; have a4' := hap.n4.symm; have a5' := hap.n5.symm; have a6' := hap.n6.symm
      have lq : w.heap.size < w2.heap.size := Nat.lt_of_lt_of_le s5' Hb2.out.size
      go_wp2_with fail
      go_region
      have hat4 : ArAt ((((w2.setCell ⟨b.bn, k * 3, none⟩ (.int .i64 v)).setCell ⟨b.bn, k * 3 + 1, none⟩ (.int .i64 l)).setCell ⟨b.bn, k * 3 + 2, none⟩ (.int .i64 h)).setCell ⟨b.bu, k, none⟩ (.bool true)).drew b.p b.bn b.bu b.bt b.R
          (fun j => if j = k then (v, l, h) else nodes j) (fun j => if j = k then true else (c.at j).isSome) tab (cnt c) := ((Hat2.out.setNode hap hk (v, l, h)).setUsed hap hk true).below (Below.refl _ _).drew
      have ho4 : Only b.mem w ((((w2.setCell ⟨b.bn, k * 3, none⟩ (.int .i64 v)).setCell ⟨b.bn, k * 3 + 1, none⟩ (.int .i64 l)).setCell ⟨b.bn, k * 3 + 2, none⟩ (.int .i64 h)).setCell ⟨b.bu, k, none⟩ (.bool true)).drew :=
        ((((Ho.out.setCell (.inl (.inr (.inl rfl))) _).setCell (.inl (.inr (.inl rfl))) _).setCell (.inl (.inr (.inl rfl))) _).setCell (.inl (.inr (.inr (.inl rfl)))) _).drew
      clear f0 f1 f2 f3 n0 n1 n2 u0 z0 z1 z2 z3 z4 z5 q0 q1 q2 lq ft
      generalize ((((w2.setCell ⟨b.bn, k * 3, none⟩ (.int .i64 v)).setCell ⟨b.bn, k * 3 + 1, none⟩ (.int .i64 l)).setCell ⟨b.bn, k * 3 + 2, none⟩ (.int .i64 h)).setCell ⟨b.bu, k, none⟩ (.bool true)).drew = w4 at hat4 ho4 ⊢
      have g2 := hat4.f2
      rw [Htl.out] at g2
      have g3 := hat4.f3
      have gt := hat4.t Hp.out.lt
      rw [← Hx.out] at gt
      have z4 := hat4.zt i
      have z5 := hat4.zp 3
      have hcn : cnt c ≤ 4000 := Nat.le_trans (cnt_le c) (by rw [Hlen.out]; exact hR)
      have Hat4 := Lib.hid hat4; have Ho4 := Lib.hid ho4
      clear hat4 ho4
      go_wp2_with fail
      go_ret2
      exact mk_new Hb.out Hfn.out Hfr.out Hlen.out hroom hap Htl.out Hto.out Hag.out Hp.out (Hx.out.symm.trans X0.out) Hat4.out Ho4.out
  · have e0 : (x != 0) = true := by simpa using x0
    have hfn := mk_findM_some Hto.out Hag.out Hp.out (by rw [← Hx.out]; exact x0)
    have Hfn := Lib.hid hfn; clear hfn x0
    go_wp2_with fail
    go_ret2
    exact mk_found Hb.out Hfn.out Hx.out Ha2.out Ho.out

/-- Make. -/
theorem make_any (n : Nd) (w : World) (b : Bk) (c : Cells) (ha : IsArena w b c) (hl : n.2.1 ≤ 9223372036854775807) (hh : n.2.2 ≤ 9223372036854775807) :
    Calls Tryd.prog 116 #[.pointer (some ⟨b.p, 0, none⟩), encNd n] w (MkPost b c n w) := by
  obtain ⟨v, l, h⟩ := n
  by_cases h0 : v < 0 ∨ 24 ≤ v
  · exact make_range v l h w b c ha h0
  · by_cases h1 : hasM c l = false ∨ hasM c h = false
    · exact make_missing v l h w b c ha (by omega) (by omega) hl hh h1
    · simp only [not_or, Bool.not_eq_false] at h1
      by_cases h2 : topM c l ≤ v
      · exact make_order1 v l h w b c ha (by omega) (by omega) hl hh h1.1 h1.2 h2
      · by_cases h3 : topM c h ≤ v
        · exact make_order2 v l h w b c ha (by omega) (by omega) hl hh h1.1 h1.2 (by omega) h3
        · exact make_ok v l h w b c ha (by omega) (by omega) hl hh h1.1 h1.2 (by omega) (by omega)
end Go.Proofs.YtdeaficdfooegaaDoor
