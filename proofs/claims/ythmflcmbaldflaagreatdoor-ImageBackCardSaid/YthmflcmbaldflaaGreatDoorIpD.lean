/- Some texts in one: Make, Append, Owns, ReachW, Clear, Sweep, Pick. -/
import Derived.Test.YthmflcmbaldflaaGreatDoorIpC
import Derived.Deep.RegionHeld3
import Derived.Deep.RegionWith
import Derived.Deep.Cut
import Derived.Test.YthmflcmbaldflaaGreatDoorIpB
import Derived.Deep.LoopGhost
import Derived.Laws.Tables
namespace Go.Proofs.YthmflcmbaldflaaGreatDoor
open Go.RowKit
set_option linter.unusedVariables false

/-- An error by its number. -/
def errV (k : Nat) : Value := if k = 0 then .nilIface else .iface 59 (.int .i64 k)

def MkPost (b : Bk) (c : Cells) (n : Nd) (w : World) (e : Ending) (w' : World) : Prop :=
  e = .returned (.tuple #[.int .i64 (mkM c n).2.1, errV (mkM c n).2.2]) ∧ IsArena w' b (mkM c n).1 ∧ Only b.mem w w'

theorem mk_bad {b : Bk} {c : Cells} {n : Nd} {w w' : World} (k : Nat) (hk : badM c n = k) (h0 : k ≠ 0) (ha : IsArena w b c) (hb : Below w.heap.size w w') (e : Ending) (he : e = .returned (.tuple #[.int .i64 0, errV k])) : MkPost b c n w e w' := by
  have h1 : mkM c n = (c, 0, k) := by unfold mkM; rw [hk, if_pos h0]
  unfold MkPost
  rw [h1]
  exact ⟨he, ha.below hb, Only.of_below hb rfl⟩

set_option maxRecDepth 100000 in
set_option maxHeartbeats 2000000 in
theorem make_range (v l h : Int) (w : World) (b : Bk) (c : Cells) (ha : IsArena w b c) (hv : v < 0 ∨ 24 ≤ v) :
    Calls Tryz.prog 28 #[.pointer (some ⟨b.p, 0, none⟩), .agg #[.int .i64 v, .int .i64 l, .int .i64 h]] w (MkPost b c (v, l, h) w) := by
  have Ha := Lib.hid ha; clear ha
  have hb : badM c (v, l, h) = 2 := by unfold badM; rw [if_pos hv]
  have Hb := Lib.hid hb; clear hb
  rcases hv with h0 | h0
  · go_enter Tryz.func28, Tryz.ntmps28
    go_wp2_with fail
    go_ret2
    exact mk_bad 2 Hb.out (by decide) Ha.out ((Below.refl _ _).alloc (Nat.le_refl _) _) _ rfl
  · have h1 : ¬ v < 0 := by omega
    go_enter Tryz.func28, Tryz.ntmps28
    go_wp2_with fail
    go_ret2
    exact mk_bad 2 Hb.out (by decide) Ha.out ((Below.refl _ _).alloc (Nat.le_refl _) _) _ rfl

set_option maxRecDepth 100000 in
set_option maxHeartbeats 2000000 in
theorem make_missing (v l h : Int) (w : World) (b : Bk) (c : Cells) (ha : IsArena w b c) (h1 : 0 ≤ v) (h2 : v < 24) (hl : l ≤ 9223372036854775807) (hh : h ≤ 9223372036854775807) (hm : hasM c l = false ∨ hasM c h = false) :
    Calls Tryz.prog 28 #[.pointer (some ⟨b.p, 0, none⟩), .agg #[.int .i64 v, .int .i64 l, .int .i64 h]] w (MkPost b c (v, l, h) w) := by
  have Ha := Lib.hid ha; clear ha
  have hb : badM c (v, l, h) = 7 := by unfold badM; rw [if_neg (by simp; omega), if_pos hm]
  have Hb := Lib.hid hb; clear hb
  cases e1 : hasM c l
  · have E1 := Lib.hid e1; clear e1 hm
    go_enter Tryz.func28, Tryz.ntmps28
    go_wp2_with fail
    refine (ahas_any l _ b c (Ha.out.below ((Below.refl _ _).alloc (Nat.le_refl _) _)) hl).mono ?_
    rw [E1.out]
    rintro e w' ⟨rfl, rfl⟩
    go_wp2_with fail
    go_ret2
    exact mk_bad 7 Hb.out (by decide) Ha.out ((Below.refl _ _).alloc (Nat.le_refl _) _) _ rfl
  · have e2 : hasM c h = false := hm.elim (fun h3 => by rw [h3] at e1; cases e1) id
    have E1 := Lib.hid e1; clear e1 hm
    have E2 := Lib.hid e2; clear e2
    go_enter Tryz.func28, Tryz.ntmps28
    go_wp2_with fail
    refine (ahas_any l _ b c (Ha.out.below ((Below.refl _ _).alloc (Nat.le_refl _) _)) hl).mono ?_
    rw [E1.out]
    rintro e w' ⟨rfl, rfl⟩
    go_wp2_with fail
    refine (ahas_any h _ b c (Ha.out.below ((Below.refl _ _).alloc (Nat.le_refl _) _)) hh).mono ?_
    rw [E2.out]
    rintro e w' ⟨rfl, rfl⟩
    go_wp2_with fail
    go_ret2
    exact mk_bad 7 Hb.out (by decide) Ha.out ((Below.refl _ _).alloc (Nat.le_refl _) _) _ rfl

theorem boxS_start (w : World) (b : Bk) (c : Cells) (v l h : Int) (ha : IsArena w b c) :
    (w.alloc (.cells #[.int .i64 v, .int .i64 l, .int .i64 h] 68)).cell? ⟨w.heap.size, 0, none⟩ = some (.int .i64 v) ∧ (w.alloc (.cells #[.int .i64 v, .int .i64 l, .int .i64 h] 68)).cell? ⟨w.heap.size, 1, none⟩ = some (.int .i64 l) ∧
    (w.alloc (.cells #[.int .i64 v, .int .i64 l, .int .i64 h] 68)).cell? ⟨w.heap.size, 2, none⟩ = some (.int .i64 h) ∧ IsArena (w.alloc (.cells #[.int .i64 v, .int .i64 l, .int .i64 h] 68)) b c ∧
    Below w.heap.size w (w.alloc (.cells #[.int .i64 v, .int .i64 l, .int .i64 h] 68)) ∧ w.heap.size < (w.alloc (.cells #[.int .i64 v, .int .i64 l, .int .i64 h] 68)).heap.size := by
  have hb : Below w.heap.size w (w.alloc (.cells #[.int .i64 v, .int .i64 l, .int .i64 h] 68)) := (Below.refl _ _).alloc (Nat.le_refl _) _
  exact ⟨by simp, by simp, by simp, ha.below hb, hb, by simp⟩
theorem boxS_step {w w1 w2 : World} {b : Bk} {c : Cells} {v l h : Int} (s0 : w1.cell? ⟨w.heap.size, 0, none⟩ = some (.int .i64 v)) (s1 : w1.cell? ⟨w.heap.size, 1, none⟩ = some (.int .i64 l)) (s2 : w1.cell? ⟨w.heap.size, 2, none⟩ = some (.int .i64 h))
    (s3 : IsArena w1 b c) (s4 : Below w.heap.size w w1) (s5 : w.heap.size < w1.heap.size) (hb : Below w1.heap.size w1 w2) :
    w2.cell? ⟨w.heap.size, 0, none⟩ = some (.int .i64 v) ∧ w2.cell? ⟨w.heap.size, 1, none⟩ = some (.int .i64 l) ∧ w2.cell? ⟨w.heap.size, 2, none⟩ = some (.int .i64 h) ∧ IsArena w2 b c ∧ Below w.heap.size w w2 ∧ w.heap.size < w2.heap.size :=
  ⟨by rw [hb.cell s5]; exact s0, by rw [hb.cell s5]; exact s1, by rw [hb.cell s5]; exact s2, s3.below hb, s4.trans (hb.mono (Nat.le_of_lt s5)), Nat.lt_of_lt_of_le s5 hb.size⟩

section
variable {c : Cells} {nodes : Nat → Nd} {tab : List Int} {n : Nd} {i : Nat} {hs : Nd → Nat}
theorem mk_findM_none (ht : TabOK hs nodes (fun k => (c.at k).isSome = true) tab) (hag : ∀ k n, c.at k = some n → nodes k = n) (hp : Placed hs nodes tab n i) (h0 : tab.getD i 0 = 0) : findM c n = none := by
  cases e : findM c n with
  | none => rfl
  | some k => exact absurd (hag k n (findM_some e)) (hp.free ht h0 k (by rw [findM_some e]; rfl))
theorem mk_findM_some (ht : TabOK hs nodes (fun k => (c.at k).isSome = true) tab) (hag : ∀ k n, c.at k = some n → nodes k = n) (hp : Placed hs nodes tab n i) (h0 : tab.getD i 0 ≠ 0) : ∃ k : Nat, tab.getD i 0 = (k : Int) + 2 ∧ findM c n = some k := by
  obtain ⟨k, hk, hn, hv⟩ := hp.found ht h0
  obtain ⟨m, hm⟩ := Option.isSome_iff_exists.1 hk
  have h1 := hag k m hm
  rw [hn] at h1
  subst h1
  exact ⟨k, hv, findM_at (fun j hj => ht.uniq j k (by rw [hj]; rfl) (by rw [hm]; rfl) (by rw [hag j _ hj, hag k _ hm])) hm⟩
end
theorem mk_full {b : Bk} {c : Cells} {n : Nd} {w w' : World} (hb : badM c n = 0) (hf : findM c n = none) (hr : freeM c = none) (ha : IsArena w' b c) (ho : Only b.mem w w') :
    MkPost b c n w (.returned (.tuple #[.int .i64 0, .iface 59 (.int .i64 12)])) w' := by
  have h1 : mkM c n = (c, 0, 12) := by unfold mkM; rw [if_neg (by simp [hb]), hf, hr]
  unfold MkPost
  rw [h1]
  exact ⟨rfl, ha, ho⟩
theorem mk_found {b : Bk} {c : Cells} {n : Nd} {w w' : World} {x y : Int} (hb : badM c n = 0) (hf : ∃ k : Nat, x = (k : Int) + 2 ∧ findM c n = some k) (hy : y = x) (ha : IsArena w' b c) (ho : Only b.mem w w') :
    MkPost b c n w (.returned (.tuple #[.int .i64 y, .nilIface])) w' := by
  obtain ⟨k, h2, h3⟩ := hf
  have h1 : mkM c n = (c, (k : Int) + 2, 0) := by unfold mkM; rw [if_neg (by simp [hb]), h3]
  unfold MkPost
  rw [h1]
  exact ⟨by rw [hy, h2]; rfl, ha, ho⟩
theorem mk_new {b : Bk} {c : Cells} {n : Nd} {w w4 : World} {k i : Nat} {nodes : Nat → Nd} {tab : List Int} (hb : badM c n = 0) (hf : findM c n = none) (hr : freeM c = some k) (hlen : c.length = b.R) (hroom : 1 ≤ b.R ∧ b.R ≤ 4000) (hap : b.Apart)
    (htl : tab.length = 2 * b.R + 1) (hto : TabOK (hsh (2 * b.R + 1)) nodes (fun k => (c.at k).isSome = true) tab) (hag : ∀ k n, c.at k = some n → nodes k = n) (hp : Placed (hsh (2 * b.R + 1)) nodes tab n i) (h0 : tab.getD i 0 = 0)
    (hat : ArAt w4 b.p b.bn b.bu b.bt b.R (fun j => if j = k then n else nodes j) (fun j => if j = k then true else (c.at j).isSome) tab (cnt c)) (ho : Only b.mem w w4) :
    MkPost b c n w (.returned (.tuple #[.int .i64 ((k : Int) + 2), .nilIface])) ((w4.setCell ⟨b.bt, i, none⟩ (.int .i64 ((k : Int) + 2))).setCell ⟨b.p, 3, none⟩ (.int .i64 ((cnt c : Int) + 1))) := by
  have h1 : mkM c n = (c.set k (some n), (k : Int) + 2, 0) := by unfold mkM; rw [if_neg (by simp [hb]), hf, hr]
  obtain ⟨hk, hk0, _⟩ := freeM_some hr
  have hs : ∀ j, Cells.at (c.set k (some n)) j = if j = k then some n else c.at j := at_set _ hk
  unfold MkPost
  rw [h1]
  refine ⟨rfl, ⟨by simpa using hlen, hroom, hap, fun j => if j = k then n else nodes j, tab.set i ((k : Int) + 2), ?_, by simpa using htl, ?_, fun j m hj => ?_⟩, (ho.setCell (.inl (.inr (.inr (.inr rfl)))) _).setCell (.inl (.inl rfl)) _⟩
  · have h2 := (hat.setTab hap i ((k : Int) + 2)).setMany hap ((cnt c : Int) + 1)
    have e1 : (fun j => if j = k then true else (c.at j).isSome) = fun j => (Cells.at (c.set k (some n)) j).isSome := by
      funext j; rw [hs]; split <;> rfl
    have e2 : ((cnt (c.set k (some n)) : Nat) : Int) = (cnt c : Int) + 1 := by rw [cnt_set hk hk0]; omega
    rw [e1] at h2
    rw [e2]
    exact h2
  · refine (hto.insert hp h0 (by rw [hk0]; simp) (nodes' := fun j => if j = k then n else nodes j) (fun j hj => ?_) (by simp)).congr (fun j => ?_) (fun j _ => rfl)
    · have : j ≠ k := fun e => by subst e; rw [hk0] at hj; cases hj
      simp only [if_neg this]
    · rw [hs]
      split
      · rename_i e; simp [e]
      · rename_i e; simp [e]
  · rw [hs] at hj
    split at hj
    · rename_i e; cases hj; simp [e]
    · rename_i e; simp only [if_neg e]; exact hag j m hj

set_option maxRecDepth 100000 in
set_option maxHeartbeats 4000000 in
theorem make_order1 (v l h : Int) (w : World) (b : Bk) (c : Cells) (ha : IsArena w b c) (h1 : 0 ≤ v) (h2 : v < 24) (hl : l ≤ 9223372036854775807) (hh : h ≤ 9223372036854775807) (e1 : hasM c l = true) (e2 : hasM c h = true) (ht : topM c l ≤ v) :
    Calls Tryz.prog 28 #[.pointer (some ⟨b.p, 0, none⟩), .agg #[.int .i64 v, .int .i64 l, .int .i64 h]] w (MkPost b c (v, l, h) w) := by
  have Ha := Lib.hid ha; clear ha
  have hb : badM c (v, l, h) = 10 := by unfold badM; rw [if_neg (by simp; omega), if_neg (by simp [e1, e2]), if_pos (.inl ht)]
  have Hb := Lib.hid hb; clear hb
  have E1 := Lib.hid e1; clear e1
  have E2 := Lib.hid e2; clear e2
  obtain ⟨t, he⟩ : ∃ t, t = topM c l := ⟨_, rfl⟩
  rw [← he] at ht
  have He := Lib.hid he.symm; clear he
  go_enter Tryz.func28, Tryz.ntmps28
  go_wp2_with fail
  refine (ahas_any l _ b c (Ha.out.below ((Below.refl _ _).alloc (Nat.le_refl _) _)) hl).mono ?_
  rw [E1.out]
  rintro e w' ⟨rfl, rfl⟩
  go_wp2_with fail
  refine (ahas_any h _ b c (Ha.out.below ((Below.refl _ _).alloc (Nat.le_refl _) _)) hh).mono ?_
  rw [E2.out]
  rintro e w' ⟨rfl, rfl⟩
  go_wp2_with fail
  have hs := boxS_start w b c v l h Ha.out
  generalize w.alloc (.cells #[.int .i64 v, .int .i64 l, .int .i64 h] 68) = wx at hs ⊢
  obtain ⟨s0, s1, s2, s3, s4, s5⟩ := hs
  refine wp_region_class (fun w' => w'.cell? ⟨w.heap.size, 0, none⟩ = some (.int .i64 v) ∧ w'.cell? ⟨w.heap.size, 1, none⟩ = some (.int .i64 l) ∧ w'.cell? ⟨w.heap.size, 2, none⟩ = some (.int .i64 h) ∧ IsArena w' b c ∧ Below w.heap.size w w' ∧ w.heap.size < w'.heap.size) (by kernel_rfl) (by kernel_rfl) ⟨s0, s1, s2, s3.below (Below.refl _ _).drew, s4.drew, s5⟩ ?_
  go_big_quiet_want
  go_big_quiet_op
  go_big_quiet_on
  go_big_quiet_want
  refine quiet_run (.pointer (some ⟨w.heap.size, 1, none⟩)) (fun w' hc => by go_simp) ?_
  simp [Act.put]
  go_big_quiet_on
  go_big_quiet_want
  refine quiet_run (.int .i64 l) (fun w' hc => by obtain ⟨c0, c1, c2, -⟩ := hc; go_simp) ?_
  simp [Act.put]
  go_big_quiet_on
  go_big_quiet_want
  refine quiet_call (.int .i64 t) 33 #[.pointer (some ⟨b.p, 0, none⟩), .int .i64 l] (fun w' => by go_simp) (fun w' hc => (top_any l w' b c hc.2.2.2.1 hl).mono fun e w2 he => ⟨by rw [← He.out]; exact he.1, boxS_step hc.1 hc.2.1 hc.2.2.1 hc.2.2.2.1 hc.2.2.2.2.1 hc.2.2.2.2.2 he.2⟩) ?_
  simp [Act.put]
  go_big_quiet_on
  go_big_quiet_want
  refine quiet_run (.pointer (some ⟨w.heap.size, 0, none⟩)) (fun w' hc => by go_simp) ?_
  simp [Act.put]
  go_big_quiet_on
  go_big_quiet_want
  refine quiet_run (.int .i64 v) (fun w' hc => by obtain ⟨c0, c1, c2, -⟩ := hc; go_simp) ?_
  simp [Act.put]
  go_big_quiet_on
  go_big_quiet_want
  refine quiet_run (.bool true) (fun w' hc => by go_simp) ?_
  simp [Act.put]
  go_big_quiet_on
  go_big_quiet_want
  go_big_quiet_op
  go_big_quiet_on
  go_big_quiet_skip
  go_big_quiet_skip
  go_big_quiet_skip
  go_big_quiet_skip
  go_big_quiet_skip
  go_big_quiet_skip
  go_big_quiet_skip
  go_big_quiet_want
  refine quiet_run (.bool true) (fun w' hc => by go_simp) ?_
  simp [Act.put]
  go_big_quiet_on
  go_big_quiet_want
  go_big_quiet_op
  go_big_quiet_on
  refine wpQuiet_nil ?_
  rintro w1 ⟨s0', s1', s2', s3', s4', s5'⟩
  go_wp2_with fail
  go_ret2
  exact mk_bad 10 Hb.out (by decide) Ha.out s4' _ rfl

set_option maxRecDepth 100000 in
set_option maxHeartbeats 4000000 in
theorem make_order2 (v l h : Int) (w : World) (b : Bk) (c : Cells) (ha : IsArena w b c) (h1 : 0 ≤ v) (h2 : v < 24) (hl : l ≤ 9223372036854775807) (hh : h ≤ 9223372036854775807) (e1 : hasM c l = true) (e2 : hasM c h = true) (ht : v < topM c l) (hu : topM c h ≤ v) :
    Calls Tryz.prog 28 #[.pointer (some ⟨b.p, 0, none⟩), .agg #[.int .i64 v, .int .i64 l, .int .i64 h]] w (MkPost b c (v, l, h) w) := by
  have Ha := Lib.hid ha; clear ha
  have hb : badM c (v, l, h) = 10 := by unfold badM; rw [if_neg (by simp; omega), if_neg (by simp [e1, e2]), if_pos (.inr hu)]
  have Hb := Lib.hid hb; clear hb
  have E1 := Lib.hid e1; clear e1
  have E2 := Lib.hid e2; clear e2
  obtain ⟨t, he⟩ : ∃ t, t = topM c l := ⟨_, rfl⟩
  rw [← he] at ht
  have He := Lib.hid he.symm; clear he
  obtain ⟨u, hf⟩ : ∃ u, u = topM c h := ⟨_, rfl⟩
  rw [← hf] at hu
  have Hf := Lib.hid hf.symm; clear hf
  go_enter Tryz.func28, Tryz.ntmps28
  go_wp2_with fail
  refine (ahas_any l _ b c (Ha.out.below ((Below.refl _ _).alloc (Nat.le_refl _) _)) hl).mono ?_
  rw [E1.out]
  rintro e w' ⟨rfl, rfl⟩
  go_wp2_with fail
  refine (ahas_any h _ b c (Ha.out.below ((Below.refl _ _).alloc (Nat.le_refl _) _)) hh).mono ?_
  rw [E2.out]
  rintro e w' ⟨rfl, rfl⟩
  go_wp2_with fail
  have hs := boxS_start w b c v l h Ha.out
  generalize w.alloc (.cells #[.int .i64 v, .int .i64 l, .int .i64 h] 68) = wx at hs ⊢
  obtain ⟨s0, s1, s2, s3, s4, s5⟩ := hs
  refine wp_region_class (fun w' => w'.cell? ⟨w.heap.size, 0, none⟩ = some (.int .i64 v) ∧ w'.cell? ⟨w.heap.size, 1, none⟩ = some (.int .i64 l) ∧ w'.cell? ⟨w.heap.size, 2, none⟩ = some (.int .i64 h) ∧ IsArena w' b c ∧ Below w.heap.size w w' ∧ w.heap.size < w'.heap.size) (by kernel_rfl) (by kernel_rfl) ⟨s0, s1, s2, s3.below (Below.refl _ _).drew, s4.drew, s5⟩ ?_
  go_big_quiet_want
  go_big_quiet_op
  go_big_quiet_on
  go_big_quiet_want
  refine quiet_run (.pointer (some ⟨w.heap.size, 1, none⟩)) (fun w' hc => by go_simp) ?_
  simp [Act.put]
  go_big_quiet_on
  go_big_quiet_want
  refine quiet_run (.int .i64 l) (fun w' hc => by obtain ⟨c0, c1, c2, -⟩ := hc; go_simp) ?_
  simp [Act.put]
  go_big_quiet_on
  go_big_quiet_want
  refine quiet_call (.int .i64 t) 33 #[.pointer (some ⟨b.p, 0, none⟩), .int .i64 l] (fun w' => by go_simp) (fun w' hc => (top_any l w' b c hc.2.2.2.1 hl).mono fun e w2 he => ⟨by rw [← He.out]; exact he.1, boxS_step hc.1 hc.2.1 hc.2.2.1 hc.2.2.2.1 hc.2.2.2.2.1 hc.2.2.2.2.2 he.2⟩) ?_
  simp [Act.put]
  go_big_quiet_on
  go_big_quiet_want
  refine quiet_run (.pointer (some ⟨w.heap.size, 0, none⟩)) (fun w' hc => by go_simp) ?_
  simp [Act.put]
  go_big_quiet_on
  go_big_quiet_want
  refine quiet_run (.int .i64 v) (fun w' hc => by obtain ⟨c0, c1, c2, -⟩ := hc; go_simp) ?_
  simp [Act.put]
  go_big_quiet_on
  go_big_quiet_want
  refine quiet_run (.bool false) (fun w' hc => by go_simp) ?_
  simp [Act.put]
  go_big_quiet_on
  go_big_quiet_want
  go_big_quiet_op
  go_big_quiet_on
  go_big_quiet_want
  go_big_quiet_op
  go_big_quiet_on
  go_big_quiet_want
  refine quiet_run (.pointer (some ⟨w.heap.size, 2, none⟩)) (fun w' hc => by go_simp) ?_
  simp [Act.put]
  go_big_quiet_on
  go_big_quiet_want
  refine quiet_run (.int .i64 h) (fun w' hc => by obtain ⟨c0, c1, c2, -⟩ := hc; go_simp) ?_
  simp [Act.put]
  go_big_quiet_on
  go_big_quiet_want
  refine quiet_call (.int .i64 u) 33 #[.pointer (some ⟨b.p, 0, none⟩), .int .i64 h] (fun w' => by go_simp) (fun w' hc => (top_any h w' b c hc.2.2.2.1 hh).mono fun e w2 he => ⟨by rw [← Hf.out]; exact he.1, boxS_step hc.1 hc.2.1 hc.2.2.1 hc.2.2.2.1 hc.2.2.2.2.1 hc.2.2.2.2.2 he.2⟩) ?_
  simp [Act.put]
  go_big_quiet_on
  go_big_quiet_want
  refine quiet_run (.pointer (some ⟨w.heap.size, 0, none⟩)) (fun w' hc => by go_simp) ?_
  simp [Act.put]
  go_big_quiet_on
  go_big_quiet_want
  refine quiet_run (.int .i64 v) (fun w' hc => by obtain ⟨c0, c1, c2, -⟩ := hc; go_simp) ?_
  simp [Act.put]
  go_big_quiet_on
  go_big_quiet_want
  refine quiet_run (.bool true) (fun w' hc => by go_simp) ?_
  simp [Act.put]
  go_big_quiet_on
  go_big_quiet_want
  refine quiet_run (.bool true) (fun w' hc => by go_simp) ?_
  simp [Act.put]
  go_big_quiet_on
  go_big_quiet_want
  go_big_quiet_op
  go_big_quiet_on
  refine wpQuiet_nil ?_
  rintro w1 ⟨s0', s1', s2', s3', s4', s5'⟩
  go_wp2_with fail
  go_ret2
  exact mk_bad 10 Hb.out (by decide) Ha.out s4' _ rfl

set_option maxRecDepth 100000 in
set_option maxHeartbeats 4000000 in
theorem make_ok (v l h : Int) (w : World) (b : Bk) (c : Cells) (ha : IsArena w b c) (h1 : 0 ≤ v) (h2 : v < 24) (hl : l ≤ 9223372036854775807) (hh : h ≤ 9223372036854775807) (e1 : hasM c l = true) (e2 : hasM c h = true) (ht : v < topM c l) (hu : v < topM c h) :
    Calls Tryz.prog 28 #[.pointer (some ⟨b.p, 0, none⟩), .agg #[.int .i64 v, .int .i64 l, .int .i64 h]] w (MkPost b c (v, l, h) w) := by
  have Ha := Lib.hid ha; clear ha
  have hb : badM c (v, l, h) = 0 := badM_zero h1 h2 e1 e2 ht hu
  have Hb := Lib.hid hb; clear hb
  have E1 := Lib.hid e1; clear e1
  have E2 := Lib.hid e2; clear e2
  obtain ⟨t, he⟩ : ∃ t, t = topM c l := ⟨_, rfl⟩
  rw [← he] at ht
  have He := Lib.hid he.symm; clear he
  obtain ⟨u, hf⟩ : ∃ u, u = topM c h := ⟨_, rfl⟩
  rw [← hf] at hu
  have Hf := Lib.hid hf.symm; clear hf
  go_enter Tryz.func28, Tryz.ntmps28
  go_wp2_with fail
  refine (ahas_any l _ b c (Ha.out.below ((Below.refl _ _).alloc (Nat.le_refl _) _)) hl).mono ?_
  rw [E1.out]
  rintro e w' ⟨rfl, rfl⟩
  go_wp2_with fail
  refine (ahas_any h _ b c (Ha.out.below ((Below.refl _ _).alloc (Nat.le_refl _) _)) hh).mono ?_
  rw [E2.out]
  rintro e w' ⟨rfl, rfl⟩
  go_wp2_with fail
  have hs := boxS_start w b c v l h Ha.out
  generalize w.alloc (.cells #[.int .i64 v, .int .i64 l, .int .i64 h] 68) = wx at hs ⊢
  obtain ⟨s0, s1, s2, s3, s4, s5⟩ := hs
  refine wp_region_class (fun w' => w'.cell? ⟨w.heap.size, 0, none⟩ = some (.int .i64 v) ∧ w'.cell? ⟨w.heap.size, 1, none⟩ = some (.int .i64 l) ∧ w'.cell? ⟨w.heap.size, 2, none⟩ = some (.int .i64 h) ∧ IsArena w' b c ∧ Below w.heap.size w w' ∧ w.heap.size < w'.heap.size) (by kernel_rfl) (by kernel_rfl) ⟨s0, s1, s2, s3.below (Below.refl _ _).drew, s4.drew, s5⟩ ?_
  go_big_quiet_want
  go_big_quiet_op
  go_big_quiet_on
  go_big_quiet_want
  refine quiet_run (.pointer (some ⟨w.heap.size, 1, none⟩)) (fun w' hc => by go_simp) ?_
  simp [Act.put]
  go_big_quiet_on
  go_big_quiet_want
  refine quiet_run (.int .i64 l) (fun w' hc => by obtain ⟨c0, c1, c2, -⟩ := hc; go_simp) ?_
  simp [Act.put]
  go_big_quiet_on
  go_big_quiet_want
  refine quiet_call (.int .i64 t) 33 #[.pointer (some ⟨b.p, 0, none⟩), .int .i64 l] (fun w' => by go_simp) (fun w' hc => (top_any l w' b c hc.2.2.2.1 hl).mono fun e w2 he => ⟨by rw [← He.out]; exact he.1, boxS_step hc.1 hc.2.1 hc.2.2.1 hc.2.2.2.1 hc.2.2.2.2.1 hc.2.2.2.2.2 he.2⟩) ?_
  simp [Act.put]
  go_big_quiet_on
  go_big_quiet_want
  refine quiet_run (.pointer (some ⟨w.heap.size, 0, none⟩)) (fun w' hc => by go_simp) ?_
  simp [Act.put]
  go_big_quiet_on
  go_big_quiet_want
  refine quiet_run (.int .i64 v) (fun w' hc => by obtain ⟨c0, c1, c2, -⟩ := hc; go_simp) ?_
  simp [Act.put]
  go_big_quiet_on
  go_big_quiet_want
  refine quiet_run (.bool false) (fun w' hc => by go_simp) ?_
  simp [Act.put]
  go_big_quiet_on
  go_big_quiet_want
  go_big_quiet_op
  go_big_quiet_on
  go_big_quiet_want
  go_big_quiet_op
  go_big_quiet_on
  go_big_quiet_want
  refine quiet_run (.pointer (some ⟨w.heap.size, 2, none⟩)) (fun w' hc => by go_simp) ?_
  simp [Act.put]
  go_big_quiet_on
  go_big_quiet_want
  refine quiet_run (.int .i64 h) (fun w' hc => by obtain ⟨c0, c1, c2, -⟩ := hc; go_simp) ?_
  simp [Act.put]
  go_big_quiet_on
  go_big_quiet_want
  refine quiet_call (.int .i64 u) 33 #[.pointer (some ⟨b.p, 0, none⟩), .int .i64 h] (fun w' => by go_simp) (fun w' hc => (top_any h w' b c hc.2.2.2.1 hh).mono fun e w2 he => ⟨by rw [← Hf.out]; exact he.1, boxS_step hc.1 hc.2.1 hc.2.2.1 hc.2.2.2.1 hc.2.2.2.2.1 hc.2.2.2.2.2 he.2⟩) ?_
  simp [Act.put]
  go_big_quiet_on
  go_big_quiet_want
  refine quiet_run (.pointer (some ⟨w.heap.size, 0, none⟩)) (fun w' hc => by go_simp) ?_
  simp [Act.put]
  go_big_quiet_on
  go_big_quiet_want
  refine quiet_run (.int .i64 v) (fun w' hc => by obtain ⟨c0, c1, c2, -⟩ := hc; go_simp) ?_
  simp [Act.put]
  go_big_quiet_on
  go_big_quiet_want
  refine quiet_run (.bool false) (fun w' hc => by go_simp) ?_
  simp [Act.put]
  go_big_quiet_on
  go_big_quiet_want
  refine quiet_run (.bool false) (fun w' hc => by go_simp) ?_
  simp [Act.put]
  go_big_quiet_on
  go_big_quiet_want
  go_big_quiet_op
  go_big_quiet_on
  refine wpQuiet_nil ?_
  rintro w1 ⟨s0', s1', s2', s3', s4', s5'⟩
  obtain ⟨hlen, hroom, hap, nodes, tab, hat, htl, hto, hag⟩ := s3'
  have hS : ∀ k, (c.at k).isSome = true → k < b.R := fun k hk => by obtain ⟨m, hm⟩ := Option.isSome_iff_exists.1 hk; rw [← hlen]; exact at_lt hm
  have hpl := place_any (v, l, h) w1 b nodes _ tab _ _ hat hroom.2 htl hto hS
  unfold encNd at hpl
  dsimp only at hpl
  have Hpl := Lib.hid hpl; clear hpl
  have Hat := Lib.hid hat; have Htl := Lib.hid htl; have Hto := Lib.hid hto; have Hag := Lib.hid hag; have HS := Lib.hid hS; have Hlen := Lib.hid hlen
  clear hat htl hto hag hS hlen
  have S4 := Lib.hid s4'; clear s4'
  go_wp2_with fail
  refine Hpl.out.mono ?_
  rintro e w2 ⟨⟨i, rfl, hp⟩, hb2⟩
  have hi1 := hp.lt
  rw [Htl.out] at hi1
  have Hp := Lib.hid hp; clear hp
  have Hb2 := Lib.hid hb2; clear hb2
  have hat2 := Hat.out.below Hb2.out
  have f2 := hat2.f2
  rw [Htl.out] at f2
  have f1 := hat2.f1
  have ft := hat2.t Hp.out.lt
  obtain ⟨x, hx⟩ : ∃ x, x = tab.getD i 0 := ⟨_, rfl⟩
  rw [← hx] at ft
  have Hx := Lib.hid hx; clear hx
  have Hat2 := Lib.hid hat2; clear hat2
  have ha2 : IsArena w2 b c := ⟨Hlen.out, hroom, hap, nodes, tab, Hat2.out, Htl.out, Hto.out, Hag.out⟩
  have Ha2 := Lib.hid ha2; clear ha2
  have ho : Only b.mem w w2 := (Only.of_below S4.out rfl).trans (Only.of_below Hb2.out rfl)
  have Ho := Lib.hid ho; clear ho
  have hR := hroom.2
  by_cases x0 : x = 0
  · have e0 : (x != 0) = false := by simp [x0]
    have hfn : findM c (v, l, h) = none := mk_findM_none Hto.out Hag.out Hp.out (by rw [← Hx.out]; exact x0)
    have Hfn := Lib.hid hfn; clear hfn
    have X0 := Lib.hid x0; clear x0
    have hix := aindex_any w2 b c Ha2.out
    cases hfr : freeM c with
    | none =>
      have e1 : freeI c = -1 := by unfold freeI; rw [hfr]
      rw [e1] at hix
      have Hix := Lib.hid hix; clear hix
      have Hfr := Lib.hid hfr; clear hfr e1
      go_wp2_with fail
      refine Hix.out.mono ?_
      rintro e w3 ⟨rfl, rfl⟩
      go_wp2_with fail
      go_ret2
      exact mk_full Hb.out Hfn.out Hfr.out Ha2.out Ho.out
    | some k =>
      have e1 : freeI c = (k : Int) := by unfold freeI; rw [hfr]
      rw [e1] at hix
      have Hix := Lib.hid hix; clear hix
      have hk : k < b.R := by rw [← Hlen.out]; exact (freeM_some hfr).1
      have Hfr := Lib.hid hfr; clear hfr e1
      go_wp2_with fail
      refine Hix.out.mono ?_
      rintro e w3 ⟨rfl, rfl⟩
      have hk1 : (k : Int) < (b.R : Int) := by omega
      have f0 := Hat2.out.f0
      have f3 := Hat2.out.f3
      have n0 := Hat2.out.n0 hk
      have n1 := Hat2.out.n1 hk
      have n2 := Hat2.out.n2 hk
      have u0 := Hat2.out.u hk
      have z0 := Hat2.out.zn (k * 3)
      have z1 := Hat2.out.zn (k * 3 + 1)
      have z2 := Hat2.out.zn (k * 3 + 2)
      have z3 := Hat2.out.zu k
      have z4 := Hat2.out.zt i
      have z5 := Hat2.out.zp 3
      have q0 : w2.cell? ⟨w.heap.size, 0, none⟩ = some (.int .i64 v) := by rw [Hb2.out.cell s5']; exact s0'
      have q1 : w2.cell? ⟨w.heap.size, 1, none⟩ = some (.int .i64 l) := by rw [Hb2.out.cell s5']; exact s1'
      have q2 : w2.cell? ⟨w.heap.size, 2, none⟩ = some (.int .i64 h) := by rw [Hb2.out.cell s5']; exact s2'
      have a1 := hap.n1; have a2 := hap.n2; have a3 := hap.n3; have a4 := hap.n4; have a5 := hap.n5; have a6 := hap.n6
      have a1' := hap.n1.symm; have a2' := hap.n2.symm; have a3' := hap.n3.symm; have a4' := hap.n4.symm; have a5' := hap.n5.symm; have a6' := hap.n6.symm
      have lq : w.heap.size < w2.heap.size := Nat.lt_of_lt_of_le s5' Hb2.out.size
      go_wp2_with fail
      go_region
      have hat4 : ArAt ((((w2.setCell ⟨b.bn, k * 3, none⟩ (.int .i64 v)).setCell ⟨b.bn, k * 3 + 1, none⟩ (.int .i64 l)).setCell ⟨b.bn, k * 3 + 2, none⟩ (.int .i64 h)).setCell ⟨b.bu, k, none⟩ (.bool true)).drew b.p b.bn b.bu b.bt b.R
          (fun j => if j = k then (v, l, h) else nodes j) (fun j => if j = k then true else (c.at j).isSome) tab (cnt c) := ((Hat2.out.setNode hap hk (v, l, h)).setUsed hap hk true).below (Below.refl _ _).drew
      have ho4 : Only b.mem w ((((w2.setCell ⟨b.bn, k * 3, none⟩ (.int .i64 v)).setCell ⟨b.bn, k * 3 + 1, none⟩ (.int .i64 l)).setCell ⟨b.bn, k * 3 + 2, none⟩ (.int .i64 h)).setCell ⟨b.bu, k, none⟩ (.bool true)).drew :=
        ((((Ho.out.setCell (.inl (.inr (.inl rfl))) _).setCell (.inl (.inr (.inl rfl))) _).setCell (.inl (.inr (.inl rfl))) _).setCell (.inl (.inr (.inr (.inl rfl)))) _).drew
      clear f0 f1 f2 f3 n0 n1 n2 u0 z0 z1 z2 z3 z4 z5 q0 q1 q2 lq ft
      generalize ((((w2.setCell ⟨b.bn, k * 3, none⟩ (.int .i64 v)).setCell ⟨b.bn, k * 3 + 1, none⟩ (.int .i64 l)).setCell ⟨b.bn, k * 3 + 2, none⟩ (.int .i64 h)).setCell ⟨b.bu, k, none⟩ (.bool true)).drew = w4 at hat4 ho4 ⊢
      have g2 := hat4.f2
      rw [Htl.out] at g2
      have g3 := hat4.f3
      have gt := hat4.t Hp.out.lt
      rw [← Hx.out] at gt
      have z4 := hat4.zt i
      have z5 := hat4.zp 3
      have hcn : cnt c ≤ 4000 := Nat.le_trans (cnt_le c) (by rw [Hlen.out]; exact hR)
      have Hat4 := Lib.hid hat4; have Ho4 := Lib.hid ho4
      clear hat4 ho4
      go_wp2_with fail
      go_ret2
      exact mk_new Hb.out Hfn.out Hfr.out Hlen.out hroom hap Htl.out Hto.out Hag.out Hp.out (Hx.out.symm.trans X0.out) Hat4.out Ho4.out
  · have e0 : (x != 0) = true := by simpa using x0
    have hfn := mk_findM_some Hto.out Hag.out Hp.out (by rw [← Hx.out]; exact x0)
    have Hfn := Lib.hid hfn; clear hfn x0
    go_wp2_with fail
    go_ret2
    exact mk_found Hb.out Hfn.out Hx.out Ha2.out Ho.out

/-- Make. -/
theorem make_any (n : Nd) (w : World) (b : Bk) (c : Cells) (ha : IsArena w b c) (hl : n.2.1 ≤ 9223372036854775807) (hh : n.2.2 ≤ 9223372036854775807) :
    Calls Tryz.prog 28 #[.pointer (some ⟨b.p, 0, none⟩), encNd n] w (MkPost b c n w) := by
  obtain ⟨v, l, h⟩ := n
  by_cases h0 : v < 0 ∨ 24 ≤ v
  · exact make_range v l h w b c ha h0
  · by_cases h1 : hasM c l = false ∨ hasM c h = false
    · exact make_missing v l h w b c ha (by omega) (by omega) hl hh h1
    · simp only [not_or, Bool.not_eq_false] at h1
      by_cases h2 : topM c l ≤ v
      · exact make_order1 v l h w b c ha (by omega) (by omega) hl hh h1.1 h1.2 h2
      · by_cases h3 : topM c h ≤ v
        · exact make_order2 v l h w b c ha (by omega) (by omega) hl hh h1.1 h1.2 (by omega) h3
        · exact make_ok v l h w b c ha (by omega) (by omega) hl hh h1.1 h1.2 (by omega) (by omega)
end Go.Proofs.YthmflcmbaldflaaGreatDoor
namespace Go.Proofs.YthmflcmbaldflaaGreatDoor
open Go.RowKit

section
variable {P : Program} (w : World)
theorem run_append_where (base : Nat) (t ty e : TypeId) (i : TypeInfo) (z : Value) (size bytes : Nat) (ht : P.underlying t = some (.slice e)) (hi : P.info? e = some i) (hz : i.zero = some z)
    (hsize : i.size = size) (hby : i.bytes = bytes) (hzs : z.cells.size = size) (hsz : 0 < size)
    (v : Value) (n : Nat) (xs : List Value) (hown : w.ownsRow base e size v n xs)
    (a : Addr) (m c : Nat) (news : List Value) (hl : news.length = m * size) (hnews : ∀ j u, news[j]? = some u → w.cell? (a.add j) = some u) (h1 : ∀ u ∈ news, u.oneCell' = true)
    (h63 : n + m ≤ maxLen) (hbytes : (n + m) * bytes ≤ 140737488355328) (hbase : base ≤ w.heap.size) :
    ∃ v' w', (Builtin.append_ #[t, t] ty #[v, .slice (some a) m c]).run P w = .ok v' w' ∧ w'.ownsRow base e size v' (n + m) (xs ++ news) ∧ w.grownBy w' v.ownBlock ∧
      (v'.ownBlock = v.ownBlock ∨ v'.ownBlock = some w.heap.size) := by
  obtain ⟨v', w', hr, h2, h3, _⟩ := run_append_own (P := P) w base t ty e i z size bytes ht hi hz hsize hby hzs hsz v n xs hown a m c news hl hnews h1 h63 hbytes hbase
  refine ⟨v', w', hr, h2, h3, ?_⟩
  subst hsize; subst hby
  have hsmall : n + m ≤ 9223372036854775807 := by simp only [maxLen] at h63; omega
  rcases hown.2 with ⟨rfl, rfl⟩ | ⟨g, cap, cur, rfl, hbg, hg, hnc, hcm, hcs, htake⟩
  · by_cases hm : m = 0
    · subst hm
      have hx : xs = [] := List.eq_nil_of_length_eq_zero (by simpa using hown.1)
      have hn : news = [] := List.eq_nil_of_length_eq_zero (by simpa using hl)
      subst hn; subst hx
      rcases h2.2 with ⟨rfl, _⟩ | ⟨g, cap, cur, rfl, hbg, hg, _⟩
      · exact .inl rfl
      · have hr' : (Builtin.append_ #[t, t] ty #[.slice none 0 0, .slice (some a) 0 c]).run P w = .ok (.slice none 0 0) w := by
          simp [Builtin.append_, run_underlying ht, sizeOf, typeInfo, hi, Builtin.lenOf, Builtin.firstCells, loadCells, loadCellsFrom]
        rw [hr'] at hr
        cases hr
    · have hr' := Go.run_append_nil (P := P) w t ty e i z ht hi hz a m c news hl hnews (by omega) (by omega) (by have hb := hbytes; simp only [Nat.zero_add] at hb; omega)
      rw [hr'] at hr
      cases hr
      exact .inr rfl
  · by_cases hroom : n + m ≤ cap
    · have hfit : n * i.size + news.length ≤ cur.size := by rw [hl, hcs, ← Nat.add_mul]; exact Nat.mul_le_mul_right _ hroom
      have hr' := run_append_room (P := P) w t ty e i ht hi g n cap cur hg a m c news hl hnews h1 hroom hfit
      rw [hr'] at hr
      cases hr
      exact .inl rfl
    · have holds : ∀ j u, xs[j]? = some u → w.cell? ((⟨g, 0, none⟩ : Addr).add j) = some u := hown.cells (g := g) rfl
      have hr' := run_append_grow (P := P) w t ty e i z ht hi hz ⟨g, 0, none⟩ n cap xs hown.1 holds a m c news hl hnews (by omega) (by omega) (growslice_fits (by omega) hbytes)
      rw [hr'] at hr
      cases hr
      exact .inr rfl

theorem wpList_append_at {ops : Array Oper} {rest : List Oper} {o : Oper} {a : Act} {Q : Exit → Act → World → Prop} (hgd : o.guard = none) (s x : Operand) (t : TypeId)
    (ho : o.op = .call { callee := .builtin .append, args := #[s, x], argTypes := #[t, t] })
    (base : Nat) (e : TypeId) (i : TypeInfo) (z : Value) (size bytes : Nat) (ht : P.underlying t = some (.slice e)) (hi : P.info? e = some i) (hz : i.zero = some z)
    (hsize : i.size = size) (hby : i.bytes = bytes) (hzs : z.cells.size = size) (hsz : 0 < size)
    (v : Value) (n : Nat) (xs : List Value) (hs : a.eval s = v) (hown : w.ownsRow base e size v n xs)
    (ad : Addr) (m c : Nat) (news : List Value) (hx : a.eval x = .slice (some ad) m c) (hl : news.length = m * size) (hnews : ∀ j u, news[j]? = some u → w.cell? (ad.add j) = some u) (h1 : ∀ u ∈ news, u.oneCell' = true)
    (h63 : n + m ≤ maxLen) (hbytes : (n + m) * bytes ≤ 140737488355328) (hbase : base ≤ w.heap.size)
    (h : ∀ v' w', w'.ownsRow base e size v' (n + m) (xs ++ news) → w.grownBy w' v.ownBlock → (v'.ownBlock = v.ownBlock ∨ v'.ownBlock = some w.heap.size) → wpList P ops Q rest (a.put o.dst v') w') : wpList P ops Q (o :: rest) a w := by
  refine wpList_plain hgd fun K hK => ?_
  obtain ⟨v', w', hr, h2, h3, h4⟩ := run_append_where (P := P) w base t o.type e i z size bytes ht hi hz hsize hby hzs hsz v n xs hown ad m c news hl hnews h1 h63 hbytes hbase
  unfold Oper.wp execOp
  simp only [ho, resolve, invoke, builtin, Sem.run_bind, Sem.run_pure, Result.andThen_ok, List.map_toArray, List.map_cons, List.map_nil, hs, hx, hr]
  exact hK _ _ (h v' w' h2 h3 h4)
end
theorem owns_shape {w : World} {base e size : Nat} {v : Value} {n : Nat} {xs : List Value} (h : w.ownsRow base e size v n xs) : ∃ a c, v = .slice a n c := by
  rcases h.2 with ⟨rfl, rfl⟩ | ⟨g, cap, cur, rfl, _⟩
  · exact ⟨_, _, rfl⟩
  · exact ⟨_, _, rfl⟩
theorem cell_new_at (W : World) (u : Value) (e : TypeId) (k : Nat) (hk : k = W.heap.size) : ∀ (j : Nat) (u' : Value), [u][j]? = some u' → (W.alloc (.cells #[u] e)).cell? ((⟨k, 0, none⟩ : Addr).add j) = some u' := by
  subst hk; exact cell_one_new _ _ _
end Go.Proofs.YthmflcmbaldflaaGreatDoor
namespace Go.Proofs.YthmflcmbaldflaaGreatDoor
open Go.RowKit
set_option linter.unusedVariables false

/-- An owned row of integers is a slice of integers. -/
theorem isInts_of_ownsA {w : World} {base e : Nat} {v : Value} {n : Nat} {xs : List Int} (h : w.ownsRow base e 1 v n (xs.map (Value.int .i64))) (hl : xs.length ≤ 17592186044416) : IsInts w v xs := by
  obtain ⟨h1, h2⟩ := h
  have hn : n = xs.length := by simp at h1; omega
  subst hn
  rcases h2 with ⟨rfl, h3⟩ | ⟨g, cap, cur, rfl, hg, hh, h3, h4, h5, h6⟩
  · have e : xs = [] := List.eq_nil_of_length_eq_zero h3
    subst e
    exact ⟨none, 0, 0, 0, rfl, fun h => absurd rfl h, Nat.le_refl _, Nat.zero_le _, fun i hi => absurd hi (by simp), fun h => absurd rfl h, Nat.zero_le _⟩
  · refine ⟨_, g, 0, cap, rfl, fun _ => rfl, h3, h4, fun i hi => ?_, fun _ => (Array.getElem?_eq_some_iff.1 hh).1, hl⟩
    rw [cell_of_row w g (0 + i) cur e (0, 0) hh, Nat.zero_add]
    have h7 : (cur.toList.take (xs.length * 1))[i]? = some (.int .i64 xs[i]) := by rw [h6]; simp [hi]
    rw [List.getElem?_take] at h7
    have e2 : xs.getD i 0 = xs[i] := by simp [hi]
    rw [e2]
    split at h7
    · simpa using h7
    · cases h7
/-- The first of an owned row. -/
theorem owns_takeA {w : World} {base e : Nat} {a : Option Addr} {n c : Nat} {xs : List Value} (h : w.ownsRow base e 1 (.slice a n c) n xs) {k : Nat} (hk : k ≤ n) : w.ownsRow base e 1 (.slice a k c) k (xs.take k) := by
  obtain ⟨h1, h2⟩ := h
  refine ⟨by rw [List.length_take]; omega, ?_⟩
  rcases h2 with ⟨e, h3⟩ | ⟨g, cap, cur, e, hg, hh, h3, h4, h5, h6⟩
  · cases e
    have : k = 0 := by omega
    subst this
    exact .inl ⟨rfl, rfl⟩
  · cases e
    refine .inr ⟨g, c, cur, rfl, hg, hh, by omega, h4, h5, ?_⟩
    rw [← h6, List.take_take, Nat.min_eq_left (by omega)]
    simp

theorem ints_cells {w : World} {a : Option Addr} {n c : Nat} {xs : List Int} (h : IsInts w (.slice a n c) xs) : ∀ ad, a = some ad → ∀ j u, (xs.map (Value.int .i64))[j]? = some u → w.cell? (ad.add j) = some u := by
  obtain ⟨a', b, o, c', hh, h2, _, _, h5, _⟩ := h
  cases hh
  intro ad had j u hu
  rw [List.getElem?_map] at hu
  obtain ⟨x, hx, rfl⟩ := Option.map_eq_some_iff.1 hu
  obtain ⟨hj, rfl⟩ := List.getElem?_eq_some_iff.1 hx
  rw [h2 (by intro e; subst e; simp at hj)] at had
  cases had
  have := h5 j hj
  rw [getD_at _ _ hj] at this
  unfold Addr.add
  split
  · subst j; simpa using this
  · exact this

set_option maxHeartbeats 1000000 in
/-- slices.Clone of integers. -/
theorem cloneI_any (v : Value) (xs : List Int) (w : World) (hv : IsInts w v xs) (hlen : xs.length ≤ 1000000) :
    Calls Tryz.prog 60 #[v] w fun e w' => (∃ v', e = .returned v' ∧ w'.ownsRow w.heap.size 3 1 v' xs.length (xs.map (Value.int .i64))) ∧ Below w.heap.size w w' := by
  obtain ⟨a, c, rfl, hl, hm, _⟩ := hv.shape
  have hcells := ints_cells hv
  have heq := fun (W : World) n c => Lib.run_eql_slice_nil (P := Tryz.prog) W 24 3 a n c 0 0 Tryz.underlying24
  obtain ⟨i0, hi, hz0, hz1, hz2⟩ := info_parts infoIntA
  cases a with
  | none =>
    have e : xs = [] := by
      cases xs with
      | nil => rfl
      | cons x l => obtain ⟨b, o, h, _⟩ := hv.addr (k := 0) (by simp); cases h
    subst e
    go_enter Tryz.func60, Tryz.ntmps60
    go_wp2
    go_ret
    exact ⟨⟨_, rfl, World.ownsRow_nil _ _ _ _⟩, Below.refl _ _⟩
  | some ad =>
    have hal : Below w.heap.size w (w.alloc (.cells #[] 3)) := (Below.refl _ _).alloc (Nat.le_refl _) _
    have hcells' := fun j u (h : (xs.map (Value.int .i64))[j]? = some u) => (World.cell?_of_block (hal.block (ad.add j).block (World.block_lt_of_cell? _ _ (hcells ad rfl j u h)))).trans (hcells ad rfl j u h)
    have Hal := Lib.hid hal; clear hal
    have Hv := Lib.hid hv; clear hv
    have Hc := Lib.hid hcells'; clear hcells hcells'
    go_enter Tryz.func60, Tryz.ntmps60
    go_wp2_with (at_builtin; refine wpList_append_own _ rfl _ _ 24 rfl w.heap.size 3 i0 (.int .i64 0) 1 8 Tryz.underlying24 hi hz0 hz1 hz2 rfl (by decide) _ _ _ rfl (World.ownsRow_made w #[] 0 (Nat.le_refl _) (Nat.zero_le _) rfl) ad _ _ (xs.map (Value.int .i64)) rfl (by simp) Hc.out (ints_oneCell _ _) (by simp only [maxLen]; omega) (by omega) (by simp) ?_; intro v' w1 hown hgrow _; have Hown := Lib.hid hown; have Hgrow := Lib.hid hgrow; clear hown hgrow)
    go_ret
    have hb : Below w.heap.size w w1 := Hal.out.grown Hgrow.out (by simp) (fun k hk => by cases hk; exact Nat.le_refl _)
    refine ⟨⟨v', rfl, ?_⟩, hb⟩
    have := Hown.out
    rw [Nat.zero_add, List.nil_append] at this
    exact this
end Go.Proofs.YthmflcmbaldflaaGreatDoor
namespace Go.Proofs.YthmflcmbaldflaaGreatDoor
open Go.RowKit
set_option linter.unusedVariables false

/-- How many are not seen yet. -/
def unseen (R : Nat) (seen : Nat → Bool) : Nat := (List.range R).countP fun k => !seen k
def mark (seen : Nat → Bool) (k0 : Nat) : Nat → Bool := fun k => if k = k0 then true else seen k
theorem unseen_mark {seen : Nat → Bool} {k0 : Nat} (h0 : seen k0 = false) : ∀ {R : Nat}, k0 < R → unseen R (mark seen k0) + 1 = unseen R seen
  | 0, h => absurd h (Nat.not_lt_zero _)
  | R + 1, h => by
    have key : ∀ R, R ≤ k0 → unseen R (mark seen k0) = unseen R seen := by
      intro R hR
      unfold unseen
      apply List.countP_congr
      intro k hk
      rw [List.mem_range] at hk
      simp [mark, show k ≠ k0 by omega]
    unfold unseen
    rw [List.range_succ, List.countP_append, List.countP_append]
    by_cases e : k0 = R
    · subst e
      have := key k0 (Nat.le_refl _)
      unfold unseen at this
      rw [this]
      simp [mark, h0]
    · have := unseen_mark (R := R) h0 (by omega)
      unfold unseen at this
      simp only [List.countP_cons, List.countP_nil, mark, if_neg (fun e2 : R = k0 => e e2.symm)]
      unfold mark at this
      omega
theorem unseen_all (R : Nat) : unseen R (fun _ => false) = R := by
  unfold unseen
  rw [List.countP_eq_length.2 (by simp)]; simp

/-- Reach on its way: what was seen, what is to do. -/
structure RSt (w wr : World) (R : Nat) (seen : Nat → Bool) (T : List Int) (v : Value) : Prop where
  below : Below w.heap.size w wr
  size : w.heap.size < wr.heap.size
  blk : ∃ cs : Array Value, wr.heap[w.heap.size]? = some (.cells cs 4 (0, 0)) ∧ cs.size = R ∧ ∀ k, k < R → cs[k]? = some (.bool (seen k))
  own : wr.ownsRow (w.heap.size + 1) 3 1 v T.length (T.map (Value.int .i64))

section
variable {w wr w2 : World} {R : Nat} {seen : Nat → Bool} {T : List Int} {v : Value}
theorem RSt.grow (h : RSt w wr R seen T v) (hb : Below wr.heap.size wr w2) : RSt w w2 R seen T v := by
  obtain ⟨cs, h1, h2⟩ := h.blk
  exact ⟨h.below.trans (hb.mono h.below.size), Nat.lt_of_lt_of_le h.size hb.size, ⟨cs, by rw [hb.block _ h.size]; exact h1, h2⟩, ownsRow_below h.own hb⟩
theorem RSt.cell (h : RSt w wr R seen T v) {k : Nat} (hk : k < R) : wr.cell? ⟨w.heap.size, k, none⟩ = some (.bool (seen k)) := by
  obtain ⟨cs, h1, h2, h3⟩ := h.blk
  rw [cell_of_row wr _ _ _ _ _ h1]; exact h3 k hk
theorem RSt.free (h : RSt w wr R seen T v) (k : Nat) : wr.frozen? ⟨w.heap.size, k, none⟩ = false := by
  obtain ⟨cs, h1, h2, h3⟩ := h.blk
  exact not_frozen h1
theorem RSt.mark (h : RSt w wr R seen T v) (k0 : Nat) : RSt w (wr.setCell ⟨w.heap.size, k0, none⟩ (.bool true)) R (mark seen k0) T v := by
  obtain ⟨cs, h1, h2, h3⟩ := h.blk
  refine ⟨h.below.setCell (Nat.le_refl _) _, by simpa using h.size, ⟨_, heap_setA h1 _ _, by simpa using h2, fun k hk => ?_⟩, ownsRow_setCell_below h.own (by show w.heap.size < _; omega) _⟩
  rw [Array.getElem?_setIfInBounds]
  unfold Go.Proofs.YthmflcmbaldflaaGreatDoor.mark
  by_cases e : k = k0
  · subst e; rw [if_pos rfl, if_pos (by omega)]; simp
  · rw [if_neg (fun e2 => e e2.symm)]; simp only [if_neg e]; exact h3 k hk
theorem RSt.last {x : Int} (h : RSt w wr R seen (T ++ [x]) v) : ∃ g cap, v = .slice (some ⟨g, 0, none⟩) (T.length + 1) cap ∧ wr.cell? ⟨g, T.length, none⟩ = some (.int .i64 x) ∧ RSt w wr R seen T (.slice (some ⟨g, 0, none⟩) T.length cap) ∧ T.length + 1 ≤ cap ∧ cap ≤ maxLen ∧ w.heap.size < g ∧ g < wr.heap.size := by
  have ho := h.own
  rw [List.length_append, List.length_singleton] at ho
  have ho' := ho
  rcases ho.2 with ⟨rfl, e⟩ | ⟨g, cap, cur, rfl, hg, hh, h3, h4, h5, h6⟩
  · omega
  · refine ⟨g, cap, rfl, ?_, ⟨h.below, h.size, h.blk, ?_⟩, h3, h4, by omega, (Array.getElem?_eq_some_iff.1 hh).1⟩
    · rw [ho.cellAt _ (by omega)]; simp
    · have := owns_takeA ho' (k := T.length) (by omega)
      rw [List.map_append, List.take_left' (by simp)] at this
      exact this
theorem RSt.push (h : RSt w wr R seen T v) {l x : Int} {v' : Value} (ho : w2.ownsRow (w.heap.size + 1) 3 1 v' (T.length + 2) (T.map (Value.int .i64) ++ [.int .i64 l, .int .i64 x]))
    (hg : (wr.alloc (.cells #[.int .i64 l, .int .i64 x] 3)).grownBy w2 v.ownBlock) : RSt w w2 R seen (T ++ [l, x]) v' := by
  have hv : ∀ k, v.ownBlock = some k → w.heap.size + 1 ≤ k := fun k hk => (h.own.lt k hk).1
  have h1 := h.grow (w2 := wr.alloc (.cells #[.int .i64 l, .int .i64 x] 3)) ((Below.refl _ _).alloc (Nat.le_refl _) _)
  have h2 : Below (w.heap.size + 1) (wr.alloc (.cells #[.int .i64 l, .int .i64 x] 3)) w2 := (Below.refl _ _).grown hg h1.size hv
  obtain ⟨cs, g1, g2⟩ := h1.blk
  exact ⟨h1.below.trans (h2.mono (by omega)), Nat.lt_of_lt_of_le h1.size h2.size, ⟨cs, by rw [h2.block _ (by omega)]; exact g1, g2⟩, by simpa using ho⟩
end

theorem rst_start {w w2 : World} {R : Nat} {v : Value} {xs : List Int} (ho : w2.ownsRow (w.heap.size + 1) 3 1 v xs.length (xs.map (Value.int .i64))) (hb : Below (w.heap.size + 1) (w.alloc (.cells (madeCells #[.bool false] R) 4)) w2) : RSt w w2 R (fun _ => false) xs v := by
  refine ⟨((Below.refl _ _).alloc (Nat.le_refl _) _).trans (hb.mono (by omega)), by have := hb.size; simp at this; omega, ⟨madeCells #[.bool false] R, ?_, size_madeCells _ _, fun k hk => ?_⟩, ho⟩
  · rw [hb.block _ (by omega)]; exact heap_at rfl
  · rw [← Array.getElem?_toList, toList_madeCells_one]; simp [hk]

/-- What the search keeps, over an arena. -/
def RIn (c : Cells) (start : List Int) (seen : Nat → Bool) (T : List Int) : Prop := RInv (fun k => (c.at k).getD (0, 0, 0)) (fun k => (c.at k).isSome = true) start (fun k => seen k = true) T
theorem rin_start (c : Cells) (start : List Int) : RIn c start (fun _ => false) start := by
  unfold RIn
  have : (fun k : Nat => ((fun _ => false) k : Bool) = true) = fun _ : Nat => False := by funext k; simp
  rw [this]
  exact rinv_start _ _ _
theorem RIn.skip {c : Cells} {start T : List Int} {seen : Nat → Bool} {x : Int} (r : RIn c start seen (T ++ [x])) (hx : ∀ k n, x = ((k : Nat) : Int) + 2 → c.at k = some n → seen k = true) : RIn c start seen T :=
  RInv.skip r (fun k e hu => by obtain ⟨n, hn⟩ := Option.isSome_iff_exists.1 hu; exact hx k n e hn)
theorem RIn.see {c : Cells} {start T : List Int} {seen : Nat → Bool} {k0 : Nat} {n : Nd} (r : RIn c start seen (T ++ [(k0 : Int) + 2])) (hn : c.at k0 = some n) : RIn c start (mark seen k0) (T ++ [n.2.1, n.2.2]) := by
  have h := RInv.see r (by rw [hn]; rfl)
  simp only [hn, Option.getD_some] at h
  unfold RIn
  have : (fun k : Nat => mark seen k0 k = true) = fun k => seen k = true ∨ k = k0 := by
    funext k; unfold mark; split <;> simp [*]
  rw [this]
  exact h
theorem RIn.done {c : Cells} {start : List Int} {seen : Nat → Bool} (r : RIn c start seen []) (k : Nat) : seen k = true ↔ RchC c start k := RInv.done r k

theorem cells_new_at (W : World) (us : List Value) (e : TypeId) (k : Nat) (hk : k = W.heap.size) : ∀ (j : Nat) (u : Value), us[j]? = some u → (W.alloc (.cells us.toArray e)).cell? ((⟨k, 0, none⟩ : Addr).add j) = some u := by
  subst hk
  intro j u hu
  have : (⟨W.heap.size, 0, none⟩ : Addr).add j = ⟨W.heap.size, j, none⟩ := by
    unfold Addr.add; split
    · subst j; rfl
    · simp
  rw [this, World.cell?_alloc_new]
  simpa using hu

/-- What was seen, as handles. -/
def outL (seen : Nat → Bool) (k : Nat) : List Int := ((List.range k).filter seen).map fun j : Nat => (j : Int) + 2
theorem outL_len (seen : Nat → Bool) (k : Nat) : (outL seen k).length ≤ k := by
  unfold outL; rw [List.length_map]; exact Nat.le_trans (List.length_filter_le _ _) (by simp)
theorem outL_no {seen : Nat → Bool} {k : Nat} (h : seen k = false) : outL seen (k + 1) = outL seen k := by
  unfold outL; rw [List.range_succ, List.filter_append]; simp [h]
theorem outL_yes {seen : Nat → Bool} {k : Nat} (h : seen k = true) : outL seen (k + 1) = outL seen k ++ [(k : Int) + 2] := by
  unfold outL; rw [List.range_succ, List.filter_append]; simp [h]
theorem reach_out {c : Cells} {start : List Int} {seen : Nat → Bool} {R : Nat} (hR : c.length = R) (r : RIn c start seen []) : reachM c start = outL seen R := by
  classical
  unfold reachM outL
  rw [hR]
  congr 1
  apply List.filter_congr
  intro k _
  cases hs : seen k
  · exact decide_eq_false (fun h => by rw [(r.done k).2 h] at hs; cases hs)
  · exact decide_eq_true ((r.done k).1 hs)

set_option maxRecDepth 100000 in
set_option maxHeartbeats 4000000 in
theorem reach_any (vs : Value) (start : List Int) (w : World) (b : Bk) (c : Cells) (ha : IsArena w b c) (hok : Ok c) (hv : IsInts w vs start) (hlen : start.length ≤ 100000) (hmax : ∀ x ∈ start, x ≤ 9223372036854775807) :
    Calls Tryz.prog 34 #[.pointer (some ⟨b.p, 0, none⟩), vs] w fun e w' => (∃ v', e = .returned v' ∧ IsInts w' v' (reachM c start) ∧ ∀ g, v'.ownBlock = some g → w.heap.size ≤ g) ∧ Below w.heap.size w w' := by
  obtain ⟨av, cv, rfl, hvl, hvm, _⟩ := hv.shape
  have hR := ha.room.2
  have lp : b.p < w.heap.size := ha.lt (.inl rfl)
  have f0 : w.cell? ⟨b.p, 0, none⟩ = some (.slice (some ⟨b.bn, 0, none⟩) b.R b.R) := by obtain ⟨_, _, hat, -⟩ := ha.mem; exact hat.f0
  have hm2 := run_make_row' (P := Tryz.prog) 90 4 (.bool false) 1 Tryz.underlying90 infoBool rfl .i64 .i64 b.R (by omega) (by omega)
  have hal : Below w.heap.size w (w.alloc (.cells (madeCells #[.bool false] b.R) 4)) := (Below.refl _ _).alloc (Nat.le_refl _) _
  have Hcl := Lib.hid (cloneI_any (.slice av start.length cv) start _ (hv.below hal) (by omega))
  have Ha := Lib.hid ha; have Hok := Lib.hid hok; have Hv := Lib.hid hv; have Hmax := Lib.hid hmax; have Hal := Lib.hid hal
  clear ha hok hv hmax hal
  obtain ⟨i0, hi, hz0, hz1, hz2⟩ := info_parts infoIntA
  go_enter Tryz.func34, Tryz.ntmps34
  go_wp2_with fail
  refine Hcl.out.mono ?_
  rintro e w1 ⟨⟨v1, rfl, hown⟩, hb1⟩
  have hst : RSt w w1 b.R (fun _ => false) start v1 := rst_start (by simpa using hown) (by simpa using hb1)
  have Hst := Lib.hid hst; clear hst hown hb1
  go_wp2_with fail
  go_loopg [6] (3 * b.R + start.length) (fun gk v wr => ∃ (seen : Nat → Bool) (T : List Int), RSt w wr b.R seen T v ∧ RIn c start seen T ∧ gk = 3 * unseen b.R seen + T.length ∧ T.length + 2 * unseen b.R seen ≤ start.length + 2 * b.R ∧ ∀ x ∈ T, x ≤ 9223372036854775807)
  case atStart => exact ⟨_, _, Hst.out, rin_start c start, by rw [unseen_all], by rw [unseen_all]; omega, Hmax.out⟩
  case round =>
    clear Hst
    obtain ⟨seen, T, hst, hri, rfl, hle, hmx⟩ := hrel
    rcases List.eq_nil_or_concat T with rfl | ⟨T', x, rfl⟩
    · obtain ⟨a6, c6, rfl⟩ := owns_shape hst.own
      have Hst := Lib.hid hst; have Hri := Lib.hid hri; clear hst hri hmx
      have hsz := Hst.out.size
      obtain ⟨wo, hwo⟩ : ∃ wo : World, wo = wr := ⟨_, rfl⟩
      rw [← hwo] at Hst hsz ⊢
      clear hwo
      go_wp2_with fail
      go_loopg [10, 63] b.R (fun gk v i wr => ∃ k : Nat, k ≤ b.R ∧ gk = b.R - k ∧ i = .int .i64 k ∧ Below wo.heap.size wo wr ∧ wr.ownsRow wo.heap.size 3 1 v (outL seen k).length ((outL seen k).map (Value.int .i64)))
      case atStart => exact ⟨0, Nat.zero_le _, rfl, rfl, Below.refl _ _, World.ownsRow_nil _ _ _ _⟩
      case round =>
        obtain ⟨k, hk, rfl, rfl, hb, hown⟩ := hrel
        have Hb := Lib.hid hb; have Hown := Lib.hid hown
        clear hb
        by_cases hlt : k < b.R
        · have hc := (Hst.out.grow Hb.out).cell hlt
          have hlo := outL_len seen k
          cases hs : seen k
          · rw [hs] at hc
            have Hs := Lib.hid hs; clear hs hown
            go_wp2_with fail
            go_roundg (b.R - (k + 1))
            case measure => omega
            case rel => exact ⟨k + 1, by omega, rfl, by go_num, Hb.out, by rw [outL_no Hs.out]; exact Hown.out⟩
          · rw [hs] at hc
            have hs2 : wo.heap.size ≤ wr.heap.size := Hb.out.size
            have hown2 := hown.alloc (.cells #[.int .i64 ((k : Int) + 2)] 3)
            have Hown2 := Lib.hid hown2; clear hown2
            have Hs := Lib.hid hs; clear hs hown
            go_wp2_with (at_builtin; refine wpList_append_at _ rfl (.tmp 69) (.tmp 72) 24 rfl wo.heap.size 3 i0 (.int .i64 0) 1 8 Tryz.underlying24 hi hz0 hz1 hz2 rfl (by decide) _ _ _ rfl Hown2.out ⟨wr.heap.size, 0, none⟩ 1 1 [.int .i64 ((k : Int) + 2)] rfl rfl (cell_one_new _ _ _) (ints_oneCell _ [(k : Int) + 2]) (by simp only [maxLen]; omega) (by omega) (by simp; omega) ?_; intro v' w3 hown3 hgrow3 _; have Hown3 := Lib.hid hown3; have Hgrow3 := Lib.hid hgrow3; clear hown3 hgrow3)
            go_roundg (b.R - (k + 1))
            case measure => omega
            case rel => exact ⟨k + 1, by omega, rfl, by go_num, (Hb.out.alloc Hb.out.size _).grown Hgrow3.out (by have := Hb.out.size; simp; omega) (fun j hj => (Hown.out.lt j hj).1), by rw [outL_yes Hs.out, List.map_append, List.length_append]; exact Hown3.out⟩
        · obtain rfl : k = b.R := by omega
          clear hown
          go_wp2_with fail
          go_ret
          refine ⟨⟨_, rfl, ?_, fun g hg => Nat.le_trans Hst.out.below.size (Hown.out.lt g hg).1⟩, Hst.out.below.trans (Hb.out.mono Hst.out.below.size)⟩
          rw [reach_out Ha.out.len Hri.out]
          exact isInts_of_ownsA Hown.out (by have := outL_len seen b.R; omega)
    · rw [List.concat_eq_append] at hst hri hle hmx
      obtain ⟨g, cap, rfl, hcell, hst', hcap, hcm, hg1, hg2⟩ := hst.last
      have hx := hmx x (by simp)
      have hle' : T'.length + 1 + 2 * unseen b.R seen ≤ start.length + 2 * b.R := by simpa using hle
      have hmx' : ∀ y ∈ T', y ≤ 9223372036854775807 := fun y hy => hmx y (List.mem_append_left _ hy)
      have Hst := Lib.hid hst'; have Hri := Lib.hid hri; have Hmx := Lib.hid hmx'
      have Hle := Lib.hid hle'
      have hga := get_any x wr b c (Ha.out.below Hst.out.below) hx
      unfold maxLen at hcm
      have htl : T'.length ≤ 1000000 := by omega
      clear hst hst' hri hmx hmx' hle hle'
      cases hgm : getM c x with
      | none =>
        rw [hgm] at hga
        have Hga := Lib.hid hga; clear hga
        have Hgm := Lib.hid hgm; clear hgm
        go_wp2_with fail
        refine Hga.out.mono ?_
        rintro e w2 ⟨rfl, rfl⟩
        simp only [gotV, encNd, Option.getD_none, Option.isSome_none]
        go_wp2_with fail
        go_roundg (3 * unseen b.R seen + T'.length)
        case measure => simp only [List.length_concat]; omega
        case rel =>
          exact ⟨seen, T', Hst.out.grow (((Below.refl _ _).alloc (Nat.le_refl _) _).alloc (by simp) _), Hri.out.skip (fun k n e hn => by have h1 := Hgm.out; rw [e, getM_node, hn] at h1; cases h1), rfl, by have := Hle.out; omega, Hmx.out⟩
      | some n =>
        obtain ⟨a, l, h⟩ := n
        obtain ⟨k, hxk, hck, hkl⟩ := getM_some hgm
        rw [Ha.out.len] at hkl
        rw [hgm] at hga
        have Hga := Lib.hid hga; clear hga
        have hcl := Hok.out.low k _ hck
        have hch := Hok.out.high k _ hck
        have hl1 : l ≤ 4001 := Int.le_trans (hasM_le hcl.1) (by rw [Ha.out.len]; omega)
        have hh1 : h ≤ 4001 := Int.le_trans (hasM_le hch.1) (by rw [Ha.out.len]; omega)
        have Hck := Lib.hid hck; clear hck hcl hch hgm
        have hst3 := Hst.out.grow (w2 := (wr.alloc (.cells #[.int .i64 a, .int .i64 l, .int .i64 h] 68)).alloc (.cells #[.int .i64 a, .int .i64 l, .int .i64 h] 68)) (((Below.refl _ _).alloc (Nat.le_refl _) _).alloc (by simp) _)
        have hcs := Hst.out.cell hkl
        have hfz := Hst.out.free k
        have hsz := Hst.out.size
        have ex : x - 2 = (k : Int) := by omega
        cases hs : seen k
        · have hst4 := (Hst.out.mark k).grow (w2 := ((wr.setCell ⟨w.heap.size, k, none⟩ (.bool true)).alloc (.cells #[.int .i64 a, .int .i64 l, .int .i64 h] 68)).alloc (.cells #[.int .i64 a, .int .i64 l, .int .i64 h] 68)) (((Below.refl _ _).alloc (Nat.le_refl _) _).alloc (by simp) _)
          have hun := unseen_mark hs hkl
          rw [hs] at hcs
          have hown4 := hst4.own.alloc (.cells #[.int .i64 l, .int .i64 h] 3)
          have hcell4 := cells_new_at (((wr.setCell ⟨w.heap.size, k, none⟩ (.bool true)).alloc (.cells #[.int .i64 a, .int .i64 l, .int .i64 h] 68)).alloc (.cells #[.int .i64 a, .int .i64 l, .int .i64 h] 68)) [.int .i64 l, .int .i64 h] 3 (wr.heap.size + 1 + 1) (by simp)
          have hsz4 := hst4.size
          simp only [World.size_setCell, World.size_alloc] at hsz4
          have Hs := Lib.hid hs; have Hun := Lib.hid hun; have Hown4 := Lib.hid hown4; have Hst4 := Lib.hid hst4; have Hcell4 := Lib.hid hcell4
          clear hs hun hown4 hst4 hst3 hcell4
          subst hxk
          clear ex
          go_wp2_with fail
          refine Hga.out.mono ?_
          rintro e w2 ⟨rfl, rfl⟩
          simp only [gotV, encNd, Option.getD_some, Option.isSome_some]
          go_wp2_with (at_builtin; refine wpList_append_own _ rfl (.tmp 54) (.tmp 59) 24 rfl (w.heap.size + 1) 3 i0 (.int .i64 0) 1 8 Tryz.underlying24 hi hz0 hz1 hz2 rfl (by decide) _ _ _ rfl Hown4.out ⟨wr.heap.size + 1 + 1, 0, none⟩ 2 2 [.int .i64 l, .int .i64 h] rfl rfl Hcell4.out (ints_oneCell _ [l, h]) (by simp only [maxLen]; omega) (by omega) (by simp; omega) ?_; intro v' w3 hown3 hgrow3 _; have Hown3 := Lib.hid hown3; have Hgrow3 := Lib.hid hgrow3; clear hown3 hgrow3)
          go_roundg (3 * unseen b.R (mark seen k) + (T'.length + 2))
          case measure => have := Hun.out; simp only [List.length_concat]; omega
          case rel =>
            exact ⟨mark seen k, T' ++ [l, h], Hst4.out.push Hown3.out Hgrow3.out, Hri.out.see Hck.out, by simp, by have := Hle.out; have := Hun.out; simp; omega, fun y hy => (List.mem_append.1 hy).elim (Hmx.out y) (fun h2 => by simp at h2; omega)⟩
        · rw [hs] at hcs
          have Hs := Lib.hid hs; clear hs
          have Hst3 := Lib.hid hst3; clear hst3
          subst hxk
          clear ex
          go_wp2_with fail
          refine Hga.out.mono ?_
          rintro e w2 ⟨rfl, rfl⟩
          simp only [gotV, encNd, Option.getD_some, Option.isSome_some]
          go_wp2_with fail
          go_roundg (3 * unseen b.R seen + T'.length)
          case measure => simp only [List.length_concat]; omega
          case rel =>
            exact ⟨seen, T', Hst3.out, Hri.out.skip (fun k' n e hn => by obtain rfl : k' = k := by omega
                                                                         exact Hs.out), rfl, by have := Hle.out; omega, Hmx.out⟩
end Go.Proofs.YthmflcmbaldflaaGreatDoor
namespace Go.Proofs.YthmflcmbaldflaaGreatDoor
open Go.RowKit
set_option linter.unusedVariables false

section
variable {P : Program}
theorem run_clear_row {w : World} {t e ty : TypeId} {z : Value} {g n c : Nat} {cur : Array Value} (ht : P.underlying t = some (.slice e)) (hz : ∀ w, (zeroValue e).run P w = .ok z w) (hz1 : z.cells = #[z]) (ho : z.oneCell' = true) (hg : w.heap[g]? = some (.cells cur e (0, 0)))
    (hn : cur.size = n) (h0 : 0 < n) : (Builtin.clear_ #[t] ty #[.slice (some ⟨g, 0, none⟩) n c]).run P w = .ok (.tuple #[]) (w.setRow g (List.replicate n z).toArray) := by
  obtain ⟨m, rfl⟩ : ∃ m, n = m + 1 := ⟨n - 1, by omega⟩
  have h1 : (Builtin.zeroCells #[z] (m + 1)).toList = List.replicate (m + 1) z := by
    unfold Builtin.zeroCells
    apply List.ext_getElem
    · simp
    · intro i h1 h2; simp [Nat.mod_one]
  have h2 := run_storeCells_from (P := P) g e (List.replicate (m + 1) z) 0 cur w hg (by simp [hn]) (fun v hv => by rw [List.eq_of_mem_replicate hv]; exact ho)
  simp [Builtin.clear_, Sem.run_bind, run_underlying ht, hz, hz1, h1, h2]
theorem wpList_clear_row {w : World} {ops : Array Oper} {rest : List Oper} {o : Oper} {a : Act} {Q : Exit → Act → World → Prop} (hgd : o.guard = none) (x : Operand) (t : TypeId)
    (ho : o.op = .call { callee := .builtin .clear, args := #[x], argTypes := #[t] }) {e : TypeId} {z : Value} {g n c : Nat} {cur : Array Value} (hx : a.eval x = .slice (some ⟨g, 0, none⟩) n c) (ht : P.underlying t = some (.slice e)) (hz : ∀ w, (zeroValue e).run P w = .ok z w)
    (hz1 : z.cells = #[z]) (h1 : z.oneCell' = true) (hg : w.heap[g]? = some (.cells cur e (0, 0))) (hn : cur.size = n) (h0 : 0 < n) (hK : ∀ w2, w2 = w.setRow g (List.replicate n z).toArray → wpList P ops Q rest (a.put o.dst (.tuple #[])) w2) : wpList P ops Q (o :: rest) a w := by
  refine wpList_plain hgd fun K hK' => ?_
  have hr := run_clear_row (P := P) (ty := o.type) (c := c) ht hz hz1 h1 hg hn h0
  unfold Oper.wp execOp
  simp only [ho, resolve, invoke, builtin, Sem.run_bind, Sem.run_pure, Result.andThen_ok, List.map_toArray, List.map_cons, List.map_nil, hx, hr]
  exact hK' _ _ (hK _ rfl)

theorem run_clear_map {w : World} {t kt et ty : TypeId} {b : Nat} {es : Array MapEntry} {clock : Nat} (ht : P.underlying t = some (.map kt et)) (hb : w.heap[b]? = some (.map es clock)) :
    (Builtin.clear_ #[t] ty #[.map (some b)]).run P w = .ok (.tuple #[]) (setObjW w b (.map #[] clock)) := by
  simp [Builtin.clear_, Sem.run_bind, run_underlying ht, run_getObjM hb, run_setObjM _ hb, setObjW]
theorem wpList_clear_map {α : Type} {w : World} {ops : Array Oper} {rest : List Oper} {o : Oper} {a : Act} {Q : Exit → Act → World → Prop} (hgd : o.guard = none) (x : Operand) (t : TypeId)
    (ho : o.op = .call { callee := .builtin .clear, args := #[x], argTypes := #[t] }) {kt et : TypeId} {b : Nat} {enc : α → Value} {m : List (α × Value)} (hx : a.eval x = .map (some b)) (ht : P.underlying t = some (.map kt et)) (h : MapOf w b enc m)
    (hK : ∀ ob, MapOf (setObjW w b ob) b enc ([] : List (α × Value)) → wpList P ops Q rest (a.put o.dst (.tuple #[])) (setObjW w b ob)) : wpList P ops Q (o :: rest) a w := by
  have hlt := h.lt
  obtain ⟨es, clock, h1, _⟩ := h
  refine wpList_plain hgd fun K hK' => ?_
  have hr := run_clear_map (P := P) (ty := o.type) ht h1
  unfold Oper.wp execOp
  simp only [ho, resolve, invoke, builtin, Sem.run_bind, Sem.run_pure, Result.andThen_ok, List.map_toArray, List.map_cons, List.map_nil, hx, hr]
  exact hK' _ _ (hK _ ⟨#[], clock, setObjW_same _ hlt, rfl, List.nodup_nil, List.Pairwise.nil, fun e he => by cases he⟩)
end
end Go.Proofs.YthmflcmbaldflaaGreatDoor
namespace Go.Proofs.YthmflcmbaldflaaGreatDoor
open Go.RowKit
set_option linter.unusedVariables false

theorem IsInts.sameS {w w' : World} {v : Value} {xs : List Int} (h : IsInts w v xs) (hb : ∀ b, v.ownBlock = some b → b < w.heap.size → w'.heap[b]? = w.heap[b]?) (hs : w.heap.size ≤ w'.heap.size) : IsInts w' v xs := by
  obtain ⟨a, b, o, c, rfl, h2, h3, h4, h5, h6, h7⟩ := h
  refine ⟨a, b, o, c, rfl, h2, h3, h4, fun i hi => ?_, fun e => Nat.lt_of_lt_of_le (h6 e) hs, h7⟩
  have hne : xs ≠ [] := by intro e; subst e; simp at hi
  have e := hb b (by rw [h2 hne]; rfl) (h6 hne)
  rw [World.cell?_of_block (w := w) e]
  exact h5 i hi

/-- Sweep on its way. -/
structure SwSt (w wr : World) (b : Bk) (nodes : Nat → Nd) (used : Nat → Bool) (tab : List Int) (many : Int) (v : Value) (L : List Int) : Prop where
  mem : ArAt wr b.p b.bn b.bu b.bt b.R nodes used tab many
  only : Only b.mem w wr
  ints : IsInts wr v L
  off : ∀ k, b.mem k → k < w.heap.size
  new : ∀ g, v.ownBlock = some g → w.heap.size ≤ g

section
variable {w wr w2 : World} {b : Bk} {nodes : Nat → Nd} {used : Nat → Bool} {tab : List Int} {many : Int} {v : Value} {L : List Int}
theorem SwSt.grow (h : SwSt w wr b nodes used tab many v L) (hb : Below wr.heap.size wr w2) : SwSt w w2 b nodes used tab many v L :=
  ⟨h.mem.below hb, h.only.trans (Only.of_below hb rfl), h.ints.below hb, h.off, h.new⟩
theorem SwSt.set (h : SwSt w wr b nodes used tab many v L) {p : Addr} (hp : b.mem p.block) (u : Value) {used' : Nat → Bool} {tab' : List Int} {many' : Int} (ha : ArAt (wr.setCell p u) b.p b.bn b.bu b.bt b.R nodes used' tab' many') : SwSt w (wr.setCell p u) b nodes used' tab' many' v L :=
  ⟨ha, h.only.setCell (.inl hp) _, h.ints.sameS (fun g hg _ => Below.heap_setCell _ _ _ _ (fun e => by have := h.new g hg; have := h.off _ hp; omega)) (by simp), h.off, h.new⟩
theorem SwSt.used_congr (h : SwSt w wr b nodes used tab many v L) {used' : Nat → Bool} (hu : ∀ k, k < b.R → used' k = used k) : SwSt w wr b nodes used' tab many v L := by
  obtain ⟨cu, g1, g2, g3⟩ := h.mem.use
  exact ⟨⟨h.mem.blk, h.mem.nod, ⟨cu, g1, g2, fun k hk => by rw [hu k hk]; exact g3 k hk⟩, h.mem.tbl⟩, h.only, h.ints, h.off, h.new⟩
theorem SwSt.clear (h : SwSt w wr b nodes used tab many v L) (ap : b.Apart) (h0 : 0 < tab.length) : SwSt w (wr.setRow b.bt (List.replicate tab.length (Value.int .i64 0)).toArray) b nodes used (List.replicate tab.length 0) many v L := by
  have ho : ∀ k, k ≠ b.bt → (wr.setRow b.bt (List.replicate tab.length (Value.int .i64 0)).toArray).heap[k]? = wr.heap[k]? := fun k hk => setRow_other _ _ _ _ hk
  have hsz : (wr.setRow b.bt (List.replicate tab.length (Value.int .i64 0)).toArray).heap.size = wr.heap.size := by simp [World.setRow]
  obtain ⟨cn, g1, g2⟩ := h.mem.nod
  obtain ⟨cu, g3, g4⟩ := h.mem.use
  refine ⟨⟨?_, ⟨cn, by rw [ho _ ap.n5]; exact g1, g2⟩, ⟨cu, by rw [ho _ ap.n6]; exact g3, g4⟩, ?_⟩, ?_, ?_, h.off, h.new⟩
  · rw [ho _ ap.n3, List.length_replicate]; exact h.mem.blk
  · rw [setRow_heap _ _ _ _ _ _ h.mem.tbl]; simp
  · exact ⟨h.only.os, h.only.tape, h.only.output, by rw [hsz]; exact h.only.size, fun k hk hn => by rw [ho k (fun e => hn (e ▸ .inr (.inr (.inr rfl))))]; exact h.only.block k hk hn⟩
  · exact h.ints.sameS (fun g hg _ => ho g (fun e => by have := h.new g hg; have := h.off b.bt (.inr (.inr (.inr rfl))); omega)) (by rw [hsz]; exact Nat.le_refl _)
end

theorem reachM_nodup (c : Cells) (s : List Int) : (reachM c s).Nodup := by
  classical
  unfold reachM
  rw [List.Nodup, List.pairwise_map]
  refine List.Pairwise.imp ?_ (List.Nodup.sublist List.filter_sublist (List.nodup_range (n := c.length)))
  intro a b hab h
  omega
theorem take_next {L : List Int} {j : Nat} (h : j < L.length) : L.take (j + 1) = L.take j ++ [L[j]] := List.take_succ_eq_append_getElem h
theorem not_in_take {L : List Int} (hn : L.Nodup) {j : Nat} (h : j < L.length) : L[j] ∉ L.take j := by
  intro hm
  obtain ⟨i, hi, he⟩ := List.getElem_of_mem hm
  rw [List.getElem_take] at he
  have h1 : i < j := by rw [List.length_take] at hi; omega
  exact (List.pairwise_iff_getElem.1 hn) i j (by omega) h h1 he

theorem zeroInt (w : World) : (zeroValue 3).run Tryz.prog w = .ok (.int .i64 0) w := by kernel_rfl

theorem cell_set_ne {w : World} {a p : Addr} {u v : Value} (h : w.cell? p = some v) (hne : a.block ≠ p.block) : (w.setCell a u).cell? p = some v := by
  rw [World.cell?_setCell_other _ _ _ _ (fun e => hne (by rw [e]))]; exact h

theorem sweep_used (c : Cells) (s : List Int) (k : Nat) : ((sweepM c s).at k).isSome = (reachM c s).contains ((k : Int) + 2) := by
  rw [Bool.eq_iff_iff, Option.isSome_iff_exists, List.contains_iff_mem, mem_reachM]
  constructor
  · rintro ⟨n, hn⟩; exact ⟨k, rfl, (sweepM_some.1 hn).1⟩
  · rintro ⟨k', e, h⟩
    obtain rfl : k' = k := by omega
    obtain ⟨n, hn⟩ := h.used
    exact ⟨n, sweepM_some.2 ⟨h, hn⟩⟩

def usedL (L : List Int) (j : Nat) : Nat → Bool := fun k => (L.take j).contains ((k : Int) + 2)
theorem usedL_next {L : List Int} {j k : Nat} (h : j < L.length) (hk : L[j] = (k : Int) + 2) (i : Nat) : usedL L (j + 1) i = if i = k then true else usedL L j i := by
  unfold usedL
  rw [take_next h, hk]
  by_cases e : i = k
  · subst e; simp
  · rw [if_neg e]
    have : ¬ ((i : Int) + 2 = (k : Int) + 2) := by omega
    simp [this]
/-- The table on its way. -/
structure TabJ (R : Nat) (nodes : Nat → Nd) (L : List Int) (j : Nat) (tab : List Int) : Prop where
  len : tab.length = 2 * R + 1
  ok : TabOK (hsh (2 * R + 1)) nodes (fun k => ((k : Int) + 2) ∈ L.take j) tab
theorem tabJ_start (R : Nat) (nodes : Nat → Nd) (L : List Int) : TabJ R nodes L 0 (List.replicate (2 * R + 1) 0) :=
  ⟨by simp, (tabOK_empty _ nodes _).congr (fun k => by simp) (fun k h => h.elim)⟩
theorem TabJ.next {R : Nat} {nodes : Nat → Nd} {L : List Int} {j : Nat} {tab : List Int} (t : TabJ R nodes L j tab) (hn : L.Nodup) (hj : j < L.length) {k i : Nat} (hk : L[j] = (k : Int) + 2) (hu : ∀ k' : Nat, ((k' : Int) + 2) ∈ L → nodes k' = nodes k → k' = k)
    (p : Placed (hsh (2 * R + 1)) nodes tab (nodes k) i) : TabJ R nodes L (j + 1) (tab.set i ((k : Int) + 2)) := by
  have hnk : ¬ ((k : Int) + 2) ∈ L.take j := by rw [← hk]; exact not_in_take hn hj
  have h0 : tab.getD i 0 = 0 := by
    refine Classical.byContradiction fun h0 => ?_
    obtain ⟨k', h1, h2, _⟩ := p.found t.ok h0
    exact hnk (hu k' (List.mem_of_mem_take h1) h2 ▸ h1)
  refine ⟨by simpa using t.len, (t.ok.insert p h0 hnk (nodes' := nodes) (fun _ _ => rfl) rfl).congr (fun i => ?_) (fun _ _ => rfl)⟩
  rw [take_next hj, hk, List.mem_append, List.mem_singleton]
  constructor
  · rintro (h | rfl)
    · exact .inl h
    · exact .inr rfl
  · rintro (h | h)
    · exact .inl h
    · exact .inr (by omega)

set_option maxRecDepth 100000 in
set_option maxHeartbeats 4000000 in
theorem sweep_any (vs : Value) (start : List Int) (w : World) (b : Bk) (c : Cells) (ha : IsArena w b c) (hok : Ok c) (hv : IsInts w vs start) (hlen : start.length ≤ 100000) (hmax : ∀ x ∈ start, x ≤ 9223372036854775807) :
    Calls Tryz.prog 66 #[.pointer (some ⟨b.p, 0, none⟩), vs] w fun e w' => e = .returned (.int .i64 ((cnt c : Int) - (reachM c start).length)) ∧ IsArena w' b (sweepM c start) ∧ Only b.mem w w' := by
  have hR := ha.room.2
  have hR1 := ha.room.1
  have hap := ha.apart
  have hlenc := ha.len
  obtain ⟨nodes, tab, hat, htl, hto, hag⟩ := ha.mem
  have f3 := hat.f3
  have Hre := Lib.hid (reach_any vs start w b c ha hok hv hlen hmax)
  have hcn : cnt c ≤ 4000 := Nat.le_trans (cnt_le c) (by rw [hlenc]; exact hR)
  have hLl : (reachM c start).length ≤ 4000 := Nat.le_trans (reachM_len_le c start) (by rw [hlenc]; exact hR)
  have Hat := Lib.hid hat; have Htl := Lib.hid htl; have Hto := Lib.hid hto; have Hag := Lib.hid hag; have Ha := Lib.hid ha; have Hlenc := Lib.hid hlenc
  clear hat htl hto hag hok hv hmax ha hlenc
  obtain ⟨L, hL⟩ : ∃ L, L = reachM c start := ⟨_, rfl⟩
  rw [← hL] at Hre hLl ⊢
  have HL := Lib.hid hL; clear hL
  go_enter Tryz.func66, Tryz.ntmps66
  go_wp2_with fail
  refine Hre.out.mono ?_
  rintro e w1 ⟨⟨v1, rfl, hints, hnew⟩, hb1⟩
  have hst : SwSt w w1 b nodes (fun k => (c.at k).isSome) tab (cnt c) v1 L := ⟨Hat.out.below hb1, Only.of_below hb1 rfl, hints, fun k hk => Ha.out.lt hk, hnew⟩
  obtain ⟨a1, c1, rfl, hl1, hc1, _⟩ := hints.shape
  have g1 := hst.mem.f1
  have lp1 := hst.mem.lp
  have Hst := Lib.hid hst
  clear hst hints hnew hb1 f3
  go_wp2_with fail
  go_loopg [24] b.R (fun gk i wr => ∃ k : Nat, k ≤ b.R ∧ gk = b.R - k ∧ i = .int .i64 k ∧ SwSt w wr b nodes (fun j => if j < k then false else (c.at j).isSome) tab (cnt c) (.slice a1 L.length c1) L)
  case atStart => exact ⟨0, Nat.zero_le _, rfl, rfl, by simpa using Hst.out⟩
  case round =>
    clear Hst g1 lp1
    obtain ⟨k, hk, rfl, rfl, hst⟩ := hrel
    have lp1 := hst.mem.lp
    have g0 := hst.mem.f0
    have g1 := hst.mem.f1
    have g2 := hst.mem.f2
    rw [Htl.out] at g2
    have g3 := hst.mem.f3
    have z1 := hst.mem.zu k
    have z3 := hst.mem.zp 3
    by_cases hlt : k < b.R
    · have gu := hst.mem.u hlt
      have hst2 := (hst.set (.inr (.inr (.inl rfl))) _ (hst.mem.setUsed hap hlt false)).used_congr (used' := fun j => if j < k + 1 then false else (c.at j).isSome) (fun j hj => by
        by_cases e : j = k
        · subst e; simp
        · simp only [if_neg e]
          by_cases e2 : j < k
          · rw [if_pos e2, if_pos (by omega)]
          · rw [if_neg e2, if_neg (by omega)])
      have Hst2 := Lib.hid hst2; clear hst hst2
      go_wp2_with fail
      go_roundg (b.R - (k + 1))
      case measure => omega
      case rel => exact ⟨k + 1, by omega, rfl, by go_num, Hst2.out⟩
    · obtain rfl : k = b.R := by omega
      have htbl := hst.mem.tbl
      have hst2 := (hst.clear hap (by rw [Htl.out]; omega))
      rw [Htl.out] at hst2
      have Hst := Lib.hid hst2; have Htbl := Lib.hid htbl; clear hst hst2 htbl hlt
      go_wp2_with (refine wpList_clear_row (o := ⟨none, .call { callee := .builtin .clear, args := #[.tmp 37], argTypes := #[24] }, _, _, _, _⟩) rfl (.tmp 37) 24 rfl (e := 3) (z := .int .i64 0) (g := b.bt) (n := 2 * b.R + 1) (c := 2 * b.R + 1) rfl Tryz.underlying24 zeroInt rfl rfl Htbl.out (by simp [Htl.out]) (by omega) ?_; intro w2 hw2; have hst3 := hw2.symm ▸ Hst.out; clear hw2 Hst; have lp2 := hst3.mem.lp; have k3 := hst3.mem.f3; have y3 := hst3.mem.zp 3; have Hst := Lib.hid hst3; clear hst3)
      have hst4 := (Hst.out.set (.inl rfl) _ (Hst.out.mem.setMany hap (L.length : Int))).used_congr (used' := usedL L 0) (fun k hk => by simp [usedL, hk])
      have lp4 := hst4.mem.lp
      clear lp1 lp2 k3 y3 z1 z3 g0 g1 g2 g3 Hst
      generalize w2.setCell ⟨b.p, 3, none⟩ (.int .i64 (L.length : Int)) = w4 at hst4 lp4 ⊢
      have Hst := Lib.hid hst4; clear hst4 lp4
      have hLx : ∀ x ∈ L, ∃ k : Nat, x = (k : Int) + 2 ∧ k < b.R ∧ (c.at k).isSome = true := fun x h1 => by
        rw [HL.out] at h1
        obtain ⟨k, h2, h3⟩ := mem_reachM.1 h1
        obtain ⟨n, hn⟩ := h3.used
        exact ⟨k, h2, by rw [← Hlenc.out]; exact at_lt hn, by rw [hn]; rfl⟩
      have hLk : ∀ j (h : j < L.length), ∃ k : Nat, L[j] = (k : Int) + 2 ∧ k < b.R ∧ (c.at k).isSome = true := fun j h => hLx _ (List.getElem_mem h)
      have HLx := Lib.hid hLx; have HLk := Lib.hid hLk; clear hLk hLx
      go_loopg [45] L.length (fun gk i wr => ∃ k : Nat, k ≤ L.length ∧ gk = L.length - k ∧ i = .int .i64 k ∧ SwSt w wr b nodes (usedL L k) (List.replicate (2 * b.R + 1) 0) L.length (.slice a1 L.length c1) L)
      case atStart => exact ⟨0, Nat.zero_le _, rfl, rfl, Hst.out⟩
      case round =>
        clear Hst
        obtain ⟨j, hj, rfl, rfl, hst⟩ := hrel
        have lp1 := hst.mem.lp
        have g0 := hst.mem.f0
        have g1 := hst.mem.f1
        by_cases hlt : j < L.length
        · obtain ⟨k, hk, hkR, _⟩ := HLk.out j hlt
          obtain ⟨b0, o0, rfl, _⟩ := hst.ints.addr hlt
          have hcell := hst.ints.get hlt
          rw [hk] at hcell
          have gu := hst.mem.u hkR
          have z1 := hst.mem.zu k
          have hst2 := (hst.set (.inr (.inr (.inl rfl))) _ (hst.mem.setUsed hap hkR true)).used_congr (used' := usedL L (j + 1)) (fun i _ => usedL_next hlt hk i)
          have Hst2 := Lib.hid hst2; clear hst hst2 hk
          go_wp2_with fail
          go_roundg (L.length - (j + 1))
          case measure => omega
          case rel => exact ⟨j + 1, by omega, rfl, by go_num, Hst2.out⟩
        · obtain rfl : j = L.length := by omega
          have Hst := Lib.hid hst; clear hst
          go_wp2_with fail
          go_loopg [59] L.length (fun gk i wr => ∃ (j : Nat) (tab' : List Int), j ≤ L.length ∧ gk = L.length - j ∧ i = .int .i64 j ∧ SwSt w wr b nodes (usedL L L.length) tab' L.length (.slice a1 L.length c1) L ∧ TabJ b.R nodes L j tab')
          case atStart => exact ⟨0, _, Nat.zero_le _, rfl, rfl, Hst.out, tabJ_start _ _ _⟩
          case round =>
            clear Hst
            obtain ⟨j, tab', hj, rfl, rfl, hst, htj⟩ := hrel
            have Htj := Lib.hid htj; clear htj
            by_cases hlt2 : j < L.length
            · obtain ⟨k, hk, hkR, hks⟩ := HLk.out j hlt2
              obtain ⟨b0, o0, rfl, _⟩ := hst.ints.addr hlt2
              have hcell := hst.ints.get hlt2
              obtain ⟨x, hx⟩ : ∃ x, x = L[j] := ⟨_, rfl⟩
              rw [← hx] at hcell hk
              have g0 := hst.mem.f0
              have g2 := hst.mem.f2
              rw [Htj.out.len] at g2
              have n0 := hst.mem.n0 hkR
              have n1 := hst.mem.n1 hkR
              have n2 := hst.mem.n2 hkR
              obtain ⟨⟨a', l', h'⟩, hnd⟩ : ∃ n', n' = nodes k := ⟨_, rfl⟩
              rw [← hnd] at n0 n1 n2
              have hpl := place_any (a', l', h') wr.drew b nodes _ tab' _ _ (hst.mem.below (Below.refl _ _).drew) hR Htj.out.len Htj.out.ok (fun i hi => by
                obtain ⟨i', h1, h2, _⟩ := HLx.out _ (List.mem_of_mem_take hi)
                omega)
              unfold encNd at hpl
              dsimp only at hpl
              have Hpl := Lib.hid hpl
              have hw : IntKind.i64.wrap (x - 2) = (k : Int) := by rw [hk]; exact (IntWalk.i64_in _ (by omega)).trans (by omega)
              have hk1 : (k : Int) < (b.R : Int) := by omega
              have Hst := Lib.hid hst; have Hx := Lib.hid hx; have Hk := Lib.hid hk; have Hnd := Lib.hid hnd; have Hks := Lib.hid hks
              clear hst hx hk hnd hks hpl
              go_wp2_with fail
              go_region_held3 (fun w' => w'.cell? ⟨b.p, 0, none⟩ = some (.slice (some ⟨b.bn, 0, none⟩) b.R b.R) ∧ w'.cell? ⟨b.p, 2, none⟩ = some (.slice (some ⟨b.bt, 0, none⟩) (2 * b.R + 1) (2 * b.R + 1)) ∧
                  w'.cell? ⟨b.bn, k * 3, none⟩ = some (.int .i64 a') ∧ w'.cell? ⟨b.bn, k * 3 + 1, none⟩ = some (.int .i64 l') ∧ w'.cell? ⟨b.bn, k * 3 + 2, none⟩ = some (.int .i64 h'))
                (first | exact ⟨g0, g2, n0, n1, n2⟩ | exact ⟨(hb9.cell lp9).trans g0, (hb9.cell lp9).trans g2, (hb9.cell ln9).trans n0, (hb9.cell ln9).trans n1, (hb9.cell ln9).trans n2⟩ | exact ⟨cell_set_ne ((hb9.cell lp9).trans g0) hap.n3.symm, cell_set_ne ((hb9.cell lp9).trans g2) hap.n3.symm, cell_set_ne ((hb9.cell ln9).trans n0) hap.n5.symm, cell_set_ne ((hb9.cell ln9).trans n1) hap.n5.symm, cell_set_ne ((hb9.cell ln9).trans n2) hap.n5.symm⟩)
                (first | (go_at_call 54; refine Hpl.out.mono ?_; rintro e w9 ⟨⟨i, rfl, hp⟩, hb9⟩; have hst9 := (Hst.out.grow (Below.refl _ _).drew).grow hb9; have hi1 := hp.lt; have gt := hst9.mem.t hi1; have zt := hst9.mem.zt i; rw [Htj.out.len] at hi1; have hi2 : (i : Int) < 2 * (b.R : Int) + 1 := (by omega); have lp9 := Hst.out.mem.lp; have ln9 := Hst.out.mem.ln))
              have hst10 := hst9.set (.inr (.inr (.inr rfl))) (.int .i64 x) (hst9.mem.setTab hap i x)
              have hu : ∀ k' : Nat, ((k' : Int) + 2) ∈ L → nodes k' = nodes k → k' = k := fun k' h1 h2 => by
                obtain ⟨k2, h3, _, h4⟩ := HLx.out _ h1
                obtain rfl : k2 = k' := by omega
                exact Hto.out.uniq _ _ h4 Hks.out h2
              have htj2 := Htj.out.next (by rw [HL.out]; exact reachM_nodup c start) hlt2 (Hx.out.symm.trans Hk.out) hu (by rw [← Hnd.out]; exact hp)
              rw [← Hk.out] at htj2
              have Hst10 := Lib.hid hst10; have Htj2 := Lib.hid htj2
              clear hst10 htj2 hu
              try go_wp2_with fail
              go_roundg (L.length - (j + 1))
              case measure => omega
              case rel => exact ⟨j + 1, _, by omega, rfl, by go_num, Hst10.out, Htj2.out⟩
            · obtain rfl : j = L.length := by omega
              have g3 := hst.mem.f3
              have lp1 := hst.mem.lp
              have Hst := Lib.hid hst; clear hst
              go_wp2_with fail
              go_ret
              refine ⟨rfl, ⟨by rw [sweepM_len]; exact Hlenc.out, ⟨hR1, hR⟩, hap, nodes, tab', ?_, Htj.out.len, ?_, fun k n h => Hag.out k n (sweepM_some.1 h).2⟩, Hst.out.only⟩
              · rw [cnt_sweepM, ← HL.out]
                refine (Hst.out.used_congr (fun k hk => ?_)).mem
                unfold usedL
                rw [List.take_length, HL.out]
                exact sweep_used c start k
              · refine Htj.out.ok.congr (fun k => ?_) (fun _ _ => rfl)
                rw [List.take_length, HL.out, sweep_used, List.contains_iff_mem]
end Go.Proofs.YthmflcmbaldflaaGreatDoor
namespace Go.Proofs.YthmflcmbaldflaaGreatDoor
open Go.RowKit
set_option linter.unusedVariables false

/-- pick, over an int (or uint) a and a length n. -/
def pickN (a : Int) (n : Nat) : Nat := (IntKind.u64.wrap a).toNat % n
theorem pickN_lt (a : Int) {n : Nat} (h : 0 < n) : pickN a n < n := Nat.mod_lt _ h
theorem pick_eq (a : Int) (n : Nat) (h0 : 0 < n) (h1 : n ≤ 1000000) : wrap64 ((IntKind.u64.wrap a).tmod n) = (pickN a n : Nat) := by
  have h := u64_nonneg a
  unfold pickN
  generalize IntKind.u64.wrap a = y at h
  obtain ⟨m, rfl⟩ := Int.eq_ofNat_of_zero_le h
  rw [Int.tmod_eq_emod_of_nonneg (by omega), Int.toNat_natCast, ← Int.natCast_emod]
  have := Nat.mod_lt m h0
  rw [IntWalk.wrap64_in _ ⟨by omega, by omega⟩]

theorem pick_any (a : Int) (n : Nat) (w : World) (h0 : 0 < n) (h1 : n ≤ 1000000) :
    Calls Tryz.prog 8 #[.int .i64 a, .int .i64 n] w fun e w' => e = .returned (.int .i64 (pickN a n)) ∧ w = w' := by
  have hp := pick_eq a n h0 h1
  have Hp := Lib.hid hp; clear hp
  go_enter Tryz.func8, Tryz.ntmps8
  go_wp2_with fail
  go_ret
  refine ⟨?_, rfl⟩
  rw [← Hp.out]
  rfl

end Go.Proofs.YthmflcmbaldflaaGreatDoor
