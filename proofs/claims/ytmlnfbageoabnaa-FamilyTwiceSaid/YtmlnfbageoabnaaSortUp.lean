/- Contract: family.sortUp: the same numbers, rising. -/
import Derived.Test.YtmlnfbageoabnaaAMem
import Derived.BigQuiet
import Derived.Deep.QuietTactic
import Derived.BigRegion
namespace Go.Proofs.Ytmlnfbageoabnaa
open Go.RowKit
set_option linter.unusedVariables false

/-- A row of words in block g. -/
def URow (w : World) (g e cap n : Nat) (f : Nat → Nat) : Prop := ∃ cur : Array Value, w.heap[g]? = some (.cells cur e (0, 0)) ∧ cur.size = cap ∧ ∀ k, k < n → cur[k]? = some (.int .u64 (f k : Nat))
theorem URow.cell {w : World} {g e cap n : Nat} {f : Nat → Nat} (h : URow w g e cap n f) {k : Nat} (hk : k < n) : w.cell? ⟨g, k, none⟩ = some (.int .u64 (f k : Nat)) := by
  obtain ⟨cur, h1, _, h3⟩ := h; rw [cell_of_row w g _ _ _ _ h1]; exact h3 k hk
theorem URow.free {w : World} {g e cap n : Nat} {f : Nat → Nat} (h : URow w g e cap n f) (k : Nat) : w.frozen? ⟨g, k, none⟩ = false := by
  obtain ⟨cur, h1, _⟩ := h; exact not_frozen h1
theorem URow.lt {w : World} {g e cap n : Nat} {f : Nat → Nat} (h : URow w g e cap n f) : g < w.heap.size := by
  obtain ⟨cur, h1, _⟩ := h; exact (Array.getElem?_eq_some_iff.1 h1).1
theorem URow.drew {w : World} {g e cap n : Nat} {f : Nat → Nat} (h : URow w g e cap n f) (m : Nat) : URow (w.drewN m) g e cap n f := h
def swapF (f : Nat → Nat) (j : Nat) : Nat → Nat := fun k => if k = j + 1 then f j else if k = j then f (j + 1) else f k
theorem URow.swap {w : World} {g e cap n : Nat} {f : Nat → Nat} (h : URow w g e cap n f) {j : Nat} (hj : j + 1 < n) (hc : n ≤ cap) :
    URow ((w.setCell ⟨g, j + 1, none⟩ (.int .u64 (f j : Nat))).setCell ⟨g, j, none⟩ (.int .u64 (f (j + 1) : Nat))) g e cap n (swapF f j) := by
  obtain ⟨cur, h1, h2, h3⟩ := h
  refine ⟨_, heap_set (heap_set h1 _ _) _ _, by simp [h2], fun k hk => ?_⟩
  unfold swapF
  simp only [Array.getElem?_setIfInBounds, Array.size_setIfInBounds]
  by_cases e1 : k = j
  · subst e1
    rw [if_pos rfl, if_pos (by omega), if_neg (by omega), if_pos rfl]
  · rw [if_neg (fun h => e1 h.symm)]
    by_cases e2 : k = j + 1
    · subst e2; rw [if_pos rfl, if_pos (by omega), if_pos rfl]
    · rw [if_neg (fun h => e2 h.symm), if_neg e2, if_neg e1]; exact h3 k hk

/-- The same numbers, each once. -/
structure Same (n : Nat) (f0 f : Nat → Nat) : Prop where
  mem : ∀ y, (∃ k, k < n ∧ f k = y) ↔ ∃ k, k < n ∧ f0 k = y
  inj : (∀ a b, a < n → b < n → f0 a = f0 b → a = b) → ∀ a b, a < n → b < n → f a = f b → a = b
theorem Same.refl (n : Nat) (f : Nat → Nat) : Same n f f := ⟨fun _ => Iff.rfl, fun h => h⟩
theorem Same.swap {n : Nat} {f0 f : Nat → Nat} (h : Same n f0 f) {j : Nat} (hj : j + 1 < n) : Same n f0 (swapF f j) := by
  have key : ∀ k, k < n → ∃ k', k' < n ∧ f k' = swapF f j k ∧ (k' = if k = j + 1 then j else if k = j then j + 1 else k) := fun k hk => by
    unfold swapF
    by_cases e2 : k = j + 1
    · exact ⟨j, by omega, by rw [if_pos e2], by rw [if_pos e2]⟩
    · by_cases e1 : k = j
      · exact ⟨j + 1, hj, by rw [if_neg e2, if_pos e1], by rw [if_neg e2, if_pos e1]⟩
      · exact ⟨k, hk, by rw [if_neg e2, if_neg e1], by rw [if_neg e2, if_neg e1]⟩
  have back : ∀ k, k < n → ∃ k', k' < n ∧ swapF f j k' = f k := fun k hk => by
    by_cases e2 : k = j + 1
    · exact ⟨j, by omega, by unfold swapF; rw [if_neg (by omega), if_pos rfl, e2]⟩
    · by_cases e1 : k = j
      · exact ⟨j + 1, hj, by unfold swapF; rw [if_pos rfl, e1]⟩
      · exact ⟨k, hk, by unfold swapF; rw [if_neg e2, if_neg e1]⟩
  refine ⟨fun y => ?_, fun hi a b ha hb e => ?_⟩
  · rw [← h.mem]
    constructor
    · rintro ⟨k, hk, rfl⟩; obtain ⟨k', h1, h2, _⟩ := key k hk; exact ⟨k', h1, h2⟩
    · rintro ⟨k, hk, rfl⟩; obtain ⟨k', h1, h2⟩ := back k hk; exact ⟨k', h1, h2⟩
  · obtain ⟨a', h1, h2, h3⟩ := key a ha
    obtain ⟨b', g1, g2, g3⟩ := key b hb
    have := h.inj hi a' b' h1 g1 (by rw [h2, g2, e])
    rw [h3, g3] at this
    by_cases x1 : a = j + 1 <;> by_cases x2 : b = j + 1
    · omega
    · rw [if_pos x1, if_neg x2] at this; split at this <;> omega
    · rw [if_neg x1, if_pos x2] at this; split at this <;> omega
    · rw [if_neg x1, if_neg x2] at this; split at this <;> split at this <;> omega
/-- Rising up to i, but for place k, which is below all behind it. -/
structure Ris (i k : Nat) (f : Nat → Nat) : Prop where
  r1 : ∀ a b, a < b → b ≤ i → a ≠ k → b ≠ k → f a ≤ f b
  r2 : ∀ b, k < b → b ≤ i → f k ≤ f b
theorem Ris.start {i : Nat} {f : Nat → Nat} (h : ∀ a b, a < b → b < i → f a ≤ f b) : Ris i i f := ⟨fun a b h1 h2 h3 h4 => h a b h1 (by omega), fun b h1 h2 => absurd h1 (by omega)⟩
theorem Ris.swap {i j : Nat} {f : Nat → Nat} (h : Ris i (j + 1) f) (hlt : f (j + 1) < f j) (hi : j + 1 ≤ i) : Ris i j (swapF f j) := by
  refine ⟨fun a b h1 h2 h3 h4 => ?_, fun b h1 h2 => ?_⟩
  · unfold swapF
    rw [if_neg h3, if_neg h4]
    by_cases ea : a = j + 1
    · rw [if_pos ea, if_neg (by omega)]; exact h.r1 j b (by omega) h2 (by omega) (by omega)
    · rw [if_neg ea]
      by_cases eb : b = j + 1
      · rw [if_pos eb]; exact h.r1 a j (by omega) (by omega) ea (by omega)
      · rw [if_neg eb]; exact h.r1 a b h1 h2 ea eb
  · unfold swapF
    rw [if_neg (by omega), if_pos rfl]
    by_cases eb : b = j + 1
    · rw [if_pos eb]; omega
    · rw [if_neg eb, if_neg (by omega)]; exact h.r2 b (by omega) h2
theorem Ris.done {i k : Nat} {f : Nat → Nat} (h : Ris i k f) (hk : k ≤ i) (hlt : ∀ j, k = j + 1 → ¬ f (j + 1) < f j) : ∀ a b, a < b → b < i + 1 → f a ≤ f b := by
  intro a b h1 h2
  by_cases ea : a = k
  · subst ea; exact h.r2 b h1 (by omega)
  · by_cases eb : b = k
    · subst eb
      obtain ⟨j, rfl⟩ : ∃ j, b = j + 1 := ⟨b - 1, by omega⟩
      have h3 := hlt j rfl
      by_cases e : a = j
      · subst e; omega
      · have := h.r1 a j (by omega) (by omega) ea (by omega); omega
    · exact h.r1 a b h1 (by omega) ea eb

set_option maxRecDepth 100000 in
set_option maxHeartbeats 8000000 in
theorem sortUp_any (g e cap n : Nat) (f0 : Nat → Nat) (w : World) (h : URow w g e cap n f0) (hc : n ≤ cap) (hn : n ≤ 20000000) :
    Calls Try.prog 99 #[.slice (some ⟨g, 0, none⟩) n cap] w fun en w' => en = .returned (.tuple #[]) ∧ (∃ f, URow w' g e cap n f ∧ Same n f0 f ∧ ∀ a b, a < b → b < n → f a ≤ f b) ∧ Only (· = g) w w' := by
  have H := Lib.hid h; clear h
  go_enter Try.func99, Try.ntmps99
  go_wp2_with fail
  go_loopg [2] n (fun gk i wr => ∃ (k : Nat) (f : Nat → Nat), 1 ≤ k ∧ (k ≤ n ∨ k = 1) ∧ gk = n + 1 - k ∧ i = .int .i64 k ∧ URow wr g e cap n f ∧ Same n f0 f ∧ (∀ a b, a < b → b < k → f a ≤ f b) ∧ Only (· = g) w wr)
  case atStart => exact ⟨1, f0, Nat.le_refl _, .inr rfl, by omega, rfl, H.out, Same.refl _ _, fun a b h1 h2 => by omega, Only.refl _ _⟩
  case round =>
    obtain ⟨k, f, hk1, hk2, rfl, rfl, hr, hs, hso, ho⟩ := hrel
    have Hr := Lib.hid hr; have Hs := Lib.hid hs; have Hso := Lib.hid hso; have Ho := Lib.hid ho; clear hr hs hso ho
    obtain ⟨wo, rfl⟩ : ∃ wo : World, wo = wr := ⟨_, rfl⟩
    by_cases hk : k < n
    · go_wp2_with fail
      go_loopg [3] k (fun gi i wr => ∃ (j : Nat) (f' : Nat → Nat), j ≤ k ∧ j = gi ∧ i = .int .i64 j ∧ URow wr g e cap n f' ∧ Same n f0 f' ∧ Ris k j f' ∧ Only (· = g) w wr)
      case atStart => exact ⟨k, f, Nat.le_refl _, rfl, rfl, Hr.out, Hs.out, Ris.start Hso.out, Ho.out⟩
      case round =>
        clear Hr Hs Hso Ho
        obtain ⟨j, f', hj, rfl, rfl, hr, hs, hri, ho⟩ := hrel
        have Hr := Lib.hid hr; have Hs := Lib.hid hs; have Hri := Lib.hid hri; have Ho := Lib.hid ho; clear hr hs hri ho
        rcases j with _ | j
        · have hd : decide ((0 : Int) < ((0 : Nat) : Int)) = false := by decide
          go_wp2_with fail
          go_quiet (fail)
          go_wp2_with fail
          go_roundg (n + 1 - (k + 1))
          case measure => omega
          case rel => exact ⟨k + 1, f', by omega, by omega, rfl, by go_num, Hr.out.drew _, Hs.out, Hri.out.done (by omega) (fun j h => by omega), Ho.out.drewN _⟩
        · have c1 := Hr.out.cell (k := j + 1) (by omega)
          have c2 := Hr.out.cell (k := j) (by omega)
          have z1 := Hr.out.free (j + 1)
          have z2 := Hr.out.free j
          have hd : decide ((0 : Int) < (j : Int) + 1) = true := by simp
          have hw : IntKind.i64.wrap ((j : Int) + 1 - 1) = (j : Int) := by rw [IntWalk.i64_in _ (by omega)]; omega
          have hsw := Hr.out.swap (j := j) (by omega) hc
          by_cases hlt : f' (j + 1) < f' j
          · have hlt2 : decide (f' (j + 1) < f' j) = true := by simpa using hlt
            have Hlt := Lib.hid hlt; have Hsw := Lib.hid hsw; clear hlt hsw
            go_wp2_with fail
            go_quiet (fail)
            go_wp2_with fail
            clear hlt2 hd
            go_region
            all_goals
              go_wp2_with fail
              go_roundg j
              case measure => omega
              case rel => exact ⟨j, swapF f' j, by omega, rfl, rfl, Hsw.out, Hs.out.swap (by omega), Hri.out.swap Hlt.out (by omega), ((Ho.out.drewN _).setCell (.inl rfl) _).setCell (.inl rfl) _⟩
          · have hlt2 : decide (f' (j + 1) < f' j) = false := by simpa using hlt
            have Hlt := Lib.hid hlt; clear hlt hsw
            go_wp2_with fail
            go_quiet (fail)
            go_wp2_with fail
            go_roundg (n + 1 - (k + 1))
            case measure => omega
            case rel => exact ⟨k + 1, f', by omega, by omega, rfl, by go_num, Hr.out.drew _, Hs.out, Hri.out.done (by omega) (fun j' h => by have e : j = j' := (by omega); subst e; exact Hlt.out), Ho.out.drewN _⟩
    · go_wp2_with fail
      go_end0
      have hkn : n ≤ k := by omega
      exact ⟨rfl, ⟨f, Hr.out, Hs.out, fun a b h1 h2 => Hso.out a b h1 (by omega)⟩, Ho.out⟩
end Go.Proofs.Ytmlnfbageoabnaa
