/- Contracts: semver.made at nil; Range.Not. -/
import Derived.Test.YtheemhelioendaaGreatDoorMade
namespace Go.Proofs.YtheemhelioendaaGreatDoor
open Go.RowKit
set_option linter.unusedVariables false

theorem IsSp.nil (w : World) : IsSp w (.slice none 0 0) [] := .inl ⟨rfl, rfl⟩
theorem IsSp.shape {w : World} {v : Value} {l : List Spn} (h : IsSp w v l) : ∃ a c, v = .slice a l.length c ∧ l.length ≤ c ∧ c ≤ maxLen := by
  rcases h with ⟨rfl, rfl⟩ | ⟨g, cap, f, rfl, h1, h2, _⟩
  · exact ⟨_, _, rfl, Nat.le_refl _, Nat.zero_le _⟩
  · exact ⟨_, _, rfl, h2.cap, h1⟩
theorem IsSp.get {w : World} {a : Option Addr} {n c : Nat} {l : List Spn} (h : IsSp w (.slice a n c) l) {k : Nat} (hk : k < l.length) :
    ∃ g, a = some ⟨g, 0, none⟩ ∧ g < w.heap.size ∧ w.cell? ⟨g, k * 2, none⟩ = some (.int .i64 l[k].1) ∧ w.cell? ⟨g, k * 2 + 1, none⟩ = some (.int .i64 l[k].2) := by
  rcases h with ⟨_, rfl⟩ | ⟨g, cap, f, e, h1, h2, h3⟩
  · simp at hk
  · cases e
    have e1 : f k = l[k] := by
      have : (spL l.length f)[k]? = l[k]? := by rw [h3]
      rw [List.getElem?_eq_getElem hk] at this
      unfold spL at this
      rw [List.getElem?_map, List.getElem?_range hk] at this
      simpa using this
    exact ⟨g, rfl, h2.lt, by rw [← e1]; exact h2.cell1 hk, by rw [← e1]; exact h2.cell2 hk⟩

set_option maxRecDepth 100000 in
set_option maxHeartbeats 4000000 in
theorem sortNil_any (cf : Value) (w : World) : Calls Tryz.prog 174 #[.slice none 0 0, cf] w fun e w' => e = .returned (.tuple #[]) ∧ w' = w := by
  have hl : ∀ W, Calls Tryz.prog 107 #[.int .u64 0] W fun e w' => e = .returned (.int .i64 (Lib.bitLen 0 : Nat)) ∧ w' = W := fun W => Any.bits_Len Tryz.lays125 0 W (by omega) (by omega)
  have hi : ∀ w : World, Calls Tryz.prog 197 #[.slice none 0 0, .int .i64 0, .int .i64 0, cf] w fun e w' => e = .returned (.tuple #[]) ∧ w' = w := fun w => by
    go_enter Tryz.func197, Tryz.ntmps197
    go_wp2_with fail
    go_loopg [8] 0 (fun gk i wr => i = .int .i64 1 ∧ w = wr)
    case atStart => exact ⟨rfl, rfl⟩
    case round =>
      obtain ⟨rfl, rfl⟩ := hrel
      go_wp2_with fail
      go_end0
      exact ⟨rfl, rfl⟩
  have hp : ∀ (lim : Int) (w : World), Calls Tryz.prog 190 #[.slice none 0 0, .int .i64 0, .int .i64 0, .int .i64 lim, cf] w fun e w' => e = .returned (.tuple #[]) ∧ w' = w := fun lim w => by
    have Hi := Lib.hid hi
    clear hi hl
    go_enter Tryz.func190, Tryz.ntmps190
    go_wp2_with fail
    go_loopg [1, 2, 3] 0 (fun gk a b l wr => a = .int .i64 0 ∧ b = .int .i64 0 ∧ l = .int .i64 lim ∧ w = wr)
    case atStart => exact ⟨rfl, rfl, rfl, rfl⟩
    case round =>
      obtain ⟨rfl, rfl, rfl, rfl⟩ := hrel
      go_wp2_with fail
      refine (Hi.out _).mono ?_
      rintro e w1 ⟨rfl, rfl⟩
      go_wp2_with fail
      refine bodyPost_ret (results_none rfl _ _ _) rfl ⟨rfl, rfl⟩
  have Hl := Lib.hid hl; have Hp := Lib.hid hp
  clear hl hp hi
  go_enter Tryz.func174, Tryz.ntmps174
  go_wp2_with fail
  refine (Hl.out _).mono ?_
  rintro e w1 ⟨rfl, rfl⟩
  go_wp2_with fail
  refine (Hp.out _ _).mono ?_
  rintro e w1 ⟨rfl, rfl⟩
  go_wp2_with fail
  go_end0
  exact ⟨rfl, rfl⟩
set_option maxHeartbeats 2000000 in
theorem madeNil_any (B : Nat) (w : World) (hB : B ≤ w.heap.size) : Calls Tryz.prog 143 #[.slice none 0 0] w (MadeP [] B w) := by
  have hi : ∀ w : World, Calls Tryz.prog 96 #[.slice none 0 0, .func (.func 173) #[] #[]] w fun e w' => e = .returned (.int .i64 (-1)) ∧ w' = w := fun w => by
    go_enter Tryz.func96, Tryz.ntmps96
    go_wp2_with fail
    go_loopg [8] 0 (fun gk i wr => gk = 0 ∧ i = .int .i64 0 ∧ w = wr)
    case atStart => exact ⟨rfl, rfl, rfl⟩
    case round =>
      obtain ⟨rfl, rfl, rfl⟩ := hrel
      go_wp2_with fail
      go_ret
      exact ⟨rfl, rfl⟩
  have hd : ∀ w : World, Calls Tryz.prog 172 #[.slice none 0 0, .func (.func 173) #[] #[]] w fun e w' => e = .returned (.slice none 0 0) ∧ w' = w := fun w => by
    go_enter Tryz.func172, Tryz.ntmps172
    go_wp2_with fail
    refine (hi _).mono ?_
    rintro e w1 ⟨rfl, rfl⟩
    go_wp2_with fail
    go_ret
    exact ⟨rfl, rfl⟩
  have hs : ∀ w : World, Calls Tryz.prog 174 #[.slice none 0 0, .func (.func 175) #[] #[]] w fun e w' => e = .returned (.tuple #[]) ∧ w' = w := fun w =>
    sortNil_any (.func (.func 175) #[] #[]) w
  have hal : Below B w (w.alloc (.cells #[.slice none 0 0] 49)) := (Below.refl _ _).alloc hB _
  have Hal := Lib.hid hal; have Hd := Lib.hid hd; have Hs := Lib.hid hs
  clear hal hd hs hi
  go_enter Tryz.func143, Tryz.ntmps143
  go_wp2_with fail
  refine (Hd.out _).mono ?_
  rintro e w1 ⟨rfl, rfl⟩
  go_wp2_with fail
  refine (Hs.out _).mono ?_
  rintro e w1 ⟨rfl, rfl⟩
  go_wp2_with fail
  go_loopg [3, 13] 0 (fun gk vo i wr => gk = 0 ∧ vo = .slice none 0 0 ∧ i = .int .i64 0 ∧ w.alloc (.cells #[.slice none 0 0] 49) = wr)
  case atStart => exact ⟨rfl, rfl, rfl, rfl⟩
  case round =>
    obtain ⟨rfl, rfl, rfl, rfl⟩ := hrel
    go_wp2_with fail
    refine bodyPost_ret (v := .agg #[.slice none 0 0]) (by simp [results, Tryz.results143, go_sem]) rfl ⟨_, [], rfl, IsSp.nil _, ⟨Canon.nil, fun x => Iff.rfl⟩, Nat.le_refl _, fun b hb => (by cases hb), Hal.out⟩

theorem OutR.row {w : World} {base : Nat} {v : Value} {n : Nat} {f : Nat → Spn} (h : OutR w base v (n + 1) f) : ∃ g cap, v = .slice (some ⟨g, 0, none⟩) (n + 1) cap ∧ base ≤ g ∧ cap ≤ maxLen ∧ SRow w g cap (n + 1) f := by
  rcases h with ⟨_, h⟩ | h
  · omega
  · exact h
theorem IsSp.set_other {w : World} {v : Value} {l : List Spn} (h : IsSp w v l) {b : Nat} (hb : ∀ k, v.ownBlock = some k → b < k) (u : Value) : IsSp (w.setCell ⟨b, 0, none⟩ u) v l := by
  rcases h with h | ⟨g, cap, f, rfl, h1, h2, h3⟩
  · exact .inl h
  · have := hb g rfl
    exact .inr ⟨g, cap, f, rfl, h1, h2.keep (Below.heap_setCell _ _ _ _ (by show g ≠ b; omega)), h3⟩
def NotP (l : List Spn) (w : World) (e : Ending) (w' : World) : Prop :=
  ∃ v r, e = .returned (.agg #[v]) ∧ IsSp w' v r ∧ NotR l r ∧ r.length ≤ l.length + 1 ∧ (∀ b, v.ownBlock = some b → w.heap.size ≤ b) ∧ Below w.heap.size w w'

set_option maxRecDepth 100000 in
set_option maxHeartbeats 8000000 in
theorem not_any (vs : Value) (l : List Spn) (w : World) (h : IsSp w vs l) (hc : Canon l) (hl : l.length ≤ 50000) : Calls Tryz.prog 144 #[.agg #[vs]] w (NotP l w) := by
  obtain ⟨a, c, rfl, hlc, hcm⟩ := h.shape
  have hal : Below w.heap.size w ((w.alloc (.cells #[.slice a l.length c] 49)).alloc (.cells #[.slice none 0 0] 49)) := ((Below.refl _ _).alloc (Nat.le_refl _) _).alloc (by simp) _
  have hblk : ((w.alloc (.cells #[.slice a l.length c] 49)).alloc (.cells #[.slice none 0 0] 49)).heap[w.heap.size + 1]? = some (.cells #[.slice none 0 0] 49 (0, 0)) := heap_at (by simp)
  have hsz : ((w.alloc (.cells #[.slice a l.length c] 49)).alloc (.cells #[.slice none 0 0] 49)).heap.size = w.heap.size + 1 + 1 := by simp
  have H := Lib.hid h; have Hal := Lib.hid hal; have Hblk := Lib.hid hblk; have Hc := Lib.hid hc; have Hsz := Lib.hid hsz
  clear h hal hblk hc hsz
  go_enter Tryz.func144, Tryz.ntmps144
  go_wp2_with fail
  generalize (w.alloc (.cells #[.slice a l.length c] 49)).alloc (.cells #[.slice none 0 0] 49) = wA at Hal Hblk Hsz ⊢
  go_loopg [3, 4, 10] l.length (fun gk vo at_ i wr => ∃ (k : Nat) (fo : Nat → Spn), k ≤ l.length ∧ gk = l.length - k ∧ i = .int .i64 k ∧ at_ = .int .i64 (endL 0 (l.take k)) ∧ OutR wr (w.heap.size + 1 + 1) vo k fo ∧ spL k fo = gapsL 0 (l.take k) ∧ Below (w.heap.size + 1 + 1) wA wr)
  case atStart => exact ⟨0, fun _ => (0, 0), Nat.zero_le _, rfl, rfl, rfl, OutR.nil _ _ _, rfl, Below.refl _ _⟩
  case round =>
    obtain ⟨k, fo, hk, rfl, rfl, rfl, hout, hgap, hbw⟩ := hrel
    obtain ⟨wo, rfl⟩ : ∃ y, y = wr := ⟨_, rfl⟩
    obtain ⟨ao, co, rfl⟩ := hout.shape
    have sbw := hbw.size
    have hsA := Hsz.out
    by_cases hlt : k < l.length
    · have hbel := Hal.out.trans (hbw.mono (by omega))
      obtain ⟨g, rfl, hgl, c1, c2⟩ := (H.out.below hbel).get hlt
      have htk : l.take (k + 1) = l.take k ++ [l[k]] := List.take_succ_eq_append_getElem hlt
      have hg2 := gaps_snoc 0 (l.take k) l[k]
      have he2 := end_snoc 0 (l.take k) l[k]
      rw [← htk, ← hgap] at hg2
      rw [← htk] at he2
      generalize l[k] = s at c1 c2 hg2 he2
      generalize endL 0 (l.take k) = at_ at hg2 ⊢
      have Hg2 := Lib.hid hg2; have He2 := Lib.hid he2; have Hbw := Lib.hid hbw; have Hout := Lib.hid hout
      have Hal2 := Lib.hid (show Below wo.heap.size wo (wo.alloc (.cells #[.int .i64 s.1, .int .i64 s.2] 115)) from (Below.refl _ _).alloc (Nat.le_refl _) _)
      have Hcell := Lib.hid (show ∀ w9 : World, (∀ k', k' < (wo.alloc (.cells #[.int .i64 s.1, .int .i64 s.2] 115)).heap.size → (Value.slice ao k co).ownBlock ≠ some k' → w9.heap[k']? = (wo.alloc (.cells #[.int .i64 s.1, .int .i64 s.2] 115)).heap[k']?) → w9.cell? ⟨wo.heap.size, 1, none⟩ = some (.int .i64 s.2) from fun w9 h9 => by
        have e := (h9 wo.heap.size (by rw [alloc_size]; omega) (fun e => by have := hout.lt _ e; omega)).trans (heap_at rfl)
        rw [cell_of_row _ _ _ _ _ _ e]; rfl)
      clear hg2 he2 hbw hout hgap htk hbel
      go_wp2_with (at_builtin; refine wpList_append_span rfl (.tmp 14) (.tmp 19) rfl (w.heap.size + 1 + 1) _ k fo rfl (Hout.out.below Hal2.out) at_ s.1 (wo.heap.size + 1) (alloc_size wo _).symm rfl (by omega) (by rw [alloc_size]; omega) ?_; intro v9 w9 ho9 hb9 hk9; have Ho9 := Lib.hid ho9; have Hb9 := Lib.hid hb9; have e1 := Hcell.out w9 hk9; clear ho9 hb9 hk9)
      go_roundg (l.length - (k + 1))
      case measure => omega
      case rel => exact ⟨k + 1, _, by omega, rfl, by go_num, by rw [He2.out], Ho9.out, by rw [spL_upd]; exact Hg2.out.symm, Hbw.out.trans ((Hal2.out.mono (by omega)).trans Hb9.out)⟩
    · obtain rfl : k = l.length := by omega
      rw [List.take_length] at hgap
      have hfit := gaps_fit (Int.le_refl 0) Hc.out
      rw [← hgap, ← spL_upd] at hfit
      have hnot := fun r hr => NotR.of_made (r := r) Hc.out hr
      rw [← hgap, ← spL_upd] at hnot
      have htl : l.take l.length = l := List.take_length
      rw [htl]
      generalize endL 0 l = at_ at hfit hnot ⊢
      have Hfit := Lib.hid hfit; have Hnot := Lib.hid hnot; have Hbw := Lib.hid hbw; have Hout := Lib.hid hout
      have Hal2 := Lib.hid (show Below wo.heap.size wo (wo.alloc (.cells #[.int .i64 at_, .int .i64 pastV] 115)) from (Below.refl _ _).alloc (Nat.le_refl _) _)
      clear hfit hnot hbw hout hgap
      go_wp2_with (at_builtin; refine wpList_append_span rfl (.tmp 24) (.tmp 27) rfl (w.heap.size + 1 + 1) _ l.length fo rfl Hout.out at_ 1000000000 wo.heap.size rfl rfl (by omega) (by omega) ?_; intro v9 w9 ho9 hb9 _; obtain ⟨g9, c9, e9, q1, q2, q3⟩ := ho9.row; cases e9; have Hb9 := Lib.hid hb9; have Q3 := Lib.hid q3; clear ho9 hb9 q3)
      have hb9 := Hbw.out.trans Hb9.out
      have s9 := hb9.size
      refine (made_any g9 c9 (l.length + 1) (w.heap.size + 1 + 1) _ w9 Q3.out Hfit.out (by omega) q2 q1 (by omega)).mono ?_
      rintro e w10 ⟨v10, r, rfl, hsp, hmd, hlen, hfr, hb10⟩
      obtain ⟨a10, c10, rfl, _⟩ := hsp.shape
      have hblk10 := (hb10.block _ (by omega)).trans ((hb9.block _ (by omega)).trans Hblk.out)
      have d1 := cell_of_one hblk10; have d2 := free_of_one hblk10; have d3 := lt_of_block hblk10
      have k4 := cell_of_one (one_setCell (u := .slice a10 r.length c10) hblk10)
      have hfin := (Hal.out.trans ((hb9.trans hb10).mono (by omega))).setCell (p := ⟨w.heap.size + 1, 0, none⟩) (by show w.heap.size ≤ w.heap.size + 1; omega) (.slice a10 r.length c10)
      have hsp2 := hsp.set_other (b := w.heap.size + 1) (fun b hb => by have := hfr b hb; omega) (.slice a10 r.length c10)
      rw [spL_len] at hlen
      have Hfin := Lib.hid hfin; have Hsp2 := Lib.hid hsp2; have Hmd := Lib.hid hmd; have Hlen := Lib.hid hlen; have Hfr := Lib.hid hfr
      clear hfin hsp2 hmd hlen hsp hfr hb10 hblk10 hb9
      go_wp2_with fail
      exact bodyPost_ret (v := .agg #[.slice a10 r.length c10]) (by simp [results, Tryz.results144, go_sem, k4]) rfl ⟨_, r, rfl, Hsp2.out, Hnot.out r Hmd.out, Hlen.out, fun b hb => by have := Hfr.out b hb; omega, Hfin.out⟩
end Go.Proofs.YtheemhelioendaaGreatDoor
