/- Contract: image.numbers, of three words. -/
import Derived.Test.YthmflcmbaldflaaGreatDoorSaveW
import Derived.Test.YthmflcmbaldflaaGreatDoorIpD
namespace Go.Proofs.YthmflcmbaldflaaGreatDoor
open Go.RowKit
set_option linter.unusedVariables false

/-- Texts lie one behind the other. -/
def IsStr (w : World) (g o : Nat) (l : List ByteArray) : Prop := ∀ i (h : i < l.length), w.cell? ⟨g, o + i, none⟩ = some (.string l[i])
theorem IsStr.below {w w' : World} {g o : Nat} {l : List ByteArray} (h : IsStr w g o l) (hb : Below w.heap.size w w') : IsStr w' g o l := fun i hi => (hb.cell (World.block_lt_of_cell? _ _ (h i hi))).trans (h i hi)
def wordsOf (ks : List Nat) : List ByteArray := ks.map fun k => bytB (dec k)
/-- What numbers tells of three words. -/
def NumsP (l : List ByteArray) (w : World) (e : Ending) (w' : World) : Prop :=
  ((∃ a b d v, l = wordsOf [a, b, d] ∧ (a < 9223372036854775808 ∧ b < 9223372036854775808 ∧ d < 9223372036854775808) ∧ e = .returned (.tuple #[v, .bool true]) ∧ w'.ownsRow w.heap.size 3 1 v 3 [.int .i64 (a : Int), .int .i64 (b : Int), .int .i64 (d : Int)]) ∨
    ((∀ a b d, a < 1000000000000000000 → b < 1000000000000000000 → d < 1000000000000000000 → l ≠ wordsOf [a, b, d]) ∧ e = .returned (.tuple #[.slice none 0 0, .bool false]))) ∧ Below w.heap.size w w'
theorem words_take {l : List ByteArray} {a b d k : Nat} (h : l = wordsOf [a, b, d]) (hk : k < l.length) : l[k] = bytB (dec (if k = 0 then a else if k = 1 then b else d)) := by
  subst h
  have hk3 : k < 3 := hk
  rcases (by omega : k = 0 ∨ k = 1 ∨ k = 2) with rfl | rfl | rfl <;> rfl
theorem toListB {x y : ByteArray} (h : x.toList = y.toList) : x = y := by
  rw [Lib.toList_data, Lib.toList_data] at h
  exact ByteArray.ext (Array.toList_inj.1 h)
set_option maxRecDepth 100000 in
set_option maxHeartbeats 4000000 in
theorem numbers_any (g o cap : Nat) (l : List ByteArray) (w : World) (h : IsStr w g o l) (hl : l.length ≤ 100000) (hsz : ∀ s ∈ l, s.size ≤ 1000000) (hlaid : LaidR w) :
    Calls Tryz.prog 27 #[.slice (some ⟨g, o, none⟩) l.length cap, .int .i64 3] w (NumsP l w) := by
  by_cases h3 : l.length = 3
  · have hne : ((3 : Int) != 3) = false := by decide
    have H := Lib.hid h; have Hsz := Lib.hid hsz; have Hl := Lib.hid hlaid; have H3 := Lib.hid h3
    rw [h3]
    clear h hsz hlaid hl h3
    obtain ⟨i0, hi, hz0, hz1, hz2⟩ := info_parts infoIntA
    go_enter Tryz.func27, Tryz.ntmps27
    go_wp2_with fail
    go_loopg [6, 17] 3 (fun gk v i wr => ∃ (k : Nat) (ks : List Nat), k ≤ 3 ∧ gk = 3 - k ∧ i = .int .i64 k ∧ ks.length = k ∧ l.take k = wordsOf ks ∧ (∀ x ∈ ks, x < 9223372036854775808) ∧ Below w.heap.size w wr ∧ wr.ownsRow w.heap.size 3 1 v k (ks.map fun x : Nat => Value.int .i64 (x : Int)))
    case atStart => exact ⟨0, [], by omega, rfl, rfl, rfl, rfl, by simp, Below.refl _ _, World.ownsRow_nil _ _ _ _⟩
    case round =>
      obtain ⟨k, ks, hk, rfl, rfl, hkl, hwd, hlt, hbw, hown⟩ := hrel
      by_cases hk3 : k < 3
      · have hkL : k < l.length := by rw [H3.out]; exact hk3
        have hc := (H.out.below hbw) k hkL
        have hss := Hsz.out _ (List.getElem_mem hkL)
        have hwt : ∀ a b d, l = wordsOf [a, b, d] → l[k] = bytB (dec (if k = 0 then a else if k = 1 then b else d)) := fun a b d e => words_take e hkL
        have htk : l.take (k + 1) = l.take k ++ [l[k]] := List.take_succ_eq_append_getElem hkL
        obtain ⟨s, hs⟩ : ∃ s, s = l[k] := ⟨_, rfl⟩
        rw [← hs] at hc hss hwt htk
        have i1 : (k : Int) < 3 := by omega
        have hat := atoi_any s wr hss (Hl.out.below hbw)
        have Hat := Lib.hid hat; have Hkl := Lib.hid hkl; have Hwd := Lib.hid hwd; have Hlt := Lib.hid hlt; have Hbw := Lib.hid hbw; have Hown := Lib.hid hown; have Hwt := Lib.hid hwt; have Htk := Lib.hid htk
        clear hat hkl hwd hlt hbw hown hwt hss htk hs hkL
        go_wp2_with fail
        refine Hat.out.mono ?_
        rintro e w1 ⟨n, er, rfl, hcase, hb1⟩
        have Hb1 := Lib.hid (Hbw.out.trans (hb1.mono Hbw.out.size)); have Hb1' := Lib.hid hb1; clear hb1 hc
        rcases hcase with ⟨rfl, hok⟩ | ⟨⟨t, v, rfl⟩, hno⟩
        · have hbd := Lib.atoiAll_bounds hok
          have hone : ∀ m : Nat, m < 1000000000000000000 → s = bytB (dec m) → (m : Int) = n := fun m hm e => by
            have h2 := atoi_dec m hm
            rw [e, bytB_data, h2] at hok
            cases hok; rfl
          have Hone := Lib.hid hone; clear hone hok
          by_cases hn0 : n < 0
          · have d1 : decide (n < 0) = true := by simpa using hn0
            have Hn0 := Lib.hid hn0; clear hn0
            go_wp2_with fail
            go_ret2
            refine ⟨.inr ⟨fun a b d ha hb hd e => ?_, rfl⟩, Hb1.out⟩
            have h2 := Hone.out (if k = 0 then a else if k = 1 then b else d) (by split; exact ha; split; exact hb; exact hd) (Hwt.out a b d e)
            have := Hn0.out; omega
          · obtain ⟨m, rfl⟩ : ∃ m : Nat, n = m := ⟨n.toNat, by omega⟩
            have d1 : decide ((m : Int) < 0) = false := by simp
            have hit := itoa_any (m : Int) w1 (by omega) (by omega) (Hl.out.below Hb1.out)
            rw [itoa_dec] at hit
            have hit' : Calls Tryz.prog 23 #[.int .i64 (m : Int)] w1 fun e w' => e = .returned (.string (bytB (dec m))) ∧ Below w1.heap.size w1 w' := hit
            have Hit := Lib.hid hit'; have Hm := Lib.hid hbd.2; clear hit hit' hn0 hbd
            by_cases hy : bytB (dec m) = s
            · have Hy := Lib.hid hy
              rw [hy] at Hit
              clear hy
              go_wp2_with fail
              refine Hit.out.mono ?_
              rintro e w2 ⟨rfl, hb2⟩
              have hown2 := ownsRow_below (ownsRow_below Hown.out Hb1'.out) hb2
              have Hb2 := Lib.hid (Hb1.out.trans (hb2.mono Hb1.out.size)); clear hb2
              have hown3 := hown2.alloc (.cells #[.int .i64 (m : Int)] 3)
              have Hown3 := Lib.hid hown3; clear hown2 hown3
              go_wp2_with (at_builtin; refine wpList_append_own _ rfl (.tmp 38) (.tmp 40) 24 rfl w.heap.size 3 i0 (.int .i64 0) 1 8 Tryz.underlying24 hi hz0 hz1 hz2 rfl (by decide) _ _ _ rfl Hown3.out ⟨w2.heap.size, 0, none⟩ 1 1 [.int .i64 (m : Int)] rfl rfl (cell_one_new _ _ _) (ints_oneCell _ [(m : Int)]) (by simp only [maxLen]; omega) (by omega) (by have := Hb2.out.size; simp; omega) ?_; intro v' w7 hown7 hgrow7 _; have Hf7 := Lib.hid hown7; have Hg7 := Lib.hid hgrow7; clear hown7 hgrow7)
              go_roundg (3 - (k + 1))
              case measure => omega
              case rel =>
                refine ⟨k + 1, ks ++ [m], by omega, rfl, by go_num, by rw [List.length_append, List.length_singleton, Hkl.out], by rw [Htk.out, Hwd.out, ← Hy.out]; unfold wordsOf; simp, fun x hx => ?_, ?_, ?_⟩
                · rcases List.mem_append.1 hx with q | q
                  · exact Hlt.out x q
                  · rw [List.mem_singleton.1 q]; have := Hm.out; omega
                · have h1 : Below w.heap.size w (w2.alloc (.cells #[.int .i64 (m : Int)] 3)) := Hb2.out.alloc Hb2.out.size _
                  exact h1.trans ((Below.refl _ _).grown Hg7.out h1.size (fun k hk => (Hown3.out.lt k hk).1))
                · have q := Hf7.out
                  rw [List.map_append]
                  exact q
            · have d2 : ((bytB (dec m)).toList == s.toList) = false := beq_false_of_ne (fun h => hy (toListB h))
              have Hy := Lib.hid hy; clear hy
              generalize hgy : bytB (dec m) = y at Hit d2 Hy
              have Hgy := Lib.hid hgy; clear hgy
              go_wp2_with fail
              refine Hit.out.mono ?_
              rintro e w2 ⟨rfl, hb2⟩
              have Hb2 := Lib.hid (Hb1.out.trans (hb2.mono Hb1.out.size)); clear hb2
              go_wp2_with fail
              go_ret2
              refine ⟨.inr ⟨fun a b d ha hb hd e => ?_, rfl⟩, Hb2.out⟩
              have h2 := Hone.out (if k = 0 then a else if k = 1 then b else d) (by split; exact ha; split; exact hb; exact hd) (Hwt.out a b d e)
              have h3 : (if k = 0 then a else if k = 1 then b else d) = m := by omega
              have h4 := Hwt.out a b d e
              rw [h3, Hgy.out] at h4
              exact Hy.out h4.symm
        · have Hno := Lib.hid hno; clear hno
          go_wp2_with fail
          go_ret2
          refine ⟨.inr ⟨fun a b d ha hb hd e => ?_, rfl⟩, Hb1.out⟩
          have h2 := Hwt.out a b d e
          refine Hno.out (((if k = 0 then a else if k = 1 then b else d : Nat)) : Int) ?_
          rw [h2, bytB_data]
          exact atoi_dec _ (by split; exact ha; split; exact hb; exact hd)
      · obtain rfl : k = 3 := by omega
        obtain ⟨a, b, d, rfl⟩ : ∃ a b d, ks = [a, b, d] := by
          match ks, hkl with
          | [a, b, d], _ => exact ⟨a, b, d, rfl⟩
        have Hwd := Lib.hid hwd; have Hlt := Lib.hid hlt; have Hbw := Lib.hid hbw; have Hown := Lib.hid hown
        clear hwd hlt hbw hown hkl
        go_wp2_with fail
        go_ret2
        refine ⟨.inl ⟨a, b, d, _, ?_, ⟨Hlt.out a (by simp), Hlt.out b (by simp), Hlt.out d (by simp)⟩, rfl, Hown.out⟩, Hbw.out⟩
        have := Hwd.out
        rwa [List.take_of_length_le (by rw [H3.out]; exact Nat.le_refl _)] at this
  · have hne : ((l.length : Int) != 3) = true := by simp; omega
    have hne2 : (l.length != 3) = true := by simp; omega
    have H3 := Lib.hid h3; clear h3 h
    go_enter Tryz.func27, Tryz.ntmps27
    go_wp2_with fail
    go_ret2
    refine ⟨.inr ⟨fun a b d _ _ _ e => H3.out (by rw [e]; rfl), rfl⟩, Below.refl _ _⟩
end Go.Proofs.YthmflcmbaldflaaGreatDoor
