/- Contract: image.Load. -/
import Derived.Test.YthmflcmbaldflaaGreatDoorNumsW
import Derived.Test.YthmflcmbaldflaaGreatDoorIpG
import Derived.Test.YthmflcmbaldflaaGreatDoorTell
import Derived.Test.YthmflcmbaldflaaGreatDoorFuns
import Derived.Lib.SlBytesRow
namespace Go.Proofs.YthmflcmbaldflaaGreatDoor
open Go.RowKit
set_option linter.unusedVariables false

theorem IsBy.bytes {w : World} {g : Nat} {l : List UInt8} (h : IsBy w g l) : Lib.Bytes w g 0 (bytB l) := fun i hi => by
  have hi' : i < l.length := hi
  rw [Nat.zero_add]
  exact h i hi'
theorem isStr_cells {w : World} {k : Nat} {l : List ByteArray} {T : TypeId} (h : w.heap[k]? = some (.cells (l.map Value.string).toArray T (0, 0))) : IsStr w k 0 l := fun i hi => by
  rw [Nat.zero_add, cell_of_row w _ _ _ _ _ h]
  simp [hi]
theorem IsStr.tail {w : World} {k : Nat} {x : ByteArray} {l : List ByteArray} (h : IsStr w k 0 (x :: l)) : IsStr w k 1 l := fun i hi => by
  have := h (i + 1) (by simp; omega)
  rw [Nat.zero_add] at this
  rw [Nat.add_comm 1 i]
  simpa using this
theorem cut_len (x : UInt8) (s : ByteArray) : (cutB x s).length = Lib.countB s (bytB [x]) + 1 := Lib.splitB_all (bytB [x]) (Nat.le_refl 1) 0 _ s rfl
theorem cut_sizes (x : UInt8) (s : ByteArray) : ∀ y ∈ cutB x s, y.size ≤ s.size := by
  have key : ∀ (k : Nat) (s y : ByteArray), y ∈ Lib.splitB (bytB [x]) 0 k s → y.size ≤ s.size := by
    intro k
    induction k with
    | zero => intro s y h; rw [Lib.splitB_zero, List.mem_singleton] at h; rw [h]; exact Nat.le_refl _
    | succ k ih =>
      intro s y h
      unfold Lib.splitB at h
      split at h
      · rw [List.mem_singleton] at h; rw [h]; exact Nat.le_refl _
      · rcases List.mem_cons.1 h with rfl | h
        · simp [ByteArray.size_extract]; omega
        · have := ih _ _ h
          simp [ByteArray.size_extract] at this; omega
  exact fun y hy => key _ s y hy
theorem cut_count (x : UInt8) (s : ByteArray) : (cutB x s).length ≤ s.size + 1 := by
  rw [cut_len]
  have := Lib.countB_le (bytB [x]) (Nat.le_refl 1) s.size s (Nat.le_refl _)
  omega
theorem split_cut (x : UInt8) (s : ByteArray) (w : World) (hs : s.size ≤ 1000000) (h : LaidR w) : Calls Tryz.prog 26 #[.string s, .string (bytB [x])] w fun e w' =>
    e = .returned (.slice (some ⟨w.heap.size, 0, none⟩) (cutB x s).length (cutB x s).length) ∧ w' = w.alloc (.cells ((cutB x s).map Value.string).toArray 9) := by
  rw [cut_len]
  exact split_any s (bytB [x]) w hs (Nat.le_refl 1) h
theorem two_last {α : Type} {l : List α} {n : Nat} (h : n + 2 = l.length) : ∃ ls s1 s2, l = ls ++ [s1, s2] ∧ ls.length = n := by
  have e : l = l.take n ++ l.drop n := (List.take_append_drop n l).symm
  have hl : (l.drop n).length = 2 := by rw [List.length_drop]; omega
  generalize l.drop n = d at e hl
  match d, hl with
  | [a, b], _ => exact ⟨l.take n, a, b, e, by rw [List.length_take]; omega⟩
theorem owns3 {w : World} {base T : Nat} {v : Value} {x y z : Value} (h : w.ownsRow base T 1 v 3 [x, y, z]) : ∃ g cap, v = .slice (some ⟨g, 0, none⟩) 3 cap ∧ base ≤ g ∧ g < w.heap.size ∧ w.cell? ⟨g, 0, none⟩ = some x ∧ w.cell? ⟨g, 1, none⟩ = some y ∧ w.cell? ⟨g, 2, none⟩ = some z := by
  have hc := fun g => World.ownsRow.cells h (g := g)
  have hlt := World.ownsRow.lt h
  have ha : ∀ (g j : Nat), (⟨g, 0, none⟩ : Addr).add j = ⟨g, j, none⟩ := fun g j => by
    have : (⟨g, 0, none⟩ : Addr).add j = ⟨g, 0 + j, none⟩ := by unfold Addr.add; split <;> simp_all
    rwa [Nat.zero_add] at this
  rcases h.2 with ⟨rfl, h3⟩ | ⟨g, cap, cur, rfl, _⟩
  · omega
  · have h1 := hlt g rfl
    have c0 := hc g rfl 0 x rfl
    have c1 := hc g rfl 1 y rfl
    have c2 := hc g rfl 2 z rfl
    rw [ha] at c0 c1 c2
    exact ⟨g, cap, rfl, h1.1, h1.2, c0, c1, c2⟩
theorem equal_any (g1 g2 c1 c2 : Nat) (x y : List UInt8) (w : World) (hx : IsBy w g1 x) (hy : IsBy w g2 y) : Calls Tryz.prog 30 #[.slice (some ⟨g1, 0, none⟩) x.length c1, .slice (some ⟨g2, 0, none⟩) y.length c2] w fun e w' => e = .returned (.bool (decide (x = y))) ∧ w' = w := by
  have h1 := Lib.run_convert_whole (P := Tryz.prog) w 28 5 9 Tryz.underlying28 Tryz.underlying5 Tryz.underlying9 g1 0 (bytB x) hx.bytes c1
  have h2 := Lib.run_convert_whole (P := Tryz.prog) w 28 5 9 Tryz.underlying28 Tryz.underlying5 Tryz.underlying9 g2 0 (bytB y) hy.bytes c2
  rw [show (bytB x).size = x.length from rfl] at h1
  rw [show (bytB y).size = y.length from rfl] at h2
  have he : ((bytB x).toList == (bytB y).toList) = decide (x = y) := by
    rw [Lib.toList_data, Lib.toList_data, bytB_data, bytB_data]
    by_cases e : x = y
    · subst e; simp
    · rw [decide_eq_false e]; exact beq_false_of_ne e
  clear hx hy
  go_enter Tryz.func30, Tryz.ntmps30
  go_wp2_with fail
  go_ret
  exact ⟨by rw [← he]; rfl, rfl⟩
/-- Load's answer. -/
def LoadP (ds : List UInt8) (w : World) (e : Ending) (w' : World) : Prop :=
  ((∃ V c h s, LoadOk 4000 (bytB ds) V c h ∧ e = .returned (.tuple #[.pointer (some ⟨s.ps, 0, none⟩), .int .i64 h, .nilIface]) ∧ IsSpace w' s (V : Int) ⟨c, noQ⟩ ∧ w.heap.size ≤ s.ps ∧ ∀ k, s.mem k → w.heap.size ≤ k) ∨
    (NoLoad 4000 (bytB ds) ∧ ∃ p h t v, e = .returned (.tuple #[p, .int .i64 h, .iface t v]) ∧ p = .pointer none)) ∧ Below w.heap.size w w'
theorem loadP_no {ds : List UInt8} {w w' : World} {k : Int} (h : NoLoad 4000 (bytB ds)) (hb : Below w.heap.size w w') : LoadP ds w (.returned (.tuple #[.pointer none, .int .i64 0, .iface 59 (.int .i64 k)])) w' := ⟨.inr ⟨h, _, _, _, _, rfl, rfl⟩, hb⟩
set_option maxRecDepth 100000 in
set_option maxHeartbeats 16000000 in
theorem load_any (g cap : Nat) (ds : List UInt8) (w : World) (h : IsBy w g ds) (hl : ds.length ≤ 1000000) (hlaid : LaidR w) (htl : TypeLaid w) :
    Calls Tryz.prog 9 #[.slice (some ⟨g, 0, none⟩) ds.length cap, .int .i64 4000] w (LoadP ds w) := by
  have Hby := Lib.hid h; have Hl := Lib.hid hlaid; have Htl := Lib.hid htl
  clear h hlaid htl
  by_cases hbig : 20000 < ds.length
  · have d0 : (20000 : Int) < (ds.length : Int) := by omega
    have Hno := Lib.hid (load_big (R := 4000) (ds := bytB ds) hbig)
    clear hl hbig
    go_enter Tryz.func9, Tryz.ntmps9
    go_wp2_with fail
    go_ret3
    exact loadP_no Hno.out (Below.refl _ _)
  have d0 : ¬ (20000 : Int) < (ds.length : Int) := by omega
  have hcv := Lib.run_convert_whole (P := Tryz.prog) w 28 5 9 Tryz.underlying28 Tryz.underlying5 Tryz.underlying9 g 0 (bytB ds) Hby.out.bytes cap
  have hsz : (bytB ds).size = ds.length := rfl
  rw [hsz] at hcv
  have hsp := split_cut 10 (bytB ds) w (by rw [hsz]; omega) Hl.out
  have hLc := cut_count 10 (bytB ds)
  have hLs := cut_sizes 10 (bytB ds)
  obtain ⟨L, hL⟩ : ∃ L, L = cutB 10 (bytB ds) := ⟨_, rfl⟩
  rw [← hL] at hsp hLc hLs
  have hLl := cut_len 10 (bytB ds)
  rw [← hL] at hLl
  obtain ⟨hd, rest, rfl⟩ : ∃ hd rest, L = hd :: rest := by
    cases L with
    | nil => simp at hLl
    | cons a b => exact ⟨a, b, rfl⟩
  rw [List.length_cons] at hsp hLc
  have Hsp := Lib.hid hsp; have HL := Lib.hid hL; have HLc := Lib.hid hLc; have HLs := Lib.hid hLs; have Hds := Lib.hid (show ds.length ≤ 20000 by omega)
  clear hsp hL hLc hLs hLl hsz hl hbig
  go_enter Tryz.func9, Tryz.ntmps9
  go_wp2_with fail
  refine Hsp.out.mono ?_
  rintro e w1 ⟨rfl, hw1⟩
  have hb1 : Below w.heap.size w w1 := by rw [hw1]; exact (Below.refl _ _).alloc (Nat.le_refl _) _
  have hL1 : IsStr w1 w.heap.size 0 (hd :: rest) := isStr_cells (by rw [hw1]; exact heap_at rfl)
  clear hw1 Hsp hcv
  have hc1 := hL1 0 (by simp)
  rw [Nat.add_zero, List.getElem_cons_zero] at hc1
  have hhs := HLs.out hd (List.mem_cons_self ..)
  rw [show (bytB ds).size = ds.length from rfl] at hhs
  have hsp := split_cut 32 hd w1 (by have := Hds.out; omega) (Hl.out.below hb1)
  have hWc := cut_count 32 hd
  have hWs := cut_sizes 32 hd
  obtain ⟨W0, hW0⟩ : ∃ W0, W0 = cutB 32 hd := ⟨_, rfl⟩
  have hWl := cut_len 32 hd
  rw [← hW0] at hsp hWc hWs hWl
  obtain ⟨x0, ws, rfl⟩ : ∃ x0 ws, W0 = x0 :: ws := by
    cases W0 with
    | nil => simp at hWl
    | cons a b => exact ⟨a, b, rfl⟩
  rw [List.length_cons] at hsp hWc
  have i0 : (0 : Int) < ((rest.length : Int) + 1) := by omega
  have Hsp := Lib.hid hsp; have HW0 := Lib.hid hW0; have HWc := Lib.hid hWc; have HWs := Lib.hid hWs; have Hb1 := Lib.hid hb1; have HL1 := Lib.hid hL1; have Hhs := Lib.hid hhs
  clear hsp hW0 hWc hWs hWl hb1 hL1 hhs
  go_wp2_with fail
  refine Hsp.out.mono ?_
  rintro e w2 ⟨rfl, hw2⟩
  have hb2 : Below w1.heap.size w1 w2 := by rw [hw2]; exact (Below.refl _ _).alloc (Nat.le_refl _) _
  have hW2 : IsStr w2 w1.heap.size 0 (x0 :: ws) := isStr_cells (by rw [hw2]; exact heap_at rfl)
  clear hw2 Hsp hc1 i0
  have hc2 := hW2 0 (by simp)
  rw [Nat.add_zero, List.getElem_cons_zero] at hc2
  have hL20 : LaidR w2 := Hl.out.below (Hb1.out.trans (hb2.mono Hb1.out.size))
  have Hb2 := Lib.hid hb2; have HL2 := Lib.hid (HL1.out.below hb2); have HW2 := Lib.hid hW2; have Hc2 := Lib.hid hc2; have Hl2 := Lib.hid hL20
  clear hb2 hW2 HL1 hc2 hL20
  -- which texts have no such head
  have hnoh : (∀ a b d, a < 1000000000000000000 → b < 1000000000000000000 → d < 1000000000000000000 → x0 = bytB spaceT → ws ≠ wordsOf [a, b, d]) → NoLoad 4000 (bytB ds) := fun hno => load_head HL.out.symm (fun V n t h1 h2 h3 hh => by
    have := HLc.out
    rw [show (bytB ds).size = ds.length from rfl] at this
    have h4 := Hds.out
    unfold HeadR at hh
    rw [← HW0.out] at hh
    injection hh with e1 e2
    exact hno V n t (by omega) (by omega) (by omega) e1 e2)
  have Hnoh := Lib.hid hnoh; clear hnoh
  cases ws with
  | nil =>
    have hnum := numbers_any w1.heap.size 0 0 [] w2 (fun i hi => by simp at hi) (by simp) (fun s hs => by simp at hs) Hl2.out
    have Hnum := Lib.hid hnum; clear hnum
    have i1 : (1 : Int) ≤ 1 := by omega
    go_wp2_with fail
    refine Hnum.out.mono ?_
    rintro e w3 ⟨⟨a, b, d, v, hw, _⟩ | ⟨_, rfl⟩, hb3⟩
    · cases hw
    · go_wp2_with fail
      go_ret3
      exact loadP_no (Hnoh.out (fun a b d _ _ _ _ e => by cases e)) (Hb1.out.trans ((Hb2.out.trans (hb3.mono Hb2.out.size)).mono Hb1.out.size))
  | cons y ws =>
    have hnum := numbers_any w1.heap.size 1 (ws.length + 1) (y :: ws) w2 HW2.out.tail (by have := HWc.out; have := Hhs.out; have := Hds.out; omega) (fun s hs => by have := HWs.out s (List.mem_cons_of_mem _ hs); have := Hhs.out; have := Hds.out; omega) Hl2.out
    rw [List.length_cons] at hnum
    have Hnum := Lib.hid hnum; clear hnum
    rw [List.length_cons]
    have i1 : (1 : Int) ≤ ((ws.length : Int) + 1 + 1) := by omega
    go_wp2_with fail
    refine Hnum.out.mono ?_
    rintro e w3 ⟨⟨V, n, t, v, hw, ⟨hV63, hn63, ht63⟩, rfl, hown⟩ | ⟨hno, rfl⟩, hb3⟩
    · obtain ⟨gh, ch, rfl, hgh, hgl, ch0, ch1, ch2⟩ := owns3 hown
      have Hb3 := Lib.hid (Hb1.out.trans ((Hb2.out.trans (hb3.mono Hb2.out.size)).mono Hb1.out.size))
      have Hgh := Lib.hid (And.intro hgh hgl)
      have hL3 := HL2.out.below hb3
      have hc3 := (HW2.out.below hb3) 0 (by simp)
      rw [Nat.add_zero, List.getElem_cons_zero] at hc3
      have hc30 := hL3 0 (by simp)
      rw [Nat.add_zero, List.getElem_cons_zero] at hc30
      have HL3 := Lib.hid hL3
      have Hw := Lib.hid hw; have HVn := Lib.hid (And.intro hV63 (And.intro hn63 ht63))
      have Hl3 := Lib.hid (Hl.out.below Hb3.out)
      clear hown hgh hgl hL3 hb3 hw hc30 Hb2 HL2 HW2 Hc2 Hl2 Hnum i1
      have j0 : (0 : Int) < (ws.length : Int) + 1 + 1 := by omega
      by_cases hx : x0 = bytB spaceT
      · have hhd : HeadR hd V n t := by
          unfold HeadR
          rw [← HW0.out, Hw.out, hx]; rfl
        have Hhd := Lib.hid hhd; clear hhd
        have dx : x0.toList = [115, 112, 97, 99, 101] := by rw [hx, Lib.toList_data]; rfl
        clear hx
        by_cases hV : 24 < V
        · have d1 : (24 : Int) < (V : Int) := by omega
          have HV := Lib.hid hV; clear hV
          go_wp2_with fail
          go_ret3
          refine loadP_no (load_head HL.out.symm (fun V' n' t' h1 h2 h3 hh => ?_)) Hb3.out
          obtain ⟨rfl, _, _⟩ := Hhd.out.one hh
          have := HV.out; omega
        · have d1 : ¬ (24 : Int) < (V : Int) := by omega
          by_cases hn : n + 2 = rest.length
          · have h20 := HLc.out
            rw [show (bytB ds).size = ds.length from rfl] at h20
            have h21 := Hds.out
            obtain ⟨ls, s1, s2, rfl, hln⟩ := two_last hn
            subst hln
            clear hn
            rw [List.length_append] at h20
            have hls2 : ls.length + 3 ≤ ds.length + 1 := by simpa using h20
            have d2 : (((ls.length : Int) + 2 + 1) != wrap64 ((ls.length : Int) + 3)) = false := by
              unfold wrap64
              rw [bne_eq_false_iff_eq]
              omega
            have Hls2 := Lib.hid (show ls.length ≤ 20000 by omega)
            clear h20 h21 hls2
            have hnew := bnew_any (V : Int) 4000 w3 (by omega) (by omega) (by decide) (by decide)
            have Hnew := Lib.hid hnew; clear hnew
            have HV := Lib.hid (show V ≤ 24 by omega); clear hV
            go_wp2_with fail
            refine Hnew.out.mono ?_
            rintro e w4 ⟨⟨s, rfl, hR, hs4, hps, hm4⟩, hb4⟩
            have Hs4 := Lib.hid hs4; have Hm4 := Lib.hid (And.intro hps hm4); have Hb4 := Lib.hid hb4
            clear hR hs4 hps hm4 Hnew d2
            have q1 : wrap64 ((ls.length : Int) + 2 + 1 - 2) = (ls.length : Int) + 1 := by unfold wrap64; have := Hls2.out; omega
            have g0 := (hb4.cell (p := ⟨gh, 0, none⟩) Hgh.out.2).trans ch0
            have g2 := (hb4.cell (p := ⟨gh, 2, none⟩) Hgh.out.2).trans ch2
            have hfst : FSt w4 (w4.alloc (.cells #[.int .i64 0, .int .i64 1] 3)) s (V : Int) ⟨List.replicate 4000 none, noQ⟩ (.slice (some ⟨w4.heap.size, 0, none⟩) 2 2) startK := by
              have hb : Below w4.heap.size w4 (w4.alloc (.cells #[.int .i64 0, .int .i64 1] 3)) := (Below.refl _ _).alloc (Nat.le_refl _) _
              refine ⟨Hs4.out.below hb, Only.of_below hb rfl, ?_, fun k hk => Hs4.out.lt hk⟩
              have := World.ownsRow_lit (base := w4.heap.size) (e := 3) (size := 1) w4 #[.int .i64 0, .int .i64 1] 2 (by simp) (by decide) rfl
              simpa [startK] using this
            have hlps := Hs4.out.lps
            obtain ⟨i0, hi, hz0, hz1, hz2⟩ := info_parts infoIntA
            have Hfst := Lib.hid hfst; have Hg := Lib.hid (And.intro g0 g2); have Hlps := Lib.hid hlps
            clear hb4 ch0 ch1 ch2 hc3 hfst g0 g2 hlps
            go_wp2_with fail
            go_loopg [13, 82] ls.length (fun gk va i wr => ∃ (k : Nat) (c : Cells) (hs : List Int), k ≤ ls.length ∧ gk = ls.length - k ∧ i = .int .i64 k ∧ FSt w4 wr s (V : Int) ⟨c, noQ⟩ va hs ∧ LinesL V (List.replicate 4000 none, startK) (ls.take k) (c, hs))
            case atStart => exact ⟨0, _, _, Nat.zero_le _, rfl, rfl, Hfst.out, rfl⟩
            case round =>
              clear q1
              obtain ⟨k, c, hs, hk, rfl, rfl, hfs, hlk⟩ := hrel
              obtain ⟨pk1, pk2, pk3⟩ := hlk.pok (pok_start 4000)
              have hlen : hs.length = k + 2 := by rw [pk3, List.length_take, Nat.min_eq_left hk]; show 2 + k = _; omega
              have hbw : Below w3.heap.size w3 wr := Hb4.out.trans (hfs.only.below Hb4.out.size (fun k hk => Hm4.out.2 k hk))
              by_cases hlt : k < ls.length
              · have hcl := (HL3.out.below hbw) (k + 1) (by simp; omega)
                rw [show 0 + (k + 1) = 1 + k by omega] at hcl
                have hget : (hd :: (ls ++ [s1, s2]))[k + 1]'(by simp; omega) = ls[k] := by
                  rw [List.getElem_cons_succ, List.getElem_append_left hlt]
                rw [hget] at hcl
                have hxs := HLs.out ls[k] (List.mem_cons_of_mem _ (List.mem_append_left _ (List.getElem_mem hlt)))
                rw [show (bytB ds).size = ds.length from rfl] at hxs
                have hstep := fun hno => load_step (R := 4000) HL.out.symm Hhd.out hlt hlk hno
                obtain ⟨x, hx⟩ : ∃ x, x = ls[k] := ⟨_, rfl⟩
                rw [← hx] at hcl hxs hstep
                obtain ⟨gv, cv, rfl, hrow⟩ := owns_at hfs.own (by omega)
                have hsp := split_cut 32 x wr (by have := Hds.out; omega) (Hl3.out.below hbw)
                have hWc := cut_count 32 x
                have hWs := cut_sizes 32 x
                obtain ⟨W, hW⟩ : ∃ W, W = cutB 32 x := ⟨_, rfl⟩
                rw [← hW] at hsp hWc hWs
                have i1 : (k : Int) < (ls.length : Int) := by omega
                have Hsp := Lib.hid hsp; have HW := Lib.hid hW; have HWc := Lib.hid hWc; have HWs := Lib.hid hWs; have Hxs := Lib.hid hxs; have Hstep := Lib.hid hstep; have Hx := Lib.hid hx; have Hfs := Lib.hid hfs; have Hlk := Lib.hid hlk; have Hlen := Lib.hid hlen; have Hbw := Lib.hid hbw; have Hrow := Lib.hid hrow; have Hpk := Lib.hid pk1
                clear hsp hW hWc hWs hxs hstep hx hfs hlk hlen hbw hrow hget pk1 pk2 pk3
                go_wp2_with fail
                refine Hsp.out.mono ?_
                rintro e w5 ⟨rfl, hw5⟩
                have hb5 : Below wr.heap.size wr w5 := by rw [hw5]; exact (Below.refl _ _).alloc (Nat.le_refl _) _
                have hW5 : IsStr w5 wr.heap.size 0 W := isStr_cells (by rw [hw5]; exact heap_at rfl)
                clear hw5 Hsp hcl
                have hnum := numbers_any wr.heap.size 0 W.length W w5 hW5 (by have := HWc.out; have := Hxs.out; have := Hds.out; omega) (fun s hs => by have := HWs.out s hs; have := Hxs.out; have := Hds.out; omega) (Hl3.out.below (Hbw.out.trans (hb5.mono Hbw.out.size)))
                have Hnum := Lib.hid hnum; have Hb5 := Lib.hid hb5; clear hnum hb5 hW5
                go_wp2_with fail
                refine Hnum.out.mono ?_
                rintro e w6 ⟨⟨a, b, d, v, hw, ⟨ha63, hb63, hd63⟩, rfl, hown⟩ | ⟨hno, rfl⟩, hb6⟩
                · obtain ⟨gn, cn, rfl, hgn, hgnl, n0, n1, n2⟩ := owns3 hown
                  have htr : TripR x a b d := by unfold TripR; rw [← HW.out, hw]; rfl
                  have hb56 : Below wr.heap.size wr w6 := Hb5.out.trans (hb6.mono Hb5.out.size)
                  have Hbe := Lib.hid (Hb3.out.trans ((Hbw.out.trans (hb56.mono Hbw.out.size)).mono Hb3.out.size))
                  have m0 : w6.cell? ⟨gh, 0, none⟩ = some (.int .i64 (V : Int)) := by
                    have h1 := (Hb4.out.cell (p := ⟨gh, 0, none⟩) Hgh.out.2).symm.trans Hg.out.1
                    have h2 := ((Hbw.out.trans (hb56.mono Hbw.out.size)).cell (p := ⟨gh, 0, none⟩) Hgh.out.2).trans h1
                    exact h2
                  have hfs6 := Hfs.out.grow hb56
                  have Htr := Lib.hid htr; have Hgn := Lib.hid (And.intro hgn hgnl); have Hb56 := Lib.hid hb56; have Hfs6 := Lib.hid hfs6; have H63 := Lib.hid (And.intro ha63 (And.intro hb63 hd63))
                  clear htr hb6 hown hgn hgnl hb56 hfs6 ha63 hb63 hd63 hw
                  by_cases c1 : V ≤ a
                  · have C1 := Lib.hid c1
                    have c1i : (V : Int) ≤ (a : Int) := by omega
                    have hnl := Hstep.out (noStep_num (p := (c, hs)) Htr.out (.inl (by have := C1.out; omega)))
                    have Hnl := Lib.hid hnl; clear hnl
                    go_wp2_with fail
                    go_quiet (fail)
                    go_wp2_with fail
                    go_ret3
                    exact loadP_no Hnl.out (below_drewA Hbe.out _)
                  by_cases c2 : hs.length ≤ b
                  · have C2 := Lib.hid c2
                    have c1i : ¬ (V : Int) ≤ (a : Int) := by omega
                    have c2i : (hs.length : Int) ≤ (b : Int) := by omega
                    have hnl := Hstep.out (noStep_num (p := (c, hs)) Htr.out (.inr (.inl (by have := C2.out; dsimp only; omega))))
                    have Hnl := Lib.hid hnl; clear hnl
                    go_wp2_with fail
                    go_quiet (fail)
                    go_wp2_with fail
                    go_ret3
                    exact loadP_no Hnl.out (below_drewA Hbe.out _)
                  by_cases c3 : hs.length ≤ d
                  · have C3 := Lib.hid c3
                    have c1i : ¬ (V : Int) ≤ (a : Int) := by omega
                    have c2i : ¬ (hs.length : Int) ≤ (b : Int) := by omega
                    have c3i : (hs.length : Int) ≤ (d : Int) := by omega
                    have hnl := Hstep.out (noStep_num (p := (c, hs)) Htr.out (.inr (.inr (.inl (by have := C3.out; dsimp only; omega)))))
                    have Hnl := Lib.hid hnl; clear hnl
                    go_wp2_with fail
                    go_quiet (fail)
                    go_wp2_with fail
                    go_ret3
                    exact loadP_no Hnl.out (below_drewA Hbe.out _)
                  by_cases c4 : b = d
                  · have C4 := Lib.hid c4
                    have c1i : ¬ (V : Int) ≤ (a : Int) := by omega
                    have c2i : ¬ (hs.length : Int) ≤ (b : Int) := by omega
                    have c3i : ¬ (hs.length : Int) ≤ (d : Int) := by omega
                    have c4i : ((b : Int) == (d : Int)) = true := by simp [c4]
                    have c4n : (b == d) = true := by simp [c4]
                    clear c4
                    have hnl := Hstep.out (noStep_num (p := (c, hs)) Htr.out (.inr (.inr (.inr (.inl C4.out)))))
                    have Hnl := Lib.hid hnl; clear hnl
                    go_wp2_with fail
                    go_quiet (fail)
                    go_wp2_with fail
                    go_ret3
                    exact loadP_no Hnl.out (below_drewA Hbe.out _)
                  have c1i : ¬ (V : Int) ≤ (a : Int) := by omega
                  have c2i : ¬ (hs.length : Int) ≤ (b : Int) := by omega
                  have c3i : ¬ (hs.length : Int) ≤ (d : Int) := by omega
                  have c4i : ((b : Int) == (d : Int)) = false := by simp; omega
                  have c4n : (b == d) = false := by simp [c4]
                  have C4 := Lib.hid c4; clear c4
                  go_wp2_with fail
                  go_quiet (fail)
                  go_wp2_with fail
                  have hb7 : Below w6.heap.size w6 (w6.drewN nq) := below_drewA (Below.refl _ _) _
                  have hfs7 := Hfs6.out.grow hb7
                  have k0 := (hb7.cell (p := ⟨gn, 0, none⟩) Hgn.out.2).trans n0
                  have k1 := (hb7.cell (p := ⟨gn, 1, none⟩) Hgn.out.2).trans n1
                  have k2 := (hb7.cell (p := ⟨gn, 2, none⟩) Hgn.out.2).trans n2
                  have Hb7 := Lib.hid hb7; have Hgn7 := Lib.hid (Nat.lt_of_lt_of_le Hgn.out.2 hb7.size)
                  clear n0 n1 n2 m0 hb7
                  generalize w6.drewN nq = w7 at hfs7 k0 k1 k2 Hb7 Hgn7 ⊢
                  have ksp := hfs7.sp.s0
                  obtain ⟨gv', cv', ev, hrow7⟩ := owns_at hfs7.own (by omega)
                  injection ev with ev1 ev2 ev3
                  injection ev1 with ev1
                  injection ev1 with ev1
                  subst ev1
                  subst ev3
                  have kb := hrow7 b (by omega)
                  have kd := hrow7 d (by omega)
                  have hgb : hs.getD b 0 = hs[b]'(by omega) := by rw [List.getD_eq_getElem?_getD, List.getElem?_eq_getElem (by omega)]; rfl
                  have hgd : hs.getD d 0 = hs[d]'(by omega) := by rw [List.getD_eq_getElem?_getD, List.getElem?_eq_getElem (by omega)]; rfl
                  have hhb := Hpk.out.has _ (List.getElem_mem (show b < hs.length by omega))
                  have hhd := Hpk.out.has _ (List.getElem_mem (show d < hs.length by omega))
                  rw [← hgb] at kb hhb
                  rw [← hgd] at kd hhd
                  have hcl7 := hfs7.sp.ar.len
                  have hcR := hfs7.sp.ar.room.2
                  dsimp only at hcl7
                  have hle1 : hs.getD b 0 ≤ 9223372036854775807 := by have q := hasM_le hhb; dsimp only at q; omega
                  have hle2 : hs.getD d 0 ≤ 9223372036854775807 := by have q := hasM_le hhd; dsimp only at q; omega
                  have hmk := fun W (hW : Below w7.heap.size w7 W) => make_any (ndL (c, hs) a b d) W s.b c (hfs7.sp.ar.below hW) hle1 hle2
                  obtain ⟨R, hR⟩ : ∃ R, R = mkM c (ndL (c, hs) a b d) := ⟨_, rfl⟩
                  unfold MkPost at hmk
                  rw [← hR] at hmk
                  have hnm : ¬ s.b.mem gn ∧ ¬ s.b.mem gv ∧ ¬ s.b.mem s.ps := by
                    have q1 := hfs7.off
                    have q2 := (hfs7.own.lt gv rfl).1
                    have q3 := Hfs.out.only.size
                    have q4 := Hb5.out.size
                    have q5 := Hgn.out.1
                    exact ⟨fun h => by have := q1 gn (.inl h); omega, fun h => by have := q1 gv (.inl h); omega, fun h => hfs7.sp.off (.inl h)⟩
                  have hltv : gv < w7.heap.size := World.block_lt_of_cell? _ _ kb
                  have hltp : s.ps < w7.heap.size := hfs7.sp.lps
                  have hS := fun W (hW : Only s.b.mem w7 W) => (show W.cell? ⟨s.ps, 0, none⟩ = some (.pointer (some ⟨s.b.p, 0, none⟩)) ∧ W.cell? ⟨gn, 0, none⟩ = some (.int .i64 (a : Int)) ∧ W.cell? ⟨gn, 1, none⟩ = some (.int .i64 (b : Int)) ∧ W.cell? ⟨gn, 2, none⟩ = some (.int .i64 (d : Int)) ∧ W.cell? ⟨gv, b, none⟩ = some (.int .i64 (hs.getD b 0)) ∧ W.cell? ⟨gv, d, none⟩ = some (.int .i64 (hs.getD d 0)) from
                    ⟨(hW.cell (p := ⟨s.ps, 0, none⟩) hltp hnm.2.2).trans ksp, (hW.cell (p := ⟨gn, 0, none⟩) Hgn7.out hnm.1).trans k0, (hW.cell (p := ⟨gn, 1, none⟩) Hgn7.out hnm.1).trans k1, (hW.cell (p := ⟨gn, 2, none⟩) Hgn7.out hnm.1).trans k2, (hW.cell (p := ⟨gv, b, none⟩) hltv hnm.2.1).trans kb, (hW.cell (p := ⟨gv, d, none⟩) hltv hnm.2.1).trans kd⟩)
                  have HS := Lib.hid hS; have Hmk := Lib.hid hmk; have HR := Lib.hid hR; have Hfs7 := Lib.hid hfs7; have C2 := Lib.hid c2; have C3 := Lib.hid c3; have C1 := Lib.hid c1
                  have b1 : (b : Int) < (hs.length : Int) := by omega
                  have b2 : (d : Int) < (hs.length : Int) := by omega
                  have b3 : (0 : Int) ≤ (b : Int) := by omega
                  have b4 : (0 : Int) ≤ (d : Int) := by omega
                  clear hS hmk hR hfs7 hnm hrow7 ksp k0 k1 k2 kb kd hgb hgd hhb hhd hcl7 hcR hltv hltp c1 c2 c3 c1i c2i c3i c4i c4n
                  go_region_held3 (fun W : World => W.cell? ⟨s.ps, 0, none⟩ = some (.pointer (some ⟨s.b.p, 0, none⟩)) ∧ W.cell? ⟨gn, 0, none⟩ = some (.int .i64 (a : Int)) ∧ W.cell? ⟨gn, 1, none⟩ = some (.int .i64 (b : Int)) ∧ W.cell? ⟨gn, 2, none⟩ = some (.int .i64 (d : Int)) ∧ W.cell? ⟨gv, b, none⟩ = some (.int .i64 (hs.getD b 0)) ∧ W.cell? ⟨gv, d, none⟩ = some (.int .i64 (hs.getD d 0)))
                    (first | (exact HS.out _ (Only.refl _ _).drew) | (exact HS.out _ (Only.trans (Only.refl _ _).drew Ho8.out)) | go_keep)
                    (first | (go_at_call 28; refine (Hmk.out _ (Below.refl _ _).drew).mono ?_; rintro e w8 ⟨rfl, ha8, ho8⟩; have Ha8 := Lib.hid ha8; have Ho8 := Lib.hid ho8; clear ha8 ho8))
                  have ho7 : Only s.b.mem w7 w8 := Only.trans (Only.refl _ _).drew Ho8.out
                  have hfs8 : FSt w4 w8 s (V : Int) ⟨R.1, noQ⟩ (.slice (some ⟨gv, 0, none⟩) hs.length cv) hs := Hfs7.out.step (ho7.mono fun _ h => .inl h) (Hfs7.out.sp.arena ho7 Ha8.out)
                  have hb8 : Below w.heap.size w w8 := Hb3.out.trans ((Hb4.out.trans (hfs8.only.below Hb4.out.size (fun k hk => Hm4.out.2 k hk))).mono Hb3.out.size)
                  have Hfs8 := Lib.hid hfs8; have Hb8 := Lib.hid hb8; clear ho7 hfs8 hb8 Hmk HS Ha8 Ho8
                  by_cases hr : R.2.2 = 0
                  · have he : errV R.2.2 = .nilIface := by rw [hr]; rfl
                    rw [he]
                    have Hr := Lib.hid hr; clear hr he
                    have hown8 := Hfs8.out.own.alloc (.cells #[.int .i64 R.2.1] 3)
                    have Hown8 := Lib.hid hown8; clear hown8
                    have hsz8 := Hfs8.out.only.size
                    have hlk2 : hs.length ≤ 20002 := by have := Hlen.out; have := Hls2.out; omega
                    have Hsz := Lib.hid (And.intro hsz8 hlk2); clear hsz8 hlk2
                    go_wp2_with fail
                    refine (tell_nil w8).mono ?_
                    rintro e w9 ⟨rfl, rfl⟩
                    go_wp2_with (at_builtin; refine wpList_append_own _ rfl (.tmp 162) (.tmp 164) 24 rfl w4.heap.size 3 i0 (.int .i64 0) 1 8 Tryz.underlying24 hi hz0 hz1 hz2 rfl (by decide) _ _ _ rfl Hown8.out ⟨w8.heap.size, 0, none⟩ 1 1 [.int .i64 R.2.1] rfl rfl (cell_one_new _ _ _) (ints_oneCell _ [R.2.1]) (by simp only [maxLen]; have := Hsz.out.2; omega) (by have := Hsz.out.2; omega) (by have := Hsz.out.1; simp; omega) ?_; intro v' w10 hown10 hgrow10 _; have Hf10 := Lib.hid (Hfs8.out.push Hlps.out hown10 hgrow10); clear hown10 hgrow10)
                    go_roundg (ls.length - (k + 1))
                    case measure => omega
                    case rel =>
                      refine ⟨k + 1, R.1, hs ++ [R.2.1], by omega, rfl, by go_num, Hf10.out, ?_⟩
                      rw [List.take_succ_eq_append_getElem hlt, ← Hx.out]
                      refine Hlk.out.snoc ⟨a, b, d, Htr.out, by have := C1.out; omega, by have := C2.out; dsimp only; omega, by have := C3.out; dsimp only; omega, C4.out, ?_, ?_⟩
                      · rw [← HR.out]; exact Hr.out
                      · rw [← HR.out]
                  · have he : errV R.2.2 = .iface 59 (.int .i64 (R.2.2 : Int)) := by unfold errV; rw [if_neg hr]
                    rw [he]
                    have hnl := Hstep.out (noStep_num (p := (c, hs)) Htr.out (.inr (.inr (.inr (.inr (by rw [← HR.out]; exact hr))))))
                    have htell := tell_errno (R.2.2 : Int) w8 (Htl.out.below Hb8.out)
                    have Hnl := Lib.hid hnl; have Htell := Lib.hid htell; clear hnl htell hr he
                    go_wp2_with fail
                    refine Htell.out.mono ?_
                    rintro e w9 ⟨rfl, hb9⟩
                    have Hb9 := Lib.hid (Hb8.out.trans (hb9.mono Hb8.out.size)); clear hb9
                    by_cases r12 : R.2.2 = 12
                    · have e12 : ((R.2.2 : Int) == 12) = true := by rw [r12]; rfl
                      have R12 := Lib.hid r12; clear r12
                      go_wp2_with fail
                      go_ret3
                      exact loadP_no Hnl.out Hb9.out
                    · have e12 : ((R.2.2 : Int) == 12) = false := by simp; omega
                      have R12 := Lib.hid r12; clear r12
                      go_wp2_with fail
                      go_ret3
                      exact loadP_no Hnl.out Hb9.out
                · have hbe : Below w.heap.size w w6 := Hb3.out.trans ((Hbw.out.trans ((Hb5.out.trans (hb6.mono Hb5.out.size)).mono Hbw.out.size)).mono Hb3.out.size)
                  have Hbe := Lib.hid hbe; have Hno := Lib.hid hno; clear hbe hno hb6
                  have hnl := Hstep.out (noStep_words (p := (c, hs)) (fun a b d h1 h2 h3 ht => Hno.out a b d (by have := HV.out; omega) (by have := Hlen.out; have := Hls2.out; dsimp only at h2; omega) (by have := Hlen.out; have := Hls2.out; dsimp only at h3; omega) (by rw [HW.out, ht]; rfl)))
                  have Hnl := Lib.hid hnl; clear hnl
                  go_wp2_with fail
                  go_quiet (fail)
                  go_wp2_with fail
                  go_ret3
                  exact loadP_no Hnl.out (below_drewA Hbe.out _)
              · obtain rfl : k = ls.length := by omega
                rw [List.take_length] at hlk
                obtain ⟨gv, cv, rfl, hrow⟩ := owns_at hfs.own (by omega)
                have m2 : wr.cell? ⟨gh, 2, none⟩ = some (.int .i64 (t : Int)) := by
                  have h1 := (Hb4.out.cell (p := ⟨gh, 2, none⟩) Hgh.out.2).symm.trans Hg.out.2
                  exact (hbw.cell (p := ⟨gh, 2, none⟩) Hgh.out.2).trans h1
                have hbe : Below w.heap.size w wr := Hb3.out.trans (hbw.mono Hb3.out.size)
                by_cases htl : t < hs.length
                · have t1 : ¬ (hs.length : Int) ≤ (t : Int) := by omega
                  have t2 : (t : Int) < (hs.length : Int) := by omega
                  have t3 : (0 : Int) ≤ (t : Int) := by omega
                  have kt := hrow t htl
                  have hgt : hs.getD t 0 = hs[t] := by rw [List.getD_eq_getElem?_getD, List.getElem?_eq_getElem htl]; rfl
                  have hht := pk1.has _ (List.getElem_mem htl)
                  rw [← hgt] at kt hht
                  have hend := fun hne => load_end (R := 4000) HL.out.symm Hhd.out hlk (.inr hne)
                  have hok : ∀ (he : ds = saveM V c (hs.getD t 0)), LoadOk 4000 (bytB ds) V c (hs.getD t 0) := fun he => ⟨Hds.out, ⟨hd, ls, s1, s2, t, hs, HL.out.symm, Hhd.out, hlk, htl, rfl⟩, HV.out, by rw [← he]⟩
                  have hsv := save_any V HV.out (hs.getD t 0) wr s ⟨c, noQ⟩ hfs.sp pk1.ok hht (Hl.out.below hbe)
                  obtain ⟨h, hh⟩ : ∃ h, h = hs.getD t 0 := ⟨_, rfl⟩
                  rw [← hh] at kt hsv hend hok
                  have Hsv := Lib.hid hsv; have Hend := Lib.hid hend; have Hok := Lib.hid hok; have Hfs := Lib.hid hfs; have Hbe := Lib.hid hbe; have Hlen := Lib.hid hlen
                  clear hsv hend hok hfs hbe hlen hrow hgt hht pk1 pk2 pk3 hlk hbw hh htl
                  go_wp2_with fail
                  refine Hsv.out.mono ?_
                  rintro e w5 ⟨⟨v5, rfl, hz5⟩, hb5⟩
                  obtain ⟨g5, c5, rfl, hby5⟩ := hz5.by
                  have heq := equal_any g5 g c5 cap (saveM V c h) ds w5 hby5 (Hby.out.below (Hbe.out.trans (hb5.mono Hbe.out.size)))
                  have Heq := Lib.hid heq; have Hb5 := Lib.hid hb5; clear heq hb5 hz5 hby5 m2 kt
                  by_cases hq : saveM V c h = ds
                  · have d0 : decide (saveM V c h = ds) = true := by simpa using hq
                    rw [d0] at Heq
                    have Hq := Lib.hid hq; clear hq d0
                    go_wp2_with fail
                    refine Heq.out.mono ?_
                    rintro e w6 ⟨rfl, rfl⟩
                    go_wp2_with fail
                    go_ret3
                    exact ⟨.inl ⟨V, c, h, s, Hok.out Hq.out.symm, rfl, Hfs.out.sp.below Hb5.out, Nat.le_trans Hb3.out.size Hm4.out.1, fun k hk => Nat.le_trans Hb3.out.size (Hm4.out.2 k hk)⟩, Hbe.out.trans (Hb5.out.mono Hbe.out.size)⟩
                  · have d0 : decide (saveM V c h = ds) = false := by simpa using hq
                    rw [d0] at Heq
                    have Hnl := Lib.hid (Hend.out (fun e => hq (bytB_inj e).symm)); clear hq d0
                    go_wp2_with fail
                    refine Heq.out.mono ?_
                    rintro e w6 ⟨rfl, rfl⟩
                    go_wp2_with fail
                    go_ret3
                    exact loadP_no Hnl.out (Hbe.out.trans (Hb5.out.mono Hbe.out.size))
                · have t1 : (hs.length : Int) ≤ (t : Int) := by omega
                  have hnl := load_end (R := 4000) HL.out.symm Hhd.out hlk (.inl htl)
                  have Hnl := Lib.hid hnl; have Hbe := Lib.hid hbe; clear hnl hbe hfs hlk hbw hlen hrow pk1 pk2 pk3 htl
                  go_wp2_with fail
                  go_ret3
                  exact loadP_no Hnl.out Hbe.out
          · have d2 : (((rest.length : Int) + 1) != wrap64 ((n : Int) + 3)) = true := by
              have h20 := HLc.out
              rw [show (bytB ds).size = ds.length from rfl] at h20
              have h21 := Hds.out
              have h22 := HVn.out.2.1
              unfold wrap64
              rw [bne_iff_ne]
              omega
            have Hn := Lib.hid hn; clear hn
            go_wp2_with fail
            go_ret3
            refine loadP_no (load_head HL.out.symm (fun V' n' t' h1 h2 h3 hh => ?_)) Hb3.out
            obtain ⟨_, rfl, _⟩ := Hhd.out.one hh
            exact Hn.out h2
      · have dx : ¬ x0.toList = [115, 112, 97, 99, 101] := fun h => hx (toListB (by rw [h, Lib.toList_data]; rfl))
        have Hx := Lib.hid hx; clear hx
        go_wp2_with fail
        go_ret3
        exact loadP_no (Hnoh.out (fun a b d h1 h2 h3 h4 _ => Hx.out h4)) Hb3.out
    · go_wp2_with fail
      go_ret3
      exact loadP_no (Hnoh.out (fun a b d h1 h2 h3 _ e => hno a b d h1 h2 h3 e)) (Hb1.out.trans ((Hb2.out.trans (hb3.mono Hb2.out.size)).mono Hb1.out.size))
end Go.Proofs.YthmflcmbaldflaaGreatDoor
