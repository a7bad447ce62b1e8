/- Contract: plan.Order. -/
import Derived.Test.YtheemhelioendaaGreatDoorFitsW
import Derived.Test.YtheemhelioendaaGreatDoorLeadW
import Derived.BigRegion
namespace Go.Proofs.YtheemhelioendaaGreatDoor
open Go.RowKit
set_option linter.unusedVariables false

theorem powWrap : ∀ k < 24, IntKind.u64.wrap ((2 : Int) ^ k) = ((2 ^ k : Nat) : Int) ∧ 2 ^ k < 16777216 := by decide
theorem orBit {V k : Nat} (hV : V < 16777216) (hk : k < 24) : bits .or .u64 (V : Int) (IntKind.u64.wrap ((2 : Int) ^ k)) = ((V ||| 2 ^ k : Nat) : Int) := by
  obtain ⟨h1, h2⟩ := powWrap k hk
  rw [h1, bits_or_u64_nat _ _ (by omega) (by omega)]
/-- What Order says. -/
def OrderP (ls : List LineM) (items : List ItemM) (set : Nat) (w : World) (e : Ending) (w' : World) : Prop :=
  ((∃ a c l, e = .returned (.tuple #[.slice a l.length c, .nilIface]) ∧ OutI w' w.heap.size (.slice a l.length c) (l.map (fun k : Nat => (k : Int))) ∧ Ordered items set ls l ∧ fitsB ls items set = true) ∨
   (e = .returned (.tuple #[.slice none 0 0, .iface 43 (.int .i64 13)]) ∧ fitsB ls items set = false) ∨
   (e = .returned (.tuple #[.slice none 0 0, .iface 43 (.int .i64 11)]) ∧ fitsB ls items set = true ∧ Cyclic items set ls)) ∧ Below w.heap.size w w'
theorem any_notin (l m : List Nat) : (m.any fun k => !(bitsL l).testBit k) = m.any fun k => !decide (k ∈ l) := by
  congr 1; funext k; rw [bitsL_test]
theorem OrdPre.bits {items : List ItemM} {set : Nat} {ls : List LineM} {l : List Nat} (h : OrdPre items set ls l) (hn : items.length ≤ 24) : bitsL l < 16777216 :=
  Nat.lt_of_lt_of_le (bitsL_lt (n := items.length) (fun i hi => (h.inn i hi).1)) (Nat.le_trans (Nat.pow_le_pow_right (by decide) hn) (by decide))
set_option maxRecDepth 100000 in
set_option maxHeartbeats 32000000 in
theorem order_any (p : Nat) (vl vi : Value) (ls : List LineM) (items : List ItemM) (set : Nat) (w : World) (h : CatAt w p vl vi ls items) (ho : CatOk ls items) (hs : set < 2 ^ items.length) : Calls Tryz.prog 15 #[.pointer (some ⟨p, 0, none⟩), .int .u64 set] w (OrderP ls items set w) := by
  have hn24 : items.length ≤ 24 := by rw [ho.perm.length_eq]; exact ho.most
  have hs64 : set < 18446744073709551616 := Nat.lt_of_lt_of_le hs (Nat.le_trans (Nat.pow_le_pow_right (by decide) hn24) (by decide))
  have HF := Lib.hid (fits_any p vl vi ls items set w h ho hs)
  have HLd := Lib.hid (show ∀ w', Below w.heap.size w w' → _ from fun w' hw => leads_any p vl vi ls items set w' (h.below hw) ho hs64)
  have Hs64 := Lib.hid hs64; have Hl100 := Lib.hid ho.few
  clear h ho hs hs64
  go_enter Tryz.func15, Tryz.ntmps15
  go_wp2_with fail
  refine HF.out.mono ?_
  rintro e w1 ⟨⟨n1, rfl, hn1⟩, hb1⟩
  have HL1 := Lib.hid (HLd.out w1 hb1)
  have Hb1 := Lib.hid hb1
  obtain ⟨FB, hFB⟩ : ∃ FB, FB = fitsB ls items set := ⟨_, rfl⟩
  rw [← hFB]
  have HFB := Lib.hid hFB
  clear hn1 hb1 hFB HF HLd
  cases FB with
  | false =>
    go_wp2_with fail
    go_ret2
    exact ⟨.inr (.inl ⟨rfl, HFB.out.symm⟩), Hb1.out⟩
  | true =>
    go_wp2_with fail
    refine HL1.out.mono ?_
    rintro e w2 ⟨⟨g, vs, rfl, hld, hgs⟩, hb2⟩
    obtain ⟨w3, hw3⟩ : ∃ w3, w3 = w2.alloc (.cells #[.int .u64 0] 23) := ⟨_, rfl⟩
    have hb3 : Below w2.heap.size w2 w3 := by rw [hw3]; exact (Below.refl _ _).alloc (Nat.le_refl _) _
    have hk3 : w3.heap[w2.heap.size]? = some (.cells #[.int .u64 (0 : Nat)] 23 (0, 0)) := by rw [hw3]; exact heap_at rfl
    have Hld := Lib.hid hld; have Hb2 := Lib.hid (Hb1.out.trans (hb2.mono Hb1.out.size)); have Hb3 := Lib.hid hb3; have Hk3 := Lib.hid hk3
    clear hld hgs hb2 hb3 hk3 HL1
    go_wp2_with fail
    rw [← hw3]
    clear hw3
    go_loopg [9] (items.length) (fun gk vo wr => ∃ l : List Nat, gk = items.length - l.length ∧ OrdPre items set ls l ∧ wr.heap[w2.heap.size]? = some (.cells #[.int .u64 (bitsL l : Nat)] 23 (0, 0)) ∧ OutI wr w2.heap.size vo (l.map (fun k : Nat => (k : Int))) ∧ Below w2.heap.size w2 wr)
    case atStart => exact ⟨[], rfl, OrdPre.nil _ _ _, Hk3.out, RowG.nil _ _ _ _ _, Hb3.out⟩
    case round =>
      obtain ⟨l, rfl, hpre, hbx, hout, hbw⟩ := hrel
      obtain ⟨wo, rfl⟩ : ∃ y, y = wr := ⟨_, rfl⟩
      obtain ⟨xs, hxs⟩ : ∃ xs, xs = l.map (fun k : Nat => (k : Int)) := ⟨_, rfl⟩
      rw [← hxs] at hout
      have Hxl := Lib.hid (show xs.length = l.length by rw [hxs, List.length_map])
      obtain ⟨ao, co, rfl, _, _⟩ := RowG.shape hout
      have hV24 := hpre.bits hn24
      have hV64 : bitsL l < 18446744073709551616 := by omega
      have hc := cell_of_one hbx; have hfr := free_of_one hbx; have hbl := lt_of_block hbx
      have hldo := Hld.out.below hbw
      have hll := hpre.len
      by_cases hq : bitsL l = set
      · have tq : ((bitsL l : Int) != (set : Int)) = false := by rw [hq]; simp
        have Hq := Lib.hid hq; have Hpre := Lib.hid hpre; have Hout := Lib.hid hout; have Hbw := Lib.hid hbw; have Hxs := Lib.hid hxs
        clear hq hpre hout hbw hbx hldo hV24 hV64 hfr hbl
        obtain ⟨VL, hVL⟩ : ∃ VL, VL = bitsL l := ⟨_, rfl⟩
        rw [← hVL] at hc tq
        clear hVL hxs
        go_wp2_with fail
        go_ret2
        refine ⟨.inl ⟨ao, co, l, by rw [← Hxl.out]; rfl, ?_, ⟨Hpre.out, Hq.out⟩, HFB.out.symm⟩, Hb2.out.trans (Hbw.out.mono Hb2.out.size)⟩
        rw [← Hxl.out, ← Hxs.out]
        exact RowG.less Hout.out Hb2.out.size
      · have tq : ((bitsL l : Int) != (set : Int)) = true := by rw [bne_iff_ne]; exact fun e => hq (by omega)
        have Hq := Lib.hid hq; have Hpre := Lib.hid hpre; have Hout := Lib.hid hout; have Hbw := Lib.hid hbw; have Hxs := Lib.hid hxs; have Hbx := Lib.hid hbx; have Hldo := Lib.hid hldo; have HV64 := Lib.hid hV64; have HV24 := Lib.hid hV24
        have HBt := Lib.hid (fun k => bitsL_test l k); have HAn := Lib.hid (fun m => any_notin l m)
        have HH2 := Lib.hid (fun (q : Nat) (w : World) => bitHas_any (bitsL l) q w hV64)
        have Hlk := Lib.hid (fun (q : Nat) (v : Value) (hv : OutI wo w1.heap.size v ((leadsM items set ls q).map (fun k : Nat => (k : Int)))) (hn : (leadsM items set ls q).length ≤ 100000) => lacks_any 40 v _ (bitsL l) w2.heap.size w1.heap.size wo hv hn (by intro a w; go_simp) (fun x => order1_any x (bitsL l) w2.heap.size wo hV64 hc))
        obtain ⟨VL, hVL⟩ : ∃ VL, VL = bitsL l := ⟨_, rfl⟩
        rw [← hVL] at hc tq HBt HAn HH2 Hlk
        have HVL := Lib.hid hVL
        clear hq hpre hout hbw hbx hldo hV24 hV64 hVL hxs
        go_wp2_with fail
        clear hc tq
        go_loopg [11, 12] items.length (fun gk at_ i wr => wo = wr ∧ ∃ (j : Nat) (A : Int), j ≤ items.length ∧ gk = j ∧ i = .int .i64 ((j : Int) - 1) ∧ at_ = .int .i64 A ∧ ((A = -1 ∧ ∀ q, j ≤ q → q < items.length → readyB items set ls l q = false) ∨ ∃ a : Nat, A = a ∧ a < items.length ∧ readyB items set ls l a = true))
        case atStart => exact ⟨rfl, items.length, -1, Nat.le_refl _, rfl, by go_num, rfl, .inl ⟨rfl, fun q h1 h2 => by omega⟩⟩
        case round =>
          obtain ⟨rfl, j, A, hj, hgk, rfl, rfl, hA⟩ := hrel
          obtain rfl := hgk.symm
          have HA := Lib.hid hA
          cases j with
          | zero =>
            clear hA
            rw [show (((0 : Nat) : Int) - 1) = -1 from rfl]
            rcases HA.out with ⟨rfl, hno⟩ | ⟨a, rfl, ha, hra⟩
            · have Hno := Lib.hid hno
              clear hno
              go_wp2_with fail
              go_ret2
              exact ⟨.inr (.inr ⟨rfl, HFB.out.symm, l, Hpre.out, Hq.out, fun i hi => Hno.out i (Nat.zero_le _) hi⟩), Hb2.out.trans (Hbw.out.mono Hb2.out.size)⟩
            · have ha24 : a < 24 := by omega
              have hor := orBit (V := VL) (by rw [HVL.out]; exact HV24.out) ha24
              have hc : wo.cell? ⟨w2.heap.size, 0, none⟩ = some (.int .u64 (VL : Nat)) := by rw [HVL.out]; exact cell_of_one Hbx.out
              have Hor := Lib.hid hor; have Hra := Lib.hid hra; have Ha := Lib.hid ha
              clear hor hra HA
              go_wp2_with fail
              go_region
              all_goals rw [Hor.out]
              have hsn := Hpre.out.snoc Ha.out (readyB_true Hra.out).1 (readyB_true Hra.out).2.1 (readyB_true Hra.out).2.2
              have hsl := hsn.len
              rw [List.length_append, List.length_cons, List.length_nil] at hsl
              have hxl := Hxl.out
              have hbZ := (one_setCell (u := .int .u64 ((VL ||| 2 ^ a : Nat) : Int)) Hbx.out)
              have hoZ := RowG.keepT Hout.out (KeepT.set (T := 3) Hbx.out (by decide) 0 (.int .u64 ((VL ||| 2 ^ a : Nat) : Int)))
              have hwZ := Hbw.out.setCell (p := ⟨w2.heap.size, 0, none⟩) (Nat.le_refl _) (.int .u64 ((VL ||| 2 ^ a : Nat) : Int))
              have hdr : Below (wo.setCell ⟨w2.heap.size, 0, none⟩ (.int .u64 ((VL ||| 2 ^ a : Nat) : Int))).heap.size (wo.setCell ⟨w2.heap.size, 0, none⟩ (.int .u64 ((VL ||| 2 ^ a : Nat) : Int))) (wo.setCell ⟨w2.heap.size, 0, none⟩ (.int .u64 ((VL ||| 2 ^ a : Nat) : Int))).drew := (Below.refl _ _).drew
              have hbZ2 := (hdr.block _ (lt_of_block hbZ)).trans hbZ
              have hoZ2 := RowG.below hoZ hdr
              have hwZ2 := hwZ.drew
              generalize (wo.setCell ⟨w2.heap.size, 0, none⟩ (.int .u64 ((VL ||| 2 ^ a : Nat) : Int))).drew = wZ at hbZ2 hoZ2 hwZ2 ⊢
              have HbZ := Lib.hid hbZ2; have HoZ := Lib.hid hoZ2; have HwZ := Lib.hid hwZ2; have Hsn := Lib.hid hsn
              clear hbZ hoZ hwZ hdr hbZ2 hoZ2 hwZ2 hsn hc
              have Hsl := Lib.hid hsl
              have Hx24 := Lib.hid (show xs.length + 1 ≤ 1000000 by omega)
              clear hsl hxl
              go_wp2_with (at_builtin; refine wpList_append_L rfl (.tmp 63) (.tmp 65) rfl w2.heap.size (.slice ao xs.length co) xs rfl HoZ.out a _ rfl rfl Hx24.out HwZ.out.size ?_; intro g9 c9 w9 ho9 hb9 hk9 hg9; have Ho9 := Lib.hid ho9; have Hb9 := Lib.hid hb9; have Hk9 := Lib.hid hk9; clear ho9 hb9 hk9 hg9)
              go_roundg (items.length - (l.length + 1))
              case measure => have := Hsl.out; omega
              case rel => exact ⟨l ++ [a], by rw [List.length_append]; rfl, Hsn.out, by rw [bitsL_snoc, ← HVL.out]; exact (Hk9.out _ (lt_of_block HbZ.out) (fun e => by obtain ⟨cur, e2⟩ := RowG.ty HoZ.out _ e; rw [HbZ.out] at e2; simp at e2)).trans HbZ.out, by rw [List.map_append, ← Hxs.out]; exact Ho9.out, HwZ.out.trans Hb9.out⟩
          | succ q =>
            rw [show (((q + 1 : Nat) : Int) - 1) = (q : Int) by omega]
            have hqn : q < items.length := by omega
            have hqi : (q : Int) < (items.length : Int) := by omega
            have hvl : q < vs.length := by rw [Hldo.out.len]; exact hqn
            obtain ⟨cl0, cl1, cl2⟩ := Hldo.out.cell hvl
            have hrow := Hldo.out.rows q hvl
            obtain ⟨v0, hv0⟩ : ∃ v0, v0 = vs[q] := ⟨_, rfl⟩
            rw [← hv0] at hrow cl0
            have hlen : (leadsM items set ls q).length ≤ 2400 := by
              have h1 := leadsM_len items set q ls
              have h2 : ls.length * items.length ≤ 100 * 24 := Nat.mul_le_mul Hl100.out hn24
              omega
            have hlk := Hlk.out q v0 hrow (by omega)
            obtain ⟨ar, cr, rfl, _, _⟩ := RowG.shape hrow
            rw [List.length_map] at cl0 hlk
            have hc : wo.cell? ⟨w2.heap.size, 0, none⟩ = some (.int .u64 (VL : Nat)) := by rw [HVL.out]; exact cell_of_one Hbx.out
            have h2 := HH2.out q wo
            have h1 := bitHas_any set q wo Hs64.out
            have hrd : readyB items set ls l q = (set.testBit q && !decide (q ∈ l) && !(leadsM items set ls q).any (fun k => !decide (k ∈ l))) := rfl
            rw [← HAn.out, ← HBt.out] at hrd
            obtain ⟨B1, hB1⟩ : ∃ B, B = set.testBit q := ⟨_, rfl⟩
            obtain ⟨B2, hB2⟩ : ∃ B, B = VL.testBit q := ⟨_, rfl⟩
            obtain ⟨B3, hB3⟩ : ∃ B, B = (leadsM items set ls q).any (fun k => !VL.testBit k) := ⟨_, rfl⟩
            rw [← hB1, ← hB2, ← hB3] at hrd
            rw [← hB1] at h1
            rw [← hB2] at h2
            rw [← hB3] at hlk
            obtain ⟨LL, hLL⟩ : ∃ LL, LL = (leadsM items set ls q).length := ⟨_, rfl⟩
            rw [← hLL] at cl0 hlk
            have H1 := Lib.hid h1; have H2 := Lib.hid h2; have H3 := Lib.hid hlk; have Hrd := Lib.hid hrd
            clear hA hrow hv0 hlen hlk h1 h2 hrd hB1 hB2 hB3 hLL
            have HNo := Lib.hid (show readyB items set ls l q = false → ((A = -1 ∧ ∀ q', q ≤ q' → q' < items.length → readyB items set ls l q' = false) ∨ ∃ a : Nat, A = a ∧ a < items.length ∧ readyB items set ls l a = true) from fun hf => by
              rcases HA.out with ⟨e, h⟩ | h
              · refine .inl ⟨e, fun q' h1 h2 => ?_⟩
                rcases Nat.lt_or_ge q q' with h3 | h3
                · exact h q' h3 h2
                · rw [show q' = q by omega]; exact hf
              · exact .inr h)
            cases B1 with
            | false =>
              go_wp2_with fail
              refine H1.out.mono ?_
              rintro e w7 ⟨rfl, rfl⟩
              go_wp2_with fail
              go_roundg q
              case measure => omega
              case rel => exact ⟨rfl, q, A, by omega, rfl, by go_num, rfl, HNo.out Hrd.out⟩
            | true =>
              cases B2 with
              | true =>
                go_wp2_with fail
                refine H1.out.mono ?_
                rintro e w7 ⟨rfl, rfl⟩
                go_wp2_with fail
                refine H2.out.mono ?_
                rintro e w7 ⟨rfl, rfl⟩
                go_wp2_with fail
                go_roundg q
                case measure => omega
                case rel => exact ⟨rfl, q, A, by omega, rfl, by go_num, rfl, HNo.out Hrd.out⟩
              | false =>
                cases B3 with
                | true =>
                  go_wp2_with fail
                  refine H1.out.mono ?_
                  rintro e w7 ⟨rfl, rfl⟩
                  go_wp2_with fail
                  refine H2.out.mono ?_
                  rintro e w7 ⟨rfl, rfl⟩
                  go_wp2_with fail
                  refine H3.out.mono ?_
                  rintro e w7 ⟨rfl, rfl⟩
                  go_wp2_with fail
                  go_roundg q
                  case measure => omega
                  case rel => exact ⟨rfl, q, A, by omega, rfl, by go_num, rfl, HNo.out Hrd.out⟩
                | false =>
                  go_wp2_with fail
                  refine H1.out.mono ?_
                  rintro e w7 ⟨rfl, rfl⟩
                  go_wp2_with fail
                  refine H2.out.mono ?_
                  rintro e w7 ⟨rfl, rfl⟩
                  go_wp2_with fail
                  refine H3.out.mono ?_
                  rintro e w7 ⟨rfl, rfl⟩
                  go_wp2_with fail
                  go_roundg q
                  case measure => omega
                  case rel => exact ⟨rfl, q, q, by omega, rfl, by go_num, rfl, .inr ⟨q, rfl, hqn, Hrd.out⟩⟩
end Go.Proofs.YtheemhelioendaaGreatDoor
