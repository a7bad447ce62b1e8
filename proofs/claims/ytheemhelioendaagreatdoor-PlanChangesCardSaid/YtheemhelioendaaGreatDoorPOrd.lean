/- The walk of PlanOrdered. -/
import Derived.Test.YtheemhelioendaaGreatDoorPlanned
import Derived.Deep.QuietTactic
import Derived.BigQuiet
namespace Go.Proofs.YtheemhelioendaaGreatDoor
open Go.RowKit
set_option linter.unusedVariables false

theorem testRow {items : List ItemM} {set : Nat} {ls : List LineM} {l : List Nat} (h : OrdPre items set ls l) {k i : Nat} (hk : k < l.length) (hl : i < ls.length) (h2 : ls[i].kind = 2) (hn : numM items ls[i].item = l[k]) {m : Nat} (hm : m ∈ amongM items ls[i].other ls[i].range) (hne : m ≠ l[k]) (hs : set.testBit m = true) : m ∈ l.take k := by
  refine h.ready k hk m ?_
  unfold leadsM
  refine List.mem_flatMap.2 ⟨ls[i], List.getElem_mem hl, ?_⟩
  unfold leadN
  rw [if_pos ⟨h2, hn, (h.inn _ (List.getElem_mem hk)).2⟩]
  refine List.mem_filter.2 ⟨hm, ?_⟩
  rw [hs, decide_eq_true hne]; rfl
theorem not_before {items : List ItemM} {set : Nat} {ls : List LineM} {l : List Nat} (h : OrdPre items set ls l) {k : Nat} (hk : k < l.length) : l[k] ∉ l.take k := by
  intro q
  obtain ⟨i, hi, e⟩ := List.getElem_of_mem q
  rw [List.length_take] at hi
  rw [List.getElem_take] at e
  exact List.pairwise_iff_getElem.1 h.nodup i k (by omega) hk (by omega) e
/-- Bits, as the walk spells them. -/
theorem bit1_eq {v k : Nat} (hv : v < 18446744073709551616) (hk : k < 64) : (bits BinOp.and IntKind.u64 ((v : Int) / 2 ^ k) 1 == 1) = v.testBit k := by
  have := bit_is1 v k hv
  rwa [Nat.min_eq_left (by omega)] at this
theorem bit0_eq {v k : Nat} (hv : v < 18446744073709551616) (hk : k < 64) : (bits BinOp.and IntKind.u64 ((v : Int) / 2 ^ k) 1 == 0) = !v.testBit k := by
  have := bit_is0 v k hv
  rwa [Nat.min_eq_left (by omega)] at this
set_option maxRecDepth 100000 in
set_option maxHeartbeats 32000000 in
theorem planOrdered_walk (s : ByteArray) (n : Nat) (w : World) (hm : s.size ≤ 9223372036854775807) (hn : n < 18446744073709551616) (hL : LaidR w) (hT : TypeLaid w) : Calls Tryz.prog 4 #[.string s, .int .u64 n] w fun e w' => e = .returned (.bool true) ∧ Below w.heap.size w w' := by
  have HP := Lib.hid (read_any s 24 w hm (by decide) hL hT)
  have HR := Lib.hid (show ∀ w', Below w.heap.size w w' → (Calls Tryz.prog 14 #[] w' fun e w'' => e = .returned (.bool true) ∧ Below w'.heap.size w' w'') ∧ TypeLaid w' from fun w' hw => ⟨planned_any w' (hL.below hw) (hT.below hw), hT.below hw⟩)
  have Hn := Lib.hid hn
  clear hL hT hm hn
  go_enter Tryz.func4, Tryz.ntmps4
  go_wp2_with fail
  refine HP.out.mono ?_
  rintro e w1 ⟨⟨p, ls, items, a1, c1, a2, c2, rfl, hcat, hls, _, hlen, hmo, hin⟩ | ⟨rfl, hno⟩, hb1⟩
  · obtain ⟨hok, vl, vi, hat⟩ := hcat
    have hn24 : items.length ≤ 24 := by omega
    obtain ⟨L, hL⟩ : ∃ L, L = (rulesC ls items).length := ⟨_, rfl⟩
    rw [← hL]
    obtain ⟨w2, hw2⟩ : ∃ w2, w2 = w1.alloc (.cells #[.int .i64 (items.length : Nat), .slice a1 L c1, .slice a2 L c2] 28) := ⟨_, rfl⟩
    have hb2 : Below w1.heap.size w1 w2 := by rw [hw2]; exact (Below.refl _ _).alloc (Nat.le_refl _) _
    have hk2 : w2.heap[w1.heap.size]? = some (.cells #[.int .i64 (items.length : Nat), .slice a1 L c1, .slice a2 L c2] 28 (0, 0)) := by rw [hw2]; exact heap_at rfl
    obtain ⟨hmk, hlt⟩ := maskSet n items.length Hn.out hn24
    obtain ⟨set, hset⟩ : ∃ set, set = n &&& (2 ^ items.length - 1) := ⟨_, rfl⟩
    rw [← hset] at hmk hlt
    have hs64 : set < 18446744073709551616 := Nat.lt_of_lt_of_le hlt (Nat.le_trans (Nat.pow_le_pow_right (by decide) hn24) (by decide))
    have HF := Lib.hid (show ∀ w', Below w2.heap.size w2 w' → (Calls Tryz.prog 16 #[.pointer (some ⟨p, 0, none⟩), .int .u64 set] w' (FitsP ls items set w')) ∧ (Calls Tryz.prog 15 #[.pointer (some ⟨p, 0, none⟩), .int .u64 set] w' (OrderP ls items set w')) ∧ CatAt w' p vl vi ls items ∧ w'.heap[w1.heap.size]? = some (.cells #[.int .i64 (items.length : Nat), .slice a1 L c1, .slice a2 L c2] 28 (0, 0)) from fun w' hw => by
      have hc := hat.below (hb2.trans (hw.mono hb2.size))
      exact ⟨fits_any p vl vi ls items set w' hc hok hlt, order_any p vl vi ls items set w' hc hok hlt, hc, (hw.block _ (lt_of_block hk2)).trans hk2⟩)
    have HB2 := Lib.hid (hb1.trans (hb2.mono hb1.size)); have Hok := Lib.hid hok; have Hs64 := Lib.hid hs64
    have Hmk := Lib.hid hmk
    clear hok hat hls hb1 hb2 hk2 hin HP hL hlen hmk hset hs64 hlt
    go_upto_region 2 with fail
    rw [← hw2]
    clear hw2
    go_wp2_with fail
    refine (HR.out _ HB2.out).1.mono ?_
    rintro e w3 ⟨rfl, hb3⟩
    obtain ⟨hF3, hO3, _, hk3⟩ := HF.out _ hb3
    obtain ⟨c0, c1', c2'⟩ := cellsR hk3
    have HB3 := Lib.hid (HB2.out.trans (hb3.mono HB2.out.size)); have Hb3 := Lib.hid hb3; have HO3 := Lib.hid hO3
    clear hb3 hk3 hF3 hO3
    have hmk := Hmk.out
    go_wp2_with fail
    clear hmk c0 c1' c2'
    refine HO3.out.mono ?_
    rintro e w4 ⟨⟨ao, co, l, rfl, hout, hord, _⟩ | ⟨rfl, hff⟩ | ⟨rfl, hff, _⟩, hb4⟩
    · have Hb4 := Lib.hid (Hb3.out.trans (hb4.mono Hb3.out.size)); have HB4 := Lib.hid (HB3.out.trans (hb4.mono HB3.out.size)); have Hout := Lib.hid hout; have Hord := Lib.hid hord
      have HLi := Lib.hid (lines_any p vl vi ls items w4 (HF.out _ Hb4.out).2.2.1 (by have := Hok.out.few; omega))
      have hll : l.length ≤ 24 := Nat.le_trans hord.1.len hn24
      obtain ⟨NL, hNL⟩ : ∃ NL, NL = l.length := ⟨_, rfl⟩
      rw [← hNL] at Hout hll ⊢
      have HNL := Lib.hid hNL
      clear hout hord hb4 HO3 hNL
      go_wp2_with fail
      refine HLi.out.mono ?_
      rintro e w5 ⟨⟨v5, rfl, hl5⟩, hb5⟩
      obtain ⟨al, cl, rfl, hll5, hlm5⟩ := hl5.row.shape
      have HX := Lib.hid (show ∀ w', Below w5.heap.size w5 w' → IsLines w' w4.heap.size (.slice al ls.length cl) ls ∧ CatAt w' p vl vi ls items ∧ (w'.heap[w1.heap.size]? = some (.cells #[.int .i64 (items.length : Nat), .slice a1 L c1, .slice a2 L c2] 28 (0, 0))) ∧ OutI w' w3.heap.size (.slice ao NL co) (l.map (fun k : Nat => (k : Int))) ∧ Below w.heap.size w w' from fun w' hw => by
        have h4 := hb5.trans (hw.mono hb5.size)
        obtain ⟨_, _, q1, q2⟩ := HF.out w' (Hb4.out.trans (h4.mono Hb4.out.size))
        exact ⟨hl5.below hw, q1, q2, RowG.below Hout.out h4, HB4.out.trans (h4.mono HB4.out.size)⟩)
      clear hl5 hb5 HLi
      go_wp2_with fail
      go_loopg [12, 14] NL (fun gk dn i wr => ∃ k : Nat, k ≤ NL ∧ gk = NL - k ∧ i = .int .i64 k ∧ dn = .int .u64 (bitsL (l.take k) : Nat) ∧ Below w5.heap.size w5 wr)
      case atStart => exact ⟨0, Nat.zero_le _, rfl, rfl, rfl, Below.refl _ _⟩
      case round =>
        obtain ⟨k, hk, rfl, rfl, rfl, hbw⟩ := hrel
        obtain ⟨wo, rfl⟩ : ∃ y, y = wr := ⟨_, rfl⟩
        obtain ⟨_, _, hrb, hro, _⟩ := HX.out wo hbw
        by_cases hlt : k < NL
        · have hi : (k : Int) < (NL : Int) := by omega
          have hkl : k < l.length := by rw [← HNL.out]; exact hlt
          obtain ⟨g, rfl, hg, _⟩ := RowG.at hro (by rw [List.length_map]; omega)
          have hc := RowG.cell (enc := encInt) (z := 1) (fun _ => rfl) hro (k := k) (by rw [List.length_map]; exact hkl) (j := 0) (by decide) rfl
          rw [Nat.mul_one, Nat.add_zero, List.getElem_map] at hc
          obtain ⟨b0, b1, b2⟩ := cellsR hrb
          have hain := Hord.out.1.inn _ (List.getElem_mem hkl)
          have hnb := not_before Hord.out.1 hkl
          have hbs := bitsL_snoc (l.take k) l[k]
          rw [← List.take_succ_eq_append_getElem hkl] at hbs
          have HTR := Lib.hid (show ∀ (i : Nat) (hl : i < ls.length), ls[i].kind = 2 → numM items ls[i].item = (l[k] : Nat) → ∀ m, m ∈ amongM items ls[i].other ls[i].range → m ≠ l[k] → set.testBit m = true → m ∈ l.take k from fun i hl h2 hn m hm hne hs => testRow Hord.out.1 hkl hl h2 hn hm hne hs)
          obtain ⟨a, ha⟩ : ∃ a, a = l[k] := ⟨_, rfl⟩
          rw [← ha] at hc hain hnb hbs HTR
          have Ha := Lib.hid ha
          have ha24 : a < 24 := by have := hain.1; omega
          have hD24 : bitsL (l.take k) < 16777216 := Nat.lt_of_lt_of_le (bitsL_lt (n := items.length) (fun i hi => (Hord.out.1.inn i (List.mem_of_mem_take hi)).1)) (Nat.le_trans (Nat.pow_le_pow_right (by decide) hn24) (by decide))
          have hD64 : bitsL (l.take k) < 18446744073709551616 := by omega
          have HBt := Lib.hid (fun q => bitsL_test (l.take k) q)
          obtain ⟨D, hD⟩ : ∃ D, D = bitsL (l.take k) := ⟨_, rfl⟩
          rw [← hD] at hD24 hD64 HBt hbs ⊢
          have t1 : decide ((a : Int) < 0) = false := by simp
          have t2 : decide ((items.length : Int) ≤ (a : Int)) = false := by have := hain.1; simp; omega
          have t2n : decide (items.length ≤ a) = false := by have := hain.1; simp; omega
          have t2p : ¬ items.length ≤ a := by have := hain.1; omega
          have t3 : (bits BinOp.and IntKind.u64 ((D : Int) / 2 ^ a) 1 == 1) = false := by rw [bit1_eq hD64 (by omega), HBt.out, decide_eq_false hnb]
          have Hbw := Lib.hid hbw; have Hbs := Lib.hid hbs; have HD64 := Lib.hid hD64; have HD24 := Lib.hid hD24
          clear hbw hrb hro hain hnb hbs hD64 hD24 hD ha
          go_upto_region 14 with fail
          go_quiet (fail)
          clear t1 t2 t2n t2p t3 b0 b1 b2 hc
          go_wp2_with fail
          go_loopg [15] ls.length (fun gk i wr => ∃ q : Nat, q ≤ ls.length ∧ gk = ls.length - q ∧ i = .int .i64 q ∧ Below w5.heap.size w5 wr)
          case atStart => exact ⟨0, Nat.zero_le _, rfl, rfl, below_drewN Hbw.out _⟩
          case round =>
            obtain ⟨q, hq, rfl, rfl, hbi⟩ := hrel
            obtain ⟨wi, rfl⟩ : ∃ y, y = wr := ⟨_, rfl⟩
            obtain ⟨hlw, hcw, _, hro, _⟩ := HX.out wi hbi
            by_cases hql : q < ls.length
            · have hqi : (q : Int) < (ls.length : Int) := by omega
              obtain ⟨gl, rfl, hgl, _⟩ := hlw.row.at (by omega)
              obtain ⟨c0, c1, c2, c3, c4, c5, c6⟩ := hlw.cells hql
              have hin := hlw.ins _ (List.getElem_mem hql)
              have htr := HTR.out q hql
              obtain ⟨lx, hlx⟩ : ∃ lx, lx = ls[q] := ⟨_, rfl⟩
              rw [← hlx] at c0 c1 c2 c3 c4 c5 c6 hin htr
              obtain ⟨kd, nm, x, y, z, ot, rg, rv⟩ := lx
              have hrg := hin.rng
              simp only at c0 c1 c2 c3 c4 c5 c6 hrg
              obtain ⟨ar, cr, rfl, _, _⟩ := hrg.shape
              have hcrow := RowG.cell (enc := encInt) (z := 1) (fun _ => rfl) hro (k := k) (by rw [List.length_map, ← HNL.out]; exact hlt) (j := 0) (by decide) rfl
              rw [Nat.mul_one, Nat.add_zero, List.getElem_map, ← Ha.out] at hcrow
              obtain ⟨wB, hwB⟩ : ∃ q, q = wi.alloc (.cells #[.int .i64 kd, .string nm, .int .i64 x, .int .i64 y, .int .i64 z, .string ot, .slice ar rg.length cr] 51) := ⟨_, rfl⟩
              have hbB : Below wi.heap.size wi wB := by rw [hwB]; exact (Below.refl _ _).alloc (Nat.le_refl _) _
              have hkB : wB.heap[wi.heap.size]? = some (.cells #[.int .i64 kd, .string nm, .int .i64 x, .int .i64 y, .int .i64 z, .string ot, .slice ar rg.length cr] 51 (0, 0)) := by rw [hwB]; exact heap_at rfl
              have hbiB := hbi.trans (hbB.mono hbi.size)
              have HY := Lib.hid (show ∀ w', Below wB.heap.size wB w' → (w'.cell? ⟨wi.heap.size, 0, none⟩ = some (.int .i64 kd) ∧ w'.cell? ⟨wi.heap.size, 1, none⟩ = some (.string nm) ∧ w'.cell? ⟨wi.heap.size, 2, none⟩ = some (.int .i64 x) ∧ w'.cell? ⟨wi.heap.size, 3, none⟩ = some (.int .i64 y) ∧ w'.cell? ⟨wi.heap.size, 4, none⟩ = some (.int .i64 z) ∧ w'.cell? ⟨g, k, none⟩ = some (.int .i64 (a : Nat))) ∧ w'.cell? ⟨wi.heap.size, 5, none⟩ = some (.string ot) ∧ w'.cell? ⟨wi.heap.size, 6, none⟩ = some (.slice ar rg.length cr) ∧ IsSp w' (.slice ar rg.length cr) rg ∧ CatAt w' p vl vi ls items ∧ Below w5.heap.size w5 w' from fun w' hw => by
                have h7 := cells7 ((hw.block _ (lt_of_block hkB)).trans hkB)
                have hb := hbiB.trans (hw.mono hbiB.size)
                have hro' := (HX.out w' hb).2.2.2.1
                have hc' := RowG.cell (enc := encInt) (z := 1) (fun _ => rfl) hro' (k := k) (by rw [List.length_map, ← HNL.out]; exact hlt) (j := 0) (by decide) rfl
                rw [Nat.mul_one, Nat.add_zero, List.getElem_map, ← Ha.out] at hc'
                exact ⟨⟨h7.1, h7.2.1, h7.2.2.1, h7.2.2.2.1, h7.2.2.2.2.1, hc'⟩, h7.2.2.2.2.2.1, h7.2.2.2.2.2.2, (hrg.below hbB).below hw, (HX.out w' hb).2.1, hb⟩)
              have Htr := Lib.hid htr
              clear hlw hcw hro hin htr hlx hrg hcrow hbB hkB hbiB hbi
              go_upto_region 20 with fail
              rw [← hwB]
              clear hwB c0 c1 c2 c3 c4 c5 c6
              by_cases hk2 : kd = 2
              · subst hk2
                obtain ⟨NU, hNU⟩ : ∃ NU, NU = numM items (nm, x, y, z) := ⟨_, rfl⟩
                have HN := Lib.hid (show ∀ w', Below wB.heap.size wB w' → Calls Tryz.prog 18 #[.pointer (some ⟨p, 0, none⟩), .string nm, .agg #[.int .i64 x, .int .i64 y, .int .i64 z]] w' fun e w'' => e = .returned (.int .i64 NU) ∧ Below w'.heap.size w' w'' from fun w' hw => by
                  have h := number_at p 0 vl vi items nm x y z w' (HY.out w' hw).2.2.2.2.1.box (HY.out w' hw).2.2.2.2.1.its
                  rw [← hNU] at h
                  exact h)
                have HNU := Lib.hid hNU
                have HB := Lib.hid ((Below.refl wB.heap.size wB).drew)
                have KS := (HY.out _ HB.out).1
                clear hNU
                obtain ⟨TN, hTN⟩ : ∃ TN, TN = (NU != (a : Int)) := ⟨_, rfl⟩
                have hTN' := hTN.symm
                have HTN := Lib.hid hTN
                clear hTN
                go_region_held3 (fun w' => w'.cell? ⟨wi.heap.size, 0, none⟩ = some (.int .i64 2) ∧ w'.cell? ⟨wi.heap.size, 1, none⟩ = some (.string nm) ∧ w'.cell? ⟨wi.heap.size, 2, none⟩ = some (.int .i64 x) ∧ w'.cell? ⟨wi.heap.size, 3, none⟩ = some (.int .i64 y) ∧ w'.cell? ⟨wi.heap.size, 4, none⟩ = some (.int .i64 z) ∧ w'.cell? ⟨g, k, none⟩ = some (.int .i64 (a : Nat))) (exact KS)
                  ((go_at_call 18; (with_reducible refine (HN.out _ HB.out).mono ?_); rintro e w7 ⟨rfl, hb7⟩; have hB7 := HB.out.trans (hb7.mono HB.out.size); clear hb7 KS HB; have HB := Lib.hid hB7; clear hB7; have KS := (HY.out _ HB.out).1))
                clear hTN'
                cases TN with
                | true =>
                  clear KS
                  go_wp2_with fail
                  go_roundg (ls.length - (q + 1))
                  case measure => omega
                  case rel => exact ⟨q + 1, by omega, rfl, by go_num, (HY.out _ HB.out).2.2.2.2.2⟩
                | false =>
                  have hNUa : NU = (a : Int) := by have h := HTN.out.symm; rw [bne_eq_false_iff_eq] at h; exact h
                  obtain ⟨hy0, hy5, hy6, hysp, hycat, hyb⟩ := HY.out _ HB.out
                  have HAm := Lib.hid (among_any p vl vi (.slice ar rg.length cr) ls items ot rg _ hycat hysp (by omega))
                  have htr2 := Htr.out (by trivial) (by rw [← hNUa]; exact HNU.out.symm)
                  have Htr2 := Lib.hid htr2; have Hyb := Lib.hid hyb
                  obtain ⟨am, ham⟩ : ∃ am, am = amongM items ot rg := ⟨_, rfl⟩
                  have haml : ∀ m ∈ am, m < 24 := fun m hm => by rw [ham] at hm; have := amongM_lt hm; omega
                  rw [← ham] at HAm htr2
                  have Htr3 := Lib.hid htr2; have Haml := Lib.hid haml
                  clear KS hysp hycat hyb htr2 ham haml hy0
                  go_wp2_with fail
                  refine HAm.out.mono ?_
                  rintro e w8 ⟨⟨v8, rfl, hz8⟩, hb8⟩
                  obtain ⟨az8, cz8, rfl, hzl8, hzm8⟩ := RowG.shape hz8
                  have Hb8 := Lib.hid (Hyb.out.trans (hb8.mono Hyb.out.size)); have Hz8 := Lib.hid hz8
                  rw [List.length_map] at Hz8 hzl8 ⊢
                  obtain ⟨AL, hAL⟩ : ∃ AL, AL = am.length := ⟨_, rfl⟩
                  rw [← hAL] at Hz8 hzl8 ⊢
                  have HAL := Lib.hid hAL
                  clear hz8 hb8 HAm hy5 hy6 hAL
                  go_wp2_with fail
                  go_loopg [17] AL (fun gk i wr => ∃ j : Nat, j ≤ AL ∧ gk = AL - j ∧ i = .int .i64 j ∧ Below w8.heap.size w8 wr)
                  case atStart => exact ⟨0, Nat.zero_le _, rfl, rfl, Below.refl _ _⟩
                  case round =>
                    obtain ⟨j, hj, rfl, rfl, hbj⟩ := hrel
                    obtain ⟨wj, rfl⟩ : ∃ y, y = wr := ⟨_, rfl⟩
                    by_cases hjl : j < AL
                    · have hji : (j : Int) < (AL : Int) := by omega
                      have hja : j < am.length := by rw [← HAL.out]; exact hjl
                      have hz := RowG.below Hz8.out hbj
                      obtain ⟨gz, rfl, hgz, _⟩ := RowG.at hz (by rw [List.length_map]; exact Nat.lt_of_le_of_lt (Nat.zero_le _) hja)
                      have hcm := RowG.cell (enc := encInt) (z := 1) (fun _ => rfl) hz (k := j) (by rw [List.length_map]; exact hja) (j := 0) (by decide) rfl
                      rw [Nat.mul_one, Nat.add_zero, List.getElem_map] at hcm
                      have hml := Haml.out am[j] (List.getElem_mem hja)
                      have ht := Htr3.out am[j] (List.getElem_mem hja)
                      obtain ⟨m, hm⟩ : ∃ m, m = am[j] := ⟨_, rfl⟩
                      rw [← hm] at hcm hml ht
                      have hrow := (HX.out wj (Hb8.out.trans (hbj.mono Hb8.out.size))).2.2.2.1
                      have hcl := RowG.cell (enc := encInt) (z := 1) (fun _ => rfl) hrow (k := k) (by rw [List.length_map, ← HNL.out]; exact hlt) (j := 0) (by decide) rfl
                      rw [Nat.mul_one, Nat.add_zero, List.getElem_map, ← Ha.out] at hcl
                      have hb1 : (bits BinOp.and IntKind.u64 ((set : Int) / 2 ^ m) 1 == 1) = set.testBit m := bit1_eq Hs64.out (by omega)
                      have hb2 : (bits BinOp.and IntKind.u64 ((D : Int) / 2 ^ m) 1 == 0) = !decide (m ∈ l.take k) := by rw [bit0_eq HD64.out (by omega), HBt.out]
                      obtain ⟨B1, hB1⟩ : ∃ B, B = set.testBit m := ⟨_, rfl⟩
                      rw [← hB1] at hb1 ht
                      have Hbj := Lib.hid (Hb8.out.trans (hbj.mono Hb8.out.size)); have Hbj8 := Lib.hid hbj
                      clear hz hrow hm hB1 hbj
                      by_cases hma : m = a
                      · have e1 : ((m : Int) != (a : Int)) = false := by rw [hma]; simp
                        clear hma ht hb1 hb2
                        go_upto_region 24 with fail
                        go_quiet (fail)
                        go_wp2_with fail
                        go_roundg (AL - (j + 1))
                        case measure => omega
                        case rel => exact ⟨j + 1, by omega, rfl, by go_num, below_drewN Hbj8.out _⟩
                      · have e1 : ((m : Int) != (a : Int)) = true := by rw [bne_iff_ne]; omega
                        cases B1 with
                        | false =>
                          clear hma ht hb2
                          go_upto_region 24 with fail
                          go_quiet (fail)
                          go_wp2_with fail
                          go_roundg (AL - (j + 1))
                          case measure => omega
                          case rel => exact ⟨j + 1, by omega, rfl, by go_num, below_drewN Hbj8.out _⟩
                        | true =>
                          rw [decide_eq_true (ht hma rfl), Bool.not_true] at hb2
                          clear hma ht
                          go_upto_region 24 with fail
                          go_quiet (fail)
                          go_wp2_with fail
                          go_roundg (AL - (j + 1))
                          case measure => omega
                          case rel => exact ⟨j + 1, by omega, rfl, by go_num, below_drewN Hbj8.out _⟩
                    · obtain rfl : j = AL := by omega
                      have Hbj := Lib.hid (Hb8.out.trans (hbj.mono Hb8.out.size))
                      clear hbj
                      go_wp2_with fail
                      go_roundg (ls.length - (q + 1))
                      case measure => omega
                      case rel => exact ⟨q + 1, by omega, rfl, by go_num, Hbj.out⟩
              · have t2 : (kd != 2) = true := by rw [bne_iff_ne]; exact hk2
                have hY := (HY.out wB (Below.refl _ _)).1
                obtain ⟨y0, y1, y2, y3, y4, y5⟩ := hY
                go_quiet (fail)
                clear y0 y1 y2 y3 y4 y5
                go_wp2_with fail
                go_roundg (ls.length - (q + 1))
                case measure => omega
                case rel => exact ⟨q + 1, by omega, rfl, by go_num, (HY.out _ (below_drewN (Below.refl _ _) _)).2.2.2.2.2⟩
            · obtain rfl : q = ls.length := by omega
              have hor := orBit HD24.out ha24
              have Hbi := Lib.hid hbi
              clear hlw hcw hro hbi
              have hcrow := RowG.cell (enc := encInt) (z := 1) (fun _ => rfl) (HX.out wi Hbi.out).2.2.2.1 (k := k) (by rw [List.length_map, ← HNL.out]; exact hlt) (j := 0) (by decide) rfl
              rw [Nat.mul_one, Nat.add_zero, List.getElem_map, ← Ha.out] at hcrow
              go_wp2_with fail
              go_roundg (NL - (k + 1))
              case measure => omega
              case rel => exact ⟨k + 1, by omega, rfl, by go_num, by rw [Hbs.out], Hbi.out⟩
        · obtain rfl : k = NL := by omega
          have hts : bitsL (l.take k) = set := by rw [HNL.out, List.take_length]; exact Hord.out.2
          have Hbw := Lib.hid (HX.out wo hbw).2.2.2.2
          have tq : ((set : Int) == (set : Int)) = true := by simp
          clear hrb hro hbw hlt
          rw [hts]
          clear hts
          go_wp2_with fail
          go_ret
          exact ⟨rfl, Hbw.out⟩
    · have HB4 := Lib.hid (HB3.out.trans (hb4.mono HB3.out.size))
      have HF4 := Lib.hid (HF.out w4 (Hb3.out.trans (hb4.mono Hb3.out.size))).1
      have Hff := Lib.hid hff
      clear hb4 HO3 hff
      go_wp2_with fail
      refine HF4.out.mono ?_
      rintro e w5 ⟨⟨n5, rfl, _⟩, hb5⟩
      have HB5 := Lib.hid (HB4.out.trans (hb5.mono HB4.out.size))
      have HTl := Lib.hid (tell_errno 13 w5 (HR.out _ HB5.out).2)
      rw [Hff.out]
      clear hb5 HF4
      go_wp2_with fail
      refine HTl.out.mono ?_
      rintro e w6 ⟨rfl, hb6⟩
      have HB6 := Lib.hid (HB5.out.trans (hb6.mono HB5.out.size))
      clear hb6
      go_wp2_with fail
      go_ret
      exact ⟨rfl, HB6.out⟩
    · have HB4 := Lib.hid (HB3.out.trans (hb4.mono HB3.out.size))
      have HF4 := Lib.hid (HF.out w4 (Hb3.out.trans (hb4.mono Hb3.out.size))).1
      have Hff := Lib.hid hff
      clear hb4 HO3 hff
      go_wp2_with fail
      refine HF4.out.mono ?_
      rintro e w5 ⟨⟨n5, rfl, _⟩, hb5⟩
      have HB5 := Lib.hid (HB4.out.trans (hb5.mono HB4.out.size))
      have HTl := Lib.hid (tell_errno 11 w5 (HR.out _ HB5.out).2)
      rw [Hff.out]
      clear hb5 HF4
      go_wp2_with fail
      refine HTl.out.mono ?_
      rintro e w6 ⟨rfl, hb6⟩
      have HB6 := Lib.hid (HB5.out.trans (hb6.mono HB5.out.size))
      clear hb6
      go_wp2_with fail
      go_ret
      exact ⟨rfl, HB6.out⟩
  · have HB1 := Lib.hid (hb1.alloc hb1.size (.cells #[.int .i64 0, .slice none 0 0, .slice none 0 0] 28))
    clear hno hb1 HP
    obtain ⟨w2, hw2⟩ : ∃ w2, w2 = w1.alloc (.cells #[.int .i64 0, .slice none 0 0, .slice none 0 0] 28) := ⟨_, rfl⟩
    rw [← hw2] at HB1
    go_upto_region 2 with fail
    rw [← hw2]
    clear hw2
    go_wp2_with fail
    refine (HR.out _ HB1.out).1.mono ?_
    rintro e w3 ⟨rfl, hb3⟩
    have HB3 := Lib.hid (HB1.out.trans (hb3.mono HB1.out.size))
    clear hb3
    go_wp2_with fail
    refine (HR.out _ HB3.out).1.mono ?_
    rintro e w4 ⟨rfl, hb4⟩
    have HB4 := Lib.hid (HB3.out.trans (hb4.mono HB3.out.size))
    clear hb4
    go_wp2_with fail
    go_ret
    exact ⟨rfl, HB4.out⟩
end Go.Proofs.YtheemhelioendaaGreatDoor
