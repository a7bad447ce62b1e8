/- Contract: proof.Eliminate. -/
import Derived.Test.YtdeaficdfooegaaDoorElimM
namespace Go.Proofs.YtdeaficdfooegaaDoor
open Go.RowKit
set_option linter.unusedVariables false

def ElimP (m : Int) (l : List (List Int)) (w : World) (e : Ending) (w' : World) : Prop :=
  ∃ vs can er, e = .returned (.tuple #[vs, .bool can, er]) ∧ Below w.heap.size w w' ∧ ((¬ Good m l ∧ ∃ t x, er = .iface t x) ∨ er = .iface 49 (.int .i64 4) ∨
    (er = .nilIface ∧ (∃ a n c, vs = .slice a n c ∧ (n : Int) = m) ∧ (can = true ↔ ∃ f, allF f l = true)))
set_option maxRecDepth 100000 in
set_option maxHeartbeats 16000000 in
theorem elim_any (m : Int) (vl : Value) (l : List (List Int)) (w : World) (hl : IsRows w vl l) : Calls Tryd.prog 36 #[.int .i64 m, vl] w (ElimP m l w) := by
  obtain ⟨al, cl, rfl, hll, hlm, hllen⟩ := hl.shape
  have Hck := Lib.hid (check_any m _ l w hl)
  have Hl := Lib.hid hl
  clear hl
  by_cases hg : ¬ Good m l
  · have Hg := Lib.hid hg; clear hg
    go_enter Tryd.func36, Tryd.ntmps36
    go_wp2_with fail
    refine Hck.out.mono ?_
    rintro e w1 ⟨⟨ev, rfl, -, hno⟩, hb1⟩
    obtain ⟨t, x, rfl⟩ := hno Hg.out
    have Hb1 := Lib.hid hb1; clear hb1 hno
    go_wp2_with fail
    go_ret3
    exact ⟨_, _, _, rfl, Hb1.out, .inl ⟨Hg.out, _, _, rfl⟩⟩
  have hg := Classical.not_not.1 hg
  obtain ⟨M, rfl⟩ := Int.eq_ofNat_of_zero_le hg.1
  have hM : M ≤ 24 := by have := hg.2.1; omega
  have hl200 : l.length ≤ 200 := hg.2.2.1
  have hsm0 := good_sm hg
  have Hg := Lib.hid hg; have Hsm0 := Lib.hid hsm0; clear hg hsm0
  go_enter Tryd.func36, Tryd.ntmps36
  go_wp2_with fail
  refine Hck.out.mono ?_
  rintro e w1 ⟨⟨ev, rfl, hev, -⟩, hb1⟩
  obtain rfl := hev Hg.out
  have hcur : Cur w1.heap.size (w1.heap.size + 1) [] (w1.alloc (.cells #[.slice none 0 0] 56)) := ⟨by omega, by simp, none, 0, [], heap_at rfl, RowsG.nil _ _, fun r hr => by cases hr⟩
  have hA : Below w.heap.size w (w1.alloc (.cells #[.slice none 0 0] 56)) := hb1.alloc hb1.size _
  have s1 := hb1.size
  have Hcur := Lib.hid hcur; have HA := Lib.hid hA
  clear hb1 hev Hck hcur hA
  go_wp2_with fail
  generalize w1.alloc (.cells #[.slice none 0 0] 56) = wA at Hcur HA ⊢
  generalize w1.heap.size = B8 at Hcur s1 ⊢
  go_loopg [31] l.length (fun gk i wr => ∃ (k : Nat) (all : List (List Int)), k ≤ l.length ∧ gk = l.length - k ∧ i = .int .i64 k ∧ Cur B8 (B8 + 1) all wr ∧ InvA M l all k ∧ KeepB (B8 + 1) B8 wA wr)
  case atStart => exact ⟨0, [], Nat.zero_le _, rfl, rfl, Hcur.out, InvA.zero, KeepB.refl _ _ _⟩
  case round =>
    clear Hcur
    obtain ⟨k, all, hk, rfl, rfl, hcu, hin, hkb⟩ := hrel
    obtain ⟨wo, rfl⟩ : ∃ y, y = wr := ⟨_, rfl⟩
    by_cases hlt : k < l.length
    · have hrows := Hl.out.below (HA.out.trans (hkb.below (B := w.heap.size) (by omega) s1))
      obtain ⟨g, og, rfl, hgl⟩ := hrows.addr hlt
      obtain ⟨ax, nx, cx, cell1, r1⟩ := hrows.get hlt
      have hadd := cur_add hcu _ _ r1 (Hsm0.out _ (List.getElem_mem hlt)) (by have := hin.len; omega)
      have hnext := hin.add Hg.out hlt
      generalize l[k] = x at hadd hnext r1
      have Hadd := Lib.hid hadd; have Hnext := Lib.hid hnext; have Hkb := Lib.hid hkb
      clear hadd hnext hkb r1 hcu hin hrows
      go_wp2_with fail
      refine Hadd.out.mono ?_
      rintro e w9 ⟨rfl, hcu9, hk9⟩
      have Hcu9 := Lib.hid hcu9; have Hk9 := Lib.hid hk9
      clear hcu9 hk9 Hadd
      go_wp2_with fail
      go_roundg (l.length - (k + 1))
      case measure => omega
      case rel => exact ⟨k + 1, _, by omega, rfl, by go_num, Hcu9.out, Hnext.out, Hkb.out.trans Hk9.out⟩
    · obtain rfl : k = l.length := by omega
      obtain ⟨hd0, hle0⟩ := hin.done Hg.out
      have Hcu0 := Lib.hid hcu; have Hd0 := Lib.hid hd0; have Hkb0 := Lib.hid hkb; have Hle0 := Lib.hid hle0
      clear hcu hd0 hkb hin hle0
      go_wp2_with fail
      go_loopg [4, 40] M (fun gk sz i wr => ∃ (k base : Nat) (all : List (List Int)) (xs : List Value), k ≤ M ∧ gk = M - k ∧ i = .int .i64 k ∧ Cur B8 base all wr ∧ B8 + 1 ≤ base ∧ DpI M l all k ∧ all.length ≤ 2000 ∧ KeepB (B8 + 1) B8 wA wr ∧ wr.ownsRow (B8 + 1) 3 1 sz k xs)
      case atStart => exact ⟨0, _, _, [], Nat.zero_le _, rfl, rfl, Hcu0.out, Nat.le_refl _, Hd0.out, Hle0.out, Hkb0.out, World.ownsRow_nil _ _ _ _⟩
      case round =>
        clear Hcu0 Hd0 Hkb0 Hle0
        obtain ⟨k, base, old, xs, hk, rfl, rfl, hcu, hbs, hd, hle, hkb, hown⟩ := hrel
        obtain ⟨wv, rfl⟩ : ∃ y, y = wr := ⟨_, rfl⟩
        obtain ⟨a, ca, rs, hB, hrg, hfr⟩ := hcu.it
        have p1 := cell_of_one hB; have p2 := free_of_one hB; have p3 := lt_of_block hB
        obtain ⟨asz, csz, rfl⟩ := owns_shape hown
        by_cases hlt : k < M
        · have hnil := Cur.nil hB
          have hB2 := one_setCell (u := .slice none 0 0) hB
          have hrd : ∀ wr', KeepB wv.heap.size B8 (wv.setCell ⟨B8, 0, none⟩ (.slice none 0 0)) wr' → IsRows wr' (.slice a old.length ca) old := fun wr' hk => ((hrg.setB hB hcu.lt (.slice none 0 0)).keepB hB2 (by simpa using hk)).rows (by omega)
          have hon : ∀ wr', KeepB wv.heap.size B8 (wv.setCell ⟨B8, 0, none⟩ (.slice none 0 0)) wr' → wr'.ownsRow (B8 + 1) 3 1 (.slice asz k csz) k xs := fun wr' hk => own_keepB hown hB (((KeepB.refl _ _ _).set _).trans hk)
          have hget : ∀ i (h : i < old.length), ∃ ax nx cx, ∀ g og, a = some ⟨g, og, none⟩ → ∀ wr', KeepB wv.heap.size B8 (wv.setCell ⟨B8, 0, none⟩ (.slice none 0 0)) wr' → wr'.cell? ⟨g, og + i, none⟩ = some (.slice ax nx cx) ∧ IsInts wr' (.slice ax nx cx) old[i] := fun i h => by
            obtain ⟨g, og, rfl, _⟩ := (hrd _ (KeepB.refl _ _ _)).addr h
            obtain ⟨ax, nx, cx, c1, r1⟩ := (hrd _ (KeepB.refl _ _ _)).get h
            refine ⟨ax, nx, cx, fun g' og' e wr' hk => ?_⟩
            cases e
            have hgl := hrg.own.lt g rfl
            have hlt8 := hcu.lt
            have e1 := World.cell?_of_block (a := ⟨g, og + i, none⟩) (hk.block g hgl.2 (by omega))
            rw [c1] at e1
            obtain ⟨ax', nx', cx', c2, r2⟩ := (hrd wr' hk).get h
            rw [e1] at c2
            cases c2
            exact ⟨e1, r2⟩
          have Hget := Lib.hid hget
          clear hget
          have hsl := fun g e => (hown.lt g e).2
          have hF := hd.fm
          have hcap : old.length ≤ ca ∧ ca ≤ 9223372036854775807 := by
            obtain ⟨_, _, h1, h2, h3, _⟩ := (hrg.rows (by omega)).shape
            cases h1; exact ⟨h2, h3⟩
          obtain ⟨hcap1, hcap2⟩ := hcap
          have p0 : B8 + 1 ≤ wv.heap.size := by omega
          have Hnil := Lib.hid hnil; have Hrd := Lib.hid hrd; have Hon := Lib.hid hon; have Hsl := Lib.hid hsl; have Hkb := Lib.hid (hkb.set (.slice none 0 0)); have Hd := Lib.hid hd; have HF := Lib.hid hF
          clear hnil hrd hon hsl hkb hd hB2 hB hrg hfr hcu hown hF
          go_wp2_with fail
          generalize wv.setCell ⟨B8, 0, none⟩ (.slice none 0 0) = wq at Hnil Hrd Hon Hkb Hget ⊢
          go_loopg [46] old.length (fun gk i wr => ∃ (j : Nat) (new : List (List Int)), j ≤ old.length ∧ gk = old.length - j ∧ i = .int .i64 j ∧ Cur B8 wv.heap.size new wr ∧ InvC M k old new j ∧ KeepB wv.heap.size B8 wq wr)
          case atStart => exact ⟨0, [], Nat.zero_le _, rfl, rfl, Hnil.out, InvC.zero, KeepB.refl _ _ _⟩
          case round =>
            clear Hnil p1 p2 p3
            obtain ⟨j, new, hj, rfl, rfl, hcu, hin, hkq⟩ := hrel
            obtain ⟨wo, rfl⟩ : ∃ y, y = wr := ⟨_, rfl⟩
            by_cases hltj : j < old.length
            · have hrows := Hrd.out _ hkq
              obtain ⟨g, og, rfl, hgl⟩ := hrows.addr hltj
              obtain ⟨ax, nx, cx, cell1, r1⟩ := hrows.get hltj
              have F := HF.out _ (List.getElem_mem hltj)
              have hadd := cur_add hcu _ _ r1 (F.sm (by omega)) (by have := hin.len; omega)
              have hyes := fun hf => hin.add HF.out (by omega) hltj hf
              have hno := hin.skip
              have hca := containsC_any ((k : Int) + 1) _ _ wo r1
              have hcb := containsC_any (-(k : Int) - 1) _ _ wo r1
              have hno2 : ¬ freeL (k : Int) old[j] → InvC M k old new (j + 1) := fun h => hno (fun _ => h)
              unfold freeL at hyes hno2
              generalize old[j] = x at hadd hyes hno2 r1 hca hcb
              clear hin hrows F hno
              have Hkq := Lib.hid hkq; have Hcu := Lib.hid hcu
              clear hkq hcu
              by_cases m1 : (k : Int) + 1 ∈ x
              · have hnx := hno2 (fun h => h.1 m1)
                rw [decide_eq_true m1] at hca
                have Hca := Lib.hid hca; have Hnx := Lib.hid hnx
                clear hca hcb hadd hyes hno2 hnx m1 r1
                go_wp2_with fail
                refine Hca.out.mono ?_
                rintro e w9 ⟨rfl, rfl⟩
                go_wp2_with fail
                go_roundg (old.length - (j + 1))
                case measure => omega
                case rel => exact ⟨j + 1, _, by omega, rfl, by go_num, Hcu.out, Hnx.out, Hkq.out⟩
              · by_cases m2 : -(k : Int) - 1 ∈ x
                · have hnx := hno2 (fun h => h.2 m2)
                  rw [decide_eq_false m1] at hca
                  rw [decide_eq_true m2] at hcb
                  have Hca := Lib.hid hca; have Hcb := Lib.hid hcb; have Hnx := Lib.hid hnx
                  clear hca hcb hadd hyes hno2 hnx m1 m2 r1
                  go_wp2_with fail
                  refine Hca.out.mono ?_
                  rintro e w9 ⟨rfl, rfl⟩
                  go_wp2_with fail
                  refine Hcb.out.mono ?_
                  rintro e w9 ⟨rfl, rfl⟩
                  go_wp2_with fail
                  go_roundg (old.length - (j + 1))
                  case measure => omega
                  case rel => exact ⟨j + 1, _, by omega, rfl, by go_num, Hcu.out, Hnx.out, Hkq.out⟩
                · have hnx := hyes ⟨m1, m2⟩
                  rw [decide_eq_false m1] at hca
                  rw [decide_eq_false m2] at hcb
                  have Hca := Lib.hid hca; have Hcb := Lib.hid hcb; have Hnx := Lib.hid hnx; have Hadd := Lib.hid hadd
                  clear hca hcb hadd hyes hno2 hnx m1 m2 r1
                  go_wp2_with fail
                  refine Hca.out.mono ?_
                  rintro e w9 ⟨rfl, rfl⟩
                  go_wp2_with fail
                  refine Hcb.out.mono ?_
                  rintro e w9 ⟨rfl, rfl⟩
                  go_wp2_with fail
                  refine Hadd.out.mono ?_
                  rintro e w9 ⟨rfl, hcu9, hk9⟩
                  have Hcu9 := Lib.hid hcu9; have Hk9 := Lib.hid hk9
                  clear hcu9 hk9 Hadd
                  go_wp2_with fail
                  go_roundg (old.length - (j + 1))
                  case measure => omega
                  case rel => exact ⟨j + 1, _, by omega, rfl, by go_num, Hcu9.out, Hnx.out, Hkq.out.trans Hk9.out⟩
            · obtain rfl : j = old.length := by omega
              have hin2 := hin.done hle
              have Hcu1 := Lib.hid hcu; have Hkq1 := Lib.hid hkq; have Hin1 := Lib.hid hin2
              clear hin hin2 hcu hkq
              go_wp2_with fail
              go_loopg [4, 69] old.length (fun gk sz i wr => ∃ (j : Nat) (new : List (List Int)), j ≤ old.length ∧ sz = .slice asz k csz ∧ gk = old.length - j ∧ i = .int .i64 j ∧ Cur B8 wv.heap.size new wr ∧ InvD M k old new j ∧ KeepB wv.heap.size B8 wq wr)
              case atStart => exact ⟨0, _, Nat.zero_le _, rfl, rfl, rfl, Hcu1.out, Hin1.out, Hkq1.out⟩
              case round =>
                clear Hcu1 Hkq1 Hin1
                obtain ⟨i1, new, hi1, rfl, rfl, rfl, hcu, hin, hkq⟩ := hrel
                obtain ⟨wo, rfl⟩ : ∃ y, y = wr := ⟨_, rfl⟩
                by_cases hlti : i1 < old.length
                · have hrows := Hrd.out _ hkq
                  obtain ⟨g, og, rfl, hgl⟩ := hrows.addr hlti
                  obtain ⟨ax, nx, cx, hgx⟩ := Hget.out i1 hlti
                  have hgx := hgx g og rfl
                  obtain ⟨cell1, r1⟩ := hgx wo hkq
                  obtain ⟨x, hx⟩ : ∃ x, x = old[i1] := ⟨_, rfl⟩
                  have hxi : ∀ wr', KeepB wv.heap.size B8 wq wr' → IsInts wr' (.slice ax nx cx) x := fun wr' h => hx ▸ (hgx wr' h).2
                  have hxm : x ∈ old := by rw [hx]; exact List.getElem_mem hlti
                  have hin2 := hin.in x
                  have Hcu1 := Lib.hid hcu; have Hkq1 := Lib.hid hkq; have Hin1 := Lib.hid hin2; have Hx := Lib.hid hx; have Hxm := Lib.hid hxm; have Hxi := Lib.hid hxi
                  clear hin hin2 hcu hkq hrows hx hxm hxi r1 hgx
                  go_wp2_with fail
                  go_loopg [75] old.length (fun gk i wr => ∃ (j : Nat) (new : List (List Int)), j ≤ old.length ∧ gk = old.length - j ∧ i = .int .i64 j ∧ Cur B8 wv.heap.size new wr ∧ InvE M k old new i1 x j ∧ KeepB wv.heap.size B8 wq wr)
                  case atStart => exact ⟨0, _, Nat.zero_le _, rfl, rfl, Hcu1.out, Hin1.out, Hkq1.out⟩
                  case round =>
                    clear Hcu1 Hin1 Hkq1
                    obtain ⟨j, new, hj, rfl, rfl, hcu, hin, hkq⟩ := hrel
                    obtain ⟨wz, rfl⟩ : ∃ y, y = wr := ⟨_, rfl⟩
                    by_cases hltj : j < old.length
                    · obtain ⟨ay, ny, cy, hgy⟩ := Hget.out j hltj
                      obtain ⟨cell2, r2⟩ := hgy g og rfl wz hkq
                      have r0 := Hxi.out wz hkq
                      have sx := (HF.out _ Hxm.out).sm (by omega)
                      have sy := (HF.out _ (List.getElem_mem hltj)).sm (by omega)
                      have hsk : (mayRes x old[j] k = true → alwaysL (formL (leftL x old[j] k)) = true) → InvE M k old new i1 x (j + 1) := fun h => hin.skip (fun _ => h)
                      have had := fun h => hin.add HF.out (by omega) Hxm.out hltj h
                      have hres := res_two k _ _ x old[j] wz r0 r2 sx sy
                      have sc := sx.res (v := k) sy
                      have hcut := fun w9 (h9 : Below wz.heap.size wz w9) v9 c9 h1 h2 => cur_add (hcu.below h9 (Nat.le_refl _)) v9 c9 h1 h2 (by have := hin.len; omega)
                      have hcb := fun w9 (h9 : Below wz.heap.size wz w9) => hcu.below h9 (Nat.le_refl _)
                      have hkk := fun w9 (h9 : Below wz.heap.size wz w9) => hkq.trans (KeepB.of_below (B8 := B8) h9 hcu.le)
                      generalize old[j] = y at hsk had hres sc
                      have Hsk := Lib.hid hsk; have Had := Lib.hid had; have Hres := Lib.hid hres; have Hsc := Lib.hid sc; have Hcut := Lib.hid hcut; have Hkk := Lib.hid hkk; have Hcb := Lib.hid hcb
                      clear hsk had hres sc hcut hkk r0 r2 sx sy hgy hcu hin hkq hcb
                      go_wp2_with fail
                      refine Hres.out.mono ?_
                      rintro e w9 ⟨v9, er, rfl, hbad, hno, hyes, hb9⟩
                      have Hb9 := Lib.hid hb9
                      have Hkq9 := Lib.hid (Hkk.out _ hb9); have Hcu9 := Lib.hid (Hcb.out _ hb9)
                      clear hb9
                      cases hm : mayRes x y k with
                      | false =>
                        obtain ⟨rfl, rfl⟩ := hbad hm
                        have Hnx := Lib.hid (Hsk.out (fun h => by rw [hm] at h; cases h))
                        clear hbad hno hyes hm Hsk Had Hres Hsc Hcut Hkk Hcb
                        go_wp2_with fail
                        go_roundg (old.length - (j + 1))
                        case measure => omega
                        case rel => exact ⟨j + 1, _, by omega, rfl, by go_num, Hcu9.out, Hnx.out, Hkq9.out⟩
                      | true =>
                        cases hal : alwaysL (formL (leftL x y k)) with
                        | true =>
                          obtain ⟨rfl, rfl⟩ := hno hm hal
                          have Hnx := Lib.hid (Hsk.out (fun _ => hal))
                          clear hbad hno hyes hm hal Hsk Had Hres Hsc Hcut Hkk Hcb
                          go_wp2_with fail
                          go_roundg (old.length - (j + 1))
                          case measure => omega
                          case rel => exact ⟨j + 1, _, by omega, rfl, by go_num, Hcu9.out, Hnx.out, Hkq9.out⟩
                        | false =>
                          obtain ⟨rfl, hi9, hf9⟩ := hyes hm hal
                          have Hnx := Lib.hid (Had.out hm)
                          have Hadd := Lib.hid (Hcut.out w9 Hb9.out v9 _ hi9 Hsc.out)
                          obtain ⟨a9, c9, rfl, hc9, hc9m, _⟩ := hi9.shape
                          clear hbad hno hyes hm hal Hsk Had Hres Hsc Hcut Hkk Hcb hi9 hf9
                          go_wp2_with fail
                          refine Hadd.out.mono ?_
                          rintro e w10 ⟨rfl, hcu10, hk10⟩
                          have Hcu10 := Lib.hid hcu10; have Hk10 := Lib.hid hk10
                          clear hcu10 hk10 Hadd
                          go_wp2_with fail
                          go_roundg (old.length - (j + 1))
                          case measure => omega
                          case rel => exact ⟨j + 1, _, by omega, rfl, by go_num, Hcu10.out, Hnx.out, Hkq9.out.trans Hk10.out⟩
                    · obtain rfl : j = old.length := by omega
                      obtain ⟨a5, c5, rs5, hB5, hrg5, _⟩ := hcu.it
                      have p1 := cell_of_one hB5; have p2 := free_of_one hB5; have p3 := lt_of_block hB5
                      have hlen := hin.len
                      have hbw := HA.out.trans ((Hkb.out.trans (hkq.mono p0)).below (B := w.heap.size) (by omega) s1)
                      have Hbw := Lib.hid hbw; have Hcu1 := Lib.hid hcu; have Hkq1 := Lib.hid hkq; have Hin1 := Lib.hid hin
                      clear hbw hcu hkq hin hB5 hrg5
                      by_cases hbig : 2000 < new.length
                      · have hb2 : decide ((2000 : Int) < (new.length : Int)) = true := by simp; omega
                        go_wp2_with fail
                        go_ret3
                        exact ⟨_, _, _, rfl, Hbw.out, .inr (.inl rfl)⟩
                      · have hb2 : decide ((2000 : Int) < (new.length : Int)) = false := by simp; omega
                        have Hin2 := Lib.hid (Hin1.out.done (fun _ => Hx.out) (by omega))
                        go_wp2_with fail
                        go_roundg (old.length - (i1 + 1))
                        case measure => omega
                        case rel => exact ⟨i1 + 1, _, by omega, rfl, rfl, by go_num, Hcu1.out, Hin2.out, Hkq1.out⟩
                · obtain rfl : i1 = old.length := by omega
                  have hd2 := hin.done (by omega) Hd.out
                  have hle2 := hin.len
                  obtain ⟨a5, c5, rs5, hB5, hrg5, _⟩ := hcu.it
                  have p1 := cell_of_one hB5; have p2 := free_of_one hB5; have p3 := lt_of_block hB5
                  have hown := Hon.out _ hkq
                  have hal : Below wo.heap.size wo (wo.alloc (.cells #[.int .i64 (new.length : Nat)] 3)) := (Below.refl _ _).alloc (Nat.le_refl _) _
                  have ps : B8 + 1 ≤ wo.heap.size := by omega
                  have hgo : ∀ (v' : Value) (w' : World) (hg : (wo.alloc (.cells #[.int .i64 (new.length : Nat)] 3)).grownBy w' (Value.slice asz k csz).ownBlock), _ := fun v' w' (hg : (wo.alloc (.cells #[.int .i64 (new.length : Nat)] 3)).grownBy w' (Value.slice asz k csz).ownBlock) => And.intro ((hcu.below hal (Nat.le_refl _)).grown (ownsRow_below hown hal) Hsl.out hg) (((Hkb.out.trans (hkq.mono p0))).trans (KeepB.of_below (B8 := B8) ((hal.mono ps).grown hg (by simp; omega) (fun j hj => (hown.lt j hj).1)) (Nat.le_refl _)))
                  have Hgo := Lib.hid hgo; have Hown := Lib.hid hown; have Hd2 := Lib.hid hd2
                  clear hgo hown hal hcu hkq hin hd2 hB5 hrg5
                  go_wp2_with (at_builtin; refine wpList_append_size rfl (.tmp 97) (.tmp 100) rfl (B8 + 1) _ k xs rfl Hown.out (new.length : Nat) _ rfl rfl (by omega) (by omega) ?_)
                  intro v5 w5 ho5 hg5
                  have Ho5 := Lib.hid ho5
                  have Hg5 := Lib.hid (Hgo.out v5 w5 hg5)
                  clear ho5 hg5
                  go_wp2_with fail
                  go_roundg (M - (k + 1))
                  case measure => omega
                  case rel => exact ⟨k + 1, _, new, _, by omega, rfl, by go_num, Hg5.out.1, p0, by rw [Int.natCast_add]; exact Hd2.out, hle2, Hg5.out.2, Ho5.out⟩
        · obtain rfl : k = M := by omega
          have hlast := hd.last
          have hbw := HA.out.trans (hkb.below (B := w.heap.size) (by omega) s1)
          have Hlast := Lib.hid hlast; have Hbw := Lib.hid hbw
          clear hlast hbw hd hkb hown hrg hfr hcu hB
          by_cases hz : old.length = 0
          · have hz2 : ((old.length : Int) == 0) = true := by simp [hz]
            have Hz := Lib.hid hz
            clear hz
            go_wp2_with fail
            go_quiet (fail)
            go_wp2_with fail
            go_ret3
            exact ⟨_, _, _, rfl, below_drewN Hbw.out _, .inr (.inr ⟨rfl, ⟨_, _, _, rfl, rfl⟩, by rw [← Hlast.out, ← List.length_eq_zero_iff]; simp [Hz.out]⟩)⟩
          · have hz2 : ((old.length : Int) == 0) = false := by rw [beq_eq_false_iff_ne]; omega
            have Hz := Lib.hid hz
            clear hz
            go_wp2_with fail
            go_quiet (fail)
            go_wp2_with fail
            go_ret3
            exact ⟨_, _, _, rfl, below_drewN Hbw.out _, .inr (.inr ⟨rfl, ⟨_, _, _, rfl, rfl⟩, by rw [← Hlast.out, ← List.length_eq_zero_iff]; simp [Hz.out]⟩)⟩
end Go.Proofs.YtdeaficdfooegaaDoor
