/- Contract: solspacekeep.NatField. (Printed by gen_natfield.py.) -/
import Derived.Test.YtdeaficdfooegaaDoorNatLast
namespace Go.Proofs.YtdeaficdfooegaaDoor
open Go.RowKit Go.Lib
set_option linter.unusedVariables false
def nfPost (w : World) (e : Exit) (a : Act) (w' : World) : Prop := e = .normal ∧ a.tmps[8]? = some (.bool true) ∧ a.defers = [] ∧ Below w.heap.size w w'
set_option maxRecDepth 100000 in
set_option maxHeartbeats 16000000 in
theorem NatField_good (a b c : ByteArray) (times : Int) (w : World) (ha : a.size ≤ 100) (hb : b.size ≤ 100) (hc : c.size ≤ 100) (ga : goodD a.data.toList = true) (gb : goodD b.data.toList = true) (gc : goodD c.data.toList = true) :
    Calls Tryd.prog 3 #[.string a, .string b, .string c, .int .i64 times] w fun e w' => e = .returned (.bool true) ∧ Below w.heap.size w w' := by
  have xl := good_lt ga ha; have yl := good_lt gb hb; have zl := good_lt gc hc
  have pa := fun w' => Parse_good a w' ga ha
  have pb := fun w' => Parse_good b w' gb hb
  have pc := fun w' => Parse_good c w' gc hc
  generalize valD a.data.toList = x at xl pa
  generalize valD b.data.toList = y at yl pb
  generalize valD c.data.toList = z at zl pc
  have pq : ∀ w' : World, Calls Tryd.prog 15 #[.int .i64 times, .int .i64 200] w' fun e w2 => e = .returned (.int .i64 ((pickN times 200 : Nat) : Int)) ∧ w' = w2 := fun w' => pick_any times 200 w' (by decide) (by decide)
  have hT : pickN times 200 < 200 := pickN_lt times (by decide)
  generalize pickN times 200 = T at pq hT
  have sm := smalls xl yl zl hT
  have cq := fun w' => counts_any w'
  have ofq : ∀ w' : World, Calls Tryd.prog 18 #[.int .i64 1] w' fun e w2 => ∃ v, e = .returned v ∧ IsNat w2 v 1 ∧ Below w'.heap.size w' w2 := fun w' => Of_any 1 w' (by decide)
  have h1 : decide (120 < (a.size : Int)) = false := by simp; omega
  have h2 : decide (120 < (b.size : Int)) = false := by simp; omega
  have h3 : decide (120 < (c.size : Int)) = false := by simp; omega
  have Pa := Lib.hid pa; have Pb := Lib.hid pb; have Pc := Lib.hid pc; have S := Lib.hid sm; have Pq := Lib.hid pq; have Cq := Lib.hid cq; have Ofq := Lib.hid ofq; have HT := Lib.hid hT
  clear xl yl zl pa pb pc sm pq cq ofq hT ga gb gc ha hb hc
  go_enter Tryd.func3, Tryd.ntmps3
  go_wp2_with fail
  refine (Pa.out _).mono ?_
  rintro e w1 ⟨v, rfl, hn, hb⟩
  obtain ⟨a1, c1, rfl⟩ := hn.shape
  have hb4 : Below w1.heap.size w1 (w1.alloc (.cells #[.slice a1 (limbsOf x).length c1] 24)) := (Below.refl _ _).alloc (Nat.le_refl _) _
  have hst : BoxI w (w1.alloc (.cells #[.slice a1 (limbsOf x).length c1] 24)) w1.heap.size (.slice a1 (limbsOf x).length c1) x := ⟨hb.trans (hb4.mono hb.size), heap_at rfl, hn.below hb4⟩
  have H1 := Lib.hid hst
  clear hst hb hb4 hn Pa
  go_wp2_with fail
  generalize (w1.alloc (.cells #[.slice a1 (limbsOf x).length c1] 24)) = u1 at H1 ⊢
  generalize w1.heap.size = B1 at H1 ⊢
  generalize (limbsOf x).length = n1 at H1 ⊢
  refine (Pb.out _).mono ?_
  rintro e w2 ⟨v, rfl, hn, hb⟩
  obtain ⟨a2, c2, rfl⟩ := hn.shape
  have hb4 : Below w2.heap.size w2 (w2.alloc (.cells #[.slice a2 (limbsOf y).length c2] 24)) := (Below.refl _ _).alloc (Nat.le_refl _) _
  have hst : BoxI w (w2.alloc (.cells #[.slice a2 (limbsOf y).length c2] 24)) w2.heap.size (.slice a2 (limbsOf y).length c2) y := ⟨(H1.out.below.trans (hb.mono H1.out.below.size)).trans (hb4.mono (Nat.le_trans H1.out.below.size hb.size)), heap_at rfl, hn.below hb4⟩
  have g1 := (H1.out.grow hb).grow hb4
  clear H1
  have H1 := Lib.hid g1
  clear g1
  have H2 := Lib.hid hst
  clear hst hb hb4 hn Pb
  go_wp2_with fail
  generalize (w2.alloc (.cells #[.slice a2 (limbsOf y).length c2] 24)) = u2 at H1 H2 ⊢
  generalize w2.heap.size = B2 at H2 ⊢
  generalize (limbsOf y).length = n2 at H2 ⊢
  refine (Pc.out _).mono ?_
  rintro e w3 ⟨v, rfl, hn, hb⟩
  obtain ⟨a3, c3, rfl⟩ := hn.shape
  have hb4 : Below w3.heap.size w3 (w3.alloc (.cells #[.slice a3 (limbsOf z).length c3] 24)) := (Below.refl _ _).alloc (Nat.le_refl _) _
  have hst : BoxI w (w3.alloc (.cells #[.slice a3 (limbsOf z).length c3] 24)) w3.heap.size (.slice a3 (limbsOf z).length c3) z := ⟨(H2.out.below.trans (hb.mono H2.out.below.size)).trans (hb4.mono (Nat.le_trans H2.out.below.size hb.size)), heap_at rfl, hn.below hb4⟩
  have g1 := (H1.out.grow hb).grow hb4
  clear H1
  have H1 := Lib.hid g1
  clear g1
  have g2 := (H2.out.grow hb).grow hb4
  clear H2
  have H2 := Lib.hid g2
  clear g2
  have H3 := Lib.hid hst
  clear hst hb hb4 hn Pc
  go_wp2_with fail
  generalize (w3.alloc (.cells #[.slice a3 (limbsOf z).length c3] 24)) = u3 at H1 H2 H3 ⊢
  generalize w3.heap.size = B3 at H3 ⊢
  generalize (limbsOf z).length = n3 at H3 ⊢
  refine (Cq.out _).mono ?_
  rintro e w4 ⟨rfl, hb⟩
  have g1 := H1.out.grow hb; have g2 := H2.out.grow hb; have g3 := H3.out.grow hb
  clear H1 H2 H3 hb
  have G1 := Lib.hid g1; have G2 := Lib.hid g2; have G3 := Lib.hid g3
  clear g1 g2 g3
  go_upto_region 9 with fail
  go_cut [16, 17] from 61 to 68 (fun p q wx => ∃ (B4 n10 c10 : Nat) (a10 : Option Addr), p = .pointer (some ⟨B4, 0, none⟩) ∧ q = .nilIface ∧ FI w wx B1 B2 B3 B4 (.slice a1 n1 c1) (.slice a2 n2 c2) (.slice a3 n3 c3) (.slice a10 n10 c10) x y z)
  case first =>
    have g1 := G1.out; have g2 := G2.out; have g3 := G3.out
    have q1 := cell_of_one g1.b1; have q2 := cell_of_one g2.b1
    have j1 := g1.grow (w2 := w4.drew) ((Below.refl _ _).drew); have j2 := g2.grow (w2 := w4.drew) ((Below.refl _ _).drew); have j3 := g3.grow (w2 := w4.drew) ((Below.refl _ _).drew)
    have H1 := Lib.hid j1; have H2 := Lib.hid j2; have H3 := Lib.hid j3
    have K1 := Lib.hid g1; have K2 := Lib.hid g2; have K3 := Lib.hid g3
    clear g1 g2 g3 j1 j2 j3
    go_region_held3 (fun w' => w'.cell? ⟨B1, 0, none⟩ = some (.slice a1 n1 c1) ∧ w'.cell? ⟨B2, 0, none⟩ = some (.slice a2 n2 c2))
      (first | exact ⟨q1, q2⟩ | exact ⟨h91, h92⟩ | exact ⟨h93, h94⟩ | exact ⟨h95, h96⟩ | go_keep)
      (first | (go_at_call 13; (with_reducible refine (AddS _ _ _ _ _ H1.out.n1 H2.out.n1 S.out.s_x S.out.s_y).mono ?_); rintro e w9 ⟨v9, rfl, hn9, hb9⟩; have H1 := Lib.hid (H1.out.grow hb9); have H2 := Lib.hid (H2.out.grow hb9); have H3 := Lib.hid (H3.out.grow hb9); obtain ⟨a9, c9, rfl⟩ := hn9.shape; have h91 := cell_of_one H1.out.b1; have h92 := cell_of_one H2.out.b1; have m1 := lt_of_block H1.out.b1; have m2 := lt_of_block H2.out.b1; have Hn9 := Lib.hid hn9; clear hb9 hn9) | (go_at_call 13; (with_reducible refine (AddS _ _ _ _ _ (K1.out.n1.below (below_pow _)) (K2.out.n1.below (below_pow _)) S.out.s_x S.out.s_y).mono ?_); rintro e w9 ⟨v9, rfl, hn9, hb9⟩; have Lq := Lib.hid (And.intro (lt_of_block K1.out.b1) (And.intro (lt_of_block K2.out.b1) (And.intro (lt_of_block K3.out.b1) K1.out.below.size))); have Hbk := Lib.hid ((hb9.block w4.heap.size (by simp)).trans (heap_at (w := w4) rfl)); have H1 := Lib.hid ((K1.out.grow (below_pow _)).grow hb9); have H2 := Lib.hid ((K2.out.grow (below_pow _)).grow hb9); have H3 := Lib.hid ((K3.out.grow (below_pow _)).grow hb9); obtain ⟨a9, c9, rfl⟩ := hn9.shape; have h91 := cell_of_one H1.out.b1; have h92 := cell_of_one H2.out.b1; have m1 := lt_of_block H1.out.b1; have m2 := lt_of_block H2.out.b1; have Hn9 := Lib.hid hn9; clear hb9 hn9) | (go_at_call 14; (with_reducible refine (SubS _ _ _ _ _ Hn9.out H2.out.n1 S.out.s_xy).mono ?_); rintro e w10 ⟨v10, rfl, hn10, hb10⟩; have H1 := Lib.hid (H1.out.grow hb10); have H2 := Lib.hid (H2.out.grow hb10); have H3 := Lib.hid (H3.out.grow hb10); obtain ⟨a10, c10, rfl⟩ := hn10.shape; have h93 := cell_of_one H1.out.b1; have h94 := cell_of_one H2.out.b1; have o1 := lt_of_block H1.out.b1; have o2 := lt_of_block H2.out.b1; have Hn10 := Lib.hid hn10; (try (have Hbk := Lib.hid ((hb10.block _ (lt_of_block Hbk.out)).trans Hbk.out); have F1 := Lib.hid (H1.out.store Hbk.out Lq.out.1 Lq.out.2.2.2 (.slice a10 (limbsOf x).length c10)); have F2 := Lib.hid (H2.out.store Hbk.out Lq.out.2.1 Lq.out.2.2.2 (.slice a10 (limbsOf x).length c10)); have F3 := Lib.hid (H3.out.store Hbk.out Lq.out.2.2.1 Lq.out.2.2.2 (.slice a10 (limbsOf x).length c10)); have F4 := Lib.hid (BoxI.fresh H1.out.below Hbk.out Lq.out.2.2.2 Hn10.out); have f9 := free_of_one Hbk.out; have l9 := lt_of_block Hbk.out; have c9b := cell_of_one Hbk.out; have h95 := cell_of_one F1.out.b1; have h96 := cell_of_one F2.out.b1; clear H1 H2 H3)); clear hb10 hn10) | (go_at_call 14; (with_reducible refine (SubS _ _ _ _ _ (Hn9.out.below (bel_alloc _)) (H2.out.n1.below (bel_alloc _)) S.out.s_xy).mono ?_); rintro e w10 ⟨v10, rfl, hn10, hb10⟩; have Lq := Lib.hid (And.intro (lt_of_block H1.out.b1) (And.intro (lt_of_block H2.out.b1) (And.intro (lt_of_block H3.out.b1) H1.out.below.size))); have Hbk := Lib.hid ((hb10.block w9.heap.size (by simp)).trans (heap_at rfl)); have H1 := Lib.hid ((H1.out.grow (bel_alloc _)).grow hb10); have H2 := Lib.hid ((H2.out.grow (bel_alloc _)).grow hb10); have H3 := Lib.hid ((H3.out.grow (bel_alloc _)).grow hb10); obtain ⟨a10, c10, rfl⟩ := hn10.shape; have h93 := cell_of_one H1.out.b1; have h94 := cell_of_one H2.out.b1; have o1 := lt_of_block H1.out.b1; have o2 := lt_of_block H2.out.b1; have Hn10 := Lib.hid hn10; have F1 := Lib.hid (H1.out.store Hbk.out Lq.out.1 Lq.out.2.2.2 (.slice a10 (limbsOf x).length c10)); have F2 := Lib.hid (H2.out.store Hbk.out Lq.out.2.1 Lq.out.2.2.2 (.slice a10 (limbsOf x).length c10)); have F3 := Lib.hid (H3.out.store Hbk.out Lq.out.2.2.1 Lq.out.2.2.2 (.slice a10 (limbsOf x).length c10)); have F4 := Lib.hid (BoxI.fresh H1.out.below Hbk.out Lq.out.2.2.2 Hn10.out); have f9 := free_of_one Hbk.out; have l9 := lt_of_block Hbk.out; have c9b := cell_of_one Hbk.out; have h95 := cell_of_one F1.out.b1; have h96 := cell_of_one F2.out.b1; clear H1 H2 H3; clear hb10 hn10))
    all_goals (go_wp2_with fail; go_meet)
    all_goals first
      | exact ⟨_, _, _, _, rfl, rfl, F1.out, F2.out, F3.out, F4.out⟩
      | exact ⟨_, _, _, _, rfl, rfl, H1.out.grow (bel_alloc _), H2.out.grow (bel_alloc _), H3.out.grow (bel_alloc _), ⟨H1.out.below.trans ((bel_alloc _).mono H1.out.below.size), heap_at rfl, Hn10.out.below (bel_alloc _)⟩⟩
  case rest =>
    clear G1 G2 G3
    obtain ⟨B4, n10, c10, a10, rfl, rfl, hFI⟩ := hcut
    have HF := Lib.hid hFI; clear hFI
    have q1 := cell_of_one HF.out.k1.b1; have q2 := cell_of_one HF.out.k2.b1; have q3 := cell_of_one HF.out.k3.b1; have q4 := cell_of_one HF.out.k4.b1
    go_wp2_with fail
    refine (Pq.out _).mono ?_
    rintro e w11 ⟨rfl, rfl⟩
    clear q1 q2 q3 q4
    go_wp2_with fail
    have g := HF.out.grow ((Below.refl _ _).drew); clear HF; have HF := Lib.hid g; clear g
    refine Code.wp_mono (Q := nfPost w) ?_ (wp_region_txt (ops := nfOps) nfL (by kernel_rfl) nfL_ok (fun _ _ _ _ _ h => absurd h.1 (by simp)) HF.out.S (nf_last S.out (Nat.le_of_lt (Nat.lt_of_lt_of_le HT.out (by decide))) HF.out rfl rfl rfl rfl rfl rfl rfl rfl rfl (fun a' w' h8 hd hb => ⟨rfl, h8, hd, hb⟩)))
    rintro e a' w' ⟨rfl, h8, hd, hb⟩
    go_wp2_with fail
    exact bodyPost_ret (v := .bool true) (by simp [results, Tryd.results3, go_sem, h8]) hd ⟨rfl, hb⟩
end Go.Proofs.YtdeaficdfooegaaDoor
