/- Contract: the fact 'laid'. -/
import Derived.Test.YtmlfelbkgoplhaaGreatDoorZhPkZ
import Derived.Test.YtmlfelbkgoplhaaGreatDoorZhListB
import Derived.Test.YtmlfelbkgoplhaaGreatDoorZhPkV
import Derived.Deep.RegionHeld3
namespace Go.Proofs.YtmlfelbkgoplhaaGreatDoor
open Go.RowKit
set_option linter.unusedVariables false
theorem rulesB {ls : List LineM} (h : All2 LineM.same ls lsB) : rulesC ls itB = [(2, [-1, 2])] := by
 rw [same_rules h]
 kernel_rfl
theorem sumB : sumS (2 : Nat) 2 (allV [[-1, 2]]) (fun _ => false) = 3 := by decide +kernel
theorem natTxt3 : natTxt 3 = ⟨#[51]⟩ := by decide +kernel
theorem cells2q {w : World} {q : Nat} {a b : Value} {T : TypeId} (h : w.heap[q]? = some (.cells #[a, b] T (0, 0))) : w.cell? ⟨q, 0, none⟩ = some a ∧ w.cell? ⟨q, 1, none⟩ = some b :=
 ⟨(cells2 h).1, (cells2 h).2.1⟩
structure CntBox (B : Nat) (w0 wz : World) (bx : Nat) (a : Option Addr) (c n : Nat) : Prop where
 box : NBox wz bx a c n
 bel : Below B w0 wz
theorem CntBox.behind {w0 w7 : World} {a : Option Addr} {c n : Nat} (h : IsNat w7 (.agg #[.slice a (limbsOf n).length c]) n) (hb : Below w0.heap.size w0 w7) : CntBox w0.heap.size w0 (w7.alloc (.cells #[.slice a (limbsOf n).length c] 52)) w7.heap.size a c n := ⟨NBox.mk' h, hb.alloc hb.size _⟩
theorem CntBox.ahead {w0 w7 : World} {a : Option Addr} {c n : Nat} (h : IsNat w7 (.agg #[.slice a (limbsOf n).length c]) n) (hb : Below w0.heap.size w0 w7) (hz : w7.heap[w0.heap.size]? = some (.cells #[.slice none 0 0] 52 (0, 0))) : CntBox w0.heap.size w0 (w7.setCell ⟨w0.heap.size, 0, none⟩ (.slice a (limbsOf n).length c)) w0.heap.size a c n :=
 ⟨⟨one_setCell hz, h.setRes hz _⟩, hb.setCell (Nat.le_refl _) _⟩
theorem Below.alD {w : World} (o : Obj) : Below w.heap.size w (w.alloc o).drew := ((Below.refl _ _).alloc (Nat.le_refl _) o).drew
set_option maxRecDepth 100000 in
set_option maxHeartbeats 8000000 in
theorem laid_any (w : World) (hL : LaidR w) (hT : TypeLaid w) : Calls Tryz.prog 10 #[] w fun e w' => e = .returned (.bool true) ∧ Below w.heap.size w w' := by
 have HP := Lib.hid (parseC_any textB w (by decide) hL hT)
 clear hL hT
 unfold textB at HP
 go_enter Tryz.func10, Tryz.ntmps10
 go_wp2_with fail
 refine HP.out.mono ?_
 rintro e w1 ⟨⟨p, ls, items, rfl, hcat, _, _, hls⟩ | ⟨er, rfl, _, hno⟩, hb1⟩
 ·
  obtain ⟨hok, vl, vi, hat⟩ := hcat
  obtain ⟨hsame, rfl⟩ := catB hls hok
  have hrB := rulesB hsame
  have hso := solOf_any p vl vi ls itB 100 w1 hat hok (by decide) (by rw [hrB]; decide) (by decide) (by rw [hrB]; decide)
  rw [hrB] at hso
  have HS := Lib.hid hso; have HB1 := Lib.hid hb1
  clear hso hat hok hsame hls hb1 hrB HP
  go_wp2_with fail
  refine HS.out.mono ?_
  rintro e w2 ⟨⟨q, s, st, all, rfl, hq, hsp, hi, _, _, _⟩, hb2⟩
  have HF := Lib.hid (show ∀ W, Below w2.heap.size w2 W → Calls Tryz.prog 20 #[.pointer (some ⟨s.ps, 0, none⟩), .int .i64 all] W fun e w' => ∃ v, e = .returned (.tuple #[v, .nilIface]) ∧ IsNat w' v 3 ∧ Below W.heap.size W w' from fun W hW => by
   have h := Count_any 2 (by decide) all W s st (hsp.below hW) hi.sok.cells hi.has
   rw [show den st.c all = allV [[-1, 2]] from funext hi.den, sumB] at h
   exact h)
  have HC := Lib.hid (show ∀ W, Below w2.heap.size w2 W → W.cell? ⟨q, 0, none⟩ = some (.pointer (some ⟨s.ps, 0, none⟩)) ∧ W.cell? ⟨q, 1, none⟩ = some (.int .i64 all) from fun W hW => cells2q ((hW.block _ (lt_of_block hq)).trans hq))
  have HB2 := Lib.hid (HB1.out.trans (hb2.mono HB1.out.size))
  have HB := Lib.hid ((Below.refl w2.heap.size w2).drew)
  have HBd := Lib.hid (fun o => Below.alD (w := w2) o)
  have KS := HC.out _ HB.out
  have lq := lt_of_block hq
  clear hq hsp hi hb2 HS
  go_upto_region 7 with fail
  go_region_held3 (fun w' => w'.cell? ⟨q, 0, none⟩ = some (.pointer (some ⟨s.ps, 0, none⟩)) ∧ w'.cell? ⟨q, 1, none⟩ = some (.int .i64 all)) (first | (with_reducible exact KS) | (with_reducible exact HC.out _ (HBd.out _)) | (with_reducible exact HC.out _ (HB.out.setCell (p := ⟨w2.heap.size, 0, none⟩) (Nat.le_refl _) _)) | (with_reducible exact HC.out _ (HB.out.alloc HB.out.size _)) | go_keep)
   (first
    | (go_at_call 20; (refine (HF.out _ (by first | (with_reducible exact HB.out) | (with_reducible exact HBd.out _))).mono ?_); rintro e w7 ⟨v7, rfl, h7, hb7⟩; obtain ⟨x7, y7, rfl⟩ := h7.shape; have H7 := Lib.hid h7; (try (have hx7 : w7.heap[w2.heap.size]? = some (.cells #[.slice none 0 0] 52 (0, 0)) := (hb7.block _ (by simp)).trans (heap_at (by simp)); have g7 := free_of_one hx7; have z7 := cell_of_one hx7; have l7 := lt_of_block hx7; have HX7 := Lib.hid hx7; clear hx7)); have hB7 : Below w2.heap.size w2 w7 := (by first | (with_reducible exact HB.out.trans (hb7.mono HB.out.size)) | (with_reducible exact (HBd.out _).trans (hb7.mono (HBd.out _).size))); clear h7 hb7 KS HB; have HB := Lib.hid hB7; clear hB7; have KS := HC.out _ HB.out))
  ·
   have hz := CntBox.behind H7.out HB.out
   generalize w7.alloc (.cells #[.slice x7 (limbsOf 3).length y7] 52) = wz at hz ⊢
   generalize w7.heap.size = bx at hz ⊢
   clear KS
   have c8 := cell_of_one hz.box.blk
   have hT := Text_any 3 _ wz hz.box.nat (by decide +kernel) (by decide +kernel)
   rw [natTxt3] at hT
   have HT := Lib.hid hT; have Hz := Lib.hid (HB2.out.trans (hz.bel.mono HB2.out.size))
   clear hT hz
   go_wp2_with fail
   refine HT.out.mono ?_
   rintro e w8 ⟨rfl, hb8⟩
   have HB8 := Lib.hid (Hz.out.trans (hb8.mono Hz.out.size))
   clear hb8
   go_wp2_with fail
   go_ret
   exact ⟨rfl, HB8.out⟩
  ·
   have hz := CntBox.ahead H7.out HB.out HX7.out
   clear KS g7 z7
   generalize w7.setCell ⟨w2.heap.size, 0, none⟩ (.slice x7 (limbsOf 3).length y7) = wz at hz ⊢
   have c8 := cell_of_one hz.box.blk
   have hT := Text_any 3 _ wz hz.box.nat (by decide +kernel) (by decide +kernel)
   rw [natTxt3] at hT
   have HT := Lib.hid hT; have Hz := Lib.hid (HB2.out.trans (hz.bel.mono HB2.out.size))
   clear hT hz
   go_wp2_with fail
   refine HT.out.mono ?_
   rintro e w8 ⟨rfl, hb8⟩
   have HB8 := Lib.hid (Hz.out.trans (hb8.mono Hz.out.size))
   clear hb8
   go_wp2_with fail
   go_ret
   exact ⟨rfl, HB8.out⟩
 · exact absurd newB (hno lsB (by decide) linesB)
end Go.Proofs.YtmlfelbkgoplhaaGreatDoor
