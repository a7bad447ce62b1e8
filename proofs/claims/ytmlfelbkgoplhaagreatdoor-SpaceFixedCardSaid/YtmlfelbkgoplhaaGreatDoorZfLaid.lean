import Derived.Test.YtmlfelbkgoplhaaGreatDoorZfPkZ
import Derived.Test.YtmlfelbkgoplhaaGreatDoorZfListB
import Derived.Test.YtmlfelbkgoplhaaGreatDoorZfPkV
import Derived.Deep.RegionHeld3
set_option linter.unusedVariables false
set_option linter.unusedSimpArgs false
namespace Go.Proofs.YtmlfelbkgoplhaaGreatDoor
open Go.RowKit
theorem zrw {ls : List zm} (h : yG zm.same ls lsB) : zJ ls itB = [(2,[-1,2])]:=by
 rw [zjO h]
 kernel_rfl
theorem sumB : kE (2 : Nat) 2 (ze0 [[-1,2]]) (fun _ => false) = 3:=by decide +kernel
theorem zkZ : zn2 3 = ⟨#[51]⟩:=by decide +kernel
theorem zlu {w : World} {q : Nat} {a b : Value} {T : TypeId} (h : w.heap[q]? = some (.cells #[a,b] T (0,0))) : w.cell? ⟨q,0,none⟩ = some a ∧ w.cell? ⟨q,1,none⟩ = some b :=
 ⟨(zbp h).1,(zbp h).2.1⟩
structure zeq (B : Nat) (w0 wz : World) (bx : Nat) (a : Option Addr) (c n : Nat) : Prop where
 box : jU wz bx a c n
 bel : Below B w0 wz
theorem zeq.behind {w0 w7 : World} {a : Option Addr} {c n : Nat} (h : zY w7 (.agg #[.slice a (zf n).length c]) n) (hb : Below w0.heap.size w0 w7) : zeq w0.heap.size w0 (w7.alloc (.cells #[.slice a (zf n).length c] 52)) w7.heap.size a c n:=⟨jU.mk' h,hb.alloc hb.size _⟩
theorem zeq.ahead {w0 w7 : World} {a : Option Addr} {c n : Nat} (h : zY w7 (.agg #[.slice a (zf n).length c]) n) (hb : Below w0.heap.size w0 w7) (hz : w7.heap[w0.heap.size]? = some (.cells #[.slice none 0 0] 52 (0,0))) : zeq w0.heap.size w0 (w7.setCell ⟨w0.heap.size,0,none⟩ (.slice a (zf n).length c)) w0.heap.size a c n :=
 ⟨⟨one_setCell hz,h.qC hz _⟩,hb.setCell (znr _) _⟩
theorem Below.alD {w : World} (o : Obj) : Below w.heap.size w (w.alloc o).drew:=((Below.refl _ _).alloc (znr _) o).drew
set_option maxRecDepth 100000 in
set_option maxHeartbeats 8000000 in
theorem znY (w : World) (hL : xQ w) (hT : zV w) : Calls Tryz.prog 10 #[] w fun e w' => e = .returned (.bool true) ∧ Below w.heap.size w w':=by
 have HP:=hid (zfn ziN w (by decide) hL hT)
 clear hL hT
 unfold ziN at HP
 go_enter Tryz.func10,Tryz.ntmps10
 go_wp2_with fail
 refine HP.out.mono ?_
 rintro e w1 ⟨⟨p,ls,items,rfl,hcat,_,_,hls⟩ | ⟨er,rfl,_,hno⟩,hb1⟩
 ·
  obtain ⟨hok,vl,vi,hat⟩:=hcat
  obtain ⟨hsame,rfl⟩:=catB hls hok
  have hrB:=zrw hsame
  have hso:=zhw p vl vi ls itB 100 w1 hat hok (by decide) (by rw [hrB];decide) (by decide) (by rw [hrB];decide)
  rw [hrB] at hso
  have HS:=hid hso;have HB1:=hid hb1
  clear hso hat hok hsame hls hb1 hrB HP
  go_wp2_with fail
  refine HS.out.mono ?_
  rintro e w2 ⟨⟨q,s,st,all,rfl,hq,hsp,hi,_,_,_⟩,hb2⟩
  have HF:=hid (show ∀ W,Below w2.heap.size w2 W → Calls Tryz.prog 20 #[.pointer (some ⟨s.ps,0,none⟩),.int .i64 all] W fun e w' => ∃ v,e = .returned (.tuple #[v,.nilIface]) ∧ zY w' v 3 ∧ Below W.heap.size W w' from fun W hW => by
   have h:=zmj 2 (by decide) all W s st (hsp.below hW) hi.sok.cells hi.has
   rw [show den st.c all = ze0 [[-1,2]] from funext hi.den,sumB] at h
   exact h)
  have HC:=hid (show ∀ W,Below w2.heap.size w2 W → W.cell? ⟨q,0,none⟩ = some (.pointer (some ⟨s.ps,0,none⟩)) ∧ W.cell? ⟨q,1,none⟩ = some (.int .i64 all) from fun W hW => zlu ((hW.block _ (zlb hq)).trans hq))
  have HB2:=hid (HB1.out.trans (hb2.mono HB1.out.size))
  have HB:=hid ((Below.refl w2.heap.size w2).drew)
  have HBd:=hid (fun o => Below.alD (w:=w2) o)
  have KS:=HC.out _ HB.out
  have lq:=zlb hq
  clear hq hsp hi hb2 HS
  go_upto_region 7 with fail
  go_region_held3 (fun w' => w'.cell? ⟨q,0,none⟩ = some (.pointer (some ⟨s.ps,0,none⟩)) ∧ w'.cell? ⟨q,1,none⟩ = some (.int .i64 all)) (first | (with_reducible exact KS) | (with_reducible exact HC.out _ (HBd.out _)) | (with_reducible exact HC.out _ (HB.out.setCell (p:=⟨w2.heap.size,0,none⟩) (znr _) _)) | (with_reducible exact HC.out _ (HB.out.alloc HB.out.size _)) | go_keep)
   (first
    | (go_at_call 20;(refine (HF.out _ (by first | (with_reducible exact HB.out) | (with_reducible exact HBd.out _))).mono ?_);rintro e w7 ⟨v7,rfl,h7,hb7⟩;obtain ⟨x7,y7,rfl⟩:=h7.shape;have H7:=hid h7;(try (have hx7 : w7.heap[w2.heap.size]? = some (.cells #[.slice none 0 0] 52 (0,0)):=(hb7.block _ (by simp)).trans (za (by simp));have g7:=zfo hx7;have z7:=zco hx7;have l7:=zlb hx7;have HX7:=hid hx7;clear hx7));have hB7 : Below w2.heap.size w2 w7:=(by first | (with_reducible exact HB.out.trans (hb7.mono HB.out.size)) | (with_reducible exact (HBd.out _).trans (hb7.mono (HBd.out _).size)));clear h7 hb7 KS HB;have HB:=hid hB7;clear hB7;have KS:=HC.out _ HB.out))
  ·
   have hz:=zeq.behind H7.out HB.out
   generalize w7.alloc (.cells #[.slice x7 (zf 3).length y7] 52) = wz at hz ⊢
   generalize w7.heap.size = bx at hz ⊢
   clear KS
   have c8:=zco hz.box.blk
   have hT:=zi8 3 _ wz hz.box.nat (by decide +kernel) (by decide +kernel)
   rw [zkZ] at hT
   have HT:=hid hT;have Hz:=hid (HB2.out.trans (hz.bel.mono HB2.out.size))
   clear hT hz
   go_wp2_with fail
   refine HT.out.mono ?_
   rintro e w8 ⟨rfl,hb8⟩
   have HB8:=hid (Hz.out.trans (hb8.mono Hz.out.size))
   clear hb8
   go_wp2_with fail
   go_ret
   exact ⟨rfl,HB8.out⟩
  ·
   have hz:=zeq.ahead H7.out HB.out HX7.out
   clear KS g7 z7
   generalize w7.setCell ⟨w2.heap.size,0,none⟩ (.slice x7 (zf 3).length y7) = wz at hz ⊢
   have c8:=zco hz.box.blk
   have hT:=zi8 3 _ wz hz.box.nat (by decide +kernel) (by decide +kernel)
   rw [zkZ] at hT
   have HT:=hid hT;have Hz:=hid (HB2.out.trans (hz.bel.mono HB2.out.size))
   clear hT hz
   go_wp2_with fail
   refine HT.out.mono ?_
   rintro e w8 ⟨rfl,hb8⟩
   have HB8:=hid (Hz.out.trans (hb8.mono Hz.out.size))
   clear hb8
   go_wp2_with fail
   go_ret
   exact ⟨rfl,HB8.out⟩
 · exact absurd newB (hno lsB (by decide) zoI)
