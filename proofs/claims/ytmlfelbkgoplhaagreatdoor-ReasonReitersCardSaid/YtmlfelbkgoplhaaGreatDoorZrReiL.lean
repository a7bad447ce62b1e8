import Derived.Test.YtmlfelbkgoplhaaGreatDoorZrCored
import Derived.Test.YtmlfelbkgoplhaaGreatDoorZrCoresW
import Derived.Test.YtmlfelbkgoplhaaGreatDoorZrReiW
set_option linter.unusedVariables false
set_option linter.unusedSimpArgs false
namespace Go.Proofs.YtmlfelbkgoplhaaGreatDoor
open Go.RowKit
theorem zh.isU {w : World} {base : Nat} {v : Value} {xs : List Nat} (h : zh w base 22 1 zeW v xs) : IsU w v xs:=by
 obtain ⟨a,c,rfl,h1,h2⟩:=h.shape
 by_cases hx : xs = []
 ·
  subst hx
  exact ⟨a,0,c,rfl,fun q => absurd rfl q,h1,by unfold maxLen;omega,fun q => absurd rfl q,fun i hi => (by simp at hi)⟩
 ·
  obtain ⟨g,rfl,hg,_⟩:=zh.at h (by cases xs with | nil => exact absurd rfl hx | cons _ _ => simp)
  refine ⟨some ⟨g,0,none⟩,g,c,rfl,fun _ => rfl,h1,by unfold maxLen;omega,fun _ => hg,fun i hi => ?_⟩
  have hc:=zh.cell (enc:=zeW) (z:=1) (fun _ => rfl) h hi (j:=0) (by decide) rfl
  rw [Nat.mul_one,Nat.add_zero] at hc
  exact hc
theorem zlY (ls : List zi) {k : Nat} (h : k < ls.length) : (yP ls (k + 1)).length = (yP ls k).length + if ls[k].kind ≠ 1 then 1 else 0:=by
 rw [zgM,List.length_append,zdv h]
 split <;> rfl
set_option maxRecDepth 100000 in
set_option maxHeartbeats 32000000 in
theorem zdn (s : ByteArray) (w : World) (hm : s.size ≤ 9223372036854775807) (hL : xW w) (hT : zW w) : Calls Tryz.prog 8 #[.string s] w fun e w' => e = .returned (.bool true) ∧ Below w.heap.size w w':=by
 have HP:=hid (zqk s 8 w hm (by decide) hL hT)
 have HR:=hid (show ∀ w',Below w.heap.size w w' → Calls Tryz.prog 38 #[] w' fun e w'' => e = .returned (.bool true) ∧ Below w'.heap.size w' w'' from fun w' hw => znY w' (hL.below hw) (hT.below hw))
 clear hL hT hm
 go_enter Tryz.func8,Tryz.ntmps8
 go_wp2_with fail
 refine HP.out.mono ?_
 rintro e w1 ⟨⟨p,ls,items,a1,c1,a2,c2,rfl,hcat,hls,_,hlen,hmo,hin⟩ | ⟨rfl,hno⟩,hb1⟩
 ·
  obtain ⟨hok,vl,vi,hat⟩:=hcat
  have hn8 : items.length ≤ 8:=by omega
  have hl100:=hok.few
  have hfr : ∀ p ∈ zH ls items,-1 ≤ p.1 ∧ p.1 < 100:=fun p hp => by have:=kS hp;omega
  have hfs:=zkR (items:=items) hl100 (yP ls ls.length)
  obtain ⟨m,hmm⟩ : ∃ m,m = items.length:=⟨_,rfl⟩
  obtain ⟨L,hL⟩ : ∃ L,L = (zH ls items).length:=⟨_,rfl⟩
  rw [← hmm,← hL]
  obtain ⟨w2,hw2⟩ : ∃ w2,w2 = w1.alloc (.cells #[.int .i64 m,.slice a1 L c1,.slice a2 L c2] 27):=⟨_,rfl⟩
  have hb2 : Below w1.heap.size w1 w2:=by rw [hw2];exact zba
  have hk2 : w2.heap[w1.heap.size]? = some (.cells #[.int .i64 m,.slice a1 L c1,.slice a2 L c2] 27 (0,0)):=by rw [hw2];exact za rfl
  have HF:=hid (show ∀ w',Below w2.heap.size w2 w' → zb7 w' p vl vi ls items ∧ w'.cell? ⟨w1.heap.size,0,none⟩ = some (.int .i64 m) ∧ Below w.heap.size w w' from fun w' hw => by
   have hb:=hb2.trans (hw.mono hb2.size)
   exact ⟨hat.below hb,(yN ((hw.block _ (zlb hk2)).trans hk2)).1,hb1.trans (hb.mono hb1.size)⟩)
  have hm8 : ¬ (8 : Int) < (m : Int):=by omega
  have Hok:=hid hok;have Hfr:=hid hfr;have Hfs:=hid hfs;have Hlen:=hid hlen;have H8:=hid hn8
  have HB2:=hid (hb1.trans (hb2.mono hb1.size))
  clear hok hat hls hb1 hb2 hk2 hin HP hlen hfr hfs hL hmm hmo hn8
  go_upto_region 2 with fail
  rw [← hw2]
  clear hw2
  go_wp2_with fail
  refine (HR.out _ HB2.out).mono ?_
  rintro e w3 ⟨rfl,hb3⟩
  have HLn:=hid (zeJ p vl vi ls items w3 (HF.out _ hb3).1 (by omega))
  have Hb3:=hid hb3
  clear hb3
  go_wp2_with fail
  refine HLn.out.mono ?_
  rintro e w4 ⟨⟨v4,rfl,hl4⟩,hb4⟩
  obtain ⟨a4,c4,rfl,_,_⟩:=hl4.row.shape
  have Hl4:=hid hl4;have Hb4:=hid (Hb3.out.trans (hb4.mono Hb3.out.size))
  obtain ⟨NL,hNL⟩ : ∃ NL,NL = ls.length:=⟨_,rfl⟩
  rw [← hNL]
  have HNL:=hid hNL
  clear hl4 hb4 HLn Hb3 hNL
  go_wp2_with fail
  go_loopg [6,7] NL (fun gk o i wr => ∃ k : Nat,k ≤ NL ∧ gk = NL - k ∧ o = .int .i64 ((yP ls k).length : Nat) ∧ i = .int .i64 k ∧ w4 = wr)
  case atStart => exact ⟨0,znz _,rfl,rfl,rfl,rfl⟩
  case round =>
   obtain ⟨k,hk,rfl,rfl,rfl,rfl⟩:=hrel
   have hsl:=zgi ls k
   by_cases hlt : k < NL
   ·
    have hi : (k : Int) < (NL : Int):=by omega
    have hks : k < ls.length:=by rw [← HNL.out];exact hlt
    obtain ⟨g,rfl,hg,_⟩:=Hl4.out.row.at (by omega)
    obtain ⟨c0,_,_,_,_,_,_⟩:=Hl4.out.cells hks
    have hsc:=zlY ls hks
    obtain ⟨x,hx⟩ : ∃ x,x = ls[k]:=⟨_,rfl⟩
    rw [← hx] at c0 hsc
    obtain ⟨kd,hkd⟩ : ∃ kd,kd = x.kind:=⟨_,rfl⟩
    rw [← hkd] at c0 hsc
    have hs100 : (yP ls k).length ≤ 100:=by omega
    obtain ⟨n0,hn0⟩ : ∃ n0,n0 = (yP ls k).length:=⟨_,rfl⟩
    rw [← hn0] at hsc hs100 ⊢
    by_cases h1 : kd = 1
    ·
     have t1 : (kd != 1) = false:=by simp [h1]
     rw [if_neg (by omega)] at hsc
     have Hsc:=hid hsc
     clear hsc hx hkd hn0 h1
     go_wp2_with fail
     go_roundg (NL - (k + 1))
     case measure => omega
     case rel => exact ⟨k + 1,by omega,rfl,by rw [Hsc.out];rfl,by go_num,rfl⟩
    ·
     have t1 : (kd != 1) = true:=by simpa using h1
     rw [if_pos h1] at hsc
     have Hsc:=hid hsc
     clear hsc hx hkd hn0 h1
     go_wp2_with fail
     go_roundg (NL - (k + 1))
     case measure => omega
     case rel => exact ⟨k + 1,by omega,rfl,by rw [Hsc.out];go_num,by go_num,rfl⟩
   ·
    obtain rfl : k = NL:=by omega
    rw [HNL.out]
    obtain ⟨k0,HBe⟩:=(HF.out _ Hb4.out).2
    obtain ⟨n,hn⟩ : ∃ n,n = (yP ls ls.length).length:=⟨_,rfl⟩
    rw [← hn]
    by_cases h7 : n ≤ 7
    ·
     have hi7 : ¬ (7 : Int) < (n : Int):=by omega
     have HC:=hid (znj p vl vi ls items w4 (HF.out _ Hb4.out).1 Hok.out (by have:=H8.out;omega) Hlen.out (by omega))
     have Hn:=hid hn;have H7:=hid h7;have HBe:=hid HBe
     clear hn h7 hlt hsl
     go_wp2_with fail
     refine HC.out.mono ?_
     rintro e w5 ⟨⟨v1,v2,rfl,hr1,hr2⟩,hb5⟩
     have hu1:=hr1.isU;have hu2:=hr2.isU
     obtain ⟨rc,hrc⟩ : ∃ rc,rc = zH ls items:=⟨_,rfl⟩
     obtain ⟨says,hsays⟩ : ∃ says,says = yP ls ls.length:=⟨_,rfl⟩
     have hl2 : ∀ {l : List Nat},l.length ≤ 2 ^ n → l.length ≤ 200:=fun h => by have : 2 ^ n ≤ 2 ^ 7:=Nat.pow_le_pow_right (by decide) H7.out;omega
     have hlc : (zbL rc says).length ≤ 200:=hl2 (by rw [Hn.out,← hsays];exact zjO _ _)
     have hlf : (za6 rc says).length ≤ 200:=hl2 (by rw [Hn.out,← hsays];exact zjO _ _)
     have hc2 : ∀ x ∈ zbL rc says,x < 2 ^ n:=by rw [Hn.out,← hsays];exact zme
     have hf2 : ∀ x ∈ za6 rc says,x < 2 ^ n:=by rw [Hn.out,← hsays];exact zme
     have hfs:=Hfs.out
     have hfr:=Hfr.out
     rw [← hrc,← hsays] at hu1 hu2
     rw [← hrc] at hfr hfs
     rw [← hsays] at hfs
     have hns : n = says.length:=by rw [Hn.out,hsays]
     have r1:=fun (ys : List Nat) (hi : ys.Pairwise (· < ·)) (h : ∀ y,y ∈ ys ↔ jl (zfA n (zbL rc says)) y) => zlS hfr (says:=says) hi (by rw [← hns];exact h)
     have r2:=fun (ys : List Nat) (hi : ys.Pairwise (· < ·)) (h : ∀ y,y ∈ ys ↔ jl (zfA n (za6 rc says)) y) => zla hfr (says:=says) hi (by rw [← hns];exact h)
     generalize zbL rc says = cs at hu1 hlc hc2 r1 r2
     generalize za6 rc says = fs at hu2 hlf hf2 hfs r1 r2
     obtain ⟨b1,d1,rfl,_,_⟩:=hu1.shape
     obtain ⟨b2,d2,rfl,_,_⟩:=hu2.shape
     have HRe1:=hid (zgA n H7.out cs _ w5 hu1 hc2 hlc)
     have HRe2:=hid (fun (W : World) (hW : Below w5.heap.size w5 W) => zgA n H7.out fs _ W (hu2.below hW) hf2 hlf)
     have Hu1:=hid hu1;have Hu2:=hid hu2;have R1:=hid r1;have R2:=hid r2
     have Hb5:=hid (HBe.out.trans (hb5.mono HBe.out.size))
     have hfi : (0 : Int) < (fs.length : Int):=by omega
     clear hu1 hu2 r1 r2 hb5 hr1 hr2 hrc hsays hlc hlf hc2 hf2 hfr hns hl2 HC k0
     go_wp2_with fail
     refine HRe1.out.mono ?_
     rintro e w6 ⟨⟨v6,y6,rfl,hu6,hs6,hm6⟩,hb6⟩
     obtain rfl:=R1.out y6 hs6 hm6
     obtain ⟨b6,d6,rfl,_,_⟩:=hu6.shape
     have Hu6:=hid hu6;have Hb6:=hid hb6;have HRe:=hid (HRe2.out w6 hb6)
     clear hu6 hs6 hm6 hb6
     go_wp2_with fail
     refine HRe.out.mono ?_
     rintro e w7 ⟨⟨v7,y7,rfl,hu7,hs7,hm7⟩,hb7⟩
     obtain rfl:=R2.out y7 hs7 hm7
     obtain ⟨b7,d7,rfl,_,_⟩:=hu7.shape
     have hb57:=Hb6.out.trans (hb7.mono Hb6.out.size)
     have HS1:=hid (zdg _ _ _ w7 (Hu6.out.below hb7) (Hu2.out.below hb57))
     have HS2:=hid (fun (W : World) (hW : Below w7.heap.size w7 W) => zdg _ _ _ W (hu7.below hW) (Hu1.out.below (hb57.trans (hW.mono hb57.size))))
     have Hb7:=hid (Hb5.out.trans (hb57.mono Hb5.out.size))
     clear hu7 hs7 hm7 hb7 hb57
     go_wp2_with fail
     refine HS1.out.mono ?_
     rintro e w8 ⟨rfl,hb8⟩
     have HS3:=hid (HS2.out w8 hb8);have Hb8:=hid (Hb7.out.trans (hb8.mono Hb7.out.size))
     clear hb8
     go_wp2_with fail
     refine HS3.out.mono ?_
     rintro e w9 ⟨rfl,hb9⟩
     have Hb9:=hid (Hb8.out.trans (hb9.mono Hb8.out.size))
     clear hb9
     go_wp2_with fail
     go_ret
     exact ⟨rfl,Hb9.out⟩
    ·
     have hi7 : (7 : Int) < (n : Int):=by omega
     have HBe:=hid HBe
     clear hn h7 hlt hsl
     go_wp2_with fail
     go_ret
     exact ⟨rfl,HBe.out⟩
 ·
  have HB1:=hid (hb1.alloc hb1.size (.cells #[.int .i64 0,.slice none 0 0,.slice none 0 0] 27))
  clear hno hb1 HP
  obtain ⟨w2,hw2⟩ : ∃ w2,w2 = w1.alloc (.cells #[.int .i64 0,.slice none 0 0,.slice none 0 0] 27):=⟨_,rfl⟩
  rw [← hw2] at HB1
  go_upto_region 2 with fail
  rw [← hw2]
  clear hw2
  go_wp2_with fail
  refine (HR.out _ HB1.out).mono ?_
  rintro e w3 ⟨rfl,hb3⟩
  have HB3:=hid (HB1.out.trans (hb3.mono HB1.out.size))
  clear hb3
  go_wp2_with fail
  refine (HR.out _ HB3.out).mono ?_
  rintro e w4 ⟨rfl,hb4⟩
  have HB4:=hid (HB3.out.trans (hb4.mono HB3.out.size))
  clear hb4
  go_wp2_with fail
  go_ret
  exact ⟨rfl,HB4.out⟩
