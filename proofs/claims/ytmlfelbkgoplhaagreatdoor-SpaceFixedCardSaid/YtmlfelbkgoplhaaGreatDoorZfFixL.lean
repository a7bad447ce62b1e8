import Derived.Test.YtmlfelbkgoplhaaGreatDoorZfSpcM
import Derived.Test.YtmlfelbkgoplhaaGreatDoorZfFixE
import Derived.Test.YtmlfelbkgoplhaaGreatDoorZfFixR22
import Derived.Deep.CutRange
set_option linter.unusedVariables false
set_option linter.unusedSimpArgs false
namespace Go.Proofs.YtmlfelbkgoplhaaGreatDoor
open Go.RowKit
theorem zoa {w : World} {a : Option Addr} {n c : Nat} {l : List Int} (hn : n = l.length) (h : zD w (.slice a n c) l) : ∀ k < n,∃ b o,a = some ⟨b,o,none⟩ ∧ w.cell? ⟨b,o + k,none⟩ = some (.int .i64 (l.getD k 0)):=fun k hk => by
 obtain ⟨a',b,o,c',h1,h2,_,_,h5,_⟩:=h
 injection h1 with e1 e2 e3
 subst e1
 exact ⟨b,o,h2 (by intro e;rw [e] at hn;simp at hn;omega),h5 k (by omega)⟩
set_option maxRecDepth 100000 in
set_option maxHeartbeats 32000000 in
theorem zeV (s0 : ByteArray) (n : Nat) (a : Int) (w : World) (hm : s0.size ≤ 9223372036854775807) (hn : n < 18446744073709551616) (hL : xQ w) (hT : zV w) : Calls Tryz.prog 5 #[.string s0,.int .u64 n,.int .i64 a] w fun e w' => e = .returned (.bool true) ∧ Below w.heap.size w w':=by
 have HP:=hid (zpc s0 10 w hm (by decide) hL hT)
 have HR:=hid (show ∀ w',Below w.heap.size w w' → Calls Tryz.prog 10 #[] w' fun e w'' => e = .returned (.bool true) ∧ Below w'.heap.size w' w'' from fun w' hw => znY w' (hL.below hw) (hT.below hw))
 have Hn:=hid hn
 clear hL hT hm hn
 go_enter Tryz.func5,Tryz.ntmps5
 go_wp2_with fail
 refine HP.out.mono ?_
 rintro e w1 ⟨⟨p,ls,items,a1,c1,a2,c2,rfl,hcat,hls,_,hlen,hmo,hin⟩ | ⟨rfl,hno⟩,hb1⟩
 ·
  obtain ⟨hok,vl,vi,hat⟩:=hcat
  have hn10 : items.length ≤ 10:=by omega
  have hz:=zq9 hok
  have hrm:=zmw hok hn10
  have hOf:=fun (W : World) (hW : Below w1.heap.size w1 W) => zhw p vl vi ls items 4000 W (hat.below hW) hok hn10 hlen (by decide) hrm
  obtain ⟨rc,hrc⟩ : ∃ rc,rc = zJ ls items:=⟨_,rfl⟩
  rw [← hrc] at hin hlen hz hOf ⊢
  obtain ⟨V,hV⟩ : ∃ V,V = items.length:=⟨_,rfl⟩
  rw [← hV] at hz hOf hn10 ⊢
  obtain ⟨L,hL⟩ : ∃ L,L = rc.length:=⟨_,rfl⟩
  rw [← hL] at hin hlen ⊢
  obtain ⟨w2,hw2⟩ : ∃ w2,w2 = w1.alloc (.cells #[.int .i64 V,.slice a1 L c1,.slice a2 L c2] 27):=⟨_,rfl⟩
  have hb2 : Below w1.heap.size w1 w2:=by rw [hw2];exact zba
  have hk2 : w2.heap[w1.heap.size]? = some (.cells #[.int .i64 V,.slice a1 L c1,.slice a2 L c2] 27 (0,0)):=by rw [hw2];exact za rfl
  have HOf:=hid (fun (W : World) (hW : Below w2.heap.size w2 W) => hOf W (hb2.trans (hW.mono hb2.size)))
  have HB2:=hid (hb1.trans (hb2.mono hb1.size));have Hk2:=hid hk2
  have hgf:=zhm hok.few (zfR hok (by rw [← hrc,← hL];exact hlen) (by omega))
  have hwi:=zir hok
  rw [← hrc] at hgf hwi
  rw [← hV] at hgf
  have Hcl:=hid (zeC (hin.below hb2));have Hgf:=hid hgf;have Hwi:=hid hwi
  have hlL : (yB rc).length = L:=by rw [yB,List.length_map,hL]
  have Hz:=hid hz;have H10:=hid hn10;have HlL:=hid hlL;have Hlen:=hid hlen
  clear hok hat hls hb1 hb2 hk2 hin HP hrc hL hlen hz hrm hOf hn10 hmo hV hgf hwi hlL
  go_upto_region 2 with fail
  rw [← hw2]
  clear hw2
  go_wp2_with fail
  refine (HR.out _ HB2.out).mono ?_
  rintro e w3 ⟨rfl,hb3⟩
  have hB3:=HB2.out.trans (hb3.mono HB2.out.size)
  have v0:=(yR ((hb3.block _ (zlb Hk2.out)).trans Hk2.out)).1
  have HB3:=hid hB3
  by_cases hV0 : V = 0
  ·
   have t0 : ((V : Int) == 0) = true:=by rw [beq_iff_eq];omega
   clear hb3 hB3 HOf
   go_wp2_with fail
   refine (HR.out _ HB3.out).mono ?_
   rintro e w4 ⟨rfl,hb4⟩
   have HB4:=hid (HB3.out.trans (hb4.mono HB3.out.size))
   clear hb4
   go_wp2_with fail
   go_ret
   exact ⟨rfl,HB4.out⟩
  ·
   have t0 : ((V : Int) == 0) = false:=by rw [beq_eq_false_iff_ne];omega
   have HO3:=hid (HOf.out w3 hb3)
   have Hb3:=hid hb3
   clear hb3 HOf hB3
   go_wp2_with fail
   refine HO3.out.mono ?_
   rintro e w4 ⟨⟨q,s,st,all,rfl,hq,hsp,hi,_,_,_⟩,hb4⟩
   have lq:=zlb hq
   have HW:=hid (show ∀ W,Below w4.heap.size w4 W → (W.cell? ⟨q,0,none⟩ = some (.pointer (some ⟨s.ps,0,none⟩)) ∧ W.cell? ⟨q,1,none⟩ = some (.int .i64 all)) ∧ (W.cell? ⟨w1.heap.size,0,none⟩ = some (.int .i64 V) ∧ W.cell? ⟨w1.heap.size,1,none⟩ = some (.slice a1 L c1)) ∧ zak W w.heap.size (.slice a1 L c1) (yB rc) ∧ Below w.heap.size w W from fun W hW => by
    have hbb : Below w2.heap.size w2 W:=(Hb3.out.trans (hb4.mono Hb3.out.size)).trans (hW.mono (Hb3.out.trans (hb4.mono Hb3.out.size)).size)
    obtain ⟨g2,g3,_⟩:=yR ((hbb.block _ (zlb Hk2.out)).trans Hk2.out)
    exact ⟨zlu ((hW.block _ (zlb hq)).trans hq),⟨g2,g3⟩,Hcl.out.below hbb,HB2.out.trans (hbb.mono HB2.out.size)⟩)
   have hV24 : V ≤ 24:=by have:=H10.out;omega
   have HH:=hid (show ∀ W,Below w4.heap.size w4 W → Calls Tryz.prog 12 #[.pointer (some ⟨s.ps,0,none⟩),.int .i64 all,.int .u64 n] W fun e w' => e = .returned (.tuple #[.bool (den st.c all (jF n)),.nilIface]) ∧ Below W.heap.size W w' from fun W hW => zmN (V : Int) all n W s st (hsp.below hW) hi.sok hi.has)
   have HAl:=hid (fun (W : World) (hW : Below w4.heap.size w4 W) => zjy q s V st all W hV24 (hsp.below hW) ((hW.block _ lq).trans hq) hi.sok.ok hi.has)
   have HNe:=hid (fun (W : World) (hW : Below w4.heap.size w4 W) => zmX q s V st all W hV24 (hsp.below hW) ((hW.block _ lq).trans hq) hi.sok.ok hi.has)
   have HB4:=hid hb4;have Hi:=hid hi;have HB:=hid (Below.refl w4.heap.size w4)
   clear hq hsp hi hb4 HO3 t0
   go_wp2_with fail
   refine (HAl.out _ HB.out).mono ?_
   rintro e w21 ⟨⟨aalw,calw,rfl,hout⟩,hb21⟩
   have hB9:=HB.out.trans (hb21.mono HB.out.size)
   have Hb21:=hid hb21;have Hoalw:=hid hout
   clear hb21 hout HB
   have HB:=hid hB9
   clear hB9
   go_wp2_with fail
   refine (HNe.out _ HB.out).mono ?_
   rintro e w22 ⟨⟨anev,cnev,rfl,hout⟩,hb22⟩
   have hB9:=HB.out.trans (hb22.mono HB.out.size)
   have Hb22:=hid hb22;have Honev:=hid hout
   clear hb22 hout HB
   have HB:=hid hB9
   clear hB9
   have hx1:=Hoalw.out.below Hb22.out
   have hi1:=yM.ints hx1 (by rw [List.length_map];have:=zbV st.c false all V;omega)
   have hi2:=yM.ints Honev.out (by rw [List.length_map];have:=zbV st.c true all V;omega)
   have l1:=zbV st.c false all V
   have l2:=zbV st.c true all V
   have HCa:=hid (zoa (by rw [List.length_map]) hi1);have HCn:=hid (zoa (by rw [List.length_map]) hi2)
   clear hx1 hi1 hi2
   obtain ⟨LA,hLA⟩ : ∃ LA,LA = (jg st.c false all V).map (fun k : Nat => (k : Int)):=⟨_,rfl⟩
   obtain ⟨LN,hLN⟩ : ∃ LN,LN = (jg st.c true all V).map (fun k : Nat => (k : Int)):=⟨_,rfl⟩
   have hnA : LA.length = (jg st.c false all V).length:=by rw [hLA,List.length_map]
   have hnN : LN.length = (jg st.c true all V).length:=by rw [hLN,List.length_map]
   rw [← hLA] at HCa
   rw [← hLN] at HCn
   have HLA:=hid hLA;have HLN:=hid hLN
   generalize (jg st.c false all V).length = nA at HCa hnA l1 Hoalw ⊢
   generalize (jg st.c true all V).length = nN at HCn hnN l2 Honev ⊢
   have HnA:=hid hnA;have HnN:=hid hnN
   clear hLA hLN hnA hnN Hoalw Honev
   obtain ⟨k0,k1⟩:=(HW.out _ HB.out).2.1
   go_wp2_with fail
   refine (zoZ a V _ (by omega) (by omega)).mono ?_
   rintro e w23 ⟨rfl,rfl⟩
   obtain ⟨pv,hpv⟩ : ∃ pv,pv = zji a V:=⟨_,rfl⟩
   rw [← hpv]
   have Hpv:=hid hpv
   clear hpv
   go_wp2_with fail
   go_loopg [16,18] nA (fun gk b i wr => ∃ k : Nat,k ≤ nA ∧ gk = nA - k ∧ b = .bool (anyI LA k pv) ∧ i = .int .i64 k ∧ w22 = wr)
   case atStart => exact ⟨0,znz _,rfl,by rw [zgO],rfl,rfl⟩
   case round =>
    obtain ⟨k,hk,rfl,rfl,rfl,rfl⟩:=hrel
    by_cases hlt : k < nA
    ·
     have hi : (k : Int) < (nA : Int):=by omega
     obtain ⟨b,o,rfl,c9⟩:=HCa.out k hlt
     have hsu:=zhh LA (k:=k) (by rw [HnA.out];exact hlt) (pv : Int)
     generalize LA.getD k 0 = y at c9 hsu
     have Hsu:=hid hsu
     clear hsu
     cases hb : anyI LA k pv with
     | true =>
      have Hb:=hid hb
      clear hb
      go_wp2_with fail
      go_roundg (nA - (k + 1))
      case measure => omega
      case rel => exact ⟨k + 1,by omega,rfl,by rw [Hsu.out,Hb.out];rfl,by go_num,rfl⟩
     | false =>
      have Hb:=hid hb
      clear hb
      go_wp2_with fail
      go_roundg (nA - (k + 1))
      case measure => omega
      case rel => exact ⟨k + 1,by omega,rfl,by rw [Hsu.out,Hb.out];rfl,by go_num,rfl⟩
    ·
     obtain rfl : nA = k:=by omega
     go_wp2_with fail
     go_loopg [17,19] nN (fun gk b i wr => ∃ k : Nat,k ≤ nN ∧ gk = nN - k ∧ b = .bool (anyI LN k pv) ∧ i = .int .i64 k ∧ w22 = wr)
     case atStart => exact ⟨0,znz _,rfl,by rw [zgO],rfl,rfl⟩
     case round =>
      obtain ⟨k,hk,rfl,rfl,rfl,rfl⟩:=hrel
      by_cases hlt : k < nN
      ·
       have hi : (k : Int) < (nN : Int):=by omega
       obtain ⟨b,o,rfl,c9⟩:=HCn.out k hlt
       have hsu:=zhh LN (k:=k) (by rw [HnN.out];exact hlt) (pv : Int)
       generalize LN.getD k 0 = y at c9 hsu
       have Hsu:=hid hsu
       clear hsu
       cases hb : anyI LN k pv with
       | true =>
        have Hb:=hid hb
        clear hb
        go_wp2_with fail
        go_roundg (nN - (k + 1))
        case measure => omega
        case rel => exact ⟨k + 1,by omega,rfl,by rw [Hsu.out,Hb.out];rfl,by go_num,rfl⟩
       | false =>
        have Hb:=hid hb
        clear hb
        go_wp2_with fail
        go_roundg (nN - (k + 1))
        case measure => omega
        case rel => exact ⟨k + 1,by omega,rfl,by rw [Hsu.out,Hb.out];rfl,by go_num,rfl⟩
      ·
       obtain rfl : nN = k:=by omega
       clear k0 k1
       have HKB:=hid (show ∀ W,Below w22.heap.size w22 W → W.cell? ⟨w1.heap.size,0,none⟩ = some (.int .i64 V) ∧ W.cell? ⟨w1.heap.size,1,none⟩ = some (.slice a1 L c1) ∧ Below w22.heap.size w22 W from fun W hW => have h:=HW.out W (HB.out.trans (hW.mono HB.out.size));⟨h.2.1.1,h.2.1.2,hW⟩)
       have HKA:=hid (show ∀ (W : World) (o : Obj),(W.cell? ⟨w1.heap.size,0,none⟩ = some (.int .i64 V) ∧ W.cell? ⟨w1.heap.size,1,none⟩ = some (.slice a1 L c1) ∧ Below w22.heap.size w22 W) → (W.alloc o).cell? ⟨w1.heap.size,0,none⟩ = some (.int .i64 V) ∧ (W.alloc o).cell? ⟨w1.heap.size,1,none⟩ = some (.slice a1 L c1) ∧ Below w22.heap.size w22 (W.alloc o) from fun W o h => HKB.out _ (bl1 h.2.2))
       have HKD:=hid (show ∀ (W : World) (o : Obj),(W.drew.cell? ⟨w1.heap.size,0,none⟩ = some (.int .i64 V) ∧ W.drew.cell? ⟨w1.heap.size,1,none⟩ = some (.slice a1 L c1) ∧ Below w22.heap.size w22 W.drew) → (W.alloc o).drew.cell? ⟨w1.heap.size,0,none⟩ = some (.int .i64 V) ∧ (W.alloc o).drew.cell? ⟨w1.heap.size,1,none⟩ = some (.slice a1 L c1) ∧ Below w22.heap.size w22 (W.alloc o).drew from fun W o h => HKB.out _ (bd1 h.2.2))
       obtain ⟨us,hus,hall⟩:=(HW.out _ HB.out).2.2.1
       have hrw:=(HW.out _ HB.out).2.2.1.rows (by rw [HlL.out];have:=Hlen.out;omega) Hwi.out.1
       have hcL : L ≤ c1 ∧ c1 ≤ maxLen:=by
        obtain ⟨a',b',o',c',h1,_,h3,h4,_⟩:=hrw
        injection h1 with _ _ e3
        subst e3
        rw [HlL.out] at h3
        exact ⟨h3,h4⟩
       have husL : us.length = L:=by rw [hall.len,HlL.out]
       obtain ⟨m,hm⟩ : ∃ m : Nat,m = min L 199:=⟨_,rfl⟩
       have hmin : min (L : Int) 199 = (m : Int):=by omega
       have hmin2 : (if (L : Int) < 199 then (L : Int) else 199) = (m : Int):=by split <;> omega
       have hmin3 : (if (L : Int) ≤ 199 then (L : Int) else 199) = (m : Int):=by split <;> omega
       have hm0 : (0 : Int) ≤ (m : Int):=by omega
       have hmc : (m : Int) ≤ (c1 : Int):=by omega
       have hmL : m ≤ L:=by omega
       have hm9 : m ≤ 199:=by omega
       have HU:=hid (show ∀ W,Below w22.heap.size w22 W → ∀ (j : Nat) (u : Value),(us.take m)[j]? = some u → ∃ b o,a1 = some ⟨b,o,none⟩ ∧ W.cell? ⟨b,o + j,none⟩ = some u from fun W hW j u hu => zrJ (hus.below hW) m j u hu)
       have HU1:=hid (show ∀ u ∈ us.take m,u.oneCell' = true from fun u hu => oneV hall u (List.mem_of_mem_take hu))
       have HUl:=hid (show (us.take m).length = m by rw [List.length_take];omega)
       have HAll:=hid (show ∀ W,Below w22.heap.size w22 W → yG (fun v c => yM W 0 v c) us (yB rc) from fun W hW => xV (fun a _ b k => zo.below k hW) hall)
       have hpl : pv < V:=by rw [Hpv.out];exact zn1 a (by omega)
       have hV10 : V ≤ 10:=by have:=H10.out;omega
       have Hpl:=hid hpl;have HcL:=hid hcL;have HV10:=hid hV10
       have hp24 : (pv : Int) < 24:=by omega
       have hp0 : (0 : Int) ≤ (pv : Int):=by omega
       obtain ⟨m1,hm1⟩ : ∃ m1,m1 = m + 1:=⟨_,rfl⟩
       have Hm1:=hid hm1
       clear hm1
       have HusL:=hid husL
       have Hm:=hid hm
       clear hm hrw hus hall husL hcL hpl hV10
       have hbs : w22.heap.size ≤ w22.heap.size:=znr _
       have KS:=HKB.out _ (Below.refl _ w22).drew
       have hwr : IntKind.i64.wrap (IntKind.i64.wrap (-(pv : Int)) - 1) = -(pv : Int) - 1:=by have h1:=hp24;have h2:=hp0;simp only [IntKind.wrap_i64];omega
       go_upto_region 21 with fail
       go_cut [13,20] from 102 to 122 (fun ev bv wz => ∃ (blk : Nat) (holds : Bool) (vals : Nat) (a8 : Option Addr) (n8 c8 : Nat),ev = .nilIface ∧ bv = .pointer (some ⟨blk,0,none⟩) ∧ wz.heap[blk]? = some (.cells #[.bool holds,.int .u64 vals,.slice a8 n8 c8] 56 (0,0)) ∧ Below w22.heap.size w22 wz ∧ (holds = true ↔ zcz ((yB rc).take m ++ [[-(pv : Int) - 1]])))
       case first =>
        refine zmD a1 L c1 V m m1 pv w1.heap.size us (yB rc) w22 Hm.out Hm1.out HusL.out HcL.out (fun W hW => ⟨(HKB.out W hW).1,(HKB.out W hW).2.1⟩) HU.out HU1.out HAll.out Hgf.out.1 HV10.out Hpl.out ?_
        intro _ _ _ _ _ _ _ _ _ _ _ _ _ _ _ _ _ _ _ _ _ blk holds vals a8 n8 c8 wz hk hb hs
        go_wp2_with fail
        go_meet
        case rel => exact ⟨blk,holds,vals,a8,n8,c8,rfl,rfl,hk,hb,hs⟩
       case rest =>
        obtain ⟨bkA,nb,vA,aA,nA8,cA8,rfl,rfl,hkA,hbA,hsA⟩:=hcut
        obtain ⟨wA,rfl⟩ : ∃ y,y = wc:=⟨_,rfl⟩
        have HkA:=hid hkA;have HbA:=hid hbA;have HsA:=hid hsA
        have hbs2 : w22.heap.size ≤ wA.heap.size:=hbA.size
        have HKB2:=hid (show ∀ W,Below wA.heap.size wA W → W.cell? ⟨w1.heap.size,0,none⟩ = some (.int .i64 V) ∧ W.cell? ⟨w1.heap.size,1,none⟩ = some (.slice a1 L c1) ∧ Below wA.heap.size wA W from fun W hW => ⟨(HKB.out W (HbA.out.trans (hW.mono HbA.out.size))).1,(HKB.out W (HbA.out.trans (hW.mono HbA.out.size))).2.1,hW⟩)
        have HU2:=hid (fun (W : World) (hW : Below wA.heap.size wA W) => HU.out W (HbA.out.trans (hW.mono HbA.out.size)))
        have HAll2:=hid (fun (W : World) (hW : Below wA.heap.size wA W) => HAll.out W (HbA.out.trans (hW.mono HbA.out.size)))
        clear HKB HKA HKD HU HAll KS hkA hbA hsA
        have HKB:=HKB2;have HU:=HU2;have HAll:=HAll2
        clear HKB2 HU2 HAll2
        have HKA:=hid (show ∀ (W : World) (o : Obj),(W.cell? ⟨w1.heap.size,0,none⟩ = some (.int .i64 V) ∧ W.cell? ⟨w1.heap.size,1,none⟩ = some (.slice a1 L c1) ∧ Below wA.heap.size wA W) → (W.alloc o).cell? ⟨w1.heap.size,0,none⟩ = some (.int .i64 V) ∧ (W.alloc o).cell? ⟨w1.heap.size,1,none⟩ = some (.slice a1 L c1) ∧ Below wA.heap.size wA (W.alloc o) from fun W o h => HKB.out _ (bl1 h.2.2))
        have HKD:=hid (show ∀ (W : World) (o : Obj),(W.drew.cell? ⟨w1.heap.size,0,none⟩ = some (.int .i64 V) ∧ W.drew.cell? ⟨w1.heap.size,1,none⟩ = some (.slice a1 L c1) ∧ Below wA.heap.size wA W.drew) → (W.alloc o).drew.cell? ⟨w1.heap.size,0,none⟩ = some (.int .i64 V) ∧ (W.alloc o).drew.cell? ⟨w1.heap.size,1,none⟩ = some (.slice a1 L c1) ∧ Below wA.heap.size wA (W.alloc o).drew from fun W o h => HKB.out _ (bd1 h.2.2))
        have KS:=HKB.out _ (Below.refl _ wA).drew
        have hwr : IntKind.i64.wrap ((pv : Int) + 1) = (pv : Int) + 1:=by have h1:=hp24;have h2:=hp0;simp only [IntKind.wrap_i64];omega
        go_upto_region 22 with fail
        go_cut [15,21] from 123 to 142 (fun ev bv wz => ∃ (blk : Nat) (holds : Bool) (vals : Nat) (a8 : Option Addr) (n8 c8 : Nat),ev = .nilIface ∧ bv = .pointer (some ⟨blk,0,none⟩) ∧ wz.heap[blk]? = some (.cells #[.bool holds,.int .u64 vals,.slice a8 n8 c8] 56 (0,0)) ∧ Below wA.heap.size wA wz ∧ (holds = true ↔ zcz ((yB rc).take m ++ [[(pv : Int) + 1]])))
        case first =>
         refine zlY a1 L c1 V m m1 pv w1.heap.size us (yB rc) wA Hm.out Hm1.out HusL.out HcL.out (fun W hW => ⟨(HKB.out W hW).1,(HKB.out W hW).2.1⟩) HU.out HU1.out HAll.out Hgf.out.1 HV10.out Hpl.out ?_
         intro _ _ _ _ _ _ _ _ _ _ _ _ _ _ _ _ _ _ _ _ blk holds vals a8 n8 c8 wz hk hb hs
         go_wp2_with fail
         go_meet
         case rel => exact ⟨blk,holds,vals,a8,n8,c8,rfl,rfl,hk,hb,hs⟩
        case rest =>
         obtain ⟨bkB,yb,vB,aB,nB8,cB8,rfl,rfl,hkB,hbB,hsB⟩:=hcut
         obtain ⟨wB,rfl⟩ : ∃ y,y = wc:=⟨_,rfl⟩
         obtain ⟨y0,_,_⟩:=yR ((hbB.block _ (zlb HkA.out)).trans HkA.out)
         obtain ⟨x0,_,_⟩:=yR hkB
         have hb9:=HbA.out.trans (hbB.mono HbA.out.size)
         have hB9:=HB.out.trans (hb9.mono HB.out.size)
         obtain ⟨k0,k1⟩:=(HW.out _ hB9).2.1
         obtain ⟨A,hA⟩ : ∃ A,A = anyI LA nA pv:=⟨_,rfl⟩
         obtain ⟨B,hBb⟩ : ∃ B,B = anyI LN nN pv:=⟨_,rfl⟩
         rw [← hA,← hBb]
         have hnA : nA = (jg st.c false all V).length:=by rw [← HnA.out,HLA.out,List.length_map]
         have hnN : nN = (jg st.c true all V).length:=by rw [← HnN.out,HLN.out,List.length_map]
         have HE:=hid (show L < 200 → A = !nb ∧ B = !yb from fun h => ⟨by rw [hA,HLA.out];exact fix_eq Hi.out Hz.out Hpl.out false (by rw [HlL.out];have:=Hm.out;omega) hnA HsA.out,by rw [hBb,HLN.out];exact fix_eq Hi.out Hz.out Hpl.out true (by rw [HlL.out];have:=Hm.out;omega) hnN hsB⟩)
         have hd1 : den st.c all (jF n) = true → A = true → jF (n : Int) (pv : Int) = true:=fun hd h => by
          cases e : jF (n : Int) (pv : Int) with
          | true => rfl
          | false => rw [hA,HLA.out,zij (n:=0) Hi.out false hnA hd e] at h;cases h
         have hd2 : den st.c all (jF n) = true → B = true → jF (n : Int) (pv : Int) = false:=fun hd h => by
          cases e : jF (n : Int) (pv : Int) with
          | false => rfl
          | true => rw [hBb,HLN.out,zij (n:=0) Hi.out true hnN hd e] at h;cases h
         have HD:=hid (fun (hd : den st.c all (jF n) = true) => And.intro (hd1 hd) (hd2 hd))
         clear hd1 hd2
         obtain ⟨D,hD⟩ : ∃ D,D = den st.c all (jF (n : Int)):=⟨_,rfl⟩
         rw [← hD] at HH HD
         obtain ⟨X,hX⟩ : ∃ X,X = jF (n : Int) (pv : Int):=⟨_,rfl⟩
         rw [← hX] at HD
         have hb1 : (bits .and .u64 ((n : Int) / 2 ^ pv) 1 == 1) = X:=by rw [hX];exact zmW (by omega)
         have hb0 : (bits .and .u64 ((n : Int) / 2 ^ pv) 1 == 0) = !X:=by rw [znX Hn.out,hb1]
         have HBB:=hid hB9;have Hb1:=hid hb1;have Hb0:=hid hb0
         clear hkB hbB hsB hb9 hB9 hA hBb hnA hnN hD hX hb1 hb0 HKB HKA HKD HU HAll KS HB hmin hmin2 hmin3 hm0 hmc hmL hm9
         by_cases h200 : (L : Int) < 200
         ·
          obtain ⟨e1,e2⟩:=HE.out (by omega)
          have t1 : (A == nb) = false:=by rw [e1];cases nb <;> rfl
          have t2 : (B == yb) = false:=by rw [e2];cases yb <;> rfl
          clear e1 e2
          have HB:=hid ((HBB.out).drew)
          have KS:=(HW.out _ HB.out).1
          go_upto_region 27 with fail
          go_region_held3 (fun w' => w'.cell? ⟨q,0,none⟩ = some (.pointer (some ⟨s.ps,0,none⟩)) ∧ w'.cell? ⟨q,1,none⟩ = some (.int .i64 all)) (first | (with_reducible exact KS) | go_keep)
           (first | (go_at_call 12;(refine (HH.out _ (by first | (with_reducible exact HB.out))).mono ?_);rintro e w7 ⟨rfl,hb7⟩;have hB7:=HB.out.trans (hb7.mono HB.out.size);clear hb7 KS HB;have HB:=hid hB7;clear hB7;have KS:=(HW.out _ HB.out).1))
          clear KS HH k0 k1
          have hb1:=Hb1.out
          have hb0:=Hb0.out
          cases D with
          | false =>
           go_wp2_with fail
           go_ret
           exact ⟨rfl,(HW.out _ HB.out).2.2.2⟩
          | true =>
           obtain ⟨d1,d2⟩:=HD.out rfl
           cases A with
           | false =>
            cases B with
            | false =>
             go_wp2_with fail
             go_ret
             exact ⟨rfl,(HW.out _ HB.out).2.2.2⟩
            | true =>
             obtain rfl:=d2 rfl
             go_wp2_with fail
             go_ret
             exact ⟨rfl,(HW.out _ HB.out).2.2.2⟩
           | true =>
            obtain rfl:=d1 rfl
            cases B with
            | false =>
             go_wp2_with fail
             go_ret
             exact ⟨rfl,(HW.out _ HB.out).2.2.2⟩
            | true => cases d2 rfl
         ·
          have hB9:=HBB.out
          clear hB9
          have HB:=hid ((HBB.out).drew)
          have KS:=(HW.out _ HB.out).1
          go_upto_region 27 with fail
          go_region_held3 (fun w' => w'.cell? ⟨q,0,none⟩ = some (.pointer (some ⟨s.ps,0,none⟩)) ∧ w'.cell? ⟨q,1,none⟩ = some (.int .i64 all)) (first | (with_reducible exact KS) | go_keep)
           (first | (go_at_call 12;(refine (HH.out _ (by first | (with_reducible exact HB.out))).mono ?_);rintro e w7 ⟨rfl,hb7⟩;have hB7:=HB.out.trans (hb7.mono HB.out.size);clear hb7 KS HB;have HB:=hid hB7;clear hB7;have KS:=(HW.out _ HB.out).1))
          clear KS HH k0 k1
          have hb1:=Hb1.out
          have hb0:=Hb0.out
          cases D with
          | false =>
           go_wp2_with fail
           go_ret
           exact ⟨rfl,(HW.out _ HB.out).2.2.2⟩
          | true =>
           obtain ⟨d1,d2⟩:=HD.out rfl
           cases A with
           | false =>
            cases B with
            | false =>
             go_wp2_with fail
             go_ret
             exact ⟨rfl,(HW.out _ HB.out).2.2.2⟩
            | true =>
             obtain rfl:=d2 rfl
             go_wp2_with fail
             go_ret
             exact ⟨rfl,(HW.out _ HB.out).2.2.2⟩
           | true =>
            obtain rfl:=d1 rfl
            cases B with
            | false =>
             go_wp2_with fail
             go_ret
             exact ⟨rfl,(HW.out _ HB.out).2.2.2⟩
            | true => cases d2 rfl
 ·
  have HB1:=hid (hb1.alloc hb1.size (.cells #[.int .i64 0,.slice none 0 0,.slice none 0 0] 27))
  clear hno hb1 HP
  obtain ⟨w2,hw2⟩ : ∃ w2,w2 = w1.alloc (.cells #[.int .i64 0,.slice none 0 0,.slice none 0 0] 27):=⟨_,rfl⟩
  rw [← hw2] at HB1
  go_upto_region 2 with fail
  rw [← hw2]
  clear hw2
  go_wp2_with fail
  refine (HR.out _ HB1.out).mono ?_
  rintro e w3 ⟨rfl,hb3⟩
  have HB3:=hid (HB1.out.trans (hb3.mono HB1.out.size))
  clear hb3
  go_wp2_with fail
  refine (HR.out _ HB3.out).mono ?_
  rintro e w4 ⟨rfl,hb4⟩
  have HB4:=hid (HB3.out.trans (hb4.mono HB3.out.size))
  clear hb4
  go_wp2_with fail
  go_ret
  exact ⟨rfl,HB4.out⟩
