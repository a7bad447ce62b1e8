import Derived.Test.YtmlfelbkgoplhaaGreatDoorZfPkM
import Derived.Test.YtmlfelbkgoplhaaGreatDoorZfChkW
import Derived.Test.YtmlfelbkgoplhaaGreatDoorZfPkS
import Derived.Deep.RegionHeld3
import Derived.Carry
import Derived.Deep.RegionLaw
set_option linter.unusedVariables false
set_option linter.unusedSimpArgs false
namespace Go.Proofs.YtmlfelbkgoplhaaGreatDoor
open Go.RowKit
theorem zaB : Tryz.prog.underlying 217 = some (.map 9 4):=Tryz.underlying217
theorem zjW : Tryz.prog.underlying 9 = some .string:=Tryz.underlying9
theorem znO {w : World} {p : Nat} {a b : Value} {T : TypeId} (h : w.heap[p]? = some (.cells #[a,b] T (0,0))) (u : Value) : (w.setCell ⟨p,1,none⟩ u).heap[p]? = some (.cells #[a,u] T (0,0)):=heap_set h 1 u
theorem zpi {w : World} {p : Nat} {a b : Value} {T : TypeId} (h : w.heap[p]? = some (.cells #[a,b] T (0,0))) (u : Value) : (w.setCell ⟨p,0,none⟩ u).heap[p]? = some (.cells #[u,b] T (0,0)):=heap_set h 0 u
set_option maxRecDepth 100000 in
set_option maxHeartbeats 32000000 in
theorem zps (base : Nat) (vl : Value) (ls : List zm) (w : World) (h : xC w base vl ls) : Calls Tryz.prog 73 #[vl] w (NewP ls w):=by
 obtain ⟨al,cl,rfl,hl1,hl2⟩:=h.row.shape
 have hlen : ls.length ≤ 9223372036854775807:=Nat.le_trans hl1 hl2
 by_cases hf : ls.length ≤ 100
 ·
  have d1 : decide (100 < (ls.length : Int)) = false:=by simp;omega
  have HL:=hid h;have Hf:=hid hf
  clear h hf
  obtain ⟨wA,hwA⟩ : ∃ wA,wA = (w.alloc (.cells #[.slice none 0 0,.slice none 0 0] 142)).alloc (.map #[] 0):=⟨_,rfl⟩
  have hI0 : zbG w wA (.slice none 0 0) [] ls 0:=by
   rw [hwA]
   refine ⟨(zba).alloc (by simp) _,zh (za rfl),z8.nil _ _,?_,fun n => by simp,by simp,fun x hx => by simp at hx,by simp [zM],by simp [zM],by simp⟩
   have:=zcc (w.alloc (.cells #[.slice none 0 0,.slice none 0 0] 142)) Value.string
   rwa [zy] at this
  have HI0:=hid hI0
  clear hI0
  have hmm:=@run_makeMap Tryz.prog
  go_enter Tryz.func73,Tryz.ntmps73
  go_wp2_with fail
  rw [← hwA]
  clear hwA
  go_loopg [20] ls.length (fun gk i wr => ∃ (k : Nat) (vi : Value) (m : List (ByteArray × Value)),k ≤ ls.length ∧ gk = ls.length - k ∧ i = .int .i64 k ∧ zbG w wr vi m ls k)
  case atStart => exact ⟨0,_,[],znz _,rfl,rfl,HI0.out⟩
  case round =>
   obtain ⟨k,vi,m,hk,rfl,rfl,hI⟩:=hrel
   obtain ⟨wo,rfl⟩ : ∃ y,y = wr:=⟨_,rfl⟩
   by_cases hlt : k < ls.length
   ·
    have hLo:=HL.out.below hI.below
    obtain ⟨g,rfl,hg,_⟩:=hLo.row.at (by omega)
    obtain ⟨c0,c1,c2,c3,c4,c5,c6⟩:=hLo.cells hlt
    have hin:=hLo.ins _ (List.getElem_mem hlt)
    have hmem:=List.getElem_mem hlt
    obtain ⟨x,hx⟩ : ∃ x,x = ls[k]:=⟨_,rfl⟩
    rw [← hx] at c0 c1 c2 c3 c4 c5 c6 hin hmem
    obtain ⟨kd,nm,a,b,c,ot,rg,rv⟩:=x
    have hrg:=hin.rng
    simp only at c0 c1 c2 c3 c4 c5 c6 hrg
    obtain ⟨ar,cr,rfl,_,_⟩:=hrg.shape
    obtain ⟨wB,hwB⟩ : ∃ q,q = wo.alloc (.cells #[.int .i64 kd,.string nm,.int .i64 a,.int .i64 b,.int .i64 c,.string ot,.slice ar rg.length cr] 77):=⟨_,rfl⟩
    have hbB : Below wo.heap.size wo wB:=by rw [hwB];exact zba
    have hkB : wB.heap[wo.heap.size]? = some (.cells #[.int .i64 kd,.string nm,.int .i64 a,.int .i64 b,.int .i64 c,.string ot,.slice ar rg.length cr] 77 (0,0)):=by rw [hwB];exact za rfl
    have hszB : wB.heap.size = wo.heap.size + 1:=by rw [hwB,zy]
    obtain ⟨its,hits⟩ : ∃ its,its = zM (ls.take k):=⟨_,rfl⟩
    have hIi:=hI.its
    have hfewi:=hI.few
    rw [← hits] at hIi hfewi
    obtain ⟨ai,ci,rfl,_,_⟩:=zo.shape hIi
    have Hits:=hid hits;have HIi:=hid (show ∀ w',Below wo.heap.size wo w' → z8 w' (w.heap.size + 2) (.slice ai its.length ci) its from fun w' hw => hIi.below hw)
    clear hits
    have HX:=hid (show ∀ w',Below wB.heap.size wB w' → zbG w w' (.slice ai its.length ci) m ls k ∧ w'.heap[wo.heap.size]? = some (.cells #[.int .i64 kd,.string nm,.int .i64 a,.int .i64 b,.int .i64 c,.string ot,.slice ar rg.length cr] 77 (0,0)) from fun w' hw => ⟨(hI.mono hbB).mono hw,(hw.block _ (zlb hkB)).trans hkB⟩)
    obtain ⟨k0,k1,k2,k3,k4,k5,k6⟩:=kz hkB
    have hbi : ∀ q,(Value.slice ai its.length ci).ownBlock = some q → w.heap.size + 2 ≤ q ∧ q < wo.heap.size:=fun q hq => zo.lt hIi hq
    have hso:=hI.size
    have HC:=hid (zlO _ wB (hin.below hbB) hin.sz1 hin.sz2)
    have HIo:=hid hI;have HszB:=hid hszB;have Hx:=hid hx;have Hmem:=hid hmem;have Hbi:=hid hbi;have Hso:=hid hso
    clear hbB hkB hszB hI hin hrg hx hmem hbi hLo hso hIi
    obtain ⟨E,hE⟩ : ∃ E,E = zX ⟨kd,nm,a,b,c,ot,rg,.slice ar rg.length cr⟩:=⟨_,rfl⟩
    rw [← hE] at HC
    have HE:=hid hE
    clear hE
    go_upto_region 8 with fail
    rw [← hwB]
    clear hwB
    go_wp2_with fail
    unfold zT at HC
    refine HC.out.mono ?_
    rintro e w5 ⟨rfl,hb5⟩
    obtain ⟨hI5,hk5⟩:=HX.out _ hb5
    have hs5:=hb5.size
    clear k0 k1 k2 k3 k4 k5 k6 HC HX
    obtain ⟨k0,k1,k2,k3,k4,k5,k6⟩:=kz hk5
    have Hs5:=hid hs5
    have HI5:=hid hI5;have Hk5:=hid hk5
    clear hI5 hk5 hb5 hs5
    by_cases hE0 : E = 0
    ·
     subst hE0
     by_cases hk1 : kd = 1
     ·
      subst hk1
      have hmap:=HI5.out.map
      have Hmap:=hid hmap;clear hmap
      have hpm : ∀ ob,Below w.heap.size w5 (zF w5 (w.heap.size + 1) ob) ∧ (zF w5 (w.heap.size + 1) ob).heap[w.heap.size]? = some (.cells #[.slice none 0 0,.slice ai its.length ci] 142 (0,0)) ∧ (zF w5 (w.heap.size + 1) ob).heap[wo.heap.size]? = some (.cells #[.int .i64 1,.string nm,.int .i64 a,.int .i64 b,.int .i64 c,.string ot,.slice ar rg.length cr] 77 (0,0)) ∧ z8 (zF w5 (w.heap.size + 1) ob) (w.heap.size + 2) (.slice ai its.length ci) its ∧ (zF w5 (w.heap.size + 1) ob).heap.size = w5.heap.size:=fun ob => by
       have hso:=Hso.out;have hsB:=HszB.out;have hs5:=Hs5.out
       have hoth:=fun q (h : q ≠ w.heap.size + 1) => yZ (w:=w5) (b:=w.heap.size + 1) ob h
       have h9:=HI5.out.its
       rw [← Hits.out] at h9
       exact ⟨zgD ob (by omega),(hoth w.heap.size (by omega)).trans HI5.out.box,(hoth wo.heap.size (by omega)).trans Hk5.out,zo.keep h9 (fun q hq => hoth q (by have:=Hbi.out q hq;omega)),by simp [zF]⟩
      have Hpm:=hid hpm;clear hpm
      go_upto_block 2 with (at_mapUpdate;refine yu rfl (.tmp 34) (.tmp 36) (.const (.bool true)) 217 rfl (kt:=9) (et:=4) (enc:=Value.string) (zrj zjW) zaB (b:=w.heap.size + 1) rfl (l:=m) Hmap.out (k:=nm) rfl (.bool true) rfl ?_;intro ob hob;have Hob:=hid hob;clear hob;obtain ⟨hsb,hbx6,hk6,hit6,hsz6⟩:=Hpm.out ob;generalize zF w5 (w.heap.size + 1) ob = w6 at Hob hsb hbx6 hk6 hit6 hsz6 ⊢;have Hsb:=hid hsb;have Hbx6:=hid hbx6;have Hk6:=hid hk6;have Hit6:=hid hit6;have Hsz6:=hid hsz6;clear hsb hbx6 hsz6 hit6;obtain ⟨k0,k1,k2,k3,k4,k5,k6⟩:=kz hk6;clear hk6)
      dsimp only [Act.put]
      go_cut [8] from 37 to 56 (fun ev wx => ∃ E2 : Int,ev = .int .i64 E2 ∧ Below w6.heap.size w6 wx ∧ ((E2 = 0 ∧ (nm,a,b,c) ∉ its ∧ its.length ≠ 24 ∧ (zW m nm (.bool true)).length ≤ 8) ∨ (E2 ≠ 0 ∧ ¬ jW ls)))
      case first =>
       have HNU:=hid (zdW w.heap.size (w.heap.size + 2) _ _ its nm a b c w6 Hbx6.out Hit6.out)
       obtain ⟨NU,hNU⟩ : ∃ NU,NU = kP its (nm,a,b,c):=⟨_,rfl⟩
       rw [← hNU] at HNU
       have hcs:=zcQ its (nm,a,b,c)
       rw [← hNU] at hcs
       have Hcs:=hid hcs
       clear hNU hcs
       go_wp2_with fail
       refine HNU.out.mono ?_
       rintro e w7 ⟨rfl,hb7⟩
       have Hm7:=hid (Hob.out.qc (hb7.block _ Hob.out.lt))
       obtain ⟨p0,p1,p2,p3⟩:=ko ((hb7.block _ (zlb Hbx6.out)).trans Hbx6.out)
       have Hb7:=hid hb7
       clear hb7 HNU k0 k1 k2 k3 k4 k5 k6
       rcases Hcs.out with ⟨hin,h0,h1⟩ | ⟨hout,rfl⟩
       ·
        have hno:=zpg hlt (by rw [← Hx.out]) (by rw [← Hx.out,← Hits.out];exact hin)
        have Hno:=hid hno;clear hno hin
        go_wp2_with fail
        go_meet
        exact ⟨9,rfl,Hb7.out,.inr ⟨by decide,Hno.out⟩⟩
       ·
        have Hout:=hid hout;clear hout
        obtain ⟨LN,hLN⟩ : ∃ LN,LN = (zW m nm (Value.bool true)).length:=⟨_,rfl⟩
        have HLN:=hid hLN;clear hLN
        by_cases h8 : 8 < LN
        ·
         have t8 : decide (8 < (LN : Int)) = true:=by simp;omega
         have hno:=zoh (l:=(zW m nm (Value.bool true)).map (·.1)) Hob.out.nodup (fun n hn => by
          obtain ⟨x,hx,h3⟩:=(HI5.out.ziy hlt (by rw [← Hx.out]) (.bool true) n).1 (by rw [← Hx.out];exact hn)
          exact ⟨x,List.mem_of_mem_take hx,h3⟩) (by rw [List.length_map,← HLN.out];exact h8)
         have Hno:=hid hno;clear hno
         go_wp2_with (at_len;refine zb0 rfl (.tmp 46) 217 rfl (kt:=9) (et:=4) (enc:=Value.string) zaB (b:=w.heap.size + 1) rfl (l:=zW m nm (.bool true)) Hm7.out ?_;rw [← HLN.out])
         go_meet
         exact ⟨4,rfl,Hb7.out,.inr ⟨by decide,Hno.out⟩⟩
        ·
         have t8 : decide (8 < (LN : Int)) = false:=by simp;omega
         have H8:=hid h8;clear h8
         by_cases h24 : its.length = 24
         ·
          have t24 : ((its.length : Int) == 24) = true:=by rw [beq_iff_eq];omega
          have hno:=zpB hlt (by rw [← Hx.out]) (by rw [← Hits.out];exact h24)
          have Hno:=hid hno;have H24:=hid h24;clear hno h24
          go_wp2_with (at_len;refine zb0 rfl (.tmp 46) 217 rfl (kt:=9) (et:=4) (enc:=Value.string) zaB (b:=w.heap.size + 1) rfl (l:=zW m nm (.bool true)) Hm7.out ?_;rw [← HLN.out])
          go_meet
          exact ⟨4,rfl,Hb7.out,.inr ⟨by decide,Hno.out⟩⟩
         ·
          have t24 : ((its.length : Int) == 24) = false:=by rw [beq_eq_false_iff_ne];omega
          have H24:=hid h24;clear h24
          go_wp2_with (at_len;refine zb0 rfl (.tmp 46) 217 rfl (kt:=9) (et:=4) (enc:=Value.string) zaB (b:=w.heap.size + 1) rfl (l:=zW m nm (.bool true)) Hm7.out ?_;rw [← HLN.out])
          go_meet
          exact ⟨0,rfl,Hb7.out,.inl ⟨rfl,Hout.out,H24.out,by rw [← HLN.out];have:=H8.out;omega⟩⟩
      case rest =>
       obtain ⟨E2,rfl,hb7,hE2⟩:=hcut
       obtain ⟨w7,rfl⟩ : ∃ y,y = wc:=⟨_,rfl⟩
       have Hbx7:=hid ((hb7.block _ (zlb Hbx6.out)).trans Hbx6.out);have Hk7:=hid ((hb7.block _ (zlb Hk6.out)).trans Hk6.out);have Hit7:=hid (z8.below Hit6.out hb7);have Hm7:=hid (Hob.out.qc (hb7.block _ Hob.out.lt))
       have h7s:=hb7.size
       have HB7:=hid (HI5.out.below.trans (Hsb.out.trans (hb7.mono (by have:=HI5.out.size;have:=Hsz6.out;omega))))
       have H7s:=hid (show wo.heap.size + 1 ≤ w7.heap.size by have:=Hs5.out;have:=HszB.out;have:=Hsz6.out;omega)
       have HE2:=hid hE2
       clear hb7 Hbx6 Hk6 Hit6 h7s k0 k1 k2 k3 k4 k5 k6 hE2
       obtain ⟨k0,k1,k2,k3,k4,k5,k6⟩:=kz Hk7.out
       obtain ⟨p0,p1,p2,p3⟩:=ko Hbx7.out
       have hbf:=zlb Hbx7.out
       obtain ⟨i0,hi0,hz0,hz1,hz2⟩:=info_parts zio
       have Hi0:=hid hi0;have Hz0:=hid hz0;have Hz1:=hid hz1;have Hz2:=hid hz2
       clear hi0 hz0 hz1 hz2
       have hs7:=H7s.out
       have hsoo:=Hso.out
       go_wp2_with fail
       go_region_law ((refine zgr (W:=w7.drew) (by rfl) _ _ 94 90 4 40 yj yO (nm,a,b,c) (zbU _) (by rfl) i0 _ zbJ Hi0.out Hz0.out Hz1.out Hz2.out rfl (by decide) (by decide) (w.heap.size + 2) _ its rfl (z8.below Hit7.out ((Below.refl w7.heap.size w7).drew)) _ rfl _ rfl (by rfl) (by omega) (by show w.heap.size + 2 ≤ w7.heap.size;omega) ?_;intro g9 c9 w9 ho9 hb9 hk9 hg9 hd9;have hbx9:=(hk9 w.heap.size (by show w.heap.size < w7.heap.size;omega) (fun q => by have:=Hbi.out _ q;omega)).trans Hbx7.out;have hm9:=Hm7.out.qc (hk9 (w.heap.size + 1) (by show w.heap.size + 1 < w7.heap.size;omega) (fun q => by have:=Hbi.out _ q;omega));have q1:=(ko hbx9).2.1;have q3:=(ko hbx9).2.2.2;have q4:=zlb hbx9;have Ho9:=hid ho9;have Hb9:=hid hb9;have Hbx9:=hid hbx9;have Hm9:=hid hm9;have Hg9:=hid hg9;clear ho9 hb9 hk9 hbx9 hm9 hg9 hd9))
       all_goals
        have hs9 : w7.heap.size ≤ w9.heap.size:=Hb9.out.size
        have hB9:=HB7.out.trans (((Below.refl w7.heap.size w7).drew.mono (show w.heap.size ≤ w7.heap.size by omega)).trans (Hb9.out.mono (by omega)))
        have hB9s:=hB9.setCell (p:=⟨w.heap.size,1,none⟩) (znr _) (.slice (some ⟨g9,0,none⟩) (its.length + 1) c9)
        have HB9s:=hid hB9s
        clear hB9 hB9s
        have hnew:=znO Hbx9.out (.slice (some ⟨g9,0,none⟩) (its.length + 1) c9)
        have hit9 : z8 (w9.setCell ⟨w.heap.size,1,none⟩ (.slice (some ⟨g9,0,none⟩) (its.length + 1) c9)) (w.heap.size + 2) (.slice (some ⟨g9,0,none⟩) (its.length + 1) c9) (its ++ [(nm,a,b,c)]):=zo.keep Ho9.out (fun q hq => zhc _ _ _ _ (by cases hq;have:=Hg9.out;show g9 ≠ w.heap.size;omega))
        have hm99 : MapOf (w9.setCell ⟨w.heap.size,1,none⟩ (.slice (some ⟨g9,0,none⟩) (its.length + 1) c9)) (w.heap.size + 1) Value.string (zW m nm (.bool true)):=Hm9.out.qc (zhc _ _ _ _ (by show w.heap.size + 1 ≠ w.heap.size;omega))
        have Hnew:=hid hnew;have Hit9:=hid hit9;have Hm99:=hid hm99
        clear hnew hit9 hm99 q1 q3 q4 p0 p1 p2 p3 k0 k1 k2 k3 k4 k5 k6
        rcases HE2.out with ⟨rfl,hout,h24,h8⟩ | ⟨hne,hno⟩
        ·
         have Hout:=hid hout;have H24:=hid h24;have H8:=hid h8;clear hout h24 h8
         go_wp2_with fail
         go_roundg (ls.length - (k + 1))
         case measure => omega
         case rel => exact ⟨k + 1,_,zW m nm (.bool true),by omega,rfl,by go_num,(by have h9:=HI5.out.put hlt (by rw [← Hx.out]) (by rw [← Hx.out];exact HE.out.symm) (by rw [← Hx.out,← Hits.out];exact Hout.out) (by rw [← Hits.out];exact H24.out) (.bool true) (by rw [← Hx.out];exact H8.out) HB9s.out Hnew.out (by rw [← Hits.out,← Hx.out];exact Hit9.out) (by rw [← Hx.out];exact Hm99.out) (by simp;omega);rw [← Hx.out] at h9;exact h9)⟩
        ·
         have Hno:=hid hno;clear hno
         have te : (E2 != 0) = true:=by rw [bne_iff_ne];exact hne
         clear hne
         go_wp2_with fail
         go_ret2
         refine ⟨.inr ⟨_,rfl,Hno.out,.inr ⟨_,E2,k,rfl,za (by simp),by omega,by omega⟩⟩,HB9s.out.alloc (by simp;omega) _⟩
     ·
      have t1 : (kd == 1) = false:=by rw [beq_eq_false_iff_ne];exact hk1
      have Hk1:=hid hk1;clear hk1
      go_wp2_with fail
      go_roundg (ls.length - (k + 1))
      case measure => omega
      case rel => exact ⟨k + 1,_,m,by omega,rfl,by go_num,HI5.out.skip hlt (by rw [← Hx.out];exact Hk1.out) (by rw [← Hx.out];exact HE.out.symm)⟩
    ·
     have t0 : (E == 0) = false:=by rw [beq_eq_false_iff_ne];exact hE0
     have t0' : (E != 0) = true:=by rw [bne_iff_ne];exact hE0
     have HE0:=hid hE0;clear hE0
     have hno:=zny Hmem.out (by rw [← HE.out];exact HE0.out)
     have Hno:=hid hno;clear hno
     by_cases hk1 : kd = 1
     ·
      subst hk1
      go_wp2_with fail
      go_ret2
      refine ⟨.inr ⟨_,rfl,Hno.out,.inr ⟨w5.heap.size,E,k,rfl,za rfl,by omega,by omega⟩⟩,HI5.out.below.alloc (HI5.out.below.size) _⟩
     ·
      have t1 : (kd == 1) = false:=by rw [beq_eq_false_iff_ne];exact hk1
      clear hk1
      go_wp2_with fail
      go_ret2
      refine ⟨.inr ⟨_,rfl,Hno.out,.inr ⟨w5.heap.size,E,k,rfl,za rfl,by omega,by omega⟩⟩,HI5.out.below.alloc (HI5.out.below.size) _⟩
   ·
    obtain rfl : k = ls.length:=by omega
    have HI:=hid hI
    clear hI hmm hlt
    go_wp2_with fail
    go_loopg [81] ls.length (fun gk i wr => ∃ (k : Nat),k ≤ ls.length ∧ gk = ls.length - k ∧ i = .int .i64 k ∧ zbG w wr vi m ls ls.length ∧ ∀ x ∈ ls.take k,x.kind = 2 ∨ x.kind = 3 → x.item ∈ zM ls)
    case atStart => exact ⟨0,znz _,rfl,rfl,HI.out,fun x hx => by simp at hx⟩
    case round =>
     obtain ⟨k,hk,rfl,rfl,hI,hth⟩:=hrel
     obtain ⟨wo,rfl⟩ : ∃ y,y = wr:=⟨_,rfl⟩
     by_cases hlt : k < ls.length
     ·
      have hLo:=HL.out.below hI.below
      obtain ⟨g,rfl,hg,_⟩:=hLo.row.at (by omega)
      obtain ⟨c0,c1,c2,c3,c4,c5,c6⟩:=hLo.cells hlt
      have hin:=hLo.ins _ (List.getElem_mem hlt)
      have hmem:=List.getElem_mem hlt
      obtain ⟨x,hx⟩ : ∃ x,x = ls[k]:=⟨_,rfl⟩
      rw [← hx] at c0 c1 c2 c3 c4 c5 c6 hin hmem
      obtain ⟨kd,nm,a,b,c,ot,rg,rv⟩:=x
      have hrg:=hin.rng
      simp only at c0 c1 c2 c3 c4 c5 c6 hrg
      obtain ⟨ar,cr,rfl,_,_⟩:=hrg.shape
      obtain ⟨wB,hwB⟩ : ∃ q,q = wo.alloc (.cells #[.int .i64 kd,.string nm,.int .i64 a,.int .i64 b,.int .i64 c,.string ot,.slice ar rg.length cr] 77):=⟨_,rfl⟩
      have hbB : Below wo.heap.size wo wB:=by rw [hwB];exact zba
      have hkB : wB.heap[wo.heap.size]? = some (.cells #[.int .i64 kd,.string nm,.int .i64 a,.int .i64 b,.int .i64 c,.string ot,.slice ar rg.length cr] 77 (0,0)):=by rw [hwB];exact za rfl
      obtain ⟨k0,k1,k2,k3,k4,k5,k6⟩:=kz hkB
      have hIB:=hI.mono hbB
      have hsu : ls.take (k + 1) = ls.take k ++ [ls[k]]:=List.take_succ_eq_append_getElem hlt
      rw [← hx] at hsu
      have hits:=hIB.its
      rw [List.take_length] at hits
      have HNU:=hid (zdW w.heap.size (w.heap.size + 2) _ _ _ nm a b c wB hIB.box hits)
      obtain ⟨NU,hNU⟩ : ∃ NU,NU = kP (zM ls) (nm,a,b,c):=⟨_,rfl⟩
      rw [← hNU] at HNU
      have hcs:=zcQ (zM ls) (nm,a,b,c)
      rw [← hNU] at hcs
      have Hcs:=hid hcs;have HIB:=hid hIB;have Hsu:=hid hsu;have Hth:=hid hth;have Hx:=hid hx;have Hmem:=hid hmem
      clear hI hLo hin hmem hx hrg hbB hkB hIB hsu hits hNU hcs hth
      by_cases hk23 : kd = 2 ∨ kd = 3
      ·
       have Hk23:=hid hk23
       rcases Hcs.out with ⟨hin,h0,h1⟩ | ⟨hout,rfl⟩
       ·
        have Hin:=hid hin;clear hin
        rcases hk23 with rfl | rfl
        all_goals
         go_upto_region 22 with fail
         rw [← hwB]
         clear hwB
         go_wp2_with fail
         refine HNU.out.mono ?_
         rintro e w5 ⟨rfl,hb5⟩
         have HI5:=hid (HIB.out.mono hb5)
         clear hb5 HNU k0 k1 k2 k3 k4 k5 k6
         go_wp2_with fail
         go_roundg (ls.length - (k + 1))
         case measure => omega
         case rel => exact ⟨k + 1,by omega,rfl,by go_num,HI5.out,fun x hx hq => by
          rw [Hsu.out] at hx
          rcases List.mem_append.1 hx with q | q
          · exact Hth.out x q hq
          · rw [List.mem_singleton.1 q];exact Hin.out⟩
       ·
        have Hout:=hid hout;clear hout
        rcases hk23 with rfl | rfl
        all_goals
         go_upto_region 22 with fail
         rw [← hwB]
         clear hwB
         go_wp2_with fail
         refine HNU.out.mono ?_
         rintro e w5 ⟨rfl,hb5⟩
         have HI5:=hid (HIB.out.mono hb5)
         clear hb5 HNU k0 k1 k2 k3 k4 k5 k6
         go_wp2_with fail
         go_ret2
         refine ⟨.inr ⟨_,rfl,zoH Hmem.out (by first | exact .inl rfl | exact .inr rfl) Hout.out,.inr ⟨_,7,k,rfl,za rfl,by omega,by omega⟩⟩,HI5.out.below.alloc HI5.out.below.size _⟩
      ·
       have t2 : (kd == 2) = false:=by rw [beq_eq_false_iff_ne];omega
       have t3 : (kd == 3) = false:=by rw [beq_eq_false_iff_ne];omega
       have Hk23:=hid hk23;clear hk23
       go_upto_region 22 with fail
       rw [← hwB]
       clear hwB
       go_wp2_with fail
       go_roundg (ls.length - (k + 1))
       case measure => omega
       case rel => exact ⟨k + 1,by omega,rfl,by go_num,HIB.out,fun x hx hq => by
        rw [Hsu.out] at hx
        rcases List.mem_append.1 hx with q | q
        · exact Hth.out x q hq
        · rw [List.mem_singleton.1 q] at hq;exact absurd hq Hk23.out⟩
     ·
      obtain rfl : k = ls.length:=by omega
      rw [List.take_length] at hth
      have hok:=hI.all Hf.out hth
      have hits:=hI.its
      rw [List.take_length] at hits
      obtain ⟨ai,ci,rfl,_,_⟩:=zo.shape hits
      obtain ⟨p0,p1,p2,p3⟩:=ko hI.box
      have HS:=hid (zmA (w.heap.size + 2) ai ci (zM ls) wo hits (by have:=hok.most;omega))
      have Hok:=hid hok;have HIl:=hid hI
      clear hok hits hI hth hlt
      go_wp2_with fail
      refine HS.out.mono ?_
      rintro e w3 ⟨its,rfl,hit3,hper,hord,hb3⟩
      have hbx3:=(hb3.block w.heap.size (by omega)).trans HIl.out.box
      have hB3:=HIl.out.below.trans (hb3.mono (by omega))
      have hone : ∀ u ∈ xP zT ls,u.oneCell' = true:=fun u hu => by
       unfold xP at hu
       obtain ⟨x,hx,hu⟩:=List.mem_flatMap.1 hu
       exact zbN (HL.out.ins x hx) u hu
      have HC:=hid (zcF base _ ls w3 (HL.out.below hB3).row hone (by have:=Hf.out;omega))
      have hlen3 : its.length = (zM ls).length:=hper.length_eq
      have Hbx3:=hid hbx3;have HB3:=hid hB3;have Hit3:=hid hit3;have Hper:=hid hper;have Hord:=hid hord;have Hlen3:=hid hlen3
      obtain ⟨q0,q1,q2,q3⟩:=ko hbx3
      have hpl3:=zlb hbx3
      have Hs3:=hid hb3.size
      clear hb3 hbx3 hB3 hit3 hper hord hlen3 hone HS p0 p1 p2 p3
      go_wp2_with fail
      refine HC.out.mono ?_
      rintro e w4 ⟨⟨v4,rfl,hr4⟩,hb4⟩
      obtain ⟨a4,c4,rfl,_,_⟩:=hr4.shape
      have hbx4:=(hb4.block _ (zlb Hbx3.out)).trans Hbx3.out
      obtain ⟨r0,r1,r2,r3⟩:=ko hbx4
      have hpl4:=zlb hbx4
      have hnew:=zpi hbx4 (.slice a4 ls.length c4)
      have hB4:=(HB3.out.trans (hb4.mono HB3.out.size)).setCell (p:=⟨w.heap.size,0,none⟩) (znr _) (.slice a4 ls.length c4)
      have hr5 : zo (w4.setCell ⟨w.heap.size,0,none⟩ (.slice a4 ls.length c4)) 0 77 7 zT (.slice a4 ls.length c4) ls:=(hr4.less (znz _)).keep (fun q hq => zhc _ _ _ _ (by have:=(zo.lt hr4 hq).1;have:=Hs3.out;have:=HIl.out.size;show q ≠ w.heap.size;omega))
      have hit5 : z8 (w4.setCell ⟨w.heap.size,0,none⟩ (.slice a4 ls.length c4)) 0 (.slice ai (zM ls).length ci) its:=(zo.less (z8.below Hit3.out hb4) (znz _)).keep (fun q hq => zhc _ _ _ _ (by have:=(zo.lt Hit3.out hq).1;show q ≠ w.heap.size;omega))
      have Hnew:=hid hnew;have HB4:=hid hB4;have Hr5:=hid hr5;have Hit5:=hid hit5
      clear hr4 hb4 hbx4 hnew hB4 hr5 hit5 HC q0 q1 q2 q3 hpl3
      go_wp2_with fail
      go_ret2
      have hnd : its.Nodup:=Hper.out.nodup_iff.2 Hok.out.twice
      have hor : its.Pairwise ji:=by
       rw [List.pairwise_iff_getElem]
       intro i j h1 h2 h3
       rcases zcN its[i] its[j] with q | q | q
       · exact q
       · exact absurd q (List.pairwise_iff_getElem.1 hnd i j h1 h2 h3)
       · exact absurd q (List.pairwise_iff_getElem.1 Hord.out i j h1 h2 h3)
      exact ⟨.inl ⟨w.heap.size,its,rfl,⟨⟨Hok.out,Hper.out,hor,fun x hx => (HL.out.ins x hx).can⟩,_,_,Hnew.out,⟨Hr5.out,fun x hx => (HL.out.ins x hx).below HB4.out⟩,Hit5.out⟩,znr _⟩,HB4.out⟩
 ·
  have d1 : decide (100 < (ls.length : Int)) = true:=by simp;omega
  have Hf:=hid (show 100 < ls.length by omega)
  clear h hf
  go_enter Tryz.func73,Tryz.ntmps73
  go_wp2_with fail
  go_ret2
  exact ⟨.inr ⟨_,rfl,zqK Hf.out,.inl ⟨4,rfl⟩⟩,Below.refl _ _⟩
