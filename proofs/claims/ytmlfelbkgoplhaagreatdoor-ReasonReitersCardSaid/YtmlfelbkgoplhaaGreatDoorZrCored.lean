import Derived.Test.YtmlfelbkgoplhaaGreatDoorZrPkU
import Derived.Test.YtmlfelbkgoplhaaGreatDoorZrListM
set_option linter.unusedVariables false
set_option linter.unusedSimpArgs false
namespace Go.Proofs.YtmlfelbkgoplhaaGreatDoor
open Go.RowKit
def ld1 : zi:=⟨1,aT,1,0,0,⟨#[]⟩,[],.slice none 0 0⟩
def ld2 : zi:=⟨4,aT,0,0,0,⟨#[]⟩,[(0,zV)],.slice none 0 0⟩
def ld3 : zi:=⟨3,aT,1,0,0,aT,[(0,zV)],.slice none 0 0⟩
def lsD : List zi:=[ld1,ld2,ld3]
def itD : List zA:=[(aT,1,0,0)]
def zjS : ByteArray:=⟨#[112,97,99,107,97,103,101,32,97,32,49,46,48,46,48,10,114,111,111,116,32,97,32,97,110,121,10,99,108,97,115,104,101,115,32,97,32,49,46,48,46,48,32,97,32,97,110,121,10]⟩
theorem zp1 : zjS = zR (zqb lsD):=by kernel_rfl
theorem zmd : ∀ x ∈ lsD,zfX x:=by
 intro x hx
 apply zik.1
 simp only [lsD,List.mem_cons,List.not_mem_nil,or_false] at hx
 rcases hx with rfl | rfl | rfl
 · decide
 · decide
 · decide
theorem zov : ∀ x ∈ lsD,Canon x.range ∧ (za5 x.range).length ≤ 1000:=by
 intro x hx
 simp only [lsD,List.mem_cons,List.not_mem_nil,or_false] at hx
 rcases hx with rfl | rfl | rfl
 · exact ⟨Canon.nil,by decide⟩
 · exact ⟨Canon.any,by decide⟩
 · exact ⟨Canon.any,by decide⟩
theorem zpU : qE zjS lsD:=by
 rw [zp1]
 exact zfm (fun x hx => ⟨zmd x hx,(zov x hx).1,(zov x hx).2⟩)
theorem zkU : zO lsD = itD:=rfl
theorem newD : kM lsD:=by
 refine ⟨by decide,fun x hx => zik.2 (zmd x hx),by rw [zkU];simp [itD],fun l hl hn => ?_,by decide,fun x hx hk => ?_⟩
 ·
  have h : ∀ n ∈ l,n ∈ [aT]:=fun n hn' => by
   obtain ⟨x,hx,hk,rfl⟩:=hn n hn'
   simp only [lsD,List.mem_cons,List.not_mem_nil,or_false] at hx
   rcases hx with rfl | rfl | rfl
   · simp [ld1]
   · simp [ld2]
   · simp [ld3]
  have:=zbr hl h
  simp at this
  omega
 ·
  simp only [lsD,List.mem_cons,List.not_mem_nil,or_false] at hx
  rcases hx with rfl | rfl | rfl
  · simp [ld1] at hk
  · simp [ld2] at hk
  · rw [zkU];simp [ld3,zi.item,itD]
theorem catD {ls : List zi} {items : List zA} (h : qE zjS ls) (hc : zda ls items) : xO zi.same ls lsD ∧ items = itD:=by
 have hs:=qE.one h zpU
 have hi:=zar hs
 rw [zkU] at hi
 have hp:=hc.perm
 rw [hi] at hp
 exact ⟨hs,List.perm_singleton.1 hp⟩
def rcD : List (Int × List Int):=[(1,[1]),(2,[-1,-1])]
theorem zrH {ls : List zi} (h : xO zi.same ls lsD) : zH ls itD = rcD:=by
 rw [zk5 h]
 kernel_rfl
theorem zo2 (v : Nat) : ¬ (clB v [1] = true ∧ clB v [-1,-1] = true):=by
 unfold clB
 simp [zaH]
theorem satD {S : Nat → Bool} : zaK rcD S ↔ ¬ (S 1 = true ∧ S 2 = true):=by
 have hm : ∀ c,c ∈ xS rcD (jw 100 S) ↔ (S 1 = true ∧ c = [1]) ∨ (S 2 = true ∧ c = [-1,-1]):=fun c => by
  rw [zci]
  constructor
  ·
   rintro ⟨p,hp,hw,rfl⟩
   simp only [rcD,List.mem_cons,List.not_mem_nil,or_false] at hp
   rcases hp with rfl | rfl
   ·
    rw [zbZ (by decide) (by decide)] at hw
    exact .inl ⟨by simpa using hw,rfl⟩
   ·
    rw [zbZ (by decide) (by decide)] at hw
    exact .inr ⟨by simpa using hw,rfl⟩
  ·
   rintro (⟨h,rfl⟩ | ⟨h,rfl⟩)
   · exact ⟨(1,[1]),by simp [rcD],by rw [zbZ (by decide) (by decide)];simpa using h,rfl⟩
   · exact ⟨(2,[-1,-1]),by simp [rcD],by rw [zbZ (by decide) (by decide)];simpa using h,rfl⟩
 constructor
 ·
  rintro ⟨v,hv⟩ ⟨h1,h2⟩
  exact zo2 v ⟨jf.1 hv _ ((hm _).2 (.inl ⟨h1,rfl⟩)),jf.1 hv _ ((hm _).2 (.inr ⟨h2,rfl⟩))⟩
 ·
  intro h
  cases h1 : S 1 with
  | true =>
   refine ⟨1,jf.2 fun c hc => ?_⟩
   rcases (hm c).1 hc with ⟨_,rfl⟩ | ⟨q,_⟩
   · decide
   · exact absurd ⟨h1,q⟩ h
  | false =>
   refine ⟨0,jf.2 fun c hc => ?_⟩
   rcases (hm c).1 hc with ⟨q,_⟩ | ⟨_,rfl⟩
   · rw [h1] at q;cases q
   · decide
theorem allD : ¬ SatL (q9 rcD):=by
 rintro ⟨v,hv⟩
 exact zo2 v ⟨jf.1 hv _ (by simp [q9,rcD]),jf.1 hv _ (by simp [q9,rcD])⟩
theorem coreD {out : List Nat} (h : zi7 rcD out) : out = [1,2]:=by
 have hno:=h.no
 rw [satD,Decidable.not_not,decide_eq_true_iff,decide_eq_true_iff] at hno
 have hall : ∀ x ∈ out,x = 1 ∨ x = 2:=fun x hx => by
  have h1:=h.yes x hx
  rw [satD,decide_eq_true_iff,decide_eq_true_iff] at h1
  rcases Decidable.em (x = 1) with q | q
  · exact .inl q
  · refine .inr (Decidable.byContradiction fun q2 => h1 ⟨⟨hno.1,fun e => q e.symm⟩,hno.2,fun e => q2 e.symm⟩)
 have hinc:=h.inc
 match out,hno,hall,hinc with
 | [],hno,_,_ => simp at hno
 | [x],hno,_,_ => simp at hno;omega
 | [x,y],hno,hall,hinc =>
  have hx:=hall x (by simp)
  have hy:=hall y (by simp)
  simp at hinc
  have e1 : x = 1:=by omega
  have e2 : y = 2:=by omega
  rw [e1,e2]
 | x :: y :: z :: r,_,hall,hinc =>
  have hx:=hall x (by simp)
  have hy:=hall y (by simp)
  have hz:=hall z (by simp)
  simp at hinc
  omega
set_option maxRecDepth 100000 in
set_option maxHeartbeats 8000000 in
theorem znY (w : World) (hL : xW w) (hT : zW w) : Calls Tryz.prog 38 #[] w fun e w' => e = .returned (.bool true) ∧ Below w.heap.size w w':=by
 have HP:=hid (zf5 zjS w (by decide) hL hT)
 clear hL hT
 unfold zjS at HP
 go_enter Tryz.func38,Tryz.ntmps38
 go_wp2_with fail
 refine HP.out.mono ?_
 rintro e w1 ⟨⟨p,ls,items,rfl,hcat,_,_,hls⟩ | ⟨er,rfl,_,hno⟩,hb1⟩
 ·
  obtain ⟨hok,vl,vi,hat⟩:=hcat
  obtain ⟨hsame,rfl⟩:=catD hls hok
  have hcore:=zoS p vl vi ls itD w1 hat hok (by decide)
  unfold zrr at hcore
  rw [zrH hsame] at hcore
  have HC:=hid hcore;have HB1:=hid hb1
  clear hat hok hsame hb1 HP hls hcore
  go_wp2_with fail
  refine HC.out.mono ?_
  rintro e w2 ⟨⟨a,c,out,rfl,hout,hok⟩ | ⟨rfl,h⟩ | ⟨rfl,h⟩,hb2⟩
  ·
   obtain rfl:=coreD hok
   have Hout:=hid hout;have HB2:=hid (HB1.out.trans (hb2.mono HB1.out.size))
   clear hout hb2 hok HC
   simp only [List.length_cons,List.length_nil,Nat.reduceAdd] at Hout ⊢
   go_wp2_with fail
   have hb4 : Below w2.heap.size w2 (w2.alloc (.cells #[.int .i64 1,.int .i64 2] 3)):=zba
   have hl4:=(zcl (xs:=[1,2]) rfl (show (w2.alloc (.cells #[.int .i64 1,.int .i64 2] 3)).heap[w2.heap.size]? = some (.cells #[.int .i64 1,.int .i64 2] 3 (0,0)) from za rfl) (by decide) 0 (znz _)).ints (by decide)
   refine (zi4 _ _ _ _ _ ((xI.below Hout.out hb4).ints (by decide)) hl4).mono ?_
   rintro e w5 ⟨rfl,hb5⟩
   have HB5:=hid (HB2.out.trans ((hb4.trans (hb5.mono hb4.size)).mono HB2.out.size))
   clear hb4 hl4 hb5
   rw [show ((List.map (fun k : Nat => (k : Int)) [1,2]) == [1,2]) = true from by decide]
   go_wp2_with fail
   go_ret
   exact ⟨rfl,HB5.out⟩
  · exact absurd h allD
  · exact absurd h (by decide)
 · exact absurd newD (hno lsD (by decide) zpU)
