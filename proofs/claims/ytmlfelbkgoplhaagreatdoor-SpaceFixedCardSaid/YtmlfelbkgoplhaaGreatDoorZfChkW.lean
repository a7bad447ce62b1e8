import Derived.Test.YtmlfelbkgoplhaaGreatDoorZfPkI
import Derived.Deep.RegionHeld3
set_option linter.unusedVariables false
set_option linter.unusedSimpArgs false
namespace Go.Proofs.YtmlfelbkgoplhaaGreatDoor
open Go.RowKit
theorem kz {w : World} {p : Nat} {a b c d e f g : Value} {T : TypeId} (h : w.heap[p]? = some (.cells #[a,b,c,d,e,f,g] T (0,0))) : w.cell? ⟨p,0,none⟩ = some a ∧ w.cell? ⟨p,1,none⟩ = some b ∧ w.cell? ⟨p,2,none⟩ = some c ∧ w.cell? ⟨p,3,none⟩ = some d ∧ w.cell? ⟨p,4,none⟩ = some e ∧ w.cell? ⟨p,5,none⟩ = some f ∧ w.cell? ⟨p,6,none⟩ = some g:=by
 refine ⟨?_,?_,?_,?_,?_,?_,?_⟩
 all_goals (rw [cell_of_row w p _ _ _ _ h];rfl)
theorem znF (a b c : Int) : zbE [(0,zU)] a b c = ze1 a b c:=by
 rw [Bool.eq_iff_iff,zh3]
 by_cases h : zcG a b c
 ·
  rw [zp1 h,decide_eq_true_iff,qG]
  have:=zhI h.a h.b h.c
  exact ⟨fun _ => h,fun _ => ⟨this.1,this.2⟩⟩
 ·
  constructor
  ·
   intro q
   exfalso
   unfold zbE inP at q
   simp only [Bool.and_eq_true,decide_eq_true_eq] at q
   exact h ⟨by omega,by omega,by omega⟩
  · exact fun q => absurd q h
theorem kU {s : ByteArray} : s.toList.isEmpty = true ↔ s = ByteArray.empty:=by
 rw [List.isEmpty_iff,ByteArray.toList_eq]
 constructor
 ·
  intro h
  exact ByteArray.ext (Array.toList_inj.1 h)
 · rintro rfl;rfl
theorem zb5 (nm ot : ByteArray) (a b c : Int) (rg : List Spn) (rv : Value) {N T E V : Bool} (hN : yP nm = N) (hT : ot.toList.isEmpty = T) (hE : decide (rg = []) = E) (hV : ze1 a b c = V) :
 zX ⟨1,nm,a,b,c,ot,rg,rv⟩ = if N then (if T then (if E then (if V then 0 else 2) else 1) else 1) else 5:=by
 subst hN hT hE hV
 unfold zX
 simp only
 have e:=@kU ot
 cases hN : yP nm <;> cases hT : ot.toList.isEmpty <;> by_cases hE : rg = [] <;> cases hV : ze1 a b c <;> simp_all
theorem jl (k : Int) (hk : k = 2 ∨ k = 3) (nm ot : ByteArray) (a b c : Int) (rg : List Spn) (rv : Value) {N O V : Bool} (hN : yP nm = N) (hO : yP ot = O) (hV : ze1 a b c = V) :
 zX ⟨k,nm,a,b,c,ot,rg,rv⟩ = if N then (if O then (if V then 0 else 2) else 5) else 5:=by
 subst hN hO hV
 unfold zX
 simp only
 rcases hk with rfl | rfl <;> cases hN : yP nm <;> cases hO : yP ot <;> cases hV : ze1 a b c <;> simp_all
theorem zdP (nm ot : ByteArray) (a b c : Int) (rg : List Spn) (rv : Value) {N T Z : Bool} (hN : yP nm = N) (hT : ot.toList.isEmpty = T) (hZ : zbk a b c 0 0 0 = Z) :
 zX ⟨4,nm,a,b,c,ot,rg,rv⟩ = if N then (if T then (if Z then 0 else 1) else 1) else 5:=by
 subst hN hT hZ
 unfold zX zbk
 simp only
 have e:=@kU ot
 cases hN : yP nm <;> cases hT : ot.toList.isEmpty <;> by_cases hZ : a = 0 ∧ b = 0 ∧ c = 0 <;> simp_all
set_option maxRecDepth 100000 in
set_option maxHeartbeats 16000000 in
theorem zlO (x : zm) (w : World) (h : zaq w x) (h1 : x.name.size ≤ 9223372036854775807) (h2 : x.other.size ≤ 9223372036854775807) :
 Calls Tryz.prog 123 #[.agg (zT x).toArray] w fun e w' => e = .returned (.int .i64 (zX x)) ∧ Below w.heap.size w w':=by
 obtain ⟨kd,nm,a,b,c,ot,rg,rv⟩:=x
 have hs:=h.rng
 simp only at hs h1 h2
 obtain ⟨ar,cr,rfl,_,_⟩:=hs.shape
 obtain ⟨W,hW⟩ : ∃ W,W = w.alloc (.cells #[.int .i64 kd,.string nm,.int .i64 a,.int .i64 b,.int .i64 c,.string ot,.slice ar rg.length cr] 77):=⟨_,rfl⟩
 have hal : Below w.heap.size w W:=by rw [hW];exact zba
 have hbx : W.heap[w.heap.size]? = some (.cells #[.int .i64 kd,.string nm,.int .i64 a,.int .i64 b,.int .i64 c,.string ot,.slice ar rg.length cr] 77 (0,0)):=by rw [hW];exact za rfl
 have HC:=hid (show ∀ w',Below W.heap.size W w' → w'.cell? ⟨w.heap.size,0,none⟩ = some (.int .i64 kd) ∧ w'.cell? ⟨w.heap.size,1,none⟩ = some (.string nm) ∧ w'.cell? ⟨w.heap.size,2,none⟩ = some (.int .i64 a) ∧ w'.cell? ⟨w.heap.size,3,none⟩ = some (.int .i64 b) ∧ w'.cell? ⟨w.heap.size,4,none⟩ = some (.int .i64 c) ∧ w'.cell? ⟨w.heap.size,5,none⟩ = some (.string ot) ∧ w'.cell? ⟨w.heap.size,6,none⟩ = some (.slice ar rg.length cr) from fun w' hw => kz ((hw.block _ (zlb hbx)).trans hbx))
 have HN:=hid (fun w' (N : Bool) (hN : yP nm = N) => hN ▸ zjj nm w' h1)
 have HO:=hid (fun w' (N : Bool) (hN : yP ot = N) => hN ▸ zjj ot w' h2)
 have HE:=hid (fun w' (hw : Below W.heap.size W w') (E : Bool) (hE : decide (rg = []) = E) => hE ▸ zmd _ rg w' ((hs.below hal).below hw))
 have HV:=hid (fun w' v (l : List Spn) (hl : l = [(0,zU)]) (V : Bool) (hV : ze1 a b c = V) (hv : yx w' v l) => zi0 v l a b c w' hv V (by rw [hl,znF];exact hV))
 have Hal:=hid hal
 have C0:=HC.out W (Below.refl _ _)
 clear h hs hal hbx h1 h2
 simp only [zT]
 by_cases hk1 : kd < 1
 ·
  have hc : zX ⟨kd,nm,a,b,c,ot,rg,.slice ar rg.length cr⟩ = 1:=by unfold zX;rw [if_pos (.inl hk1)]
  rw [hc];clear hc
  go_enter Tryz.func123,Tryz.ntmps123
  go_upto_region 1 with fail
  rw [← hW]
  clear hW
  obtain ⟨k0,k1,k2,k3,k4,k5,k6⟩:=C0
  go_wp2_with fail
  go_ret
  exact ⟨rfl,Hal.out⟩
 by_cases hk4 : 4 < kd
 ·
  have hc : zX ⟨kd,nm,a,b,c,ot,rg,.slice ar rg.length cr⟩ = 1:=by unfold zX;rw [if_pos (.inr hk4)]
  rw [hc];clear hc
  go_enter Tryz.func123,Tryz.ntmps123
  go_upto_region 1 with fail
  rw [← hW]
  clear hW
  obtain ⟨k0,k1,k2,k3,k4,k5,k6⟩:=C0
  go_wp2_with fail
  go_ret
  exact ⟨rfl,Hal.out⟩
 obtain rfl | rfl | rfl | rfl : kd = 1 ∨ kd = 2 ∨ kd = 3 ∨ kd = 4:=by omega
 ·
  cases hN : yP nm
  case false =>
   have hc : zX ⟨1,nm,a,b,c,ot,rg,.slice ar rg.length cr⟩ = 5:=zb5 nm ot a b c rg (.slice ar rg.length cr) (N:=false) (T:=_) (E:=_) (V:=_) hN rfl rfl rfl
   rw [hc];clear hc hk1 hk4
   go_enter Tryz.func123,Tryz.ntmps123
   go_upto_region 1 with fail
   rw [← hW]
   clear hW
   obtain ⟨k0,k1,k2,k3,k4,k5,k6⟩:=C0
   go_wp2_with fail
   refine (HN.out _ _ hN).mono ?_
   rintro e w1 ⟨rfl,hb1⟩
   have HB1:=hid hb1
   clear hb1 k0 k1 k2 k3 k4 k5 k6
   obtain ⟨k0,k1,k2,k3,k4,k5,k6⟩:=HC.out _ HB1.out
   go_wp2_with fail
   go_ret
   exact ⟨rfl,Hal.out.trans (HB1.out.mono Hal.out.size)⟩
  case true =>
   cases hT : ot.toList.isEmpty
   case false =>
    have hc : zX ⟨1,nm,a,b,c,ot,rg,.slice ar rg.length cr⟩ = 1:=zb5 nm ot a b c rg (.slice ar rg.length cr) (N:=true) (T:=false) (E:=_) (V:=_) hN hT rfl rfl
    rw [hc];clear hc hk1 hk4
    go_enter Tryz.func123,Tryz.ntmps123
    go_upto_region 1 with fail
    rw [← hW]
    clear hW
    obtain ⟨k0,k1,k2,k3,k4,k5,k6⟩:=C0
    go_wp2_with fail
    refine (HN.out _ _ hN).mono ?_
    rintro e w1 ⟨rfl,hb1⟩
    have HB1:=hid hb1
    clear hb1 k0 k1 k2 k3 k4 k5 k6
    obtain ⟨k0,k1,k2,k3,k4,k5,k6⟩:=HC.out _ HB1.out
    go_wp2_with fail
    go_ret
    exact ⟨rfl,Hal.out.trans (HB1.out.mono Hal.out.size)⟩
   case true =>
    cases hE : decide (rg = [])
    case false =>
     have hc : zX ⟨1,nm,a,b,c,ot,rg,.slice ar rg.length cr⟩ = 1:=zb5 nm ot a b c rg (.slice ar rg.length cr) (N:=true) (T:=true) (E:=false) (V:=_) hN hT hE rfl
     rw [hc];clear hc hk1 hk4
     go_enter Tryz.func123,Tryz.ntmps123
     go_upto_region 1 with fail
     rw [← hW]
     clear hW
     obtain ⟨k0,k1,k2,k3,k4,k5,k6⟩:=C0
     go_wp2_with fail
     refine (HN.out _ _ hN).mono ?_
     rintro e w1 ⟨rfl,hb1⟩
     have HB1:=hid hb1
     clear hb1 k0 k1 k2 k3 k4 k5 k6
     obtain ⟨k0,k1,k2,k3,k4,k5,k6⟩:=HC.out _ HB1.out
     go_wp2_with fail
     refine (HE.out _ HB1.out _ hE).mono ?_
     rintro e w2 ⟨rfl,hb2⟩
     have HB2:=hid (HB1.out.trans (hb2.mono HB1.out.size))
     clear hb2 k0 k1 k2 k3 k4 k5 k6
     obtain ⟨k0,k1,k2,k3,k4,k5,k6⟩:=HC.out _ HB2.out
     go_wp2_with fail
     go_ret
     exact ⟨rfl,Hal.out.trans (HB2.out.mono Hal.out.size)⟩
    case true =>
     cases hV : ze1 a b c
     case false =>
      have hc : zX ⟨1,nm,a,b,c,ot,rg,.slice ar rg.length cr⟩ = 2:=zb5 nm ot a b c rg (.slice ar rg.length cr) (N:=true) (T:=true) (E:=true) (V:=false) hN hT hE hV
      rw [hc];clear hc hk1 hk4
      go_enter Tryz.func123,Tryz.ntmps123
      go_upto_region 1 with fail
      rw [← hW]
      clear hW
      obtain ⟨k0,k1,k2,k3,k4,k5,k6⟩:=C0
      go_wp2_with fail
      refine (HN.out _ _ hN).mono ?_
      rintro e w1 ⟨rfl,hb1⟩
      have HB1:=hid hb1
      clear hb1 k0 k1 k2 k3 k4 k5 k6
      obtain ⟨k0,k1,k2,k3,k4,k5,k6⟩:=HC.out _ HB1.out
      go_wp2_with fail
      refine (HE.out _ HB1.out _ hE).mono ?_
      rintro e w2 ⟨rfl,hb2⟩
      have HB2:=hid (HB1.out.trans (hb2.mono HB1.out.size))
      clear hb2 k0 k1 k2 k3 k4 k5 k6
      obtain ⟨k0,k1,k2,k3,k4,k5,k6⟩:=HC.out _ HB2.out
      go_upto_region 8 with fail
      have HB:=hid (HB2.out.drew)
      have HA:=hid (zaD w2.drew)
      have KS:=(HC.out _ HB.out).2.2
      go_region_held3 (fun w' => w'.cell? ⟨w.heap.size,0,none⟩ = some (.int .i64 1) ∧ w'.cell? ⟨w.heap.size,2,none⟩ = some (.int .i64 a) ∧ w'.cell? ⟨w.heap.size,3,none⟩ = some (.int .i64 b) ∧ w'.cell? ⟨w.heap.size,4,none⟩ = some (.int .i64 c)) (exact ⟨(HC.out _ HB.out).1,KS.1,KS.2.1,KS.2.2.1⟩)
       (first
        | (go_at_call 142;(with_reducible refine (HA.out).mono ?_);rintro e w8 ⟨v8,rfl,hs8,_,hb8⟩;obtain ⟨l8,hl8⟩ : ∃ l,l = [((0 : Int),zU)]:=⟨_,rfl⟩;rw [← hl8] at hs8;obtain ⟨a8,c8,rfl,_,_⟩:=hs8.shape;have HB:=hid (HB.out.trans (hb8.mono HB.out.size));have KS:=(HC.out _ HB.out).2.2;have HV1:=hid (HV.out _ _ _ hl8 _ hV hs8);clear hb8 hs8 hl8 HA)
        | (go_at_call 156;(with_reducible refine (HV1.out).mono ?_);rintro e w9 ⟨rfl,hb9⟩;have HB:=hid (HB.out.trans (hb9.mono HB.out.size));have KS:=(HC.out _ HB.out).2.2;clear hb9 HV1))
      go_wp2_with fail
      go_ret
      exact ⟨rfl,Hal.out.trans (HB.out.mono Hal.out.size)⟩
     case true =>
      have hc : zX ⟨1,nm,a,b,c,ot,rg,.slice ar rg.length cr⟩ = 0:=zb5 nm ot a b c rg (.slice ar rg.length cr) (N:=true) (T:=true) (E:=true) (V:=true) hN hT hE hV
      rw [hc];clear hc hk1 hk4
      go_enter Tryz.func123,Tryz.ntmps123
      go_upto_region 1 with fail
      rw [← hW]
      clear hW
      obtain ⟨k0,k1,k2,k3,k4,k5,k6⟩:=C0
      go_wp2_with fail
      refine (HN.out _ _ hN).mono ?_
      rintro e w1 ⟨rfl,hb1⟩
      have HB1:=hid hb1
      clear hb1 k0 k1 k2 k3 k4 k5 k6
      obtain ⟨k0,k1,k2,k3,k4,k5,k6⟩:=HC.out _ HB1.out
      go_wp2_with fail
      refine (HE.out _ HB1.out _ hE).mono ?_
      rintro e w2 ⟨rfl,hb2⟩
      have HB2:=hid (HB1.out.trans (hb2.mono HB1.out.size))
      clear hb2 k0 k1 k2 k3 k4 k5 k6
      obtain ⟨k0,k1,k2,k3,k4,k5,k6⟩:=HC.out _ HB2.out
      go_upto_region 8 with fail
      have HB:=hid (HB2.out.drew)
      have HA:=hid (zaD w2.drew)
      have KS:=(HC.out _ HB.out).2.2
      go_region_held3 (fun w' => w'.cell? ⟨w.heap.size,0,none⟩ = some (.int .i64 1) ∧ w'.cell? ⟨w.heap.size,2,none⟩ = some (.int .i64 a) ∧ w'.cell? ⟨w.heap.size,3,none⟩ = some (.int .i64 b) ∧ w'.cell? ⟨w.heap.size,4,none⟩ = some (.int .i64 c)) (exact ⟨(HC.out _ HB.out).1,KS.1,KS.2.1,KS.2.2.1⟩)
       (first
        | (go_at_call 142;(with_reducible refine (HA.out).mono ?_);rintro e w8 ⟨v8,rfl,hs8,_,hb8⟩;obtain ⟨l8,hl8⟩ : ∃ l,l = [((0 : Int),zU)]:=⟨_,rfl⟩;rw [← hl8] at hs8;obtain ⟨a8,c8,rfl,_,_⟩:=hs8.shape;have HB:=hid (HB.out.trans (hb8.mono HB.out.size));have KS:=(HC.out _ HB.out).2.2;have HV1:=hid (HV.out _ _ _ hl8 _ hV hs8);clear hb8 hs8 hl8 HA)
        | (go_at_call 156;(with_reducible refine (HV1.out).mono ?_);rintro e w9 ⟨rfl,hb9⟩;have HB:=hid (HB.out.trans (hb9.mono HB.out.size));have KS:=(HC.out _ HB.out).2.2;clear hb9 HV1))
      go_wp2_with fail
      go_ret
      exact ⟨rfl,Hal.out.trans (HB.out.mono Hal.out.size)⟩
 ·
  cases hN : yP nm
  case false =>
   have hc : zX ⟨2,nm,a,b,c,ot,rg,.slice ar rg.length cr⟩ = 5:=jl 2 (by decide) nm ot a b c rg (.slice ar rg.length cr) (N:=false) (O:=_) (V:=_) hN rfl rfl
   rw [hc];clear hc hk1 hk4
   go_enter Tryz.func123,Tryz.ntmps123
   go_upto_region 1 with fail
   rw [← hW]
   clear hW
   obtain ⟨k0,k1,k2,k3,k4,k5,k6⟩:=C0
   go_wp2_with fail
   refine (HN.out _ _ hN).mono ?_
   rintro e w1 ⟨rfl,hb1⟩
   have HB1:=hid hb1
   clear hb1 k0 k1 k2 k3 k4 k5 k6
   obtain ⟨k0,k1,k2,k3,k4,k5,k6⟩:=HC.out _ HB1.out
   go_wp2_with fail
   go_ret
   exact ⟨rfl,Hal.out.trans (HB1.out.mono Hal.out.size)⟩
  case true =>
   cases hO : yP ot
   case false =>
    have hc : zX ⟨2,nm,a,b,c,ot,rg,.slice ar rg.length cr⟩ = 5:=jl 2 (by decide) nm ot a b c rg (.slice ar rg.length cr) (N:=true) (O:=false) (V:=_) hN hO rfl
    rw [hc];clear hc hk1 hk4
    go_enter Tryz.func123,Tryz.ntmps123
    go_upto_region 1 with fail
    rw [← hW]
    clear hW
    obtain ⟨k0,k1,k2,k3,k4,k5,k6⟩:=C0
    go_wp2_with fail
    refine (HN.out _ _ hN).mono ?_
    rintro e w1 ⟨rfl,hb1⟩
    have HB1:=hid hb1
    clear hb1 k0 k1 k2 k3 k4 k5 k6
    obtain ⟨k0,k1,k2,k3,k4,k5,k6⟩:=HC.out _ HB1.out
    go_wp2_with fail
    refine (HO.out _ _ hO).mono ?_
    rintro e w2 ⟨rfl,hb2⟩
    have HB2:=hid (HB1.out.trans (hb2.mono HB1.out.size))
    clear hb2 k0 k1 k2 k3 k4 k5 k6
    obtain ⟨k0,k1,k2,k3,k4,k5,k6⟩:=HC.out _ HB2.out
    go_wp2_with fail
    go_ret
    exact ⟨rfl,Hal.out.trans (HB2.out.mono Hal.out.size)⟩
   case true =>
    cases hV : ze1 a b c
    case false =>
     have hc : zX ⟨2,nm,a,b,c,ot,rg,.slice ar rg.length cr⟩ = 2:=jl 2 (by decide) nm ot a b c rg (.slice ar rg.length cr) (N:=true) (O:=true) (V:=false) hN hO hV
     rw [hc];clear hc hk1 hk4
     go_enter Tryz.func123,Tryz.ntmps123
     go_upto_region 1 with fail
     rw [← hW]
     clear hW
     obtain ⟨k0,k1,k2,k3,k4,k5,k6⟩:=C0
     go_wp2_with fail
     refine (HN.out _ _ hN).mono ?_
     rintro e w1 ⟨rfl,hb1⟩
     have HB1:=hid hb1
     clear hb1 k0 k1 k2 k3 k4 k5 k6
     obtain ⟨k0,k1,k2,k3,k4,k5,k6⟩:=HC.out _ HB1.out
     go_wp2_with fail
     refine (HO.out _ _ hO).mono ?_
     rintro e w2 ⟨rfl,hb2⟩
     have HB2:=hid (HB1.out.trans (hb2.mono HB1.out.size))
     clear hb2 k0 k1 k2 k3 k4 k5 k6
     obtain ⟨k0,k1,k2,k3,k4,k5,k6⟩:=HC.out _ HB2.out
     go_upto_region 8 with fail
     have HB:=hid (HB2.out.drew)
     have HA:=hid (zaD w2.drew)
     have KS:=(HC.out _ HB.out).2.2
     go_region_held3 (fun w' => w'.cell? ⟨w.heap.size,0,none⟩ = some (.int .i64 2) ∧ w'.cell? ⟨w.heap.size,2,none⟩ = some (.int .i64 a) ∧ w'.cell? ⟨w.heap.size,3,none⟩ = some (.int .i64 b) ∧ w'.cell? ⟨w.heap.size,4,none⟩ = some (.int .i64 c)) (exact ⟨(HC.out _ HB.out).1,KS.1,KS.2.1,KS.2.2.1⟩)
      (first
       | (go_at_call 142;(with_reducible refine (HA.out).mono ?_);rintro e w8 ⟨v8,rfl,hs8,_,hb8⟩;obtain ⟨l8,hl8⟩ : ∃ l,l = [((0 : Int),zU)]:=⟨_,rfl⟩;rw [← hl8] at hs8;obtain ⟨a8,c8,rfl,_,_⟩:=hs8.shape;have HB:=hid (HB.out.trans (hb8.mono HB.out.size));have KS:=(HC.out _ HB.out).2.2;have HV1:=hid (HV.out _ _ _ hl8 _ hV hs8);clear hb8 hs8 hl8 HA)
       | (go_at_call 156;(with_reducible refine (HV1.out).mono ?_);rintro e w9 ⟨rfl,hb9⟩;have HB:=hid (HB.out.trans (hb9.mono HB.out.size));have KS:=(HC.out _ HB.out).2.2;clear hb9 HV1))
     go_wp2_with fail
     go_ret
     exact ⟨rfl,Hal.out.trans (HB.out.mono Hal.out.size)⟩
    case true =>
     have hc : zX ⟨2,nm,a,b,c,ot,rg,.slice ar rg.length cr⟩ = 0:=jl 2 (by decide) nm ot a b c rg (.slice ar rg.length cr) (N:=true) (O:=true) (V:=true) hN hO hV
     rw [hc];clear hc hk1 hk4
     go_enter Tryz.func123,Tryz.ntmps123
     go_upto_region 1 with fail
     rw [← hW]
     clear hW
     obtain ⟨k0,k1,k2,k3,k4,k5,k6⟩:=C0
     go_wp2_with fail
     refine (HN.out _ _ hN).mono ?_
     rintro e w1 ⟨rfl,hb1⟩
     have HB1:=hid hb1
     clear hb1 k0 k1 k2 k3 k4 k5 k6
     obtain ⟨k0,k1,k2,k3,k4,k5,k6⟩:=HC.out _ HB1.out
     go_wp2_with fail
     refine (HO.out _ _ hO).mono ?_
     rintro e w2 ⟨rfl,hb2⟩
     have HB2:=hid (HB1.out.trans (hb2.mono HB1.out.size))
     clear hb2 k0 k1 k2 k3 k4 k5 k6
     obtain ⟨k0,k1,k2,k3,k4,k5,k6⟩:=HC.out _ HB2.out
     go_upto_region 8 with fail
     have HB:=hid (HB2.out.drew)
     have HA:=hid (zaD w2.drew)
     have KS:=(HC.out _ HB.out).2.2
     go_region_held3 (fun w' => w'.cell? ⟨w.heap.size,0,none⟩ = some (.int .i64 2) ∧ w'.cell? ⟨w.heap.size,2,none⟩ = some (.int .i64 a) ∧ w'.cell? ⟨w.heap.size,3,none⟩ = some (.int .i64 b) ∧ w'.cell? ⟨w.heap.size,4,none⟩ = some (.int .i64 c)) (exact ⟨(HC.out _ HB.out).1,KS.1,KS.2.1,KS.2.2.1⟩)
      (first
       | (go_at_call 142;(with_reducible refine (HA.out).mono ?_);rintro e w8 ⟨v8,rfl,hs8,_,hb8⟩;obtain ⟨l8,hl8⟩ : ∃ l,l = [((0 : Int),zU)]:=⟨_,rfl⟩;rw [← hl8] at hs8;obtain ⟨a8,c8,rfl,_,_⟩:=hs8.shape;have HB:=hid (HB.out.trans (hb8.mono HB.out.size));have KS:=(HC.out _ HB.out).2.2;have HV1:=hid (HV.out _ _ _ hl8 _ hV hs8);clear hb8 hs8 hl8 HA)
       | (go_at_call 156;(with_reducible refine (HV1.out).mono ?_);rintro e w9 ⟨rfl,hb9⟩;have HB:=hid (HB.out.trans (hb9.mono HB.out.size));have KS:=(HC.out _ HB.out).2.2;clear hb9 HV1))
     go_wp2_with fail
     go_ret
     exact ⟨rfl,Hal.out.trans (HB.out.mono Hal.out.size)⟩
 ·
  cases hN : yP nm
  case false =>
   have hc : zX ⟨3,nm,a,b,c,ot,rg,.slice ar rg.length cr⟩ = 5:=jl 3 (by decide) nm ot a b c rg (.slice ar rg.length cr) (N:=false) (O:=_) (V:=_) hN rfl rfl
   rw [hc];clear hc hk1 hk4
   go_enter Tryz.func123,Tryz.ntmps123
   go_upto_region 1 with fail
   rw [← hW]
   clear hW
   obtain ⟨k0,k1,k2,k3,k4,k5,k6⟩:=C0
   go_wp2_with fail
   refine (HN.out _ _ hN).mono ?_
   rintro e w1 ⟨rfl,hb1⟩
   have HB1:=hid hb1
   clear hb1 k0 k1 k2 k3 k4 k5 k6
   obtain ⟨k0,k1,k2,k3,k4,k5,k6⟩:=HC.out _ HB1.out
   go_wp2_with fail
   go_ret
   exact ⟨rfl,Hal.out.trans (HB1.out.mono Hal.out.size)⟩
  case true =>
   cases hO : yP ot
   case false =>
    have hc : zX ⟨3,nm,a,b,c,ot,rg,.slice ar rg.length cr⟩ = 5:=jl 3 (by decide) nm ot a b c rg (.slice ar rg.length cr) (N:=true) (O:=false) (V:=_) hN hO rfl
    rw [hc];clear hc hk1 hk4
    go_enter Tryz.func123,Tryz.ntmps123
    go_upto_region 1 with fail
    rw [← hW]
    clear hW
    obtain ⟨k0,k1,k2,k3,k4,k5,k6⟩:=C0
    go_wp2_with fail
    refine (HN.out _ _ hN).mono ?_
    rintro e w1 ⟨rfl,hb1⟩
    have HB1:=hid hb1
    clear hb1 k0 k1 k2 k3 k4 k5 k6
    obtain ⟨k0,k1,k2,k3,k4,k5,k6⟩:=HC.out _ HB1.out
    go_wp2_with fail
    refine (HO.out _ _ hO).mono ?_
    rintro e w2 ⟨rfl,hb2⟩
    have HB2:=hid (HB1.out.trans (hb2.mono HB1.out.size))
    clear hb2 k0 k1 k2 k3 k4 k5 k6
    obtain ⟨k0,k1,k2,k3,k4,k5,k6⟩:=HC.out _ HB2.out
    go_wp2_with fail
    go_ret
    exact ⟨rfl,Hal.out.trans (HB2.out.mono Hal.out.size)⟩
   case true =>
    cases hV : ze1 a b c
    case false =>
     have hc : zX ⟨3,nm,a,b,c,ot,rg,.slice ar rg.length cr⟩ = 2:=jl 3 (by decide) nm ot a b c rg (.slice ar rg.length cr) (N:=true) (O:=true) (V:=false) hN hO hV
     rw [hc];clear hc hk1 hk4
     go_enter Tryz.func123,Tryz.ntmps123
     go_upto_region 1 with fail
     rw [← hW]
     clear hW
     obtain ⟨k0,k1,k2,k3,k4,k5,k6⟩:=C0
     go_wp2_with fail
     refine (HN.out _ _ hN).mono ?_
     rintro e w1 ⟨rfl,hb1⟩
     have HB1:=hid hb1
     clear hb1 k0 k1 k2 k3 k4 k5 k6
     obtain ⟨k0,k1,k2,k3,k4,k5,k6⟩:=HC.out _ HB1.out
     go_wp2_with fail
     refine (HO.out _ _ hO).mono ?_
     rintro e w2 ⟨rfl,hb2⟩
     have HB2:=hid (HB1.out.trans (hb2.mono HB1.out.size))
     clear hb2 k0 k1 k2 k3 k4 k5 k6
     obtain ⟨k0,k1,k2,k3,k4,k5,k6⟩:=HC.out _ HB2.out
     go_upto_region 8 with fail
     have HB:=hid (HB2.out.drew)
     have HA:=hid (zaD w2.drew)
     have KS:=(HC.out _ HB.out).2.2
     go_region_held3 (fun w' => w'.cell? ⟨w.heap.size,0,none⟩ = some (.int .i64 3) ∧ w'.cell? ⟨w.heap.size,2,none⟩ = some (.int .i64 a) ∧ w'.cell? ⟨w.heap.size,3,none⟩ = some (.int .i64 b) ∧ w'.cell? ⟨w.heap.size,4,none⟩ = some (.int .i64 c)) (exact ⟨(HC.out _ HB.out).1,KS.1,KS.2.1,KS.2.2.1⟩)
      (first
       | (go_at_call 142;(with_reducible refine (HA.out).mono ?_);rintro e w8 ⟨v8,rfl,hs8,_,hb8⟩;obtain ⟨l8,hl8⟩ : ∃ l,l = [((0 : Int),zU)]:=⟨_,rfl⟩;rw [← hl8] at hs8;obtain ⟨a8,c8,rfl,_,_⟩:=hs8.shape;have HB:=hid (HB.out.trans (hb8.mono HB.out.size));have KS:=(HC.out _ HB.out).2.2;have HV1:=hid (HV.out _ _ _ hl8 _ hV hs8);clear hb8 hs8 hl8 HA)
       | (go_at_call 156;(with_reducible refine (HV1.out).mono ?_);rintro e w9 ⟨rfl,hb9⟩;have HB:=hid (HB.out.trans (hb9.mono HB.out.size));have KS:=(HC.out _ HB.out).2.2;clear hb9 HV1))
     go_wp2_with fail
     go_ret
     exact ⟨rfl,Hal.out.trans (HB.out.mono Hal.out.size)⟩
    case true =>
     have hc : zX ⟨3,nm,a,b,c,ot,rg,.slice ar rg.length cr⟩ = 0:=jl 3 (by decide) nm ot a b c rg (.slice ar rg.length cr) (N:=true) (O:=true) (V:=true) hN hO hV
     rw [hc];clear hc hk1 hk4
     go_enter Tryz.func123,Tryz.ntmps123
     go_upto_region 1 with fail
     rw [← hW]
     clear hW
     obtain ⟨k0,k1,k2,k3,k4,k5,k6⟩:=C0
     go_wp2_with fail
     refine (HN.out _ _ hN).mono ?_
     rintro e w1 ⟨rfl,hb1⟩
     have HB1:=hid hb1
     clear hb1 k0 k1 k2 k3 k4 k5 k6
     obtain ⟨k0,k1,k2,k3,k4,k5,k6⟩:=HC.out _ HB1.out
     go_wp2_with fail
     refine (HO.out _ _ hO).mono ?_
     rintro e w2 ⟨rfl,hb2⟩
     have HB2:=hid (HB1.out.trans (hb2.mono HB1.out.size))
     clear hb2 k0 k1 k2 k3 k4 k5 k6
     obtain ⟨k0,k1,k2,k3,k4,k5,k6⟩:=HC.out _ HB2.out
     go_upto_region 8 with fail
     have HB:=hid (HB2.out.drew)
     have HA:=hid (zaD w2.drew)
     have KS:=(HC.out _ HB.out).2.2
     go_region_held3 (fun w' => w'.cell? ⟨w.heap.size,0,none⟩ = some (.int .i64 3) ∧ w'.cell? ⟨w.heap.size,2,none⟩ = some (.int .i64 a) ∧ w'.cell? ⟨w.heap.size,3,none⟩ = some (.int .i64 b) ∧ w'.cell? ⟨w.heap.size,4,none⟩ = some (.int .i64 c)) (exact ⟨(HC.out _ HB.out).1,KS.1,KS.2.1,KS.2.2.1⟩)
      (first
       | (go_at_call 142;(with_reducible refine (HA.out).mono ?_);rintro e w8 ⟨v8,rfl,hs8,_,hb8⟩;obtain ⟨l8,hl8⟩ : ∃ l,l = [((0 : Int),zU)]:=⟨_,rfl⟩;rw [← hl8] at hs8;obtain ⟨a8,c8,rfl,_,_⟩:=hs8.shape;have HB:=hid (HB.out.trans (hb8.mono HB.out.size));have KS:=(HC.out _ HB.out).2.2;have HV1:=hid (HV.out _ _ _ hl8 _ hV hs8);clear hb8 hs8 hl8 HA)
       | (go_at_call 156;(with_reducible refine (HV1.out).mono ?_);rintro e w9 ⟨rfl,hb9⟩;have HB:=hid (HB.out.trans (hb9.mono HB.out.size));have KS:=(HC.out _ HB.out).2.2;clear hb9 HV1))
     go_wp2_with fail
     go_ret
     exact ⟨rfl,Hal.out.trans (HB.out.mono Hal.out.size)⟩
 ·
  cases hN : yP nm
  case false =>
   have hc : zX ⟨4,nm,a,b,c,ot,rg,.slice ar rg.length cr⟩ = 5:=zdP nm ot a b c rg (.slice ar rg.length cr) (N:=false) (T:=_) (Z:=_) hN rfl rfl
   rw [hc];clear hc hk1 hk4
   go_enter Tryz.func123,Tryz.ntmps123
   go_upto_region 1 with fail
   rw [← hW]
   clear hW
   obtain ⟨k0,k1,k2,k3,k4,k5,k6⟩:=C0
   go_wp2_with fail
   refine (HN.out _ _ hN).mono ?_
   rintro e w1 ⟨rfl,hb1⟩
   have HB1:=hid hb1
   clear hb1 k0 k1 k2 k3 k4 k5 k6
   obtain ⟨k0,k1,k2,k3,k4,k5,k6⟩:=HC.out _ HB1.out
   go_wp2_with fail
   go_ret
   exact ⟨rfl,Hal.out.trans (HB1.out.mono Hal.out.size)⟩
  case true =>
   cases hT : ot.toList.isEmpty
   case false =>
    have hc : zX ⟨4,nm,a,b,c,ot,rg,.slice ar rg.length cr⟩ = 1:=zdP nm ot a b c rg (.slice ar rg.length cr) (N:=true) (T:=false) (Z:=_) hN hT rfl
    rw [hc];clear hc hk1 hk4
    go_enter Tryz.func123,Tryz.ntmps123
    go_upto_region 1 with fail
    rw [← hW]
    clear hW
    obtain ⟨k0,k1,k2,k3,k4,k5,k6⟩:=C0
    go_wp2_with fail
    refine (HN.out _ _ hN).mono ?_
    rintro e w1 ⟨rfl,hb1⟩
    have HB1:=hid hb1
    clear hb1 k0 k1 k2 k3 k4 k5 k6
    obtain ⟨k0,k1,k2,k3,k4,k5,k6⟩:=HC.out _ HB1.out
    go_wp2_with fail
    go_ret
    exact ⟨rfl,Hal.out.trans (HB1.out.mono Hal.out.size)⟩
   case true =>
    cases hZ : zbk a b c 0 0 0
    case false =>
     have hc : zX ⟨4,nm,a,b,c,ot,rg,.slice ar rg.length cr⟩ = 1:=zdP nm ot a b c rg (.slice ar rg.length cr) (N:=true) (T:=true) (Z:=false) hN hT hZ
     rw [hc];clear hc hk1 hk4
     go_enter Tryz.func123,Tryz.ntmps123
     go_upto_region 1 with fail
     rw [← hW]
     clear hW
     obtain ⟨k0,k1,k2,k3,k4,k5,k6⟩:=C0
     go_wp2_with fail
     refine (HN.out _ _ hN).mono ?_
     rintro e w1 ⟨rfl,hb1⟩
     have HB1:=hid hb1
     clear hb1 k0 k1 k2 k3 k4 k5 k6
     obtain ⟨k0,k1,k2,k3,k4,k5,k6⟩:=HC.out _ HB1.out
     go_wp2_with fail
     go_ret
     exact ⟨rfl,Hal.out.trans (HB1.out.mono Hal.out.size)⟩
    case true =>
     have hc : zX ⟨4,nm,a,b,c,ot,rg,.slice ar rg.length cr⟩ = 0:=zdP nm ot a b c rg (.slice ar rg.length cr) (N:=true) (T:=true) (Z:=true) hN hT hZ
     rw [hc];clear hc hk1 hk4
     go_enter Tryz.func123,Tryz.ntmps123
     go_upto_region 1 with fail
     rw [← hW]
     clear hW
     obtain ⟨k0,k1,k2,k3,k4,k5,k6⟩:=C0
     go_wp2_with fail
     refine (HN.out _ _ hN).mono ?_
     rintro e w1 ⟨rfl,hb1⟩
     have HB1:=hid hb1
     clear hb1 k0 k1 k2 k3 k4 k5 k6
     obtain ⟨k0,k1,k2,k3,k4,k5,k6⟩:=HC.out _ HB1.out
     go_upto_region 8 with fail
     go_quiet (fail)
     go_wp2_with fail
     go_ret
     exact ⟨rfl,below_drewN (Hal.out.trans (HB1.out.mono Hal.out.size)) _⟩
