import Derived.Test.YtmlfelbkgoplhaaGreatDoorZrPkYE
set_option linter.unusedVariables false
set_option linter.unusedSimpArgs false
namespace Go.Proofs.YtmlfelbkgoplhaaGreatDoor
open Go.RowKit
structure RtOk (V : Nat) (ct : Cells) (x : Int) (zs : List Nat) : Prop where
 zok : ZOk V ct
 len : ct.length = 4000
 low : yh ((V : Int) - 3) ct ≤ yD ((V : Int) - 3).toNat
 has : zx ct x = true
 z : ∀ s,Z ct x s ↔ zoH zs s
theorem zk7 (V : Nat) : RtOk V (List.replicate 4000 none) 0 []:=by
 have hl0 : yh ((V : Int) - 3) (List.replicate 4000 none) = 0:=by unfold yh;rw [List.countP_replicate];simp [zdc]
 exact ⟨ZOk.empty V 4000,List.length_replicate,by rw [hl0];exact znz _,qB _,fun s => ⟨fun h => absurd h (zbP _ _),fun ⟨x,hx,_⟩ => (by cases hx)⟩⟩
theorem znN {V : Nat} (hV : V ≤ 7) {ct c1 c2 : Cells} {x one y : Int} {zs : List Nat} {z : Nat} (hz : z < 2 ^ V) (t : RtOk V ct x zs) (a : zcb V ((V : Int) - 3) ct c1 0 (z : Int) one) (b : WOk V ((V : Int) - 3) .or c1 c2 x one y) : RtOk V (xk c2 [y]) y (zs ++ [z]):=by
 have fm:=(zal.zgL (keep:=[y]) ⟨b.has,b.z⟩ b.zok (List.mem_singleton.2 rfl))
 refine ⟨b.zok.zgL _,?_,?_,fm.has,fun s => (fm.z s).trans ?_⟩
 · rw [j6,b.ext.len,a.ext.len,t.len]
 ·
  refine Nat.le_trans (zcM b.zok.ok y) (zU ?_)
  have:=zY b.zok.ok y;omega
 ·
  simp only [Kd.sem]
  rw [jL t.zok.ok a.zok.ok a.ext x t.has,t.z,a.z,zju (by omega) hz]
  unfold zoH
  constructor
  ·
   rintro (⟨u,hu,e⟩ | e)
   · exact ⟨u,List.mem_append_left _ hu,e⟩
   · exact ⟨z,List.mem_append_right _ (List.mem_singleton.2 rfl),e⟩
  ·
   rintro ⟨u,hu,e⟩
   rcases List.mem_append.1 hu with q | q
   · exact .inl ⟨u,q,e⟩
   · rw [List.mem_singleton.1 q] at e;exact .inr e
theorem znV {V z : Nat} (hz : z < 2 ^ V) : (z : Int) / 2 ^ (V : Int).toNat = 0:=by
 rw [Int.toNat_natCast,zd5]
 generalize (2 : Nat) ^ V = r at hz ⊢
 exact Int.ediv_eq_zero_of_lt (by omega) (by omega)
def ReiP (V : Nat) (l : List Nat) (w : World) (e : Ending) (w' : World) : Prop :=
 (∃ v ys,e = .returned (.tuple #[v,.nilIface]) ∧ IsU w' v ys ∧ ys.Pairwise (· < ·) ∧ ∀ y,y ∈ ys ↔ jl (zfA V l) y) ∧ Below w.heap.size w w'
set_option maxRecDepth 100000 in
set_option maxHeartbeats 20000000 in
theorem zgA (V : Nat) (hV : V ≤ 7) (l : List Nat) (vl : Value) (w : World) (hu : IsU w vl l) (hl : ∀ x ∈ l,x < 2 ^ V) (hc : l.length ≤ 200) : Calls Tryz.prog 42 #[.int .i64 V,vl] w (ReiP V l w):=by
 obtain ⟨aA,cA,rfl,hA1,hA2⟩:=hu.shape
 have i200 : ¬ (200 : Int) < (l.length : Int):=by omega
 have Hu:=hid hu;have Hl:=hid hl;have Hc:=hid hc
 clear hu hl hc
 go_enter Tryz.func42,Tryz.ntmps42
 go_wp2_with fail
 refine (zkK V 4000 w (by omega) (by omega) (by decide) (by decide)).mono ?_
 rintro e w2 ⟨⟨t,rfl,hR,ht2,htp,htm⟩,hb2⟩
 have Ht2:=hid ht2;have Htp:=hid htp;have Htm:=hid htm;have Hb2:=hid hb2
 clear ht2 htp htm hb2 hR
 go_wp2_with fail
 have hcO4 : yD 4 = 15:=rfl
 have HcO4:=hid hcO4;clear hcO4
 go_loopg [8,28] l.length (fun gk o i wr => ∃ (k : Nat) (x : Int) (ct : Cells),k ≤ l.length ∧ gk = l.length - k ∧ o = .int .i64 x ∧ i = .int .i64 k ∧ zw wr t V ct ∧ RtOk V ct x (l.take k) ∧ Only t.b.mem w2 wr)
 case atStart => exact ⟨0,0,_,znz _,rfl,rfl,rfl,Ht2.out,zk7 V,Only.refl _ _⟩
 case round =>
  obtain ⟨k,x,ct,hk,rfl,rfl,rfl,ht,tk,hon⟩:=hrel
  obtain ⟨wo,rfl⟩ : ∃ y,y = wr:=⟨_,rfl⟩
  have hbo : Below w.heap.size w wo:=Hb2.out.trans (hon.below Hb2.out.size Htm.out)
  have hct:=tk.low;have hcl:=tk.len
  have hcm : yD ((V : Int) - 3).toNat ≤ yD 4:=zU (by omega)
  have h15 : yh ((V : Int) - 3) ct ≤ 15:=by have:=HcO4.out;omega
  by_cases hlt : k < l.length
  ·
   obtain ⟨bA,rfl,lA,gA0⟩:=(Hu.out.below hbo).addr hlt
   have gA:=gA0 k hlt
   clear gA0
   have hz24:=Hl.out _ (List.getElem_mem hlt)
   have htk1 : l.take (k + 1) = l.take k ++ [l[k]]:=List.take_succ_eq_append_getElem hlt
   obtain ⟨z,hz⟩ : ∃ z,z = l[k]:=⟨_,rfl⟩
   rw [← hz] at gA hz24 htk1
   have iA : (k : Int) < (l.length : Int):=by omega
   have q1:=zmh (V:=V) (L:=(V : Int) - 3) (by omega) (by omega) (by omega) (z : Int) wo ct ht tk.zok (znV hz24) (by rw [zgD];omega)
   have Q1:=hid q1;have Tk:=hid tk;have Hon:=hid hon;have Htk1:=hid htk1;have Hz24:=hid hz24;have H15:=hid h15;have Hcl:=hid hcl
   clear q1 ht tk hon hbo hz24 htk1 hz hct hcl hcm h15
   go_wp2_with fail
   refine Q1.out.mono ?_
   rintro e w5 ⟨c1,one,rfl,ht5,ho5,k1⟩
   have q2:=zqM (V:=V) (L:=(V : Int) - 3) (by omega) (by omega) x one w5 c1 ht5 k1.zok (k1.ext.has Tk.out.has) k1.has (by
    rw [zgD,k1.ext.len,Hcl.out]
    have h4 : Kd.or.cost ((V : Int) - 3 - min (zk c1 x) (zk c1 one)).toNat ≤ yD 4:=zU (by have:=zY k1.zok.ok x;have:=zY k1.zok.ok one;omega)
    have:=HcO4.out;have:=H15.out;have:=k1.cnt;omega)
   have Q2:=hid q2;have K1:=hid k1;have Ho5:=hid ho5
   clear q2 k1 ho5 ht5 Q1
   go_wp2_with fail
   refine Q2.out.mono ?_
   rintro e w6 ⟨c2,y,rfl,ht6,ho6,k2⟩
   have hb6 : Below w6.heap.size w6 (w6.alloc (.cells #[.int .i64 y] 3)):=zba
   have ht7:=ht6.below hb6
   have hint : zB (w6.alloc (.cells #[.int .i64 y] 3)) (.slice (some ⟨w6.heap.size,0,none⟩) 1 1) [y]:=zg0 (n:=1) (c:=1) [y] (za rfl) rfl rfl (znr _) (by decide) (by simp)
   have q3:=znW V _ [y] _ t c2 ht7 k2.zok.ok hint (by simp) (by simpa using ht7.le k2.has)
   have Hnx:=hid (znN hV Hz24.out Tk.out K1.out k2)
   have Q3:=hid q3;have Ho6:=hid ho6
   clear q3 ht7 ht6 ho6 k2 hb6 hint Q2
   go_wp2_with fail
   refine Q3.out.mono ?_
   rintro e w7 ⟨⟨zz,rfl⟩,hs7,ho7⟩
   have Ht7:=hid hs7;have Ho7:=hid ho7
   clear hs7 ho7 Q3
   go_wp2_with fail
   go_roundg (l.length - (k + 1))
   case measure => omega
   case rel => exact ⟨k + 1,y,_,by omega,rfl,rfl,by go_num,Ht7.out,by rw [Htk1.out];exact Hnx.out,(((Hon.out.trans Ho5.out).trans Ho6.out).alloc _).trans Ho7.out⟩
  ·
   obtain rfl : k = l.length:=by omega
   rw [List.take_length] at tk
   have q1:=zor V hV x wo t ct ht tk.zok tk.has (by rw [zgD];have:=HcO4.out;omega)
   have Q1:=hid q1;have Tk:=hid tk;have Hbo:=hid hbo;have Hon:=hid hon
   clear q1 ht tk hon hbo hct hcl hcm h15
   go_wp2_with fail
   refine Q1.out.mono ?_
   rintro e w8 ⟨c8,y8,rfl,ht8,ho8,k8⟩
   have q2:=ziq (V:=V) (by omega) (by omega) y8 5000 w8 t c8 ht8 k8.zok k8.has (by
    have : 2 ^ V ≤ 2 ^ 7:=Nat.pow_le_pow_right (by decide) hV
    rw [Int.toNat_natCast];omega)
   have Q2:=hid q2;have K8:=hid k8;have Ho8:=hid ho8
   clear q2 ht8 ho8 k8 Q1
   go_wp2_with fail
   refine Q2.out.mono ?_
   rintro e w9 ⟨v9,ys,rfl,hu9,hs9,hm9,_,hb9⟩
   have Hu9:=hid hu9;have Hs9:=hid hs9;have Hm9:=hid hm9
   have hbz : Below w.heap.size w w8:=Hb2.out.trans ((Hon.out.trans Ho8.out).below Hb2.out.size Htm.out)
   have Hbz:=hid (hbz.trans (hb9.mono hbz.size))
   clear hu9 hs9 hm9 hb9 Q2 hbz
   go_wp2_with fail
   go_ret2
   refine ⟨⟨v9,ys,rfl,Hu9.out,Hs9.out,fun y => ?_⟩,Hbz.out⟩
   rw [Hm9.out,K8.out.z]
   exact zjF (by omega) Hl.out Tk.out.z y
