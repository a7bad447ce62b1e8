import Derived.Test.YtmlfelbkgoplhaaGreatDoorZrPkK
import Derived.Deep.Slices
import Derived.Lib.SmallJoins
import Derived.Test.YtmlfelbkgoplhaaGreatDoorZrPkYB
import Derived.Test.YtmlfelbkgoplhaaGreatDoorZrPkN
import Derived.Deep.RegionHeld3
import Derived.Deep.CutBlock
import Derived.StillTailTactics
import Derived.Laws.Bits64b
import Derived.BigQuiet
import Derived.Deep.QuietTactic
import Derived.BigRegion
import Derived.Maps.RangeWalk
import Derived.Maps.OwnSet
set_option linter.unusedVariables false
set_option linter.unusedSimpArgs false
namespace Go.Proofs.YtmlfelbkgoplhaaGreatDoor
open Go.RowKit Go.ChangeShapes Go.WideShapes
abbrev Stp:=Int × Int × Int × Int
def zaa (w : World) (v : Value) (l : List Stp) : Prop :=
 ∃ a b o c,v = .slice a l.length c ∧ (l ≠ [] → a = some ⟨b,o,none⟩) ∧ l.length ≤ c ∧ c ≤ maxLen ∧ (l ≠ [] → b < w.heap.size) ∧
  ∀ i (h : i < l.length),w.cell? ⟨b,o + i * 4,none⟩ = some (.int .i64 l[i].1) ∧ w.cell? ⟨b,o + i * 4 + 1,none⟩ = some (.int .i64 l[i].2.1) ∧ w.cell? ⟨b,o + i * 4 + 2,none⟩ = some (.int .i64 l[i].2.2.1) ∧ w.cell? ⟨b,o + i * 4 + 3,none⟩ = some (.int .i64 l[i].2.2.2)
theorem zaa.below {w w' : World} {v : Value} {l : List Stp} (h : zaa w v l) (hb : Below w.heap.size w w') : zaa w' v l:=by
 obtain ⟨a,b,o,c,h1,h2,h3,h4,h5,h6⟩:=h
 refine ⟨a,b,o,c,h1,h2,h3,h4,fun e => Nat.lt_of_lt_of_le (h5 e) hb.size,fun i hi => ?_⟩
 have hlt : b < w.heap.size:=h5 (by intro e;subst e;simp at hi)
 obtain ⟨g0,g1,g2,g3⟩:=h6 i hi
 exact ⟨(hb.cell hlt).trans g0,(hb.cell hlt).trans g1,(hb.cell hlt).trans g2,(hb.cell hlt).trans g3⟩
section
variable {H : Type} {enc : TypeId × Value → H} {P : Program}
end
def zrv (out : List Int) (a : Int) : Int:=out.getD (zrt a out.length) 0
structure FBx (w wr : World) (bx : Nat) (x : Stp) : Prop where
 lo : w.heap.size ≤ bx
 hi : bx < wr.heap.size
 b0 : wr.cell? ⟨bx,0,none⟩ = some (.int .i64 x.1)
 b1 : wr.cell? ⟨bx,1,none⟩ = some (.int .i64 x.2.1)
 b2 : wr.cell? ⟨bx,2,none⟩ = some (.int .i64 x.2.2.1)
 b3 : wr.cell? ⟨bx,3,none⟩ = some (.int .i64 x.2.2.2)
theorem FBx.only {S : Nat → Prop} {w wr w2 : World} {bx : Nat} {x : Stp} (h : FBx w wr bx x) (ho : Only S wr w2) (hs : ∀ k,S k → k < w.heap.size) : FBx w w2 bx x:=by
 have hn : ¬ S bx:=fun hk => by have:=hs _ hk;have:=h.lo;omega
 exact ⟨h.lo,Nat.lt_of_lt_of_le h.hi ho.size,(ho.cell h.hi hn).trans h.b0,(ho.cell h.hi hn).trans h.b1,(ho.cell h.hi hn).trans h.b2,(ho.cell h.hi hn).trans h.b3⟩
theorem zaa.shape {w : World} {v : Value} {xs : List Stp} (h : zaa w v xs) : ∃ a c,v = .slice a xs.length c ∧ xs.length ≤ c ∧ c ≤ 9223372036854775807:=by
 obtain ⟨a,b,o,c,rfl,_,h3,h4,_⟩:=h
 exact ⟨a,c,rfl,h3,by unfold maxLen at h4;omega⟩
theorem zaa.addr {w : World} {a : Option Addr} {n c : Nat} {xs : List Stp} (h : zaa w (.slice a n c) xs) {k : Nat} (hk : k < xs.length) : ∃ b o,a = some ⟨b,o,none⟩ ∧ b < w.heap.size:=by
 obtain ⟨_,b,o,_,hh,h2,_,_,h6,_⟩:=h
 cases hh
 exact ⟨b,o,h2 (by intro e;subst e;simp at hk),h6 (by intro e;subst e;simp at hk)⟩
theorem zaa.get {w : World} {b o n c : Nat} {xs : List Stp} (h : zaa w (.slice (some ⟨b,o,none⟩) n c) xs) {k : Nat} (hk : k < xs.length) {x : Stp} (hx : x = xs[k]) :
 w.cell? ⟨b,o + k * 4,none⟩ = some (.int .i64 x.1) ∧ w.cell? ⟨b,o + k * 4 + 1,none⟩ = some (.int .i64 x.2.1) ∧ w.cell? ⟨b,o + k * 4 + 2,none⟩ = some (.int .i64 x.2.2.1) ∧ w.cell? ⟨b,o + k * 4 + 3,none⟩ = some (.int .i64 x.2.2.2):=by
 obtain ⟨_,b',o',_,hh,h2,_,_,_,h6⟩:=h
 cases hh
 cases h2 (by intro e;subst e;simp at hk)
 subst hx
 exact h6 k hk
open Go.RowKit
def yH (V k x : Int) : St:=fun u => decide (k ≤ u) && decide (u < V) && zde x u
theorem zft (V k x u : Int) (h1 : k ≤ u) (h2 : u < V) : yH V k x u = zde x u:=by unfold yH;rw [decide_eq_true h1,decide_eq_true h2];simp
theorem zcE (V k x u : Int) (h1 : u < k) : yH V k x u = false:=by unfold yH;rw [decide_eq_false (by omega)];simp
theorem ziz (V x : Int) (s : St) : s = yH V V x ↔ ∀ u,s u = false:=by
 have : ∀ u,yH V V x u = false:=fun u => by
  unfold yH
  by_cases h : V ≤ u
  · rw [decide_eq_false (show ¬ u < V by omega)];simp
  · rw [decide_eq_false h];simp
 constructor
 · rintro rfl;exact this
 · intro h;funext u;rw [h,this]
theorem ziG {V k x : Int} (hk : k < V) (hb : zde x k = true) (s : St) : kQ k (fun _ => False) (fun s => s = yH V (k + 1) x) s ↔ s = yH V k x:=by
 have h0 : yH V (k + 1) x = yw (yH V k x) k false:=by
  funext u;unfold yw;split
  · rename_i e;subst e;exact zcE _ _ _ _ (by omega)
  ·
   unfold yH
   have : decide (k + 1 ≤ u) = decide (k ≤ u):=by by_cases h : k + 1 ≤ u <;> simp <;> omega
   rw [this]
 have h1 : yH V k x k = true:=by rw [zft _ _ _ _ (Int.le_refl _) hk];exact hb
 unfold kQ
 split
 ·
  rename_i h
  constructor
  ·
   intro e
   rw [h0] at e
   have:=congrArg (fun y => yw y k true) e
   simpa only [yS,zG h,zG h1] using this
  · rintro rfl;exact h0.symm
 ·
  rename_i h
  refine ⟨fun e => e.elim,fun e => h ?_⟩
  rw [e];exact h1
theorem zj0 {V k x : Int} (hb : zde x k = false) : yH V k x = yH V (k + 1) x:=by
 funext u;unfold yH
 by_cases e : u = k
 · subst e;rw [hb];simp
 ·
  have : decide (k + 1 ≤ u) = decide (k ≤ u):=by by_cases h : k + 1 ≤ u <;> simp <;> omega
  rw [this]
structure zcb (V L : Int) (c c' : Cells) (k x h : Int) : Prop where
 zok : ZOk V c'
 ext : Ext c c'
 has : zx c' h = true
 z : ∀ s,Z c' h s ↔ s = yH V k x
 top : k ≤ zk c' h
 cnt : yh L c' ≤ yh L c + (L - k).toNat
theorem zkJ {V L : Int} (hV : V ≤ 24) {c : Cells} (o : ZOk V c) (x : Int) : zcb V L c c V x 1 :=
 ⟨o,Ext.refl _,zbe _,fun s => (zhX c s).trans (ziz V x s).symm,by rw [qH (qg c (.inr rfl))];exact hV,Nat.le_add_right _ _⟩
theorem zoy {V L : Int} {c c' : Cells} {k x h : Int} (o : zcb V L c c' (k + 1) x h) (hb : zde x k = false) : zcb V L c c' k x h :=
 ⟨o.zok,o.ext,o.has,fun s => by rw [zj0 hb];exact o.z s,by have:=o.top;omega,by have:=o.cnt;omega⟩
theorem zm6 {V L : Int} {c c' : Cells} {k x h : Int} {r : Cells × Int × Nat} (o : zcb V L c c' (k + 1) x h) (hb : zde x k = true) (hk : k < V) (n : zfb L c' k 0 h r) : zcb V L c r.1 k x r.2.1:=by
 refine ⟨zbs o.zok hk n,o.ext.trans n.ext,n.has,fun s => (n.z s).trans ((kD (fun s => ⟨fun h => absurd h (zbP _ _),fun h => h.elim⟩) o.z s).trans (ziG hk hb s)),n.top,?_⟩
 have h1:=n.cnt;have h2:=o.cnt
 by_cases e : k < L
 · rw [if_pos e] at h1;omega
 · rw [if_neg e] at h1;omega
def ziZ (V L : Int) (s : Fb) (c : Cells) (x : Int) (w : World) (e : Ending) (w' : World) : Prop :=
 ∃ c' h,e = .returned (.tuple #[.int .i64 h,.nilIface]) ∧ zw w' s V c' ∧ Only s.b.mem w w' ∧ zcb V L c c' 0 x h
set_option maxHeartbeats 4000000 in
theorem zmh {V L : Int} (hV0 : 0 ≤ V) (hV : V ≤ 24) (hL : V ≤ L + 3) {s : Fb} (x : Int) (w : World) (c : Cells) (hs : zw w s V c) (zo : ZOk V c) (hx : x / 2 ^ V.toNat = 0) (hr : yh L c + L.toNat + hiB V L < c.length) :
 Calls Tryz.prog 93 #[.pointer (some ⟨s.ps,0,none⟩),.int .u64 x] w (ziZ V L s c x w):=by
 have c1:=hs.s1
 have hx0 : (x / 2 ^ V.toNat != 0) = false:=by rw [hx];rfl
 have ho:=zkJ (L:=L) hV zo x
 have Hs:=hid hs;have Hz:=hid zo;have Hr:=hid hr;have Ho:=hid ho
 clear hs zo hr ho hx
 go_enter Tryz.func93,Tryz.ntmps93
 go_wp2_with fail
 clear hx0
 go_loopg [6,7] V.toNat (fun gk h i wr => ∃ (k y : Int) (c' : Cells),-1 ≤ k ∧ k < V ∧ gk = (k + 1).toNat ∧ h = .int .i64 y ∧ i = .int .i64 k ∧ zw wr s V c' ∧ Only s.b.mem w wr ∧ zcb V L c c' (k + 1) x y)
 case atStart => exact ⟨V - 1,1,c,by omega,by omega,by rw [Int.sub_add_cancel],rfl,rfl,Hs.out,Only.refl _ _,by rw [Int.sub_add_cancel];exact Ho.out⟩
 case round =>
  clear c1
  obtain ⟨k,y,c',hk0,hkV,rfl,rfl,rfl,hs,ho,hok⟩:=hrel
  have c1:=hs.s1
  have Hs2:=hid hs;have Ho2:=hid ho;have Hok:=hid hok;clear hs ho hok
  by_cases hk : 0 ≤ k
  ·
   by_cases hb : zde x k = true
   ·
    have hb2 : (bits .and .u64 (x / 2 ^ min k.toNat 64) 1 == 1) = true:=hb
    have hb3 : (bits .and .u64 (x / 2 ^ k.toNat) 1 == 1) = true:=by rw [Nat.min_eq_left (by omega)] at hb2;exact hb2
    have tz : zk c' 0 = 24:=qH (qg c' (.inl rfl))
    have hn:=ku L Hok.out.zok.ok Hok.out.zok.red hk (by omega) (qB c') Hok.out.has (by rw [tz];omega) (by have:=Hok.out.top;omega) (by
     have h5:=zbg Hok.out.zok hL;have h6:=Hr.out;have h7:=Hok.out.cnt;have h8:=Hok.out.ext.len;omega)
    have mk:=zm6 Hok.out hb hkV hn
    have hq:=zad k 0 y _ s V c' Hs2.out (by decide) (Hs2.out.le Hok.out.has)
    rw [hn.err] at hq
    simp only [ziB,if_true] at hq
    generalize jY c' k 0 y = R at hq mk
    obtain ⟨c4,x4,n4⟩:=R
    dsimp only at hq mk
    have Hq:=hid hq;have Hmk:=hid mk;have Hb:=hid hb
    clear hq mk hn tz hb
    go_wp2_with fail
    refine Hq.out.mono ?_
    rintro e w3 ⟨rfl,hs3,ho3⟩
    have Hs3:=hid hs3;have Ho3:=hid ho3;clear hs3 ho3 c1
    go_wp2_with fail
    go_roundg k.toNat
    case measure => omega
    case rel => exact ⟨k - 1,x4,c4,by omega,by omega,by rw [Int.sub_add_cancel],rfl,rfl,Hs3.out,Ho2.out.trans Ho3.out,by rw [Int.sub_add_cancel];exact Hmk.out⟩
   ·
    have hbf : zde x k = false:=by simpa using hb
    have hb2 : (bits .and .u64 (x / 2 ^ min k.toNat 64) 1 == 1) = false:=hbf
    have hb3 : (bits .and .u64 (x / 2 ^ k.toNat) 1 == 1) = false:=by rw [Nat.min_eq_left (by omega)] at hb2;exact hb2
    have Hmk:=hid (zoy Hok.out hbf)
    clear hb hbf
    go_wp2_with fail
    go_roundg k.toNat
    case measure => omega
    case rel => exact ⟨k - 1,y,c',by omega,by omega,by rw [Int.sub_add_cancel],rfl,rfl,Hs2.out,Ho2.out,by rw [Int.sub_add_cancel];exact Hmk.out⟩
  ·
   obtain rfl : k = -1:=by omega
   have Hmk : Hid (zcb V L c c' 0 x y):=hid Hok.out
   go_wp2_with fail
   go_ret2
   exact ⟨c',y,rfl,Hs2.out,Ho2.out,Hmk.out⟩
set_option maxHeartbeats 1000000 in
theorem znW (V : Int) (vs : Value) (keep : List Int) (w : World) (s : Fb) (c : Cells) (hs : zw w s V c) (o : Ok c) (hv : zB w vs keep) (hl : keep.length ≤ 100000) (hm : ∀ x ∈ keep,x ≤ 9223372036854775807) :
 Calls Tryz.prog 95 #[.pointer (some ⟨s.ps,0,none⟩),vs] w fun e w' => (∃ z,e = .returned (.int .i64 z)) ∧ zw w' s V (xk c keep) ∧ Only s.b.mem w w':=by
 have c0:=hs.s0
 have hsw:=zin vs keep w s.b c hs.ar o hv hl hm
 obtain ⟨z,hz⟩ : ∃ z : Int,(cnt c : Int) - (qU c keep).length = z:=⟨_,rfl⟩
 rw [hz] at hsw
 have Hsw:=hid hsw;have Hs:=hid hs;clear hsw hs hz o hv hm
 go_enter Tryz.func95,Tryz.ntmps95
 go_wp2_with fail
 refine Hsw.out.mono ?_
 rintro e w1 ⟨rfl,ha1,ho1⟩
 have Ha:=hid ha1;have Ho:=hid ho1;clear ha1 ho1
 go_wp2_with fail
 go_ret
 exact ⟨⟨_,rfl⟩,Hs.out.arena Ho.out Ha.out,Ho.out⟩
def zaP : Nat → Cells → Int → Nat
 | 0,_,_ => 0
 | f + 1,c,h => match getM c h with
  | none => h.toNat
  | some n => zaP f c n.2.1 + zaP f c n.2.2
theorem zdH {f : Nat} {c : Cells} {h : Int} (e : getM c h = none) : zaP (f + 1) c h = h.toNat:=by simp only [zaP,e]
theorem zdD {f : Nat} {c : Cells} {h : Int} {n : Nd} (e : getM c h = some n) : zaP (f + 1) c h = zaP f c n.2.1 + zaP f c n.2.2:=by simp only [zaP,e]
def jS (c : Cells) (h : Int) : Nat:=zaP 25 c h
theorem zbX {c : Cells} (o : Ok c) : ∀ (f g : Nat) (h : Int),(24 - zk c h).toNat < f → f ≤ g → zaP f c h = zaP g c h
 | 0,_,_,h1,_ => absurd h1 (Nat.not_lt_zero _)
 | f + 1,0,_,_,h2 => absurd h2 (by omega)
 | f + 1,g + 1,h,h1,h2 => by
  cases e : getM c h with
  | none => rw [zdH e,zdH e]
  | some n =>
   obtain ⟨k1,k2,_,_,k3,k4⟩:=o.kids e
   rw [zK e] at h1
   rw [zdD e,zdD e,zbX o f g n.2.1 (by omega) (by omega),zbX o f g n.2.2 (by omega) (by omega)]
theorem zhJ {c : Cells} (o : Ok c) {h : Int} {n : Nd} (e : getM c h = some n) : jS c h = jS c n.2.1 + jS c n.2.2:=by
 obtain ⟨k1,k2,_,_,k3,k4⟩:=o.kids e
 show zaP (24 + 1) c h = zaP 25 c n.2.1 + zaP 25 c n.2.2
 rw [zdD e,zbX o 24 25 n.2.1 (by omega) (by omega),zbX o 24 25 n.2.2 (by omega) (by omega)]
theorem zkg {c : Cells} {h : Int} (e : getM c h = none) : jS c h = h.toNat:=zdH (f:=24) e
theorem zq9 {V : Int} {c : Cells} (o : ZOk V c) : ∀ h,zx c h = true → jS c h ≤ 2 ^ (V - zk c h).toNat:=by
 refine jH o.ok (Q:=fun h => zx c h = true → jS c h ≤ 2 ^ (V - zk c h).toNat) (fun h g hh => ?_) (fun h n g ih1 ih2 hh => ?_)
 ·
  rw [zkg g]
  have:=two_pow_pos (V - zk c h).toNat
  rcases yc hh g with rfl | rfl <;> simp <;> omega
 ·
  obtain ⟨b1,b2,k1,k2,k3,k4⟩:=o.ok.kids g
  have hvV : n.1 < V:=by obtain ⟨k,_,h1,_⟩:=getM_some g;exact o.vlt k n h1
  rw [zhJ o.ok g,zK g,zhq hvV]
  have h1:=ih1 k1
  have h2:=ih2 k2
  have w1:=zai (show (V - zk c n.2.1).toNat ≤ (V - (n.1 + 1)).toNat by omega)
  have w2:=zai (show (V - zk c n.2.2).toNat ≤ (V - (n.1 + 1)).toNat by omega)
  omega
theorem zgB {V : Int} (hV : V ≤ 24) {c : Cells} (o : ZOk V c) {h : Int} (hh : zx c h = true) : jS c h ≤ 2 ^ V.toNat ∧ jS c h ≤ 2 ^ 24:=by
 have h1:=zq9 o h hh
 have h2:=zY o.ok h
 have h3:=zai (show (V - zk c h).toNat ≤ V.toNat by omega)
 have h4:=zai (show V.toNat ≤ 24 by omega)
 exact ⟨by omega,by omega⟩
def zc4 (w : World) (md : Nat) (c : Cells) : Prop:=∃ mq : List (Int × Value),MapOf w md (Value.int .i64) mq ∧ ∀ k v,assoc mq k = some v → yK w v (jS c k)
theorem zc4.lt {w : World} {md : Nat} {c : Cells} (h : zc4 w md c) : md < w.heap.size:=by obtain ⟨mq,h1,_⟩:=h;exact h1.lt
theorem zc4.below {w w' : World} {md : Nat} {c : Cells} (h : zc4 w md c) (hb : Below w.heap.size w w') : zc4 w' md c:=by
 obtain ⟨mq,h1,h2⟩:=h;exact ⟨mq,h1.yX (hb.block _ h1.lt),fun k v e => (h2 k v e).below hb⟩
theorem zc4.jF {wr : World} {md : Nat} {c : Cells} {R : Nat} (h : zc4 wr md c) (hR : wr.heap[R]? = some (.cells #[.slice none 0 0] 52 (0,0))) (u : Value) : zc4 (wr.setCell ⟨R,0,none⟩ u) md c:=by
 obtain ⟨mq,h1,h2⟩:=h
 have hn : md ≠ R:=fun e => by
  subst e
  obtain ⟨es,cl,hb,_⟩:=h1
  rw [hb] at hR;cases hR
 exact ⟨mq,h1.yX (zhc _ _ _ _ hn),fun k v e => (h2 k v e).jF hR u⟩
theorem yK.zmap {w w' : World} {v : Value} {n md : Nat} {c : Cells} (h : yK w v n) (hm : zc4 w md c) (ho : Only (· = md) w w') : yK w' v n:=by
 obtain ⟨mq,h1,_⟩:=hm;exact h.zc2 h1 ho
structure Cc where
 s : Nat
 d : Nat
 a : Nat
def cntV (q : Cc) : Value:=.func (.func 195) #[] #[.pointer (some ⟨q.s,0,none⟩),.pointer (some ⟨q.d,0,none⟩),.pointer (some ⟨q.a,0,none⟩)]
structure zes (w : World) (s : Fb) (md : Nat) (q : Cc) : Prop where
 hst : w.heap[q.s]? = some (.cells #[.pointer (some ⟨s.ps,0,none⟩)] 172 (0,0))
 hd : w.heap[q.d]? = some (.cells #[.map (some md)] 125 (0,0))
 ha : w.heap[q.a]? = some (.cells #[cntV q] 126 (0,0))
 off : q.s ≠ md ∧ q.d ≠ md ∧ q.a ≠ md
section
variable {w w2 : World} {s : Fb} {md : Nat} {q : Cc}
theorem zes.keep (h : zes w s md q) (h1 : w2.heap[q.s]? = w.heap[q.s]?) (h2 : w2.heap[q.d]? = w.heap[q.d]?) (h3 : w2.heap[q.a]? = w.heap[q.a]?) : zes w2 s md q:=⟨h1.trans h.hst,h2.trans h.hd,h3.trans h.ha,h.off⟩
theorem zes.only (h : zes w s md q) (ho : Only (· = md) w w2) : zes w2 s md q :=
 h.keep (ho.block _ (zlb h.hst) h.off.1) (ho.block _ (zlb h.hd) h.off.2.1) (ho.block _ (zlb h.ha) h.off.2.2)
theorem zes.below (h : zes w s md q) (hb : Below w.heap.size w w2) : zes w2 s md q :=
 h.keep (hb.block _ (zlb h.hst)) (hb.block _ (zlb h.hd)) (hb.block _ (zlb h.ha))
theorem zes.lt (h : zes w s md q) : q.s < w.heap.size ∧ q.d < w.heap.size ∧ q.a < w.heap.size:=⟨zlb h.hst,zlb h.hd,zlb h.ha⟩
end
structure ZW (w wr : World) (s : Fb) (V : Int) (c : Cells) (md : Nat) (q : Cc) (n : Nd) (nb D B : Nat) : Prop where
 sp : zw wr s V c
 done : zc4 wr md c
 env : zes wr s md q
 only : Only (· = md) w wr
 off : md < w.heap.size ∧ ¬ s.b.mem md ∧ s.ps ≠ md
 old : s.ps < w.heap.size ∧ (∀ k,s.b.mem k → k < w.heap.size) ∧ q.s < w.heap.size ∧ q.d < w.heap.size ∧ q.a < w.heap.size
 nb1 : w.heap.size < nb ∧ nb < wr.heap.size
 node : wr.heap[nb]? = some (.cells #[.int .i64 n.1,.int .i64 n.2.1,.int .i64 n.2.2] 117 (0,0))
 res : wr.heap[w.heap.size]? = some (.cells #[.slice none 0 0] 52 (0,0))
 zb : wr.heap[B]? = some (.cells #[.slice none 0 0] 52 (0,0))
 zd : wr.heap[D]? = some (.cells #[.slice none 0 0] 52 (0,0))
 lt : nb < D ∧ D ≤ B
section
variable {w wr w2 : World} {s : Fb} {V : Int} {c : Cells} {md : Nat} {q : Cc} {n : Nd} {nb D B : Nat}
theorem ZW.grow (h : ZW w wr s V c md q n nb D B) (hb : Below wr.heap.size wr w2) : ZW w w2 s V c md q n nb D B :=
 ⟨h.sp.below hb,h.done.below hb,h.env.below hb,h.only.trans (Only.of_below hb rfl),h.off,h.old,⟨h.nb1.1,Nat.lt_of_lt_of_le h.nb1.2 hb.size⟩,(hb.block _ (zlb h.node)).trans h.node,(hb.block _ (zlb h.res)).trans h.res,(hb.block _ (zlb h.zb)).trans h.zb,(hb.block _ (zlb h.zd)).trans h.zd,h.lt⟩
theorem ZW.step (h : ZW w wr s V c md q n nb D B) (ho : Only (· = md) wr w2) (hd : zc4 w2 md c) : ZW w w2 s V c md q n nb D B:=by
 have l0:=h.off.1;have l1:=h.nb1.1;have l2:=h.lt
 have key : ∀ {b : Nat} {o : Obj},wr.heap[b]? = some o → w.heap.size ≤ b → w2.heap[b]? = some o:=fun {b o} e hn => (ho.block b (zlb e) (fun e2 => by have e3 : b = md:=e2;omega)).trans e
 exact ⟨h.sp.only ho h.off.2.2 (fun k hk e => h.off.2.1 (e ▸ hk)),hd,h.env.only ho,h.only.trans ho,h.off,h.old,⟨h.nb1.1,Nat.lt_of_lt_of_le h.nb1.2 ho.size⟩,key h.node (by omega),key h.res (by omega),key h.zb (by omega),key h.zd (by omega),h.lt⟩
theorem ZW.alloc (h : ZW w wr s V c md q n nb D B) : ZW w (wr.alloc (.cells #[.slice none 0 0] 52)) s V c md q n nb D wr.heap.size:=by
 have g:=h.grow ((Below.refl _ _).alloc (znr _) (.cells #[.slice none 0 0] 52))
 exact ⟨g.sp,g.done,g.env,g.only,g.off,g.old,g.nb1,g.node,g.res,za rfl,g.zd,⟨h.lt.1,Nat.le_of_lt (zlb h.zd)⟩⟩
theorem ZW.gap (h : ZW w wr s V c md q n nb D B) : D < wr.heap.size:=zlb h.zd
theorem ZW.back (h : ZW w wr s V c md q n nb D B) : ZW w wr s V c md q n nb D D:=⟨h.sp,h.done,h.env,h.only,h.off,h.old,h.nb1,h.node,h.res,h.zd,h.zd,h.lt.1,znr _⟩
theorem ZW.more (h : ZW w wr s V c md q n nb D B) (o : Obj) : ZW w (wr.alloc o) s V c md q n nb D D:=(h.grow (zba)).back
theorem ZW.set (h : ZW w wr s V c md q n nb D B) (hD : D < B) (u : Value) : ZW w (wr.setCell ⟨B,0,none⟩ u) s V c md q n nb D D:=by
 have l1:=h.nb1;have l2:=h.lt;have l3:=h.old
 have hb : ∀ k,k ≠ B → (wr.setCell ⟨B,0,none⟩ u).heap[k]? = wr.heap[k]?:=fun k hk => zhc _ _ _ _ hk
 have ho : Only (· = B) wr (wr.setCell ⟨B,0,none⟩ u):=⟨rfl,rfl,rfl,by simp,fun k _ hk => hb k hk⟩
 have e:=(hb D (by omega)).trans h.zd
 refine ⟨h.sp.only ho (fun e => by have e' : s.ps = B:=e;omega) (fun k hk e => by have:=l3.2.1 k hk;have e' : k = B:=e;omega),h.done.jF h.zb u,h.env.keep (hb _ (by omega)) (hb _ (by omega)) (hb _ (by omega)),?_,h.off,h.old,⟨l1.1,by simpa using l1.2⟩,(hb _ (by omega)).trans h.node,(hb _ (by omega)).trans h.res,e,e,h.lt.1,znr _⟩
 exact ⟨h.only.os,h.only.tape,h.only.output,by simpa using h.only.size,fun k hk hn => (hb k (by omega)).trans (h.only.block k hk hn)⟩
theorem ZW.put (h : ZW w wr s V c md q n nb D B) {a : Option Addr} {d k : Nat} (hn : yK wr (.agg #[.slice a (zD k).length d]) k) : zew (wr.setCell ⟨B,0,none⟩ (.slice a (zD k).length d)) B a d k:=⟨one_setCell h.zb,hn.jF h.zb _⟩
structure zkb (w' : World) (q : Cc) (n : Nd) (nb : Nat) : Prop where
 ca : w'.cell? ⟨q.a,0,none⟩ = some (.func (.func 195) #[] #[.pointer (some ⟨q.s,0,none⟩),.pointer (some ⟨q.d,0,none⟩),.pointer (some ⟨q.a,0,none⟩)])
 b1 : w'.cell? ⟨nb,1,none⟩ = some (.int .i64 n.2.1)
 b2 : w'.cell? ⟨nb,2,none⟩ = some (.int .i64 n.2.2)
theorem ZW.held (h : ZW w wr s V c md q n nb D B) : zkb wr q n nb:=⟨zco h.env.ha,by rw [cell_of_row wr _ _ _ _ _ h.node];rfl,by rw [cell_of_row wr _ _ _ _ _ h.node];rfl⟩
theorem zkb.alloc {w' : World} (h : zkb w' q n nb) (o : Obj) : zkb (w'.alloc o) q n nb:=by
 have k : ∀ {p : Addr} {v : Value},w'.cell? p = some v → (w'.alloc o).cell? p = some v:=fun {p v} e => (World.cell?_alloc_some _ _ _ (by rw [e];rfl)).trans e
 exact ⟨k h.ca,k h.b1,k h.b2⟩
theorem ZW.ziI (h : ZW w wr s V c md q n nb D B) (u : Value) : zkb (wr.setCell ⟨B,0,none⟩ u) q n nb:=by
 have l1:=h.nb1;have l2:=h.lt;have l3:=h.old;have g:=h.held
 refine ⟨?_,?_,?_⟩
 · rw [World.cell?_setCell_far _ _ _ _ (by dsimp only;omega)];exact g.ca
 · rw [World.cell?_setCell_far _ _ _ _ (by dsimp only;omega)];exact g.b1
 · rw [World.cell?_setCell_far _ _ _ _ (by dsimp only;omega)];exact g.b2
theorem ZW.putM (h : ZW w wr s V c md q n nb D B) {mq : List (Int × Value)} (hm : MapOf wr md (Value.int .i64) mq) (hmv : ∀ k v,assoc mq k = some v → yK wr v (jS c k)) {k : Int} {v : Value} (hn : yK wr v (jS c k)) {o : Obj} (ho : MapOf (zy wr md o) md (Value.int .i64) (zN mq k v)) :
 ZW w (zy wr md o) s V c md q n nb D B ∧ yK (zy wr md o) v (jS c k):=by
 have hon : Only (· = md) wr (zy wr md o):=⟨rfl,rfl,rfl,by simp [zy],fun k _ hk => yC o hk⟩
 have hd : zc4 (zy wr md o) md c:=⟨_,ho,fun k' v' e => by
  rw [xw] at e
  split at e
  · rename_i e2;subst e2;cases e;exact hn.zc2 hm hon
  · exact (hmv k' v' e).zc2 hm hon⟩
 exact ⟨h.step hon hd,hn.zc2 hm hon⟩
theorem ZW.fin (h : ZW w wr s V c md q n nb D B) (u : Value) : zc4 (wr.setCell ⟨w.heap.size,0,none⟩ u) md c ∧ Only (· = md) w (wr.setCell ⟨w.heap.size,0,none⟩ u) :=
 ⟨h.done.jF h.res u,h.only.os,h.only.tape,h.only.output,by simpa using h.only.size,fun k hk hn => (zhc _ _ _ _ (by simp;omega)).trans (h.only.block k hk hn)⟩
end
set_option maxRecDepth 100000 in
set_option maxHeartbeats 16000000 in
theorem zmI {V : Int} (hV : V ≤ 24) (md : Nat) (q : Cc) : ∀ (f : Nat) (h : Int) (w : World) (s : Fb) (c : Cells),zw w s V c → zc4 w md c → zes w s md q → (¬ s.b.mem md ∧ s.ps ≠ md) → ZOk V c → zx c h = true → (24 - zk c h).toNat < f →
 Calls Tryz.prog 195 #[.int .i64 h,.pointer (some ⟨q.s,0,none⟩),.pointer (some ⟨q.d,0,none⟩),.pointer (some ⟨q.a,0,none⟩)] w fun e w' => ∃ v,e = .returned v ∧ yK w' v (jS c h) ∧ zc4 w' md c ∧ Only (· = md) w w'
 | 0,_,_,_,_,_,_,_,_,_,_,hf => absurd hf (Nat.not_lt_zero _)
 | f + 1,h,w,s,c,hs,hd,he,hoff,zo,hh,hf => by
  have Hih:=hid (zmI hV md q f)
  have lh:=hs.le hh
  have c0:=hs.s0
  have lmd:=hd.lt
  have lps:=hs.lps
  have lq:=he.lt
  have lq1:=lq.1;have lq2:=lq.2.1;have lq3:=lq.2.2
  have cs:=zco he.hst
  have cd:=zco he.hd
  have ca:=zco he.ha
  have hbr : Below w.heap.size w (w.alloc (.cells #[.slice none 0 0] 52)):=zba
  have hg:=zbB h _ s.b c (hs.ar.below hbr) lh
  have Hs:=hid hs;have Hd:=hid hd;have He:=hid he;have Hoff:=hid hoff;have Hz:=hid zo;have Hhh:=hid hh;have Hf:=hid hf
  clear hs hd he hoff zo hh hf hbr lq ca
  cases g : getM c h with
  | none =>
   rw [g] at hg
   have hcx:=zkg g
   have hn : h = ((h.toNat : Nat) : Int):=by have:=zj3 Hhh.out;omega
   rw [hcx]
   have Hg:=hid hg;have Hn:=hid hn;clear hg g hcx hn
   go_enter Tryz.func195,Tryz.ntmps195
   go_wp2_with fail
   refine Hg.out.mono ?_
   rintro e w1 ⟨rfl,rfl⟩
   simp only [zaC,qh,Option.getD_none,Option.isSome_none]
   go_wp2_with fail
   have hb:=zgI w (.cells #[.slice none 0 0] 52) (.cells #[.int .i64 0,.int .i64 0,.int .i64 0] 117) (.cells #[.int .i64 0,.int .i64 0,.int .i64 0] 117)
   have hq:=zrN h.toNat (((w.alloc (.cells #[.slice none 0 0] 52)).alloc (.cells #[.int .i64 0,.int .i64 0,.int .i64 0] 117)).alloc (.cells #[.int .i64 0,.int .i64 0,.int .i64 0] 117)) (by omega)
   rw [← Hn.out] at hq
   refine hq.mono ?_
   rintro e w2 ⟨v,rfl,hv,hb2⟩
   obtain ⟨a8,c8,rfl⟩:=hv.shape
   have hr : Res w w2 52 (.slice none 0 0):=zo9 (ze (ze (za rfl))) hb hb2
   have c2:=hr.cell;have f2:=hr.free;have l2:=hr.lt
   have Hv:=hid hv;have Hr:=hid hr
   clear hv hb2 hb hq hr
   go_wp2_with fail
   exact bodyPost_ret (v:=.agg #[.slice a8 (zD h.toNat).length c8]) (by simp [results,Tryz.results195,go_sem,c2]) rfl ⟨_,rfl,Hv.out.jF Hr.out.blk _,Hd.out.below (Hr.out.set _),Only.of_below (Hr.out.set _) rfl⟩
  | some n =>
   obtain ⟨u,lo,hi⟩:=n
   obtain ⟨b1,b2,k1,k2,k3,k4⟩:=Hz.out.ok.kids g
   rw [g] at hg
   have hcx:=zhJ Hz.out.ok g
   have htop:=zK g
   dsimp only at b1 b2 k1 k2 k3 k4 hcx htop
   have Hg:=hid hg;have Hcx:=hid hcx;have Hk1:=hid k1;have Hk2:=hid k2;have Hfuel:=hid (show (24 - zk c lo).toNat < f ∧ (24 - zk c hi).toNat < f by have:=Hf.out;omega)
   have S1:=hid (zmq (zgB hV Hz.out k1).2);have S2:=hid (zmq (zgB hV Hz.out k2).2)
   clear hg hcx g htop k1 k2 k3 k4
   have hb4:=zgm w (.cells #[.slice none 0 0] 52) (.cells #[.int .i64 u,.int .i64 lo,.int .i64 hi] 117) (.cells #[.int .i64 u,.int .i64 lo,.int .i64 hi] 117) (.cells #[.slice none 0 0] 52)
   have hzw : ZW w ((((w.alloc (.cells #[.slice none 0 0] 52)).alloc (.cells #[.int .i64 u,.int .i64 lo,.int .i64 hi] 117)).alloc (.cells #[.int .i64 u,.int .i64 lo,.int .i64 hi] 117)).alloc (.cells #[.slice none 0 0] 52)) s V c md q (u,lo,hi) (w.heap.size + 1 + 1) (w.heap.size + 1 + 1 + 1) (w.heap.size + 1 + 1 + 1) :=
    ⟨Hs.out.below hb4,Hd.out.below hb4,He.out.below hb4,Only.of_below hb4 rfl,⟨lmd,Hoff.out⟩,⟨lps,fun k hk => Hs.out.lt hk,lq1,lq2,lq3⟩,⟨by omega,by simp⟩,ze (za (by simp)),ze (ze (ze (za rfl))),za (by simp),za (by simp),by omega,znr _⟩
   have Hzw:=hid hzw;clear hzw hb4
   go_enter Tryz.func195,Tryz.ntmps195
   go_wp2_with fail
   refine Hg.out.mono ?_
   rintro e w1 ⟨rfl,rfl⟩
   simp only [zaC,qh,Option.getD_some,Option.isSome_some]
   obtain ⟨mq,hmq,hmv⟩:=Hd.out
   have Hmq:=hid (hmq.yX ((zgI w (.cells #[.slice none 0 0] 52) (.cells #[.int .i64 u,.int .i64 lo,.int .i64 hi] 117) (.cells #[.int .i64 u,.int .i64 lo,.int .i64 hi] 117)).block _ lmd));have Hmv:=hid hmv;clear hmq hmv
   have cd3:=zco ((He.out.below (zgI w (.cells #[.slice none 0 0] 52) (.cells #[.int .i64 u,.int .i64 lo,.int .i64 hi] 117) (.cells #[.int .i64 u,.int .i64 lo,.int .i64 hi] 117))).hd)
   cases ha : assoc mq h with
   | some v =>
    have hv:=Hmv.out h v ha
    obtain ⟨a8,c8,rfl⟩:=hv.shape
    have Ha:=hid ha;have Hv:=hid hv;clear ha hv
    go_wp2_with (at_lookup;refine xA rfl (.tmp 25) (.tmp 26) 125 true rfl (kt:=3) (et:=52) (enc:=Value.int .i64) (zbC Tryz.underlying3) Tryz.underlying125 (zl6 _) (b:=md) rfl (l:=mq) Hmq.out (k:=h) rfl ?_;rw [Ha.out];simp only [Option.getD_some,Option.isSome_some,if_true])
    exact bodyPost_ret (v:=.agg #[.slice a8 (zD (jS c h)).length c8]) (by simp [results,Tryz.results195,go_sem]) rfl ⟨_,rfl,Hv.out.below (zgm _ _ _ _ _),Hd.out.below (zgm _ _ _ _ _),Only.of_below (zgm _ _ _ _ _) rfl⟩
   | none =>
    have Ha:=hid ha;clear ha
    go_wp2_with (at_lookup;refine xA rfl (.tmp 25) (.tmp 26) 125 true rfl (kt:=3) (et:=52) (enc:=Value.int .i64) (zbC Tryz.underlying3) Tryz.underlying125 (zl6 _) (b:=md) rfl (l:=mq) Hmq.out (k:=h) rfl ?_;rw [Ha.out];simp only [Option.getD_none,Option.isSome_none,if_true])
    clear Hmq Hmv Ha cs cd cd3
    generalize (((w.alloc (.cells #[.slice none 0 0] 52)).alloc (.cells #[.int .i64 u,.int .i64 lo,.int .i64 hi] 117)).alloc (.cells #[.int .i64 u,.int .i64 lo,.int .i64 hi] 117)).alloc (.cells #[.slice none 0 0] 52) = w4 at Hzw ⊢
    obtain ⟨nb,enb⟩ : ∃ b,b = w.heap.size + 1 + 1:=⟨_,rfl⟩
    obtain ⟨D,eD⟩ : ∃ z,z = w.heap.size + 1 + 1 + 1:=⟨_,rfl⟩
    have hzw:=Hzw.out;clear Hzw
    rw [← eD,← enb] at hzw
    rw [← enb]
    have Hzw:=hid hzw;clear hzw enb eD
    go_upto_region 7 with fail
    go_cut [10] from 32 to 40 (fun p wx => ∃ (BL : Nat) (aL : Option Addr) (cL : Nat),p = .pointer (some ⟨BL,0,none⟩) ∧ ZW w wx s V c md q (u,lo,hi) nb D D ∧ zew wx BL aL cL (jS c h))
    case first =>
     have hw0:=Hzw.out.grow (w2:=w4.drew) ((Below.refl _ _).drew)
     have HIA:=hid (Hzw.out.alloc.grow (w2:=(w4.alloc (.cells #[.slice none 0 0] 52)).drew) ((Below.refl _ _).drew))
     have h90:=hw0.held
     have h91:=zco hw0.zb;have h92:=zfo hw0.zb
     have HI:=hid hw0;have HD:=HI;clear hw0
     go_region_held3 (fun w' => w'.cell? ⟨q.a,0,none⟩ = some (.func (.func 195) #[] #[.pointer (some ⟨q.s,0,none⟩),.pointer (some ⟨q.d,0,none⟩),.pointer (some ⟨q.a,0,none⟩)]) ∧ w'.cell? ⟨nb,1,none⟩ = some (.int .i64 lo) ∧ w'.cell? ⟨nb,2,none⟩ = some (.int .i64 hi))
      (first | exact ⟨h90.ca,h90.b1,h90.b2⟩ | exact ⟨(h90.alloc _).ca,(h90.alloc _).b1,(h90.alloc _).b2⟩ | exact ⟨(HI.out.ziI _).ca,(HI.out.ziI _).b1,(HI.out.ziI _).b2⟩ | go_keep)
      (first
       | (go_at_call 195;first | ((with_reducible refine (Hih.out lo _ s c HI.out.sp HI.out.done HI.out.env Hoff.out Hz.out Hk1.out Hfuel.out.1).mono ?_);rintro e w9 ⟨v9,rfl,hn9,hd9,ho9⟩;obtain ⟨a9,c9,rfl⟩:=hn9.shape;have hi9:=HI.out.step ho9 hd9;clear hd9 ho9;have HN:=hid hn9;clear hn9;clear h90 h91 h92 HI;have HI:=hid hi9;have h90:=hi9.held;have h91:=zco hi9.zb;have h92:=zfo hi9.zb;clear hi9) | (have hgap:=HI.out.gap;clear HD;have HD:=hid hgap;clear hgap;clear HI;have HI:=HIA;(with_reducible refine (Hih.out lo _ s c HI.out.sp HI.out.done HI.out.env Hoff.out Hz.out Hk1.out Hfuel.out.1).mono ?_);rintro e w9 ⟨v9,rfl,hn9,hd9,ho9⟩;obtain ⟨a9,c9,rfl⟩:=hn9.shape;have hi9:=HI.out.step ho9 hd9;clear hd9 ho9;have HN:=hid hn9;clear hn9;clear h90 h91 h92 HI;have HI:=hid hi9;have h90:=hi9.held;have h91:=zco hi9.zb;have h92:=zfo hi9.zb;clear hi9) | ((with_reducible refine (Hih.out hi _ s c HI.out.sp HI.out.done HI.out.env Hoff.out Hz.out Hk2.out Hfuel.out.2).mono ?_);rintro e w9 ⟨v9,rfl,hn9,hd9,ho9⟩;obtain ⟨b9,d9,rfl⟩:=hn9.shape;have hm9:=HN.out.zmap HI.out.done ho9;clear HN;have HN:=hid hm9;clear hm9;have hi9:=HI.out.step ho9 hd9;clear hd9 ho9;have HM:=hid hn9;clear hn9;clear h90 h91 h92 HI;have HI:=hid hi9;have h90:=hi9.held;have h91:=zco hi9.zb;have h92:=zfo hi9.zb;clear hi9) | (have hgap:=HI.out.gap;clear HD;have HD:=hid hgap;clear hgap;have hi9:=HI.out.alloc;clear HI;have HI:=hid hi9;clear hi9;have hm9:=HN.out.below (w':=World.alloc _ (.cells #[.slice none 0 0] 52)) (zba);clear HN;have HN:=hid hm9;clear hm9;(with_reducible refine (Hih.out hi _ s c HI.out.sp HI.out.done HI.out.env Hoff.out Hz.out Hk2.out Hfuel.out.2).mono ?_);rintro e w9 ⟨v9,rfl,hn9,hd9,ho9⟩;obtain ⟨b9,d9,rfl⟩:=hn9.shape;have hm9:=HN.out.zmap HI.out.done ho9;clear HN;have HN:=hid hm9;clear hm9;have hi9:=HI.out.step ho9 hd9;clear hd9 ho9;have HM:=hid hn9;clear hn9;clear h90 h91 h92 HI;have HI:=hid hi9;have h90:=hi9.held;have h91:=zco hi9.zb;have h92:=zfo hi9.zb;clear hi9))
       | (go_at_call 114;first | ((with_reducible refine (zma (jS c lo) (jS c hi) _ _ _ HN.out HM.out S1.out S2.out).mono ?_);rintro e w9 ⟨v9,rfl,hn9,hb9⟩;rw [← Hcx.out] at hn9;obtain ⟨e9,f9,rfl⟩:=hn9.shape;have hi9:=HI.out.grow hb9;clear hb9 HN HM;have HN:=hid hn9;clear hn9;clear h90 h91 h92 HI;have HI:=hid hi9;have h90:=hi9.held;have h91:=zco hi9.zb;have h92:=zfo hi9.zb;clear hi9) | (have hgap:=HI.out.gap;clear HD;have HD:=hid hgap;clear hgap;have hi9:=HI.out.alloc;clear HI;have HI:=hid hi9;clear hi9;have hm9:=HN.out.below (w':=World.alloc _ (.cells #[.slice none 0 0] 52)) (zba);clear HN;have HN:=hid hm9;clear hm9;have hm9:=HM.out.below (w':=World.alloc _ (.cells #[.slice none 0 0] 52)) (zba);clear HM;have HM:=hid hm9;clear hm9;(with_reducible refine (zma (jS c lo) (jS c hi) _ _ _ HN.out HM.out S1.out S2.out).mono ?_);rintro e w9 ⟨v9,rfl,hn9,hb9⟩;rw [← Hcx.out] at hn9;obtain ⟨e9,f9,rfl⟩:=hn9.shape;have hi9:=HI.out.grow hb9;clear hb9 HN HM;have HN:=hid hn9;clear hn9;clear h90 h91 h92 HI;have HI:=hid hi9;have h90:=hi9.held;have h91:=zco hi9.zb;have h92:=zfo hi9.zb;clear hi9)))
     all_goals (go_wp2_with fail;go_meet)
     all_goals first
      | exact ⟨_,_,_,rfl,HI.out.more _,zew.mk' HN.out⟩
      | exact ⟨_,_,_,rfl,HI.out.set HD.out _,HI.out.put HN.out⟩
    case rest =>
     clear Hzw
     obtain ⟨BL,aL,cL,rfl,hzw,hnb⟩:=hcut
     have cd:=zco hzw.env.hd
     have k1:=zco hnb.blk
     obtain ⟨mq5,hmq,hmv⟩:=hzw.done
     have Hzw:=hid hzw;have Hnb:=hid hnb;have Hmq:=hid hmq;have Hmv:=hid hmv;clear hzw hnb hmq hmv
     go_wp2_with (at_mapUpdate;refine yY rfl (.tmp 41) (.tmp 42) (.tmp 43) 125 rfl (kt:=3) (et:=52) (enc:=Value.int .i64) (zbC Tryz.underlying3) Tryz.underlying125 (b:=md) rfl (l:=mq5) Hmq.out (k:=h) rfl (.agg #[.slice aL (zD (jS c h)).length cL]) rfl ?_;intro ob hob;have hi11:=Hzw.out.putM Hmq.out Hmv.out Hnb.out.nat hob;have hon : zew (zy wc md ob) BL aL cL (jS c h):=⟨(yC ob (fun e => by have e2:=Hnb.out.blk;obtain ⟨es,cl,hb,_⟩:=Hmq.out;rw [e,hb] at e2;cases e2)).trans Hnb.out.blk,hi11.2⟩;have k3:=zco hon.blk;have k4:=zco hi11.1.res;have k5:=zfo hi11.1.res;have k6:=zlb hi11.1.res;have Hi11:=hid hi11.1;have Hn11:=hid hon;clear hob hi11 hon Hzw Hnb Hmq Hmv cd k1;generalize zy wc md ob = w11 at Hi11 Hn11 k3 k4 k5 k6 ⊢)
     exact bodyPost_ret (v:=.agg #[.slice aL (zD (jS c h)).length cL]) (by simp [results,Tryz.results195,go_sem,k4]) rfl ⟨_,rfl,Hn11.out.nat.jF Hi11.out.res _,Hi11.out.fin _⟩
def zlW (w : World) (s : Fb) : World :=
 ((((w.alloc (.cells #[.pointer (some ⟨s.ps,0,none⟩)] 172)).alloc (.cells #[.slice none 0 0] 52)).alloc (.map #[] 0)).alloc (.cells #[.map (some (w.heap.size + 1 + 1))] 125)).alloc
  (.cells #[.func (.func 195) #[] #[.pointer (some ⟨w.heap.size,0,none⟩),.pointer (some ⟨w.heap.size + 1 + 1 + 1,0,none⟩),.pointer (some ⟨w.heap.size + 1 + 1 + 1 + 1,0,none⟩)]] 126)
theorem zmP {V : Int} {s : Fb} {w : World} {c : Cells} (hs : zw w s V c) :
 zw (zlW w s) s V c ∧ zc4 (zlW w s) (w.heap.size + 1 + 1) c ∧ zes (zlW w s) s (w.heap.size + 1 + 1) ⟨w.heap.size,w.heap.size + 1 + 1 + 1,w.heap.size + 1 + 1 + 1 + 1⟩ ∧ Below w.heap.size w (zlW w s) ∧ (¬ s.b.mem (w.heap.size + 1 + 1) ∧ s.ps ≠ w.heap.size + 1 + 1) ∧ (zlW w s).heap[w.heap.size + 1]? = some (.cells #[.slice none 0 0] 52 (0,0)):=by
 have hb : Below w.heap.size w (zlW w s):=(zgm w _ _ _ _).alloc (by simp;omega) _
 have lps:=hs.lps
 refine ⟨hs.below hb,⟨[],?_,fun k v e => by cases e⟩,⟨?_,?_,?_,by dsimp only;omega,by dsimp only;omega,by dsimp only;omega⟩,hb,⟨fun hm => by have:=hs.lt hm;omega,by omega⟩,?_⟩
 ·
  have h1:=zbb ((w.alloc (.cells #[.pointer (some ⟨s.ps,0,none⟩)] 172)).alloc (.cells #[.slice none 0 0] 52)) (Value.int .i64)
  simp only [zm] at h1
  exact h1.yX ((((zba).alloc (by simp) _).block _ (by simp)))
 · exact ze (ze (ze (ze (za rfl))))
 · exact ze (za (by simp only [zm]))
 · exact za (by simp only [zm])
 · exact ze (ze (ze (za (by simp only [zm]))))
set_option maxRecDepth 100000 in
set_option maxHeartbeats 8000000 in
theorem zlq {V : Int} (hV : V ≤ 24) (h : Int) (w : World) (s : Fb) (c : Cells) (hs : zw w s V c) (zo : ZOk V c) (hh : zx c h = true) :
 Calls Tryz.prog 152 #[.pointer (some ⟨s.ps,0,none⟩),.int .i64 h] w fun e w' => ∃ v,e = .returned (.tuple #[v,.nilIface]) ∧ yK w' v (jS c h) ∧ Below w.heap.size w w':=by
 have hmm:=@run_makeMap Tryz.prog
 have hmf : ∀ (fn : Fn) (first cap : Array Value) (w : World),(Instr.makeFunc fn first cap).run Tryz.prog w = .ok (.func fn first cap) w:=fun _ _ _ _ => rfl
 have lh:=hs.le hh
 have c0:=hs.s0
 have lps:=hs.lps
 obtain ⟨s1,s2,s3,s4,s5,s6⟩:=zmP hs
 have hb2 : Below w.heap.size w ((w.alloc (.cells #[.pointer (some ⟨s.ps,0,none⟩)] 172)).alloc (.cells #[.slice none 0 0] 52)):=(zba).alloc (by simp) _
 have hha:=xB h _ s.b c (hs.ar.below hb2) lh
 rw [hh] at hha
 have hct:=zmI hV _ _ 25 h _ s c s1 s2 s3 s5 zo hh (by have:=zY zo.ok h;omega)
 dsimp only at hct
 unfold zlW at hct s4 s6
 have Hha:=hid hha;have Hct:=hid hct;have S4:=hid s4;have S6:=hid s6
 clear hha hct hs zo hh s1 s2 s3 s4 s5 s6 hb2
 go_enter Tryz.func152,Tryz.ntmps152
 go_wp2_with fail
 refine Hha.out.mono ?_
 rintro e w' ⟨rfl,rfl⟩
 go_wp2_with fail
 refine Hct.out.mono ?_
 rintro e w1 ⟨v1,rfl,hn1,hdd,ho1⟩
 clear hdd
 obtain ⟨a1,c1,rfl⟩:=hn1.shape
 have hbw : Below w.heap.size w w1:=S4.out.trans (ho1.below S4.out.size (fun k hk => by have e' : k = w.heap.size + 1 + 1:=hk;omega))
 have hres:=(ho1.block _ (zlb S6.out) (fun e => by have e' : w.heap.size + 1 = w.heap.size + 1 + 1:=e;omega)).trans S6.out
 have k1:=zco hres;have k2:=zfo hres;have k3:=zlb hres
 have Hn:=hid hn1;have Hb:=hid hbw;have Hres:=hid hres
 clear hn1 ho1 hbw hres Hct Hha S4 S6 c0
 go_wp2_with fail
 exact bodyPost_ret (v:=.tuple #[.agg #[.slice a1 (zD (jS c h)).length c1],.nilIface]) (by simp [results,Tryz.results152,go_sem,k1]) rfl ⟨_,rfl,Hn.out.jF Hres.out _,Hb.out.setCell (by simp) _⟩
def zaQ : Nat → Cells → Int → Nat → List Nat
 | 0,_,_,_ => []
 | f + 1,c,h,x => match getM c h with
  | none => if h = 1 then [x] else []
  | some n => zaQ f c n.2.1 x ++ zaQ f c n.2.2 (x ||| 2 ^ n.1.toNat)
theorem zdz {f : Nat} {c : Cells} {h : Int} (e : getM c h = none) (x : Nat) : zaQ (f + 1) c h x = if h = 1 then [x] else []:=by simp only [zaQ,e]
theorem zdx {f : Nat} {c : Cells} {h : Int} {n : Nd} (e : getM c h = some n) (x : Nat) : zaQ (f + 1) c h x = zaQ f c n.2.1 x ++ zaQ f c n.2.2 (x ||| 2 ^ n.1.toNat):=by simp only [zaQ,e]
def zhl (c : Cells) (h : Int) (x : Nat) : List Nat:=zaQ 25 c h x
theorem zbU {c : Cells} (o : Ok c) : ∀ (f g : Nat) (h : Int) (x : Nat),(24 - zk c h).toNat < f → f ≤ g → zaQ f c h x = zaQ g c h x
 | 0,_,_,_,h1,_ => absurd h1 (Nat.not_lt_zero _)
 | f + 1,0,_,_,_,h2 => absurd h2 (by omega)
 | f + 1,g + 1,h,x,h1,h2 => by
  cases e : getM c h with
  | none => rw [zdz e,zdz e]
  | some n =>
   obtain ⟨k1,k2,_,_,k3,k4⟩:=o.kids e
   rw [zK e] at h1
   rw [zdx e,zdx e,zbU o f g n.2.1 _ (by omega) (by omega),zbU o f g n.2.2 _ (by omega) (by omega)]
theorem zhQ {c : Cells} (o : Ok c) {h : Int} {n : Nd} (e : getM c h = some n) (x : Nat) : zhl c h x = zhl c n.2.1 x ++ zhl c n.2.2 (x ||| 2 ^ n.1.toNat):=by
 obtain ⟨k1,k2,_,_,k3,k4⟩:=o.kids e
 show zaQ (24 + 1) c h x = zaQ 25 c n.2.1 x ++ zaQ 25 c n.2.2 _
 rw [zdx e,zbU o 24 25 n.2.1 _ (by omega) (by omega),zbU o 24 25 n.2.2 _ (by omega) (by omega)]
theorem zkz {c : Cells} {h : Int} (e : getM c h = none) (x : Nat) : zhl c h x = if h = 1 then [x] else []:=zdz (f:=24) e x
def smN (y : Nat) : St:=fun u => decide (0 ≤ u) && y.testBit u.toNat
theorem zpg {c : Cells} (o : Ok c) : ∀ (h : Int) (x y : Nat),y ∈ zhl c h x ↔ ∃ s,Z c h s ∧ ∀ j : Nat,y.testBit j = (x.testBit j || s (j : Int)):=by
 refine jH o (Q:=fun h => ∀ (x y : Nat),y ∈ zhl c h x ↔ ∃ s,Z c h s ∧ ∀ j : Nat,y.testBit j = (x.testBit j || s (j : Int))) (fun h g x y => ?_) (fun h n g ih1 ih2 x y => ?_)
 ·
  rw [zkz g]
  by_cases h1 : h = 1
  ·
   rw [if_pos h1,List.mem_singleton]
   constructor
   ·
    rintro rfl
    exact ⟨fun _ => false,(zaA g _).2 ⟨h1,fun _ => rfl⟩,fun j => by simp⟩
   ·
    rintro ⟨s,hs,hj⟩
    have h0:=((zaA g s).1 hs).2
    refine Nat.eq_of_testBit_eq fun j => ?_
    rw [hj,h0];simp
  ·
   rw [if_neg h1]
   constructor
   · intro h;cases h
   · rintro ⟨s,hs,_⟩;exact absurd ((zaA g s).1 hs).1 h1
 ·
  obtain ⟨b1,b2,k1,k2,k3,k4⟩:=o.kids g
  have en : ((n.1.toNat : Nat) : Int) = n.1:=by omega
  rw [zhQ o g,List.mem_append,ih1,ih2]
  constructor
  ·
   rintro (⟨s,hs,hj⟩ | ⟨s,hs,hj⟩)
   · exact ⟨s,((zir o g s).1 hs).2,hj⟩
   ·
    refine ⟨yw s n.1 true,((zcw o g s).1 hs).2,fun j => ?_⟩
    rw [hj,Nat.testBit_or,Nat.testBit_two_pow]
    by_cases e : (j : Int) = n.1
    ·
     have : n.1.toNat = j:=by omega
     rw [e,xR,this];simp
    ·
     have : ¬ n.1.toNat = j:=by omega
     rw [kK _ _ e,decide_eq_false this];simp
  ·
   rintro ⟨s,hs,hj⟩
   cases e : s n.1
   · exact .inl ⟨s,(zir o g s).2 ⟨e,hs⟩,hj⟩
   ·
    refine .inr ⟨yw s n.1 false,(zcw o g _).2 ⟨xR _ _ _,by rw [yS,zG e];exact hs⟩,fun j => ?_⟩
    rw [hj,Nat.testBit_or,Nat.testBit_two_pow]
    by_cases e2 : (j : Int) = n.1
    ·
     have : n.1.toNat = j:=by omega
     rw [e2,xR,this,e];simp
    ·
     have : ¬ n.1.toNat = j:=by omega
     rw [kK _ _ e2,decide_eq_false this];simp
theorem zmf {V : Int} (hV : V ≤ 24) {c : Cells} (o : ZOk V c) (h : Int) (y : Nat) : y ∈ zhl c h 0 ↔ Z c h (smN y):=by
 rw [zpg o.ok]
 constructor
 ·
  rintro ⟨s,hs,hj⟩
  have : s = smN y:=by
   funext u
   unfold smN
   by_cases hu : 0 ≤ u
   ·
    have:=hj u.toNat
    rw [Nat.zero_testBit,show ((u.toNat : Nat) : Int) = u by omega] at this
    rw [this];simp [hu]
   ·
    rw [decide_eq_false hu]
    cases e : s u
    · rfl
    · exact absurd (ziM hV o h s hs u e).1 hu
  rw [← this];exact hs
 ·
  intro hs
  refine ⟨_,hs,fun j => ?_⟩
  unfold smN;simp
theorem zpl {V : Int} (hV : V ≤ 24) {c : Cells} (o : ZOk V c) (h : Int) (y : Nat) (hy : y ∈ zhl c h 0) : y < 2 ^ V.toNat:=by
 have hz:=(zmf hV o h y).1 hy
 refine Nat.lt_pow_two_of_testBit y fun j hj => ?_
 cases e : y.testBit j
 · rfl
 ·
  have:=Z_lt o.ok o.vlt h _ hz (j : Int) (by unfold smN;simp [e])
  omega
theorem zri {x n : Nat} (hx : x < 2 ^ 24) (hn : n < 24) : bits .or .u64 (x : Int) (IntKind.u64.wrap ((2 : Int) ^ n)) = ((x ||| 2 ^ n : Nat) : Int):=by
 have h1 : (2 : Nat) ^ n < 2 ^ 24:=Nat.pow_lt_pow_right (by decide) hn
 have h2 : IntKind.u64.wrap ((2 : Int) ^ n) = ((2 ^ n : Nat) : Int):=by
  have h3 : (2 : Int) ^ n = ((2 ^ n : Nat) : Int):=by simp
  rw [h3]
  generalize (2 : Nat) ^ n = k at h1
  rw [IntKind.wrap_u64];omega
 rw [h2]
 exact bits_or_u64_nat x (2 ^ n) (by omega) (by omega)
theorem or_lt {x n : Nat} (hx : x < 2 ^ 24) (hn : n < 24) : x ||| 2 ^ n < 2 ^ 24:=Nat.or_lt_two_pow hx (Nat.pow_lt_pow_right (by decide) hn)
def zdX (ks : List Nat) : List Int:=ks.map fun m : Nat => (m : Int)
def SMap (w : World) (md : Nat) (ks : List Nat) : Prop:=∃ mq : List (Int × Value),MapOf w md (Value.int .u64) mq ∧ ∀ y : Int,assoc mq y = if y ∈ zdX ks then some (.bool true) else none
theorem SMap.lt {w : World} {md : Nat} {ks : List Nat} (h : SMap w md ks) : md < w.heap.size:=by obtain ⟨mq,h1,_⟩:=h;exact h1.lt
theorem SMap.keep {w w' : World} {md : Nat} {ks : List Nat} (h : SMap w md ks) (hb : w'.heap[md]? = w.heap[md]?) : SMap w' md ks:=by
 obtain ⟨mq,h1,h2⟩:=h;exact ⟨mq,h1.yX hb,h2⟩
theorem SMap.below {w w' : World} {md : Nat} {ks : List Nat} (h : SMap w md ks) (hb : Below w.heap.size w w') : SMap w' md ks:=h.keep (hb.block _ h.lt)
theorem SMap.put {w : World} {md : Nat} {ks : List Nat} {mq : List (Int × Value)} (hq : ∀ y : Int,assoc mq y = if y ∈ zdX ks then some (.bool true) else none) {x : Nat} {o : Obj} (hm : MapOf (zy w md o) md (Value.int .u64) (zN mq (x : Int) (.bool true))) : SMap (zy w md o) md (ks ++ [x]):=by
 refine ⟨_,hm,fun y => ?_⟩
 rw [xw,hq]
 unfold zdX
 by_cases e : (x : Int) = y
 · rw [if_pos e,if_pos (by simp [← e])]
 ·
  rw [if_neg e]
  have : (y ∈ (ks ++ [x]).map fun m : Nat => (m : Int)) ↔ y ∈ ks.map fun m : Nat => (m : Int):=by
   rw [List.map_append,List.mem_append]
   exact ⟨fun h => h.elim id (fun h => absurd (List.mem_singleton.1 h).symm e),.inl⟩
  by_cases h : y ∈ ks.map fun m : Nat => (m : Int)
  · rw [if_pos h,if_pos (this.2 h)]
  · rw [if_neg h,if_neg (fun h2 => h (this.1 h2))]
structure zkC (w : World) (s : Fb) (md : Nat) (q : Cc) : Prop where
 hst : w.heap[q.s]? = some (.cells #[.pointer (some ⟨s.ps,0,none⟩)] 172 (0,0))
 hd : w.heap[q.d]? = some (.cells #[.map (some md)] 248 (0,0))
 ha : w.heap[q.a]? = some (.cells #[.func (.func 154) #[] #[.pointer (some ⟨q.s,0,none⟩),.pointer (some ⟨q.d,0,none⟩),.pointer (some ⟨q.a,0,none⟩)]] 247 (0,0))
 off : q.s ≠ md ∧ q.d ≠ md ∧ q.a ≠ md ∧ ¬ s.b.mem md ∧ s.ps ≠ md
section
variable {w w2 : World} {s : Fb} {md : Nat} {q : Cc}
theorem zkC.only (h : zkC w s md q) (ho : Only (· = md) w w2) : zkC w2 s md q :=
 ⟨(ho.block _ (zlb h.hst) h.off.1).trans h.hst,(ho.block _ (zlb h.hd) h.off.2.1).trans h.hd,(ho.block _ (zlb h.ha) h.off.2.2.1).trans h.ha,h.off⟩
theorem zkC.below (h : zkC w s md q) (hb : Below w.heap.size w w2) : zkC w2 s md q :=
 ⟨(hb.block _ (zlb h.hst)).trans h.hst,(hb.block _ (zlb h.hd)).trans h.hd,(hb.block _ (zlb h.ha)).trans h.ha,h.off⟩
end
def zo0 (md : Nat) (ks : List Nat) (w : World) (e : Ending) (w' : World) : Prop:=e = .returned (.tuple #[]) ∧ SMap w' md ks ∧ Only (· = md) w w'
set_option maxRecDepth 100000 in
set_option maxHeartbeats 8000000 in
theorem zrx {V : Int} (hV : V ≤ 24) (md : Nat) (q : Cc) : ∀ (f : Nat) (v h : Int) (x : Nat) (ks : List Nat) (w : World) (s : Fb) (c : Cells),zw w s V c → SMap w md ks → zkC w s md q → ZOk V c → zx c h = true → (24 - zk c h).toNat < f → x < 2 ^ 24 →
 Calls Tryz.prog 154 #[.int .i64 v,.int .i64 h,.int .u64 x,.pointer (some ⟨q.s,0,none⟩),.pointer (some ⟨q.d,0,none⟩),.pointer (some ⟨q.a,0,none⟩)] w (zo0 md (ks ++ zhl c h x) w)
 | 0,_,_,_,_,_,_,_,_,_,_,_,_,hf,_ => absurd hf (Nat.not_lt_zero _)
 | f + 1,v,h,x,ks,w,s,c,hs,hd,he,zo,hh,hf,hx => by
  have Hih:=hid (zrx hV md q f)
  have lh:=hs.le hh
  have c0:=hs.s0
  have lps:=hs.lps
  have cs:=zco he.hst
  have hg:=zbB h w s.b c hs.ar lh
  have Hs:=hid hs;have Hd:=hid hd;have He:=hid he;have Hz:=hid zo;have Hhh:=hid hh;have Hf:=hid hf;have Hx:=hid hx
  clear hs hd he zo hh hf hx
  cases g : getM c h with
  | none =>
   rw [g] at hg
   have hb : Below w.heap.size w ((w.alloc (.cells #[.int .i64 0,.int .i64 0,.int .i64 0] 117)).alloc (.cells #[.int .i64 0,.int .i64 0,.int .i64 0] 117)):=(zba).alloc (by simp) _
   have hox:=zkz g x
   have cd2:=zco (He.out.below hb).hd
   have Hg:=hid hg;have HB:=hid hb;clear hg g hb
   by_cases h1 : h = 1
   ·
    rw [if_pos h1] at hox
    rw [hox]
    clear hox
    subst h1
    obtain ⟨mq,hmq,hmv⟩:=Hd.out.below HB.out
    have Hmq:=hid hmq;have Hmv:=hid hmv;clear hmq hmv
    go_enter Tryz.func154,Tryz.ntmps154
    go_wp2_with fail
    refine Hg.out.mono ?_
    rintro e w1 ⟨rfl,rfl⟩
    simp only [zaC,qh,Option.getD_none,Option.isSome_none]
    go_wp2_with (at_mapUpdate;refine yY rfl (.tmp 24) (.tmp 25) (.const (.bool true)) 248 rfl (kt:=22) (et:=4) (enc:=Value.int .u64) (zbC Tryz.underlying22) Tryz.underlying248 (b:=md) rfl (l:=mq) Hmq.out (k:=(x : Int)) rfl (.bool true) rfl ?_;intro ob hob;have hi11:=SMap.put Hmv.out hob;have Hi11:=hid hi11;have hon : Only (· = md) w (zy ((w.alloc (.cells #[.int .i64 0,.int .i64 0,.int .i64 0] 117)).alloc (.cells #[.int .i64 0,.int .i64 0,.int .i64 0] 117)) md ob):=(Only.of_below HB.out rfl).trans ⟨rfl,rfl,rfl,by simp [zy],fun k _ hk => yC ob hk⟩;have Hon:=hid hon;clear hob hi11 hon;generalize zy ((w.alloc (.cells #[.int .i64 0,.int .i64 0,.int .i64 0] 117)).alloc (.cells #[.int .i64 0,.int .i64 0,.int .i64 0] 117)) md ob = w9 at Hi11 Hon ⊢)
    go_end0
    exact ⟨rfl,Hi11.out,Hon.out⟩
   ·
    have e1 : (h == 1) = false:=by simpa using h1
    rw [if_neg h1] at hox
    rw [hox,List.append_nil]
    clear hox h1
    go_enter Tryz.func154,Tryz.ntmps154
    go_wp2_with fail
    refine Hg.out.mono ?_
    rintro e w1 ⟨rfl,rfl⟩
    simp only [zaC,qh,Option.getD_none,Option.isSome_none]
    go_wp2_with fail
    go_end0
    exact ⟨rfl,Hd.out.below HB.out,Only.of_below HB.out rfl⟩
  | some n =>
   obtain ⟨u,lo,hi⟩:=n
   rw [g] at hg
   obtain ⟨b1,b2,k1,k2,k3,k4⟩:=Hz.out.ok.kids g
   have hcx:=zhQ Hz.out.ok g x
   have htop:=zK g
   dsimp only at b1 b2 k1 k2 k3 k4 hcx htop
   rw [hcx,← List.append_assoc]
   have hb : Below w.heap.size w ((w.alloc (.cells #[.int .i64 u,.int .i64 lo,.int .i64 hi] 117)).alloc (.cells #[.int .i64 u,.int .i64 lo,.int .i64 hi] 117)):=(zba).alloc (by simp) _
   have ca2:=zco (He.out.below hb).ha
   have hbx : ((w.alloc (.cells #[.int .i64 u,.int .i64 lo,.int .i64 hi] 117)).alloc (.cells #[.int .i64 u,.int .i64 lo,.int .i64 hi] 117)).heap[w.heap.size + 1]? = some (.cells #[.int .i64 u,.int .i64 lo,.int .i64 hi] 117 (0,0)):=za (by simp)
   have hq1:=Hih.out (u + 1) lo x ks _ s c (Hs.out.below hb) (Hd.out.below hb) (He.out.below hb) Hz.out k1 (by have:=Hf.out;omega) Hx.out
   have Hg:=hid hg;have Hq1:=hid hq1;have HB:=hid hb;have Hbx:=hid hbx;have Hk2:=hid k2;have Hf2:=hid (show (24 - zk c hi).toNat < f by have:=Hf.out;omega)
   have lmd:=Hd.out.lt
   have Lmd:=hid lmd
   clear hg hq1 hb hbx g hcx htop k1 k2 k3 k4 lmd
   go_enter Tryz.func154,Tryz.ntmps154
   go_wp2_with fail
   refine Hg.out.mono ?_
   rintro e w1 ⟨rfl,rfl⟩
   simp only [zaC,qh,Option.getD_some,Option.isSome_some]
   go_wp2_with fail
   refine Hq1.out.mono ?_
   rintro e w2 ⟨rfl,hm2,ho2⟩
   clear ca2
   have hb2:=(ho2.block _ (zlb Hbx.out) (fun e => by have e2 : w.heap.size + 1 = md:=e;have:=Lmd.out;omega)).trans Hbx.out
   have he2:=(He.out.below HB.out).only ho2
   have hs2:=(Hs.out.below HB.out).only ho2 (fun e => He.out.off.2.2.2.2 e) (fun k hk e => He.out.off.2.2.2.1 (e ▸ hk))
   have ca2:=zco he2.ha
   have d0 : w2.cell? ⟨w.heap.size + 1,0,none⟩ = some (.int .i64 u):=by rw [cell_of_row w2 _ _ _ _ _ hb2];rfl
   have d2 : w2.cell? ⟨w.heap.size + 1,2,none⟩ = some (.int .i64 hi):=by rw [cell_of_row w2 _ _ _ _ _ hb2];rfl
   have Hm2:=hid hm2;have Ho2:=hid ho2;have He2:=hid he2;have Hs2:=hid hs2
   clear hm2 ho2 he2 hs2 hb2 Hq1 Hg
   go_wp2_with fail
   have hor:=zri (n:=u.toNat) Hx.out (by omega)
   have hwr : IntKind.i64.wrap (u + 1) = u + 1:=IntWalk.i64_in _ (by omega)
   have Hor:=hid hor;have Hwr:=hid hwr;clear hor hwr
   go_still_tail 11,(by kernel_rfl)
   rw [Hor.out,Hwr.out]
   have hs3:=Hs2.out.below (w2:=w2.drew) (Below.refl _ _).drew
   have he3:=He2.out.below (w2:=w2.drew) (Below.refl _ _).drew
   have hm3:=Hm2.out.below (w':=w2.drew) (Below.refl _ _).drew
   have hq2:=Hih.out (u + 1) hi (x ||| 2 ^ u.toNat) _ w2.drew s c hs3 hm3 he3 Hz.out Hk2.out Hf2.out (or_lt Hx.out (by omega))
   have Hq2:=hid hq2;clear hq2 hs3 he3 hm3
   change wpList _ _ _ _ _ w2.drew
   have ho3 : Only (· = md) w w2.drew:=((Only.of_below HB.out rfl).trans Ho2.out).drew
   have Ho3:=hid ho3;clear ho3
   generalize w2.drew = w3 at Hq2 Ho3 ⊢
   clear ca2 d0 d2
   go_wp2_with fail
   refine Hq2.out.mono ?_
   rintro e w4 ⟨rfl,hm4,ho4⟩
   have Hm4:=hid hm4;have Ho4:=hid ho4;clear hm4 ho4
   go_wp2_with fail
   go_end0
   exact ⟨rfl,Hm4.out,Ho3.out.trans Ho4.out⟩
def zcm (w : World) (g e cap n : Nat) (f : Nat → Nat) : Prop:=∃ cur : Array Value,w.heap[g]? = some (.cells cur e (0,0)) ∧ cur.size = cap ∧ ∀ k,k < n → cur[k]? = some (.int .u64 (f k : Nat))
theorem zcm.cell {w : World} {g e cap n : Nat} {f : Nat → Nat} (h : zcm w g e cap n f) {k : Nat} (hk : k < n) : w.cell? ⟨g,k,none⟩ = some (.int .u64 (f k : Nat)):=by
 obtain ⟨cur,h1,_,h3⟩:=h;rw [cell_of_row w g _ _ _ _ h1];exact h3 k hk
theorem zcm.free {w : World} {g e cap n : Nat} {f : Nat → Nat} (h : zcm w g e cap n f) (k : Nat) : w.frozen? ⟨g,k,none⟩ = false:=by
 obtain ⟨cur,h1,_⟩:=h;exact kE h1
theorem zcm.lt {w : World} {g e cap n : Nat} {f : Nat → Nat} (h : zcm w g e cap n f) : g < w.heap.size:=by
 obtain ⟨cur,h1,_⟩:=h;exact (Array.getElem?_eq_some_iff.1 h1).1
theorem zcm.drew {w : World} {g e cap n : Nat} {f : Nat → Nat} (h : zcm w g e cap n f) (m : Nat) : zcm (w.drewN m) g e cap n f:=h
def zbA (f : Nat → Nat) (j : Nat) : Nat → Nat:=fun k => if k = j + 1 then f j else if k = j then f (j + 1) else f k
theorem zcm.swap {w : World} {g e cap n : Nat} {f : Nat → Nat} (h : zcm w g e cap n f) {j : Nat} (hj : j + 1 < n) (hc : n ≤ cap) :
 zcm ((w.setCell ⟨g,j + 1,none⟩ (.int .u64 (f j : Nat))).setCell ⟨g,j,none⟩ (.int .u64 (f (j + 1) : Nat))) g e cap n (zbA f j):=by
 obtain ⟨cur,h1,h2,h3⟩:=h
 refine ⟨_,qX (qX h1 _ _) _ _,by simp [h2],fun k hk => ?_⟩
 unfold zbA
 simp only [Array.getElem?_setIfInBounds,Array.size_setIfInBounds]
 by_cases e1 : k = j
 ·
  subst e1
  rw [if_pos rfl,if_pos (by omega),if_neg (by omega),if_pos rfl]
 ·
  rw [if_neg (fun h => e1 h.symm)]
  by_cases e2 : k = j + 1
  · subst e2;rw [if_pos rfl,if_pos (by omega),if_pos rfl]
  · rw [if_neg (fun h => e2 h.symm),if_neg e2,if_neg e1];exact h3 k hk
structure Same (n : Nat) (f0 f : Nat → Nat) : Prop where
 mem : ∀ y,(∃ k,k < n ∧ f k = y) ↔ ∃ k,k < n ∧ f0 k = y
 inj : (∀ a b,a < n → b < n → f0 a = f0 b → a = b) → ∀ a b,a < n → b < n → f a = f b → a = b
theorem Same.refl (n : Nat) (f : Nat → Nat) : Same n f f:=⟨fun _ => Iff.rfl,fun h => h⟩
theorem Same.swap {n : Nat} {f0 f : Nat → Nat} (h : Same n f0 f) {j : Nat} (hj : j + 1 < n) : Same n f0 (zbA f j):=by
 have key : ∀ k,k < n → ∃ k',k' < n ∧ f k' = zbA f j k ∧ (k' = if k = j + 1 then j else if k = j then j + 1 else k):=fun k hk => by
  unfold zbA
  by_cases e2 : k = j + 1
  · exact ⟨j,by omega,by rw [if_pos e2],by rw [if_pos e2]⟩
  ·
   by_cases e1 : k = j
   · exact ⟨j + 1,hj,by rw [if_neg e2,if_pos e1],by rw [if_neg e2,if_pos e1]⟩
   · exact ⟨k,hk,by rw [if_neg e2,if_neg e1],by rw [if_neg e2,if_neg e1]⟩
 have back : ∀ k,k < n → ∃ k',k' < n ∧ zbA f j k' = f k:=fun k hk => by
  by_cases e2 : k = j + 1
  · exact ⟨j,by omega,by unfold zbA;rw [if_neg (by omega),if_pos rfl,e2]⟩
  ·
   by_cases e1 : k = j
   · exact ⟨j + 1,hj,by unfold zbA;rw [if_pos rfl,e1]⟩
   · exact ⟨k,hk,by unfold zbA;rw [if_neg e2,if_neg e1]⟩
 refine ⟨fun y => ?_,fun hi a b ha hb e => ?_⟩
 ·
  rw [← h.mem]
  constructor
  · rintro ⟨k,hk,rfl⟩;obtain ⟨k',h1,h2,_⟩:=key k hk;exact ⟨k',h1,h2⟩
  · rintro ⟨k,hk,rfl⟩;obtain ⟨k',h1,h2⟩:=back k hk;exact ⟨k',h1,h2⟩
 ·
  obtain ⟨a',h1,h2,h3⟩:=key a ha
  obtain ⟨b',g1,g2,g3⟩:=key b hb
  have:=h.inj hi a' b' h1 g1 (by rw [h2,g2,e])
  rw [h3,g3] at this
  by_cases x1 : a = j + 1 <;> by_cases x2 : b = j + 1
  · omega
  · rw [if_pos x1,if_neg x2] at this;split at this <;> omega
  · rw [if_neg x1,if_pos x2] at this;split at this <;> omega
  · rw [if_neg x1,if_neg x2] at this;split at this <;> split at this <;> omega
structure Ris (i k : Nat) (f : Nat → Nat) : Prop where
 r1 : ∀ a b,a < b → b ≤ i → a ≠ k → b ≠ k → f a ≤ f b
 r2 : ∀ b,k < b → b ≤ i → f k ≤ f b
theorem Ris.start {i : Nat} {f : Nat → Nat} (h : ∀ a b,a < b → b < i → f a ≤ f b) : Ris i i f:=⟨fun a b h1 h2 h3 h4 => h a b h1 (by omega),fun b h1 h2 => absurd h1 (by omega)⟩
theorem Ris.swap {i j : Nat} {f : Nat → Nat} (h : Ris i (j + 1) f) (hlt : f (j + 1) < f j) (hi : j + 1 ≤ i) : Ris i j (zbA f j):=by
 refine ⟨fun a b h1 h2 h3 h4 => ?_,fun b h1 h2 => ?_⟩
 ·
  unfold zbA
  rw [if_neg h3,if_neg h4]
  by_cases ea : a = j + 1
  · rw [if_pos ea,if_neg (by omega)];exact h.r1 j b (by omega) h2 (by omega) (by omega)
  ·
   rw [if_neg ea]
   by_cases eb : b = j + 1
   · rw [if_pos eb];exact h.r1 a j (by omega) (by omega) ea (by omega)
   · rw [if_neg eb];exact h.r1 a b h1 h2 ea eb
 ·
  unfold zbA
  rw [if_neg (by omega),if_pos rfl]
  by_cases eb : b = j + 1
  · rw [if_pos eb];omega
  · rw [if_neg eb,if_neg (by omega)];exact h.r2 b (by omega) h2
theorem Ris.done {i k : Nat} {f : Nat → Nat} (h : Ris i k f) (hk : k ≤ i) (hlt : ∀ j,k = j + 1 → ¬ f (j + 1) < f j) : ∀ a b,a < b → b < i + 1 → f a ≤ f b:=by
 intro a b h1 h2
 by_cases ea : a = k
 · subst ea;exact h.r2 b h1 (by omega)
 ·
  by_cases eb : b = k
  ·
   subst eb
   obtain ⟨j,rfl⟩ : ∃ j,b = j + 1:=⟨b - 1,by omega⟩
   have h3:=hlt j rfl
   by_cases e : a = j
   · subst e;omega
   · have:=h.r1 a j (by omega) (by omega) ea (by omega);omega
  · exact h.r1 a b h1 (by omega) ea eb
set_option maxRecDepth 100000 in
set_option maxHeartbeats 8000000 in
theorem zld (g e cap n : Nat) (f0 : Nat → Nat) (w : World) (h : zcm w g e cap n f0) (hc : n ≤ cap) (hn : n ≤ 20000000) :
 Calls Tryz.prog 155 #[.slice (some ⟨g,0,none⟩) n cap] w fun en w' => en = .returned (.tuple #[]) ∧ (∃ f,zcm w' g e cap n f ∧ Same n f0 f ∧ ∀ a b,a < b → b < n → f a ≤ f b) ∧ Only (· = g) w w':=by
 have H:=hid h;clear h
 go_enter Tryz.func155,Tryz.ntmps155
 go_wp2_with fail
 go_loopg [2] n (fun gk i wr => ∃ (k : Nat) (f : Nat → Nat),1 ≤ k ∧ (k ≤ n ∨ k = 1) ∧ gk = n + 1 - k ∧ i = .int .i64 k ∧ zcm wr g e cap n f ∧ Same n f0 f ∧ (∀ a b,a < b → b < k → f a ≤ f b) ∧ Only (· = g) w wr)
 case atStart => exact ⟨1,f0,znr _,.inr rfl,by omega,rfl,H.out,Same.refl _ _,fun a b h1 h2 => by omega,Only.refl _ _⟩
 case round =>
  obtain ⟨k,f,hk1,hk2,rfl,rfl,hr,hs,hso,ho⟩:=hrel
  have Hr:=hid hr;have Hs:=hid hs;have Hso:=hid hso;have Ho:=hid ho;clear hr hs hso ho
  obtain ⟨wo,rfl⟩ : ∃ wo : World,wo = wr:=⟨_,rfl⟩
  by_cases hk : k < n
  ·
   go_wp2_with fail
   go_loopg [3] k (fun gi i wr => ∃ (j : Nat) (f' : Nat → Nat),j ≤ k ∧ j = gi ∧ i = .int .i64 j ∧ zcm wr g e cap n f' ∧ Same n f0 f' ∧ Ris k j f' ∧ Only (· = g) w wr)
   case atStart => exact ⟨k,f,znr _,rfl,rfl,Hr.out,Hs.out,Ris.start Hso.out,Ho.out⟩
   case round =>
    clear Hr Hs Hso Ho
    obtain ⟨j,f',hj,rfl,rfl,hr,hs,hri,ho⟩:=hrel
    have Hr:=hid hr;have Hs:=hid hs;have Hri:=hid hri;have Ho:=hid ho;clear hr hs hri ho
    rcases j with _ | j
    ·
     have hd : decide ((0 : Int) < ((0 : Nat) : Int)) = false:=by decide
     go_wp2_with fail
     go_quiet (fail)
     go_wp2_with fail
     go_roundg (n + 1 - (k + 1))
     case measure => omega
     case rel => exact ⟨k + 1,f',by omega,by omega,rfl,by go_num,Hr.out.drew _,Hs.out,Hri.out.done (by omega) (fun j h => by omega),Ho.out.drewN _⟩
    ·
     have c1:=Hr.out.cell (k:=j + 1) (by omega)
     have c2:=Hr.out.cell (k:=j) (by omega)
     have z1:=Hr.out.free (j + 1)
     have z2:=Hr.out.free j
     have hd : decide ((0 : Int) < (j : Int) + 1) = true:=by simp
     have hw : IntKind.i64.wrap ((j : Int) + 1 - 1) = (j : Int):=by rw [IntWalk.i64_in _ (by omega)];omega
     have hsw:=Hr.out.swap (j:=j) (by omega) hc
     by_cases hlt : f' (j + 1) < f' j
     ·
      have hlt2 : decide (f' (j + 1) < f' j) = true:=by simpa using hlt
      have Hlt:=hid hlt;have Hsw:=hid hsw;clear hlt hsw
      go_wp2_with fail
      go_quiet (fail)
      go_wp2_with fail
      clear hlt2 hd
      go_region
      all_goals
       go_wp2_with fail
       go_roundg j
       case measure => omega
       case rel => exact ⟨j,zbA f' j,by omega,rfl,rfl,Hsw.out,Hs.out.swap (by omega),Hri.out.swap Hlt.out (by omega),((Ho.out.drewN _).setCell (.inl rfl) _).setCell (.inl rfl) _⟩
     ·
      have hlt2 : decide (f' (j + 1) < f' j) = false:=by simpa using hlt
      have Hlt:=hid hlt;clear hlt hsw
      go_wp2_with fail
      go_quiet (fail)
      go_wp2_with fail
      go_roundg (n + 1 - (k + 1))
      case measure => omega
      case rel => exact ⟨k + 1,f',by omega,by omega,rfl,by go_num,Hr.out.drew _,Hs.out,Hri.out.done (by omega) (fun j' h => by have e : j = j':=(by omega);subst e;exact Hlt.out),Ho.out.drewN _⟩
  ·
   go_wp2_with fail
   go_end0
   have hkn : n ≤ k:=by omega
   exact ⟨rfl,⟨f,Hr.out,Hs.out,fun a b h1 h2 => Hso.out a b h1 (by omega)⟩,Ho.out⟩
theorem znw {n : Nat} (h0 : n ≠ 0) (h : n < B32) : zD n = [n]:=by
 rw [zcV h0,Nat.mod_eq_of_lt h,Nat.div_eq_of_lt h,qK]
theorem or_zero {n : Nat} (h : n < B32) : bits .or .u64 0 (n : Int) = (n : Int):=by
 have:=bits_or_u64_nat 0 n (by decide) (by unfold B32 at h;omega)
 simpa using this
set_option maxRecDepth 100000 in
set_option maxHeartbeats 2000000 in
theorem zpI (n : Nat) (v : Value) (w : World) (hv : yK w v n) (hn : n < B32) :
 Calls Tryz.prog 153 #[v] w fun e w' => e = .returned (.tuple #[.int .i64 n,.bool true]) ∧ Below w.heap.size w w':=by
 obtain ⟨a,c,rfl⟩:=hv.shape
 have hl:=hv.limbs
 by_cases h0 : n = 0
 ·
  subst h0
  rw [qK] at hl ⊢
  have Hl:=hid hl;clear hv hl hn
  go_enter Tryz.func153,Tryz.ntmps153
  go_wp2_with fail
  go_loopg [4,10] 0 (fun gk u i wr => gk = 0 ∧ u = .int .u64 0 ∧ i = .int .i64 0 ∧ wr = w.alloc (.cells #[.slice a 0 c] 52))
  case atStart => exact ⟨rfl,rfl,rfl,rfl⟩
  case round =>
   obtain ⟨rfl,rfl,rfl,rfl⟩:=hrel
   go_wp2_with fail
   go_ret2
   exact ⟨rfl,zba⟩
 ·
  have hn':=hn
  have Hor:=hid (or_zero hn)
  unfold B32 at hn'
  rw [znw h0 hn] at hl ⊢
  obtain ⟨b,o,rfl,lb⟩:=hl.addr (k:=0) (by simp)
  have hc:=hl.get (k:=0) (by simp)
  simp only [List.getElem_cons_zero,Nat.add_zero] at hc
  have Hl:=hid hl;clear hv hl hn
  have hx0 : (0 : Int) ≤ (n : Int):=by omega
  have hx1 : (n : Int) < 4294967296:=by omega
  generalize ((n : Nat) : Int) = x at hc Hor hx0 hx1 ⊢
  have hge : decide ((9223372036854775808 : Int) ≤ x) = false:=by simp;omega
  clear hn'
  go_enter Tryz.func153,Tryz.ntmps153
  go_wp2_with fail
  go_loopg [4,10] 1 (fun gk u i wr => wr = w.alloc (.cells #[.slice (some ⟨b,o,none⟩) 1 c] 52) ∧ ((gk = 1 ∧ u = .int .u64 0 ∧ i = .int .i64 0) ∨ (gk = 0 ∧ u = .int .u64 x ∧ i = .int .i64 1)))
  case atStart => exact ⟨rfl,.inl ⟨rfl,rfl,rfl⟩⟩
  case round =>
   obtain ⟨rfl,⟨rfl,rfl,rfl⟩ | ⟨rfl,rfl,rfl⟩⟩:=hrel
   ·
    go_wp2_with fail
    go_roundg 0
    case measure => omega
    case rel => exact ⟨rfl,.inr ⟨rfl,by rw [Hor.out],rfl⟩⟩
   ·
    go_wp2_with fail
    go_ret2
    exact ⟨rfl,zba⟩
open Go.ChangeMaps (setBlock)
theorem zeU {α β : Type} (f : α → β) : ∀ (l : List α) (i : Nat),(l.eraseIdx i).map f = (l.map f).eraseIdx i
 | [],_ => rfl
 | x :: l,0 => rfl
 | x :: l,i + 1 => by simp [zeU f l i]
theorem zen : ∀ (l : List MapEntry) (i : Nat) (e : MapEntry),l[i]? = some e → (l.map (·.born)).Nodup → l.filter (fun x => x.born != e.born) = l.eraseIdx i
 | [],_,_,h,_ => by simp at h
 | x :: l,0,e,h,hn => by
  have e1 : x = e:=by simpa using h
  subst e1
  simp only [List.map_cons,List.nodup_cons] at hn
  rw [List.filter_cons_of_neg (by simp),List.eraseIdx_cons_zero,List.filter_eq_self]
  intro y hy
  simp only [bne_iff_ne,ne_eq]
  intro e2
  exact hn.1 (List.mem_map.2 ⟨y,hy,e2⟩)
 | x :: l,i + 1,e,h,hn => by
  simp only [List.map_cons,List.nodup_cons] at hn
  have h' : l[i]? = some e:=by simpa using h
  have hm : e ∈ l:=List.mem_of_getElem? h'
  rw [List.filter_cons_of_pos (by
   simp only [bne_iff_ne,ne_eq]
   intro e2
   exact hn.1 (List.mem_map.2 ⟨e,hm,e2.symm⟩)),List.eraseIdx_cons_succ,zen l i e h' hn.2]
section
variable {α : Type} {P : Program}
def qo (w : World) (r b : Nat) (enc : α → Value) (m left : List (α × Value)) : Prop :=
 ∃ es clock since seen c0,w.heap[b]? = some (.map es clock) ∧ es.toList.map (fun e => (e.key,e.val)) = m.map (fun p => (enc p.1,p.2)) ∧ (m.map (·.1)).Nodup ∧ (es.toList.map (·.born)).Pairwise (· < ·) ∧ (∀ e ∈ es.toList,e.born < clock) ∧
  w.heap[r]? = some (.mapIter (some b) since seen c0) ∧ (∀ x ∈ es.toList,x.born < since) ∧ since ≤ c0 ∧ since ≤ clock ∧ (∀ p ∈ left,p ∈ m) ∧ (leftOf es seen).toList.map (fun e => (e.key,e.val)) = left.map (fun p => (enc p.1,p.2))
theorem qo.map {w : World} {r b : Nat} {enc : α → Value} {m left : List (α × Value)} (h : qo w r b enc m left) : MapOf w b enc m:=by
 obtain ⟨es,clock,since,seen,c0,h1,h2,h3,h4,h5,_⟩:=h
 exact ⟨es,clock,h1,h2,h3,h4,h5⟩
theorem qo.keep {w w' : World} {r b : Nat} {enc : α → Value} {m left : List (α × Value)} (h : qo w r b enc m left) (h1 : w'.heap[b]? = w.heap[b]?) (h2 : w'.heap[r]? = w.heap[r]?) : qo w' r b enc m left:=by
 obtain ⟨es,clock,since,seen,c0,g1,g2,g3,g4,g5,g6,g7⟩:=h
 exact ⟨es,clock,since,seen,c0,by rw [h1];exact g1,g2,g3,g4,g5,by rw [h2];exact g6,g7⟩
theorem qo.lt {w : World} {r b : Nat} {enc : α → Value} {m left : List (α × Value)} (h : qo w r b enc m left) : b < w.heap.size ∧ r < w.heap.size ∧ b ≠ r:=by
 obtain ⟨es,clock,since,seen,c0,g1,g2,g3,g4,g5,g6,g7⟩:=h
 exact ⟨(Array.getElem?_eq_some_iff.1 g1).1,(Array.getElem?_eq_some_iff.1 g6).1,fun e => by subst e;rw [g1] at g6;cases g6⟩
theorem qo.below {w w' : World} {r b : Nat} {enc : α → Value} {m left : List (α × Value)} (h : qo w r b enc m left) (hb : Below w.heap.size w w') : qo w' r b enc m left :=
 h.keep (hb.block _ h.lt.1) (hb.block _ h.lt.2.1)
theorem MapOf.range {w : World} {b : Nat} {kt et t : TypeId} {enc : α → Value} {m : List (α × Value)} (h : MapOf w b enc m) (ht : P.underlying t = some (.map kt et)) :
 ∃ w',(Instr.range t (.map (some b))).run P w = .ok (.pointer (some ⟨w.heap.size,0,none⟩)) w' ∧ qo w' w.heap.size b enc m m ∧ Below w.heap.size w w' ∧ w'.heap.size = w.heap.size + 1:=by
 have hlt:=h.lt
 obtain ⟨es,clock,h1,h2,h3,h4,h5⟩:=h
 refine ⟨w.alloc (.mapIter (some b) clock #[] clock),?_,⟨es,clock,clock,#[],clock,ze h1,h2,h3,h4,h5,za rfl,h5,znr _,znr _,fun _ h => h,?_⟩,zba,by simp⟩
 ·
  simp only [Instr.range,Sem.run_bind,run_underlying ht,Result.andThen_ok,zaM h1,Sem.run_pure]
  rfl
 ·
  have : leftOf es #[] = es:=by simp [leftOf]
  rw [this];exact h2
theorem zjj {w : World} {r k : Nat} {o : Obj} (hr : r < w.heap.size) : (setBlock w r o).heap[k]? = if k = r then some o else w.heap[k]?:=by
 simp only [setBlock,Array.getElem?_setIfInBounds]
 by_cases e : r = k
 · subst e;simp [hr]
 · rw [if_neg e,if_neg (fun e2 => e e2.symm)]
theorem qo.next {w : World} {r b : Nat} {enc : α → Value} {m left : List (α × Value)} (h : qo w r b enc m left) (ty : TypeId) :
 (left = [] ∧ (Instr.next (.pointer (some ⟨r,0,none⟩)) false ty).run P w = .ok (.tuple #[.bool false]) w) ∨
 ∃ i p w',left[i]? = some p ∧ p ∈ m ∧ (Instr.next (.pointer (some ⟨r,0,none⟩)) false ty).run P w = .ok (.tuple #[.bool true,enc p.1,p.2]) w' ∧ qo w' r b enc m (left.eraseIdx i) ∧ Only (· = r) w w' ∧ w'.heap.size = w.heap.size ∧
  (Instr.entry (.pointer (some ⟨r,0,none⟩))).run P w' = .ok (.tuple #[enc p.1,p.2]) w':=by
 obtain ⟨hlb,hlr,hbr⟩:=h.lt
 obtain ⟨es,clock,since,seen,c0,g1,g2,g3,g4,g5,g6,g7,g8,g10,g11,g9⟩:=h
 have hnd : (es.toList.map (·.born)).Nodup:=List.Pairwise.imp (fun h => Nat.ne_of_lt h) g4
 rcases run_next_at (P:=P) w ty r b since c0 seen es clock g6 g1 g7 g8 with ⟨h0,hrun⟩ | ⟨e,he,w1,hw1,hrun⟩
 ·
  left
  have : (leftOf es seen).toList = []:=List.eq_nil_of_length_eq_zero (by simpa using h0)
  rw [this] at g9
  exact ⟨List.map_eq_nil_iff.1 g9.symm,hrun⟩
 ·
  right
  obtain ⟨i,hi⟩:=List.getElem?_of_mem he
  have hl : (left.map fun p => (enc p.1,p.2))[i]? = some (e.key,e.val):=by rw [← g9,List.getElem?_map,hi];rfl
  rw [List.getElem?_map] at hl
  obtain ⟨p,hp,hpe⟩:=Option.map_eq_some_iff.1 hl
  simp only [Prod.mk.injEq] at hpe
  have hem : e ∈ es.toList:=(mem_left he).1
  have hs1 : w1.heap = w.heap:=by rcases hw1 with rfl | rfl <;> rfl
  have hlr1 : r < w1.heap.size:=by rw [hs1];exact hlr
  have hI : ∀ k,(setBlock w1 r (.mapIter (some b) since (seen.push e.born) clock)).heap[k]? = if k = r then some (.mapIter (some b) since (seen.push e.born) clock) else w.heap[k]?:=fun k => by rw [zjj hlr1,hs1]
  have hb2 : (setBlock w1 r (.mapIter (some b) since (seen.push e.born) clock)).heap[b]? = some (.map es clock):=by rw [hI,if_neg hbr];exact g1
  have hr2 : (setBlock w1 r (.mapIter (some b) since (seen.push e.born) clock)).heap[r]? = some (.mapIter (some b) since (seen.push e.born) clock):=by rw [hI,if_pos rfl]
  have hsz : (setBlock w1 r (.mapIter (some b) since (seen.push e.born) clock)).heap.size = w.heap.size:=by simp [setBlock,hs1]
  have hen:=run_entry_at (P:=P) _ r b since seen es clock e hr2 hb2 hem hnd
  have hleft : (leftOf es (seen.push e.born)).toList = (leftOf es seen).toList.eraseIdx i:=by
   rw [← zen _ i e hi]
   ·
    unfold leftOf
    rw [Array.toList_filter,Array.toList_filter,List.filter_filter]
    apply List.filter_congr
    intro x _
    simp only [Array.contains_push,Bool.not_or,bne]
    cases x.born == e.born <;> cases seen.contains x.born <;> rfl
   ·
    unfold leftOf
    rw [Array.toList_filter]
    exact List.Nodup.sublist (List.Sublist.map _ List.filter_sublist) hnd
  refine ⟨i,p,_,hp,g11 p (List.mem_of_getElem? hp),by rw [hpe.1,hpe.2];exact hrun,⟨es,clock,since,seen.push e.born,clock,hb2,g2,g3,g4,g5,hr2,g7,g10,g10,fun q hq => g11 q (List.mem_of_mem_eraseIdx hq),?_⟩,?_,hsz,by rw [hpe.1,hpe.2];exact hen⟩
  · rw [hleft,zeU,zeU,g9]
  · refine ⟨?_,?_,?_,by rw [hsz];exact znr _,fun k _ hk => by rw [hI,if_neg hk]⟩ <;> rcases hw1 with rfl | rfl <;> rfl
end
section
variable {α : Type} {P : Program} {w : World} {ops : Array Oper} {rest : List Oper} {o : Oper} {a : Act} {Q : Exit → Act → World → Prop}
theorem zfy (hg : o.guard = none) (m : Operand) (t : TypeId) (hop : o.op = Op.range t m) {kt et : TypeId} (ht : P.underlying t = some (.map kt et)) {b : Nat} {enc : α → Value} {l : List (α × Value)} (hm : a.eval m = .map (some b)) (h : MapOf w b enc l)
 (hK : ∀ w',qo w' w.heap.size b enc l l → Below w.heap.size w w' → w'.heap.size = w.heap.size + 1 → wpList P ops Q rest (a.put o.dst (.pointer (some ⟨w.heap.size,0,none⟩))) w') : wpList P ops Q (o :: rest) a w:=by
 refine wpList_plain hg fun K' hK' => ?_
 obtain ⟨w',hrun,r1,r2,r3⟩:=h.range ht
 unfold Oper.wp
 simp [execOp,hop,hm,hrun,Result.andThen]
 exact hK' _ _ (hK w' r1 r2 r3)
theorem zfU (hg : o.guard = none) (it : Operand) (hop : o.op = Op.next it false) {r b : Nat} {enc : α → Value} {m left : List (α × Value)} (hit : a.eval it = .pointer (some ⟨r,0,none⟩)) (h : qo w r b enc m left)
 (hDone : left = [] → wpList P ops Q rest (a.put o.dst (.tuple #[.bool false])) w)
 (hMore : ∀ i p w',left[i]? = some p → p ∈ m → qo w' r b enc m (left.eraseIdx i) → Only (· = r) w w' → w'.heap.size = w.heap.size → (Instr.entry (.pointer (some ⟨r,0,none⟩))).run P w' = .ok (.tuple #[enc p.1,p.2]) w' →
  wpList P ops Q rest (a.put o.dst (.tuple #[.bool true,enc p.1,p.2])) w') : wpList P ops Q (o :: rest) a w:=by
 refine wpList_plain hg fun K' hK' => ?_
 unfold Oper.wp
 rcases h.next (P:=P) o.type with ⟨h0,hrun⟩ | ⟨i,p,w',hp,hm,hrun,hi,ho,hsz,hen⟩
 ·
  simp [execOp,hop,hit,hrun,Result.andThen]
  exact hK' _ _ (hDone h0)
 ·
  simp [execOp,hop,hit,hrun,Result.andThen]
  exact hK' _ _ (hMore i p w' hp hm hi ho hsz hen)
end
def IsU (w : World) (v : Value) (ys : List Nat) : Prop :=
 ∃ a b c,v = .slice a ys.length c ∧ (ys ≠ [] → a = some ⟨b,0,none⟩) ∧ ys.length ≤ c ∧ c ≤ maxLen ∧ (ys ≠ [] → b < w.heap.size) ∧ ∀ i (h : i < ys.length),w.cell? ⟨b,i,none⟩ = some (.int .u64 (ys[i] : Nat))
theorem IsU.below {w w' : World} {v : Value} {ys : List Nat} (h : IsU w v ys) (hb : Below w.heap.size w w') : IsU w' v ys:=by
 obtain ⟨a,b,c,h1,h2,h3,h4,h5,h6⟩:=h
 refine ⟨a,b,c,h1,h2,h3,h4,fun e => Nat.lt_of_lt_of_le (h5 e) hb.size,fun i hi => ?_⟩
 rw [hb.cell (h5 (by intro e;subst e;simp at hi))];exact h6 i hi
theorem IsU.shape {w : World} {v : Value} {ys : List Nat} (h : IsU w v ys) : ∃ a c,v = .slice a ys.length c ∧ ys.length ≤ c ∧ c ≤ 9223372036854775807:=by
 obtain ⟨a,b,c,rfl,_,h3,h4,_⟩:=h
 exact ⟨a,c,rfl,h3,by unfold maxLen at h4;omega⟩
theorem IsU.addr {w : World} {a : Option Addr} {n c : Nat} {ys : List Nat} (h : IsU w (.slice a n c) ys) {k : Nat} (hk : k < ys.length) : ∃ b,a = some ⟨b,0,none⟩ ∧ b < w.heap.size ∧ ∀ i (h : i < ys.length),w.cell? ⟨b,i,none⟩ = some (.int .u64 (ys[i] : Nat)):=by
 obtain ⟨_,b,_,hh,h2,_,_,h5,h6⟩:=h
 cases hh
 have hne : ys ≠ []:=by intro e;subst e;simp at hk
 exact ⟨b,h2 hne,h5 hne,h6⟩
theorem zqE (w : World) : IsU w (.slice none 0 0) []:=⟨none,0,0,rfl,fun h => absurd rfl h,znr _,znz _,fun h => absurd rfl h,fun i hi => absurd hi (by simp)⟩
theorem zmW {ks : List Nat} {mq : List (Int × Value)} (hq : ∀ y : Int,assoc mq y = if y ∈ zdX ks then some (.bool true) else none) (y : Int) : y ∈ mq.map (·.1) ↔ y ∈ zdX ks:=by
 constructor
 ·
  intro h
  obtain ⟨p,hp,rfl⟩:=List.mem_map.1 h
  apply Classical.byContradiction
  intro hn
  have:=hq p.1
  rw [if_neg hn] at this
  unfold assoc at this
  exact za0 (by simpa using this) p hp rfl
 ·
  intro h
  have:=hq y
  rw [if_pos h] at this
  unfold assoc at this
  obtain ⟨⟨i,v⟩,h1,h2⟩:=Option.map_eq_some_iff.1 this
  exact List.mem_map.2 ⟨_,List.mem_of_getElem? (xU h1),rfl⟩
theorem jA {ks : List Nat} {y : Int} (h : y ∈ zdX ks) : ∃ m ∈ ks,y = (m : Nat):=by
 obtain ⟨m,hm,rfl⟩:=List.mem_map.1 h;exact ⟨m,hm,rfl⟩
theorem zpK {ks : List Nat} {xs : List Int} (hn : xs.Nodup) (hk : ∀ y ∈ xs,y ∈ zdX ks) {B : Nat} (hB : ∀ m ∈ ks,m < B) : xs.length ≤ B:=by
 have h1:=zbV Int.toNat xs (fun x hx y hy e => by
  obtain ⟨m,_,rfl⟩:=jA (hk x hx)
  obtain ⟨m',_,rfl⟩:=jA (hk y hy)
  omega) hn
 have h2:=zi3 B _ h1 (fun x hx => by
  obtain ⟨y,hy,rfl⟩:=List.mem_map.1 hx
  obtain ⟨m,hm,rfl⟩:=jA (hk y hy)
  have:=hB m hm
  omega)
 rwa [List.length_map] at h2
theorem zjK {n : Nat} {f0 f : Nat → Nat} (hs : Same n f0 f) (hi : ∀ a b,a < n → b < n → f0 a = f0 b → a = b) (ho : ∀ a b,a < b → b < n → f a ≤ f b) :
 ((List.range n).map f).length = n ∧ ((List.range n).map f).Pairwise (· < ·) ∧ ∀ y,y ∈ (List.range n).map f ↔ ∃ k,k < n ∧ f0 k = y:=by
 refine ⟨by simp,?_,fun y => ?_⟩
 ·
  rw [List.pairwise_iff_getElem]
  intro i j h1 h2 h3
  simp at h1 h2
  simp only [List.getElem_map,List.getElem_range]
  have h4:=ho i j h3 h2
  have h5 : f i ≠ f j:=fun e => by have:=hs.inj hi i j h1 h2 e;omega
  omega
 ·
  rw [← hs.mem]
  simp only [List.mem_map,List.mem_range]
theorem zpy : (Tryz.prog.info? 22).map (fun i => (i.zero,i.size,i.bytes)) = some (some (.int .u64 0),1,8):=by kernel_rfl
set_option maxHeartbeats 1000000 in
theorem zlD (w : World) : Calls Tryz.prog 155 #[.slice none 0 0] w fun en w' => en = .returned (.tuple #[]) ∧ w = w':=by
 go_enter Tryz.func155,Tryz.ntmps155
 go_wp2_with fail
 go_loopg [2] 0 (fun gk i wr => gk = 0 ∧ i = .int .i64 1 ∧ wr = w)
 case atStart => exact ⟨rfl,rfl,rfl⟩
 case round =>
  obtain ⟨rfl,rfl,rfl⟩:=hrel
  go_wp2_with fail
  go_end0
  exact ⟨rfl,rfl⟩
theorem zkV {w : World} {base : Nat} {a : Option Addr} {c : Nat} {xs : List Int} {ks : List Nat} (ho : w.ownsRow base 22 1 (.slice a xs.length c) xs.length (xs.map (Value.int .u64))) (hx : ∀ y,y ∈ xs ↔ y ∈ zdX ks) (hn : xs.Nodup) (hlen : xs.length ≤ 20000000) :
 Calls Tryz.prog 155 #[.slice a xs.length c] w fun en w' => en = .returned (.tuple #[]) ∧ (∃ ys : List Nat,ys.length = xs.length ∧ IsU w' (.slice a xs.length c) ys ∧ ys.Pairwise (· < ·) ∧ ∀ y,y ∈ ys ↔ y ∈ ks) ∧ Below base w w':=by
 have hks : ∀ y : Nat,(y : Int) ∈ xs ↔ y ∈ ks:=fun y => by
  rw [hx]
  constructor
  ·
   intro h;obtain ⟨m,hm,e⟩:=jA h
   have : y = m:=by omega
   subst this;exact hm
  · intro h;exact List.mem_map.2 ⟨y,h,rfl⟩
 rcases ho.2 with ⟨e,h0⟩ | ⟨g,cap,cur,e,hg,hh,h3,h4,h5,h6⟩
 ·
  have e0 : xs = []:=List.eq_nil_of_length_eq_zero h0
  subst e0
  cases e
  refine (zlD w).mono ?_
  rintro en w' ⟨rfl,rfl⟩
  exact ⟨rfl,⟨[],rfl,zqE w,List.Pairwise.nil,fun y => by rw [← hks];simp⟩,Below.refl _ _⟩
 ·
  cases e
  have hrow : zcm w g 22 c xs.length (fun k => (xs.getD k 0).toNat):=by
   refine ⟨cur,hh,by omega,fun k hk => ?_⟩
   have h7 : (cur.toList.take (xs.length * 1))[k]? = some (.int .u64 xs[k]):=by rw [h6];simp [hk]
   rw [List.getElem?_take] at h7
   have e2 : xs.getD k 0 = xs[k]:=by simp [hk]
   obtain ⟨m,hm,e3⟩:=jA ((hx _).1 (List.getElem_mem hk))
   dsimp only
   rw [e2,e3]
   rw [e3] at h7
   split at h7
   · simpa using h7
   · cases h7
  have hinj : ∀ i j,i < xs.length → j < xs.length → (xs.getD i 0).toNat = (xs.getD j 0).toNat → i = j:=fun i j hi hj e => by
   have ei : xs.getD i 0 = xs[i]:=by simp [hi]
   have ej : xs.getD j 0 = xs[j]:=by simp [hj]
   rw [ei,ej] at e
   obtain ⟨m,_,e3⟩:=jA ((hx _).1 (List.getElem_mem hi))
   obtain ⟨m',_,e4⟩:=jA ((hx _).1 (List.getElem_mem hj))
   have : xs[i] = xs[j]:=by rw [e3,e4] at e ⊢;omega
   exact (List.getElem_inj hn).1 this
  refine (zld g 22 c xs.length _ w hrow h3 hlen).mono ?_
  rintro en w' ⟨rfl,⟨f,hr,hs,hso⟩,hon⟩
  obtain ⟨s1,s2,s3⟩:=zjK hs hinj hso
  refine ⟨rfl,⟨_,s1,⟨some ⟨g,0,none⟩,g,c,by rw [s1],fun _ => rfl,by rw [s1];exact h3,h4,fun _ => hr.lt,fun i hi => ?_⟩,s2,fun y => ?_⟩,⟨hon.os,hon.tape,hon.output,hon.size,fun k hk => hon.block k (by have:=(Array.getElem?_eq_some_iff.1 hh).1;omega) (fun e => by have e2 : k = g:=e;omega)⟩⟩
  · rw [hr.cell (by simpa using hi)];simp
  ·
   rw [s3,← hks]
   constructor
   ·
    rintro ⟨k,hk,rfl⟩
    have e2 : xs.getD k 0 = xs[k]:=by simp [hk]
    obtain ⟨m,hm,e3⟩:=jA ((hx _).1 (List.getElem_mem hk))
    have : ((xs.getD k 0).toNat : Int) = xs[k]:=by rw [e2,e3];omega
    rw [this];exact List.getElem_mem hk
   ·
    intro h
    obtain ⟨k,hk,e⟩:=List.getElem_of_mem h
    exact ⟨k,hk,by simp [hk,e]⟩
def lsW (w2 : World) (b : Nat) : World :=
 ((w2.alloc (.cells #[.func (.func 154) #[] #[.pointer (some ⟨b,0,none⟩),.pointer (some ⟨w2.heap.size + 1 + 1,0,none⟩),.pointer (some ⟨w2.heap.size,0,none⟩)]] 247)).alloc (.map #[] 0)).alloc (.cells #[.map (some (w2.heap.size + 1))] 248)
theorem zpz {V : Int} {s : Fb} {w2 : World} {c : Cells} {b : Nat} (hs : zw w2 s V c) (hb : w2.heap[b]? = some (.cells #[.pointer (some ⟨s.ps,0,none⟩)] 172 (0,0))) :
 zw (lsW w2 b) s V c ∧ SMap (lsW w2 b) (w2.heap.size + 1) [] ∧ zkC (lsW w2 b) s (w2.heap.size + 1) ⟨b,w2.heap.size + 1 + 1,w2.heap.size⟩ ∧ Below w2.heap.size w2 (lsW w2 b):=by
 have hbb : Below w2.heap.size w2 (lsW w2 b):=zgI w2 _ _ _
 have lps:=hs.lps
 have lb:=zlb hb
 refine ⟨hs.below hbb,⟨[],?_,fun y => rfl⟩,⟨(hbb.block _ lb).trans hb,?_,?_,by dsimp only;omega,by dsimp only;omega,by dsimp only;omega,fun hm => by have:=hs.lt hm;omega,by omega⟩,hbb⟩
 ·
  have h1:=zbb (w2.alloc (.cells #[.func (.func 154) #[] #[.pointer (some ⟨b,0,none⟩),.pointer (some ⟨w2.heap.size + 1 + 1,0,none⟩),.pointer (some ⟨w2.heap.size,0,none⟩)]] 247)) (Value.int .u64)
  simp only [zm] at h1
  exact h1.yX ((zba).block _ (by simp))
 · exact za (by simp only [zm])
 · exact ze (ze (za rfl))
theorem zf6 {α : Type} : ∀ (l : List α) (i : Nat) (h : i < l.length),(l[i] :: l.eraseIdx i).Perm l
 | x :: l,0,_ => by simp
 | x :: l,i + 1,h => by
  have h1:=zf6 l i (by simpa using h)
  simp only [List.getElem_cons_succ,List.eraseIdx_cons_succ]
  exact (List.Perm.swap x _ _).trans (h1.cons x)
structure LR (w wr : World) (r md : Nat) (mq left : List (Int × Value)) (vo : Value) (xs : List Int) : Prop where
 it : qo wr r md (Value.int .u64) mq left
 own : wr.ownsRow (r + 1) 22 1 vo xs.length (xs.map (Value.int .u64))
 below : Below w.heap.size w wr
 perm : (xs ++ left.map (·.1)).Perm (mq.map (·.1))
 lt : w.heap.size ≤ md ∧ md < r ∧ r < wr.heap.size
theorem LR.step {w wr w1 w3 : World} {r md i : Nat} {mq left : List (Int × Value)} {vo v3 : Value} {xs : List Int} {p : Int × Value} (h : LR w wr r md mq left vo xs) (hp : left[i]? = some p) (hi : qo w1 r md (Value.int .u64) mq (left.eraseIdx i)) (ho : Only (· = r) wr w1)
 (hown : w3.ownsRow (r + 1) 22 1 v3 (xs.length + 1) (xs.map (Value.int .u64) ++ [.int .u64 p.1])) (hg : (w1.alloc (.cells #[.int .u64 p.1] 22)).grownBy w3 vo.ownBlock) :
 LR w w3 r md mq (left.eraseIdx i) v3 (xs ++ [p.1]):=by
 have hne : ∀ k,k < r + 1 → some k ≠ vo.ownBlock:=fun k hk e => by
  rcases h.own.2 with ⟨e2,_⟩ | ⟨g,cap,cur,e2,hg,_⟩
  · rw [e2] at e;cases e
  · rw [e2] at e;simp [Value.ownBlock] at e;omega
 have l1:=h.lt
 have sz1:=ho.size
 have key : ∀ k,k < r + 1 → w3.heap[k]? = w1.heap[k]?:=fun k hk => by
  rw [hg.block k (by simp;omega) (hne k hk),zby,if_neg (by omega)]
 obtain ⟨hil,hpe⟩:=List.getElem?_eq_some_iff.1 hp
 refine ⟨hi.keep (key _ (by omega)) (key _ (by omega)),by simpa using hown,?_,?_,l1.1,l1.2.1,by have:=hg.size;simp at this;omega⟩
 ·
  refine h.below.trans ⟨hg.os.trans ho.os,hg.tape.trans ho.tape,hg.output.trans ho.output,by have:=hg.size;simp at this;omega,fun k hk => ?_⟩
  rw [key k (by omega),ho.block k (by omega) (fun e => by have e2 : k = r:=e;omega)]
 ·
  refine List.Perm.trans ?_ h.perm
  rw [List.append_assoc]
  refine List.Perm.append_left _ ?_
  have h1:=(zf6 left i hil).map (·.1)
  rw [hpe] at h1
  simpa using h1
def zqn (V : Int) (c : Cells) (h : Int) (w : World) (e : Ending) (w' : World) : Prop :=
 ∃ (v : Value) (ys : List Nat),e = .returned (.tuple #[v,.nilIface]) ∧ IsU w' v ys ∧ ys.Pairwise (· < ·) ∧ (∀ y,y ∈ ys ↔ Z c h (smN y)) ∧ (∀ y ∈ ys,y < 2 ^ V.toNat) ∧ Below w.heap.size w w'
set_option maxRecDepth 100000 in
set_option maxHeartbeats 8000000 in
theorem ziq {V : Int} (hV0 : 0 ≤ V) (hV : V ≤ 24) (h most : Int) (w : World) (s : Fb) (c : Cells) (hs : zw w s V c) (zo : ZOk V c) (hh : zx c h = true) (hm : ((2 ^ V.toNat : Nat) : Int) ≤ most) :
 Calls Tryz.prog 97 #[.pointer (some ⟨s.ps,0,none⟩),.int .i64 h,.int .i64 most] w (zqn V c h w):=by
 have hmm:=@run_makeMap Tryz.prog
 have hmf : ∀ (fn : Fn) (first cap : Array Value) (w : World),(Instr.makeFunc fn first cap).run Tryz.prog w = .ok (.func fn first cap) w:=fun _ _ _ _ => rfl
 have hcz:=zgB hV zo hh
 have hb1 : Below w.heap.size w (w.alloc (.cells #[.pointer (some ⟨s.ps,0,none⟩)] 172)):=zba
 have hct:=zlq hV h _ s c (hs.below hb1) zo hh
 have Hct:=hid hct;have Hs:=hid hs;have Hz:=hid zo;have Hh:=hid hh;have Hm:=hid hm;have Hcz:=hid hcz;have HB1:=hid hb1
 clear hct hs zo hh hm hcz hb1
 go_enter Tryz.func97,Tryz.ntmps97
 go_wp2_with fail
 refine Hct.out.mono ?_
 rintro e w1 ⟨v1,rfl,hn1,hb2⟩
 obtain ⟨a1,c1,rfl⟩:=hn1.shape
 have hn2:=hn1.below (w':=w1.alloc (.cells #[.slice a1 (zD (jS c h)).length c1] 52)) (zba)
 have hft:=zpI (jS c h) _ _ hn2 (by have:=Hcz.out.2;unfold B32;omega)
 have hst1:=(hb2.block _ (by simp)).trans (za (w:=w) (o:=.cells #[.pointer (some ⟨s.ps,0,none⟩)] 172) rfl)
 have hbw:=HB1.out.trans (hb2.mono HB1.out.size)
 have Hft:=hid hft;have Hst1:=hid hst1;have Hbw:=hid hbw
 clear hn1 hb2 hn2 hft hst1 hbw Hct
 go_wp2_with fail
 refine Hft.out.mono ?_
 rintro e w2 ⟨rfl,hb3⟩
 have hle : decide (most < ((jS c h : Nat) : Int)) = false:=by have:=Hcz.out.1;have:=Hm.out;simp;omega
 have hst2:=(hb3.block _ (by have:=zlb Hst1.out;simp;omega)).trans (ze Hst1.out)
 have hbw:=(Hbw.out.alloc Hbw.out.size (.cells #[.slice a1 (zD (jS c h)).length c1] 52)).trans (hb3.mono (by have:=Hbw.out.size;simp;omega))
 have Hst2:=hid hst2;have Hbw2:=hid hbw
 clear hst2 hb3 hbw Hst1 Hbw Hft
 go_wp2_with fail
 have hs2:=Hs.out.below Hbw2.out
 obtain ⟨q1,q2,q3,q4⟩:=zpz hs2 Hst2.out
 have hq:=zrx hV _ _ 25 0 h 0 [] _ s c q1 q2 q3 Hz.out Hh.out (by have:=zY Hz.out.ok h;omega) (by decide)
 unfold zo0 lsW at hq
 unfold lsW at q4
 have Hq:=hid hq;have Q4:=hid q4
 clear hs2 q1 q2 q3 q4 hq hle Hst2
 refine Hq.out.mono ?_
 rintro e w3 ⟨rfl,hm3,ho3⟩
 have hb3:=Hbw2.out.trans ((Q4.out.trans (ho3.below Q4.out.size (fun k hk => by have e' : k = w2.heap.size + 1:=hk;omega))).mono Hbw2.out.size)
 have hd3:=(ho3.block (w2.heap.size + 1 + 1) (by simp) (fun e => by have e' : w2.heap.size + 1 + 1 = w2.heap.size + 1:=e;omega)).trans (za (by simp only [zm]))
 have cd:=zco hd3
 rw [List.nil_append] at hm3
 have hlt3:=hm3.lt
 obtain ⟨mq,hmq,hmv⟩:=hm3
 have hmd : w.heap.size ≤ w2.heap.size + 1:=by have:=Hbw2.out.size;omega
 have Hb3:=hid hb3;have Hmq:=hid hmq;have Hmv:=hid hmv;have Hmd:=hid hmd;have Hlt3:=hid hlt3
 clear hb3 hd3 hmq hmv hmd hlt3 ho3 Hq Q4 Hbw2
 generalize w2.heap.size + 1 = md at *
 go_wp2_with (at_range;refine zfy rfl (.tmp 43) 248 rfl (kt:=22) (et:=4) Tryz.underlying248 (b:=md) (enc:=Value.int .u64) (l:=mq) rfl Hmq.out ?_;intro w4 hit hb4 hsz;have Hit:=hid hit;have Hb4:=hid hb4;have Hsz:=hid hsz;clear hit hb4 hsz)
 go_frame
 obtain ⟨r,hr⟩ : ∃ r,r = w3.heap.size:=⟨_,rfl⟩
 have hlr : LR w w4 r md mq mq (.slice none 0 0) []:=by
  rw [hr]
  exact ⟨Hit.out,⟨rfl,.inl ⟨rfl,rfl⟩⟩,Hb3.out.trans (Hb4.out.mono Hb3.out.size),by simp,Hmd.out,Hlt3.out,by have:=Hsz.out;omega⟩
 have Hlr:=hid hlr;clear hlr
 rw [← hr]
 clear hr cd Hit Hb4 Hsz Hb3 Hlt3 Hmd
 have hkeys:=zmW Hmv.out
 have hnd : (mq.map (·.1)).Nodup:=by obtain ⟨_,_,_,_,h3,_⟩:=Hmq.out;exact h3
 have hkl:=zpK hnd (fun y hy => (hkeys y).1 hy) (fun m hm => Nat.lt_of_lt_of_le (zpl hV Hz.out h m hm) (zai (show V.toNat ≤ 24 by omega)))
 rw [List.length_map] at hkl
 obtain ⟨i0,hi,hz0,hz1,hz2⟩:=info_parts zpy
 have Hkeys:=hid hkeys;have Hnd:=hid hnd;have Hkl:=hid hkl
 clear hkeys hnd hkl Hmq Hmv
 go_loopg [12] mq.length (fun gk vo wr => ∃ (left : List (Int × Value)) (xs : List Int),gk = left.length ∧ LR w wr r md mq left vo xs)
 case atStart => exact ⟨mq,[],rfl,Hlr.out⟩
 case round =>
  clear Hlr
  obtain ⟨left,xs,rfl,hlr⟩:=hrel
  obtain ⟨ao,co,rfl⟩:=yB hlr.own
  have hxl : xs.length + left.length = mq.length:=by have:=hlr.perm.length_eq;simpa using this
  have Hlr:=hid hlr;have Hxl:=hid hxl;clear hlr hxl
  go_wp2_with (at_next;refine zfU rfl (.tmp 44) rfl (r:=r) (b:=md) (enc:=Value.int .u64) (m:=mq) (left:=left) rfl Hlr.out.it ?_ ?_)
  ·
   intro h0
   subst h0
   have hp:=Hlr.out.perm
   rw [List.map_nil,List.append_nil] at hp
   have hx : ∀ y,y ∈ xs ↔ y ∈ zdX (zhl c h 0):=fun y => hp.mem_iff.trans (Hkeys.out y)
   have hso:=zkV Hlr.out.own hx (hp.nodup_iff.2 Hnd.out) (by have h1:=Hkl.out;have h2:=Hxl.out;rw [List.length_nil] at h2;omega)
   have Hso:=hid hso;clear hso hp hx
   go_wp2_with fail
   refine Hso.out.mono ?_
   rintro e w5 ⟨rfl,⟨ys,hy1,hy2,hy3,hy4⟩,hb5⟩
   have Hy2:=hid hy2;have Hy3:=hid hy3;have Hy4:=hid hy4;have Hb5:=hid hb5
   clear hy1 hy2 hy3 hy4 hb5
   go_wp2_with fail
   go_ret2
   exact ⟨_,ys,rfl,Hy2.out,Hy3.out,fun y => (Hy4.out y).trans (zmf hV Hz.out h y),fun y hy => zpl hV Hz.out h y ((Hy4.out y).1 hy),Hlr.out.below.trans (Hb5.out.mono (by have:=Hlr.out.lt;omega))⟩
  ·
   intro i y pv w5 hp hpm hit5 ho5 hsz5 hen
   have hll : (left.eraseIdx i).length + 1 = left.length:=by
    obtain ⟨hi,_⟩:=List.getElem?_eq_some_iff.1 hp
    rw [List.length_eraseIdx,if_pos hi];omega
   have hown:=(Hlr.out.own)
   have hown5 : w5.ownsRow (r + 1) 22 1 (.slice ao xs.length co) xs.length (xs.map (Value.int .u64)):=by
    refine ⟨hown.1,?_⟩
    rcases hown.2 with h1 | ⟨g,cap,cur,e,hg,hh,r1⟩
    · exact .inl h1
    · exact .inr ⟨g,cap,cur,e,hg,(ho5.block g (Array.getElem?_eq_some_iff.1 hh).1 (fun e => by have e2 : g = r:=e;omega)).trans hh,r1⟩
   have hown6:=hown5.alloc (.cells #[.int .u64 y] 22)
   have hlt:=Hlr.out.lt
   have hrb : r + 1 ≤ (w5.alloc (.cells #[.int .u64 y] 22)).heap.size:=by simp;omega
   have hbd : xs.length + 1 ≤ 20000000:=by have h1:=Hkl.out;have h2:=Hxl.out;omega
   have Hll:=hid hll;have Hp:=hid hp;have Hit5:=hid hit5;have Ho5:=hid ho5;have Hown6:=hid hown6;have Hrb:=hid hrb;have Hbd:=hid hbd
   clear hll hp hpm hit5 ho5 hsz5 hown hown5 hown6 hlt hrb hbd
   go_wp2_with (at_builtin;go_loud (refine yg _ rfl _ _ 96 rfl (r + 1) 22 i0 (.int .u64 0) 1 8 Tryz.underlying96 hi hz0 hz1 hz2 rfl (by decide) _ _ _ rfl Hown6.out _ 1 1 [.int .u64 y] rfl rfl (xP _ _ _ _ rfl) (by intro u hu;simp at hu;subst hu;rfl) (by have:=Hbd.out;simp only [maxLen];omega) (by have:=Hbd.out;omega) Hrb.out ?_);intro v3 w6 hown3 hgrow3 hor3;have hn:=Hlr.out.step Hp.out Hit5.out Ho5.out hown3 hgrow3;obtain ⟨a3,c3,rfl⟩:=yB hown3;have Hn:=hid hn;clear hown3 hgrow3 hor3 hn)
   go_roundg (left.eraseIdx i).length
   case measure => have:=Hll.out;omega
   case rel => exact ⟨_,_,rfl,Hn.out⟩
