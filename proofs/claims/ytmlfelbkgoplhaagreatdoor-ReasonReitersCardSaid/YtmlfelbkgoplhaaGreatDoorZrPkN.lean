import Derived.Deep.CutBlock
import Derived.BigQuiet
import Derived.OneCell
import Derived.Test.YtmlfelbkgoplhaaGreatDoorZrPkE
import Derived.Laws.MakeOwn
import Derived.Deep.RegionWith
set_option linter.unusedVariables false
namespace Go.Proofs.YtmlfelbkgoplhaaGreatDoor
def B32 : Nat:=4294967296
def yF : List Nat → Nat
 | [] => 0
 | x :: xs => x + B32 * yF xs
def Limbs (xs : List Nat) : Prop:=∀ x ∈ xs,x < B32
def zD (n : Nat) : List Nat:=if h : n = 0 then [] else (n % B32) :: zD (n / B32)
termination_by n
decreasing_by exact Nat.div_lt_self (Nat.pos_of_ne_zero h) (by decide)
theorem qK : zD 0 = []:=by rw [zD];simp
theorem zcV {n : Nat} (h : n ≠ 0) : zD n = (n % B32) :: zD (n / B32):=by rw [zD];simp [h]
theorem zna {Q : Nat → Prop} (h0 : Q 0) (h1 : ∀ n,n ≠ 0 → Q (n / B32) → Q n) (n : Nat) : Q n:=by
 induction n using Nat.strongRecOn with
 | _ n ih =>
  by_cases h : n = 0
  · subst h;exact h0
  · exact h1 n h (ih _ (Nat.div_lt_self (Nat.pos_of_ne_zero h) (by decide)))
theorem zc1 (n : Nat) : yF (zD n) = n:=by
 refine zna (Q:=fun n => yF (zD n) = n) (by rw [qK];rfl) (fun n h ih => ?_) n
 rw [zcV h,yF,ih]
 exact Nat.mod_add_div n B32
theorem zhz : ∀ (xs : List Nat),Limbs xs → xs.getLast? ≠ some 0 → zD (yF xs) = xs
 | [],_,_ => qK
 | x :: xs,h,hl => by
  have hx:=h x List.mem_cons_self
  have ht : xs.getLast? ≠ some 0:=by
   cases xs with
   | nil => simp
   | cons y ys => rw [List.getLast?_cons_cons] at hl;exact hl
  have ih:=zhz xs (fun y hy => h y (List.mem_cons_of_mem _ hy)) ht
  have h1 : (x + B32 * yF xs) % B32 = x:=by rw [Nat.add_mul_mod_self_left];exact Nat.mod_eq_of_lt hx
  have h2 : (x + B32 * yF xs) / B32 = yF xs:=by rw [Nat.add_mul_div_left _ _ (by decide),Nat.div_eq_of_lt hx];omega
  have hne : x + B32 * yF xs ≠ 0:=by
   intro e
   have e1 : x = 0:=by omega
   have e2 : yF xs = 0:=by
    rcases Nat.eq_zero_or_pos (yF xs) with h3 | h3
    · exact h3
    · have:=Nat.mul_pos (show 0 < B32 by decide) h3;omega
   rw [e2,qK] at ih
   subst ih
   subst e1
   exact hl rfl
  rw [yF,zcV hne,h1,h2,ih]
def zei (xs : List Nat) : List Nat:=zD (yF xs)
theorem jC : ∀ (xs ys : List Nat),yF (xs ++ ys) = yF xs + B32 ^ xs.length * yF ys
 | [],ys => by simp [yF]
 | x :: xs,ys => by
  rw [List.cons_append,yF,yF,jC xs ys,List.length_cons,Nat.pow_succ,Nat.mul_add,Nat.mul_comm (B32 ^ xs.length) B32,Nat.mul_assoc,Nat.add_assoc]
theorem zkW (xs : List Nat) : zei (xs ++ [0]) = zei xs:=by unfold zei;rw [jC];simp [yF]
theorem zlB {xs : List Nat} (h : Limbs xs) (hl : xs.getLast? ≠ some 0) : zei xs = xs:=zhz xs h hl
theorem zpM {n k : Nat} (h : n < B32 ^ k) : (zD n).length ≤ k:=by
 induction k generalizing n with
 | zero => have : n = 0 := by simpa using h
           subst this;rw [qK];simp
 | succ k ih =>
  by_cases e : n = 0
  · subst e;rw [qK];simp
  ·
   rw [zcV e,List.length_cons]
   refine Nat.succ_le_succ (ih ?_)
   rw [Nat.pow_succ] at h
   exact (Nat.div_lt_iff_lt_mul (by decide)).2 h
theorem zgo {xs : List Nat} {i : Nat} (hi : i < xs.length) : yF (xs.take (i + 1)) = yF (xs.take i) + B32 ^ i * xs[i]:=by
 rw [List.take_succ_eq_append_getElem hi,jC,List.length_take,Nat.min_eq_left (Nat.le_of_lt hi)]
 simp [yF]
open Go.RowKit
def yj (w : World) (v : Value) (xs : List Nat) : Prop :=
 ∃ a b o c,v = .slice a xs.length c ∧ (xs ≠ [] → a = some ⟨b,o,none⟩) ∧ xs.length ≤ c ∧ c ≤ maxLen ∧ (∀ i (h : i < xs.length),w.cell? ⟨b,o + i,none⟩ = some (.int .u32 (xs[i] : Nat))) ∧ (xs ≠ [] → b < w.heap.size) ∧ Limbs xs
def yK (w : World) (v : Value) (n : Nat) : Prop:=∃ s,v = .agg #[s] ∧ yj w s (zD n)
section
variable {w w' : World} {v : Value} {xs : List Nat}
theorem yj.below (h : yj w v xs) (hb : Below w.heap.size w w') : yj w' v xs:=by
 obtain ⟨a,b,o,c,h1,h2,h3,h4,h5,h6,h7⟩:=h
 exact ⟨a,b,o,c,h1,h2,h3,h4,fun i hi => by rw [hb.cell (h6 (by intro e;subst e;simp at hi))];exact h5 i hi,fun e => Nat.lt_of_lt_of_le (h6 e) hb.size,h7⟩
theorem yj.shape (h : yj w v xs) : ∃ a c,v = .slice a xs.length c ∧ xs.length ≤ c ∧ c ≤ 9223372036854775807:=by
 obtain ⟨a,b,o,c,rfl,_,h3,h4,_⟩:=h
 exact ⟨a,c,rfl,h3,by unfold maxLen at h4;omega⟩
theorem yj.limbs (h : yj w v xs) : Limbs xs:=by obtain ⟨_,_,_,_,_,_,_,_,_,_,h7⟩:=h;exact h7
theorem yj.addr {a : Option Addr} {n c : Nat} (h : yj w (.slice a n c) xs) {k : Nat} (hk : k < xs.length) : ∃ b o,a = some ⟨b,o,none⟩ ∧ b < w.heap.size:=by
 obtain ⟨_,b,o,_,hh,h2,_,_,_,h6,_⟩:=h
 cases hh
 exact ⟨b,o,h2 (by intro e;subst e;simp at hk),h6 (by intro e;subst e;simp at hk)⟩
theorem yj.get {b o n c : Nat} (h : yj w (.slice (some ⟨b,o,none⟩) n c) xs) {k : Nat} (hk : k < xs.length) : w.cell? ⟨b,o + k,none⟩ = some (.int .u32 (xs[k] : Nat)):=by
 obtain ⟨_,b',o',_,hh,h2,_,_,h5,_⟩:=h
 cases hh
 cases h2 (by intro e;subst e;simp at hk)
 exact h5 k hk
theorem yj.take {a : Option Addr} {n c : Nat} (h : yj w (.slice a n c) xs) {k : Nat} (hk : k ≤ xs.length) : yj w (.slice a k c) (xs.take k):=by
 obtain ⟨a',b,o,c',hh,h2,h3,h4,h5,h6,h7⟩:=h
 cases hh
 have hl : (xs.take k).length = k:=by rw [List.length_take];omega
 have hne : xs.take k ≠ [] → xs ≠ []:=fun h e => h (by subst e;simp)
 refine ⟨a,b,o,c,by rw [hl],fun h => h2 (hne h),by rw [hl];omega,h4,fun i hi => ?_,fun h => h6 (hne h),fun x hx => h7 x (List.mem_of_mem_take hx)⟩
 rw [h5 i (by rw [hl] at hi;omega)];simp
theorem zkj {g e n c : Nat} {cur : Array Value} {fz : Nat × Nat} (xs : List Nat) (h : w.heap[g]? = some (.cells cur e fz)) (hc : cur.toList = xs.map (fun x => Value.int .u32 (x : Nat))) (hn : n = xs.length) (hnc : n ≤ c) (hcm : c ≤ maxLen) (hx : Limbs xs) :
 yj w (.slice (some ⟨g,0,none⟩) n c) xs:=by
 subst hn
 refine ⟨_,g,0,c,rfl,fun _ => rfl,hnc,hcm,fun i hi => ?_,fun _ => (Array.getElem?_eq_some_iff.1 h).1,hx⟩
 rw [cell_of_row w g (0 + i) cur e fz h,Nat.zero_add,← Array.getElem?_toList,hc]
 simp [hi]
theorem zkG (w : World) : yj w (.slice none 0 0) []:=⟨none,0,0,0,rfl,fun h => absurd rfl h,znr _,znz _,fun i hi => absurd hi (by simp),fun h => absurd rfl h,fun x hx => by cases hx⟩
theorem yK.below {n : Nat} (h : yK w v n) (hb : Below w.heap.size w w') : yK w' v n:=by
 obtain ⟨s,rfl,hs⟩:=h;exact ⟨s,rfl,hs.below hb⟩
theorem yK.shape {n : Nat} (h : yK w v n) : ∃ a c,v = .agg #[.slice a (zD n).length c]:=by
 obtain ⟨s,rfl,hs⟩:=h
 obtain ⟨a,c,rfl,_⟩:=hs.shape
 exact ⟨a,c,rfl⟩
theorem yK.limbs {n : Nat} {a : Option Addr} {k c : Nat} (h : yK w (.agg #[.slice a k c]) n) : yj w (.slice a k c) (zD n):=by
 obtain ⟨s,e,hs⟩:=h
 cases e;exact hs
end
theorem zi5 {w : World} {b : Nat} {x v : Value} {t : TypeId} {o : Nat} (h : w.heap[b]? = some (.cells #[x] t (0,0))) (hc : w.cell? ⟨b,o,none⟩ = some v) : v = x:=by
 rw [cell_of_row w b o _ _ _ h] at hc
 rcases Nat.eq_zero_or_pos o with h0 | h0
 · subst h0;simpa using hc.symm
 · rw [Array.getElem?_eq_none (by simp;omega)] at hc;cases hc
theorem yj.jF {w : World} {v : Value} {xs : List Nat} {R : Nat} {a : Option Addr} {n c : Nat} {t : TypeId} (h : yj w v xs) (hR : w.heap[R]? = some (.cells #[.slice a n c] t (0,0))) (u : Value) : yj (w.setCell ⟨R,0,none⟩ u) v xs:=by
 obtain ⟨a',b,o,c',h1,h2,h3,h4,h5,h6,h7⟩:=h
 refine ⟨a',b,o,c',h1,h2,h3,h4,fun i hi => ?_,fun e => by have:=h6 e;simpa using this,h7⟩
 have h8:=h5 i hi
 have hb : b ≠ R:=fun e => by subst e;have:=zi5 hR h8;cases this
 rw [World.cell?_setCell_other (h:=fun e => hb (by have:=congrArg Addr.block e;simpa using this.symm))]
 exact h8
theorem yK.jF {w : World} {v : Value} {k : Nat} {R : Nat} {a : Option Addr} {n c : Nat} {t : TypeId} (h : yK w v k) (hR : w.heap[R]? = some (.cells #[.slice a n c] t (0,0))) (u : Value) : yK (w.setCell ⟨R,0,none⟩ u) v k:=by
 obtain ⟨s,rfl,hs⟩:=h;exact ⟨s,rfl,hs.jF hR u⟩
structure Res (w w1 : World) (t : TypeId) (x : Value) : Prop where
 blk : w1.heap[w.heap.size]? = some (.cells #[x] t (0,0))
 below : Below w.heap.size w w1
theorem zo9 {w w0 w1 : World} {t : TypeId} {x : Value} (h0 : w0.heap[w.heap.size]? = some (.cells #[x] t (0,0))) (hb0 : Below w.heap.size w w0) (hb1 : Below w0.heap.size w0 w1) : Res w w1 t x :=
 ⟨(hb1.block _ (zlb h0)).trans h0,hb0.trans (hb1.mono hb0.size)⟩
theorem Res.cell {w w1 : World} {t : TypeId} {x : Value} (h : Res w w1 t x) : w1.cell? ⟨w.heap.size,0,none⟩ = some x:=zco h.blk
theorem Res.free {w w1 : World} {t : TypeId} {x : Value} (h : Res w w1 t x) : w1.frozen? ⟨w.heap.size,0,none⟩ = false:=zfo h.blk
theorem Res.lt {w w1 : World} {t : TypeId} {x : Value} (h : Res w w1 t x) : w.heap.size < w1.heap.size:=zlb h.blk
theorem Res.set {w w1 : World} {t : TypeId} {x : Value} (h : Res w w1 t x) (u : Value) : Below w.heap.size w (w1.setCell ⟨w.heap.size,0,none⟩ u):=h.below.setCell (by simp) u
theorem Res.on {w w1 w2 : World} {t : TypeId} {x : Value} (h : Res w w1 t x) (hb : Below w1.heap.size w1 w2) : Res w w2 t x:=⟨(hb.block _ h.lt).trans h.blk,h.below.trans (hb.mono h.below.size)⟩
theorem zm4 {xs : List Nat} {j : Nat} (hx : Limbs xs) (hj : j < xs.length) (h0 : xs[j] ≠ 0) : zei (xs.take (j + 1)) = xs.take (j + 1):=by
 refine zlB (fun x hx' => hx x (List.mem_of_mem_take hx')) ?_
 rw [List.take_succ_eq_append_getElem hj,List.getLast?_concat]
 intro e;exact h0 (by simpa using e)
theorem znZ {xs : List Nat} {j : Nat} (hj : j < xs.length) (h0 : xs[j] = 0) : zei (xs.take (j + 1)) = zei (xs.take j):=by
 rw [List.take_succ_eq_append_getElem hj,h0,zkW]
set_option maxHeartbeats 2000000 in
theorem zqW (a : Option Addr) (c : Nat) (xs : List Nat) (w : World) (h : yj w (.slice a xs.length c) xs) :
 Calls Tryz.prog 101 #[.slice a xs.length c] w fun e w' => ∃ k,e = .returned (.agg #[.slice a k c]) ∧ yK w' (.agg #[.slice a k c]) (yF xs) ∧ Below w.heap.size w w':=by
 obtain ⟨_,_,hsh,h1,h2⟩:=h.shape
 cases hsh
 have hb : Below w.heap.size w (w.alloc (.cells #[.slice none 0 0] 52)):=zba
 have hw:=h.below hb
 have H:=hid hw;have Hw:=hid h;clear h hw hb
 go_enter Tryz.func101,Tryz.ntmps101
 go_wp2_with fail
 go_loopg [0] xs.length (fun gk v wr => ∃ k : Nat,k = gk ∧ wr = w.alloc (.cells #[.slice none 0 0] 52) ∧ k ≤ xs.length ∧ v = .slice a k c ∧ zei (xs.take k) = zei xs)
 case atStart => exact ⟨_,rfl,rfl,znr _,rfl,by rw [List.take_length]⟩
 case round =>
  obtain ⟨k,rfl,rfl,hk,rfl,ht⟩:=hrel
  have Ht:=hid ht;clear ht
  rcases Nat.eq_zero_or_pos k with h0 | h0
  ·
   subst h0
   have hd : decide ((0 : Int) < ((0 : Nat) : Int)) = false:=by decide
   go_wp2_with fail
   refine bodyPost_ret (v:=.agg #[.slice a ((0 : Nat) : Nat) c]) (by simp [results,Tryz.results101,go_sem]) rfl ⟨_,rfl,⟨_,rfl,?_⟩,zba⟩
   have e : zD (yF xs) = xs.take 0:=by have:=Ht.out;rw [List.take_zero] at this ⊢;exact this.symm.trans qK
   rw [e]
   exact (Hw.out.take (znz _)).below (zba)
  ·
   obtain ⟨j,rfl⟩ : ∃ j,k = j + 1:=⟨k - 1,by omega⟩
   have hj : j < xs.length:=by omega
   obtain ⟨b,o,rfl,lb⟩:=H.out.addr hj
   have hc:=H.out.get hj
   have hx:=H.out.limbs _ (List.getElem_mem hj)
   have hst:=znZ hj
   have hso:=zm4 H.out.limbs hj
   generalize xs[j] = x at hc hx hst hso
   have Hst:=hid hst;have Hso:=hid hso;clear hst hso
   by_cases hx0 : x = 0
   ·
    have H0:=hid (Hst.out hx0)
    clear Hst Hso
    subst hx0
    go_wp2_with fail
    go_roundg j
    case measure => omega
    case rel => exact ⟨j,rfl,rfl,by omega,by go_num,H0.out.symm.trans Ht.out⟩
   ·
    have hne : ((x : Int) == 0) = false:=by simpa using hx0
    have H0:=hid (Hso.out hx0)
    clear Hst Hso
    go_wp2_with fail
    refine bodyPost_ret (v:=.agg #[.slice (some ⟨b,o,none⟩) (j + 1) c]) (by simp [results,Tryz.results101,go_sem]) rfl ⟨_,rfl,⟨_,rfl,?_⟩,zba⟩
    have e : zD (yF xs) = xs.take (j + 1):=Ht.out.symm.trans H0.out
    rw [e]
    exact (Hw.out.take hk).below (zba)
theorem zeZ (vs : Value) (xs : List Nat) (w : World) (h : yj w vs xs) :
 Calls Tryz.prog 101 #[vs] w fun e w' => ∃ v,e = .returned v ∧ yK w' v (yF xs) ∧ Below w.heap.size w w':=by
 obtain ⟨a,c,rfl,h1,h2⟩:=h.shape
 exact (zqW a c xs w h).mono fun e w' ⟨k,h1,h2,h3⟩ => ⟨_,h1,h2,h3⟩
theorem yj.zc2 {w w' : World} {v : Value} {xs : List Nat} {md : Nat} {mq : List (Int × Value)} (h : yj w v xs) (hm : MapOf w md (Value.int .i64) mq) (ho : Only (· = md) w w') : yj w' v xs:=by
 obtain ⟨a,b,o,c,h1,h2,h3,h4,h5,h6,h7⟩:=h
 refine ⟨a,b,o,c,h1,h2,h3,h4,fun i hi => ?_,fun e => Nat.lt_of_lt_of_le (h6 e) ho.size,h7⟩
 have hlt:=h6 (by intro e;subst e;simp at hi)
 have hc:=h5 i hi
 have hn : b ≠ md:=fun e => by
  subst e
  obtain ⟨es,cl,hb,_⟩:=hm
  simp [World.cell?,hb] at hc
 exact (ho.cell hlt hn).trans hc
theorem yK.zc2 {w w' : World} {v : Value} {n md : Nat} {mq : List (Int × Value)} (h : yK w v n) (hm : MapOf w md (Value.int .i64) mq) (ho : Only (· = md) w w') : yK w' v n:=by
 obtain ⟨s,rfl,hs⟩:=h;exact ⟨s,rfl,hs.zc2 hm ho⟩
structure zew (wr : World) (B : Nat) (a : Option Addr) (c n : Nat) : Prop where
 blk : wr.heap[B]? = some (.cells #[.slice a (zD n).length c] 52 (0,0))
 nat : yK wr (.agg #[.slice a (zD n).length c]) n
theorem zew.below {wr w2 : World} {B : Nat} {a : Option Addr} {c n : Nat} (h : zew wr B a c n) (hb : Below wr.heap.size wr w2) : zew w2 B a c n:=⟨(hb.block _ (zlb h.blk)).trans h.blk,h.nat.below hb⟩
theorem zew.mk' {wr : World} {a : Option Addr} {c k : Nat} (hn : yK wr (.agg #[.slice a (zD k).length c]) k) : zew (wr.alloc (.cells #[.slice a (zD k).length c] 52)) wr.heap.size a c k:=⟨za rfl,hn.below (zba)⟩
theorem zew.more {wr : World} {b : Option Addr} {d j : Nat} {E : Nat} (h : zew wr E b d j) (o : Obj) : zew (wr.alloc o) E b d j:=h.below (zba)
theorem zew.lt {wr : World} {b : Option Addr} {d j : Nat} {E : Nat} (h : zew wr E b d j) : E < wr.heap.size:=zlb h.blk
theorem zgI (w : World) (o1 o2 o3 : Obj) : Below w.heap.size w (((w.alloc o1).alloc o2).alloc o3):=((zba).alloc (by simp) _).alloc (by simp only [zm];omega) _
theorem zgm (w : World) (o1 o2 o3 o4 : Obj) : Below w.heap.size w ((((w.alloc o1).alloc o2).alloc o3).alloc o4):=(zgI w o1 o2 o3).alloc (by simp only [zm];omega) _
theorem zl6 (w : World) : (zeroValue 52).run Tryz.prog w = .ok (.agg #[.slice none 0 0]) w:=by kernel_rfl
theorem zmq {n : Nat} (h : n ≤ 2 ^ 24) : (zD n).length ≤ 1000000:=by
 have:=zpM (n:=n) (k:=1) (by rw [Nat.pow_one];unfold B32;omega)
 omega
set_option maxHeartbeats 1000000 in
theorem zrN (n : Nat) (w : World) (hn : n ≤ 9223372036854775807) :
 Calls Tryz.prog 113 #[.int .i64 n] w fun e w' => ∃ v,e = .returned v ∧ yK w' v n ∧ Below w.heap.size w w':=by
 have h0 : decide ((n : Int) < 0) = false:=by simp
 go_enter Tryz.func113,Tryz.ntmps113
 go_wp2_with fail
 have hb : Below w.heap.size w ((w.alloc (.cells #[.slice none 0 0] 52)).alloc (.cells #[.int .u32 ((n : Int) % 4294967296),.int .u32 ((n : Int) / 4294967296)] 161)):=(zba).alloc (by simp) _
 refine (zeZ _ [n % B32,n / B32] _ (zkj _ (za (by simp)) (by simp [B32]) rfl (znr _) (show 2 ≤ maxLen by decide) (fun x hx => ?_))).mono ?_
 · unfold B32 at hx ⊢;simp at hx;omega
 rintro e w1 ⟨v,rfl,hn1,hb1⟩
 have hv : yF [n % B32,n / B32] = n:=by simp only [yF,Nat.mul_zero,Nat.add_zero];exact Nat.mod_add_div n B32
 rw [hv] at hn1
 have hr : Res w w1 52 (.slice none 0 0):=zo9 (ze (za rfl)) hb hb1
 obtain ⟨a,c,rfl⟩:=hn1.shape
 have hcell:=hr.cell;have hfz:=hr.free;have hlt:=hr.lt
 have Hn:=hid hn1;have Hr:=hid hr
 clear hn1 hb hb1 hv hr
 go_wp2_with fail
 exact bodyPost_ret (v:=.agg #[.slice a (zD n).length c]) (by simp [results,Tryz.results113,go_sem,hcell]) rfl ⟨_,rfl,Hn.out.jF Hr.out.blk _,Hr.out.set _⟩
set_option maxHeartbeats 1000000 in
theorem zii (x y c : Nat) (w : World) (hx : x < B32) (hy : y < B32) (hc : c ≤ 1) :
 Calls Tryz.prog 165 #[.int .u32 x,.int .u32 y,.int .u32 c] w fun e w' => e = .returned (.tuple #[.int .u32 ((x + y + c) % B32 : Nat),.int .u32 ((x + y + c) / B32 : Nat)]) ∧ w = w':=by
 unfold B32 at *
 go_enter Tryz.func165,Tryz.ntmps165
 go_wp2_with fail
 go_ret2
 exact ⟨rfl,rfl⟩
theorem ziw : (Tryz.prog.info? 161).map (fun i => (i.zero,i.size,i.bytes)) = some (some (.int .u32 0),1,4):=by kernel_rfl
theorem zc9 {w : World} {base e : Nat} {v : Value} {n : Nat} {xs : List Nat} (h : w.ownsRow base e 1 v n (xs.map (fun x => Value.int .u32 (x : Nat)))) (hx : Limbs xs) : yj w v xs:=by
 obtain ⟨h1,h2⟩:=h
 have hn : n = xs.length:=by simp at h1;omega
 subst hn
 rcases h2 with ⟨rfl,h3⟩ | ⟨g,cap,cur,rfl,hg,hh,h3,h4,h5,h6⟩
 ·
  have e : xs = []:=List.eq_nil_of_length_eq_zero h3
  subst e
  exact zkG _
 ·
  refine ⟨_,g,0,cap,rfl,fun _ => rfl,h3,h4,fun i hi => ?_,fun _ => (Array.getElem?_eq_some_iff.1 hh).1,hx⟩
  rw [cell_of_row w g (0 + i) cur e (0,0) hh,Nat.zero_add]
  have h7 : (cur.toList.take (xs.length * 1))[i]? = some (.int .u32 (xs[i] : Nat)):=by rw [h6];simp [hi]
  rw [List.getElem?_take] at h7
  split at h7
  · simpa using h7
  · cases h7
theorem zjn (c : Nat) (h : c ≤ 2000001) (w : World) : (Instr.makeSlice 50 (.int .i64 0) (.int .i64 (c : Int))).run Tryz.prog w = .ok (.slice (some ⟨w.heap.size,0,none⟩) 0 c) (w.alloc (.cells (madeCells #[.int .u32 0] c) 161)):=by
 obtain ⟨i,hi,hzz⟩:=Option.map_eq_some_iff.1 ziw
 simp only [Prod.mk.injEq] at hzz
 obtain ⟨hz,hs,hb⟩:=hzz
 have:=run_make (P:=Tryz.prog) w 50 161 i _ Tryz.underlying50 hi hz .i64 .i64 0 c (Int.le_refl _) (by omega) (by rw [hb];omega) (by omega)
 simpa [hs,Value.cells] using this
def dig (ys : List Nat) (k : Nat) : Nat:=ys.getD k 0
theorem zb1 {ys : List Nat} (h : Limbs ys) (k : Nat) : dig ys k < B32:=by
 unfold dig
 rw [List.getD_eq_getElem?_getD]
 cases e : ys[k]? with
 | none => simp [B32]
 | some y => exact h y (List.mem_of_getElem? e)
theorem zeh (ys : List Nat) (k : Nat) : yF (ys.take (k + 1)) = yF (ys.take k) + B32 ^ k * dig ys k:=by
 rcases Nat.lt_or_ge k ys.length with h | h
 · rw [zgo h];unfold dig;simp [h]
 ·
  rw [List.take_of_length_le (by omega),List.take_of_length_le h]
  unfold dig;rw [List.getD_eq_getElem?_getD,List.getElem?_eq_none h];simp
theorem zoV {xs ys outs : List Nat} {k c : Nat} (hl : outs.length = k) (inv : yF outs + B32 ^ k * c = yF (xs.take k) + yF (ys.take k)) :
 yF (outs ++ [(dig xs k + dig ys k + c) % B32]) + B32 ^ (k + 1) * ((dig xs k + dig ys k + c) / B32) = yF (xs.take (k + 1)) + yF (ys.take (k + 1)):=by
 rw [zeh,zeh,jC,hl,yF,yF,Nat.mul_zero,Nat.add_zero,Nat.pow_succ,Nat.mul_assoc,Nat.add_assoc,← Nat.mul_add,Nat.mod_add_div,Nat.mul_add,Nat.mul_add]
 omega
theorem zpe {x y c : Nat} (hx : x < B32) (hy : y < B32) (hc : c ≤ 1) : (x + y + c) / B32 ≤ 1:=by
 have : x + y + c < 2 * B32:=by omega
 have:=(Nat.div_lt_iff_lt_mul (show 0 < B32 by decide)).2 this
 omega
structure zgt (W wr : World) (base : Nat) (v : Value) (k c : Nat) (outs xs ys : List Nat) : Prop where
 below : Below base W wr
 own : wr.ownsRow base 161 1 v outs.length (outs.map (fun x => Value.int .u32 (x : Nat)))
 len : outs.length = k
 lim : Limbs outs
 cl : c ≤ 1
 val : yF outs + B32 ^ k * c = yF (xs.take k) + yF (ys.take k)
theorem zgt.push {W wr w2 : World} {base : Nat} {v v' : Value} {k c : Nat} {outs xs ys : List Nat} (h : zgt W wr base v k c outs xs ys) (hx : Limbs xs) (hy : Limbs ys) (hbase : base ≤ wr.heap.size)
 (ho : w2.ownsRow base 161 1 v' (outs.length + 1) (outs.map (fun x => Value.int .u32 (x : Nat)) ++ [.int .u32 (((dig xs k + dig ys k + c) % B32 : Nat) : Int)])) (hg : (wr.alloc (.cells #[.int .u32 (((dig xs k + dig ys k + c) % B32 : Nat) : Int)] 161)).grownBy w2 v.ownBlock) :
 zgt W w2 base v' (k + 1) ((dig xs k + dig ys k + c) / B32) (outs ++ [(dig xs k + dig ys k + c) % B32]) xs ys:=by
 have hv : ∀ j,v.ownBlock = some j → base ≤ j:=fun j hj => (h.own.lt j hj).1
 have hb : Below base (wr.alloc (.cells #[.int .u32 (((dig xs k + dig ys k + c) % B32 : Nat) : Int)] 161)) w2:=(Below.refl _ _).grown hg (by simp;omega) hv
 refine ⟨(h.below.alloc hbase _).trans hb,by simpa using ho,by simp [h.len],fun x hx' => ?_,zpe (zb1 hx k) (zb1 hy k) h.cl,zoV h.len h.val⟩
 rcases List.mem_append.1 hx' with hx' | hx'
 · exact h.lim x hx'
 · rw [List.mem_singleton.1 hx'];exact Nat.mod_lt _ (by decide)
set_option maxRecDepth 100000 in
set_option maxHeartbeats 8000000 in
theorem zr4 (a b : Nat) (va vb : Value) (w : World) (ha : yK w va a) (hb : yK w vb b) (hle : (zD b).length ≤ (zD a).length) (hmax : (zD a).length ≤ 1000000) :
 Calls Tryz.prog 114 #[va,vb] w fun e w' => ∃ v,e = .returned v ∧ yK w' v (a + b) ∧ Below w.heap.size w w':=by
 obtain ⟨i0,hi,hz0,hz1,hz2⟩:=info_parts ziw
 obtain ⟨aa,ca,rfl⟩:=ha.shape
 obtain ⟨ab,cb,rfl⟩:=hb.shape
 have hA:=ha.limbs;have hB:=hb.limbs
 clear ha hb
 have ea:=zc1 a;have eb:=zc1 b
 generalize zD a = xs at hA ea hle hmax ⊢
 generalize zD b = ys at hB eb hle ⊢
 obtain ⟨_,_,eA,hA1,hA2⟩:=hA.shape
 obtain ⟨_,_,eB,hB1,hB2⟩:=hB.shape
 cases eA;cases eB
 have hd0 : decide (xs.length < ys.length) = false:=by simp;omega
 have hle2 : ys.length ≤ xs.length:=by omega
 have hmk:=zjn (xs.length + 1) (by omega)
 rw [show ((xs.length + 1 : Nat) : Int) = (xs.length : Int) + 1 by omega] at hmk
 have Ea:=hid ea;have Eb:=hid eb;have HA:=hid hA;have HB:=hid hB
 clear ea eb hA hB hle
 go_enter Tryz.func114,Tryz.ntmps114
 go_wp2_with fail
 have hbl : Below w.heap.size w (((w.alloc (.cells #[.slice aa xs.length ca] 52)).alloc (.cells #[.slice ab ys.length cb] 52)).alloc (.cells #[.slice none 0 0] 52)):=((zba).alloc (by simp) _).alloc (by simp only [zm];omega) _
 obtain ⟨w2,ew⟩ : ∃ x,x = ((w.alloc (.cells #[.slice aa xs.length ca] 52)).alloc (.cells #[.slice ab ys.length cb] 52)).alloc (.cells #[.slice none 0 0] 52):=⟨_,rfl⟩
 have hsz : w.heap.size + 1 + 1 + 1 = w2.heap.size:=by rw [ew];simp
 have hbb : w2.heap[w.heap.size + 1]? = some (.cells #[.slice ab ys.length cb] 52 (0,0)):=by rw [ew];exact ze (za (by simp))
 have hbr : w2.heap[w.heap.size + 1 + 1]? = some (.cells #[.slice none 0 0] 52 (0,0)):=by rw [ew];exact za (by simp)
 have hHA:=HA.out.below hbl
 have hHB:=HB.out.below hbl
 rw [hsz,← ew]
 rw [← ew] at hHA hHB hbl
 have hown:=World.ownsRow_made (base:=w2.heap.size) (e:=161) (size:=1) w2 (madeCells #[.int .u32 0] (xs.length + 1)) (xs.length + 1) (znr _) (show xs.length + 1 ≤ maxLen by unfold maxLen;omega) (by rw [size_madeCells];omega)
 clear ew HA HB hd0 hmk
 have hst : zgt w2 (w2.alloc (.cells (madeCells #[.int .u32 0] (xs.length + 1)) 161)) w2.heap.size (.slice (some ⟨w2.heap.size,0,none⟩) 0 (xs.length + 1)) 0 0 [] xs ys :=
  ⟨zba,hown,rfl,(fun x hx => by cases hx),znz _,by simp [yF]⟩
 have hlr : w.heap.size + 1 + 1 < w2.heap.size:=by omega
 have HA:=hid hHA;have HB:=hid hHB;have Hbl:=hid hbl;have Hsz:=hid hsz;have Hbb:=hid hbb;have Hbr:=hid hbr;have Hst:=hid hst
 clear hHA hHB hbl hsz hbb hbr hst hown
 go_loopg [5,6,27] xs.length (fun gk o cy i wr => ∃ (k c : Nat) (outs : List Nat),k ≤ xs.length ∧ gk = xs.length - k ∧ i = .int .i64 k ∧ cy = .int .u32 c ∧ zgt w2 wr w2.heap.size o k c outs xs ys)
 case atStart => exact ⟨0,0,[],znz _,rfl,rfl,rfl,Hst.out⟩
 case round =>
  clear Hst
  obtain ⟨k,c,outs,hk,rfl,rfl,rfl,hI⟩:=hrel
  have hsw:=hI.below.size
  have cB:=zco ((hI.below.block _ (by omega)).trans Hbb.out)
  by_cases hlt : k < xs.length
  ·
   obtain ⟨b1,o1,rfl,lb1⟩:=HA.out.addr hlt
   have g1:=(HA.out.below hI.below).get hlt
   have hx : xs[k] = dig xs k:=by unfold dig;simp [hlt]
   rw [hx] at g1
   have bx:=zb1 HA.out.limbs k
   have by_:=zb1 HB.out.limbs k
   have bc:=hI.cl
   have hs:=Nat.mod_lt (dig xs k + dig ys k + c) (show 0 < B32 by decide)
   have hq:=fun w' => zii (dig xs k) (dig ys k) c w' bx by_ bc
   have hpush:=fun (w7 : World) (v' : Value) => hI.push (w2:=w7) (v':=v') HA.out.limbs HB.out.limbs hsw
   have hol:=hI.len
   have hol2 : outs.length ≤ 1000000:=by omega
   have hown:=hI.own.alloc (.cells #[.int .u32 (((dig xs k + dig ys k + c) % B32 : Nat) : Int)] 161)
   by_cases hy : k < ys.length
   ·
    obtain ⟨b2,o2,rfl,lb2⟩:=HB.out.addr hy
    have g2:=(HB.out.below hI.below).get hy
    have hyy : ys[k] = dig ys k:=by unfold dig;simp [hy]
    rw [hyy] at g2
    generalize dig xs k = x at g1 bx hs hq hpush hown
    generalize dig ys k = y at g2 by_ hs hq hpush hown
    have Hq:=hid hq;have Hpush:=hid hpush;have Hown:=hid hown;have Hol:=hid hol
    clear hq hpush hown hx hyy hI hol hs
    go_wp2_with fail
    refine (Hq.out _).mono ?_
    rintro e w' ⟨rfl,rfl⟩
    generalize (x + y + c) % B32 = r at Hpush Hown ⊢
    generalize (x + y + c) / B32 = c2 at Hpush ⊢
    go_wp2_with (at_builtin;refine wpList_append_own _ rfl (.tmp 49) (.tmp 51) 50 rfl w2.heap.size 161 i0 (.int .u32 0) 1 4 Tryz.underlying50 hi hz0 hz1 hz2 rfl (by decide) _ _ _ rfl Hown.out ⟨wr.heap.size,0,none⟩ 1 1 [.int .u32 (r : Int)] rfl rfl (cell_one_new _ _ _) (by intro u hu;rw [List.mem_singleton.1 hu];rfl) (by simp only [maxLen];omega) (by omega) (by simp;omega) ?_;intro v' w7 hown7 hgrow7 _;have Hf7:=hid (Hpush.out _ _ hown7 hgrow7);clear hown7 hgrow7)
    go_roundg (xs.length - (k + 1))
    case measure => omega
    case rel => exact ⟨k + 1,_,_,hlt,rfl,by go_num,rfl,Hf7.out⟩
   ·
    have hy0 : dig ys k = 0:=by
     unfold dig;rw [List.getD_eq_getElem?_getD,List.getElem?_eq_none (by omega)];rfl
    rw [hy0] at hq hpush hown hs
    generalize dig xs k = x at g1 bx hs hq hpush hown
    have Hq:=hid hq;have Hpush:=hid hpush;have Hown:=hid hown;have Hol:=hid hol
    clear hq hpush hown hx hy0 hI hol hs by_
    go_wp2_with fail
    refine (Hq.out _).mono ?_
    rintro e w' ⟨rfl,rfl⟩
    generalize (x + 0 + c) % B32 = r at Hpush Hown ⊢
    generalize (x + 0 + c) / B32 = c2 at Hpush ⊢
    go_wp2_with (at_builtin;refine wpList_append_own _ rfl (.tmp 49) (.tmp 51) 50 rfl w2.heap.size 161 i0 (.int .u32 0) 1 4 Tryz.underlying50 hi hz0 hz1 hz2 rfl (by decide) _ _ _ rfl Hown.out ⟨wr.heap.size,0,none⟩ 1 1 [.int .u32 (r : Int)] rfl rfl (cell_one_new _ _ _) (by intro u hu;rw [List.mem_singleton.1 hu];rfl) (by simp only [maxLen];omega) (by omega) (by simp;omega) ?_;intro v' w7 hown7 hgrow7 _;have Hf7:=hid (Hpush.out _ _ hown7 hgrow7);clear hown7 hgrow7)
    go_roundg (xs.length - (k + 1))
    case measure => omega
    case rel => exact ⟨k + 1,_,_,hlt,rfl,by go_num,rfl,Hf7.out⟩
  ·
   have hk2 : k = xs.length:=by omega
   have hval:=hI.val
   rw [hk2,List.take_length,List.take_of_length_le hle2,Ea.out,Eb.out] at hval
   have hol : outs.length = xs.length:=hI.len.trans hk2
   have hol2 : outs.length ≤ 1000000:=by omega
   have hv2 : yF (outs ++ [c]) = a + b:=by rw [jC,hol];simpa [yF] using hval
   have hlim : Limbs (outs ++ [c]):=fun x hx' => by
    rcases List.mem_append.1 hx' with hx' | hx'
    · exact hI.lim x hx'
    · rw [List.mem_singleton.1 hx'];have:=hI.cl;unfold B32;omega
   have hown:=hI.own.alloc (.cells #[.int .u32 (c : Int)] 161)
   have hbl2 : Below w2.heap.size w2 (wr.alloc (.cells #[.int .u32 (c : Int)] 161)):=hI.below.alloc hsw _
   have hvb:=fun j hj => (hI.own.lt j hj).1
   have hlt2 : ¬ (k : Int) < xs.length:=by omega
   have Hown:=hid hown;have Hol:=hid hol;have Hlim:=hid hlim;have Hv2:=hid hv2;have Hbl2:=hid hbl2;have Hvb:=hid hvb
   clear hown hol hlim hv2 hval hI hk2 hbl2 hvb
   go_wp2_with (at_builtin;refine wpList_append_own _ rfl (.tmp 54) (.tmp 56) 50 rfl w2.heap.size 161 i0 (.int .u32 0) 1 4 Tryz.underlying50 hi hz0 hz1 hz2 rfl (by decide) _ _ _ rfl Hown.out ⟨wr.heap.size,0,none⟩ 1 1 [.int .u32 (c : Int)] rfl rfl (cell_one_new _ _ _) (by intro u hu;rw [List.mem_singleton.1 hu];rfl) (by simp only [maxLen];omega) (by omega) (by simp;omega) ?_;intro v' w7 hown7 hgrow7 _;have Hown7:=hid hown7;have Hb7:=hid (Hbl2.out.trans ((Below.refl _ _).grown hgrow7 (by simp;omega) Hvb.out));clear hown7 hgrow7)
   have hlimbs : yj w7 v' (outs ++ [c]):=zc9 (by simpa using Hown7.out) Hlim.out
   refine (zeZ v' (outs ++ [c]) w7 hlimbs).mono ?_
   rintro e w8 ⟨v8,rfl,hn8,hb8⟩
   rw [Hv2.out] at hn8
   obtain ⟨a8,c8,rfl⟩:=hn8.shape
   have hs7:=Hb7.out.size
   have hblk : w8.heap[w.heap.size + 1 + 1]? = some (.cells #[.slice none 0 0] 52 (0,0)):=(hb8.block _ (by omega)).trans ((Hb7.out.block _ (by omega)).trans Hbr.out)
   have hcell:=zco hblk;have hfz:=zfo hblk;have hlt8:=zlb hblk
   have Hn:=hid hn8;have Hblk:=hid hblk;have Hall:=hid (Hbl.out.trans ((Hb7.out.trans (hb8.mono hs7)).mono Hbl.out.size))
   clear hn8 hblk hb8 hlimbs Hown7 Hb7 cB
   go_wp2_with fail
   exact bodyPost_ret (v:=.agg #[.slice a8 (zD (a + b)).length c8]) (by simp [results,Tryz.results114,go_sem,hcell]) rfl ⟨_,rfl,Hn.out.jF Hblk.out _,Hall.out.setCell (by simp;omega) _⟩
set_option maxRecDepth 100000 in
set_option maxHeartbeats 8000000 in
theorem zrz (a b : Nat) (va vb : Value) (w : World) (ha : yK w va a) (hb : yK w vb b) (hle : (zD b).length < (zD a).length) (hmax : (zD a).length ≤ 1000000) :
 Calls Tryz.prog 114 #[vb,va] w fun e w' => ∃ v,e = .returned v ∧ yK w' v (a + b) ∧ Below w.heap.size w w':=by
 obtain ⟨i0,hi,hz0,hz1,hz2⟩:=info_parts ziw
 obtain ⟨aa,ca,rfl⟩:=ha.shape
 obtain ⟨ab,cb,rfl⟩:=hb.shape
 have hA:=ha.limbs;have hB:=hb.limbs
 clear ha hb
 have ea:=zc1 a;have eb:=zc1 b
 generalize zD a = xs at hA ea hle hmax ⊢
 generalize zD b = ys at hB eb hle ⊢
 obtain ⟨_,_,eA,hA1,hA2⟩:=hA.shape
 obtain ⟨_,_,eB,hB1,hB2⟩:=hB.shape
 cases eA;cases eB
 have hd0 : decide (ys.length < xs.length) = true:=by simpa using hle
 have hle2 : ys.length ≤ xs.length:=by omega
 have hmk:=zjn (xs.length + 1) (by omega)
 rw [show ((xs.length + 1 : Nat) : Int) = (xs.length : Int) + 1 by omega] at hmk
 have Ea:=hid ea;have Eb:=hid eb;have HA:=hid hA;have HB:=hid hB
 clear ea eb hA hB hle
 go_enter Tryz.func114,Tryz.ntmps114
 go_wp2_with fail
 have hbl : Below w.heap.size w (((w.alloc (.cells #[.slice aa xs.length ca] 52)).alloc (.cells #[.slice ab ys.length cb] 52)).alloc (.cells #[.slice none 0 0] 52)):=((zba).alloc (by simp) _).alloc (by simp only [zm];omega) _
 obtain ⟨w2,ew⟩ : ∃ x,x = ((w.alloc (.cells #[.slice aa xs.length ca] 52)).alloc (.cells #[.slice ab ys.length cb] 52)).alloc (.cells #[.slice none 0 0] 52):=⟨_,rfl⟩
 have hsz : w.heap.size + 1 + 1 + 1 = w2.heap.size:=by rw [ew];simp
 have hbb : w2.heap[w.heap.size + 1]? = some (.cells #[.slice ab ys.length cb] 52 (0,0)):=by rw [ew];exact ze (za (by simp))
 have hbr : w2.heap[w.heap.size + 1 + 1]? = some (.cells #[.slice none 0 0] 52 (0,0)):=by rw [ew];exact za (by simp)
 have hHA:=HA.out.below hbl
 have hHB:=HB.out.below hbl
 rw [hsz,← ew]
 rw [← ew] at hHA hHB hbl
 have hown:=World.ownsRow_made (base:=w2.heap.size) (e:=161) (size:=1) w2 (madeCells #[.int .u32 0] (xs.length + 1)) (xs.length + 1) (znr _) (show xs.length + 1 ≤ maxLen by unfold maxLen;omega) (by rw [size_madeCells];omega)
 clear ew HA HB hd0 hmk
 have hst : zgt w2 (w2.alloc (.cells (madeCells #[.int .u32 0] (xs.length + 1)) 161)) w2.heap.size (.slice (some ⟨w2.heap.size,0,none⟩) 0 (xs.length + 1)) 0 0 [] xs ys :=
  ⟨zba,hown,rfl,(fun x hx => by cases hx),znz _,by simp [yF]⟩
 have hlr : w.heap.size + 1 + 1 < w2.heap.size:=by omega
 have HA:=hid hHA;have HB:=hid hHB;have Hbl:=hid hbl;have Hsz:=hid hsz;have Hbb:=hid hbb;have Hbr:=hid hbr;have Hst:=hid hst
 clear hHA hHB hbl hsz hbb hbr hst hown
 go_loopg [5,6,27] xs.length (fun gk o cy i wr => ∃ (k c : Nat) (outs : List Nat),k ≤ xs.length ∧ gk = xs.length - k ∧ i = .int .i64 k ∧ cy = .int .u32 c ∧ zgt w2 wr w2.heap.size o k c outs xs ys)
 case atStart => exact ⟨0,0,[],znz _,rfl,rfl,rfl,Hst.out⟩
 case round =>
  clear Hst
  obtain ⟨k,c,outs,hk,rfl,rfl,rfl,hI⟩:=hrel
  have hsw:=hI.below.size
  have cB:=zco ((hI.below.block _ (by omega)).trans Hbb.out)
  by_cases hlt : k < xs.length
  ·
   obtain ⟨b1,o1,rfl,lb1⟩:=HA.out.addr hlt
   have g1:=(HA.out.below hI.below).get hlt
   have hx : xs[k] = dig xs k:=by unfold dig;simp [hlt]
   rw [hx] at g1
   have bx:=zb1 HA.out.limbs k
   have by_:=zb1 HB.out.limbs k
   have bc:=hI.cl
   have hs:=Nat.mod_lt (dig xs k + dig ys k + c) (show 0 < B32 by decide)
   have hq:=fun w' => zii (dig xs k) (dig ys k) c w' bx by_ bc
   have hpush:=fun (w7 : World) (v' : Value) => hI.push (w2:=w7) (v':=v') HA.out.limbs HB.out.limbs hsw
   have hol:=hI.len
   have hol2 : outs.length ≤ 1000000:=by omega
   have hown:=hI.own.alloc (.cells #[.int .u32 (((dig xs k + dig ys k + c) % B32 : Nat) : Int)] 161)
   by_cases hy : k < ys.length
   ·
    obtain ⟨b2,o2,rfl,lb2⟩:=HB.out.addr hy
    have g2:=(HB.out.below hI.below).get hy
    have hyy : ys[k] = dig ys k:=by unfold dig;simp [hy]
    rw [hyy] at g2
    generalize dig xs k = x at g1 bx hs hq hpush hown
    generalize dig ys k = y at g2 by_ hs hq hpush hown
    have Hq:=hid hq;have Hpush:=hid hpush;have Hown:=hid hown;have Hol:=hid hol
    clear hq hpush hown hx hyy hI hol hs
    go_wp2_with fail
    refine (Hq.out _).mono ?_
    rintro e w' ⟨rfl,rfl⟩
    generalize (x + y + c) % B32 = r at Hpush Hown ⊢
    generalize (x + y + c) / B32 = c2 at Hpush ⊢
    go_wp2_with (at_builtin;refine wpList_append_own _ rfl (.tmp 49) (.tmp 51) 50 rfl w2.heap.size 161 i0 (.int .u32 0) 1 4 Tryz.underlying50 hi hz0 hz1 hz2 rfl (by decide) _ _ _ rfl Hown.out ⟨wr.heap.size,0,none⟩ 1 1 [.int .u32 (r : Int)] rfl rfl (cell_one_new _ _ _) (by intro u hu;rw [List.mem_singleton.1 hu];rfl) (by simp only [maxLen];omega) (by omega) (by simp;omega) ?_;intro v' w7 hown7 hgrow7 _;have Hf7:=hid (Hpush.out _ _ hown7 hgrow7);clear hown7 hgrow7)
    go_roundg (xs.length - (k + 1))
    case measure => omega
    case rel => exact ⟨k + 1,_,_,hlt,rfl,by go_num,rfl,Hf7.out⟩
   ·
    have hy0 : dig ys k = 0:=by
     unfold dig;rw [List.getD_eq_getElem?_getD,List.getElem?_eq_none (by omega)];rfl
    rw [hy0] at hq hpush hown hs
    generalize dig xs k = x at g1 bx hs hq hpush hown
    have Hq:=hid hq;have Hpush:=hid hpush;have Hown:=hid hown;have Hol:=hid hol
    clear hq hpush hown hx hy0 hI hol hs by_
    go_wp2_with fail
    refine (Hq.out _).mono ?_
    rintro e w' ⟨rfl,rfl⟩
    generalize (x + 0 + c) % B32 = r at Hpush Hown ⊢
    generalize (x + 0 + c) / B32 = c2 at Hpush ⊢
    go_wp2_with (at_builtin;refine wpList_append_own _ rfl (.tmp 49) (.tmp 51) 50 rfl w2.heap.size 161 i0 (.int .u32 0) 1 4 Tryz.underlying50 hi hz0 hz1 hz2 rfl (by decide) _ _ _ rfl Hown.out ⟨wr.heap.size,0,none⟩ 1 1 [.int .u32 (r : Int)] rfl rfl (cell_one_new _ _ _) (by intro u hu;rw [List.mem_singleton.1 hu];rfl) (by simp only [maxLen];omega) (by omega) (by simp;omega) ?_;intro v' w7 hown7 hgrow7 _;have Hf7:=hid (Hpush.out _ _ hown7 hgrow7);clear hown7 hgrow7)
    go_roundg (xs.length - (k + 1))
    case measure => omega
    case rel => exact ⟨k + 1,_,_,hlt,rfl,by go_num,rfl,Hf7.out⟩
  ·
   have hk2 : k = xs.length:=by omega
   have hval:=hI.val
   rw [hk2,List.take_length,List.take_of_length_le hle2,Ea.out,Eb.out] at hval
   have hol : outs.length = xs.length:=hI.len.trans hk2
   have hol2 : outs.length ≤ 1000000:=by omega
   have hv2 : yF (outs ++ [c]) = a + b:=by rw [jC,hol];simpa [yF] using hval
   have hlim : Limbs (outs ++ [c]):=fun x hx' => by
    rcases List.mem_append.1 hx' with hx' | hx'
    · exact hI.lim x hx'
    · rw [List.mem_singleton.1 hx'];have:=hI.cl;unfold B32;omega
   have hown:=hI.own.alloc (.cells #[.int .u32 (c : Int)] 161)
   have hbl2 : Below w2.heap.size w2 (wr.alloc (.cells #[.int .u32 (c : Int)] 161)):=hI.below.alloc hsw _
   have hvb:=fun j hj => (hI.own.lt j hj).1
   have hlt2 : ¬ (k : Int) < xs.length:=by omega
   have Hown:=hid hown;have Hol:=hid hol;have Hlim:=hid hlim;have Hv2:=hid hv2;have Hbl2:=hid hbl2;have Hvb:=hid hvb
   clear hown hol hlim hv2 hval hI hk2 hbl2 hvb
   go_wp2_with (at_builtin;refine wpList_append_own _ rfl (.tmp 54) (.tmp 56) 50 rfl w2.heap.size 161 i0 (.int .u32 0) 1 4 Tryz.underlying50 hi hz0 hz1 hz2 rfl (by decide) _ _ _ rfl Hown.out ⟨wr.heap.size,0,none⟩ 1 1 [.int .u32 (c : Int)] rfl rfl (cell_one_new _ _ _) (by intro u hu;rw [List.mem_singleton.1 hu];rfl) (by simp only [maxLen];omega) (by omega) (by simp;omega) ?_;intro v' w7 hown7 hgrow7 _;have Hown7:=hid hown7;have Hb7:=hid (Hbl2.out.trans ((Below.refl _ _).grown hgrow7 (by simp;omega) Hvb.out));clear hown7 hgrow7)
   have hlimbs : yj w7 v' (outs ++ [c]):=zc9 (by simpa using Hown7.out) Hlim.out
   refine (zeZ v' (outs ++ [c]) w7 hlimbs).mono ?_
   rintro e w8 ⟨v8,rfl,hn8,hb8⟩
   rw [Hv2.out] at hn8
   obtain ⟨a8,c8,rfl⟩:=hn8.shape
   have hs7:=Hb7.out.size
   have hblk : w8.heap[w.heap.size + 1 + 1]? = some (.cells #[.slice none 0 0] 52 (0,0)):=(hb8.block _ (by omega)).trans ((Hb7.out.block _ (by omega)).trans Hbr.out)
   have hcell:=zco hblk;have hfz:=zfo hblk;have hlt8:=zlb hblk
   have Hn:=hid hn8;have Hblk:=hid hblk;have Hall:=hid (Hbl.out.trans ((Hb7.out.trans (hb8.mono hs7)).mono Hbl.out.size))
   clear hn8 hblk hb8 hlimbs Hown7 Hb7 cB
   go_wp2_with fail
   exact bodyPost_ret (v:=.agg #[.slice a8 (zD (a + b)).length c8]) (by simp [results,Tryz.results114,go_sem,hcell]) rfl ⟨_,rfl,Hn.out.jF Hblk.out _,Hall.out.setCell (by simp;omega) _⟩
theorem zma (a b : Nat) (va vb : Value) (w : World) (ha : yK w va a) (hb : yK w vb b) (hla : (zD a).length ≤ 1000000) (hlb : (zD b).length ≤ 1000000) :
 Calls Tryz.prog 114 #[va,vb] w fun e w' => ∃ v,e = .returned v ∧ yK w' v (a + b) ∧ Below w.heap.size w w':=by
 rcases Nat.lt_or_ge (zD a).length (zD b).length with h | h
 ·
  have q:=zrz b a vb va w hb ha h hlb
  rwa [Nat.add_comm] at q
 · exact zr4 a b va vb w ha hb h hla
theorem zfY : ∀ (xs : List Nat) (j v : Nat),j < xs.length → yF (xs.set j v) + B32 ^ j * dig xs j = yF xs + B32 ^ j * v
 | [],j,v,h => absurd h (by simp)
 | x :: xs,0,v,_ => by
  have : dig (x :: xs) 0 = x:=rfl
  rw [this]
  simp only [List.set_cons_zero,yF,Nat.pow_zero,Nat.one_mul];omega
 | x :: xs,j + 1,v,h => by
  have ih:=zfY xs j v (by simpa using h)
  have hd : dig (x :: xs) (j + 1) = dig xs j:=by unfold dig;simp
  rw [hd]
  simp only [List.set_cons_succ,yF,Nat.pow_succ]
  have e : ∀ z,B32 ^ j * B32 * z = B32 * (B32 ^ j * z):=fun z => by rw [Nat.mul_comm (B32 ^ j) B32,Nat.mul_assoc]
  rw [e,e]
  have : B32 * (yF (xs.set j v) + B32 ^ j * dig xs j) = B32 * (yF xs + B32 ^ j * v):=by rw [ih]
  rw [Nat.mul_add,Nat.mul_add] at this
  omega
theorem zrZ {B i k x y o c r q vs vo XY Yk : Nat} (hs : vs + B ^ (i + k) * o = vo + B ^ (i + k) * r) (hv : vo + B ^ (i + k) * c = XY + B ^ i * (x * Yk)) (hm : r + B * q = x * y + o + c) :
 vs + B ^ (i + (k + 1)) * q = XY + B ^ i * (x * (Yk + B ^ k * y)):=by
 rw [Nat.mul_add,Nat.mul_add,← Nat.add_assoc i k 1,Nat.pow_succ,Nat.mul_assoc]
 have h1 : B ^ (i + k) * r + B ^ (i + k) * (B * q) = B ^ (i + k) * (x * y) + B ^ (i + k) * o + B ^ (i + k) * c:=by
  rw [← Nat.mul_add,hm,Nat.mul_add,Nat.mul_add]
 have h2 : B ^ i * (x * (B ^ k * y)) = B ^ (i + k) * (x * y):=by
  rw [Nat.pow_add,Nat.mul_assoc,Nat.mul_left_comm x]
 omega
theorem zrA {B i x c vs vo Xi Y n : Nat} (hs : vs + B ^ (i + n) * 0 = vo + B ^ (i + n) * c) (hv : vo + B ^ (i + n) * c = Xi * Y + B ^ i * (x * Y)) : vs = (Xi + B ^ i * x) * Y:=by
 rw [Nat.add_mul,Nat.mul_assoc]
 rw [Nat.mul_zero] at hs
 omega
theorem zr1 {a b B C x : Nat} {ys : List Nat} (h : a = b) : a + B * 0 = b + C * (x * yF (ys.take 0)):=by
 rw [List.take_zero,h];simp [yF]
theorem ziv {xs : List Nat} (h : Limbs xs) {j v : Nat} (hv : v < B32) : Limbs (xs.set j v):=fun x hx => by
 rcases List.mem_or_eq_of_mem_set hx with hx | rfl
 · exact h x hx
 · exact hv
structure zhe (outs xs ys : List Nat) (i k c : Nat) : Prop where
 len : outs.length = xs.length + ys.length
 lim : Limbs outs
 cl : c < B32
 zero : ∀ j,i + ys.length ≤ j → dig outs j = 0
 val : yF outs + B32 ^ (i + k) * c = yF (xs.take i) * yF ys + B32 ^ i * (dig xs i * yF (ys.take k))
theorem zgk {xs : List Nat} {i j v : Nat} (h : i ≠ j) : dig (xs.set i v) j = dig xs j:=by
 unfold dig;rw [List.getD_eq_getElem?_getD,List.getElem?_set_ne h,List.getD_eq_getElem?_getD]
theorem sq_lt : (B32 - 1) * B32 + (B32 - 1) < B32 * B32:=by unfold B32;omega
theorem zpW {x y o c : Nat} (a : x < B32) (b : y < B32) (d : o < B32) (e : c < B32) : x * y + o + c ≤ (B32 - 1) * B32 + (B32 - 1):=by
 have f : x * y ≤ (B32 - 1) * (B32 - 1):=Nat.mul_le_mul (by omega) (by omega)
 have g : (B32 - 1) * B32 = (B32 - 1) * (B32 - 1) + (B32 - 1):=by unfold B32;omega
 omega
theorem zhe.prod {outs xs ys : List Nat} {i k c : Nat} (h : zhe outs xs ys i k c) (hx : Limbs xs) (hy : Limbs ys) : dig xs i * dig ys k + dig outs (i + k) + c ≤ (B32 - 1) * B32 + (B32 - 1) :=
 zpW (zb1 hx i) (zb1 hy k) (zb1 h.lim (i + k)) h.cl
theorem zhe.next {outs xs ys : List Nat} {i k c : Nat} (h : zhe outs xs ys i k c) (hx : Limbs xs) (hy : Limbs ys) (hi : i < xs.length) (hk : k < ys.length) :
 zhe (outs.set (i + k) ((dig xs i * dig ys k + dig outs (i + k) + c) % B32)) xs ys i (k + 1) ((dig xs i * dig ys k + dig outs (i + k) + c) / B32):=by
 have hj : i + k < outs.length:=by rw [h.len];omega
 have hs:=zfY outs (i + k) ((dig xs i * dig ys k + dig outs (i + k) + c) % B32) hj
 have hp:=Nat.lt_of_le_of_lt (h.prod hx hy) sq_lt
 refine ⟨by simp [h.len],ziv h.lim (Nat.mod_lt _ (by decide)),(Nat.div_lt_iff_lt_mul (by decide)).2 hp,fun j hge => ?_,?_⟩
 · rw [zgk (by omega)];exact h.zero j hge
 ·
  rw [zeh ys k]
  exact zrZ hs h.val (Nat.mod_add_div _ _)
theorem zhe.row {outs xs ys : List Nat} {i c : Nat} (h : zhe outs xs ys i ys.length c) (hi : i < xs.length) : zhe (outs.set (i + ys.length) c) xs ys (i + 1) 0 0:=by
 have hj : i + ys.length < outs.length:=by rw [h.len];omega
 have hs:=zfY outs (i + ys.length) c hj
 rw [h.zero _ (znr _)] at hs
 refine ⟨by simp [h.len],ziv h.lim h.cl,by decide,fun j hge => ?_,?_⟩
 · rw [zgk (by omega)];exact h.zero j (by omega)
 ·
  have hv:=h.val
  rw [List.take_length] at hv
  have h2:=zrA hs hv
  rw [← zeh xs i] at h2
  exact zr1 h2
theorem zhe.done {outs xs ys : List Nat} (h : zhe outs xs ys xs.length 0 0) : yF outs = yF xs * yF ys:=by
 have hv:=h.val
 rw [List.take_length,List.take_zero] at hv
 simpa [yF] using hv
def u32s (outs : List Nat) : Array Value:=(outs.map (fun x => Value.int .u32 (x : Nat))).toArray
structure zkL (W wr : World) (g : Nat) (outs : List Nat) : Prop where
 below : Below g W wr
 row : wr.heap[g]? = some (.cells (u32s outs) 161 (0,0))
theorem zkL.cell {W wr : World} {g : Nat} {outs : List Nat} (h : zkL W wr g outs) {j : Nat} (hj : j < outs.length) : wr.cell? ⟨g,j,none⟩ = some (.int .u32 (dig outs j : Nat)):=by
 rw [cell_of_row wr g j _ _ _ h.row]
 unfold u32s dig
 simp [hj]
theorem zkL.free {W wr : World} {g : Nat} {outs : List Nat} (h : zkL W wr g outs) (j : Nat) : wr.frozen? ⟨g,j,none⟩ = false:=by
 simp [World.frozen?,h.row]
theorem zkL.set {W wr : World} {g : Nat} {outs : List Nat} (h : zkL W wr g outs) (j v : Nat) : zkL W (wr.setCell ⟨g,j,none⟩ (.int .u32 (v : Nat))) g (outs.set j v):=by
 refine ⟨h.below.setCell (znr _) _,?_⟩
 have hlt:=zlb h.row
 have h' : wr.heap[g] = .cells (u32s outs) 161 (0,0):=by simpa [Array.getElem?_eq_getElem hlt] using h.row
 show (wr.heap.modify g _)[g]? = _
 rw [Array.getElem?_eq_getElem (by simpa using hlt),Array.getElem_modify_self,h']
 simp [u32s,List.map_set]
structure DblI (w wr : World) (s : Value) (m : Nat) : Prop where
 below : Below w.heap.size w wr
 nat : yK wr (.agg #[s]) m
 box : wr.heap[w.heap.size]? = some (.cells #[s] 52 (0,0))
 res : wr.heap[w.heap.size + 1]? = some (.cells #[.slice none 0 0] 52 (0,0))
structure zrl (w wr : World) (s s9 : Value) (n : Nat) : Prop where
 below : Below w.heap.size w wr
 nat : yK wr (.agg #[s9]) n
 box : wr.heap[w.heap.size]? = some (.cells #[s] 52 (0,0))
 res : wr.heap[w.heap.size + 1]? = some (.cells #[.slice none 0 0] 52 (0,0))
theorem zrl.set {w w9 : World} {a a9 : Option Addr} {n n9 c c9 k : Nat} (h : zrl w w9 (.slice a n c) (.slice a9 n9 c9) k) : DblI w (w9.setCell ⟨w.heap.size,0,none⟩ (.slice a9 n9 c9)) (.slice a9 n9 c9) k :=
 ⟨h.below.setCell (znr _) _,h.nat.jF h.box _,one_setCell h.box,by rw [zhc _ _ _ _ (by simp)];exact h.res⟩
