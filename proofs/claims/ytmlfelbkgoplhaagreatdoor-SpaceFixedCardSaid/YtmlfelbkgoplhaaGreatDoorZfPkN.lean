import Derived.Deep.CutBlock
import Derived.BigQuiet
import Derived.OneCell
import Derived.Test.YtmlfelbkgoplhaaGreatDoorZfPkE
import Derived.Laws.MakeOwn
import Derived.Deep.RegionWith
set_option linter.unusedVariables false
namespace Go.Proofs.YtmlfelbkgoplhaaGreatDoor
def B32 : Nat:=4294967296
def zR : List Nat → Nat
 | [] => 0
 | x :: xs => x + B32 * zR xs
def Limbs (xs : List Nat) : Prop:=∀ x ∈ xs,x < B32
def zf (n : Nat) : List Nat:=if h : n = 0 then [] else (n % B32) :: zf (n / B32)
termination_by n
decreasing_by exact Nat.div_lt_self (Nat.pos_of_ne_zero h) (by decide)
theorem yT : zf 0 = []:=by rw [zf];simp
theorem kS {n : Nat} (h : n ≠ 0) : zf n = (n % B32) :: zf (n / B32):=by rw [zf];simp [h]
theorem zd1 {Q : Nat → Prop} (h0 : Q 0) (h1 : ∀ n,n ≠ 0 → Q (n / B32) → Q n) (n : Nat) : Q n:=by
 induction n using Nat.strongRecOn with
 | _ n ih =>
  by_cases h : n = 0
  · subst h;exact h0
  · exact h1 n h (ih _ (Nat.div_lt_self (Nat.pos_of_ne_zero h) (by decide)))
theorem qW (n : Nat) : zR (zf n) = n:=by
 refine zd1 (Q:=fun n => zR (zf n) = n) (by rw [yT];rfl) (fun n h ih => ?_) n
 rw [kS h,zR,ih]
 exact Nat.mod_add_div n B32
theorem zfM (n : Nat) : Limbs (zf n):=by
 refine zd1 (Q:=fun n => Limbs (zf n)) (by rw [yT];intro x hx;cases hx) (fun n h ih => ?_) n
 rw [kS h]
 intro x hx
 rcases List.mem_cons.1 hx with rfl | hx
 · exact Nat.mod_lt _ (by decide)
 · exact ih x hx
theorem zcj {n : Nat} (h : zf n = []) : n = 0:=by
 by_cases e : n = 0
 · exact e
 · rw [kS e] at h;cases h
theorem zlw : ∀ (xs : List Nat),Limbs xs → zR xs < B32 ^ xs.length
 | [],_ => by simp [zR]
 | x :: xs,h => by
  have h1:=zlw xs (fun y hy => h y (List.mem_cons_of_mem _ hy))
  have h2:=h x List.mem_cons_self
  rw [zR,List.length_cons,Nat.pow_succ,Nat.mul_comm (B32 ^ xs.length)]
  calc x + B32 * zR xs < B32 + B32 * zR xs:=by omega
   _ = B32 * (zR xs + 1):=by rw [Nat.mul_add,Nat.mul_one];omega
   _ ≤ B32 * B32 ^ xs.length:=Nat.mul_le_mul_left _ h1
theorem zdR : ∀ (xs : List Nat),Limbs xs → xs.getLast? ≠ some 0 → zf (zR xs) = xs
 | [],_,_ => yT
 | x :: xs,h,hl => by
  have hx:=h x List.mem_cons_self
  have ht : xs.getLast? ≠ some 0:=by
   cases xs with
   | nil => simp
   | cons y ys => rw [List.getLast?_cons_cons] at hl;exact hl
  have ih:=zdR xs (fun y hy => h y (List.mem_cons_of_mem _ hy)) ht
  have h1 : (x + B32 * zR xs) % B32 = x:=by rw [Nat.add_mul_mod_self_left];exact Nat.mod_eq_of_lt hx
  have h2 : (x + B32 * zR xs) / B32 = zR xs:=by rw [Nat.add_mul_div_left _ _ (by decide),Nat.div_eq_of_lt hx];omega
  have hne : x + B32 * zR xs ≠ 0:=by
   intro e
   have e1 : x = 0:=by omega
   have e2 : zR xs = 0:=by
    rcases Nat.eq_zero_or_pos (zR xs) with h3 | h3
    · exact h3
    · have:=Nat.mul_pos (show 0 < B32 by decide) h3;omega
   rw [e2,yT] at ih
   subst ih
   subst e1
   exact hl rfl
  rw [zR,kS hne,h1,h2,ih]
def zdC (xs : List Nat) : List Nat:=zf (zR xs)
theorem jm : ∀ (xs ys : List Nat),zR (xs ++ ys) = zR xs + B32 ^ xs.length * zR ys
 | [],ys => by simp [zR]
 | x :: xs,ys => by
  rw [List.cons_append,zR,zR,jm xs ys,List.length_cons,Nat.pow_succ,Nat.mul_add,Nat.mul_comm (B32 ^ xs.length) B32,Nat.mul_assoc,Nat.add_assoc]
theorem zjF (xs : List Nat) : zdC (xs ++ [0]) = zdC xs:=by unfold zdC;rw [jm];simp [zR]
theorem zkh {xs : List Nat} (h : Limbs xs) (hl : xs.getLast? ≠ some 0) : zdC xs = xs:=zdR xs h hl
theorem zoC {n k : Nat} (h : n < B32 ^ k) : (zf n).length ≤ k:=by
 induction k generalizing n with
 | zero => have : n = 0 := by simpa using h
           subst this;rw [yT];simp
 | succ k ih =>
  by_cases e : n = 0
  · subst e;rw [yT];simp
  ·
   rw [kS e,List.length_cons]
   refine Nat.succ_le_succ (ih ?_)
   rw [Nat.pow_succ] at h
   exact (Nat.div_lt_iff_lt_mul (by decide)).2 h
theorem zmY {n : Nat} (h : n ≠ 0) : B32 ^ ((zf n).length - 1) ≤ n:=by
 have key:=zd1 (Q:=fun n => n ≠ 0 → B32 ^ ((zf n).length - 1) ≤ n) (fun h => absurd rfl h) (fun n h ih _ => ?_) n h
 · exact key
 ·
  rw [kS h,List.length_cons,Nat.add_sub_cancel]
  by_cases e : n / B32 = 0
  · rw [e,yT];simp;omega
  ·
   have h1:=ih e
   have h2 : 0 < (zf (n / B32)).length:=by
    rcases hh : zf (n / B32) with _ | ⟨y,ys⟩
    · exact absurd (zcj hh) e
    · simp
   obtain ⟨k,hk⟩ : ∃ k,(zf (n / B32)).length = k + 1:=⟨(zf (n / B32)).length - 1,by omega⟩
   rw [hk] at h1 ⊢
   rw [Nat.pow_succ]
   rw [Nat.add_sub_cancel] at h1
   exact Nat.le_trans (Nat.mul_le_mul_right _ h1) (Nat.div_mul_le_self n B32)
theorem zeu {a b : Nat} (h : (zf a).length < (zf b).length) : a < b:=by
 have hb : b ≠ 0:=by intro e;subst e;rw [yT] at h;simp at h
 have h1:=zlw _ (zfM a)
 rw [qW] at h1
 have h2:=zmY hb
 have h3 : B32 ^ (zf a).length ≤ B32 ^ ((zf b).length - 1):=Nat.pow_le_pow_right (by decide) (by omega)
 omega
theorem zfC {xs : List Nat} {i : Nat} (hi : i < xs.length) : zR (xs.take (i + 1)) = zR (xs.take i) + B32 ^ i * xs[i]:=by
 rw [List.take_succ_eq_append_getElem hi,jm,List.length_take,Nat.min_eq_left (Nat.le_of_lt hi)]
 simp [zR]
open Go.RowKit
def zO (w : World) (v : Value) (xs : List Nat) : Prop :=
 ∃ a b o c,v = .slice a xs.length c ∧ (xs ≠ [] → a = some ⟨b,o,none⟩) ∧ xs.length ≤ c ∧ c ≤ maxLen ∧ (∀ i (h : i < xs.length),w.cell? ⟨b,o + i,none⟩ = some (.int .u32 (xs[i] : Nat))) ∧ (xs ≠ [] → b < w.heap.size) ∧ Limbs xs
def zY (w : World) (v : Value) (n : Nat) : Prop:=∃ s,v = .agg #[s] ∧ zO w s (zf n)
section
variable {w w' : World} {v : Value} {xs : List Nat}
theorem zO.below (h : zO w v xs) (hb : Below w.heap.size w w') : zO w' v xs:=by
 obtain ⟨a,b,o,c,h1,h2,h3,h4,h5,h6,h7⟩:=h
 exact ⟨a,b,o,c,h1,h2,h3,h4,fun i hi => by rw [hb.cell (h6 (by intro e;subst e;simp at hi))];exact h5 i hi,fun e => Nat.lt_of_lt_of_le (h6 e) hb.size,h7⟩
theorem zO.shape (h : zO w v xs) : ∃ a c,v = .slice a xs.length c ∧ xs.length ≤ c ∧ c ≤ 9223372036854775807:=by
 obtain ⟨a,b,o,c,rfl,_,h3,h4,_⟩:=h
 exact ⟨a,c,rfl,h3,by unfold maxLen at h4;omega⟩
theorem zO.limbs (h : zO w v xs) : Limbs xs:=by obtain ⟨_,_,_,_,_,_,_,_,_,_,h7⟩:=h;exact h7
theorem zO.addr {a : Option Addr} {n c : Nat} (h : zO w (.slice a n c) xs) {k : Nat} (hk : k < xs.length) : ∃ b o,a = some ⟨b,o,none⟩ ∧ b < w.heap.size:=by
 obtain ⟨_,b,o,_,hh,h2,_,_,_,h6,_⟩:=h
 cases hh
 exact ⟨b,o,h2 (by intro e;subst e;simp at hk),h6 (by intro e;subst e;simp at hk)⟩
theorem zO.get {b o n c : Nat} (h : zO w (.slice (some ⟨b,o,none⟩) n c) xs) {k : Nat} (hk : k < xs.length) : w.cell? ⟨b,o + k,none⟩ = some (.int .u32 (xs[k] : Nat)):=by
 obtain ⟨_,b',o',_,hh,h2,_,_,h5,_⟩:=h
 cases hh
 cases h2 (by intro e;subst e;simp at hk)
 exact h5 k hk
theorem zO.take {a : Option Addr} {n c : Nat} (h : zO w (.slice a n c) xs) {k : Nat} (hk : k ≤ xs.length) : zO w (.slice a k c) (xs.take k):=by
 obtain ⟨a',b,o,c',hh,h2,h3,h4,h5,h6,h7⟩:=h
 cases hh
 have hl : (xs.take k).length = k:=by rw [List.length_take];omega
 have hne : xs.take k ≠ [] → xs ≠ []:=fun h e => h (by subst e;simp)
 refine ⟨a,b,o,c,by rw [hl],fun h => h2 (hne h),by rw [hl];omega,h4,fun i hi => ?_,fun h => h6 (hne h),fun x hx => h7 x (List.mem_of_mem_take hx)⟩
 rw [h5 i (by rw [hl] at hi;omega)];simp
theorem j3 {g e n c : Nat} {cur : Array Value} {fz : Nat × Nat} (xs : List Nat) (h : w.heap[g]? = some (.cells cur e fz)) (hc : cur.toList = xs.map (fun x => Value.int .u32 (x : Nat))) (hn : n = xs.length) (hnc : n ≤ c) (hcm : c ≤ maxLen) (hx : Limbs xs) :
 zO w (.slice (some ⟨g,0,none⟩) n c) xs:=by
 subst hn
 refine ⟨_,g,0,c,rfl,fun _ => rfl,hnc,hcm,fun i hi => ?_,fun _ => (Array.getElem?_eq_some_iff.1 h).1,hx⟩
 rw [cell_of_row w g (0 + i) cur e fz h,Nat.zero_add,← Array.getElem?_toList,hc]
 simp [hi]
theorem zjt (w : World) : zO w (.slice none 0 0) []:=⟨none,0,0,0,rfl,fun h => absurd rfl h,znr _,znz _,fun i hi => absurd hi (by simp),fun h => absurd rfl h,fun x hx => by cases hx⟩
theorem zY.below {n : Nat} (h : zY w v n) (hb : Below w.heap.size w w') : zY w' v n:=by
 obtain ⟨s,rfl,hs⟩:=h;exact ⟨s,rfl,hs.below hb⟩
theorem zY.shape {n : Nat} (h : zY w v n) : ∃ a c,v = .agg #[.slice a (zf n).length c]:=by
 obtain ⟨s,rfl,hs⟩:=h
 obtain ⟨a,c,rfl,_⟩:=hs.shape
 exact ⟨a,c,rfl⟩
theorem zY.limbs {n : Nat} {a : Option Addr} {k c : Nat} (h : zY w (.agg #[.slice a k c]) n) : zO w (.slice a k c) (zf n):=by
 obtain ⟨s,e,hs⟩:=h
 cases e;exact hs
end
theorem zhX {w : World} {b : Nat} {x v : Value} {t : TypeId} {o : Nat} (h : w.heap[b]? = some (.cells #[x] t (0,0))) (hc : w.cell? ⟨b,o,none⟩ = some v) : v = x:=by
 rw [cell_of_row w b o _ _ _ h] at hc
 rcases Nat.eq_zero_or_pos o with h0 | h0
 · subst h0;simpa using hc.symm
 · rw [Array.getElem?_eq_none (by simp;omega)] at hc;cases hc
theorem zO.qC {w : World} {v : Value} {xs : List Nat} {R : Nat} {a : Option Addr} {n c : Nat} {t : TypeId} (h : zO w v xs) (hR : w.heap[R]? = some (.cells #[.slice a n c] t (0,0))) (u : Value) : zO (w.setCell ⟨R,0,none⟩ u) v xs:=by
 obtain ⟨a',b,o,c',h1,h2,h3,h4,h5,h6,h7⟩:=h
 refine ⟨a',b,o,c',h1,h2,h3,h4,fun i hi => ?_,fun e => by have:=h6 e;simpa using this,h7⟩
 have h8:=h5 i hi
 have hb : b ≠ R:=fun e => by subst e;have:=zhX hR h8;cases this
 rw [World.cell?_setCell_other (h:=fun e => hb (by have:=congrArg Addr.block e;simpa using this.symm))]
 exact h8
theorem zY.qC {w : World} {v : Value} {k : Nat} {R : Nat} {a : Option Addr} {n c : Nat} {t : TypeId} (h : zY w v k) (hR : w.heap[R]? = some (.cells #[.slice a n c] t (0,0))) (u : Value) : zY (w.setCell ⟨R,0,none⟩ u) v k:=by
 obtain ⟨s,rfl,hs⟩:=h;exact ⟨s,rfl,hs.qC hR u⟩
structure Res (w w1 : World) (t : TypeId) (x : Value) : Prop where
 blk : w1.heap[w.heap.size]? = some (.cells #[x] t (0,0))
 below : Below w.heap.size w w1
theorem znT {w w0 w1 : World} {t : TypeId} {x : Value} (h0 : w0.heap[w.heap.size]? = some (.cells #[x] t (0,0))) (hb0 : Below w.heap.size w w0) (hb1 : Below w0.heap.size w0 w1) : Res w w1 t x :=
 ⟨(hb1.block _ (zlb h0)).trans h0,hb0.trans (hb1.mono hb0.size)⟩
theorem Res.cell {w w1 : World} {t : TypeId} {x : Value} (h : Res w w1 t x) : w1.cell? ⟨w.heap.size,0,none⟩ = some x:=zco h.blk
theorem Res.free {w w1 : World} {t : TypeId} {x : Value} (h : Res w w1 t x) : w1.frozen? ⟨w.heap.size,0,none⟩ = false:=zfo h.blk
theorem Res.lt {w w1 : World} {t : TypeId} {x : Value} (h : Res w w1 t x) : w.heap.size < w1.heap.size:=zlb h.blk
theorem Res.set {w w1 : World} {t : TypeId} {x : Value} (h : Res w w1 t x) (u : Value) : Below w.heap.size w (w1.setCell ⟨w.heap.size,0,none⟩ u):=h.below.setCell (by simp) u
theorem Res.on {w w1 w2 : World} {t : TypeId} {x : Value} (h : Res w w1 t x) (hb : Below w1.heap.size w1 w2) : Res w w2 t x:=⟨(hb.block _ h.lt).trans h.blk,h.below.trans (hb.mono h.below.size)⟩
theorem zlQ {xs : List Nat} {j : Nat} (hx : Limbs xs) (hj : j < xs.length) (h0 : xs[j] ≠ 0) : zdC (xs.take (j + 1)) = xs.take (j + 1):=by
 refine zkh (fun x hx' => hx x (List.mem_of_mem_take hx')) ?_
 rw [List.take_succ_eq_append_getElem hj,List.getLast?_concat]
 intro e;exact h0 (by simpa using e)
theorem zmG {xs : List Nat} {j : Nat} (hj : j < xs.length) (h0 : xs[j] = 0) : zdC (xs.take (j + 1)) = zdC (xs.take j):=by
 rw [List.take_succ_eq_append_getElem hj,h0,zjF]
set_option maxHeartbeats 2000000 in
theorem zk8 (a : Option Addr) (c : Nat) (xs : List Nat) (w : World) (h : zO w (.slice a xs.length c) xs) :
 Calls Tryz.prog 101 #[.slice a xs.length c] w fun e w' => ∃ k,e = .returned (.agg #[.slice a k c]) ∧ zY w' (.agg #[.slice a k c]) (zR xs) ∧ Below w.heap.size w w':=by
 obtain ⟨_,_,hsh,h1,h2⟩:=h.shape
 cases hsh
 have hb : Below w.heap.size w (w.alloc (.cells #[.slice none 0 0] 52)):=zba
 have hw:=h.below hb
 have H:=hid hw;have Hw:=hid h;clear h hw hb
 go_enter Tryz.func101,Tryz.ntmps101
 go_wp2_with fail
 go_loopg [0] xs.length (fun gk v wr => ∃ k : Nat,k = gk ∧ wr = w.alloc (.cells #[.slice none 0 0] 52) ∧ k ≤ xs.length ∧ v = .slice a k c ∧ zdC (xs.take k) = zdC xs)
 case atStart => exact ⟨_,rfl,rfl,znr _,rfl,by rw [List.take_length]⟩
 case round =>
  obtain ⟨k,rfl,rfl,hk,rfl,ht⟩:=hrel
  have Ht:=hid ht;clear ht
  rcases Nat.eq_zero_or_pos k with h0 | h0
  ·
   subst h0
   have hd : decide ((0 : Int) < ((0 : Nat) : Int)) = false:=by decide
   go_wp2_with fail
   refine bodyPost_ret (v:=.agg #[.slice a ((0 : Nat) : Nat) c]) (by simp [results,Tryz.results101,go_sem]) rfl ⟨_,rfl,⟨_,rfl,?_⟩,zba⟩
   have e : zf (zR xs) = xs.take 0:=by have:=Ht.out;rw [List.take_zero] at this ⊢;exact this.symm.trans yT
   rw [e]
   exact (Hw.out.take (znz _)).below (zba)
  ·
   obtain ⟨j,rfl⟩ : ∃ j,k = j + 1:=⟨k - 1,by omega⟩
   have hj : j < xs.length:=by omega
   obtain ⟨b,o,rfl,lb⟩:=H.out.addr hj
   have hc:=H.out.get hj
   have hx:=H.out.limbs _ (List.getElem_mem hj)
   have hst:=zmG hj
   have hso:=zlQ H.out.limbs hj
   generalize xs[j] = x at hc hx hst hso
   have Hst:=hid hst;have Hso:=hid hso;clear hst hso
   by_cases hx0 : x = 0
   ·
    have H0:=hid (Hst.out hx0)
    clear Hst Hso
    subst hx0
    go_wp2_with fail
    go_roundg j
    case measure => omega
    case rel => exact ⟨j,rfl,rfl,by omega,by go_num,H0.out.symm.trans Ht.out⟩
   ·
    have hne : ((x : Int) == 0) = false:=by simpa using hx0
    have H0:=hid (Hso.out hx0)
    clear Hst Hso
    go_wp2_with fail
    refine bodyPost_ret (v:=.agg #[.slice (some ⟨b,o,none⟩) (j + 1) c]) (by simp [results,Tryz.results101,go_sem]) rfl ⟨_,rfl,⟨_,rfl,?_⟩,zba⟩
    have e : zf (zR xs) = xs.take (j + 1):=Ht.out.symm.trans H0.out
    rw [e]
    exact (Hw.out.take hk).below (zba)
theorem zcr (vs : Value) (xs : List Nat) (w : World) (h : zO w vs xs) :
 Calls Tryz.prog 101 #[vs] w fun e w' => ∃ v,e = .returned v ∧ zY w' v (zR xs) ∧ Below w.heap.size w w':=by
 obtain ⟨a,c,rfl,h1,h2⟩:=h.shape
 exact (zk8 a c xs w h).mono fun e w' ⟨k,h1,h2,h3⟩ => ⟨_,h1,h2,h3⟩
theorem zO.zdJ {w w' : World} {v : Value} {xs : List Nat} {md : Nat} {mq : List (Int × Value)} (h : zO w v xs) (hm : MapOf w md (Value.int .i64) mq) (ho : Only (· = md) w w') : zO w' v xs:=by
 obtain ⟨a,b,o,c,h1,h2,h3,h4,h5,h6,h7⟩:=h
 refine ⟨a,b,o,c,h1,h2,h3,h4,fun i hi => ?_,fun e => Nat.lt_of_lt_of_le (h6 e) ho.size,h7⟩
 have hlt:=h6 (by intro e;subst e;simp at hi)
 have hc:=h5 i hi
 have hn : b ≠ md:=fun e => by
  subst e
  obtain ⟨es,cl,hb,_⟩:=hm
  simp [World.cell?,hb] at hc
 exact (ho.cell hlt hn).trans hc
theorem zY.zdJ {w w' : World} {v : Value} {n md : Nat} {mq : List (Int × Value)} (h : zY w v n) (hm : MapOf w md (Value.int .i64) mq) (ho : Only (· = md) w w') : zY w' v n:=by
 obtain ⟨s,rfl,hs⟩:=h;exact ⟨s,rfl,hs.zdJ hm ho⟩
structure jU (wr : World) (B : Nat) (a : Option Addr) (c n : Nat) : Prop where
 blk : wr.heap[B]? = some (.cells #[.slice a (zf n).length c] 52 (0,0))
 nat : zY wr (.agg #[.slice a (zf n).length c]) n
theorem jU.below {wr w2 : World} {B : Nat} {a : Option Addr} {c n : Nat} (h : jU wr B a c n) (hb : Below wr.heap.size wr w2) : jU w2 B a c n:=⟨(hb.block _ (zlb h.blk)).trans h.blk,h.nat.below hb⟩
theorem jU.mk' {wr : World} {a : Option Addr} {c k : Nat} (hn : zY wr (.agg #[.slice a (zf k).length c]) k) : jU (wr.alloc (.cells #[.slice a (zf k).length c] 52)) wr.heap.size a c k:=⟨za rfl,hn.below (zba)⟩
theorem jU.more {wr : World} {b : Option Addr} {d j : Nat} {E : Nat} (h : jU wr E b d j) (o : Obj) : jU (wr.alloc o) E b d j:=h.below (zba)
theorem jU.lt {wr : World} {b : Option Addr} {d j : Nat} {E : Nat} (h : jU wr E b d j) : E < wr.heap.size:=zlb h.blk
theorem zoz (w : World) (o1 o2 o3 : Obj) : Below w.heap.size w (((w.alloc o1).alloc o2).alloc o3):=((zba).alloc (by simp) _).alloc (by simp only [zy];omega) _
theorem zj4 (w : World) (o1 o2 o3 o4 : Obj) : Below w.heap.size w ((((w.alloc o1).alloc o2).alloc o3).alloc o4):=(zoz w o1 o2 o3).alloc (by simp only [zy];omega) _
theorem zkK (w : World) : (zeroValue 52).run Tryz.prog w = .ok (.agg #[.slice none 0 0]) w:=by kernel_rfl
theorem zkX {n : Nat} (h : n ≤ 2 ^ 24) : (zf n).length ≤ 1000000:=by
 have:=zoC (n:=n) (k:=1) (by rw [Nat.pow_one];unfold B32;omega)
 omega
set_option maxHeartbeats 1000000 in
theorem zrd (n : Nat) (w : World) (hn : n ≤ 9223372036854775807) :
 Calls Tryz.prog 113 #[.int .i64 n] w fun e w' => ∃ v,e = .returned v ∧ zY w' v n ∧ Below w.heap.size w w':=by
 have h0 : decide ((n : Int) < 0) = false:=by simp
 go_enter Tryz.func113,Tryz.ntmps113
 go_wp2_with fail
 have hb : Below w.heap.size w ((w.alloc (.cells #[.slice none 0 0] 52)).alloc (.cells #[.int .u32 ((n : Int) % 4294967296),.int .u32 ((n : Int) / 4294967296)] 161)):=(zba).alloc (by simp) _
 refine (zcr _ [n % B32,n / B32] _ (j3 _ (za (by simp)) (by simp [B32]) rfl (znr _) (show 2 ≤ maxLen by decide) (fun x hx => ?_))).mono ?_
 · unfold B32 at hx ⊢;simp at hx;omega
 rintro e w1 ⟨v,rfl,hn1,hb1⟩
 have hv : zR [n % B32,n / B32] = n:=by simp only [zR,Nat.mul_zero,Nat.add_zero];exact Nat.mod_add_div n B32
 rw [hv] at hn1
 have hr : Res w w1 52 (.slice none 0 0):=znT (zh (za rfl)) hb hb1
 obtain ⟨a,c,rfl⟩:=hn1.shape
 have hcell:=hr.cell;have hfz:=hr.free;have hlt:=hr.lt
 have Hn:=hid hn1;have Hr:=hid hr
 clear hn1 hb hb1 hv hr
 go_wp2_with fail
 exact bodyPost_ret (v:=.agg #[.slice a (zf n).length c]) (by simp [results,Tryz.results113,go_sem,hcell]) rfl ⟨_,rfl,Hn.out.qC Hr.out.blk _,Hr.out.set _⟩
set_option maxHeartbeats 1000000 in
theorem zhp (x y c : Nat) (w : World) (hx : x < B32) (hy : y < B32) (hc : c ≤ 1) :
 Calls Tryz.prog 165 #[.int .u32 x,.int .u32 y,.int .u32 c] w fun e w' => e = .returned (.tuple #[.int .u32 ((x + y + c) % B32 : Nat),.int .u32 ((x + y + c) / B32 : Nat)]) ∧ w = w':=by
 unfold B32 at *
 go_enter Tryz.func165,Tryz.ntmps165
 go_wp2_with fail
 go_ret2
 exact ⟨rfl,rfl⟩
theorem ze4 : (Tryz.prog.info? 161).map (fun i => (i.zero,i.size,i.bytes)) = some (some (.int .u32 0),1,4):=by kernel_rfl
theorem zcC {w : World} {base e : Nat} {v : Value} {n : Nat} {xs : List Nat} (h : w.ownsRow base e 1 v n (xs.map (fun x => Value.int .u32 (x : Nat)))) (hx : Limbs xs) : zO w v xs:=by
 obtain ⟨h1,h2⟩:=h
 have hn : n = xs.length:=by simp at h1;omega
 subst hn
 rcases h2 with ⟨rfl,h3⟩ | ⟨g,cap,cur,rfl,hg,hh,h3,h4,h5,h6⟩
 ·
  have e : xs = []:=List.eq_nil_of_length_eq_zero h3
  subst e
  exact zjt _
 ·
  refine ⟨_,g,0,cap,rfl,fun _ => rfl,h3,h4,fun i hi => ?_,fun _ => (Array.getElem?_eq_some_iff.1 hh).1,hx⟩
  rw [cell_of_row w g (0 + i) cur e (0,0) hh,Nat.zero_add]
  have h7 : (cur.toList.take (xs.length * 1))[i]? = some (.int .u32 (xs[i] : Nat)):=by rw [h6];simp [hi]
  rw [List.getElem?_take] at h7
  split at h7
  · simpa using h7
  · cases h7
theorem zia (c : Nat) (h : c ≤ 2000001) (w : World) : (Instr.makeSlice 50 (.int .i64 0) (.int .i64 (c : Int))).run Tryz.prog w = .ok (.slice (some ⟨w.heap.size,0,none⟩) 0 c) (w.alloc (.cells (madeCells #[.int .u32 0] c) 161)):=by
 obtain ⟨i,hi,hzz⟩:=Option.map_eq_some_iff.1 ze4
 simp only [Prod.mk.injEq] at hzz
 obtain ⟨hz,hs,hb⟩:=hzz
 have:=run_make (P:=Tryz.prog) w 50 161 i _ Tryz.underlying50 hi hz .i64 .i64 0 c (Int.le_refl _) (by omega) (by rw [hb];omega) (by omega)
 simpa [hs,Value.cells] using this
def dig (ys : List Nat) (k : Nat) : Nat:=ys.getD k 0
theorem kD {ys : List Nat} (h : Limbs ys) (k : Nat) : dig ys k < B32:=by
 unfold dig
 rw [List.getD_eq_getElem?_getD]
 cases e : ys[k]? with
 | none => simp [B32]
 | some y => exact h y (List.mem_of_getElem? e)
theorem zdB (ys : List Nat) (k : Nat) : zR (ys.take (k + 1)) = zR (ys.take k) + B32 ^ k * dig ys k:=by
 rcases Nat.lt_or_ge k ys.length with h | h
 · rw [zfC h];unfold dig;simp [h]
 ·
  rw [List.take_of_length_le (by omega),List.take_of_length_le h]
  unfold dig;rw [List.getD_eq_getElem?_getD,List.getElem?_eq_none h];simp
theorem znG {xs ys outs : List Nat} {k c : Nat} (hl : outs.length = k) (inv : zR outs + B32 ^ k * c = zR (xs.take k) + zR (ys.take k)) :
 zR (outs ++ [(dig xs k + dig ys k + c) % B32]) + B32 ^ (k + 1) * ((dig xs k + dig ys k + c) / B32) = zR (xs.take (k + 1)) + zR (ys.take (k + 1)):=by
 rw [zdB,zdB,jm,hl,zR,zR,Nat.mul_zero,Nat.add_zero,Nat.pow_succ,Nat.mul_assoc,Nat.add_assoc,← Nat.mul_add,Nat.mod_add_div,Nat.mul_add,Nat.mul_add]
 omega
theorem zn0 {x y c : Nat} (hx : x < B32) (hy : y < B32) (hc : c ≤ 1) : (x + y + c) / B32 ≤ 1:=by
 have : x + y + c < 2 * B32:=by omega
 have:=(Nat.div_lt_iff_lt_mul (show 0 < B32 by decide)).2 this
 omega
structure zfI (W wr : World) (base : Nat) (v : Value) (k c : Nat) (outs xs ys : List Nat) : Prop where
 below : Below base W wr
 own : wr.ownsRow base 161 1 v outs.length (outs.map (fun x => Value.int .u32 (x : Nat)))
 len : outs.length = k
 lim : Limbs outs
 cl : c ≤ 1
 val : zR outs + B32 ^ k * c = zR (xs.take k) + zR (ys.take k)
theorem zfI.push {W wr w2 : World} {base : Nat} {v v' : Value} {k c : Nat} {outs xs ys : List Nat} (h : zfI W wr base v k c outs xs ys) (hx : Limbs xs) (hy : Limbs ys) (hbase : base ≤ wr.heap.size)
 (ho : w2.ownsRow base 161 1 v' (outs.length + 1) (outs.map (fun x => Value.int .u32 (x : Nat)) ++ [.int .u32 (((dig xs k + dig ys k + c) % B32 : Nat) : Int)])) (hg : (wr.alloc (.cells #[.int .u32 (((dig xs k + dig ys k + c) % B32 : Nat) : Int)] 161)).grownBy w2 v.ownBlock) :
 zfI W w2 base v' (k + 1) ((dig xs k + dig ys k + c) / B32) (outs ++ [(dig xs k + dig ys k + c) % B32]) xs ys:=by
 have hv : ∀ j,v.ownBlock = some j → base ≤ j:=fun j hj => (h.own.lt j hj).1
 have hb : Below base (wr.alloc (.cells #[.int .u32 (((dig xs k + dig ys k + c) % B32 : Nat) : Int)] 161)) w2:=(Below.refl _ _).grown hg (by simp;omega) hv
 refine ⟨(h.below.alloc hbase _).trans hb,by simpa using ho,by simp [h.len],fun x hx' => ?_,zn0 (kD hx k) (kD hy k) h.cl,znG h.len h.val⟩
 rcases List.mem_append.1 hx' with hx' | hx'
 · exact h.lim x hx'
 · rw [List.mem_singleton.1 hx'];exact Nat.mod_lt _ (by decide)
set_option maxRecDepth 100000 in
set_option maxHeartbeats 8000000 in
theorem zrL (a b : Nat) (va vb : Value) (w : World) (ha : zY w va a) (hb : zY w vb b) (hle : (zf b).length ≤ (zf a).length) (hmax : (zf a).length ≤ 1000000) :
 Calls Tryz.prog 114 #[va,vb] w fun e w' => ∃ v,e = .returned v ∧ zY w' v (a + b) ∧ Below w.heap.size w w':=by
 obtain ⟨i0,hi,hz0,hz1,hz2⟩:=info_parts ze4
 obtain ⟨aa,ca,rfl⟩:=ha.shape
 obtain ⟨ab,cb,rfl⟩:=hb.shape
 have hA:=ha.limbs;have hB:=hb.limbs
 clear ha hb
 have ea:=qW a;have eb:=qW b
 generalize zf a = xs at hA ea hle hmax ⊢
 generalize zf b = ys at hB eb hle ⊢
 obtain ⟨_,_,eA,hA1,hA2⟩:=hA.shape
 obtain ⟨_,_,eB,hB1,hB2⟩:=hB.shape
 cases eA;cases eB
 have hd0 : decide (xs.length < ys.length) = false:=by simp;omega
 have hle2 : ys.length ≤ xs.length:=by omega
 have hmk:=zia (xs.length + 1) (by omega)
 rw [show ((xs.length + 1 : Nat) : Int) = (xs.length : Int) + 1 by omega] at hmk
 have Ea:=hid ea;have Eb:=hid eb;have HA:=hid hA;have HB:=hid hB
 clear ea eb hA hB hle
 go_enter Tryz.func114,Tryz.ntmps114
 go_wp2_with fail
 have hbl : Below w.heap.size w (((w.alloc (.cells #[.slice aa xs.length ca] 52)).alloc (.cells #[.slice ab ys.length cb] 52)).alloc (.cells #[.slice none 0 0] 52)):=((zba).alloc (by simp) _).alloc (by simp only [zy];omega) _
 obtain ⟨w2,ew⟩ : ∃ x,x = ((w.alloc (.cells #[.slice aa xs.length ca] 52)).alloc (.cells #[.slice ab ys.length cb] 52)).alloc (.cells #[.slice none 0 0] 52):=⟨_,rfl⟩
 have hsz : w.heap.size + 1 + 1 + 1 = w2.heap.size:=by rw [ew];simp
 have hbb : w2.heap[w.heap.size + 1]? = some (.cells #[.slice ab ys.length cb] 52 (0,0)):=by rw [ew];exact zh (za (by simp))
 have hbr : w2.heap[w.heap.size + 1 + 1]? = some (.cells #[.slice none 0 0] 52 (0,0)):=by rw [ew];exact za (by simp)
 have hHA:=HA.out.below hbl
 have hHB:=HB.out.below hbl
 rw [hsz,← ew]
 rw [← ew] at hHA hHB hbl
 have hown:=World.ownsRow_made (base:=w2.heap.size) (e:=161) (size:=1) w2 (madeCells #[.int .u32 0] (xs.length + 1)) (xs.length + 1) (znr _) (show xs.length + 1 ≤ maxLen by unfold maxLen;omega) (by rw [size_madeCells];omega)
 clear ew HA HB hd0 hmk
 have hst : zfI w2 (w2.alloc (.cells (madeCells #[.int .u32 0] (xs.length + 1)) 161)) w2.heap.size (.slice (some ⟨w2.heap.size,0,none⟩) 0 (xs.length + 1)) 0 0 [] xs ys :=
  ⟨zba,hown,rfl,(fun x hx => by cases hx),znz _,by simp [zR]⟩
 have hlr : w.heap.size + 1 + 1 < w2.heap.size:=by omega
 have HA:=hid hHA;have HB:=hid hHB;have Hbl:=hid hbl;have Hsz:=hid hsz;have Hbb:=hid hbb;have Hbr:=hid hbr;have Hst:=hid hst
 clear hHA hHB hbl hsz hbb hbr hst hown
 go_loopg [5,6,27] xs.length (fun gk o cy i wr => ∃ (k c : Nat) (outs : List Nat),k ≤ xs.length ∧ gk = xs.length - k ∧ i = .int .i64 k ∧ cy = .int .u32 c ∧ zfI w2 wr w2.heap.size o k c outs xs ys)
 case atStart => exact ⟨0,0,[],znz _,rfl,rfl,rfl,Hst.out⟩
 case round =>
  clear Hst
  obtain ⟨k,c,outs,hk,rfl,rfl,rfl,hI⟩:=hrel
  have hsw:=hI.below.size
  have cB:=zco ((hI.below.block _ (by omega)).trans Hbb.out)
  by_cases hlt : k < xs.length
  ·
   obtain ⟨b1,o1,rfl,lb1⟩:=HA.out.addr hlt
   have g1:=(HA.out.below hI.below).get hlt
   have hx : xs[k] = dig xs k:=by unfold dig;simp [hlt]
   rw [hx] at g1
   have bx:=kD HA.out.limbs k
   have by_:=kD HB.out.limbs k
   have bc:=hI.cl
   have hs:=Nat.mod_lt (dig xs k + dig ys k + c) (show 0 < B32 by decide)
   have hq:=fun w' => zhp (dig xs k) (dig ys k) c w' bx by_ bc
   have hpush:=fun (w7 : World) (v' : Value) => hI.push (w2:=w7) (v':=v') HA.out.limbs HB.out.limbs hsw
   have hol:=hI.len
   have hol2 : outs.length ≤ 1000000:=by omega
   have hown:=hI.own.alloc (.cells #[.int .u32 (((dig xs k + dig ys k + c) % B32 : Nat) : Int)] 161)
   by_cases hy : k < ys.length
   ·
    obtain ⟨b2,o2,rfl,lb2⟩:=HB.out.addr hy
    have g2:=(HB.out.below hI.below).get hy
    have hyy : ys[k] = dig ys k:=by unfold dig;simp [hy]
    rw [hyy] at g2
    generalize dig xs k = x at g1 bx hs hq hpush hown
    generalize dig ys k = y at g2 by_ hs hq hpush hown
    have Hq:=hid hq;have Hpush:=hid hpush;have Hown:=hid hown;have Hol:=hid hol
    clear hq hpush hown hx hyy hI hol hs
    go_wp2_with fail
    refine (Hq.out _).mono ?_
    rintro e w' ⟨rfl,rfl⟩
    generalize (x + y + c) % B32 = r at Hpush Hown ⊢
    generalize (x + y + c) / B32 = c2 at Hpush ⊢
    go_wp2_with (at_builtin;refine wpList_append_own _ rfl (.tmp 49) (.tmp 51) 50 rfl w2.heap.size 161 i0 (.int .u32 0) 1 4 Tryz.underlying50 hi hz0 hz1 hz2 rfl (by decide) _ _ _ rfl Hown.out ⟨wr.heap.size,0,none⟩ 1 1 [.int .u32 (r : Int)] rfl rfl (cell_one_new _ _ _) (by intro u hu;rw [List.mem_singleton.1 hu];rfl) (by simp only [maxLen];omega) (by omega) (by simp;omega) ?_;intro v' w7 hown7 hgrow7 _;have Hf7:=hid (Hpush.out _ _ hown7 hgrow7);clear hown7 hgrow7)
    go_roundg (xs.length - (k + 1))
    case measure => omega
    case rel => exact ⟨k + 1,_,_,hlt,rfl,by go_num,rfl,Hf7.out⟩
   ·
    have hy0 : dig ys k = 0:=by
     unfold dig;rw [List.getD_eq_getElem?_getD,List.getElem?_eq_none (by omega)];rfl
    rw [hy0] at hq hpush hown hs
    generalize dig xs k = x at g1 bx hs hq hpush hown
    have Hq:=hid hq;have Hpush:=hid hpush;have Hown:=hid hown;have Hol:=hid hol
    clear hq hpush hown hx hy0 hI hol hs by_
    go_wp2_with fail
    refine (Hq.out _).mono ?_
    rintro e w' ⟨rfl,rfl⟩
    generalize (x + 0 + c) % B32 = r at Hpush Hown ⊢
    generalize (x + 0 + c) / B32 = c2 at Hpush ⊢
    go_wp2_with (at_builtin;refine wpList_append_own _ rfl (.tmp 49) (.tmp 51) 50 rfl w2.heap.size 161 i0 (.int .u32 0) 1 4 Tryz.underlying50 hi hz0 hz1 hz2 rfl (by decide) _ _ _ rfl Hown.out ⟨wr.heap.size,0,none⟩ 1 1 [.int .u32 (r : Int)] rfl rfl (cell_one_new _ _ _) (by intro u hu;rw [List.mem_singleton.1 hu];rfl) (by simp only [maxLen];omega) (by omega) (by simp;omega) ?_;intro v' w7 hown7 hgrow7 _;have Hf7:=hid (Hpush.out _ _ hown7 hgrow7);clear hown7 hgrow7)
    go_roundg (xs.length - (k + 1))
    case measure => omega
    case rel => exact ⟨k + 1,_,_,hlt,rfl,by go_num,rfl,Hf7.out⟩
  ·
   have hk2 : k = xs.length:=by omega
   have hval:=hI.val
   rw [hk2,List.take_length,List.take_of_length_le hle2,Ea.out,Eb.out] at hval
   have hol : outs.length = xs.length:=hI.len.trans hk2
   have hol2 : outs.length ≤ 1000000:=by omega
   have hv2 : zR (outs ++ [c]) = a + b:=by rw [jm,hol];simpa [zR] using hval
   have hlim : Limbs (outs ++ [c]):=fun x hx' => by
    rcases List.mem_append.1 hx' with hx' | hx'
    · exact hI.lim x hx'
    · rw [List.mem_singleton.1 hx'];have:=hI.cl;unfold B32;omega
   have hown:=hI.own.alloc (.cells #[.int .u32 (c : Int)] 161)
   have hbl2 : Below w2.heap.size w2 (wr.alloc (.cells #[.int .u32 (c : Int)] 161)):=hI.below.alloc hsw _
   have hvb:=fun j hj => (hI.own.lt j hj).1
   have hlt2 : ¬ (k : Int) < xs.length:=by omega
   have Hown:=hid hown;have Hol:=hid hol;have Hlim:=hid hlim;have Hv2:=hid hv2;have Hbl2:=hid hbl2;have Hvb:=hid hvb
   clear hown hol hlim hv2 hval hI hk2 hbl2 hvb
   go_wp2_with (at_builtin;refine wpList_append_own _ rfl (.tmp 54) (.tmp 56) 50 rfl w2.heap.size 161 i0 (.int .u32 0) 1 4 Tryz.underlying50 hi hz0 hz1 hz2 rfl (by decide) _ _ _ rfl Hown.out ⟨wr.heap.size,0,none⟩ 1 1 [.int .u32 (c : Int)] rfl rfl (cell_one_new _ _ _) (by intro u hu;rw [List.mem_singleton.1 hu];rfl) (by simp only [maxLen];omega) (by omega) (by simp;omega) ?_;intro v' w7 hown7 hgrow7 _;have Hown7:=hid hown7;have Hb7:=hid (Hbl2.out.trans ((Below.refl _ _).grown hgrow7 (by simp;omega) Hvb.out));clear hown7 hgrow7)
   have hlimbs : zO w7 v' (outs ++ [c]):=zcC (by simpa using Hown7.out) Hlim.out
   refine (zcr v' (outs ++ [c]) w7 hlimbs).mono ?_
   rintro e w8 ⟨v8,rfl,hn8,hb8⟩
   rw [Hv2.out] at hn8
   obtain ⟨a8,c8,rfl⟩:=hn8.shape
   have hs7:=Hb7.out.size
   have hblk : w8.heap[w.heap.size + 1 + 1]? = some (.cells #[.slice none 0 0] 52 (0,0)):=(hb8.block _ (by omega)).trans ((Hb7.out.block _ (by omega)).trans Hbr.out)
   have hcell:=zco hblk;have hfz:=zfo hblk;have hlt8:=zlb hblk
   have Hn:=hid hn8;have Hblk:=hid hblk;have Hall:=hid (Hbl.out.trans ((Hb7.out.trans (hb8.mono hs7)).mono Hbl.out.size))
   clear hn8 hblk hb8 hlimbs Hown7 Hb7 cB
   go_wp2_with fail
   exact bodyPost_ret (v:=.agg #[.slice a8 (zf (a + b)).length c8]) (by simp [results,Tryz.results114,go_sem,hcell]) rfl ⟨_,rfl,Hn.out.qC Hblk.out _,Hall.out.setCell (by simp;omega) _⟩
set_option maxRecDepth 100000 in
set_option maxHeartbeats 8000000 in
theorem zqF (a b : Nat) (va vb : Value) (w : World) (ha : zY w va a) (hb : zY w vb b) (hle : (zf b).length < (zf a).length) (hmax : (zf a).length ≤ 1000000) :
 Calls Tryz.prog 114 #[vb,va] w fun e w' => ∃ v,e = .returned v ∧ zY w' v (a + b) ∧ Below w.heap.size w w':=by
 obtain ⟨i0,hi,hz0,hz1,hz2⟩:=info_parts ze4
 obtain ⟨aa,ca,rfl⟩:=ha.shape
 obtain ⟨ab,cb,rfl⟩:=hb.shape
 have hA:=ha.limbs;have hB:=hb.limbs
 clear ha hb
 have ea:=qW a;have eb:=qW b
 generalize zf a = xs at hA ea hle hmax ⊢
 generalize zf b = ys at hB eb hle ⊢
 obtain ⟨_,_,eA,hA1,hA2⟩:=hA.shape
 obtain ⟨_,_,eB,hB1,hB2⟩:=hB.shape
 cases eA;cases eB
 have hd0 : decide (ys.length < xs.length) = true:=by simpa using hle
 have hle2 : ys.length ≤ xs.length:=by omega
 have hmk:=zia (xs.length + 1) (by omega)
 rw [show ((xs.length + 1 : Nat) : Int) = (xs.length : Int) + 1 by omega] at hmk
 have Ea:=hid ea;have Eb:=hid eb;have HA:=hid hA;have HB:=hid hB
 clear ea eb hA hB hle
 go_enter Tryz.func114,Tryz.ntmps114
 go_wp2_with fail
 have hbl : Below w.heap.size w (((w.alloc (.cells #[.slice aa xs.length ca] 52)).alloc (.cells #[.slice ab ys.length cb] 52)).alloc (.cells #[.slice none 0 0] 52)):=((zba).alloc (by simp) _).alloc (by simp only [zy];omega) _
 obtain ⟨w2,ew⟩ : ∃ x,x = ((w.alloc (.cells #[.slice aa xs.length ca] 52)).alloc (.cells #[.slice ab ys.length cb] 52)).alloc (.cells #[.slice none 0 0] 52):=⟨_,rfl⟩
 have hsz : w.heap.size + 1 + 1 + 1 = w2.heap.size:=by rw [ew];simp
 have hbb : w2.heap[w.heap.size + 1]? = some (.cells #[.slice ab ys.length cb] 52 (0,0)):=by rw [ew];exact zh (za (by simp))
 have hbr : w2.heap[w.heap.size + 1 + 1]? = some (.cells #[.slice none 0 0] 52 (0,0)):=by rw [ew];exact za (by simp)
 have hHA:=HA.out.below hbl
 have hHB:=HB.out.below hbl
 rw [hsz,← ew]
 rw [← ew] at hHA hHB hbl
 have hown:=World.ownsRow_made (base:=w2.heap.size) (e:=161) (size:=1) w2 (madeCells #[.int .u32 0] (xs.length + 1)) (xs.length + 1) (znr _) (show xs.length + 1 ≤ maxLen by unfold maxLen;omega) (by rw [size_madeCells];omega)
 clear ew HA HB hd0 hmk
 have hst : zfI w2 (w2.alloc (.cells (madeCells #[.int .u32 0] (xs.length + 1)) 161)) w2.heap.size (.slice (some ⟨w2.heap.size,0,none⟩) 0 (xs.length + 1)) 0 0 [] xs ys :=
  ⟨zba,hown,rfl,(fun x hx => by cases hx),znz _,by simp [zR]⟩
 have hlr : w.heap.size + 1 + 1 < w2.heap.size:=by omega
 have HA:=hid hHA;have HB:=hid hHB;have Hbl:=hid hbl;have Hsz:=hid hsz;have Hbb:=hid hbb;have Hbr:=hid hbr;have Hst:=hid hst
 clear hHA hHB hbl hsz hbb hbr hst hown
 go_loopg [5,6,27] xs.length (fun gk o cy i wr => ∃ (k c : Nat) (outs : List Nat),k ≤ xs.length ∧ gk = xs.length - k ∧ i = .int .i64 k ∧ cy = .int .u32 c ∧ zfI w2 wr w2.heap.size o k c outs xs ys)
 case atStart => exact ⟨0,0,[],znz _,rfl,rfl,rfl,Hst.out⟩
 case round =>
  clear Hst
  obtain ⟨k,c,outs,hk,rfl,rfl,rfl,hI⟩:=hrel
  have hsw:=hI.below.size
  have cB:=zco ((hI.below.block _ (by omega)).trans Hbb.out)
  by_cases hlt : k < xs.length
  ·
   obtain ⟨b1,o1,rfl,lb1⟩:=HA.out.addr hlt
   have g1:=(HA.out.below hI.below).get hlt
   have hx : xs[k] = dig xs k:=by unfold dig;simp [hlt]
   rw [hx] at g1
   have bx:=kD HA.out.limbs k
   have by_:=kD HB.out.limbs k
   have bc:=hI.cl
   have hs:=Nat.mod_lt (dig xs k + dig ys k + c) (show 0 < B32 by decide)
   have hq:=fun w' => zhp (dig xs k) (dig ys k) c w' bx by_ bc
   have hpush:=fun (w7 : World) (v' : Value) => hI.push (w2:=w7) (v':=v') HA.out.limbs HB.out.limbs hsw
   have hol:=hI.len
   have hol2 : outs.length ≤ 1000000:=by omega
   have hown:=hI.own.alloc (.cells #[.int .u32 (((dig xs k + dig ys k + c) % B32 : Nat) : Int)] 161)
   by_cases hy : k < ys.length
   ·
    obtain ⟨b2,o2,rfl,lb2⟩:=HB.out.addr hy
    have g2:=(HB.out.below hI.below).get hy
    have hyy : ys[k] = dig ys k:=by unfold dig;simp [hy]
    rw [hyy] at g2
    generalize dig xs k = x at g1 bx hs hq hpush hown
    generalize dig ys k = y at g2 by_ hs hq hpush hown
    have Hq:=hid hq;have Hpush:=hid hpush;have Hown:=hid hown;have Hol:=hid hol
    clear hq hpush hown hx hyy hI hol hs
    go_wp2_with fail
    refine (Hq.out _).mono ?_
    rintro e w' ⟨rfl,rfl⟩
    generalize (x + y + c) % B32 = r at Hpush Hown ⊢
    generalize (x + y + c) / B32 = c2 at Hpush ⊢
    go_wp2_with (at_builtin;refine wpList_append_own _ rfl (.tmp 49) (.tmp 51) 50 rfl w2.heap.size 161 i0 (.int .u32 0) 1 4 Tryz.underlying50 hi hz0 hz1 hz2 rfl (by decide) _ _ _ rfl Hown.out ⟨wr.heap.size,0,none⟩ 1 1 [.int .u32 (r : Int)] rfl rfl (cell_one_new _ _ _) (by intro u hu;rw [List.mem_singleton.1 hu];rfl) (by simp only [maxLen];omega) (by omega) (by simp;omega) ?_;intro v' w7 hown7 hgrow7 _;have Hf7:=hid (Hpush.out _ _ hown7 hgrow7);clear hown7 hgrow7)
    go_roundg (xs.length - (k + 1))
    case measure => omega
    case rel => exact ⟨k + 1,_,_,hlt,rfl,by go_num,rfl,Hf7.out⟩
   ·
    have hy0 : dig ys k = 0:=by
     unfold dig;rw [List.getD_eq_getElem?_getD,List.getElem?_eq_none (by omega)];rfl
    rw [hy0] at hq hpush hown hs
    generalize dig xs k = x at g1 bx hs hq hpush hown
    have Hq:=hid hq;have Hpush:=hid hpush;have Hown:=hid hown;have Hol:=hid hol
    clear hq hpush hown hx hy0 hI hol hs by_
    go_wp2_with fail
    refine (Hq.out _).mono ?_
    rintro e w' ⟨rfl,rfl⟩
    generalize (x + 0 + c) % B32 = r at Hpush Hown ⊢
    generalize (x + 0 + c) / B32 = c2 at Hpush ⊢
    go_wp2_with (at_builtin;refine wpList_append_own _ rfl (.tmp 49) (.tmp 51) 50 rfl w2.heap.size 161 i0 (.int .u32 0) 1 4 Tryz.underlying50 hi hz0 hz1 hz2 rfl (by decide) _ _ _ rfl Hown.out ⟨wr.heap.size,0,none⟩ 1 1 [.int .u32 (r : Int)] rfl rfl (cell_one_new _ _ _) (by intro u hu;rw [List.mem_singleton.1 hu];rfl) (by simp only [maxLen];omega) (by omega) (by simp;omega) ?_;intro v' w7 hown7 hgrow7 _;have Hf7:=hid (Hpush.out _ _ hown7 hgrow7);clear hown7 hgrow7)
    go_roundg (xs.length - (k + 1))
    case measure => omega
    case rel => exact ⟨k + 1,_,_,hlt,rfl,by go_num,rfl,Hf7.out⟩
  ·
   have hk2 : k = xs.length:=by omega
   have hval:=hI.val
   rw [hk2,List.take_length,List.take_of_length_le hle2,Ea.out,Eb.out] at hval
   have hol : outs.length = xs.length:=hI.len.trans hk2
   have hol2 : outs.length ≤ 1000000:=by omega
   have hv2 : zR (outs ++ [c]) = a + b:=by rw [jm,hol];simpa [zR] using hval
   have hlim : Limbs (outs ++ [c]):=fun x hx' => by
    rcases List.mem_append.1 hx' with hx' | hx'
    · exact hI.lim x hx'
    · rw [List.mem_singleton.1 hx'];have:=hI.cl;unfold B32;omega
   have hown:=hI.own.alloc (.cells #[.int .u32 (c : Int)] 161)
   have hbl2 : Below w2.heap.size w2 (wr.alloc (.cells #[.int .u32 (c : Int)] 161)):=hI.below.alloc hsw _
   have hvb:=fun j hj => (hI.own.lt j hj).1
   have hlt2 : ¬ (k : Int) < xs.length:=by omega
   have Hown:=hid hown;have Hol:=hid hol;have Hlim:=hid hlim;have Hv2:=hid hv2;have Hbl2:=hid hbl2;have Hvb:=hid hvb
   clear hown hol hlim hv2 hval hI hk2 hbl2 hvb
   go_wp2_with (at_builtin;refine wpList_append_own _ rfl (.tmp 54) (.tmp 56) 50 rfl w2.heap.size 161 i0 (.int .u32 0) 1 4 Tryz.underlying50 hi hz0 hz1 hz2 rfl (by decide) _ _ _ rfl Hown.out ⟨wr.heap.size,0,none⟩ 1 1 [.int .u32 (c : Int)] rfl rfl (cell_one_new _ _ _) (by intro u hu;rw [List.mem_singleton.1 hu];rfl) (by simp only [maxLen];omega) (by omega) (by simp;omega) ?_;intro v' w7 hown7 hgrow7 _;have Hown7:=hid hown7;have Hb7:=hid (Hbl2.out.trans ((Below.refl _ _).grown hgrow7 (by simp;omega) Hvb.out));clear hown7 hgrow7)
   have hlimbs : zO w7 v' (outs ++ [c]):=zcC (by simpa using Hown7.out) Hlim.out
   refine (zcr v' (outs ++ [c]) w7 hlimbs).mono ?_
   rintro e w8 ⟨v8,rfl,hn8,hb8⟩
   rw [Hv2.out] at hn8
   obtain ⟨a8,c8,rfl⟩:=hn8.shape
   have hs7:=Hb7.out.size
   have hblk : w8.heap[w.heap.size + 1 + 1]? = some (.cells #[.slice none 0 0] 52 (0,0)):=(hb8.block _ (by omega)).trans ((Hb7.out.block _ (by omega)).trans Hbr.out)
   have hcell:=zco hblk;have hfz:=zfo hblk;have hlt8:=zlb hblk
   have Hn:=hid hn8;have Hblk:=hid hblk;have Hall:=hid (Hbl.out.trans ((Hb7.out.trans (hb8.mono hs7)).mono Hbl.out.size))
   clear hn8 hblk hb8 hlimbs Hown7 Hb7 cB
   go_wp2_with fail
   exact bodyPost_ret (v:=.agg #[.slice a8 (zf (a + b)).length c8]) (by simp [results,Tryz.results114,go_sem,hcell]) rfl ⟨_,rfl,Hn.out.qC Hblk.out _,Hall.out.setCell (by simp;omega) _⟩
theorem zpy (a b : Nat) (va vb : Value) (w : World) (ha : zY w va a) (hb : zY w vb b) (hla : (zf a).length ≤ 1000000) (hlb : (zf b).length ≤ 1000000) :
 Calls Tryz.prog 114 #[va,vb] w fun e w' => ∃ v,e = .returned v ∧ zY w' v (a + b) ∧ Below w.heap.size w w':=by
 rcases Nat.lt_or_ge (zf a).length (zf b).length with h | h
 ·
  have q:=zqF b a vb va w hb ha h hlb
  rwa [Nat.add_comm] at q
 · exact zrL a b va vb w ha hb h hla
theorem zfi : ∀ (xs : List Nat) (j v : Nat),j < xs.length → zR (xs.set j v) + B32 ^ j * dig xs j = zR xs + B32 ^ j * v
 | [],j,v,h => absurd h (by simp)
 | x :: xs,0,v,_ => by
  have : dig (x :: xs) 0 = x:=rfl
  rw [this]
  simp only [List.set_cons_zero,zR,Nat.pow_zero,Nat.one_mul];omega
 | x :: xs,j + 1,v,h => by
  have ih:=zfi xs j v (by simpa using h)
  have hd : dig (x :: xs) (j + 1) = dig xs j:=by unfold dig;simp
  rw [hd]
  simp only [List.set_cons_succ,zR,Nat.pow_succ]
  have e : ∀ z,B32 ^ j * B32 * z = B32 * (B32 ^ j * z):=fun z => by rw [Nat.mul_comm (B32 ^ j) B32,Nat.mul_assoc]
  rw [e,e]
  have : B32 * (zR (xs.set j v) + B32 ^ j * dig xs j) = B32 * (zR xs + B32 ^ j * v):=by rw [ih]
  rw [Nat.mul_add,Nat.mul_add] at this
  omega
theorem zrD {B i k x y o c r q vs vo XY Yk : Nat} (hs : vs + B ^ (i + k) * o = vo + B ^ (i + k) * r) (hv : vo + B ^ (i + k) * c = XY + B ^ i * (x * Yk)) (hm : r + B * q = x * y + o + c) :
 vs + B ^ (i + (k + 1)) * q = XY + B ^ i * (x * (Yk + B ^ k * y)):=by
 rw [Nat.mul_add,Nat.mul_add,← Nat.add_assoc i k 1,Nat.pow_succ,Nat.mul_assoc]
 have h1 : B ^ (i + k) * r + B ^ (i + k) * (B * q) = B ^ (i + k) * (x * y) + B ^ (i + k) * o + B ^ (i + k) * c:=by
  rw [← Nat.mul_add,hm,Nat.mul_add,Nat.mul_add]
 have h2 : B ^ i * (x * (B ^ k * y)) = B ^ (i + k) * (x * y):=by
  rw [Nat.pow_add,Nat.mul_assoc,Nat.mul_left_comm x]
 omega
theorem zqG {B i x c vs vo Xi Y n : Nat} (hs : vs + B ^ (i + n) * 0 = vo + B ^ (i + n) * c) (hv : vo + B ^ (i + n) * c = Xi * Y + B ^ i * (x * Y)) : vs = (Xi + B ^ i * x) * Y:=by
 rw [Nat.add_mul,Nat.mul_assoc]
 rw [Nat.mul_zero] at hs
 omega
theorem zrG {a b B C x : Nat} {ys : List Nat} (h : a = b) : a + B * 0 = b + C * (x * zR (ys.take 0)):=by
 rw [List.take_zero,h];simp [zR]
theorem zhy {xs : List Nat} (h : Limbs xs) {j v : Nat} (hv : v < B32) : Limbs (xs.set j v):=fun x hx => by
 rcases List.mem_or_eq_of_mem_set hx with hx | rfl
 · exact h x hx
 · exact hv
theorem zfg : ∀ n,zR (List.replicate n 0) = 0
 | 0 => rfl
 | n + 1 => by rw [List.replicate_succ,zR,zfg n];rfl
structure zdU (outs xs ys : List Nat) (i k c : Nat) : Prop where
 len : outs.length = xs.length + ys.length
 lim : Limbs outs
 cl : c < B32
 zero : ∀ j,i + ys.length ≤ j → dig outs j = 0
 val : zR outs + B32 ^ (i + k) * c = zR (xs.take i) * zR ys + B32 ^ i * (dig xs i * zR (ys.take k))
theorem zfy {xs : List Nat} {i j v : Nat} (h : i ≠ j) : dig (xs.set i v) j = dig xs j:=by
 unfold dig;rw [List.getD_eq_getElem?_getD,List.getElem?_set_ne h,List.getD_eq_getElem?_getD]
theorem zmm (n j : Nat) : dig (List.replicate n 0) j = 0:=by
 unfold dig;rw [List.getD_eq_getElem?_getD,List.getElem?_replicate];split <;> rfl
theorem zjz (xs ys : List Nat) : zdU (List.replicate (xs.length + ys.length) 0) xs ys 0 0 0 :=
 ⟨by simp,(fun x hx => by rw [List.eq_of_mem_replicate hx];decide),by decide,fun j _ => zmm _ _,by rw [zfg];simp [zR]⟩
theorem sq_lt : (B32 - 1) * B32 + (B32 - 1) < B32 * B32:=by unfold B32;omega
theorem zoL {x y o c : Nat} (a : x < B32) (b : y < B32) (d : o < B32) (e : c < B32) : x * y + o + c ≤ (B32 - 1) * B32 + (B32 - 1):=by
 have f : x * y ≤ (B32 - 1) * (B32 - 1):=Nat.mul_le_mul (by omega) (by omega)
 have g : (B32 - 1) * B32 = (B32 - 1) * (B32 - 1) + (B32 - 1):=by unfold B32;omega
 omega
theorem zdU.prod {outs xs ys : List Nat} {i k c : Nat} (h : zdU outs xs ys i k c) (hx : Limbs xs) (hy : Limbs ys) : dig xs i * dig ys k + dig outs (i + k) + c ≤ (B32 - 1) * B32 + (B32 - 1) :=
 zoL (kD hx i) (kD hy k) (kD h.lim (i + k)) h.cl
theorem zdU.next {outs xs ys : List Nat} {i k c : Nat} (h : zdU outs xs ys i k c) (hx : Limbs xs) (hy : Limbs ys) (hi : i < xs.length) (hk : k < ys.length) :
 zdU (outs.set (i + k) ((dig xs i * dig ys k + dig outs (i + k) + c) % B32)) xs ys i (k + 1) ((dig xs i * dig ys k + dig outs (i + k) + c) / B32):=by
 have hj : i + k < outs.length:=by rw [h.len];omega
 have hs:=zfi outs (i + k) ((dig xs i * dig ys k + dig outs (i + k) + c) % B32) hj
 have hp:=Nat.lt_of_le_of_lt (h.prod hx hy) sq_lt
 refine ⟨by simp [h.len],zhy h.lim (Nat.mod_lt _ (by decide)),(Nat.div_lt_iff_lt_mul (by decide)).2 hp,fun j hge => ?_,?_⟩
 · rw [zfy (by omega)];exact h.zero j hge
 ·
  rw [zdB ys k]
  exact zrD hs h.val (Nat.mod_add_div _ _)
theorem zdU.row {outs xs ys : List Nat} {i c : Nat} (h : zdU outs xs ys i ys.length c) (hi : i < xs.length) : zdU (outs.set (i + ys.length) c) xs ys (i + 1) 0 0:=by
 have hj : i + ys.length < outs.length:=by rw [h.len];omega
 have hs:=zfi outs (i + ys.length) c hj
 rw [h.zero _ (znr _)] at hs
 refine ⟨by simp [h.len],zhy h.lim h.cl,by decide,fun j hge => ?_,?_⟩
 · rw [zfy (by omega)];exact h.zero j (by omega)
 ·
  have hv:=h.val
  rw [List.take_length] at hv
  have h2:=zqG hs hv
  rw [← zdB xs i] at h2
  exact zrG h2
theorem zdU.done {outs xs ys : List Nat} (h : zdU outs xs ys xs.length 0 0) : zR outs = zR xs * zR ys:=by
 have hv:=h.val
 rw [List.take_length,List.take_zero] at hv
 simpa [zR] using hv
theorem zhf (c : Nat) (h : c ≤ 2000001) (w : World) : (Instr.makeSlice 50 (.int .i64 (c : Int)) (.int .i64 (c : Int))).run Tryz.prog w = .ok (.slice (some ⟨w.heap.size,0,none⟩) c c) (w.alloc (.cells (madeCells #[.int .u32 0] c) 161)):=by
 obtain ⟨i,hi,hzz⟩:=Option.map_eq_some_iff.1 ze4
 simp only [Prod.mk.injEq] at hzz
 obtain ⟨hz,hs,hb⟩:=hzz
 have:=run_make (P:=Tryz.prog) w 50 161 i _ Tryz.underlying50 hi hz .i64 .i64 c c (by omega) (Int.le_refl _) (by rw [hb];omega) (by omega)
 simpa [hs,Value.cells] using this
def zeU (outs : List Nat) : Array Value:=(outs.map (fun x => Value.int .u32 (x : Nat))).toArray
theorem u64_in {z : Int} (h0 : 0 ≤ z) (h1 : z < 18446744073709551616) : IntKind.u64.wrap z = z:=by
 simp only [IntKind.wrap,IntKind.signed,IntKind.bits]
 have h2 : (2 : Int) ^ 64 = 18446744073709551616:=by decide
 first
  | (rw [h2];simp;omega)
  | (simp;omega)
theorem zma {x y o c : Nat} (h : x * y + o + c ≤ (B32 - 1) * B32 + (B32 - 1)) : IntKind.u64.wrap (IntKind.u64.wrap (IntKind.u64.wrap ((x : Int) * (y : Int)) + (o : Int)) + (c : Int)) = ((x * y + o + c : Nat) : Int):=by
 have e : (x : Int) * (y : Int) = ((x * y : Nat) : Int):=by simp
 rw [e]
 generalize x * y = p at *
 unfold B32 at h
 rw [u64_in (z:=(p : Int)) (by omega) (by omega),u64_in (z:=(p : Int) + o) (by omega) (by omega),u64_in (by omega) (by omega)]
 omega
structure zc9 (W wr : World) (g : Nat) (outs : List Nat) : Prop where
 below : Below g W wr
 row : wr.heap[g]? = some (.cells (zeU outs) 161 (0,0))
theorem zc9.cell {W wr : World} {g : Nat} {outs : List Nat} (h : zc9 W wr g outs) {j : Nat} (hj : j < outs.length) : wr.cell? ⟨g,j,none⟩ = some (.int .u32 (dig outs j : Nat)):=by
 rw [cell_of_row wr g j _ _ _ h.row]
 unfold zeU dig
 simp [hj]
theorem zc9.free {W wr : World} {g : Nat} {outs : List Nat} (h : zc9 W wr g outs) (j : Nat) : wr.frozen? ⟨g,j,none⟩ = false:=by
 simp [World.frozen?,h.row]
theorem zc9.set {W wr : World} {g : Nat} {outs : List Nat} (h : zc9 W wr g outs) (j v : Nat) : zc9 W (wr.setCell ⟨g,j,none⟩ (.int .u32 (v : Nat))) g (outs.set j v):=by
 refine ⟨h.below.setCell (znr _) _,?_⟩
 have hlt:=zlb h.row
 have h' : wr.heap[g] = .cells (zeU outs) 161 (0,0):=by simpa [Array.getElem?_eq_getElem hlt] using h.row
 show (wr.heap.modify g _)[g]? = _
 rw [Array.getElem?_eq_getElem (by simpa using hlt),Array.getElem_modify_self,h']
 simp [zeU,List.map_set]
set_option maxRecDepth 100000 in
set_option maxHeartbeats 8000000 in
theorem zpC (a b : Nat) (va vb : Value) (w : World) (ha : zY w va a) (hb : zY w vb b) (hla : (zf a).length ≤ 1000000) (hlb : (zf b).length ≤ 1000000) :
 Calls Tryz.prog 115 #[va,vb] w fun e w' => ∃ v,e = .returned v ∧ zY w' v (a * b) ∧ Below w.heap.size w w':=by
 obtain ⟨aa,ca,rfl⟩:=ha.shape
 obtain ⟨ab,cb,rfl⟩:=hb.shape
 have hA:=ha.limbs;have hB:=hb.limbs
 clear ha hb
 have ea:=qW a;have eb:=qW b
 generalize zf a = xs at hA ea hla ⊢
 generalize zf b = ys at hB eb hlb ⊢
 obtain ⟨_,_,eA,hA1,hA2⟩:=hA.shape
 obtain ⟨_,_,eB,hB1,hB2⟩:=hB.shape
 cases eA;cases eB
 have hmk:=zhf (xs.length + ys.length) (by omega)
 rw [show ((xs.length + ys.length : Nat) : Int) = (xs.length : Int) + ys.length by omega] at hmk
 have Ea:=hid ea;have Eb:=hid eb;have HA:=hid hA;have HB:=hid hB
 clear ea eb hA hB
 go_enter Tryz.func115,Tryz.ntmps115
 go_wp2_with fail
 have hbl : Below w.heap.size w (((w.alloc (.cells #[.slice aa xs.length ca] 52)).alloc (.cells #[.slice ab ys.length cb] 52)).alloc (.cells #[.slice none 0 0] 52)):=((zba).alloc (by simp) _).alloc (by simp only [zy];omega) _
 obtain ⟨w2,ew⟩ : ∃ x,x = ((w.alloc (.cells #[.slice aa xs.length ca] 52)).alloc (.cells #[.slice ab ys.length cb] 52)).alloc (.cells #[.slice none 0 0] 52):=⟨_,rfl⟩
 have hsz : w.heap.size + 1 + 1 + 1 = w2.heap.size:=by rw [ew];simp
 have hbb : w2.heap[w.heap.size + 1]? = some (.cells #[.slice ab ys.length cb] 52 (0,0)):=by rw [ew];exact zh (za (by simp))
 have hbr : w2.heap[w.heap.size + 1 + 1]? = some (.cells #[.slice none 0 0] 52 (0,0)):=by rw [ew];exact za (by simp)
 have hHA:=HA.out.below hbl
 have hHB:=HB.out.below hbl
 rw [hsz,← ew]
 rw [← ew] at hHA hHB hbl
 have hmd : madeCells #[.int .u32 0] (xs.length + ys.length) = zeU (List.replicate (xs.length + ys.length) 0):=by
  apply Array.toList_inj.1
  rw [toList_madeCells_one];simp [zeU]
 rw [hmd]
 clear ew HA HB hmk hmd
 have hst : zc9 w2 (w2.alloc (.cells (zeU (List.replicate (xs.length + ys.length) 0)) 161)) w2.heap.size (List.replicate (xs.length + ys.length) 0):=⟨zba,za rfl⟩
 have hlr : w.heap.size + 1 + 1 < w2.heap.size:=by omega
 have HA:=hid hHA;have HB:=hid hHB;have Hbl:=hid hbl;have Hsz:=hid hsz;have Hbb:=hid hbb;have Hbr:=hid hbr;have Hst:=hid hst
 clear hHA hHB hbl hsz hbb hbr hst
 go_loopg [23] xs.length (fun gk i wr => ∃ (k : Nat) (outs : List Nat),k ≤ xs.length ∧ gk = xs.length - k ∧ i = .int .i64 k ∧ zc9 w2 wr w2.heap.size outs ∧ zdU outs xs ys k 0 0)
 case atStart => exact ⟨0,_,znz _,rfl,rfl,Hst.out,zjz _ _⟩
 case round =>
  clear Hst
  obtain ⟨i,outs,hi,rfl,rfl,hI,hM⟩:=hrel
  obtain ⟨wo,rfl⟩ : ∃ wo : World,wo = wr:=⟨_,rfl⟩
  have hsw:=hI.below.size
  have cB:=zco ((hI.below.block _ (by omega)).trans Hbb.out)
  by_cases hlt : i < xs.length
  ·
   obtain ⟨b1,o1,rfl,lb1⟩:=HA.out.addr hlt
   have g1:=(HA.out.below hI.below).get hlt
   have hx : xs[i] = dig xs i:=by unfold dig;simp [hlt]
   rw [hx] at g1
   clear hx
   obtain ⟨x,ex⟩ : ∃ x,x = dig xs i:=⟨_,rfl⟩
   rw [← ex] at g1
   have Ex:=hid ex;have HI:=hid hI;have HM:=hid hM
   clear ex hI hM
   go_wp2_with fail
   go_loopg [8,31] ys.length (fun gk cy ki wr => ∃ (k c : Nat) (outs : List Nat),k ≤ ys.length ∧ gk = ys.length - k ∧ ki = .int .i64 k ∧ cy = .int .u64 c ∧ zc9 w2 wr w2.heap.size outs ∧ zdU outs xs ys i k c)
   case atStart => exact ⟨0,0,_,znz _,rfl,rfl,rfl,HI.out,HM.out⟩
   case round =>
    clear HI HM cB g1
    obtain ⟨k,c,outs,hk,rfl,rfl,rfl,hI,hM⟩:=hrel
    have cB:=zco ((hI.below.block _ (by omega)).trans Hbb.out)
    have hsw:=hI.below.size
    by_cases hlk : k < ys.length
    ·
     obtain ⟨b2,o2,rfl,lb2⟩:=HB.out.addr hlk
     have g2:=(HB.out.below hI.below).get hlk
     have hyy : ys[k] = dig ys k:=by unfold dig;simp [hlk]
     rw [hyy] at g2
     have hlo : i + k < outs.length:=by rw [hM.len];omega
     have go:=hI.cell hlo
     have fo:=hI.free (i + k)
     have hpr:=hM.prod HA.out.limbs HB.out.limbs
     have hnx:=hM.next HA.out.limbs HB.out.limbs hlt hlk
     have hsx:=fun v => hI.set (i + k) v
     have bx:=kD HA.out.limbs i
     have by_:=kD HB.out.limbs k
     have bo:=kD hM.lim (i + k)
     have bc:=hM.cl
     rw [← Ex.out] at bx hpr hnx
     have hlo2 : ((i : Int) + k) < outs.length:=by omega
     have hik : ((i : Int) + (k : Int)).toNat = i + k:=by omega
     generalize dig ys k = y at g2 by_ hpr hnx
     generalize dig outs (i + k) = o at go bo hpr hnx
     have Hpr:=hid hpr;have Hnx:=hid hnx;have Hsx:=hid hsx;have Hlen:=hid hM.len
     clear hpr hnx hsx hM hI hyy hlo
     unfold B32 at bx by_ bo bc
     have hw:=zma Hpr.out
     obtain ⟨t,et⟩ : ∃ t,t = x * y + o + c:=⟨_,rfl⟩
     rw [← et] at hw
     have hnx2:=Hnx.out
     rw [← et] at hnx2
     clear et Hpr Hnx
     have Hnx:=hid hnx2;clear hnx2
     go_wp2_with fail
     have hset:=Hsx.out (t % B32)
     go_roundg (ys.length - (k + 1))
     case measure => omega
     case rel => exact ⟨k + 1,t / B32,_,hlk,rfl,by go_num,rfl,hset,Hnx.out⟩
    ·
     obtain rfl : k = ys.length:=by omega
     have hr:=hM.row hlt
     have hset:=hI.set (i + ys.length) c
     have bc:=hM.cl
     have hlo : i + ys.length < outs.length:=by rw [hM.len];omega
     have go:=hI.cell hlo
     have fo:=hI.free (i + ys.length)
     have hlo2 : ((i : Int) + ys.length) < outs.length:=by omega
     have hik : ((i : Int) + (ys.length : Int)).toNat = i + ys.length:=by omega
     generalize dig outs (i + ys.length) = o at go
     have Hr:=hid hr;have Hset:=hid hset;have Hlen:=hid hM.len
     clear hr hset hM hI hlo
     unfold B32 at bc
     go_wp2_with fail
     go_roundg (xs.length - (i + 1))
     case measure => omega
     case rel => exact ⟨i + 1,_,hlt,rfl,by go_num,Hset.out,Hr.out⟩
  ·
   obtain rfl : i = xs.length:=by omega
   have hv:=hM.done
   rw [Ea.out,Eb.out] at hv
   have hlimbs : zO wo (.slice (some ⟨w2.heap.size,0,none⟩) (xs.length + ys.length) (xs.length + ys.length)) outs:=j3 outs hI.row (by simp [zeU]) hM.len.symm (znr _) (by unfold maxLen;omega) hM.lim
   have Hl:=hid hlimbs;have Hv:=hid hv;have HI:=hid hI
   clear hlimbs hv hI hM
   go_wp2_with fail
   refine (zcr _ outs _ Hl.out).mono ?_
   rintro e w8 ⟨v8,rfl,hn8,hb8⟩
   rw [Hv.out] at hn8
   obtain ⟨a8,c8,rfl⟩:=hn8.shape
   have hblk : w8.heap[w.heap.size + 1 + 1]? = some (.cells #[.slice none 0 0] 52 (0,0)):=(hb8.block _ (by omega)).trans ((HI.out.below.block _ (by omega)).trans Hbr.out)
   have hcell:=zco hblk;have hfz:=zfo hblk;have hlt8:=zlb hblk
   have Hn:=hid hn8;have Hblk:=hid hblk;have Hall:=hid (Hbl.out.trans ((HI.out.below.trans (hb8.mono hsw)).mono Hbl.out.size))
   clear hn8 hblk hb8 cB
   go_wp2_with fail
   exact bodyPost_ret (v:=.agg #[.slice a8 (zf (a * b)).length c8]) (by simp [results,Tryz.results115,go_sem,hcell]) rfl ⟨_,rfl,Hn.out.qC Hblk.out _,Hall.out.setCell (by simp;omega) _⟩
theorem zjN {m n : Nat} (h : m ≤ n) : (zf m).length ≤ (zf n).length:=by
 rcases Nat.lt_or_ge (zf n).length (zf m).length with h1 | h1
 · have:=zeu h1;omega
 · exact h1
structure zpf (w wr : World) (s : Value) (m : Nat) : Prop where
 below : Below w.heap.size w wr
 nat : zY wr (.agg #[s]) m
 box : wr.heap[w.heap.size]? = some (.cells #[s] 52 (0,0))
 res : wr.heap[w.heap.size + 1]? = some (.cells #[.slice none 0 0] 52 (0,0))
structure znp (w wr : World) (s s9 : Value) (n : Nat) : Prop where
 below : Below w.heap.size w wr
 nat : zY wr (.agg #[s9]) n
 box : wr.heap[w.heap.size]? = some (.cells #[s] 52 (0,0))
 res : wr.heap[w.heap.size + 1]? = some (.cells #[.slice none 0 0] 52 (0,0))
theorem znp.set {w w9 : World} {a a9 : Option Addr} {n n9 c c9 k : Nat} (h : znp w w9 (.slice a n c) (.slice a9 n9 c9) k) : zpf w (w9.setCell ⟨w.heap.size,0,none⟩ (.slice a9 n9 c9)) (.slice a9 n9 c9) k :=
 ⟨h.below.setCell (znr _) _,h.nat.qC h.box _,one_setCell h.box,by rw [zhc _ _ _ _ (by simp)];exact h.res⟩
theorem zeo (t : Nat) (h : t ≤ 31) : zf (2 ^ t) = [2 ^ t]:=by
 have h1 : 2 ^ t ≤ 2 ^ 31:=Nat.pow_le_pow_right (by decide) h
 have h2:=zdR [2 ^ t] (fun x hx => by rw [List.mem_singleton.1 hx];unfold B32;omega) (by have:=Nat.two_pow_pos t;simp)
 simpa [zR] using h2
theorem znd (t : Nat) (h : t ≤ 31) : IntKind.u32.wrap (2 ^ t) = ((2 ^ t : Nat) : Int):=by
 have h1 : 2 ^ t ≤ 2 ^ 31:=Nat.pow_le_pow_right (by decide) h
 rw [show ((2 : Int) ^ t) = ((2 ^ t : Nat) : Int) by simp]
 generalize 2 ^ t = p at *
 rw [IntWalk.u32_in _ ⟨by omega,by omega⟩]
theorem zlM {w : World} : zY (w.alloc (.cells #[.int .u32 2147483648] 161)).drew (.agg #[.slice (some ⟨w.heap.size,0,none⟩) 1 1]) (2 ^ 31):=by
 refine ⟨_,rfl,?_⟩
 rw [zeo 31 (by decide)]
 exact j3 [2 ^ 31] (show (w.alloc _).heap[w.heap.size]? = _ from za rfl) (by simp) rfl (znr _) (by decide) (fun x hx => by rw [List.mem_singleton.1 hx];unfold B32;omega)
theorem zlz {w : World} (t : Nat) (h : t ≤ 31) : zY (w.alloc (.cells #[.int .u32 (IntKind.u32.wrap (2 ^ t))] 161)).drew (.agg #[.slice (some ⟨w.heap.size,0,none⟩) 1 1]) (2 ^ t):=by
 refine ⟨_,rfl,?_⟩
 rw [zeo t h,znd t h]
 exact j3 [2 ^ t] (show (w.alloc _).heap[w.heap.size]? = _ from za rfl) (by simp) rfl (znr _) (by decide) (fun x hx => by
  have h1 : 2 ^ t ≤ 2 ^ 31:=Nat.pow_le_pow_right (by decide) h
  rw [List.mem_singleton.1 hx];unfold B32;omega)
theorem zhs (t : Nat) (h : t ≤ 31) : (zf (2 ^ t)).length ≤ 1000000:=by rw [zeo t h];simp
theorem kV {w : World} (o : Obj) : Below w.heap.size w (w.alloc o).drew:=(zba).drew
theorem zpf.zqe {w wr w9 : World} {o : Obj} {s s9 : Value} {m n : Nat} (h : zpf w wr s m) (hb : Below (wr.alloc o).drew.heap.size (wr.alloc o).drew w9) (hn : zY w9 (.agg #[s9]) n) : znp w w9 s s9 n:=by
 have hb2 : Below wr.heap.size wr w9:=(kV o).trans (hb.mono (kV o).size)
 exact ⟨h.below.trans (hb2.mono h.below.size),hn,(hb2.block _ (zlb h.box)).trans h.box,(hb2.block _ (zlb h.res)).trans h.res⟩
set_option maxRecDepth 100000 in
set_option maxHeartbeats 8000000 in
theorem kW (a T : Nat) (va : Value) (w : World) (ha : zY w va a) (hT : T ≤ 1000) (hla : (zf (a * 2 ^ T)).length ≤ 1000000) :
 Calls Tryz.prog 58 #[va,.int .i64 T] w fun e w' => ∃ v,e = .returned v ∧ zY w' v (a * 2 ^ T) ∧ Below w.heap.size w w':=by
 obtain ⟨aa,ca,rfl⟩:=ha.shape
 have hbl : Below w.heap.size w ((w.alloc (.cells #[.slice aa (zf a).length ca] 52)).alloc (.cells #[.slice none 0 0] 52)):=(zba).alloc (by simp) _
 have hst : zpf w ((w.alloc (.cells #[.slice aa (zf a).length ca] 52)).alloc (.cells #[.slice none 0 0] 52)) (.slice aa (zf a).length ca) a:=⟨hbl,ha.below hbl,zh (za rfl),za (by simp)⟩
 have Hst:=hid hst;have Hla:=hid hla
 clear ha hst hbl hla
 have hmin : min (T : Int) 1000 = T:=by omega
 go_enter Tryz.func58,Tryz.ntmps58
 go_wp2_with fail
 go_loopg [1] T (fun gk i wr => ∃ (t m : Nat) (s : Value),t = gk ∧ t ≤ T ∧ i = .int .i64 t ∧ zpf w wr s m ∧ m * 2 ^ t = a * 2 ^ T)
 case atStart => exact ⟨T,a,_,rfl,znr _,by go_num,Hst.out,rfl⟩
 case round =>
  clear Hst hmin
  obtain ⟨t,m,s,rfl,ht,rfl,hI,hv⟩:=hrel
  rcases Nat.eq_zero_or_pos t with h0 | h0
  ·
   subst h0
   obtain ⟨a8,c8,e8⟩:=hI.nat.shape
   cases e8
   have hm : m = a * 2 ^ T:=by simpa using hv
   subst hm
   have c2:=zco hI.box
   have c4:=zco hI.res;have f4:=zfo hI.res;have l4:=zlb hI.res
   have HI:=hid hI
   clear hI hv
   go_wp2_with fail
   exact bodyPost_ret (v:=.agg #[.slice a8 (zf (a * 2 ^ T)).length c8]) (by simp [results,Tryz.results58,go_sem,c4]) rfl ⟨_,rfl,HI.out.nat.qC HI.out.res _,HI.out.below.setCell (by simp) _⟩
  ·
   obtain ⟨a8,c8,e8⟩:=hI.nat.shape
   cases e8
   have c2:=zco hI.box
   have f2:=zfo hI.box
   have HI:=hid hI;have Hv:=hid hv
   clear hI hv
   have hmm:=zjN (m:=m) (n:=a * 2 ^ T) (by rw [← Hv.out];exact Nat.le_mul_of_pos_right _ (Nat.two_pow_pos t))
   have hlm : (zf m).length ≤ 1000000:=Nat.le_trans hmm Hla.out
   clear hmm
   have Hlm:=hid hlm;clear hlm
   have mulq:=fun (n : Nat) (vb : Value) (w' : World) (hb : zY w' vb n) (hw : Below wr.heap.size wr w') (hl : (zf n).length ≤ 1000000) => zpC m n (.agg #[.slice a8 (zf m).length c8]) vb w' (HI.out.nat.below hw) hb Hlm.out hl
   have Mulq:=hid mulq;clear mulq
   by_cases h31 : (t : Int) ≤ 31
   ·
    have hm31 : min (t : Int) 31 = (t : Int):=by omega
    have l2:=zlb HI.out.box
    have c2b : (wr.alloc (.cells #[.int .u32 (IntKind.u32.wrap (2 ^ t))] 161)).drew.cell? ⟨w.heap.size,0,none⟩ = some (.slice a8 (zf m).length c8):=zco (((kV _).block _ l2).trans HI.out.box)
    go_wp2_with fail
    go_region_with (go_at_call 115;refine (Mulq.out (2 ^ t) _ _ (zlz (w:=wr) t (by omega)) (kV (w:=wr) _) (zhs t (by omega))).mono ?_;rintro e w9 ⟨v9,rfl,hn9,hb9⟩;obtain ⟨a9,c9,rfl⟩:=hn9.shape;have hd9:=HI.out.zqe hb9 hn9;have h91:=zco hd9.box;have h92:=zfo hd9.box;have h93:=zlb hd9.box;have H9:=hid hd9;clear hn9 hb9 hd9)
    all_goals
     go_wp2_with fail
     have H9s:=hid H9.out.set
     go_roundg 0
     case measure => omega
     case rel => exact ⟨0,_,_,rfl,znz _,by go_num,H9s.out,by have:=Hv.out;simpa using this⟩
   ·
    have hm31 : min (t : Int) 31 = 31:=by omega
    have l2:=zlb HI.out.box
    have h31' : ¬ ((t : Int) ≤ 31):=h31
    have c2b : (wr.alloc (.cells #[.int .u32 2147483648] 161)).drew.cell? ⟨w.heap.size,0,none⟩ = some (.slice a8 (zf m).length c8):=zco (((kV _).block _ l2).trans HI.out.box)
    go_wp2_with fail
    go_region_with (go_at_call 115;refine (Mulq.out (2 ^ 31) _ _ (zlM (w:=wr)) (kV (w:=wr) _) (zhs 31 (by decide))).mono ?_;rintro e w9 ⟨v9,rfl,hn9,hb9⟩;obtain ⟨a9,c9,rfl⟩:=hn9.shape;have hd9:=HI.out.zqe hb9 hn9;have h91:=zco hd9.box;have h92:=zfo hd9.box;have h93:=zlb hd9.box;have H9:=hid hd9;clear hn9 hb9 hd9)
    all_goals
     go_wp2_with fail
     have H9s:=hid H9.out.set
     go_roundg (t - 31)
     case measure => omega
     case rel => exact ⟨t - 31,_,_,rfl,by omega,by go_num,H9s.out,by rw [← Hv.out,Nat.mul_assoc,← Nat.pow_add,show 31 + (t - 31) = t by omega]⟩
