import Derived.Test.YtmlfelbkgoplhaaGreatDoorZfPkG
import Derived.Lib.CutLaws
import Derived.Laws.AppendOwn
import Derived.Lib.Hide
import Derived.Deep.AppendLies
import Derived.Lib.Join
import Derived.Test.YtmlfelbkgoplhaaGreatDoorShelfC
import Derived.Shelf.Strings.Cut
import Derived.Shelf.Slices.Turned
import Derived.WalkKit
set_option linter.unusedVariables false
namespace Go.Proofs.YtmlfelbkgoplhaaGreatDoor
open Go.RowKit
def zpe (c : UInt8) : Bool:=decide (48 ≤ c) && decide (c ≤ 57)
def zqt (n : Int) : Bool:=(match Lib.atoiAll (Lib.itoa n) with | .ok m => m == n | _ => false) && (Lib.itoa n).all zpe && !(Lib.itoa n).isEmpty && decide ((Lib.itoa n).length ≤ 3)
theorem zmu : ∀ n : Fin 1000,zqt (n.val : Int) = true:=by decide +kernel
theorem zaf {n : Int} (h : 0 ≤ n ∧ n ≤ 999) : Lib.atoiAll (Lib.itoa n) = .ok n ∧ (∀ c ∈ Lib.itoa n,zpe c = true) ∧ Lib.itoa n ≠ [] ∧ (Lib.itoa n).length ≤ 3:=by
 have:=zmu ⟨n.toNat,by omega⟩
 rw [show ((⟨n.toNat,by omega⟩ : Fin 1000).val : Int) = n by simp;omega] at this
 unfold zqt at this
 simp only [Bool.and_eq_true,List.all_eq_true,decide_eq_true_eq,Bool.not_eq_true'] at this
 obtain ⟨⟨⟨h1,h2⟩,h3⟩,h4⟩:=this
 refine ⟨?_,h2,fun e => (by rw [e] at h3;cases h3),h4⟩
 cases ha : Lib.atoiAll (Lib.itoa n) with
 | ok m =>
  rw [ha] at h1
  have : m = n:=by simpa using h1
  rw [this]
 | _ => rw [ha] at h1;cases h1
theorem zbm {c : UInt8} (h : zpe c = true) : c ≠ 46 ∧ c ≠ 32 ∧ c ≠ 124 ∧ zfP c = false:=by
 have hall : ∀ n : Fin 256,zpe (UInt8.ofNat n.val) = true → (UInt8.ofNat n.val) ≠ 46 ∧ (UInt8.ofNat n.val) ≠ 32 ∧ (UInt8.ofNat n.val) ≠ 124 ∧ zfP (UInt8.ofNat n.val) = false:=by decide +kernel
 have:=hall ⟨c.toNat,c.toNat_lt⟩
 simpa using this (by simpa using h)
theorem kX {x : UInt8} : ∀ {A R : List UInt8},(∀ y ∈ A,y ≠ x) → Lib.index (A ++ x :: R) [x] = (A.length : Int)
 | [],R,_ => by
  show (if ([x] : List UInt8).isPrefixOf (x :: R) then (0 : Int) else _) = _
  rw [if_pos (by simp [List.isPrefixOf])]
  rfl
 | y :: A,R,h => by
  have hy : y ≠ x:=h y (List.mem_cons_self ..)
  have ih:=kX (x:=x) (A:=A) (R:=R) (fun z hz => h z (List.mem_cons_of_mem _ hz))
  show (if ([x] : List UInt8).isPrefixOf (y :: (A ++ x :: R)) then (0 : Int) else if Lib.index (A ++ x :: R) [x] == -1 then -1 else Lib.index (A ++ x :: R) [x] + 1) = _
  rw [if_neg (by simp [List.isPrefixOf,Ne.symm hy]),ih,if_neg (by rw [beq_iff_eq];omega)]
  simp
theorem index_none {x : UInt8} {sub : List UInt8} : ∀ {A : List UInt8},(∀ y ∈ A,y ≠ x) → Lib.index A (x :: sub) = -1
 | [],_ => by
  show (if (x :: sub).isEmpty then (0 : Int) else -1) = -1
  rw [if_neg (by simp)]
 | y :: A,h => by
  have hy : y ≠ x:=h y (List.mem_cons_self ..)
  have ih:=index_none (x:=x) (sub:=sub) (A:=A) (fun z hz => h z (List.mem_cons_of_mem _ hz))
  show (if (x :: sub).isPrefixOf (y :: A) then (0 : Int) else if Lib.index A (x :: sub) == -1 then -1 else Lib.index A (x :: sub) + 1) = -1
  rw [if_neg (by simp [List.isPrefixOf,Ne.symm hy]),ih]
  rfl
def kJ (a b c : Int) : List UInt8:=Lib.itoa a ++ 46 :: (Lib.itoa b ++ 46 :: Lib.itoa c)
theorem zam (l : List UInt8) : (zQ l).data.toList = l:=rfl
theorem jM (l : List UInt8) : (zQ l).size = l.length:=rfl
theorem yE (l : List UInt8) (i j : Nat) : (zQ l).extract i j = zQ ((l.drop i).take (j - i)):=jA (zQ l) i j
structure zcG (a b c : Int) : Prop where
 a : 0 ≤ a ∧ a ≤ 999
 b : 0 ≤ b ∧ b ≤ 999
 c : 0 ≤ c ∧ c ≤ 999
theorem zjs {a b c : Int} (h : zcG a b c) : ∀ x ∈ kJ a b c,x = 46 ∨ zpe x = true:=by
 intro x hx
 unfold kJ at hx
 simp only [List.mem_append,List.mem_cons] at hx
 rcases hx with hx | rfl | hx | rfl | hx
 · exact .inr ((zaf h.a).2.1 x hx)
 · exact .inl rfl
 · exact .inr ((zaf h.b).2.1 x hx)
 · exact .inl rfl
 · exact .inr ((zaf h.c).2.1 x hx)
theorem zfc {a b c : Int} (h : zcG a b c) : zaz (zQ (kJ a b c)) a b c:=by
 obtain ⟨a1,a2,a3,a4⟩:=zaf h.a
 obtain ⟨b1,b2,b3,b4⟩:=zaf h.b
 obtain ⟨c1,c2,c3,c4⟩:=zaf h.c
 refine ⟨zQ (Lib.itoa a),zQ (Lib.itoa b),zQ (Lib.itoa c),?_,⟨a1,rfl,h.a.1,h.a.2⟩,⟨b1,rfl,h.b.1,h.b.2⟩,⟨c1,rfl,h.c.1,h.c.2⟩⟩
 have e1 : (zQ (kJ a b c)).extract ((Lib.itoa a).length + 1) (zQ (kJ a b c)).size = zQ (Lib.itoa b ++ 46 :: Lib.itoa c):=by
  rw [yE,jM]
  congr 1
  unfold kJ
  rw [List.take_of_length_le (by simp;omega)]
  rw [show (Lib.itoa a).length + 1 = (Lib.itoa a ++ [46]).length by simp,show Lib.itoa a ++ 46 :: (Lib.itoa b ++ 46 :: Lib.itoa c) = (Lib.itoa a ++ [46]) ++ (Lib.itoa b ++ 46 :: Lib.itoa c) by simp,List.drop_left]
 have e2 : (zQ (Lib.itoa b ++ 46 :: Lib.itoa c)).extract ((Lib.itoa b).length + 1) (zQ (Lib.itoa b ++ 46 :: Lib.itoa c)).size = zQ (Lib.itoa c):=by
  rw [yE,jM]
  congr 1
  rw [List.take_of_length_le (by simp;omega)]
  rw [show (Lib.itoa b).length + 1 = (Lib.itoa b ++ [46]).length by simp,show Lib.itoa b ++ 46 :: Lib.itoa c = (Lib.itoa b ++ [46]) ++ Lib.itoa c by simp,List.drop_left]
 refine zrI (i:=(Lib.itoa a).length) (j:=(Lib.itoa b).length) ?_ ?_ ?_ ?_ ?_ ?_
 · exact kX (fun y hy => (zbm (a2 y hy)).1)
 · rw [yE];unfold kJ;simp
 · rw [e1];exact kX (fun y hy => (zbm (b2 y hy)).1)
 · rw [e1,yE];simp
 · rw [e1,e2];exact index_none (fun y hy => (zbm (c2 y hy)).1)
 · rw [e1,e2]
def opsT : List (List UInt8 × Nat):=[([],0),([61],0),([33],1),([60],2),([60,61],3),([62],4),([62,61],5),([94],6),([126],7)]
theorem zaL {p : UInt8 → Bool} {l r : List UInt8} (h1 : ∀ x ∈ l,p x = true) (h2 : ∀ x,r.head? = some x → p x = false) : (l ++ r).takeWhile p = l:=by
 induction l with
 | nil =>
  cases r with
  | nil => rfl
  | cons x r => rw [List.nil_append,List.takeWhile_cons_of_neg (by simp [h2 x rfl])]
 | cons x l ih =>
  rw [List.cons_append,List.takeWhile_cons_of_pos (h1 x (List.mem_cons_self ..)),ih (fun y hy => h1 y (List.mem_cons_of_mem _ hy))]
theorem zmJ {a b c : Int} (h : zcG a b c) : ∀ x,(kJ a b c).head? = some x → zfP x = false:=by
 intro x hx
 obtain ⟨a1,a2,a3,a4⟩:=zaf h.a
 unfold kJ at hx
 cases hi : Lib.itoa a with
 | nil => exact absurd hi a3
 | cons y r =>
  rw [hi] at hx
  obtain rfl : y = x:=by simpa using hx
  exact (zbm (a2 y (by rw [hi];exact List.mem_cons_self ..))).2.2.2
theorem zgH {l : List UInt8} (hne : l ≠ []) (h : ∀ x ∈ l,nb x = true) : words l = [l]:=by
 cases l with
 | nil => exact absurd rfl hne
 | cons c r =>
  rw [zc5 (h c (List.mem_cons_self ..))]
  have e1 : r.takeWhile nb = r:=by
   have:=zaL (p:=nb) (l:=r) (r:=[]) (fun x hx => h x (List.mem_cons_of_mem _ hx)) (fun x hx => by cases hx)
   simpa using this
  have e2 : r.dropWhile nb = []:=by
   have:=List.takeWhile_append_dropWhile (p:=nb) (l:=r)
   rw [e1] at this
   have h2 : (r ++ r.dropWhile nb).length = r.length:=by rw [this]
   rw [List.length_append] at h2
   exact List.eq_nil_of_length_eq_zero (by omega)
  rw [e1,e2,zcu]
theorem zqX : ∀ x ∈ opsT,(∀ c ∈ x.1,zfP c = true) ∧ opK x.1 = some x.2 ∧ x.1.length ≤ 2 ∧ (∀ c ∈ x.1,c ≠ 32 ∧ c ≠ 124):=by decide +kernel
theorem zb6 {o : List UInt8} {k : Nat} {a b c : Int} {r : List Spn} (hm : (o,k) ∈ opsT) (h : zcG a b c) (hr : OpR k a b c r) : za4 (zQ (o ++ kJ a b c)) r:=by
 obtain ⟨o1,o2,o3,_⟩:=zqX _ hm
 have hlen : jH (zQ (o ++ kJ a b c)) = o.length:=by
  unfold jH
  rw [zam,zaL o1 (zmJ h)]
 have h46 : (46 : UInt8) ∈ o ++ kJ a b c:=by unfold kJ;simp
 refine .inr (.inr ⟨fun e => ?_,fun e => ?_,k,a,b,c,?_,?_,hr⟩)
 ·
  have : o ++ kJ a b c = [97,110,121]:=congrArg (fun s => s.data.toList) e
  rw [this] at h46;exact absurd h46 (by decide)
 ·
  have : o ++ kJ a b c = [110,111,110,101]:=congrArg (fun s => s.data.toList) e
  rw [this] at h46;exact absurd h46 (by decide)
 ·
  rw [hlen,yE,zam]
  simpa using o2
 ·
  rw [hlen,yE,jM]
  have e : ((o ++ kJ a b c).drop o.length).take ((o ++ kJ a b c).length - o.length) = kJ a b c:=by
   rw [List.drop_left,List.take_of_length_le (by simp)]
  rw [e]
  exact zfc h
theorem zkO {l : List Spn} {n : Int} : l.any (inB n) = true ↔ inL l n:=by
 rw [List.any_eq_true]
 exact ⟨fun ⟨s,h1,h2⟩ => ⟨s,h1,zkM.1 h2⟩,fun ⟨s,h1,h2⟩ => ⟨s,h1,zkM.2 h2⟩⟩
instance inLDec (l : List Spn) (n : Int) : Decidable (inL l n):=decidable_of_iff (l.any (inB n) = true) zkO
theorem zpU {l : List Spn} {n : Int} : l.any (inB n) = decide (inL l n):=by
 rw [Bool.eq_iff_iff,zkO,decide_eq_true_iff]
theorem zp1 {l : List Spn} {a b c : Int} (h : zcG a b c) : zbE l a b c = decide (inL l (qx a b c)):=by
 unfold zbE
 rw [zd6 (by have:=h.a.1;omega) (by have:=h.a.2;omega),zd6 (by have:=h.b.1;omega) (by have:=h.b.2;omega),zd6 (by have:=h.c.1;omega) (by have:=h.c.2;omega),zpU]
 simp
def zdz (a b c x y z : Int) : Int:=if Lib.compareInt a x ≠ 0 then Lib.compareInt a x else if Lib.compareInt b y ≠ 0 then Lib.compareInt b y else Lib.compareInt c z
theorem jK (a b : Int) : (a < b ∧ Lib.compareInt a b = -1) ∨ (a = b ∧ Lib.compareInt a b = 0) ∨ (b < a ∧ Lib.compareInt a b = 1):=by
 unfold Lib.compareInt
 rcases Int.lt_trichotomy a b with h | h | h
 · left;refine ⟨h,?_⟩;(repeat' split) <;> first | rfl | (exfalso;omega)
 · right;left;refine ⟨h,?_⟩;(repeat' split) <;> first | rfl | (exfalso;omega)
 · right;right;refine ⟨h,?_⟩;(repeat' split) <;> first | rfl | (exfalso;omega)
set_option maxRecDepth 100000 in
set_option maxHeartbeats 4000000 in
theorem zhJ (p q : Nat) (a b c x y z : Int) (T T' : TypeId) (w : World) (hp : w.heap[p]? = some (.cells #[.int .i64 a,.int .i64 b,.int .i64 c] T (0,0))) (hq : w.heap[q]? = some (.cells #[.int .i64 x,.int .i64 y,.int .i64 z] T' (0,0))) :
 Calls Tryz.prog 172 #[.slice (some ⟨p,0,none⟩) 3 3,.slice (some ⟨q,0,none⟩) 3 3] w fun e w' => e = .returned (.int .i64 (zdz a b c x y z)) ∧ w' = w:=by
 obtain ⟨p0,p1,p2,_⟩:=cells3 hp
 obtain ⟨q0,q1,q2,_⟩:=cells3 hq
 have H0:=hid (kN a x w);have H1:=hid (kN b y w);have H2:=hid (kN c z w)
 have hres : ∀ r,r = zdz a b c x y z → r = (if Lib.compareInt a x ≠ 0 then Lib.compareInt a x else if Lib.compareInt b y ≠ 0 then Lib.compareInt b y else Lib.compareInt c z):=fun r h => h
 generalize hR : zdz a b c x y z = R at hres
 have Hres:=hid (hres R rfl)
 clear hres hR hp hq
 generalize Lib.compareInt a x = A at H0 Hres
 generalize Lib.compareInt b y = B at H1 Hres
 generalize Lib.compareInt c z = C at H2 Hres
 go_enter Tryz.func172,Tryz.ntmps172
 go_wp2_with fail
 go_loopg [11] 3 (fun gk i wr => ∃ k : Nat,k ≤ 3 ∧ gk = 3 - k ∧ i = .int .i64 k ∧ w = wr ∧ (0 < k → A = 0) ∧ (1 < k → B = 0) ∧ (2 < k → C = 0))
 case atStart => exact ⟨0,by omega,rfl,rfl,rfl,fun h => by omega,fun h => by omega,fun h => by omega⟩
 case round =>
  obtain ⟨k,hk,rfl,rfl,rfl,ia,ib,ic⟩:=hrel
  have Ia:=hid ia;have Ib:=hid ib;have Ic:=hid ic
  clear ia ib ic
  obtain rfl | rfl | rfl | rfl : k = 0 ∨ k = 1 ∨ k = 2 ∨ k = 3:=by omega
  ·
   by_cases hz : A = 0
   ·
    subst hz
    go_wp2_with fail
    refine H0.out.mono ?_
    rintro e w1 ⟨rfl,rfl⟩
    go_wp2_with fail
    go_roundg 2
    case measure => omega
    case rel => exact ⟨1,by omega,rfl,rfl,rfl,by simp,fun h => by omega,fun h => by omega⟩
   ·
    have t1 : (A != 0) = true:=by rw [bne_iff_ne];exact hz
    have Hz:=hid hz;clear hz
    have hr : R = A:=by rw [Hres.out,if_pos Hz.out]
    subst hr
    go_wp2_with fail
    refine H0.out.mono ?_
    rintro e w1 ⟨rfl,rfl⟩
    go_wp2_with fail
    go_ret
    exact ⟨rfl,rfl⟩
  ·
   have ha:=Ia.out (by omega)
   by_cases hz : B = 0
   ·
    subst hz
    clear ha
    go_wp2_with fail
    refine H1.out.mono ?_
    rintro e w1 ⟨rfl,rfl⟩
    go_wp2_with fail
    go_roundg 1
    case measure => omega
    case rel => exact ⟨2,by omega,rfl,rfl,rfl,fun _ => Ia.out (by omega),by simp,fun h => by omega⟩
   ·
    have t1 : (B != 0) = true:=by rw [bne_iff_ne];exact hz
    have Hz:=hid hz;clear hz
    have hr : R = B:=by rw [Hres.out,if_neg (by rw [ha];decide),if_pos Hz.out]
    clear ha
    subst hr
    go_wp2_with fail
    refine H1.out.mono ?_
    rintro e w1 ⟨rfl,rfl⟩
    go_wp2_with fail
    go_ret
    exact ⟨rfl,rfl⟩
  ·
   have ha:=Ia.out (by omega)
   have hb:=Ib.out (by omega)
   have hr : R = C:=by rw [Hres.out,if_neg (by rw [ha];decide),if_neg (by rw [hb];decide)]
   clear ha hb
   subst hr
   by_cases hz : R = 0
   ·
    subst hz
    go_wp2_with fail
    refine H2.out.mono ?_
    rintro e w1 ⟨rfl,rfl⟩
    go_wp2_with fail
    go_roundg 0
    case measure => omega
    case rel => exact ⟨3,by omega,rfl,rfl,rfl,fun _ => Ia.out (by omega),fun _ => Ib.out (by omega),by simp⟩
   ·
    have t1 : (R != 0) = true:=by rw [bne_iff_ne];exact hz
    clear hz
    go_wp2_with fail
    refine H2.out.mono ?_
    rintro e w1 ⟨rfl,rfl⟩
    go_wp2_with fail
    go_ret
    exact ⟨rfl,rfl⟩
  ·
   have ha:=Ia.out (by omega)
   have hb:=Ib.out (by omega)
   have hc:=Ic.out (by omega)
   have hr : R = 0:=by rw [Hres.out,if_neg (by rw [ha];decide),if_neg (by rw [hb];decide),hc]
   clear ha hb hc
   subst hr
   go_wp2_with fail
   go_ret
   exact ⟨rfl,rfl⟩
structure zm where
 kind : Int
 name : ByteArray
 va : Int
 vb : Int
 vc : Int
 other : ByteArray
 range : List Spn
 rv : Value
abbrev zA:=ByteArray × Int × Int × Int
def zm.item (x : zm) : zA:=(x.name,x.va,x.vb,x.vc)
def zac (c : UInt8) : Bool:=(97 ≤ c && c ≤ 122) || (48 ≤ c && c ≤ 57) || c == 45
def yP (s : ByteArray) : Bool :=
 decide (0 < s.size) && decide (s.size ≤ 12) && (match s.data.toList with | c :: _ => 97 ≤ c && c ≤ 122 | [] => false) && s.data.toList.all zac && !decide (s = zhZ) && !decide (s = zdN)
def ze1 (a b c : Int) : Bool:=decide ((0 ≤ a ∧ a ≤ 999) ∧ (0 ≤ b ∧ b ≤ 999) ∧ 0 ≤ c ∧ c ≤ 999)
theorem zh3 {a b c : Int} : ze1 a b c = true ↔ zcG a b c:=by
 unfold ze1
 rw [decide_eq_true_iff]
 exact ⟨fun ⟨h1,h2,h3⟩ => ⟨h1,h2,h3⟩,fun ⟨h1,h2,h3⟩ => ⟨h1,h2,h3⟩⟩
def zX (x : zm) : Int :=
 if x.kind < 1 ∨ 4 < x.kind then 1
 else if yP x.name = false ∨ ((x.kind = 2 ∨ x.kind = 3) ∧ yP x.other = false) then 5
 else if (¬ (x.kind = 2 ∨ x.kind = 3) ∧ x.other ≠ ByteArray.empty) ∨ (x.kind = 1 ∧ x.range ≠ []) ∨ (x.kind = 4 ∧ ¬ (x.va = 0 ∧ x.vb = 0 ∧ x.vc = 0)) then 1
 else if x.kind ≠ 4 ∧ ze1 x.va x.vb x.vc = false then 2
 else 0
def zM (ls : List zm) : List zA:=(ls.filter fun x => decide (x.kind = 1)).map zm.item
structure jW (ls : List zm) : Prop where
 few : ls.length ≤ 100
 check : ∀ x ∈ ls,zX x = 0
 twice : (zM ls).Nodup
 names : ∀ l : List ByteArray,l.Nodup → (∀ n ∈ l,∃ x ∈ ls,x.kind = 1 ∧ x.name = n) → l.length ≤ 8
 most : (zM ls).length ≤ 24
 there : ∀ x ∈ ls,x.kind = 2 ∨ x.kind = 3 → x.item ∈ zM ls
def ji (a b : zA) : Prop:=a.1.toList < b.1.toList ∨ (a.1 = b.1 ∧ zdz b.2.1 b.2.2.1 b.2.2.2 a.2.1 a.2.2.1 a.2.2.2 < 0)
structure zbu (ls : List zm) (items : List zA) : Prop extends jW ls where
 perm : items.Perm (zM ls)
 order : items.Pairwise ji
 canon : ∀ x ∈ ls,Canon x.range
def spT : List UInt8:=[32]
def zN (s : ByteArray) : ByteArray:=⟨(Lib.cut s.data.toList spT).1.toArray⟩
def zq (s : ByteArray) : ByteArray:=⟨(Lib.cut s.data.toList spT).2.1.toArray⟩
def zbD : ByteArray:=⟨#[112,97,99,107,97,103,101]⟩
def jo : ByteArray:=⟨#[110,101,101,100,115]⟩
def xU : ByteArray:=⟨#[99,108,97,115,104,101,115]⟩
def jE : ByteArray:=⟨#[114,111,111,116]⟩
def qK (s : ByteArray) (x : zm) : Prop :=
 x.name = zN (zq s) ∧
 ((x.kind = 1 ∧ zN s = zbD ∧ zaz (zN (zq (zq s))) x.va x.vb x.vc ∧ zq (zq (zq s)) = ByteArray.empty ∧ x.other = ByteArray.empty ∧ x.range = []) ∨
  (((x.kind = 2 ∧ zN s = jo) ∨ (x.kind = 3 ∧ zN s = xU)) ∧ zaz (zN (zq (zq s))) x.va x.vb x.vc ∧ x.other = zN (zq (zq (zq s))) ∧ (zq (zq (zq (zq s)))).size ≤ 1000 ∧ jG (zq (zq (zq (zq s)))) x.range) ∨
  (x.kind = 4 ∧ zN s = jE ∧ x.va = 0 ∧ x.vb = 0 ∧ x.vc = 0 ∧ x.other = ByteArray.empty ∧ (zq (zq s)).size ≤ 1000 ∧ jG (zq (zq s)) x.range))
def zm.same (x y : zm) : Prop:=x.kind = y.kind ∧ x.name = y.name ∧ x.va = y.va ∧ x.vb = y.vb ∧ x.vc = y.vc ∧ x.other = y.other ∧ x.range = y.range
theorem qK.one {s : ByteArray} {x y : zm} (h : qK s x) (h' : qK s y) : x.same y:=by
 obtain ⟨n1,h⟩:=h
 obtain ⟨n2,h'⟩:=h'
 have e12 : zbD ≠ jo:=by decide
 have e13 : zbD ≠ xU:=by decide
 have e14 : zbD ≠ jE:=by decide
 have e23 : jo ≠ xU:=by decide
 have e24 : jo ≠ jE:=by decide
 have e34 : xU ≠ jE:=by decide
 rcases h with ⟨k1,w1,v1,r1,o1,g1⟩ | ⟨kw1,v1,o1,r1,g1⟩ | ⟨k1,w1,a1,b1,c1,o1,r1,g1⟩ <;>
 rcases h' with ⟨k2,w2,v2,r2,o2,g2⟩ | ⟨kw2,v2,o2,r2,g2⟩ | ⟨k2,w2,a2,b2,c2,o2,r2,g2⟩
 ·
  obtain ⟨a,b,c⟩:=v1.one v2
  exact ⟨k1.trans k2.symm,n1.trans n2.symm,a,b,c,o1.trans o2.symm,g1.trans g2.symm⟩
 ·
  rcases kw2 with ⟨_,w2⟩ | ⟨_,w2⟩
  · exact absurd (w1.symm.trans w2) e12
  · exact absurd (w1.symm.trans w2) e13
 · exact absurd (w1.symm.trans w2) e14
 ·
  rcases kw1 with ⟨_,w1⟩ | ⟨_,w1⟩
  · exact absurd (w2.symm.trans w1) e12
  · exact absurd (w2.symm.trans w1) e13
 ·
  obtain ⟨a,b,c⟩:=v1.one v2
  refine ⟨?_,n1.trans n2.symm,a,b,c,o1.trans o2.symm,g1.one g2⟩
  rcases kw1 with ⟨k1,w1⟩ | ⟨k1,w1⟩ <;> rcases kw2 with ⟨k2,w2⟩ | ⟨k2,w2⟩
  · exact k1.trans k2.symm
  · exact absurd (w1.symm.trans w2) e23
  · exact absurd (w2.symm.trans w1) e23
  · exact k1.trans k2.symm
 ·
  rcases kw1 with ⟨_,w1⟩ | ⟨_,w1⟩
  · exact absurd (w1.symm.trans w2) e24
  · exact absurd (w1.symm.trans w2) e34
 · exact absurd (w2.symm.trans w1) e14
 ·
  rcases kw2 with ⟨_,w2⟩ | ⟨_,w2⟩
  · exact absurd (w2.symm.trans w1) e24
  · exact absurd (w2.symm.trans w1) e34
 · exact ⟨k1.trans k2.symm,n1.trans n2.symm,a1.trans a2.symm,b1.trans b2.symm,c1.trans c2.symm,o1.trans o2.symm,g1.one g2⟩
def xP {α : Type} (enc : α → List Value) (xs : List α) : List Value:=xs.flatMap enc
theorem za7 {α : Type} {enc : α → List Value} {z : Nat} (hz : ∀ x,(enc x).length = z) : ∀ xs : List α,(xP enc xs).length = xs.length * z
 | [] => by simp [xP]
 | x :: xs => by
  have:=za7 hz xs
  unfold xP at this ⊢
  rw [List.flatMap_cons,List.length_append,this,hz,List.length_cons,Nat.succ_mul,Nat.add_comm]
theorem zao {α : Type} (enc : α → List Value) (xs : List α) (x : α) : xP enc (xs ++ [x]) = xP enc xs ++ enc x:=by
 unfold xP;rw [List.flatMap_append];simp
theorem zec {α : Type} {enc : α → List Value} {z : Nat} (hz : ∀ x,(enc x).length = z) : ∀ (xs : List α) (k j : Nat) (h : k < xs.length),j < z → (xP enc xs)[k * z + j]? = (enc xs[k])[j]?
 | x :: xs,0,j,_,hj => by
  unfold xP
  rw [List.flatMap_cons,Nat.zero_mul,Nat.zero_add,List.getElem?_append_left (by rw [hz];exact hj)]
  rfl
 | x :: xs,k + 1,j,h,hj => by
  have ih:=zec hz xs k j (by simpa using h) hj
  unfold xP at ih ⊢
  rw [List.flatMap_cons,List.getElem?_append_right (by rw [hz,Nat.succ_mul];omega),hz,show (k + 1) * z + j - z = k * z + j by rw [Nat.succ_mul];omega,ih]
  rfl
def zo {α : Type} (w : World) (base : Nat) (T : TypeId) (z : Nat) (enc : α → List Value) (v : Value) (xs : List α) : Prop:=w.ownsRow base T z v xs.length (xP enc xs)
theorem zo.nil {α : Type} (w : World) (base : Nat) (T : TypeId) (z : Nat) (enc : α → List Value) : zo w base T z enc (.slice none 0 0) []:=⟨by simp [xP],.inl ⟨rfl,rfl⟩⟩
theorem zo.keep {α : Type} {w w' : World} {base : Nat} {T : TypeId} {z : Nat} {enc : α → List Value} {v : Value} {xs : List α} (h : zo w base T z enc v xs) (hk : ∀ b,v.ownBlock = some b → w'.heap[b]? = w.heap[b]?) : zo w' base T z enc v xs:=by
 obtain ⟨h0,h1 | ⟨g,cap,cur,e,h1,h2,h3⟩⟩:=h
 · exact ⟨h0,.inl h1⟩
 · refine ⟨h0,.inr ⟨g,cap,cur,e,h1,(hk g (by rw [e];rfl)).trans h2,h3⟩⟩
theorem zo.lt {α : Type} {w : World} {base : Nat} {T : TypeId} {z : Nat} {enc : α → List Value} {v : Value} {xs : List α} (h : zo w base T z enc v xs) {b : Nat} (hb : v.ownBlock = some b) : base ≤ b ∧ b < w.heap.size:=World.ownsRow.lt h b hb
theorem zo.below {α : Type} {w w' : World} {base : Nat} {T : TypeId} {z : Nat} {enc : α → List Value} {v : Value} {xs : List α} (h : zo w base T z enc v xs) (hb : Below w.heap.size w w') : zo w' base T z enc v xs :=
 h.keep (fun b e => hb.block b (h.lt e).2)
theorem zo.less {α : Type} {w : World} {base base' : Nat} {T : TypeId} {z : Nat} {enc : α → List Value} {v : Value} {xs : List α} (h : zo w base T z enc v xs) (hb : base' ≤ base) : zo w base' T z enc v xs:=by
 obtain ⟨h0,h1 | ⟨g,cap,cur,e,h1,h2,h3⟩⟩:=h
 · exact ⟨h0,.inl h1⟩
 · exact ⟨h0,.inr ⟨g,cap,cur,e,by omega,h2,h3⟩⟩
theorem zo.shape {α : Type} {w : World} {base : Nat} {T : TypeId} {z : Nat} {enc : α → List Value} {v : Value} {xs : List α} (h : zo w base T z enc v xs) : ∃ a c,v = .slice a xs.length c ∧ xs.length ≤ c ∧ c ≤ 9223372036854775807:=by
 obtain ⟨h0,⟨h1,h2⟩ | ⟨g,cap,cur,e,h1,h2,h3,h4,h5⟩⟩:=h
 · exact ⟨none,0,by rw [h2];exact h1,by omega,by omega⟩
 · exact ⟨some ⟨g,0,none⟩,cap,e,h3,by unfold maxLen at h4;omega⟩
theorem zo.at {α : Type} {w : World} {base : Nat} {T : TypeId} {z : Nat} {enc : α → List Value} {a : Option Addr} {n c : Nat} {xs : List α} (h : zo w base T z enc (.slice a n c) xs) (hne : 0 < xs.length) : ∃ g,a = some ⟨g,0,none⟩ ∧ g < w.heap.size ∧ base ≤ g:=by
 obtain ⟨h0,⟨h1,h2⟩ | ⟨g,cap,cur,e,h1,h2,h3,h4,h5⟩⟩:=h
 · omega
 ·
  cases e
  exact ⟨g,rfl,(Array.getElem?_eq_some_iff.1 h2).1,h1⟩
theorem zo.cell {α : Type} {w : World} {base : Nat} {T : TypeId} {z : Nat} {enc : α → List Value} {g n c : Nat} {xs : List α} (hz : ∀ x,(enc x).length = z) (h : zo w base T z enc (.slice (some ⟨g,0,none⟩) n c) xs) {k j : Nat} (hk : k < xs.length) (hj : j < z) {u : Value} (hu : (enc xs[k])[j]? = some u) : w.cell? ⟨g,k * z + j,none⟩ = some u:=by
 obtain ⟨h0,⟨h1,h2⟩ | ⟨g',cap,cur,e,h1,h2,h3,h4,h5,h6⟩⟩:=h
 · cases h1
 ·
  cases e
  rw [cell_of_row w g _ cur _ _ h2]
  have hlt : k * z + j < xs.length * z:=by
   have : (k + 1) * z ≤ xs.length * z:=Nat.mul_le_mul_right _ hk
   rw [Nat.succ_mul] at this;omega
  have e1:=zec hz xs k j hk hj
  rw [← h6,List.getElem?_take_of_lt hlt,Array.getElem?_toList] at e1
  rw [e1,hu]
theorem zo.free {α : Type} {w : World} {base : Nat} {T : TypeId} {z : Nat} {enc : α → List Value} {g n c : Nat} {xs : List α} (h : zo w base T z enc (.slice (some ⟨g,0,none⟩) n c) xs) (k : Nat) : w.frozen? ⟨g,k,none⟩ = false:=by
 obtain ⟨h0,⟨h1,h2⟩ | ⟨g',cap,cur,e,h1,h2,h3,h4,h5,h6⟩⟩:=h
 · cases h1
 ·
  cases e
  simp [World.frozen?,h2]
set_option maxHeartbeats 1000000 in
theorem zeW {α : Type} {W : World} {ops : Array Oper} {rest : List Oper} {o : Oper} {a : Act} {Q : Exit → Act → World → Prop} (hgd : o.guard = none) (s x : Operand) (T S : TypeId) (z bytes : Nat) (enc : α → List Value) (hz : ∀ x,(enc x).length = z) (h1 : ∀ x,∀ u ∈ enc x,u.oneCell' = true)
 (ho : o.op = .call { callee:=.builtin .append,args:=#[s,x],argTypes:=#[S,S] })
 (i : TypeInfo) (zv : Value) (hu : Tryz.prog.underlying S = some (.slice T)) (hi : Tryz.prog.info? T = some i) (hzero : i.zero = some zv) (hsize : i.size = z) (hby : i.bytes = bytes) (hzs : zv.cells.size = z) (hzp : 0 < z) (hbb : bytes ≤ 1000)
 (base : Nat) (v : Value) (xs : List α) (hs : a.eval s = v) (hr : zo W base T z enc v xs) (y : α) (cs : Array Value) (hcs : cs.toList = enc y)
 (q : Nat) (hq : q = W.heap.size) (hx : a.eval x = .slice (some ⟨q,0,none⟩) 1 1) (hn : xs.length + 1 ≤ 1000000) (hbase : base ≤ W.heap.size)
 (h : ∀ v' w',zo w' base T z enc v' (xs ++ [y]) → Below base W w' → (∀ k,k < W.heap.size → v.ownBlock ≠ some k → w'.heap[k]? = W.heap[k]?) → wpList Tryz.prog ops Q rest (a.put o.dst v') w') : wpList Tryz.prog ops Q (o :: rest) a (W.alloc (.cells cs T)):=by
 subst hq
 have hal : Below W.heap.size W (W.alloc (.cells cs T)):=zba
 have hb : (W.alloc (.cells cs T)).heap[W.heap.size]? = some (.cells cs T (0,0)):=za rfl
 have hcell : ∀ (j : Nat) (u' : Value),(enc y)[j]? = some u' → (W.alloc (.cells cs T)).cell? ((⟨W.heap.size,0,none⟩ : Addr).add j) = some u':=by
  intro j u' hu
  rw [show (⟨W.heap.size,0,none⟩ : Addr).add j = ⟨W.heap.size,j,none⟩ from by simp [Addr.add];exact fun h => h.symm,cell_of_row _ _ _ _ _ _ hb,← hu,← hcs]
  simp
 have hr':=hr.below hal
 have hb2 : (xs.length + 1) * bytes ≤ 140737488355328:=by
  have : (xs.length + 1) * bytes ≤ 1000000 * 1000:=Nat.mul_le_mul hn hbb
  omega
 refine wpList_append_own _ hgd s x S ho base T i zv z bytes hu hi hzero hsize hby hzs hzp v xs.length _ hs hr' ⟨W.heap.size,0,none⟩ 1 1 (enc y) hx (by rw [hz];omega) hcell (h1 y) (by simp only [maxLen];omega) hb2 (by simp;omega) (fun v' w' h2 h3 _ => ?_)
 refine h v' w' ?_ ?_ (fun k hk hne => (h3.block k (by simp;omega) (fun e => hne e.symm)).trans (hal.block k hk))
 ·
  unfold zo
  rw [zao,List.length_append]
  exact h2
 · exact (hal.mono hbase).grown h3 (by simp;omega) (fun j hj => (hr'.lt hj).1)
set_option maxHeartbeats 1000000 in
theorem zgr {α : Type} {W : World} {ops : Array Oper} {o : Oper} {a : Act} {K : Act → World → Prop} {Q : Exit → Act → World → Prop} {E : Prop} (hgd : o.guard = none) (s x : Operand) (T S : TypeId) (z bytes : Nat) (enc : α → List Value) (hz : ∀ x,(enc x).length = z) (y : α) (h1 : ∀ u ∈ enc y,u.oneCell' = true)
 (ho : o.op = .call { callee:=.builtin .append,args:=#[s,x],argTypes:=#[S,S] })
 (i : TypeInfo) (zv : Value) (hu : Tryz.prog.underlying S = some (.slice T)) (hi : Tryz.prog.info? T = some i) (hzero : i.zero = some zv) (hsize : i.size = z) (hby : i.bytes = bytes) (hzs : zv.cells.size = z) (hzp : 0 < z) (hbb : bytes ≤ 1000)
 (base : Nat) (v : Value) (xs : List α) (hs : a.eval s = v) (hr : zo W base T z enc v xs) (cs : Array Value) (hcs : cs.toList = enc y)
 (q : Nat) (hq : q = W.heap.size) (hx : a.eval x = .slice (some ⟨q,0,none⟩) 1 1) (hn : xs.length + 1 ≤ 1000000) (hbase : base ≤ W.heap.size)
 (h : ∀ g cap w',zo w' base T z enc (.slice (some ⟨g,0,none⟩) (xs.length + 1) cap) (xs ++ [y]) → Below base W w' → (∀ k,k < W.heap.size → v.ownBlock ≠ some k → w'.heap[k]? = W.heap[k]?) → base ≤ g → (v.ownBlock = some g ∨ W.heap.size ≤ g) → K (a.put o.dst (.slice (some ⟨g,0,none⟩) (xs.length + 1) cap)) w') :
 if Region.wanted o (yielded ops a.tmps) = true then Oper.wp Tryz.prog o a (W.alloc (.cells cs T)) K Q else E:=by
 subst hq
 have hal : Below W.heap.size W (W.alloc (.cells cs T)):=zba
 have hb : (W.alloc (.cells cs T)).heap[W.heap.size]? = some (.cells cs T (0,0)):=za rfl
 have hr':=hr.below hal
 have hb2 : (xs.length + 1) * bytes ≤ 140737488355328:=by
  have : (xs.length + 1) * bytes ≤ 1000000 * 1000:=Nat.mul_le_mul hn hbb
  omega
 refine step_append_lies _ hgd s x S ho base T i zv z bytes hu hi hzero hsize hby hzs hzp v xs.length _ hs hr' ⟨W.heap.size,0,none⟩ 1 1 (enc y) hx (by rw [hz];omega) (fun j u hu => World.news_of_block hb j u (by rw [hcs];exact hu)) h1 (by decide) (by simp only [maxLen];omega) hb2 (by simp;omega) _ rfl (fun g cap w' h2 h3 h4 _ => ?_)
 have hbg : base ≤ g:=by
  rcases h2.2 with ⟨e,_⟩ | ⟨g',cap',cur,e,q1,_⟩
  · cases e
  · cases e;exact q1
 refine h g cap w' ?_ ?_ (fun k hk hne => (h3.block k (by simp;omega) (fun e => hne e.symm)).trans (hal.block k hk)) hbg ?_
 ·
  unfold zo
  rw [zao,List.length_append]
  exact h2
 · exact (hal.mono hbase).grown h3 (by simp;omega) (fun j hj => (hr'.lt hj).1)
 ·
  rcases h4 with h4 | h4
  · exact .inl h4
  · rw [zy] at h4;exact .inr (by omega)
def zT (x : zm) : List Value:=[.int .i64 x.kind,.string x.name,.int .i64 x.va,.int .i64 x.vb,.int .i64 x.vc,.string x.other,x.rv]
def yj (x : zA) : List Value:=[.string x.1,.int .i64 x.2.1,.int .i64 x.2.2.1,.int .i64 x.2.2.2]
theorem y9 (x : zm) : (zT x).length = 7:=rfl
theorem yO (x : zA) : (yj x).length = 4:=rfl
structure zaq (w : World) (x : zm) : Prop where
 rng : yx w x.rv x.range
 few : x.range.length ≤ 7000
 can : Canon x.range
 sz1 : x.name.size ≤ 9223372036854775807
 sz2 : x.other.size ≤ 9223372036854775807
theorem zaq.below {w w' : World} {x : zm} (h : zaq w x) (hb : Below w.heap.size w w') : zaq w' x:=⟨h.rng.below hb,h.few,h.can,h.sz1,h.sz2⟩
structure xC (w : World) (base : Nat) (v : Value) (ls : List zm) : Prop where
 row : zo w base 77 7 zT v ls
 ins : ∀ x ∈ ls,zaq w x
theorem xC.below {w w' : World} {base : Nat} {v : Value} {ls : List zm} (h : xC w base v ls) (hb : Below w.heap.size w w') : xC w' base v ls:=⟨h.row.below hb,fun x hx => (h.ins x hx).below hb⟩
theorem xC.nil (w : World) (base : Nat) : xC w base (.slice none 0 0) []:=⟨zo.nil _ _ _ _ _,fun x hx => by cases hx⟩
theorem xC.less {w : World} {base base' : Nat} {v : Value} {ls : List zm} (h : xC w base v ls) (hb : base' ≤ base) : xC w base' v ls:=⟨h.row.less hb,h.ins⟩
def z8 (w : World) (base : Nat) (v : Value) (items : List zA) : Prop:=zo w base 94 4 yj v items
theorem z8.below {w w' : World} {base : Nat} {v : Value} {items : List zA} (h : z8 w base v items) (hb : Below w.heap.size w w') : z8 w' base v items:=zo.below h hb
theorem z8.nil (w : World) (base : Nat) : z8 w base (.slice none 0 0) []:=zo.nil _ _ _ _ _
theorem z8.cells {w : World} {base g n c : Nat} {items : List zA} (h : z8 w base (.slice (some ⟨g,0,none⟩) n c) items) {k : Nat} (hk : k < items.length) :
 w.cell? ⟨g,k * 4,none⟩ = some (.string items[k].1) ∧ w.cell? ⟨g,k * 4 + 1,none⟩ = some (.int .i64 items[k].2.1) ∧ w.cell? ⟨g,k * 4 + 2,none⟩ = some (.int .i64 items[k].2.2.1) ∧ w.cell? ⟨g,k * 4 + 3,none⟩ = some (.int .i64 items[k].2.2.2) :=
 ⟨zo.cell yO h hk (j:=0) (by decide) rfl,zo.cell yO h hk (j:=1) (by decide) rfl,zo.cell yO h hk (j:=2) (by decide) rfl,zo.cell yO h hk (j:=3) (by decide) rfl⟩
theorem xC.cells {w : World} {base g n c : Nat} {ls : List zm} (h : xC w base (.slice (some ⟨g,0,none⟩) n c) ls) {k : Nat} (hk : k < ls.length) :
 w.cell? ⟨g,k * 7,none⟩ = some (.int .i64 ls[k].kind) ∧ w.cell? ⟨g,k * 7 + 1,none⟩ = some (.string ls[k].name) ∧ w.cell? ⟨g,k * 7 + 2,none⟩ = some (.int .i64 ls[k].va) ∧ w.cell? ⟨g,k * 7 + 3,none⟩ = some (.int .i64 ls[k].vb) ∧ w.cell? ⟨g,k * 7 + 4,none⟩ = some (.int .i64 ls[k].vc) ∧
 w.cell? ⟨g,k * 7 + 5,none⟩ = some (.string ls[k].other) ∧ w.cell? ⟨g,k * 7 + 6,none⟩ = some ls[k].rv :=
 ⟨zo.cell y9 h.row hk (j:=0) (by decide) rfl,zo.cell y9 h.row hk (j:=1) (by decide) rfl,zo.cell y9 h.row hk (j:=2) (by decide) rfl,zo.cell y9 h.row hk (j:=3) (by decide) rfl,zo.cell y9 h.row hk (j:=4) (by decide) rfl,zo.cell y9 h.row hk (j:=5) (by decide) rfl,zo.cell y9 h.row hk (j:=6) (by decide) rfl⟩
structure zds (w : World) (p : Nat) (vl vi : Value) (ls : List zm) (items : List zA) : Prop where
 box : w.heap[p]? = some (.cells #[vl,vi] 142 (0,0))
 lines : xC w 0 vl ls
 its : z8 w 0 vi items
def zbP (w : World) (p : Nat) (ls : List zm) (items : List zA) : Prop:=zbu ls items ∧ ∃ vl vi,zds w p vl vi ls items
theorem zds.below {w w' : World} {p : Nat} {vl vi : Value} {ls : List zm} {items : List zA} (h : zds w p vl vi ls items) (hb : Below w.heap.size w w') : zds w' p vl vi ls items :=
 ⟨(hb.block _ (zlb h.box)).trans h.box,h.lines.below hb,h.its.below hb⟩
theorem zbP.below {w w' : World} {p : Nat} {ls : List zm} {items : List zA} (h : zbP w p ls items) (hb : Below w.heap.size w w') : zbP w' p ls items:=by
 obtain ⟨h0,vl,vi,h⟩:=h
 exact ⟨h0,vl,vi,h.below hb⟩
theorem ko {w : World} {p : Nat} {a b : Value} {T : TypeId} (h : w.heap[p]? = some (.cells #[a,b] T (0,0))) : w.cell? ⟨p,0,none⟩ = some a ∧ w.cell? ⟨p,1,none⟩ = some b ∧ w.frozen? ⟨p,0,none⟩ = false ∧ w.frozen? ⟨p,1,none⟩ = false:=by
 refine ⟨?_,?_,?_,?_⟩
 · rw [cell_of_row w p _ _ _ _ h];rfl
 · rw [cell_of_row w p _ _ _ _ h];rfl
 all_goals simp [World.frozen?,h]
def vT (n : Int) : List UInt8:=kJ (n / 1000 / 1000) (n / 1000 % 1000) (n % 1000)
theorem zbz {n : Int} (h : 0 ≤ n ∧ n < zU) : zcG (n / 1000 / 1000) (n / 1000 % 1000) (n % 1000) ∧ qx (n / 1000 / 1000) (n / 1000 % 1000) (n % 1000) = n:=by
 unfold zU at h
 unfold qx
 exact ⟨⟨by omega,by omega,by omega⟩,by omega⟩
def zc8 (s : Spn) : List (List UInt8) :=
 if s.2 = s.1 + 1 then [vT s.1] else if 0 < s.1 ∧ s.2 < zU then [[62,61] ++ vT s.1,[60] ++ vT s.2] else if 0 < s.1 then [[62,61] ++ vT s.1] else if s.2 < zU then [[60] ++ vT s.2] else [[97,110,121]]
def zai (s : Spn) : List UInt8:=Lib.join (zc8 s) [32]
def orS : List UInt8:=[32,124,124,32]
def zaM (l : List Spn) : List UInt8:=if l = [] then [110,111,110,101] else Lib.join (l.map zai) orS
def zkD (l : List UInt8) : Prop:=l ≠ [] ∧ ∀ x ∈ l,x ≠ 32 ∧ x ≠ 124
theorem zaT {o : List UInt8} {n : Int} (ho : ∀ c ∈ o,c ≠ 32 ∧ c ≠ 124) (h : 0 ≤ n ∧ n < zU) : zkD (o ++ vT n):=by
 refine ⟨by unfold vT kJ;simp,fun x hx => ?_⟩
 rcases List.mem_append.1 hx with q | q
 · exact ho x q
 ·
  rcases zjs (zbz h).1 x q with rfl | q
  · decide
  · exact ⟨(zbm q).2.1,(zbm q).2.2.1⟩
theorem zfK {s : Spn} (h : zat s) : (∀ l ∈ zc8 s,zkD l) ∧ (∃ A,zc8 s = [A] ∨ ∃ B,zc8 s = [A,B]):=by
 obtain ⟨h1,h2,h3⟩:=h
 unfold zc8
 split
 · exact ⟨fun l hl => by rw [List.mem_singleton.1 hl];exact zaT (o:=[]) (fun c hc => by cases hc) ⟨h1,by omega⟩,_,.inl rfl⟩
 ·
  split
  ·
   refine ⟨fun l hl => ?_,_,.inr ⟨_,rfl⟩⟩
   rcases List.mem_cons.1 hl with rfl | hl
   · exact zaT (by decide) ⟨h1,by omega⟩
   · rw [List.mem_singleton.1 hl];exact zaT (by decide) ⟨by omega,by omega⟩
  ·
   split
   · exact ⟨fun l hl => by rw [List.mem_singleton.1 hl];exact zaT (by decide) ⟨h1,by omega⟩,_,.inl rfl⟩
   ·
    split
    · exact ⟨fun l hl => by rw [List.mem_singleton.1 hl];exact zaT (by decide) ⟨by omega,by omega⟩,_,.inl rfl⟩
    · exact ⟨fun l hl => by rw [List.mem_singleton.1 hl];exact ⟨by decide,by decide⟩,_,.inl rfl⟩
theorem zdF {k : Nat} {n : Int} {s : Spn} (hk : k ≠ 1) (h : 0 ≤ n ∧ n < zU) (hs : zat s) (he : jy k (n / 1000 / 1000) (n / 1000 % 1000) (n % 1000) = s) : OpR k (n / 1000 / 1000) (n / 1000 % 1000) (n % 1000) [s] :=
 ⟨⟨fun t ht => by rw [List.mem_singleton.1 ht];exact hs,List.pairwise_singleton _ _⟩,fun m => by rw [if_neg hk,he,qG]⟩
theorem zes {s : Spn} (h : zat s) : Canon [s]:=⟨fun t ht => by rw [List.mem_singleton.1 ht];exact h,List.pairwise_singleton _ _⟩
theorem kY {l : List UInt8} {s : Spn} (hs : zat s) (h : za4 (zQ l) [s]) : qE [l] [s] :=
 qE.snoc (ws:=[]) qE.nil h ⟨zes hs,fun n => ⟨fun q => ⟨qG.2 ((zes hs).bound q),q⟩,fun q => q.2⟩⟩
theorem ziO {s : Spn} (h : zat s) : qE (zc8 s) [s]:=by
 have hW:=h
 obtain ⟨h1,h2,h3⟩:=h
 unfold zc8
 split
 ·
  rename_i e
  refine kY hW (zb6 (o:=[]) (k:=0) (by decide) (zbz ⟨h1,by omega⟩).1 (zdF (by decide) ⟨h1,by omega⟩ hW ?_))
  have:=(zbz (n:=s.1) ⟨h1,by omega⟩).2
  unfold jy
  simp [this]
  exact Prod.ext rfl e.symm
 ·
  split
  ·
   rename_i _ e
   have e1:=(zbz (n:=s.1) ⟨h1,by omega⟩).2
   have e2:=(zbz (n:=s.2) ⟨by omega,e.2⟩).2
   have w1 : zat (s.1,zU):=⟨h1,by omega,Int.le_refl _⟩
   have w2 : zat (0,s.2):=⟨Int.le_refl _,by simp only;omega,h3⟩
   have g1:=zb6 (o:=[62,61]) (k:=5) (r:=[(s.1,zU)]) (by decide) (zbz (n:=s.1) ⟨h1,by omega⟩).1 (zdF (by decide) ⟨h1,by omega⟩ w1 (by unfold jy;simp [e1]))
   have g2:=zb6 (o:=[60]) (k:=2) (r:=[(0,s.2)]) (by decide) (zbz (n:=s.2) ⟨by omega,e.2⟩).1 (zdF (by decide) ⟨by omega,e.2⟩ w2 (by unfold jy;simp [e2]))
   refine qE.snoc (ws:=[_]) (kY w1 g1) g2 ⟨zes hW,fun n => ?_⟩
   rw [qG,qG,qG]
   unfold inS
   simp only
   omega
  ·
   split
   ·
    rename_i e0 e
    have e1:=(zbz (n:=s.1) ⟨h1,by omega⟩).2
    refine kY hW (zb6 (o:=[62,61]) (k:=5) (by decide) (zbz ⟨h1,by omega⟩).1 (zdF (by decide) ⟨h1,by omega⟩ hW ?_))
    unfold jy
    simp [e1]
    exact Prod.ext rfl (by simp only;omega)
   ·
    split
    ·
     rename_i e
     have e2:=(zbz (n:=s.2) ⟨by omega,e⟩).2
     refine kY hW (zb6 (o:=[60]) (k:=2) (by decide) (zbz ⟨by omega,e⟩).1 (zdF (by decide) ⟨by omega,e⟩ hW ?_))
     unfold jy
     simp [e2]
     exact Prod.ext (by simp only;omega) rfl
    ·
     refine kY hW (.inl ⟨rfl,?_⟩)
     rw [show s = (0,zU) from Prod.ext (by simp only;omega) (by simp only;omega)]
theorem zei {A R : List UInt8} (h : zkD A) : words (A ++ 32 :: R) = A :: words R:=by
 obtain ⟨hne,h⟩:=h
 cases A with
 | nil => exact absurd rfl hne
 | cons c r =>
  have hb : ∀ x ∈ c :: r,nb x = true:=fun x hx => by unfold nb;simpa using (h x hx).1
  rw [List.cons_append,zc5 (hb c (List.mem_cons_self ..))]
  have e1 : (r ++ 32 :: R).takeWhile nb = r:=zaL (fun x hx => hb x (List.mem_cons_of_mem _ hx)) (fun x hx => by simp at hx;subst hx;rfl)
  have e2 : (r ++ 32 :: R).dropWhile nb = 32 :: R:=by
   have:=List.takeWhile_append_dropWhile (p:=nb) (l:=r ++ 32 :: R)
   rw [e1] at this
   exact List.append_cancel_left this
  rw [e1,e2,zbW]
theorem zjB {s : Spn} (h : zat s) {pre post : List UInt8} (hp : pre = [] ∨ pre = [32]) (hq : post = [] ∨ post = [32]) : words (pre ++ zai s ++ post) = zc8 s:=by
 have hpre : words (pre ++ zai s ++ post) = words (zai s ++ post):=by
  rcases hp with rfl | rfl
  · rfl
  · exact zbW _
 rw [hpre]
 obtain ⟨hok,A,e | ⟨B,e⟩⟩:=zfK h
 ·
  unfold zai
  rw [e] at hok ⊢
  rw [Lib.join_one]
  rcases hq with rfl | rfl
  · rw [List.append_nil];exact zgH (hok A (by simp)).1 (fun x hx => by unfold nb;simpa using ((hok A (by simp)).2 x hx).1)
  · rw [zei (hok A (by simp)),zcu]
 ·
  unfold zai
  rw [e] at hok ⊢
  have ej : Lib.join [A,B] [32] = A ++ 32 :: B:=by simp [Lib.join,List.intercalate,List.intersperse]
  rw [ej,List.append_assoc,List.cons_append,zei (hok A (by simp))]
  congr 1
  rcases hq with rfl | rfl
  · rw [List.append_nil];exact zgH (hok B (by simp)).1 (fun x hx => by unfold nb;simpa using ((hok B (by simp)).2 x hx).1)
  · rw [zei (hok B (by simp)),zcu]
theorem zeA {s : Spn} (h : zat s) {pre post : List UInt8} (hp : pre = [] ∨ pre = [32]) (hq : post = [] ∨ post = [32]) : jd (pre ++ zai s ++ post) [s]:=by
 unfold jd
 rw [zjB h hp hq]
 refine ⟨?_,ziO h⟩
 obtain ⟨_,A,e | ⟨B,e⟩⟩:=zfK h <;> rw [e] <;> simp
theorem zf4 {s : Spn} (h : zat s) : ∀ y ∈ zai s,y ≠ 124:=by
 obtain ⟨hok,A,e | ⟨B,e⟩⟩:=zfK h
 ·
  unfold zai
  rw [e] at hok ⊢
  rw [Lib.join_one]
  exact fun y hy => ((hok A (by simp)).2 y hy).2
 ·
  unfold zai
  rw [e] at hok ⊢
  have ej : Lib.join [A,B] [32] = A ++ 32 :: B:=by simp [Lib.join,List.intercalate,List.intersperse]
  rw [ej]
  intro y hy
  rcases List.mem_append.1 hy with q | q
  · exact ((hok A (by simp)).2 y q).2
  ·
   rcases List.mem_cons.1 q with rfl | q
   · decide
   · exact ((hok B (by simp)).2 y q).2
theorem zii {R : List UInt8} : ∀ {A : List UInt8},(∀ y ∈ A,y ≠ 124) → Lib.index (A ++ 124 :: 124 :: R) [124,124] = (A.length : Int)
 | [],_ => by
  show (if ([124,124] : List UInt8).isPrefixOf (124 :: 124 :: R) then (0 : Int) else _) = _
  rw [if_pos (by simp [List.isPrefixOf])]
  rfl
 | y :: A,h => by
  have hy : y ≠ 124:=h y (List.mem_cons_self ..)
  have ih:=zii (R:=R) (A:=A) (fun z hz => h z (List.mem_cons_of_mem _ hz))
  show (if ([124,124] : List UInt8).isPrefixOf (y :: (A ++ 124 :: 124 :: R)) then (0 : Int) else if Lib.index (A ++ 124 :: 124 :: R) [124,124] == -1 then -1 else Lib.index (A ++ 124 :: 124 :: R) [124,124] + 1) = _
  rw [if_neg (by simp [List.isPrefixOf,Ne.symm hy]),ih,if_neg (by rw [beq_iff_eq];omega)]
  simp
theorem zmc {A R : List UInt8} (h : ∀ y ∈ A,y ≠ 124) : pieces (zQ (A ++ 124 :: 124 :: R)) = zQ A :: pieces (zQ R):=by
 have hi : Lib.indexB (zQ (A ++ 124 :: 124 :: R)) orB = (A.length : Nat):=zii h
 have e0 : (zQ (A ++ 124 :: 124 :: R)).extract 0 A.length = zQ A:=by rw [yE];simp
 have e2 : (zQ (A ++ 124 :: 124 :: R)).extract (A.length + orB.size) (zQ (A ++ 124 :: 124 :: R)).size = zQ R:=by
  have hs : orB.size = 2:=rfl
  rw [hs,yE,jM]
  congr 1
  rw [List.take_of_length_le (by simp;omega)]
  rw [show A.length + 2 = (A ++ [124,124]).length by simp,show A ++ 124 :: 124 :: R = (A ++ [124,124]) ++ R by simp,List.drop_left]
 unfold pieces
 rw [Lib.countB_hit _ _ _ (by decide) hi,e2,Nat.add_comm 1,Lib.splitB_hit _ _ _ _ _ hi,e2,Nat.add_zero,e0]
theorem q8.cons {p : List UInt8} {ps : List (List UInt8)} {s : Spn} {l : List Spn} (hp : jd p [s]) (h : q8 ps l) (hc : Canon (s :: l)) : q8 (p :: ps) (s :: l):=by
 refine ⟨hc,fun q hq => ?_,fun n => ?_⟩
 ·
  rcases List.mem_cons.1 hq with rfl | hq
  · exact ⟨_,hp⟩
  · exact h.all q hq
 ·
  rw [yV,h.mem]
  constructor
  ·
   rintro (q | ⟨q,hq,x,hx,hn⟩)
   · exact ⟨p,List.mem_cons_self ..,[s],hp,qG.2 q⟩
   · exact ⟨q,List.mem_cons_of_mem _ hq,x,hx,hn⟩
  ·
   rintro ⟨q,hq,x,hx,hn⟩
   rcases List.mem_cons.1 hq with rfl | hq
   · rw [hx.one hp] at hn;exact .inl (qG.1 hn)
   · exact .inr ⟨q,hq,x,hx,hn⟩
theorem zfO : ∀ (l : List Spn) (s : Spn) (pre : List UInt8),(pre = [] ∨ pre = [32]) → Canon (s :: l) → jG (zQ (pre ++ Lib.join ((s :: l).map zai) orS)) (s :: l)
 | [],s,pre,hp,hc => by
  have hW:=hc.ok s (List.mem_cons_self ..)
  rw [List.map_cons,List.map_nil,Lib.join_one]
  refine jG.zcs (index_none (fun y hy => ?_)) ?_ hc
  ·
   rcases List.mem_append.1 hy with q | q
   ·
    rcases hp with rfl | rfl
    · cases q
    · rw [List.mem_singleton.1 q];decide
   · exact zf4 hW y q
  ·
   have:=zeA hW (post:=[]) hp (.inl rfl)
   rw [List.append_nil] at this
   exact this
 | t :: l,s,pre,hp,hc => by
  have hW:=hc.ok s (List.mem_cons_self ..)
  have ih:=zfO l t [32] (.inr rfl) hc.tail
  have e : pre ++ Lib.join ((s :: t :: l).map zai) orS = (pre ++ zai s ++ [32]) ++ 124 :: 124 :: ([32] ++ Lib.join ((t :: l).map zai) orS):=by
   simp [Lib.join,List.intercalate,orS]
  unfold jG
  rw [e,zmc,List.map_cons]
  · exact q8.cons (zeA hW hp (.inr rfl)) ih hc
  ·
   intro y hy
   rcases List.mem_append.1 hy with q | q
   ·
    rcases List.mem_append.1 q with q | q
    ·
     rcases hp with rfl | rfl
     · cases q
     · rw [List.mem_singleton.1 q];decide
    · exact zf4 hW y q
   · rw [List.mem_singleton.1 q];decide
theorem ziL {l : List Spn} (hc : Canon l) : jG (zQ (zaM l)) l:=by
 unfold zaM
 cases l with
 | nil =>
  rw [if_pos rfl]
  refine jG.zcs (by decide) ?_ Canon.nil
  have hw : words [110,111,110,101] = [[110,111,110,101]]:=by decide
  rw [zam]
  unfold jd
  rw [hw]
  refine ⟨by simp,qE.snoc (ws:=[]) qE.nil (x:=[]) (.inr (.inl ⟨rfl,rfl⟩)) ⟨Canon.nil,fun n => ⟨fun q => absurd q (zbt n),fun q => q.2⟩⟩⟩
 | cons s l =>
  rw [if_neg (by simp)]
  exact zfO l s [] (.inl rfl) hc
theorem yC {A R : List UInt8} (h : ∀ y ∈ A,y ≠ 32) : zN (zQ (A ++ 32 :: R)) = zQ A ∧ zq (zQ (A ++ 32 :: R)) = zQ R:=by
 have hi:=kX (R:=R) h
 unfold zN zq
 rw [zam]
 unfold Lib.cut spT
 rw [hi,if_pos (by omega)]
 constructor
 · simp [zQ]
 ·
  rw [show ((A.length : Int)).toNat + [(32 : UInt8)].length = (A ++ [(32 : UInt8)]).length by simp,show A ++ 32 :: R = (A ++ [32]) ++ R by simp,List.drop_left]
  rfl
theorem ziJ {A : List UInt8} (h : ∀ y ∈ A,y ≠ 32) : zN (zQ A) = zQ A ∧ zq (zQ A) = ByteArray.empty:=by
 have hi:=index_none (sub:=[]) h
 unfold zN zq
 rw [zam]
 unfold Lib.cut spT
 rw [hi,if_neg (by decide)]
 exact ⟨rfl,rfl⟩
def zg5 (x : zm) : List UInt8 :=
 if x.kind = 1 then zbD.data.toList ++ 32 :: (x.name.data.toList ++ 32 :: kJ x.va x.vb x.vc)
 else if x.kind = 2 then jo.data.toList ++ 32 :: (x.name.data.toList ++ 32 :: (kJ x.va x.vb x.vc ++ 32 :: (x.other.data.toList ++ 32 :: zaM x.range)))
 else if x.kind = 3 then xU.data.toList ++ 32 :: (x.name.data.toList ++ 32 :: (kJ x.va x.vb x.vc ++ 32 :: (x.other.data.toList ++ 32 :: zaM x.range)))
 else jE.data.toList ++ 32 :: (x.name.data.toList ++ 32 :: zaM x.range)
def zo4 : List zm → List UInt8
 | [] => []
 | x :: l => zg5 x ++ 10 :: zo4 l
theorem zl3 : ∀ c : UInt8,zac c = true → c ≠ 32 ∧ c ≠ 10:=by
 have h : ∀ n : Fin 256,zac (UInt8.ofNat n.val) = true → UInt8.ofNat n.val ≠ 32 ∧ UInt8.ofNat n.val ≠ 10:=by decide +kernel
 intro c hc
 have:=h ⟨c.toNat,c.toNat_lt⟩
 simp only [UInt8.ofNat_toNat] at this
 exact this hc
theorem kT {s : ByteArray} (h : yP s = true) : ∀ y ∈ s.data.toList,y ≠ 32 ∧ y ≠ 10:=by
 unfold yP at h
 simp only [Bool.and_eq_true] at h
 exact fun y hy => zl3 y (List.all_eq_true.1 h.1.1.2 y hy)
theorem zbo {a b c : Int} (h : zcG a b c) : ∀ y ∈ kJ a b c,y ≠ 32 ∧ y ≠ 10:=by
 intro y hy
 rcases zjs h y hy with rfl | q
 · decide
 · exact ⟨(zbm q).2.1,by rintro rfl;revert q;decide⟩
structure zfh (x : zm) : Prop where
 kind : x.kind = 1 ∨ x.kind = 2 ∨ x.kind = 3 ∨ x.kind = 4
 name : yP x.name = true
 other : x.kind = 2 ∨ x.kind = 3 → yP x.other = true
 none : x.kind = 1 ∨ x.kind = 4 → x.other = ByteArray.empty
 pkg : x.kind = 1 → x.range = []
 root : x.kind = 4 → x.va = 0 ∧ x.vb = 0 ∧ x.vc = 0
 ver : x.kind ≠ 4 → zcG x.va x.vb x.vc
theorem zhr {x : zm} : zX x = 0 ↔ zfh x:=by
 unfold zX
 constructor
 ·
  intro h
  split at h
  · cases h
  ·
   rename_i h1
   split at h
   · cases h
   ·
    rename_i h2
    split at h
    · cases h
    ·
     rename_i h3
     split at h
     · cases h
     ·
      rename_i h4
      simp only [not_or,not_and,Bool.not_eq_false] at h1 h2 h3 h4
      refine ⟨by omega,h2.1,fun q => h2.2 q,fun q => ?_,fun q => ?_,fun q => ?_,fun q => zh3.1 (h4 q)⟩
      · have:=h3.1 (by omega);simpa using this
      · have:=h3.2.1 q;simpa using this
      · have:=h3.2.2 q;simpa using this
 ·
  intro h
  have hk:=h.kind
  rw [if_neg (by omega),if_neg,if_neg,if_neg]
  ·
   rintro ⟨h1,h2⟩
   rw [zh3.2 (h.ver h1)] at h2;cases h2
  ·
   rintro (⟨h1,h2⟩ | ⟨h1,h2⟩ | ⟨h1,h2⟩)
   · exact h2 (h.none (by omega))
   · exact h2 (h.pkg h1)
   · exact h2 (h.root h1)
  ·
   rintro (h1 | ⟨h1,h2⟩)
   · rw [h.name] at h1;cases h1
   · rw [h.other h1] at h2;cases h2
theorem zkq {x : zm} (h : zfh x) (hc : Canon x.range) (hl : (zaM x.range).length ≤ 1000) : qK (zQ (zg5 x)) x:=by
 have hn:=fun y hy => (kT h.name y hy).1
 have c1 : ∀ y ∈ zbD.data.toList,y ≠ 32:=by decide
 have c2 : ∀ y ∈ jo.data.toList,y ≠ 32:=by decide
 have c3 : ∀ y ∈ xU.data.toList,y ≠ 32:=by decide
 have c4 : ∀ y ∈ jE.data.toList,y ≠ 32:=by decide
 have ht:=ziL hc
 unfold zg5
 split
 ·
  rename_i k
  have hv:=h.ver (by omega)
  have v1:=fun y hy => (zbo hv y hy).1
  unfold qK
  rw [(yC c1).1,(yC c1).2,(yC hn).1,(yC hn).2,(ziJ v1).1,(ziJ v1).2]
  exact ⟨rfl,.inl ⟨k,rfl,zfc hv,rfl,h.none (.inl k),h.pkg k⟩⟩
 ·
  split
  ·
   rename_i k
   have hv:=h.ver (by omega)
   have v1:=fun y hy => (zbo hv y hy).1
   have o1:=fun y hy => (kT (h.other (.inl k)) y hy).1
   unfold qK
   rw [(yC c2).1,(yC c2).2,(yC hn).1,(yC hn).2,(yC v1).1,(yC v1).2,(yC o1).1,(yC o1).2]
   exact ⟨rfl,.inr (.inl ⟨.inl ⟨k,rfl⟩,zfc hv,rfl,hl,ht⟩)⟩
  ·
   split
   ·
    rename_i k
    have hv:=h.ver (by omega)
    have v1:=fun y hy => (zbo hv y hy).1
    have o1:=fun y hy => (kT (h.other (.inr k)) y hy).1
    unfold qK
    rw [(yC c3).1,(yC c3).2,(yC hn).1,(yC hn).2,(yC v1).1,(yC v1).2,(yC o1).1,(yC o1).2]
    exact ⟨rfl,.inr (.inl ⟨.inr ⟨k,rfl⟩,zfc hv,rfl,hl,ht⟩)⟩
   ·
    have k : x.kind = 4:=by have:=h.kind;omega
    unfold qK
    rw [(yC c4).1,(yC c4).2,(yC hn).1,(yC hn).2]
    obtain ⟨r1,r2,r3⟩:=h.root k
    exact ⟨rfl,.inr (.inr ⟨k,rfl,r1,r2,r3,h.none (.inr k),hl,ht⟩)⟩
theorem zkJ {c : UInt8} {sep : List UInt8} (hs : ∀ y ∈ sep,y ≠ c) : ∀ {xs : List (List UInt8)},(∀ x ∈ xs,∀ y ∈ x,y ≠ c) → ∀ y ∈ Lib.join xs sep,y ≠ c
 | [],_,y,hy => by simp [Lib.join_nil] at hy
 | x :: r,h,y,hy => by
  rw [Lib.join_cons] at hy
  rcases List.mem_append.1 hy with q | q
  · exact h x (List.mem_cons_self ..) y q
  ·
   unfold Lib.joinTail at q
   obtain ⟨z,hz,q⟩:=List.mem_flatten.1 q
   obtain ⟨t,ht,rfl⟩:=List.mem_map.1 hz
   rcases List.mem_append.1 q with q | q
   · exact hs y q
   · exact h t (List.mem_cons_of_mem _ ht) y q
theorem zmT {l : List Spn} (hc : Canon l) : ∀ y ∈ zaM l,y ≠ 10:=by
 unfold zaM
 split
 · decide
 ·
  refine zkJ (by decide) (fun x hx => ?_)
  obtain ⟨s,hs,rfl⟩:=List.mem_map.1 hx
  obtain ⟨h1,h2,h3⟩:=hc.ok s hs
  have key : ∀ (o : List UInt8) (n : Int),(∀ y ∈ o,y ≠ 10) → 0 ≤ n ∧ n < zU → ∀ y ∈ o ++ vT n,y ≠ 10:=fun o n ho hn y hy => by
   rcases List.mem_append.1 hy with q | q
   · exact ho y q
   · exact (zbo (zbz hn).1 y q).2
  unfold zai
  refine zkJ (by decide) (fun t ht => ?_)
  unfold zc8 at ht
  split at ht
  · rw [List.mem_singleton.1 ht];exact key [] _ (by simp) ⟨h1,by omega⟩
  ·
   split at ht
   ·
    rename_i e
    rcases List.mem_cons.1 ht with rfl | ht
    · exact key _ _ (by decide) ⟨h1,by omega⟩
    · rw [List.mem_singleton.1 ht];exact key _ _ (by decide) ⟨by omega,e.2⟩
   ·
    split at ht
    · rw [List.mem_singleton.1 ht];exact key _ _ (by decide) ⟨h1,by omega⟩
    ·
     split at ht
     ·
      rename_i e
      rw [List.mem_singleton.1 ht];exact key _ _ (by decide) ⟨by omega,e⟩
     · rw [List.mem_singleton.1 ht];decide
theorem zpl {x : zm} (h : zfh x) (hc : Canon x.range) : (∀ y ∈ zg5 x,y ≠ 10) ∧ zg5 x ≠ []:=by
 have hn:=fun y hy => (kT h.name y hy).2
 have hr:=zmT hc
 have c1 : ∀ y ∈ zbD.data.toList,y ≠ 10:=by decide
 have c2 : ∀ y ∈ jo.data.toList,y ≠ 10:=by decide
 have c3 : ∀ y ∈ xU.data.toList,y ≠ 10:=by decide
 have c4 : ∀ y ∈ jE.data.toList,y ≠ 10:=by decide
 have app : ∀ {a b : List UInt8},(∀ y ∈ a,y ≠ 10) → (∀ y ∈ b,y ≠ 10) → ∀ y ∈ a ++ 32 :: b,y ≠ 10:=fun h1 h2 y hy => by
  rcases List.mem_append.1 hy with q | q
  · exact h1 y q
  ·
   rcases List.mem_cons.1 q with rfl | q
   · decide
   · exact h2 y q
 unfold zg5
 split
 ·
  rename_i k
  have v1:=fun y hy => (zbo (h.ver (by omega)) y hy).2
  exact ⟨app c1 (app hn v1),by simp⟩
 ·
  split
  ·
   rename_i k
   have v1:=fun y hy => (zbo (h.ver (by omega)) y hy).2
   have o1:=fun y hy => (kT (h.other (.inl k)) y hy).2
   exact ⟨app c2 (app hn (app v1 (app o1 hr))),by simp⟩
  ·
   split
   ·
    rename_i k
    have v1:=fun y hy => (zbo (h.ver (by omega)) y hy).2
    have o1:=fun y hy => (kT (h.other (.inr k)) y hy).2
    exact ⟨app c3 (app hn (app v1 (app o1 hr))),by simp⟩
   · exact ⟨app c4 (app hn hr),by simp⟩
def nlB : ByteArray:=⟨#[10]⟩
def zbO (s : ByteArray) : List ByteArray:=Lib.splitB nlB 0 (Lib.countB s nlB) s
theorem zoV {A R : List UInt8} (h : ∀ y ∈ A,y ≠ 10) : zbO (zQ (A ++ 10 :: R)) = zQ A :: zbO (zQ R):=by
 have hi : Lib.indexB (zQ (A ++ 10 :: R)) nlB = (A.length : Nat):=kX h
 have e0 : (zQ (A ++ 10 :: R)).extract 0 A.length = zQ A:=by rw [yE];simp
 have e2 : (zQ (A ++ 10 :: R)).extract (A.length + nlB.size) (zQ (A ++ 10 :: R)).size = zQ R:=by
  have hs : nlB.size = 1:=rfl
  rw [hs,yE,jM]
  congr 1
  rw [List.take_of_length_le (by simp;omega)]
  rw [show A.length + 1 = (A ++ [10]).length by simp,show A ++ 10 :: R = (A ++ [10]) ++ R by simp,List.drop_left]
 unfold zbO
 rw [Lib.countB_hit _ _ _ (by decide) hi,e2,Nat.add_comm 1,Lib.splitB_hit _ _ _ _ _ hi,e2,Nat.add_zero,e0]
theorem zn4 : zbO (zQ []) = [zQ []]:=by
 unfold zbO
 rw [Lib.splitB_miss _ _ _ _ (by decide)]
def yG {α β : Type} (R : α → β → Prop) : List α → List β → Prop
 | [],[] => True
 | a :: ps,b :: bs => R a b ∧ yG R ps bs
 | _,_ => False
theorem yG.len {α β : Type} {R : α → β → Prop} : ∀ {ps : List α} {bs : List β},yG R ps bs → ps.length = bs.length
 | [],[],_ => rfl
 | a :: ps,b :: bs,h => by simp [yG.len h.2]
 | [],_ :: _,h => h.elim
 | _ :: _,[],h => h.elim
theorem yG.snoc {α β : Type} {R : α → β → Prop} {a : α} {b : β} (hr : R a b) : ∀ {ps : List α} {bs : List β},yG R ps bs → yG R (ps ++ [a]) (bs ++ [b])
 | [],[],_ => ⟨hr,trivial⟩
 | _ :: ps,_ :: bs,h => ⟨h.1,yG.snoc hr h.2⟩
 | [],_ :: _,h => h.elim
 | _ :: _,[],h => h.elim
theorem yG.app {α β : Type} {R : α → β → Prop} : ∀ {ps ps' : List α} {bs : List β},yG R (ps ++ ps') bs → ∃ b1 b2,bs = b1 ++ b2 ∧ yG R ps b1 ∧ yG R ps' b2
 | [],ps',bs,h => ⟨[],bs,rfl,trivial,h⟩
 | a :: ps,ps',b :: bs,h => by
  obtain ⟨b1,b2,e,h1,h2⟩:=yG.app (ps:=ps) h.2
  exact ⟨b :: b1,b2,by rw [e];rfl,⟨h.1,h1⟩,h2⟩
 | a :: ps,ps',[],h => h.elim
def qD (s : ByteArray) (ls : List zm) : Prop:=yG qK ((zbO s).filter fun p => decide (0 < p.size)) ls
theorem zeF : ∀ {ls : List zm},(∀ x ∈ ls,zfh x ∧ Canon x.range ∧ (zaM x.range).length ≤ 1000) → qD (zQ (zo4 ls)) ls
 | [],_ => by
  unfold qD zo4
  rw [zn4]
  trivial
 | x :: l,h => by
  have ih:=zeF (fun y hy => h y (List.mem_cons_of_mem _ hy))
  obtain ⟨h1,h2,h3⟩:=h x (List.mem_cons_self ..)
  have hn:=zpl h1 h2
  unfold qD at ih ⊢
  unfold zo4
  rw [zoV hn.1,List.filter_cons_of_pos (by rw [decide_eq_true_iff,jM];exact List.length_pos_iff.2 hn.2)]
  exact ⟨zkq h1 h2 h3,ih⟩
theorem zg6 : ∀ {ps : List ByteArray} {a b : List zm},yG qK ps a → yG qK ps b → yG zm.same a b
 | [],[],[],_,_ => trivial
 | _ :: _,_ :: _,_ :: _,h,h' => ⟨h.1.one h'.1,zg6 h.2 h'.2⟩
 | [],_ :: _,_,h,_ => h.elim
 | [],[],_ :: _,_,h => h.elim
 | _ :: _,[],_,h,_ => h.elim
 | _ :: _,_ :: _,[],_,h => h.elim
theorem qD.one {s : ByteArray} {a b : List zm} (h : qD s a) (h' : qD s b) : yG zm.same a b:=zg6 h h'
theorem zpx (s : ByteArray) (w : World) (hs : s.size ≤ 100000) (h : xQ w) : Calls Tryz.prog 137 #[.string s,.string ⟨#[32]⟩] w fun e w' => (∃ b,e = .returned (.tuple #[.string (zN s),.string (zq s),.bool b])) ∧ Below w.heap.size w w':=by
 obtain ⟨m,hm⟩:=h.len
 refine (Any.strings_Cut Tryz.lays145 s ⟨#[32]⟩ m w (by omega) hm).mono ?_
 rintro e w' ⟨rfl,n,rfl⟩
 exact ⟨⟨_,rfl⟩,below_drewN (Below.refl _ _) n⟩
theorem zcq (s : ByteArray) : (zN s).size ≤ s.size ∧ (zq s).size ≤ s.size:=by
 have e1 : (zN s).size = (Lib.cut s.data.toList spT).1.length:=by show (Lib.cut s.data.toList spT).1.toArray.size = _;simp
 have e2 : (zq s).size = (Lib.cut s.data.toList spT).2.1.length:=by show (Lib.cut s.data.toList spT).2.1.toArray.size = _;simp
 have e3 : s.data.toList.length = s.size:=by simp
 rw [e1,e2]
 unfold Lib.cut
 split
 · simp only [List.length_take,List.length_drop];omega
 · simp only [List.length_nil];omega
def kindOf (x : ByteArray) : Int:=Lib.idxOfS [⟨#[]⟩,zbD,jo,xU,jE] x
theorem zpP (q : Nat) (x : ByteArray) (w : World) (h : w.heap[q]? = some (.cells #[.string ⟨#[]⟩,.string zbD,.string jo,.string xU,.string jE] 9 (0,0))) :
 Calls Tryz.prog 138 #[.slice (some ⟨q,0,none⟩) 5 5,.string x] w fun e w' => e = .returned (.int .i64 (kindOf x)) ∧ w' = w:=by
 have:=Any.slices_Index_string Tryz.lays109 q 0 5 5 [⟨#[]⟩,zbD,jo,xU,jE] x w (by decide) (by decide) (fun j hj => by
  rw [cell_of_row w q _ _ _ _ h]
  simp only [List.length_cons,List.length_nil] at hj
  obtain rfl | rfl | rfl | rfl | rfl : j = 0 ∨ j = 1 ∨ j = 2 ∨ j = 3 ∨ j = 4:=by omega
  all_goals rfl)
 exact this
theorem zhF (x : ByteArray) : (x = zbD ∧ kindOf x = 1) ∨ (x = jo ∧ kindOf x = 2) ∨ (x = xU ∧ kindOf x = 3) ∨ (x = jE ∧ kindOf x = 4) ∨ (x ≠ zbD ∧ x ≠ jo ∧ x ≠ xU ∧ x ≠ jE ∧ kindOf x < 1):=by
 by_cases h1 : x = zbD
 · subst h1;exact .inl ⟨rfl,by decide⟩
 by_cases h2 : x = jo
 · subst h2;exact .inr (.inl ⟨rfl,by decide⟩)
 by_cases h3 : x = xU
 · subst h3;exact .inr (.inr (.inl ⟨rfl,by decide⟩))
 by_cases h4 : x = jE
 · subst h4;exact .inr (.inr (.inr (.inl ⟨rfl,by decide⟩)))
 refine .inr (.inr (.inr (.inr ⟨h1,h2,h3,h4,?_⟩)))
 have n1 : ¬ zbD = x:=fun e => h1 e.symm
 have n2 : ¬ jo = x:=fun e => h2 e.symm
 have n3 : ¬ xU = x:=fun e => h3 e.symm
 have n4 : ¬ jE = x:=fun e => h4 e.symm
 unfold kindOf Lib.idxOfS
 by_cases h0 : (⟨#[]⟩ : ByteArray) = x
 · simp [Lib.idxFromS,h0]
 · simp [Lib.idxFromS,h0,n1,n2,n3,n4]
theorem zpL {s : ByteArray} (h1 : zN s ≠ zbD) (h2 : zN s ≠ jo) (h3 : zN s ≠ xU) (h4 : zN s ≠ jE) (x : zm) : ¬ qK s x:=by
 rintro ⟨_,⟨_,w,_⟩ | ⟨⟨_,w⟩ | ⟨_,w⟩,_⟩ | ⟨_,w,_⟩⟩
 · exact h1 w
 · exact h2 w
 · exact h3 w
 · exact h4 w
theorem zih {s : ByteArray} (h : zN s = zbD) {x : zm} (hx : qK s x) : x.kind = 1 ∧ zaz (zN (zq (zq s))) x.va x.vb x.vc ∧ zq (zq (zq s)) = ByteArray.empty:=by
 obtain ⟨_,⟨k,w,v,r,_⟩ | ⟨⟨_,w⟩ | ⟨_,w⟩,_⟩ | ⟨_,w,_⟩⟩:=hx
 · exact ⟨k,v,r⟩
 · exact absurd (h.symm.trans w) (by decide)
 · exact absurd (h.symm.trans w) (by decide)
 · exact absurd (h.symm.trans w) (by decide)
theorem zaX {s : ByteArray} (h : zN s = jo ∨ zN s = xU) {x : zm} (hx : qK s x) : zaz (zN (zq (zq s))) x.va x.vb x.vc ∧ (zq (zq (zq (zq s)))).size ≤ 1000 ∧ jG (zq (zq (zq (zq s)))) x.range:=by
 have e1 : jo ≠ zbD:=by decide
 have e2 : xU ≠ zbD:=by decide
 have e3 : jo ≠ jE:=by decide
 have e4 : xU ≠ jE:=by decide
 obtain ⟨_,⟨k,w,v,r,_⟩ | ⟨_,v,_,r⟩ | ⟨_,w,_⟩⟩:=hx
 ·
  rcases h with h | h
  · exact absurd (h.symm.trans w) e1
  · exact absurd (h.symm.trans w) e2
 · exact ⟨v,r⟩
 ·
  rcases h with h | h
  · exact absurd (h.symm.trans w) e3
  · exact absurd (h.symm.trans w) e4
theorem zgN {s : ByteArray} (h : zN s = jE) {x : zm} (hx : qK s x) : (zq (zq s)).size ≤ 1000 ∧ jG (zq (zq s)) x.range:=by
 obtain ⟨_,⟨k,w,v,r,_⟩ | ⟨⟨_,w⟩ | ⟨_,w⟩,_⟩ | ⟨_,w,_,_,_,_,r⟩⟩:=hx
 · exact absurd (h.symm.trans w) (by decide)
 · exact absurd (h.symm.trans w) (by decide)
 · exact absurd (h.symm.trans w) (by decide)
 · exact r
def zqq (s : ByteArray) (w : World) (e : Ending) (w' : World) : Prop :=
 ((∃ x : zm,e = .returned (.tuple #[.agg (zT x).toArray,.nilIface]) ∧ qK s x ∧ zaq w' x ∧ (∀ b,x.rv.ownBlock = some b → w.heap.size ≤ b)) ∨
  (∃ (k : Int) (n : ByteArray) (a b c : Int) (o : ByteArray) (va : Option Addr) (vn vc : Nat) (er : Value),e = .returned (.tuple #[.agg #[.int .i64 k,.string n,.int .i64 a,.int .i64 b,.int .i64 c,.string o,.slice va vn vc],er]) ∧ zby w' er ∧ ∀ x,¬ qK s x)) ∧ Below w.heap.size w w'
theorem zck {w : World} {er : Value} (h : zby w er) : ∃ t x,er = .iface t x:=by
 rcases h with ⟨k,rfl⟩ | ⟨p,k,pl,rfl,_⟩
 · exact ⟨_,_,rfl⟩
 · exact ⟨_,_,rfl⟩
theorem zby.below {w w' : World} {er : Value} (h : zby w er) (hb : Below w.heap.size w w') : zby w' er:=by
 rcases h with ⟨k,rfl⟩ | ⟨p,k,pl,rfl,h⟩
 · exact .inl ⟨k,rfl⟩
 · exact .inr ⟨p,k,pl,rfl,(hb.block _ (zlb h)).trans h⟩
theorem zie : (Tryz.prog.info? 77).map (fun i => (i.zero,i.size,i.bytes)) = some (some (.agg #[.int .i64 0,.string ⟨#[]⟩,.int .i64 0,.int .i64 0,.int .i64 0,.string ⟨#[]⟩,.slice none 0 0]),7,88):=by kernel_rfl
theorem zio : (Tryz.prog.info? 94).map (fun i => (i.zero,i.size,i.bytes)) = some (some (.agg #[.string ⟨#[]⟩,.int .i64 0,.int .i64 0,.int .i64 0]),4,40):=by kernel_rfl
theorem jV : Tryz.prog.underlying 69 = some (.slice 77):=by kernel_rfl
theorem zbJ : Tryz.prog.underlying 90 = some (.slice 94):=by kernel_rfl
theorem zbU (x : zA) : ∀ u ∈ yj x,u.oneCell' = true:=by
 intro u hu
 simp only [yj,List.mem_cons,List.not_mem_nil,or_false] at hu
 rcases hu with rfl | rfl | rfl | rfl <;> rfl
theorem zqP {w : World} {v : Value} {l : List Spn} (h : yx w v l) : v.oneCell' = true:=by
 rcases h with ⟨rfl,_⟩ | ⟨g,cap,f,rfl,_⟩ <;> rfl
theorem zbN {w : World} {x : zm} (h : zaq w x) : ∀ u ∈ zT x,u.oneCell' = true:=by
 intro u hu
 simp only [zT,List.mem_cons,List.not_mem_nil,or_false] at hu
 rcases hu with rfl | rfl | rfl | rfl | rfl | rfl | rfl
 · rfl
 · rfl
 · rfl
 · rfl
 · rfl
 · rfl
 · exact zqP h.rng
theorem zo.news {α : Type} {w : World} {base : Nat} {T : TypeId} {z : Nat} {enc : α → List Value} {g n c : Nat} {xs : List α} (h : zo w base T z enc (.slice (some ⟨g,0,none⟩) n c) xs) : ∀ (j : Nat) (u : Value),(xP enc xs)[j]? = some u → w.cell? ((⟨g,0,none⟩ : Addr).add j) = some u:=by
 intro j u hu
 obtain ⟨h0,⟨h1,h2⟩ | ⟨g',cap,cur,e,h1,h2,h3,h4,h5,h6⟩⟩:=h
 · cases h1
 ·
  cases e
  rw [show (⟨g,0,none⟩ : Addr).add j = ⟨g,j,none⟩ from by simp [Addr.add];exact fun h => h.symm,cell_of_row _ _ _ _ _ _ h2]
  have hj : j < xs.length * z:=by rw [← h0];exact (List.getElem?_eq_some_iff.1 hu).1
  rw [← h6,List.getElem?_take_of_lt hj,Array.getElem?_toList] at hu
  exact hu
set_option maxHeartbeats 1000000 in
theorem zcF (base : Nat) (v : Value) (xs : List zm) (w : World) (hv : zo w base 77 7 zT v xs) (hone : ∀ u ∈ xP zT xs,u.oneCell' = true) (hlen : xs.length ≤ 100000) :
 Calls Tryz.prog 70 #[v] w fun e w' => (∃ v',e = .returned v' ∧ zo w' w.heap.size 77 7 zT v' xs) ∧ Below w.heap.size w w':=by
 obtain ⟨a,c,rfl,hl,hm⟩:=hv.shape
 have heq:=fun (W : World) n c => Lib.run_eql_slice_nil (P:=Tryz.prog) W 69 77 a n c 0 0 jV
 obtain ⟨i0,hi,hz0,hz1,hz2⟩:=info_parts zie
 cases a with
 | none =>
  have e : xs = []:=by
   cases xs with
   | nil => rfl
   | cons x l => obtain ⟨g,h,_⟩:=hv.at (by simp);cases h
  subst e
  clear hv
  go_enter Tryz.func70,Tryz.ntmps70
  go_wp2
  go_ret
  exact ⟨⟨_,rfl,zo.nil _ _ _ _ _⟩,Below.refl _ _⟩
 | some ad =>
  obtain ⟨g,hg⟩ : ∃ g,ad = ⟨g,0,none⟩:=by
   obtain ⟨h0,⟨h1,h2⟩ | ⟨g',cap,cur,e,h1,h2,h3,h4,h5,h6⟩⟩:=hv
   · cases h1
   · cases e;exact ⟨_,rfl⟩
  subst hg
  have hal : Below w.heap.size w (w.alloc (.cells #[] 77)):=zba
  have hc:=(hv.below hal).news
  have hfl:=za7 (enc:=zT) (z:=7) (fun x => rfl) xs
  have hone:=hone
  have Hc:=hid hc;have Hfl:=hid hfl;have Hone:=hid hone;have Hal:=hid hal
  clear hc hfl hone hal hv
  go_enter Tryz.func70,Tryz.ntmps70
  go_wp2_with (at_builtin;refine wpList_append_own _ rfl _ _ 69 rfl w.heap.size 77 i0 (.agg #[.int .i64 0,.string ⟨#[]⟩,.int .i64 0,.int .i64 0,.int .i64 0,.string ⟨#[]⟩,.slice none 0 0]) 7 88 jV hi hz0 hz1 hz2 rfl (by decide) _ _ _ rfl (World.ownsRow_made w #[] 0 (znr _) (znz _) rfl) ⟨g,0,none⟩ _ _ (xP zT xs) rfl Hfl.out Hc.out Hone.out (by simp only [maxLen];omega) (by omega) (by simp) ?_;intro v' w1 hown hgrow _;have Hown:=hid hown;have Hgrow:=hid hgrow;clear hown hgrow)
  go_ret
  have hb : Below w.heap.size w w1:=Hal.out.grown Hgrow.out (by simp) (fun k hk => by cases hk;exact znr _)
  refine ⟨⟨v',rfl,?_⟩,hb⟩
  have:=Hown.out
  rw [Nat.zero_add,List.nil_append] at this
  exact this
set_option maxHeartbeats 1000000 in
theorem zgn (base : Nat) (v : Value) (xs : List zA) (w : World) (hv : zo w base 94 4 yj v xs) (hlen : xs.length ≤ 100000) :
 Calls Tryz.prog 87 #[v] w fun e w' => (∃ v',e = .returned v' ∧ zo w' w.heap.size 94 4 yj v' xs) ∧ Below w.heap.size w w':=by
 obtain ⟨a,c,rfl,hl,hm⟩:=hv.shape
 have heq:=fun (W : World) n c => Lib.run_eql_slice_nil (P:=Tryz.prog) W 90 94 a n c 0 0 zbJ
 obtain ⟨i0,hi,hz0,hz1,hz2⟩:=info_parts zio
 cases a with
 | none =>
  have e : xs = []:=by
   cases xs with
   | nil => rfl
   | cons x l => obtain ⟨g,h,_⟩:=hv.at (by simp);cases h
  subst e
  clear hv
  go_enter Tryz.func87,Tryz.ntmps87
  go_wp2
  go_ret
  exact ⟨⟨_,rfl,zo.nil _ _ _ _ _⟩,Below.refl _ _⟩
 | some ad =>
  obtain ⟨g,hg⟩ : ∃ g,ad = ⟨g,0,none⟩:=by
   obtain ⟨h0,⟨h1,h2⟩ | ⟨g',cap,cur,e,h1,h2,h3,h4,h5,h6⟩⟩:=hv
   · cases h1
   · cases e;exact ⟨_,rfl⟩
  subst hg
  have hal : Below w.heap.size w (w.alloc (.cells #[] 94)):=zba
  have hc:=(hv.below hal).news
  have hfl:=za7 (enc:=yj) (z:=4) (fun x => rfl) xs
  have hone : ∀ u ∈ xP yj xs,u.oneCell' = true:=fun u hu => by
   unfold xP at hu
   obtain ⟨x,_,hx⟩:=List.mem_flatMap.1 hu
   exact zbU x u hx
  have Hc:=hid hc;have Hfl:=hid hfl;have Hone:=hid hone;have Hal:=hid hal
  clear hc hfl hone hal hv
  go_enter Tryz.func87,Tryz.ntmps87
  go_wp2_with (at_builtin;refine wpList_append_own _ rfl _ _ 90 rfl w.heap.size 94 i0 (.agg #[.string ⟨#[]⟩,.int .i64 0,.int .i64 0,.int .i64 0]) 4 40 zbJ hi hz0 hz1 hz2 rfl (by decide) _ _ _ rfl (World.ownsRow_made w #[] 0 (znr _) (znz _) rfl) ⟨g,0,none⟩ _ _ (xP yj xs) rfl Hfl.out Hc.out Hone.out (by simp only [maxLen];omega) (by omega) (by simp) ?_;intro v' w1 hown hgrow _;have Hown:=hid hown;have Hgrow:=hid hgrow;clear hown hgrow)
  go_ret
  have hb : Below w.heap.size w w1:=Hal.out.grown Hgrow.out (by simp) (fun k hk => by cases hk;exact znr _)
  refine ⟨⟨v',rfl,?_⟩,hb⟩
  have:=Hown.out
  rw [Nat.zero_add,List.nil_append] at this
  exact this
set_option maxHeartbeats 1000000 in
theorem zlS (p : Nat) (vl vi : Value) (ls : List zm) (items : List zA) (w : World) (h : zds w p vl vi ls items) (hn : ls.length ≤ 100000) :
 Calls Tryz.prog 28 #[.pointer (some ⟨p,0,none⟩)] w fun e w' => (∃ v',e = .returned v' ∧ xC w' w.heap.size v' ls) ∧ Below w.heap.size w w':=by
 have hone : ∀ u ∈ xP zT ls,u.oneCell' = true:=fun u hu => by
  unfold xP at hu
  obtain ⟨x,hx,hu⟩:=List.mem_flatMap.1 hu
  exact zbN (h.lines.ins x hx) u hu
 have hc:=zcF 0 vl ls w h.lines.row hone hn
 obtain ⟨d1,d2,d3,d4⟩:=ko h.box
 obtain ⟨a,c,rfl,_⟩:=h.lines.row.shape
 have Hc:=hid hc;have H:=hid h
 clear hc h hone
 go_enter Tryz.func28,Tryz.ntmps28
 go_wp2_with fail
 refine Hc.out.mono ?_
 rintro e w1 ⟨⟨v',rfl,hr⟩,hb⟩
 have Hr:=hid hr;have Hb:=hid hb
 clear hr hb
 go_wp2_with fail
 go_ret
 exact ⟨⟨_,rfl,Hr.out,fun x hx => (H.out.lines.ins x hx).below Hb.out⟩,Hb.out⟩
set_option maxHeartbeats 1000000 in
theorem zgQ (p : Nat) (vl vi : Value) (ls : List zm) (items : List zA) (w : World) (h : zds w p vl vi ls items) (hn : items.length ≤ 100000) :
 Calls Tryz.prog 39 #[.pointer (some ⟨p,0,none⟩)] w fun e w' => (∃ v',e = .returned v' ∧ z8 w' w.heap.size v' items) ∧ Below w.heap.size w w':=by
 have hc:=zgn 0 vi items w h.its hn
 obtain ⟨d1,d2,d3,d4⟩:=ko h.box
 obtain ⟨a,c,rfl,_⟩:=zo.shape h.its
 have Hc:=hid hc
 clear hc h
 go_enter Tryz.func39,Tryz.ntmps39
 go_wp2_with fail
 refine Hc.out.mono ?_
 rintro e w1 ⟨⟨v',rfl,hr⟩,hb⟩
 have Hr:=hid hr;have Hb:=hid hb
 clear hr hb
 go_wp2_with fail
 go_ret
 exact ⟨⟨_,rfl,Hr.out⟩,Hb.out⟩
def ku (v : Nat) (x : Int) : Bool:=if 0 < x then v.testBit (x.toNat - 1) else decide (x < 0) && !v.testBit ((-x).toNat - 1)
def clB (v : Nat) (c : List Int) : Bool:=c.any (ku v)
def j6 (v : Nat) (l : List (List Int)) : Bool:=l.all (clB v)
theorem getD_at {α : Type} (l : List α) (d : α) {i : Nat} (h : i < l.length) : l.getD i d = l[i]:=by simp [h]
def qp (m : Int) (x : Int) : Bool:=decide (x = 0) || decide (m < x) || decide (x < -m)
def Good (m : Int) (l : List (List Int)) : Prop:=0 ≤ m ∧ m ≤ 24 ∧ l.length ≤ 200 ∧ ∀ c ∈ l,c.length ≤ 48 ∧ c.any (qp m) = false
def xG (items : List zA) (i : Nat) : zA:=items.getD i (ByteArray.empty,0,0,0)
theorem zbq {items : List zA} {i : Nat} (h : i < items.length) : xG items i = items[i]:=by unfold xG;simp [h]
def zky (nm : ByteArray) (r : List Spn) (x : zA) : Bool:=decide (x.1 = nm) && zbE r x.2.1 x.2.2.1 x.2.2.2
def zb7 (n : Nat) (items : List zA) (nm : ByteArray) (r : List Spn) : List Nat:=(List.range n).filter fun i => zky nm r (xG items i)
def jf (items : List zA) (nm : ByteArray) (r : List Spn) : List Nat:=zb7 items.length items nm r
theorem zjh (n : Nat) (items : List zA) (nm : ByteArray) (r : List Spn) : zb7 (n + 1) items nm r = zb7 n items nm r ++ if zky nm r (xG items n) = true then [n] else []:=by
 unfold zb7
 rw [List.range_succ,List.filter_append]
 congr 1
 by_cases h : zky nm r (xG items n) = true
 · rw [if_pos h];exact List.filter_cons_of_pos h
 · rw [if_neg h];exact List.filter_cons_of_neg h
theorem zbb {items : List zA} {nm : ByteArray} {r : List Spn} {i : Nat} (h : i ∈ jf items nm r) : i < items.length:=List.mem_range.1 (List.mem_filter.1 h).1
theorem jS (n : Nat) (items : List zA) (nm : ByteArray) (r : List Spn) : (zb7 n items nm r).length ≤ n:=by
 unfold zb7
 exact Nat.le_trans (List.length_filter_le _ _) (by simp)
def kP (items : List zA) (it : zA) : Int:=if items.any (fun x => decide (x = it)) = true then (items.findIdx (fun x => decide (x = it)) : Nat) else -1
theorem zoj {items : List zA} {it : zA} {k : Nat} (hk : k < items.length) (h : items[k] = it) (hlt : ∀ j,(hj : j < k) → items[j] ≠ it) : kP items it = k:=by
 have ha : items.any (fun x => decide (x = it)) = true:=List.any_eq_true.2 ⟨it,by rw [← h];exact List.getElem_mem hk,by simp⟩
 unfold kP
 rw [if_pos ha]
 congr 1
 have h1:=List.findIdx_lt_length_of_exists (xs:=items) (p:=fun x => decide (x = it)) ⟨it,by rw [← h];exact List.getElem_mem hk,by simp⟩
 have h2:=List.findIdx_getElem (w:=h1)
 rcases Nat.lt_trichotomy (items.findIdx fun x => decide (x = it)) k with q | q | q
 · exact absurd (by simpa using h2) (hlt _ q)
 · exact q
 ·
  have:=List.not_of_lt_findIdx (p:=fun x => decide (x = it)) (xs:=items) q
  simp [h] at this
theorem zln {items : List zA} {it : zA} (h : it ∈ items) : ∃ k : Nat,∃ hk : k < items.length,kP items it = k ∧ items[k] = it:=by
 have ha : items.any (fun x => decide (x = it)) = true:=List.any_eq_true.2 ⟨it,h,by simp⟩
 have h1:=List.findIdx_lt_length_of_exists (xs:=items) (p:=fun x => decide (x = it)) ⟨it,h,by simp⟩
 have h2:=List.findIdx_getElem (w:=h1)
 exact ⟨_,h1,by unfold kP;rw [if_pos ha],by simpa using h2⟩
theorem zi4 {items : List zA} {it : zA} (h : it ∉ items) : kP items it = -1:=by
 unfold kP
 rw [if_neg]
 rw [List.any_eq_true]
 rintro ⟨x,hx,e⟩
 have : x = it:=by simpa using e
 exact h (this ▸ hx)
theorem zcQ (items : List zA) (it : zA) : (it ∈ items ∧ 0 ≤ kP items it ∧ kP items it < items.length) ∨ (it ∉ items ∧ kP items it = -1):=by
 by_cases h : it ∈ items
 ·
  obtain ⟨k,hk,e,_⟩:=zln h
  exact .inl ⟨h,by omega,by omega⟩
 · exact .inr ⟨h,zi4 h⟩
def za6 (i : Nat) (items : List zA) (k : Nat) : List (Int × List Int):=((List.range i).filter fun i => decide ((xG items i).1 = (xG items k).1)).map fun i : Nat => (-1,[-(i : Int) - 1,-(k : Int) - 1])
theorem zkB (i : Nat) (items : List zA) (k : Nat) : za6 (i + 1) items k = za6 i items k ++ if (xG items i).1 = (xG items k).1 then [(-1,[-(i : Int) - 1,-(k : Int) - 1])] else []:=by
 unfold za6
 rw [List.range_succ,List.filter_append,List.map_append]
 congr 1
 by_cases h : (xG items i).1 = (xG items k).1
 · simp [h]
 · simp [h]
def jJ (n : Nat) (items : List zA) : List (Int × List Int):=(List.range n).flatMap fun k => za6 k items k
theorem zf0 (n : Nat) (items : List zA) : jJ (n + 1) items = jJ n items ++ za6 n items n:=by
 unfold jJ;rw [List.range_succ,List.flatMap_append];simp
def qZ (items : List zA) (i : Nat) (x : zm) : List (Int × List Int) :=
 if x.kind = 4 then [((i : Int),(jf items x.name x.range).map fun k : Nat => (k : Int) + 1)]
 else if x.kind = 2 then [((i : Int),-(kP items x.item + 1) :: (jf items x.other x.range).map fun k : Nat => (k : Int) + 1)]
 else if x.kind = 3 then (jf items x.other x.range).map fun k : Nat => ((i : Int),[-(kP items x.item + 1),-(k : Int) - 1])
 else []
def xu (items : List zA) : Nat → List zm → List (Int × List Int)
 | _,[] => []
 | i,x :: l => qZ items i x ++ xu items (i + 1) l
theorem zeD (items : List zA) : ∀ (i : Nat) (l : List zm) (x : zm),xu items i (l ++ [x]) = xu items i l ++ qZ items (i + l.length) x
 | i,[],x => by simp [xu]
 | i,y :: l,x => by
  have:=zeD items (i + 1) l x
  simp only [List.cons_append,xu,List.length_cons]
  rw [this,List.append_assoc,show i + 1 + l.length = i + (l.length + 1) by omega]
theorem ziC (items : List zA) (ls : List zm) (k : Nat) (h : k < ls.length) : xu items 0 (ls.take (k + 1)) = xu items 0 (ls.take k) ++ qZ items k ls[k]:=by
 rw [List.take_succ_eq_append_getElem h,zeD,List.length_take,Nat.zero_add,Nat.min_eq_left (Nat.le_of_lt h)]
def zJ (ls : List zm) (items : List zA) : List (Int × List Int):=jJ items.length items ++ xu items 0 ls
def yB (rc : List (Int × List Int)) : List (List Int):=rc.map (·.2)
def jO (rc : List (Int × List Int)) : List Int:=rc.map (·.1)
theorem zmS (a b : List (Int × List Int)) : yB (a ++ b) = yB a ++ yB b:=List.map_append
theorem zjT (a b : List (Int × List Int)) : jO (a ++ b) = jO a ++ jO b:=List.map_append
def zlx (some : List Bool) (k : Int) : Bool:=decide (k < 0) || (decide (k < some.length) && some.getD k.toNat false)
def za9 (rc : List (Int × List Int)) (some : List Bool) : List (List Int):=(rc.filter fun p => zlx some p.1).map (·.2)
theorem zbd {items : List zA} {p : Int × List Int} : ∀ {i : Nat} {l : List zm},p ∈ xu items i l ↔ ∃ k,∃ h : k < l.length,p ∈ qZ items (i + k) l[k]
 | i,[] => by simp [xu]
 | i,x :: l => by
  simp only [xu,List.mem_append]
  rw [zbd (i:=i + 1) (l:=l)]
  constructor
  ·
   rintro (h | ⟨k,h,h2⟩)
   · exact ⟨0,by simp,h⟩
   · exact ⟨k + 1,by simpa using h,by rw [show i + (k + 1) = i + 1 + k by omega];simpa using h2⟩
  ·
   rintro ⟨k,h,h2⟩
   cases k with
   | zero => exact .inl h2
   | succ k => exact .inr ⟨k,by simpa using h,by rw [show i + 1 + k = i + (k + 1) by omega];simpa using h2⟩
theorem zgi {items : List zA} {i : Nat} {x : zm} {p : Int × List Int} (h : p ∈ qZ items i x) : p.1 = i:=by
 unfold qZ at h
 split at h
 · rw [List.mem_singleton.1 h]
 ·
  split at h
  · rw [List.mem_singleton.1 h]
  ·
   split at h
   · obtain ⟨k,_,rfl⟩:=List.mem_map.1 h;rfl
   · cases h
theorem zf3 {n : Nat} {items : List zA} {p : Int × List Int} (h : p ∈ jJ n items) : p.1 = -1:=by
 unfold jJ at h
 obtain ⟨k,_,h⟩:=List.mem_flatMap.1 h
 unfold za6 at h
 obtain ⟨i,_,rfl⟩:=List.mem_map.1 h
 rfl
theorem zeS {ls : List zm} {items : List zA} {p : Int × List Int} (h : p ∈ zJ ls items) : p.1 = -1 ∨ (0 ≤ p.1 ∧ p.1 < ls.length):=by
 rcases List.mem_append.1 h with h | h
 · exact .inl (zf3 h)
 ·
  obtain ⟨k,hk,h⟩:=zbd.1 h
  have:=zgi h
  right;omega
theorem znw {rc : List (Int × List Int)} {some : List Bool} : (za9 rc some).length ≤ (yB rc).length:=by
 unfold za9 yB
 rw [List.length_map,List.length_map]
 exact List.length_filter_le _ _
theorem jX {ls : List zm} {items : List zA} (ho : zbu ls items) : ∀ p ∈ zJ ls items,p.2.length ≤ 25 ∧ ∀ x ∈ p.2,x ≠ 0 ∧ -(items.length : Int) ≤ x ∧ x ≤ items.length:=by
 have hn : items.length ≤ 24:=by rw [ho.perm.length_eq];exact ho.most
 have ham : ∀ nm r,((jf items nm r).map fun k : Nat => (k : Int) + 1).length ≤ 24 ∧ ∀ x ∈ (jf items nm r).map fun k : Nat => (k : Int) + 1,0 < x ∧ x ≤ items.length:=fun nm r => by
  refine ⟨by rw [List.length_map];exact Nat.le_trans (jS _ _ _ _) hn,fun x hx => ?_⟩
  obtain ⟨k,hk,rfl⟩:=List.mem_map.1 hx
  have:=zbb hk
  omega
 have hown : ∀ x ∈ ls,x.kind = 2 ∨ x.kind = 3 → 0 < kP items x.item + 1 ∧ kP items x.item + 1 ≤ items.length:=fun x hx hk => by
  obtain ⟨k,hk,e,_⟩:=zln (ho.perm.mem_iff.2 (ho.there x hx hk))
  rw [e];omega
 intro p hp
 rcases List.mem_append.1 hp with hp | hp
 ·
  unfold jJ at hp
  obtain ⟨k,hk,hp⟩:=List.mem_flatMap.1 hp
  have hk:=List.mem_range.1 hk
  unfold za6 at hp
  obtain ⟨i,hi,rfl⟩:=List.mem_map.1 hp
  have hi:=List.mem_range.1 (List.mem_filter.1 hi).1
  refine ⟨by simp,fun x hx => ?_⟩
  simp only [List.mem_cons,List.not_mem_nil,or_false] at hx
  rcases hx with rfl | rfl <;> omega
 ·
  obtain ⟨k,hk,hp⟩:=zbd.1 hp
  have hx:=List.getElem_mem hk
  generalize ls[k] = x at hp hx
  have ho2:=hown x hx
  unfold qZ at hp
  split at hp
  ·
   rw [List.mem_singleton.1 hp]
   exact ⟨Nat.le_trans (ham _ _).1 (by omega),fun y hy => by have:=(ham _ _).2 y hy;omega⟩
  ·
   split at hp
   ·
    rename_i h2
    rw [List.mem_singleton.1 hp]
    refine ⟨by simp only [List.length_cons];have:=(ham x.other x.range).1;omega,fun y hy => ?_⟩
    rcases List.mem_cons.1 hy with rfl | hy
    · have:=ho2 (.inl h2);omega
    · have:=(ham _ _).2 y hy;omega
   ·
    split at hp
    ·
     rename_i h3
     obtain ⟨j,hj,rfl⟩:=List.mem_map.1 hp
     have:=zbb hj
     have:=ho2 (.inr h3)
     refine ⟨by simp,fun y hy => ?_⟩
     simp only [List.mem_cons,List.not_mem_nil,or_false] at hy
     rcases hy with rfl | rfl <;> omega
    · cases hp
