import Derived.Test.YtmlfelbkgoplhaaGreatDoorZfChkW
set_option linter.unusedVariables false
set_option linter.unusedSimpArgs false
namespace Go.Proofs.YtmlfelbkgoplhaaGreatDoor
open Go.RowKit
theorem set7 {w : World} {p : Nat} {a b c d e f g : Value} {T : TypeId} (h : w.heap[p]? = some (.cells #[a,b,c,d,e,f,g] T (0,0))) (u : Value) :
 (w.setCell ⟨p,0,none⟩ u).heap[p]? = some (.cells #[u,b,c,d,e,f,g] T (0,0)) ∧ (w.setCell ⟨p,1,none⟩ u).heap[p]? = some (.cells #[a,u,c,d,e,f,g] T (0,0)) ∧ (w.setCell ⟨p,5,none⟩ u).heap[p]? = some (.cells #[a,b,c,d,e,u,g] T (0,0)) ∧ (w.setCell ⟨p,6,none⟩ u).heap[p]? = some (.cells #[a,b,c,d,e,f,u] T (0,0)) :=
 ⟨heap_set h 0 u,heap_set h 1 u,heap_set h 5 u,heap_set h 6 u⟩
theorem set7v {w : World} {p : Nat} {a b c d e f g : Value} {T : TypeId} (h : w.heap[p]? = some (.cells #[a,b,c,d,e,f,g] T (0,0))) (x y z : Value) :
 (((w.setCell ⟨p,2,none⟩ x).setCell ⟨p,3,none⟩ y).setCell ⟨p,4,none⟩ z).heap[p]? = some (.cells #[a,b,x,y,z,f,g] T (0,0)):=heap_set (heap_set (heap_set h 2 x) 3 y) 4 z
structure LB (w wr : World) (k n a b c o v : Value) : Prop where
 blk : wr.heap[w.heap.size]? = some (.cells #[k,n,a,b,c,o,v] 77 (0,0))
 bel : Below w.heap.size w wr
theorem LB.below {w wr w' : World} {k n a b c o v : Value} (h : LB w wr k n a b c o v) (hb : Below wr.heap.size wr w') : LB w w' k n a b c o v:=⟨(hb.block _ (zlb h.blk)).trans h.blk,h.bel.trans (hb.mono h.bel.size)⟩
theorem LB.set0 {w wr : World} {k n a b c o v : Value} (h : LB w wr k n a b c o v) (u : Value) : LB w (wr.setCell ⟨w.heap.size,0,none⟩ u) u n a b c o v:=⟨(set7 h.blk u).1,h.bel.setCell (znr _) _⟩
theorem LB.set1 {w wr : World} {k n a b c o v : Value} (h : LB w wr k n a b c o v) (u : Value) : LB w (wr.setCell ⟨w.heap.size,1,none⟩ u) k u a b c o v:=⟨(set7 h.blk u).2.1,h.bel.setCell (znr _) _⟩
theorem LB.set5 {w wr : World} {k n a b c o v : Value} (h : LB w wr k n a b c o v) (u : Value) : LB w (wr.setCell ⟨w.heap.size,5,none⟩ u) k n a b c u v:=⟨(set7 h.blk u).2.2.1,h.bel.setCell (znr _) _⟩
theorem LB.set6 {w wr : World} {k n a b c o v : Value} (h : LB w wr k n a b c o v) (u : Value) : LB w (wr.setCell ⟨w.heap.size,6,none⟩ u) k n a b c o u:=⟨(set7 h.blk u).2.2.2,h.bel.setCell (znr _) _⟩
theorem LB.yS {w wr : World} {k n a b c o v : Value} (h : LB w wr k n a b c o v) (x y z : Value) : LB w (((wr.setCell ⟨w.heap.size,2,none⟩ x).setCell ⟨w.heap.size,3,none⟩ y).setCell ⟨w.heap.size,4,none⟩ z) k n x y z o v:=⟨set7v h.blk x y z,((h.bel.setCell (znr _) _).setCell (znr _) _).setCell (znr _) _⟩
theorem LB.fill {w wr : World} {k n a b c o v : Value} (h : LB w wr k n a b c o v) (k' n' a' b' c' o' v' : Value) : LB w (((((((wr.setCell ⟨w.heap.size,0,none⟩ k').setCell ⟨w.heap.size,1,none⟩ n').setCell ⟨w.heap.size,2,none⟩ a').setCell ⟨w.heap.size,3,none⟩ b').setCell ⟨w.heap.size,4,none⟩ c').setCell ⟨w.heap.size,5,none⟩ o').setCell ⟨w.heap.size,6,none⟩ v') k' n' a' b' c' o' v' :=
 ((((h.set0 k').set1 n').yS a' b' c').set5 o').set6 v'
theorem LB.cells {w wr : World} {k n a b c o v : Value} (h : LB w wr k n a b c o v) : wr.cell? ⟨w.heap.size,0,none⟩ = some k ∧ wr.cell? ⟨w.heap.size,1,none⟩ = some n ∧ wr.cell? ⟨w.heap.size,2,none⟩ = some a ∧ wr.cell? ⟨w.heap.size,3,none⟩ = some b ∧ wr.cell? ⟨w.heap.size,4,none⟩ = some c ∧ wr.cell? ⟨w.heap.size,5,none⟩ = some o ∧ wr.cell? ⟨w.heap.size,6,none⟩ = some v:=kz h.blk
theorem LB.free {w wr : World} {k n a b c o v : Value} (h : LB w wr k n a b c o v) : wr.frozen? ⟨w.heap.size,0,none⟩ = false ∧ wr.frozen? ⟨w.heap.size,1,none⟩ = false ∧ wr.frozen? ⟨w.heap.size,2,none⟩ = false ∧ wr.frozen? ⟨w.heap.size,3,none⟩ = false ∧ wr.frozen? ⟨w.heap.size,4,none⟩ = false ∧ wr.frozen? ⟨w.heap.size,5,none⟩ = false ∧ wr.frozen? ⟨w.heap.size,6,none⟩ = false:=by
 refine ⟨?_,?_,?_,?_,?_,?_,?_⟩
 all_goals simp [World.frozen?,h.blk]
theorem LB.lt {w wr : World} {k n a b c o v : Value} (h : LB w wr k n a b c o v) : w.heap.size < wr.heap.size:=zlb h.blk
theorem zaH {w : World} {v : Value} {l : List Spn} (h : yx w v l) {p : Nat} (hb : ∀ b,v.ownBlock = some b → p ≠ b) (j : Nat) (u : Value) : yx (w.setCell ⟨p,j,none⟩ u) v l:=by
 rcases h with h | ⟨g,cap,f,rfl,h1,h2,h3⟩
 · exact .inl h
 ·
  have:=hb g rfl
  exact .inr ⟨g,cap,f,rfl,h1,h2.keep (zhc _ _ _ _ (by show g ≠ p;omega)),h3⟩
theorem ze9 {w : World} {v : Value} {l : List Spn} (h : yx w v l) {p : Nat} (hb : ∀ b,v.ownBlock = some b → p < b) (k' n' a' b' c' o' v' : Value) : yx (((((((w.setCell ⟨p,0,none⟩ k').setCell ⟨p,1,none⟩ n').setCell ⟨p,2,none⟩ a').setCell ⟨p,3,none⟩ b').setCell ⟨p,4,none⟩ c').setCell ⟨p,5,none⟩ o').setCell ⟨p,6,none⟩ v') v l:=by
 have hb2 : ∀ b,v.ownBlock = some b → p ≠ b:=fun b h => Nat.ne_of_lt (hb b h)
 exact zaH (zaH (zaH (zaH (zaH (zaH (zaH h hb2 _ _) hb2 _ _) hb2 _ _) hb2 _ _) hb2 _ _) hb2 _ _) hb2 _ _
theorem zlg {w : World} {b p : Nat} {k n a c d e f : Value} (h : ∃ k pl,w.heap[b]? = some (.cells #[.int .i64 k,.int .i64 pl] 158 (0,0))) (hp : w.heap[p]? = some (.cells #[k,n,a,c,d,e,f] 77 (0,0))) : b ≠ p:=by
 rintro rfl
 obtain ⟨k,pl,h⟩:=h
 rw [h] at hp
 simp at hp
theorem zmo {w : World} {p : Nat} {er : Value} {k' n' a' b' c' o' v' : Value} (h : zby w er) (hx : ∀ b,(∃ k pl,w.heap[b]? = some (.cells #[.int .i64 k,.int .i64 pl] 158 (0,0))) → b ≠ p) : zby (((((((w.setCell ⟨p,0,none⟩ k').setCell ⟨p,1,none⟩ n').setCell ⟨p,2,none⟩ a').setCell ⟨p,3,none⟩ b').setCell ⟨p,4,none⟩ c').setCell ⟨p,5,none⟩ o').setCell ⟨p,6,none⟩ v') er:=by
 rcases h with ⟨k,rfl⟩ | ⟨q,k,pl,rfl,h⟩
 · exact .inl ⟨k,rfl⟩
 ·
  have hne:=hx q ⟨k,pl,h⟩
  refine .inr ⟨q,k,pl,rfl,?_⟩
  have key : ∀ (w' : World) (j : Nat) (u : Value),(w'.setCell ⟨p,j,none⟩ u).heap[q]? = w'.heap[q]?:=fun w' j u => zhc _ _ _ _ (by show q ≠ p;exact hne)
  rw [key,key,key,key,key,key,key]
  exact h
theorem zfk {w : World} {p : Nat} {er : Value} {u k' n' a' b' c' o' v' : Value} (h : zby w er) (hx : ∀ b,(∃ k pl,w.heap[b]? = some (.cells #[.int .i64 k,.int .i64 pl] 158 (0,0))) → b ≠ p) : zby ((((((((w.setCell ⟨p,6,none⟩ u).setCell ⟨p,0,none⟩ k').setCell ⟨p,1,none⟩ n').setCell ⟨p,2,none⟩ a').setCell ⟨p,3,none⟩ b').setCell ⟨p,4,none⟩ c').setCell ⟨p,5,none⟩ o').setCell ⟨p,6,none⟩ v') er:=by
 rcases h with ⟨k,rfl⟩ | ⟨q,k,pl,rfl,h⟩
 · exact .inl ⟨k,rfl⟩
 ·
  have hne:=hx q ⟨k,pl,h⟩
  refine .inr ⟨q,k,pl,rfl,?_⟩
  have key : ∀ (w' : World) (j : Nat) (u : Value),(w'.setCell ⟨p,j,none⟩ u).heap[q]? = w'.heap[q]?:=fun w' j u => zhc _ _ _ _ (by show q ≠ p;exact hne)
  rw [key,key,key,key,key,key,key,key]
  exact h
set_option maxRecDepth 100000 in
set_option maxHeartbeats 16000000 in
theorem zpb (s : ByteArray) (w : World) (hs : s.size ≤ 20000) (hL : xQ w) (hT : zV w) : Calls Tryz.prog 83 #[.string s] w (zqq s w):=by
 have hz1:=zcq s
 have hz2:=zcq (zq s)
 have hz3:=zcq (zq (zq s))
 have hz4:=zcq (zq (zq (zq s)))
 have HLT:=hid (show ∀ w',Below w.heap.size w w' → xQ w' ∧ zV w' from fun w' hw => ⟨hL.below hw,hT.below hw⟩)
 have HCut:=hid (show ∀ t w',t.size ≤ 20000 → Below w.heap.size w w' → Calls Tryz.prog 137 #[.string t,.string ⟨#[32]⟩] w' fun e w'' => (∃ b,e = .returned (.tuple #[.string (zN t),.string (zq t),.bool b])) ∧ Below w'.heap.size w' w'' from fun t w' ht hw => zpx t w' (by omega) (HLT.out w' hw).1)
 have Hz:=hid (show s.size ≤ 20000 ∧ (zq s).size ≤ 20000 ∧ (zq (zq s)).size ≤ 20000 ∧ (zq (zq (zq s))).size ≤ 20000 ∧ (zq (zq (zq (zq s)))).size ≤ 20000 ∧ (zN (zq (zq s))).size ≤ 20000 ∧ (zN (zq s)).size ≤ 20000 ∧ (zN (zq (zq (zq s)))).size ≤ 20000 by omega)
 obtain ⟨W0,hW0⟩ : ∃ W0,W0 = w.alloc (.cells #[.int .i64 0,.string ⟨#[]⟩,.int .i64 0,.int .i64 0,.int .i64 0,.string ⟨#[]⟩,.slice none 0 0] 77):=⟨_,rfl⟩
 have hB0 : LB w W0 (.int .i64 0) (.string ⟨#[]⟩) (.int .i64 0) (.int .i64 0) (.int .i64 0) (.string ⟨#[]⟩) (.slice none 0 0):=by rw [hW0];exact ⟨za rfl,zba⟩
 have HB0:=hid hB0
 clear hB0 hL hT hs hz1 hz2 hz3 hz4
 go_enter Tryz.func83,Tryz.ntmps83
 go_upto_region 1 with fail
 rw [← hW0]
 clear hW0
 go_wp2_with fail
 refine (HCut.out _ _ Hz.out.1 HB0.out.bel).mono ?_
 rintro e w1 ⟨⟨b1,rfl⟩,hb1⟩
 have HI:=hid (zpP w1.heap.size (zN s) (w1.alloc (.cells #[.string ⟨#[]⟩,.string ⟨#[112,97,99,107,97,103,101]⟩,.string ⟨#[110,101,101,100,115]⟩,.string ⟨#[99,108,97,115,104,101,115]⟩,.string ⟨#[114,111,111,116]⟩] 9)) (za rfl))
 have hB1:=(HB0.out.below hb1).below ((Below.refl _ _).alloc (znr _) (.cells #[.string ⟨#[]⟩,.string ⟨#[112,97,99,107,97,103,101]⟩,.string ⟨#[110,101,101,100,115]⟩,.string ⟨#[99,108,97,115,104,101,115]⟩,.string ⟨#[114,111,111,116]⟩] 9))
 have HB1:=hid hB1
 clear hB1 hb1 HB0
 obtain ⟨K,hK⟩ : ∃ K,K = kindOf (zN s):=⟨_,rfl⟩
 have hKc:=zhF (zN s)
 rw [← hK] at HI hKc
 have HKc:=hid hKc
 clear hK hKc
 go_wp2_with fail
 refine HI.out.mono ?_
 rintro e w2 ⟨rfl,hw2⟩
 rw [← hw2] at HB1
 clear hw2 HI
 obtain ⟨k0,k1,k2,k3,k4,k5,k6⟩:=HB1.out.cells
 obtain ⟨f0,f1,f2,f3,f4,f5,f6⟩:=HB1.out.free
 have hlt:=HB1.out.lt
 have HB2:=hid (HB1.out.set0 (.int .i64 K))
 clear HB1
 rcases HKc.out with ⟨hw,rfl⟩ | ⟨hw,rfl⟩ | ⟨hw,rfl⟩ | ⟨hw,rfl⟩ | ⟨n1,n2,n3,n4,hk⟩
 ·
  have Hw:=hid hw;clear hw
  go_wp2_with fail
  refine (HCut.out (zq s) _ Hz.out.2.1 HB2.out.bel).mono ?_
  rintro e w3 ⟨⟨b3,rfl⟩,hb3⟩
  have HC3:=hid (HB2.out.below hb3)
  clear k0 k1 k2 k3 k4 k5 k6 f0 f1 f2 f3 f4 f5 f6 hlt
  clear hb3 HB2
  obtain ⟨k0,k1,k2,k3,k4,k5,k6⟩:=HC3.out.cells
  obtain ⟨f0,f1,f2,f3,f4,f5,f6⟩:=HC3.out.free
  have hlt:=HC3.out.lt
  have HB3:=hid (HC3.out.set1 (.string (zN (zq s))))
  clear HC3
  go_wp2_with fail
  refine (HCut.out (zq (zq s)) _ Hz.out.2.2.1 HB3.out.bel).mono ?_
  rintro e w4 ⟨⟨b4,rfl⟩,hb4⟩
  have HC4:=hid (HB3.out.below hb4)
  clear k0 k1 k2 k3 k4 k5 k6 f0 f1 f2 f3 f4 f5 f6 hlt
  clear hb4 HB3
  obtain ⟨k0,k1,k2,k3,k4,k5,k6⟩:=HC4.out.cells
  obtain ⟨f0,f1,f2,f3,f4,f5,f6⟩:=HC4.out.free
  have hlt:=HC4.out.lt
  have HB4:=hid HC4.out
  clear HC4
  have HPs:=hid (zci (zN (zq (zq s))) w4 (by have:=Hz.out.2.2.2.2.2.1;omega) (HLT.out _ HB4.out.bel).1)
  go_wp2_with fail
  refine HPs.out.mono ?_
  rintro e w5 ⟨a,b,c,er,rfl,hb5,hver⟩
  have HC5:=hid (HB4.out.below hb5)
  clear k0 k1 k2 k3 k4 k5 k6 f0 f1 f2 f3 f4 f5 f6 hlt
  clear hb5 HB4 HPs
  obtain ⟨k0,k1,k2,k3,k4,k5,k6⟩:=HC5.out.cells
  obtain ⟨f0,f1,f2,f3,f4,f5,f6⟩:=HC5.out.free
  have hlt:=HC5.out.lt
  have HB5:=hid (HC5.out.yS (.int .i64 a) (.int .i64 b) (.int .i64 c))
  clear HC5
  rcases hver with ⟨rfl,hok⟩ | ⟨⟨q,rfl⟩,hbad⟩
  rotate_left
  ·
   have Hbad:=hid hbad;clear hbad
   go_wp2_with fail
   have hF:=HB5.out.fill (.int .i64 0) (.string ⟨#[]⟩) (.int .i64 0) (.int .i64 0) (.int .i64 0) (.string ⟨#[]⟩) (.slice none 0 0)
   obtain ⟨WF,hWF⟩ : ∃ x,x = ((((((((((w5.setCell ⟨w.heap.size,2,none⟩ (.int .i64 a)).setCell ⟨w.heap.size,3,none⟩ (.int .i64 b)).setCell ⟨w.heap.size,4,none⟩ (.int .i64 c)).setCell ⟨w.heap.size,0,none⟩ (.int .i64 0)).setCell ⟨w.heap.size,1,none⟩ (.string ⟨#[]⟩)).setCell ⟨w.heap.size,2,none⟩ (.int .i64 0)).setCell ⟨w.heap.size,3,none⟩ (.int .i64 0)).setCell ⟨w.heap.size,4,none⟩ (.int .i64 0)).setCell ⟨w.heap.size,5,none⟩ (.string ⟨#[]⟩)).setCell ⟨w.heap.size,6,none⟩ (.slice none 0 0)):=⟨_,rfl⟩
   rw [← hWF] at hF ⊢
   clear hWF
   obtain ⟨z0,z1,z2,z3,z4,z5,z6⟩:=hF.cells
   refine bodyPost_ret (v:=.tuple #[.agg #[.int .i64 0,.string ⟨#[]⟩,.int .i64 0,.int .i64 0,.int .i64 0,.string ⟨#[]⟩,.slice none 0 0],.iface 45 (.int .i64 q)]) (by simp [results,Tryz.results83,go_sem,z0,z1,z2,z3,z4,z5,z6]) rfl ⟨.inr ⟨_,_,_,_,_,_,_,_,_,_,rfl,.inl ⟨q,rfl⟩,fun x hx => Hbad.out _ _ _ (zih Hw.out hx).2.1⟩,hF.bel⟩
  have Hok:=hid hok;clear hok
  by_cases hr : zq (zq (zq s)) = ByteArray.empty
  ·
   have te : (zq (zq (zq s))).toList.isEmpty = true:=kU.2 hr
   have Hr:=hid hr;clear hr
   go_wp2_with fail
   have hF:=HB5.out.fill (.int .i64 1) (.string (zN (zq s))) (.int .i64 a) (.int .i64 b) (.int .i64 c) (.string ⟨#[]⟩) (.slice none 0 0)
   obtain ⟨WF,hWF⟩ : ∃ x,x = ((((((((((w5.setCell ⟨w.heap.size,2,none⟩ (.int .i64 a)).setCell ⟨w.heap.size,3,none⟩ (.int .i64 b)).setCell ⟨w.heap.size,4,none⟩ (.int .i64 c)).setCell ⟨w.heap.size,0,none⟩ (.int .i64 1)).setCell ⟨w.heap.size,1,none⟩ (.string (zN (zq s)))).setCell ⟨w.heap.size,2,none⟩ (.int .i64 a)).setCell ⟨w.heap.size,3,none⟩ (.int .i64 b)).setCell ⟨w.heap.size,4,none⟩ (.int .i64 c)).setCell ⟨w.heap.size,5,none⟩ (.string ⟨#[]⟩)).setCell ⟨w.heap.size,6,none⟩ (.slice none 0 0)):=⟨_,rfl⟩
   rw [← hWF] at hF ⊢
   clear hWF
   obtain ⟨z0,z1,z2,z3,z4,z5,z6⟩:=hF.cells
   refine bodyPost_ret (v:=.tuple #[.agg (zT (⟨1,zN (zq s),a,b,c,⟨#[]⟩,[],.slice none 0 0⟩ : zm)).toArray,.nilIface]) (by simp [results,Tryz.results83,go_sem,zT,z0,z1,z2,z3,z4,z5,z6]) rfl ⟨.inl ⟨(⟨1,zN (zq s),a,b,c,⟨#[]⟩,[],.slice none 0 0⟩ : zm),rfl,⟨rfl,.inl ⟨rfl,Hw.out,Hok.out,Hr.out,rfl,rfl⟩⟩,⟨yx.nil _,by simp,Canon.nil,by have:=Hz.out;simp only;omega,znz _⟩,fun b hb => by cases hb⟩,hF.bel⟩
  ·
   have te : (zq (zq (zq s))).toList.isEmpty = false:=by rw [Bool.eq_false_iff];exact fun q => hr (kU.1 q)
   have Hr:=hid hr;clear hr
   go_wp2_with fail
   have hF:=HB5.out.fill (.int .i64 0) (.string ⟨#[]⟩) (.int .i64 0) (.int .i64 0) (.int .i64 0) (.string ⟨#[]⟩) (.slice none 0 0)
   obtain ⟨WF,hWF⟩ : ∃ x,x = ((((((((((w5.setCell ⟨w.heap.size,2,none⟩ (.int .i64 a)).setCell ⟨w.heap.size,3,none⟩ (.int .i64 b)).setCell ⟨w.heap.size,4,none⟩ (.int .i64 c)).setCell ⟨w.heap.size,0,none⟩ (.int .i64 0)).setCell ⟨w.heap.size,1,none⟩ (.string ⟨#[]⟩)).setCell ⟨w.heap.size,2,none⟩ (.int .i64 0)).setCell ⟨w.heap.size,3,none⟩ (.int .i64 0)).setCell ⟨w.heap.size,4,none⟩ (.int .i64 0)).setCell ⟨w.heap.size,5,none⟩ (.string ⟨#[]⟩)).setCell ⟨w.heap.size,6,none⟩ (.slice none 0 0)):=⟨_,rfl⟩
   rw [← hWF] at hF ⊢
   clear hWF
   obtain ⟨z0,z1,z2,z3,z4,z5,z6⟩:=hF.cells
   refine bodyPost_ret (v:=.tuple #[.agg #[.int .i64 0,.string ⟨#[]⟩,.int .i64 0,.int .i64 0,.int .i64 0,.string ⟨#[]⟩,.slice none 0 0],.iface 45 (.int .i64 3)]) (by simp [results,Tryz.results83,go_sem,z0,z1,z2,z3,z4,z5,z6]) rfl ⟨.inr ⟨_,_,_,_,_,_,_,_,_,_,rfl,.inl ⟨3,rfl⟩,fun x hx => Hr.out (zih Hw.out hx).2.2⟩,hF.bel⟩
 ·
  have Hw:=hid (show zN s = jo ∨ zN s = xU from .inl hw)
  have Hww:=hid hw;clear hw
  go_wp2_with fail
  refine (HCut.out (zq s) _ Hz.out.2.1 HB2.out.bel).mono ?_
  rintro e w3 ⟨⟨b3,rfl⟩,hb3⟩
  have HC3:=hid (HB2.out.below hb3)
  clear k0 k1 k2 k3 k4 k5 k6 f0 f1 f2 f3 f4 f5 f6 hlt
  clear hb3 HB2
  obtain ⟨k0,k1,k2,k3,k4,k5,k6⟩:=HC3.out.cells
  obtain ⟨f0,f1,f2,f3,f4,f5,f6⟩:=HC3.out.free
  have hlt:=HC3.out.lt
  have HB3:=hid (HC3.out.set1 (.string (zN (zq s))))
  clear HC3
  go_wp2_with fail
  refine (HCut.out (zq (zq s)) _ Hz.out.2.2.1 HB3.out.bel).mono ?_
  rintro e w4 ⟨⟨b4,rfl⟩,hb4⟩
  have HC4:=hid (HB3.out.below hb4)
  clear k0 k1 k2 k3 k4 k5 k6 f0 f1 f2 f3 f4 f5 f6 hlt
  clear hb4 HB3
  obtain ⟨k0,k1,k2,k3,k4,k5,k6⟩:=HC4.out.cells
  obtain ⟨f0,f1,f2,f3,f4,f5,f6⟩:=HC4.out.free
  have hlt:=HC4.out.lt
  have HB4:=hid HC4.out
  clear HC4
  have HPs:=hid (zci (zN (zq (zq s))) w4 (by have:=Hz.out.2.2.2.2.2.1;omega) (HLT.out _ HB4.out.bel).1)
  go_wp2_with fail
  refine HPs.out.mono ?_
  rintro e w5 ⟨a,b,c,er,rfl,hb5,hver⟩
  have HC5:=hid (HB4.out.below hb5)
  clear k0 k1 k2 k3 k4 k5 k6 f0 f1 f2 f3 f4 f5 f6 hlt
  clear hb5 HB4 HPs
  obtain ⟨k0,k1,k2,k3,k4,k5,k6⟩:=HC5.out.cells
  obtain ⟨f0,f1,f2,f3,f4,f5,f6⟩:=HC5.out.free
  have hlt:=HC5.out.lt
  have HB5:=hid (HC5.out.yS (.int .i64 a) (.int .i64 b) (.int .i64 c))
  clear HC5
  rcases hver with ⟨rfl,hok⟩ | ⟨⟨q,rfl⟩,hbad⟩
  rotate_left
  ·
   have Hbad:=hid hbad;clear hbad
   go_wp2_with fail
   have hF:=HB5.out.fill (.int .i64 0) (.string ⟨#[]⟩) (.int .i64 0) (.int .i64 0) (.int .i64 0) (.string ⟨#[]⟩) (.slice none 0 0)
   obtain ⟨WF,hWF⟩ : ∃ x,x = ((((((((((w5.setCell ⟨w.heap.size,2,none⟩ (.int .i64 a)).setCell ⟨w.heap.size,3,none⟩ (.int .i64 b)).setCell ⟨w.heap.size,4,none⟩ (.int .i64 c)).setCell ⟨w.heap.size,0,none⟩ (.int .i64 0)).setCell ⟨w.heap.size,1,none⟩ (.string ⟨#[]⟩)).setCell ⟨w.heap.size,2,none⟩ (.int .i64 0)).setCell ⟨w.heap.size,3,none⟩ (.int .i64 0)).setCell ⟨w.heap.size,4,none⟩ (.int .i64 0)).setCell ⟨w.heap.size,5,none⟩ (.string ⟨#[]⟩)).setCell ⟨w.heap.size,6,none⟩ (.slice none 0 0)):=⟨_,rfl⟩
   rw [← hWF] at hF ⊢
   clear hWF
   obtain ⟨z0,z1,z2,z3,z4,z5,z6⟩:=hF.cells
   refine bodyPost_ret (v:=.tuple #[.agg #[.int .i64 0,.string ⟨#[]⟩,.int .i64 0,.int .i64 0,.int .i64 0,.string ⟨#[]⟩,.slice none 0 0],.iface 45 (.int .i64 q)]) (by simp [results,Tryz.results83,go_sem,z0,z1,z2,z3,z4,z5,z6]) rfl ⟨.inr ⟨_,_,_,_,_,_,_,_,_,_,rfl,.inl ⟨q,rfl⟩,fun x hx => Hbad.out _ _ _ (zaX Hw.out hx).1⟩,hF.bel⟩
  have Hok:=hid hok;clear hok
  go_wp2_with fail
  refine (HCut.out (zq (zq (zq s))) _ Hz.out.2.2.2.1 HB5.out.bel).mono ?_
  rintro e w6 ⟨⟨b6,rfl⟩,hb6⟩
  have HC6:=hid (HB5.out.below hb6)
  clear k0 k1 k2 k3 k4 k5 k6 f0 f1 f2 f3 f4 f5 f6 hlt
  clear hb6 HB5
  obtain ⟨k0,k1,k2,k3,k4,k5,k6⟩:=HC6.out.cells
  obtain ⟨f0,f1,f2,f3,f4,f5,f6⟩:=HC6.out.free
  have hlt:=HC6.out.lt
  have HB6:=hid (HC6.out.set5 (.string (zN (zq (zq (zq s))))))
  clear HC6
  have HR:=hid (zet (zq (zq (zq (zq s)))) _ (by have:=Hz.out.2.2.2.2.1;omega) (HLT.out _ HB6.out.bel).1 (HLT.out _ HB6.out.bel).2)
  go_wp2_with fail
  refine HR.out.mono ?_
  rintro e w8 ⟨v8,r8,e8,rfl,hs8,hf8,hl8,hb8,hc8⟩
  obtain ⟨a8,c8,rfl,_,_⟩:=hs8.shape
  have HC8:=hid (HB6.out.below hb8)
  have Hf8:=hid (fun b hb => Nat.lt_of_lt_of_le HB6.out.lt (hf8 b hb))
  clear k0 k1 k2 k3 k4 k5 k6 f0 f1 f2 f3 f4 f5 f6 hlt
  have HX8:=hid (fun (b : Nat) (hb : ∃ k pl,w8.heap[b]? = some (.cells #[.int .i64 k,.int .i64 pl] 158 (0,0))) => zlg hb HC8.out.blk)
  clear hb8 hf8 HB6 HR
  obtain ⟨k0,k1,k2,k3,k4,k5,k6⟩:=HC8.out.cells
  obtain ⟨f0,f1,f2,f3,f4,f5,f6⟩:=HC8.out.free
  have hlt:=HC8.out.lt
  have HB8:=hid (HC8.out.set6 (.slice a8 r8.length c8))
  have hs9 : yx (w8.setCell ⟨w.heap.size,6,none⟩ (.slice a8 r8.length c8)) (.slice a8 r8.length c8) r8:=zaH hs8 (fun b hb => Nat.ne_of_lt (Hf8.out b hb)) _ _
  have Hs9:=hid hs9;have Hl8:=hid hl8
  clear HC8 hs8 hs9 hl8
  rcases hc8 with ⟨rfl,hsz8,htx⟩ | ⟨he8,hr0,hno⟩
  ·
   have Htx:=hid htx;have Hsz8:=hid hsz8;clear htx hsz8
   go_wp2_with fail
   have hF:=HB8.out.fill (.int .i64 2) (.string (zN (zq s))) (.int .i64 a) (.int .i64 b) (.int .i64 c) (.string (zN (zq (zq (zq s))))) (.slice a8 r8.length c8)
   have hsF:=ze9 Hs9.out (fun b hb => Hf8.out b hb) (.int .i64 2) (.string (zN (zq s))) (.int .i64 a) (.int .i64 b) (.int .i64 c) (.string (zN (zq (zq (zq s))))) (.slice a8 r8.length c8)
   obtain ⟨WF,hWF⟩ : ∃ x,x = ((((((((w8.setCell ⟨w.heap.size,6,none⟩ (.slice a8 r8.length c8)).setCell ⟨w.heap.size,0,none⟩ (.int .i64 2)).setCell ⟨w.heap.size,1,none⟩ (.string (zN (zq s)))).setCell ⟨w.heap.size,2,none⟩ (.int .i64 a)).setCell ⟨w.heap.size,3,none⟩ (.int .i64 b)).setCell ⟨w.heap.size,4,none⟩ (.int .i64 c)).setCell ⟨w.heap.size,5,none⟩ (.string (zN (zq (zq (zq s)))))).setCell ⟨w.heap.size,6,none⟩ (.slice a8 r8.length c8)):=⟨_,rfl⟩
   rw [← hWF] at hF hsF ⊢
   clear hWF
   obtain ⟨z0,z1,z2,z3,z4,z5,z6⟩:=hF.cells
   refine bodyPost_ret (v:=.tuple #[.agg (zT (⟨2,zN (zq s),a,b,c,zN (zq (zq (zq s))),r8,.slice a8 r8.length c8⟩ : zm)).toArray,.nilIface]) (by simp [results,Tryz.results83,go_sem,zT,z0,z1,z2,z3,z4,z5,z6]) rfl ⟨.inl ⟨(⟨2,zN (zq s),a,b,c,zN (zq (zq (zq s))),r8,.slice a8 r8.length c8⟩ : zm),rfl,⟨rfl,.inr (.inl ⟨.inl ⟨rfl,Hww.out⟩,Hok.out,rfl,Hsz8.out,Htx.out⟩)⟩,⟨hsF,Hl8.out,Htx.out.can,by have:=Hz.out;simp only;omega,by have:=Hz.out;simp only;first | omega | exact znz _⟩,fun b hb => Nat.le_of_lt (Hf8.out b hb)⟩,hF.bel⟩
  ·
   obtain ⟨t8,x8,rfl⟩:=zck he8
   have Hno:=hid hno;have He8:=hid he8;clear hno he8
   subst hr0
   simp only [List.length_nil] at HB8 ⊢
   go_wp2_with fail
   have hF:=HB8.out.fill (.int .i64 2) (.string (zN (zq s))) (.int .i64 a) (.int .i64 b) (.int .i64 c) (.string (zN (zq (zq (zq s))))) (.slice a8 0 c8)
   have heF:=zfk (u:=.slice a8 0 c8) (k':=.int .i64 2) (n':=.string (zN (zq s))) (a':=.int .i64 a) (b':=.int .i64 b) (c':=.int .i64 c) (o':=.string (zN (zq (zq (zq s))))) (v':=.slice a8 0 c8) He8.out HX8.out
   obtain ⟨WF,hWF⟩ : ∃ x,x = ((((((((w8.setCell ⟨w.heap.size,6,none⟩ (.slice a8 0 c8)).setCell ⟨w.heap.size,0,none⟩ (.int .i64 2)).setCell ⟨w.heap.size,1,none⟩ (.string (zN (zq s)))).setCell ⟨w.heap.size,2,none⟩ (.int .i64 a)).setCell ⟨w.heap.size,3,none⟩ (.int .i64 b)).setCell ⟨w.heap.size,4,none⟩ (.int .i64 c)).setCell ⟨w.heap.size,5,none⟩ (.string (zN (zq (zq (zq s)))))).setCell ⟨w.heap.size,6,none⟩ (.slice a8 0 c8)):=⟨_,rfl⟩
   rw [← hWF] at hF heF ⊢
   clear hWF
   obtain ⟨z0,z1,z2,z3,z4,z5,z6⟩:=hF.cells
   refine bodyPost_ret (v:=.tuple #[.agg #[.int .i64 2,.string (zN (zq s)),.int .i64 a,.int .i64 b,.int .i64 c,.string (zN (zq (zq (zq s)))),.slice a8 0 c8],.iface t8 x8]) (by simp [results,Tryz.results83,go_sem,z0,z1,z2,z3,z4,z5,z6]) rfl ⟨.inr ⟨_,_,_,_,_,_,_,_,_,_,rfl,heF,fun x hx => Hno.out _ (zaX Hw.out hx).2.1 (zaX Hw.out hx).2.2⟩,hF.bel⟩
 ·
  have Hw:=hid (show zN s = jo ∨ zN s = xU from .inr hw)
  have Hww:=hid hw;clear hw
  go_wp2_with fail
  refine (HCut.out (zq s) _ Hz.out.2.1 HB2.out.bel).mono ?_
  rintro e w3 ⟨⟨b3,rfl⟩,hb3⟩
  have HC3:=hid (HB2.out.below hb3)
  clear k0 k1 k2 k3 k4 k5 k6 f0 f1 f2 f3 f4 f5 f6 hlt
  clear hb3 HB2
  obtain ⟨k0,k1,k2,k3,k4,k5,k6⟩:=HC3.out.cells
  obtain ⟨f0,f1,f2,f3,f4,f5,f6⟩:=HC3.out.free
  have hlt:=HC3.out.lt
  have HB3:=hid (HC3.out.set1 (.string (zN (zq s))))
  clear HC3
  go_wp2_with fail
  refine (HCut.out (zq (zq s)) _ Hz.out.2.2.1 HB3.out.bel).mono ?_
  rintro e w4 ⟨⟨b4,rfl⟩,hb4⟩
  have HC4:=hid (HB3.out.below hb4)
  clear k0 k1 k2 k3 k4 k5 k6 f0 f1 f2 f3 f4 f5 f6 hlt
  clear hb4 HB3
  obtain ⟨k0,k1,k2,k3,k4,k5,k6⟩:=HC4.out.cells
  obtain ⟨f0,f1,f2,f3,f4,f5,f6⟩:=HC4.out.free
  have hlt:=HC4.out.lt
  have HB4:=hid HC4.out
  clear HC4
  have HPs:=hid (zci (zN (zq (zq s))) w4 (by have:=Hz.out.2.2.2.2.2.1;omega) (HLT.out _ HB4.out.bel).1)
  go_wp2_with fail
  refine HPs.out.mono ?_
  rintro e w5 ⟨a,b,c,er,rfl,hb5,hver⟩
  have HC5:=hid (HB4.out.below hb5)
  clear k0 k1 k2 k3 k4 k5 k6 f0 f1 f2 f3 f4 f5 f6 hlt
  clear hb5 HB4 HPs
  obtain ⟨k0,k1,k2,k3,k4,k5,k6⟩:=HC5.out.cells
  obtain ⟨f0,f1,f2,f3,f4,f5,f6⟩:=HC5.out.free
  have hlt:=HC5.out.lt
  have HB5:=hid (HC5.out.yS (.int .i64 a) (.int .i64 b) (.int .i64 c))
  clear HC5
  rcases hver with ⟨rfl,hok⟩ | ⟨⟨q,rfl⟩,hbad⟩
  rotate_left
  ·
   have Hbad:=hid hbad;clear hbad
   go_wp2_with fail
   have hF:=HB5.out.fill (.int .i64 0) (.string ⟨#[]⟩) (.int .i64 0) (.int .i64 0) (.int .i64 0) (.string ⟨#[]⟩) (.slice none 0 0)
   obtain ⟨WF,hWF⟩ : ∃ x,x = ((((((((((w5.setCell ⟨w.heap.size,2,none⟩ (.int .i64 a)).setCell ⟨w.heap.size,3,none⟩ (.int .i64 b)).setCell ⟨w.heap.size,4,none⟩ (.int .i64 c)).setCell ⟨w.heap.size,0,none⟩ (.int .i64 0)).setCell ⟨w.heap.size,1,none⟩ (.string ⟨#[]⟩)).setCell ⟨w.heap.size,2,none⟩ (.int .i64 0)).setCell ⟨w.heap.size,3,none⟩ (.int .i64 0)).setCell ⟨w.heap.size,4,none⟩ (.int .i64 0)).setCell ⟨w.heap.size,5,none⟩ (.string ⟨#[]⟩)).setCell ⟨w.heap.size,6,none⟩ (.slice none 0 0)):=⟨_,rfl⟩
   rw [← hWF] at hF ⊢
   clear hWF
   obtain ⟨z0,z1,z2,z3,z4,z5,z6⟩:=hF.cells
   refine bodyPost_ret (v:=.tuple #[.agg #[.int .i64 0,.string ⟨#[]⟩,.int .i64 0,.int .i64 0,.int .i64 0,.string ⟨#[]⟩,.slice none 0 0],.iface 45 (.int .i64 q)]) (by simp [results,Tryz.results83,go_sem,z0,z1,z2,z3,z4,z5,z6]) rfl ⟨.inr ⟨_,_,_,_,_,_,_,_,_,_,rfl,.inl ⟨q,rfl⟩,fun x hx => Hbad.out _ _ _ (zaX Hw.out hx).1⟩,hF.bel⟩
  have Hok:=hid hok;clear hok
  go_wp2_with fail
  refine (HCut.out (zq (zq (zq s))) _ Hz.out.2.2.2.1 HB5.out.bel).mono ?_
  rintro e w6 ⟨⟨b6,rfl⟩,hb6⟩
  have HC6:=hid (HB5.out.below hb6)
  clear k0 k1 k2 k3 k4 k5 k6 f0 f1 f2 f3 f4 f5 f6 hlt
  clear hb6 HB5
  obtain ⟨k0,k1,k2,k3,k4,k5,k6⟩:=HC6.out.cells
  obtain ⟨f0,f1,f2,f3,f4,f5,f6⟩:=HC6.out.free
  have hlt:=HC6.out.lt
  have HB6:=hid (HC6.out.set5 (.string (zN (zq (zq (zq s))))))
  clear HC6
  have HR:=hid (zet (zq (zq (zq (zq s)))) _ (by have:=Hz.out.2.2.2.2.1;omega) (HLT.out _ HB6.out.bel).1 (HLT.out _ HB6.out.bel).2)
  go_wp2_with fail
  refine HR.out.mono ?_
  rintro e w8 ⟨v8,r8,e8,rfl,hs8,hf8,hl8,hb8,hc8⟩
  obtain ⟨a8,c8,rfl,_,_⟩:=hs8.shape
  have HC8:=hid (HB6.out.below hb8)
  have Hf8:=hid (fun b hb => Nat.lt_of_lt_of_le HB6.out.lt (hf8 b hb))
  clear k0 k1 k2 k3 k4 k5 k6 f0 f1 f2 f3 f4 f5 f6 hlt
  have HX8:=hid (fun (b : Nat) (hb : ∃ k pl,w8.heap[b]? = some (.cells #[.int .i64 k,.int .i64 pl] 158 (0,0))) => zlg hb HC8.out.blk)
  clear hb8 hf8 HB6 HR
  obtain ⟨k0,k1,k2,k3,k4,k5,k6⟩:=HC8.out.cells
  obtain ⟨f0,f1,f2,f3,f4,f5,f6⟩:=HC8.out.free
  have hlt:=HC8.out.lt
  have HB8:=hid (HC8.out.set6 (.slice a8 r8.length c8))
  have hs9 : yx (w8.setCell ⟨w.heap.size,6,none⟩ (.slice a8 r8.length c8)) (.slice a8 r8.length c8) r8:=zaH hs8 (fun b hb => Nat.ne_of_lt (Hf8.out b hb)) _ _
  have Hs9:=hid hs9;have Hl8:=hid hl8
  clear HC8 hs8 hs9 hl8
  rcases hc8 with ⟨rfl,hsz8,htx⟩ | ⟨he8,hr0,hno⟩
  ·
   have Htx:=hid htx;have Hsz8:=hid hsz8;clear htx hsz8
   go_wp2_with fail
   have hF:=HB8.out.fill (.int .i64 3) (.string (zN (zq s))) (.int .i64 a) (.int .i64 b) (.int .i64 c) (.string (zN (zq (zq (zq s))))) (.slice a8 r8.length c8)
   have hsF:=ze9 Hs9.out (fun b hb => Hf8.out b hb) (.int .i64 3) (.string (zN (zq s))) (.int .i64 a) (.int .i64 b) (.int .i64 c) (.string (zN (zq (zq (zq s))))) (.slice a8 r8.length c8)
   obtain ⟨WF,hWF⟩ : ∃ x,x = ((((((((w8.setCell ⟨w.heap.size,6,none⟩ (.slice a8 r8.length c8)).setCell ⟨w.heap.size,0,none⟩ (.int .i64 3)).setCell ⟨w.heap.size,1,none⟩ (.string (zN (zq s)))).setCell ⟨w.heap.size,2,none⟩ (.int .i64 a)).setCell ⟨w.heap.size,3,none⟩ (.int .i64 b)).setCell ⟨w.heap.size,4,none⟩ (.int .i64 c)).setCell ⟨w.heap.size,5,none⟩ (.string (zN (zq (zq (zq s)))))).setCell ⟨w.heap.size,6,none⟩ (.slice a8 r8.length c8)):=⟨_,rfl⟩
   rw [← hWF] at hF hsF ⊢
   clear hWF
   obtain ⟨z0,z1,z2,z3,z4,z5,z6⟩:=hF.cells
   refine bodyPost_ret (v:=.tuple #[.agg (zT (⟨3,zN (zq s),a,b,c,zN (zq (zq (zq s))),r8,.slice a8 r8.length c8⟩ : zm)).toArray,.nilIface]) (by simp [results,Tryz.results83,go_sem,zT,z0,z1,z2,z3,z4,z5,z6]) rfl ⟨.inl ⟨(⟨3,zN (zq s),a,b,c,zN (zq (zq (zq s))),r8,.slice a8 r8.length c8⟩ : zm),rfl,⟨rfl,.inr (.inl ⟨.inr ⟨rfl,Hww.out⟩,Hok.out,rfl,Hsz8.out,Htx.out⟩)⟩,⟨hsF,Hl8.out,Htx.out.can,by have:=Hz.out;simp only;omega,by have:=Hz.out;simp only;first | omega | exact znz _⟩,fun b hb => Nat.le_of_lt (Hf8.out b hb)⟩,hF.bel⟩
  ·
   obtain ⟨t8,x8,rfl⟩:=zck he8
   have Hno:=hid hno;have He8:=hid he8;clear hno he8
   subst hr0
   simp only [List.length_nil] at HB8 ⊢
   go_wp2_with fail
   have hF:=HB8.out.fill (.int .i64 3) (.string (zN (zq s))) (.int .i64 a) (.int .i64 b) (.int .i64 c) (.string (zN (zq (zq (zq s))))) (.slice a8 0 c8)
   have heF:=zfk (u:=.slice a8 0 c8) (k':=.int .i64 3) (n':=.string (zN (zq s))) (a':=.int .i64 a) (b':=.int .i64 b) (c':=.int .i64 c) (o':=.string (zN (zq (zq (zq s))))) (v':=.slice a8 0 c8) He8.out HX8.out
   obtain ⟨WF,hWF⟩ : ∃ x,x = ((((((((w8.setCell ⟨w.heap.size,6,none⟩ (.slice a8 0 c8)).setCell ⟨w.heap.size,0,none⟩ (.int .i64 3)).setCell ⟨w.heap.size,1,none⟩ (.string (zN (zq s)))).setCell ⟨w.heap.size,2,none⟩ (.int .i64 a)).setCell ⟨w.heap.size,3,none⟩ (.int .i64 b)).setCell ⟨w.heap.size,4,none⟩ (.int .i64 c)).setCell ⟨w.heap.size,5,none⟩ (.string (zN (zq (zq (zq s)))))).setCell ⟨w.heap.size,6,none⟩ (.slice a8 0 c8)):=⟨_,rfl⟩
   rw [← hWF] at hF heF ⊢
   clear hWF
   obtain ⟨z0,z1,z2,z3,z4,z5,z6⟩:=hF.cells
   refine bodyPost_ret (v:=.tuple #[.agg #[.int .i64 3,.string (zN (zq s)),.int .i64 a,.int .i64 b,.int .i64 c,.string (zN (zq (zq (zq s)))),.slice a8 0 c8],.iface t8 x8]) (by simp [results,Tryz.results83,go_sem,z0,z1,z2,z3,z4,z5,z6]) rfl ⟨.inr ⟨_,_,_,_,_,_,_,_,_,_,rfl,heF,fun x hx => Hno.out _ (zaX Hw.out hx).2.1 (zaX Hw.out hx).2.2⟩,hF.bel⟩
 ·
  have Hw:=hid hw;clear hw
  go_wp2_with fail
  refine (HCut.out (zq s) _ Hz.out.2.1 HB2.out.bel).mono ?_
  rintro e w3 ⟨⟨b3,rfl⟩,hb3⟩
  have HC3:=hid (HB2.out.below hb3)
  clear k0 k1 k2 k3 k4 k5 k6 f0 f1 f2 f3 f4 f5 f6 hlt
  clear hb3 HB2
  obtain ⟨k0,k1,k2,k3,k4,k5,k6⟩:=HC3.out.cells
  obtain ⟨f0,f1,f2,f3,f4,f5,f6⟩:=HC3.out.free
  have hlt:=HC3.out.lt
  have HB3:=hid (HC3.out.set1 (.string (zN (zq s))))
  clear HC3
  have HR:=hid (zet (zq (zq s)) _ (by have:=Hz.out.2.2.1;omega) (HLT.out _ HB3.out.bel).1 (HLT.out _ HB3.out.bel).2)
  go_wp2_with fail
  refine HR.out.mono ?_
  rintro e w8 ⟨v8,r8,e8,rfl,hs8,hf8,hl8,hb8,hc8⟩
  obtain ⟨a8,c8,rfl,_,_⟩:=hs8.shape
  have HC8:=hid (HB3.out.below hb8)
  have Hf8:=hid (fun b hb => Nat.lt_of_lt_of_le HB3.out.lt (hf8 b hb))
  clear k0 k1 k2 k3 k4 k5 k6 f0 f1 f2 f3 f4 f5 f6 hlt
  have HX8:=hid (fun (b : Nat) (hb : ∃ k pl,w8.heap[b]? = some (.cells #[.int .i64 k,.int .i64 pl] 158 (0,0))) => zlg hb HC8.out.blk)
  clear hb8 hf8 HB3 HR
  obtain ⟨k0,k1,k2,k3,k4,k5,k6⟩:=HC8.out.cells
  obtain ⟨f0,f1,f2,f3,f4,f5,f6⟩:=HC8.out.free
  have hlt:=HC8.out.lt
  have HB8:=hid (HC8.out.set6 (.slice a8 r8.length c8))
  have hs9 : yx (w8.setCell ⟨w.heap.size,6,none⟩ (.slice a8 r8.length c8)) (.slice a8 r8.length c8) r8:=zaH hs8 (fun b hb => Nat.ne_of_lt (Hf8.out b hb)) _ _
  have Hs9:=hid hs9;have Hl8:=hid hl8
  clear HC8 hs8 hs9 hl8
  rcases hc8 with ⟨rfl,hsz8,htx⟩ | ⟨he8,hr0,hno⟩
  ·
   have Htx:=hid htx;have Hsz8:=hid hsz8;clear htx hsz8
   go_wp2_with fail
   have hF:=HB8.out.fill (.int .i64 4) (.string (zN (zq s))) (.int .i64 0) (.int .i64 0) (.int .i64 0) (.string ⟨#[]⟩) (.slice a8 r8.length c8)
   have hsF:=ze9 Hs9.out (fun b hb => Hf8.out b hb) (.int .i64 4) (.string (zN (zq s))) (.int .i64 0) (.int .i64 0) (.int .i64 0) (.string ⟨#[]⟩) (.slice a8 r8.length c8)
   obtain ⟨WF,hWF⟩ : ∃ x,x = ((((((((w8.setCell ⟨w.heap.size,6,none⟩ (.slice a8 r8.length c8)).setCell ⟨w.heap.size,0,none⟩ (.int .i64 4)).setCell ⟨w.heap.size,1,none⟩ (.string (zN (zq s)))).setCell ⟨w.heap.size,2,none⟩ (.int .i64 0)).setCell ⟨w.heap.size,3,none⟩ (.int .i64 0)).setCell ⟨w.heap.size,4,none⟩ (.int .i64 0)).setCell ⟨w.heap.size,5,none⟩ (.string ⟨#[]⟩)).setCell ⟨w.heap.size,6,none⟩ (.slice a8 r8.length c8)):=⟨_,rfl⟩
   rw [← hWF] at hF hsF ⊢
   clear hWF
   obtain ⟨z0,z1,z2,z3,z4,z5,z6⟩:=hF.cells
   refine bodyPost_ret (v:=.tuple #[.agg (zT (⟨4,zN (zq s),0,0,0,⟨#[]⟩,r8,.slice a8 r8.length c8⟩ : zm)).toArray,.nilIface]) (by simp [results,Tryz.results83,go_sem,zT,z0,z1,z2,z3,z4,z5,z6]) rfl ⟨.inl ⟨(⟨4,zN (zq s),0,0,0,⟨#[]⟩,r8,.slice a8 r8.length c8⟩ : zm),rfl,⟨rfl,.inr (.inr ⟨rfl,Hw.out,rfl,rfl,rfl,rfl,Hsz8.out,Htx.out⟩)⟩,⟨hsF,Hl8.out,Htx.out.can,by have:=Hz.out;simp only;omega,by have:=Hz.out;simp only;first | omega | exact znz _⟩,fun b hb => Nat.le_of_lt (Hf8.out b hb)⟩,hF.bel⟩
  ·
   obtain ⟨t8,x8,rfl⟩:=zck he8
   have Hno:=hid hno;have He8:=hid he8;clear hno he8
   subst hr0
   simp only [List.length_nil] at HB8 ⊢
   go_wp2_with fail
   have hF:=HB8.out.fill (.int .i64 4) (.string (zN (zq s))) (.int .i64 0) (.int .i64 0) (.int .i64 0) (.string ⟨#[]⟩) (.slice a8 0 c8)
   have heF:=zfk (u:=.slice a8 0 c8) (k':=.int .i64 4) (n':=.string (zN (zq s))) (a':=.int .i64 0) (b':=.int .i64 0) (c':=.int .i64 0) (o':=.string ⟨#[]⟩) (v':=.slice a8 0 c8) He8.out HX8.out
   obtain ⟨WF,hWF⟩ : ∃ x,x = ((((((((w8.setCell ⟨w.heap.size,6,none⟩ (.slice a8 0 c8)).setCell ⟨w.heap.size,0,none⟩ (.int .i64 4)).setCell ⟨w.heap.size,1,none⟩ (.string (zN (zq s)))).setCell ⟨w.heap.size,2,none⟩ (.int .i64 0)).setCell ⟨w.heap.size,3,none⟩ (.int .i64 0)).setCell ⟨w.heap.size,4,none⟩ (.int .i64 0)).setCell ⟨w.heap.size,5,none⟩ (.string ⟨#[]⟩)).setCell ⟨w.heap.size,6,none⟩ (.slice a8 0 c8)):=⟨_,rfl⟩
   rw [← hWF] at hF heF ⊢
   clear hWF
   obtain ⟨z0,z1,z2,z3,z4,z5,z6⟩:=hF.cells
   refine bodyPost_ret (v:=.tuple #[.agg #[.int .i64 4,.string (zN (zq s)),.int .i64 0,.int .i64 0,.int .i64 0,.string ⟨#[]⟩,.slice a8 0 c8],.iface t8 x8]) (by simp [results,Tryz.results83,go_sem,z0,z1,z2,z3,z4,z5,z6]) rfl ⟨.inr ⟨_,_,_,_,_,_,_,_,_,_,rfl,heF,fun x hx => Hno.out _ (zgN Hw.out hx).1 (zgN Hw.out hx).2⟩,hF.bel⟩
 ·
  have H1:=hid n1;have H2:=hid n2;have H3:=hid n3;have H4:=hid n4;clear n1 n2 n3 n4
  go_wp2_with fail
  have hF:=HB2.out.fill (.int .i64 0) (.string ⟨#[]⟩) (.int .i64 0) (.int .i64 0) (.int .i64 0) (.string ⟨#[]⟩) (.slice none 0 0)
  obtain ⟨WF,hWF⟩ : ∃ x,x = ((((((((w2.setCell ⟨w.heap.size,0,none⟩ (.int .i64 K)).setCell ⟨w.heap.size,0,none⟩ (.int .i64 0)).setCell ⟨w.heap.size,1,none⟩ (.string ⟨#[]⟩)).setCell ⟨w.heap.size,2,none⟩ (.int .i64 0)).setCell ⟨w.heap.size,3,none⟩ (.int .i64 0)).setCell ⟨w.heap.size,4,none⟩ (.int .i64 0)).setCell ⟨w.heap.size,5,none⟩ (.string ⟨#[]⟩)).setCell ⟨w.heap.size,6,none⟩ (.slice none 0 0)):=⟨_,rfl⟩
  rw [← hWF] at hF ⊢
  clear hWF
  obtain ⟨z0,z1,z2,z3,z4,z5,z6⟩:=hF.cells
  refine bodyPost_ret (v:=.tuple #[.agg #[.int .i64 0,.string ⟨#[]⟩,.int .i64 0,.int .i64 0,.int .i64 0,.string ⟨#[]⟩,.slice none 0 0],.iface 45 (.int .i64 3)]) (by simp [results,Tryz.results83,go_sem,z0,z1,z2,z3,z4,z5,z6]) rfl ⟨.inr ⟨_,_,_,_,_,_,_,_,_,_,rfl,.inl ⟨3,rfl⟩,zpL H1.out H2.out H3.out H4.out⟩,hF.bel⟩
set_option maxRecDepth 100000 in
set_option maxHeartbeats 8000000 in
theorem zgu (s : ByteArray) (w : World) (hs : s.size ≤ 20000) (hL : xQ w) (hT : zV w) : Calls Tryz.prog 35 #[.string s] w (zqq s w):=by
 obtain ⟨W0,hW0⟩ : ∃ W0,W0 = w.alloc (.cells #[.int .i64 0,.string ⟨#[]⟩,.int .i64 0,.int .i64 0,.int .i64 0,.string ⟨#[]⟩,.slice none 0 0] 77):=⟨_,rfl⟩
 have hB0 : LB w W0 (.int .i64 0) (.string ⟨#[]⟩) (.int .i64 0) (.int .i64 0) (.int .i64 0) (.string ⟨#[]⟩) (.slice none 0 0):=by rw [hW0];exact ⟨za rfl,zba⟩
 have HP:=hid (zpb s W0 hs (hL.below hB0.bel) (hT.below hB0.bel))
 have HB0:=hid hB0
 clear hB0 hL hT hs
 go_enter Tryz.func35,Tryz.ntmps35
 go_upto_region 1 with fail
 rw [← hW0]
 clear hW0
 go_wp2_with fail
 refine HP.out.mono ?_
 rintro e w1 ⟨⟨x,rfl,hx,hin,hfr⟩ | ⟨kd,nm,a,b,c,ot,va,vn,vc,er,rfl,her,hno⟩,hb1⟩
 ·
  have hlt0:=HB0.out.lt
  obtain ⟨kd,nm,a,b,c,ot,rg,rv⟩:=x
  have hsp:=hin.rng
  simp only at hsp
  obtain ⟨ar,cr,rfl,_,_⟩:=hsp.shape
  simp only [zT]
  obtain ⟨w2,hw2⟩ : ∃ x,x = w1.alloc (.cells #[.int .i64 kd,.string nm,.int .i64 a,.int .i64 b,.int .i64 c,.string ot,.slice ar rg.length cr] 77):=⟨_,rfl⟩
  have hb2 : Below w1.heap.size w1 w2:=by rw [hw2];exact zba
  have hk2 : w2.heap[w1.heap.size]? = some (.cells #[.int .i64 kd,.string nm,.int .i64 a,.int .i64 b,.int .i64 c,.string ot,.slice ar rg.length cr] 77 (0,0)):=by rw [hw2];exact za rfl
  have hB2:=(HB0.out.below hb1).below hb2
  have Hx:=hid hx;have Hin:=hid (hin.below hb2);have Hfr:=hid (fun q (hq : (Value.slice ar rg.length cr).ownBlock = some q) => Nat.lt_of_lt_of_le hlt0 (hfr q hq));have HB2:=hid hB2
  obtain ⟨y0,y1,y2,y3,y4,y5,y6⟩:=kz hk2
  obtain ⟨k0,k1,k2,k3,k4,k5,k6⟩:=hB2.cells
  obtain ⟨f0,f1,f2,f3,f4,f5,f6⟩:=hB2.free
  have hlt:=hB2.lt
  clear hx hin hfr hb1 hb2 hk2 hB2 HB0 HP hlt0 hsp
  go_upto_region 2 with fail
  rw [← hw2]
  clear hw2
  go_wp2_with fail
  have hF:=HB2.out.fill (.int .i64 kd) (.string nm) (.int .i64 a) (.int .i64 b) (.int .i64 c) (.string ot) (.slice ar rg.length cr)
  have hsF:=ze9 Hin.out.rng (fun b hb => Hfr.out b hb) (.int .i64 kd) (.string nm) (.int .i64 a) (.int .i64 b) (.int .i64 c) (.string ot) (.slice ar rg.length cr)
  obtain ⟨WF,hWF⟩ : ∃ x,x = (((((((w2.setCell ⟨w.heap.size,0,none⟩ (.int .i64 kd)).setCell ⟨w.heap.size,1,none⟩ (.string nm)).setCell ⟨w.heap.size,2,none⟩ (.int .i64 a)).setCell ⟨w.heap.size,3,none⟩ (.int .i64 b)).setCell ⟨w.heap.size,4,none⟩ (.int .i64 c)).setCell ⟨w.heap.size,5,none⟩ (.string ot)).setCell ⟨w.heap.size,6,none⟩ (.slice ar rg.length cr)):=⟨_,rfl⟩
  rw [← hWF] at hF hsF ⊢
  clear hWF
  obtain ⟨z0,z1,z2,z3,z4,z5,z6⟩:=hF.cells
  exact bodyPost_ret (v:=.tuple #[.agg (zT (⟨kd,nm,a,b,c,ot,rg,.slice ar rg.length cr⟩ : zm)).toArray,.nilIface]) (by simp [results,Tryz.results35,go_sem,zT,z0,z1,z2,z3,z4,z5,z6]) rfl ⟨.inl ⟨⟨kd,nm,a,b,c,ot,rg,.slice ar rg.length cr⟩,rfl,Hx.out,⟨hsF,Hin.out.few,Hin.out.can,Hin.out.sz1,Hin.out.sz2⟩,fun q hq => Nat.le_of_lt (Hfr.out q hq)⟩,hF.bel⟩
 ·
  obtain ⟨t,x,rfl⟩:=zck her
  obtain ⟨w2,hw2⟩ : ∃ x,x = w1.alloc (.cells #[.int .i64 kd,.string nm,.int .i64 a,.int .i64 b,.int .i64 c,.string ot,.slice va vn vc] 77):=⟨_,rfl⟩
  have hb2 : Below w1.heap.size w1 w2:=by rw [hw2];exact zba
  have hB2:=(HB0.out.below hb1).below hb2
  have Hno:=hid hno;have Her:=hid (her.below hb2);have HB2:=hid hB2
  have hX : ∀ q,(∃ k pl,w2.heap[q]? = some (.cells #[.int .i64 k,.int .i64 pl] 158 (0,0))) → q ≠ w.heap.size:=fun q hq => zlg hq hB2.blk
  have HX:=hid hX
  obtain ⟨k0,k1,k2,k3,k4,k5,k6⟩:=hB2.cells
  obtain ⟨f0,f1,f2,f3,f4,f5,f6⟩:=hB2.free
  have hlt:=hB2.lt
  clear hno her hb1 hb2 hB2 HB0 HP hX
  go_upto_region 2 with fail
  rw [← hw2]
  clear hw2
  go_wp2_with fail
  have hF:=HB2.out.fill (.int .i64 0) (.string ⟨#[]⟩) (.int .i64 0) (.int .i64 0) (.int .i64 0) (.string ⟨#[]⟩) (.slice none 0 0)
  have heF:=zmo (k':=.int .i64 0) (n':=.string ⟨#[]⟩) (a':=.int .i64 0) (b':=.int .i64 0) (c':=.int .i64 0) (o':=.string ⟨#[]⟩) (v':=.slice none 0 0) Her.out HX.out
  obtain ⟨WF,hWF⟩ : ∃ x,x = (((((((w2.setCell ⟨w.heap.size,0,none⟩ (.int .i64 0)).setCell ⟨w.heap.size,1,none⟩ (.string ⟨#[]⟩)).setCell ⟨w.heap.size,2,none⟩ (.int .i64 0)).setCell ⟨w.heap.size,3,none⟩ (.int .i64 0)).setCell ⟨w.heap.size,4,none⟩ (.int .i64 0)).setCell ⟨w.heap.size,5,none⟩ (.string ⟨#[]⟩)).setCell ⟨w.heap.size,6,none⟩ (.slice none 0 0)):=⟨_,rfl⟩
  rw [← hWF] at hF heF ⊢
  clear hWF
  obtain ⟨z0,z1,z2,z3,z4,z5,z6⟩:=hF.cells
  exact bodyPost_ret (v:=.tuple #[.agg #[.int .i64 0,.string ⟨#[]⟩,.int .i64 0,.int .i64 0,.int .i64 0,.string ⟨#[]⟩,.slice none 0 0],.iface t x]) (by simp [results,Tryz.results35,go_sem,z0,z1,z2,z3,z4,z5,z6]) rfl ⟨.inr ⟨_,_,_,_,_,_,_,_,_,_,rfl,heF,Hno.out⟩,hF.bel⟩
