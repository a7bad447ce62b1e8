import Derived.Test.YtmlfelbkgoplhaaGreatDoorZfPkI
import Derived.Test.YtmlfelbkgoplhaaGreatDoorShelfQ
set_option linter.unusedVariables false
namespace Go.Proofs.YtmlfelbkgoplhaaGreatDoor
open Go.RowKit
def yh (w w' : World) : Prop:=∃ q os',w' = Sort.grow (w.drewN q) os'
theorem yh.refl (w : World) : yh w w:=⟨0,#[],by simp [Sort.grow,World.drewN]⟩
theorem yh.alloc {w w' : World} (h : yh w w') (o : Obj) : yh w (w'.alloc o):=by
 obtain ⟨q,os,rfl⟩:=h
 exact ⟨q,os ++ #[o],by rw [Sort.alloc_eq_grow,Sort.grow_grow]⟩
theorem yh.drew {w w' : World} (h : yh w w') : yh w w'.drew:=by
 obtain ⟨q,os,rfl⟩:=h
 exact ⟨q + 1,os,by simp [Sort.grow,World.drewN,World.drew];omega⟩
theorem yh.drewN {w w' : World} (h : yh w w') (n : Nat) : yh w (w'.drewN n):=by
 obtain ⟨q,os,rfl⟩:=h
 exact ⟨q + n,os,by simp [Sort.grow,World.drewN];omega⟩
theorem yh.trans {w w1 w2 : World} (h : yh w w1) (h2 : yh w1 w2) : yh w w2:=by
 obtain ⟨q,os,rfl⟩:=h
 obtain ⟨q2,os2,rfl⟩:=h2
 exact ⟨q + q2,os ++ os2,by simp [Sort.grow,World.drewN];omega⟩
theorem yh.below {w w' : World} (h : yh w w') : Below w.heap.size w w':=by
 obtain ⟨q,os,rfl⟩:=h
 refine ⟨rfl,rfl,rfl,by simp [Sort.grow,World.drewN],fun k hk => ?_⟩
 show (w.heap ++ os)[k]? = _
 rw [Array.getElem?_append_left hk]
def zgs (x y : ByteArray) : Int:=if Op.bytesLess x.toList y.toList = true then -1 else if x.toList = y.toList then 0 else 1
theorem zdM : ∀ (x y : List UInt8),Op.bytesLess x y = decide (x < y)
 | [],[] => by simp [Op.bytesLess]
 | _ :: _,[] => by simp [Op.bytesLess]
 | [],_ :: _ => by simp [Op.bytesLess]
 | a :: x,b :: y => by
  rw [Op.bytesLess,zdM x y]
  simp only [List.cons_lt_cons_iff]
  by_cases h1 : a < b <;> by_cases h2 : a = b <;> by_cases h3 : x < y <;> simp [h1,h2,h3]
theorem zml (x y : List UInt8) : (x < y ∧ x ≠ y ∧ ¬ y < x) ∨ (x = y ∧ ¬ x < y ∧ ¬ y < x) ∨ (y < x ∧ x ≠ y ∧ ¬ x < y):=by
 have hi:=fun l : List UInt8 => List.lt_irrefl l
 by_cases h1 : x < y
 · exact .inl ⟨h1,fun e => hi x (by rw [← e] at h1;exact h1),fun h2 => hi x (List.lt_trans h1 h2)⟩
 ·
  by_cases h2 : y < x
  · exact .inr (.inr ⟨h2,fun e => hi x (by rw [← e] at h2;exact h2),h1⟩)
  · exact .inr (.inl ⟨List.le_antisymm h2 h1,h1,h2⟩)
theorem zcW (x y : ByteArray) : (x.toList < y.toList ∧ x ≠ y ∧ zgs x y = -1) ∨ (x = y ∧ zgs x y = 0) ∨ (y.toList < x.toList ∧ x ≠ y ∧ zgs x y = 1):=by
 unfold zgs
 rw [zdM]
 rcases zml x.toList y.toList with ⟨h1,h2,h3⟩ | ⟨h1,h2,h3⟩ | ⟨h1,h2,h3⟩
 · exact .inl ⟨h1,fun e => h2 (by rw [e]),by rw [if_pos (by simpa using h1)]⟩
 · exact .inr (.inl ⟨qi h1,by rw [if_neg (by simpa using h2),if_pos h1]⟩)
 · exact .inr (.inr ⟨h1,fun e => h2 (by rw [e]),by rw [if_neg (by simpa using h3),if_neg h2]⟩)
theorem zfD (a b c x y z : Int) : (zdz a b c x y z < 0 ↔ a < x ∨ a = x ∧ (b < y ∨ b = y ∧ c < z)) ∧ (0 < zdz a b c x y z ↔ x < a ∨ a = x ∧ (y < b ∨ b = y ∧ z < c)):=by
 unfold zdz
 rcases jK a x with ⟨h,e⟩ | ⟨h,e⟩ | ⟨h,e⟩
 · rw [e,if_pos (by decide)];omega
 ·
  rw [e,if_neg (by decide)]
  rcases jK b y with ⟨h2,e⟩ | ⟨h2,e⟩ | ⟨h2,e⟩
  · rw [e,if_pos (by decide)];omega
  ·
   rw [e,if_neg (by decide)]
   rcases jK c z with ⟨h3,e⟩ | ⟨h3,e⟩ | ⟨h3,e⟩ <;> rw [e] <;> omega
  · rw [e,if_pos (by decide)];omega
 · rw [e,if_pos (by decide)];omega
def cfI (x y : zA) : Int:=if zgs x.1 y.1 ≠ 0 then zgs x.1 y.1 else zdz y.2.1 y.2.2.1 y.2.2.2 x.2.1 x.2.2.1 x.2.2.2
theorem zrC (x y : zA) : cfI x y < 0 ↔ ji x y:=by
 unfold cfI ji
 rcases zcW x.1 y.1 with ⟨h1,h2,e⟩ | ⟨h2,e⟩ | ⟨h1,h2,e⟩
 · rw [e,if_pos (by decide)];exact ⟨fun _ => .inl h1,fun _ => by decide⟩
 ·
  rw [e,if_neg (by decide)]
  exact ⟨fun h => .inr ⟨h2,h⟩,fun h => h.elim (fun q => absurd q (by rw [h2];exact List.lt_irrefl _)) (fun q => q.2)⟩
 ·
  rw [e,if_pos (by decide)]
  exact ⟨fun h => by omega,fun h => h.elim (fun q => absurd (List.lt_trans h1 q) (List.lt_irrefl _)) (fun q => absurd q.1 h2)⟩
theorem zaG (x : zA) : ¬ ji x x:=by
 rintro (h | ⟨_,h⟩)
 · exact List.lt_irrefl _ h
 · rw [(zfD _ _ _ _ _ _).1] at h;omega
theorem kH {x y z : zA} (h1 : ji x y) (h2 : ji y z) : ji x z:=by
 rcases h1 with h1 | ⟨e1,h1⟩ <;> rcases h2 with h2 | ⟨e2,h2⟩
 · exact .inl (List.lt_trans h1 h2)
 · exact .inl (by rw [← e2];exact h1)
 · exact .inl (by rw [e1];exact h2)
 ·
  refine .inr ⟨e1.trans e2,?_⟩
  rw [(zfD _ _ _ _ _ _).1] at *
  omega
theorem zcN (x y : zA) : ji x y ∨ x = y ∨ ji y x:=by
 rcases zcW x.1 y.1 with ⟨h1,h2,e⟩ | ⟨h2,e⟩ | ⟨h1,h2,e⟩
 · exact .inl (.inl h1)
 ·
  by_cases ha : zdz y.2.1 y.2.2.1 y.2.2.2 x.2.1 x.2.2.1 x.2.2.2 < 0
  · exact .inl (.inr ⟨h2,ha⟩)
  ·
   by_cases hb : zdz x.2.1 x.2.2.1 x.2.2.2 y.2.1 y.2.2.1 y.2.2.2 < 0
   · exact .inr (.inr (.inr ⟨h2.symm,hb⟩))
   ·
    refine .inr (.inl ?_)
    rw [(zfD _ _ _ _ _ _).1] at ha hb
    obtain ⟨n,a,b,c⟩:=x
    obtain ⟨n',a',b',c'⟩:=y
    simp only at h2 ha hb
    subst h2
    have e1 : a = a':=by omega
    subst e1
    have e2 : b = b':=by omega
    subst e2
    have e3 : c = c':=by omega
    subst e3
    rfl
 · exact .inr (.inr (.inl h1))
theorem ltI (x y : zA) : (ltOf cfI x y = true ↔ ji x y):=by
 unfold ltOf
 rw [decide_eq_true_iff,zrC]
theorem zkg (x y : zA) : (ltOf cfI x y = false ↔ ¬ ji x y):=by rw [← ltI,Bool.eq_false_iff]
theorem swoI : Sort.SWO (ltOf cfI) where
 irrefl x:=(zkg x x).2 (zaG x)
 trans x y z h1 h2:=(ltI x z).2 (kH ((ltI x y).1 h1) ((ltI y z).1 h2))
 ntrans x y z h1 h2:=by
  rw [zkg] at *
  intro h
  rcases zcN x y with q | q | q
  · exact h1 q
  · subst q;exact h2 h
  ·
   rcases zcN y z with q2 | q2 | q2
   · exact h2 q2
   · subst q2;exact zaG x (kH h q)
   · exact zaG x (kH h (kH q2 q))
theorem zf7 (x : ByteArray) (w : World) : Calls Tryz.prog 171 #[.string x] w fun e w' => e = .returned (.bool false) ∧ w' = w:=by
 go_enter Tryz.func171,Tryz.ntmps171
 go_wp2
 go_ret
 exact ⟨by simp,rfl⟩
set_option maxRecDepth 10000 in
set_option maxHeartbeats 1000000 in
theorem zoW (x y : ByteArray) (w : World) : Calls Tryz.prog 127 #[.string x,.string y] w fun e w' => e = .returned (.int .i64 (zgs x y)) ∧ w' = w:=by
 have hx:=zf7 x w
 have hy:=zf7 y w
 rcases zcW x y with ⟨h1,h2,e⟩ | ⟨h2,e⟩ | ⟨h1,h2,e⟩
 ·
  have t1 : Op.bytesLess x.toList y.toList = true:=by rw [zdM];simpa using h1
  rw [e]
  have H1:=hid h1;have H2:=hid h2
  clear e h1 h2
  go_enter Tryz.func127,Tryz.ntmps127
  go_wp2_with (first | (go_at_call 171;refine hx.mono ?_;rintro e w' ⟨rfl,rfl⟩) | (go_at_call 171;refine hy.mono ?_;rintro e w' ⟨rfl,rfl⟩))
  go_ret
  exact ⟨rfl,rfl⟩
 ·
  subst h2
  have t1 : Op.bytesLess x.toList x.toList = false:=by rw [zdM];rw [decide_eq_false_iff_not];exact List.lt_irrefl x.toList
  rw [e]
  clear e
  go_enter Tryz.func127,Tryz.ntmps127
  go_wp2_with (go_at_call 171;refine hx.mono ?_;rintro e w' ⟨rfl,rfl⟩)
  go_ret
  exact ⟨rfl,rfl⟩
 ·
  have t1 : Op.bytesLess x.toList y.toList = false:=by
   rw [zdM]
   have : ¬ x.toList < y.toList:=fun q => List.lt_irrefl _ (List.lt_trans h1 q)
   simpa using this
  have t2 : (x.toList == y.toList) = false:=by rw [beq_eq_false_iff_ne];exact fun q => h2 (qi q)
  rw [e]
  have H1:=hid h1;have H2:=hid h2
  clear e h1 h2
  go_enter Tryz.func127,Tryz.ntmps127
  go_wp2_with (first | (go_at_call 171;refine hx.mono ?_;rintro e w' ⟨rfl,rfl⟩) | (go_at_call 171;refine hy.mono ?_;rintro e w' ⟨rfl,rfl⟩))
  go_ret
  exact ⟨rfl,rfl⟩
set_option maxRecDepth 100000 in
set_option maxHeartbeats 4000000 in
theorem zmv (q : Nat) (a b : Int) (W : World) (h : W.heap[q]? = some (.cells #[.int .i64 a,.int .i64 b] 3 (0,0))) :
 Calls Tryz.prog 126 #[.slice (some ⟨q,0,none⟩) 2 2] W fun e w' => e = .returned (.int .i64 (if a ≠ 0 then a else b)) ∧ W = w':=by
 obtain ⟨c0,c1,_,_⟩:=ko h
 have H:=hid h
 clear h
 by_cases ha : a = 0
 ·
  subst ha
  rw [if_neg (by simp)]
  by_cases hb : b = 0
  ·
   subst hb
   go_enter Tryz.func126,Tryz.ntmps126
   go_wp2_with fail
   go_loopg [8] 2 (fun gk i wr => ∃ k : Nat,k ≤ 2 ∧ gk = 2 - k ∧ i = .int .i64 k ∧ W = wr)
   case atStart => exact ⟨0,by omega,rfl,rfl,rfl⟩
   case round =>
    obtain ⟨k,hk,rfl,rfl,rfl⟩:=hrel
    obtain rfl | rfl | rfl : k = 0 ∨ k = 1 ∨ k = 2:=by omega
    ·
     go_wp2_with fail
     go_roundg 1
     case measure => omega
     case rel => exact ⟨1,by omega,rfl,rfl,rfl⟩
    ·
     go_wp2_with fail
     go_roundg 0
     case measure => omega
     case rel => exact ⟨2,by omega,rfl,rfl,rfl⟩
    ·
     go_wp2_with fail
     go_ret
     exact ⟨rfl,rfl⟩
  ·
   have tb : (b != 0) = true:=by rw [bne_iff_ne];exact hb
   clear hb
   go_enter Tryz.func126,Tryz.ntmps126
   go_wp2_with fail
   go_loopg [8] 2 (fun gk i wr => ∃ k : Nat,k ≤ 1 ∧ gk = 2 - k ∧ i = .int .i64 k ∧ W = wr)
   case atStart => exact ⟨0,by omega,rfl,rfl,rfl⟩
   case round =>
    obtain ⟨k,hk,rfl,rfl,rfl⟩:=hrel
    obtain rfl | rfl : k = 0 ∨ k = 1:=by omega
    ·
     go_wp2_with fail
     go_roundg 1
     case measure => omega
     case rel => exact ⟨1,by omega,rfl,rfl,rfl⟩
    ·
     go_wp2_with fail
     go_ret
     exact ⟨rfl,rfl⟩
 ·
  rw [if_pos ha]
  have ta : (a != 0) = true:=by rw [bne_iff_ne];exact ha
  clear ha
  go_enter Tryz.func126,Tryz.ntmps126
  go_wp2_with fail
  go_loopg [8] 2 (fun gk i wr => gk = 2 ∧ i = .int .i64 0 ∧ W = wr)
  case atStart => exact ⟨rfl,rfl,rfl⟩
  case round =>
   obtain ⟨rfl,rfl,rfl⟩:=hrel
   go_wp2_with fail
   go_ret
   exact ⟨rfl,rfl⟩
set_option maxRecDepth 100000 in
set_option maxHeartbeats 4000000 in
theorem znN (a b c x y z : Int) (w : World) : Calls Tryz.prog 128 #[.agg #[.int .i64 a,.int .i64 b,.int .i64 c],.agg #[.int .i64 x,.int .i64 y,.int .i64 z]] w fun e w' => e = .returned (.int .i64 (zdz a b c x y z)) ∧ yh w w':=by
 obtain ⟨W,hW⟩ : ∃ W,W = ((w.alloc (.cells #[.int .i64 a,.int .i64 b,.int .i64 c] 72)).alloc (.cells #[.int .i64 x,.int .i64 y,.int .i64 z] 72)):=⟨_,rfl⟩
 have hb : yh w W:=by rw [hW];exact ((yh.refl w).alloc _).alloc _
 have h1 : W.heap[w.heap.size]? = some (.cells #[.int .i64 a,.int .i64 b,.int .i64 c] 72 (0,0)):=by rw [hW];exact zh (za rfl)
 have h2 : W.heap[w.heap.size + 1]? = some (.cells #[.int .i64 x,.int .i64 y,.int .i64 z] 72 (0,0)):=by rw [hW];exact za (by simp)
 have HC:=hid (zhJ w.heap.size (w.heap.size + 1) a b c x y z _ _ W.drew h1 h2)
 have Hb:=hid hb.drew
 clear hb h1 h2
 generalize zdz a b c x y z = R at HC ⊢
 go_enter Tryz.func128,Tryz.ntmps128
 go_upto_region 1 with fail
 rw [← hW]
 clear hW
 go_region_held3 (fun w' => True) (trivial)
  ((go_at_call 172;(with_reducible refine (HC.out).mono ?_);rintro e w5 ⟨rfl,rfl⟩))
 go_wp2_with fail
 go_ret
 exact ⟨rfl,Hb.out⟩
theorem yh.cell {w w' : World} (h : yh w w') {g : Nat} {o : Obj} (hb : w.heap[g]? = some o) : w'.heap[g]? = some o:=(h.below.block g (zlb hb)).trans hb
set_option maxRecDepth 100000 in
set_option maxHeartbeats 8000000 in
theorem znu (x y : zA) (w : World) : Calls Tryz.prog 125 #[.agg (yj x).toArray,.agg (yj y).toArray] w fun e w' => e = .returned (.int .i64 (cfI x y)) ∧ yh w w':=by
 obtain ⟨nx,a,b,c⟩:=x
 obtain ⟨ny,p,q,r⟩:=y
 obtain ⟨W,hW⟩ : ∃ W,W = ((w.alloc (.cells #[.string nx,.int .i64 a,.int .i64 b,.int .i64 c] 94)).alloc (.cells #[.string ny,.int .i64 p,.int .i64 q,.int .i64 r] 94)):=⟨_,rfl⟩
 have hb : yh w W:=by rw [hW];exact ((yh.refl w).alloc _).alloc _
 have h1 : W.heap[w.heap.size]? = some (.cells #[.string nx,.int .i64 a,.int .i64 b,.int .i64 c] 94 (0,0)):=by rw [hW];exact zh (za rfl)
 have h2 : W.heap[w.heap.size + 1]? = some (.cells #[.string ny,.int .i64 p,.int .i64 q,.int .i64 r] 94 (0,0)):=by rw [hW];exact za (by simp)
 have HK:=hid (show ∀ w',yh W w' → (w'.cell? ⟨w.heap.size,0,none⟩ = some (.string nx) ∧ w'.cell? ⟨w.heap.size,1,none⟩ = some (.int .i64 a) ∧ w'.cell? ⟨w.heap.size,2,none⟩ = some (.int .i64 b) ∧ w'.cell? ⟨w.heap.size,3,none⟩ = some (.int .i64 c)) ∧ (w'.cell? ⟨w.heap.size + 1,0,none⟩ = some (.string ny) ∧ w'.cell? ⟨w.heap.size + 1,1,none⟩ = some (.int .i64 p) ∧ w'.cell? ⟨w.heap.size + 1,2,none⟩ = some (.int .i64 q) ∧ w'.cell? ⟨w.heap.size + 1,3,none⟩ = some (.int .i64 r)) from fun w' hw => ⟨zdS (hw.cell h1),zdS (hw.cell h2)⟩)
 have HW:=hid (yh.refl W).drew
 have Hb:=hid hb
 have KS:=HK.out _ HW.out
 have HS:=hid (zoW nx ny W.drew)
 have hcf : cfI (nx,a,b,c) (ny,p,q,r) = if zgs nx ny ≠ 0 then zgs nx ny else zdz p q r a b c:=rfl
 rw [hcf]
 generalize zgs nx ny = A at HS ⊢
 generalize hB : zdz p q r a b c = B
 have HC:=hid (fun w' => hB ▸ znN p q r a b c w')
 clear hb h1 h2 hcf hB
 obtain ⟨R,hR⟩ : ∃ R,R = if A ≠ 0 then A else B:=⟨_,rfl⟩
 rw [← hR]
 have HR:=hid hR
 clear hR
 simp only [yj]
 go_enter Tryz.func125,Tryz.ntmps125
 go_upto_region 1 with fail
 rw [← hW]
 clear hW
 go_region_held3 (fun w' => (w'.cell? ⟨w.heap.size,0,none⟩ = some (.string nx) ∧ w'.cell? ⟨w.heap.size,1,none⟩ = some (.int .i64 a) ∧ w'.cell? ⟨w.heap.size,2,none⟩ = some (.int .i64 b) ∧ w'.cell? ⟨w.heap.size,3,none⟩ = some (.int .i64 c)) ∧ (w'.cell? ⟨w.heap.size + 1,0,none⟩ = some (.string ny) ∧ w'.cell? ⟨w.heap.size + 1,1,none⟩ = some (.int .i64 p) ∧ w'.cell? ⟨w.heap.size + 1,2,none⟩ = some (.int .i64 q) ∧ w'.cell? ⟨w.heap.size + 1,3,none⟩ = some (.int .i64 r)))
  (first | exact KS | exact HK.out _ (HW.out.alloc _))
  (first
   | (go_at_call 127;(with_reducible refine (HS.out).mono ?_);rintro e w5 ⟨rfl,rfl⟩)
   | (go_at_call 128;(with_reducible refine (HC.out _).mono ?_);rintro e w6 ⟨rfl,hg⟩;have HW:=hid (HW.out.trans hg);have KS:=HK.out _ HW.out;have HO:=hid (zmv w6.heap.size A B (w6.alloc (.cells #[.int .i64 A,.int .i64 B] 3)) (za rfl));rw [← HR.out] at HO;clear hg)
   | (go_at_call 126;(with_reducible refine (HO.out).mono ?_);rintro e w7 ⟨rfl,rfl⟩))
 go_wp2_with fail
 go_ret
 exact ⟨rfl,Hb.out.trans (HW.out.alloc _)⟩
theorem zrq : ∀ w,(isAgg 94).run Tryz.prog w = .ok true w:=fun w => by kernel_rfl
theorem zpr : ∀ w,(Go.sizeOf 94).run Tryz.prog w = .ok 4 w:=fun w => by kernel_rfl
theorem zm3 (blk off size : Nat) (w : World) : CmpLays Tryz.prog 125 #[] yj 4 cfI blk off size w:=fun _ _ _ _ x y => znu x y _
theorem zhk (items : List zA) (j : Nat) (h : j < items.length * 4) : (yj items.toArray[j / 4]!)[j % 4]? = (xP yj items)[j]?:=by
 have hk : j / 4 < items.length:=by omega
 have:=zec yO items (j / 4) (j % 4) hk (by omega)
 rw [show j / 4 * 4 + j % 4 = j by omega] at this
 rw [this,getElem!_pos _ _ (by simpa using hk)]
 simp
theorem znh {w : World} {base g n c : Nat} {items : List zA} (h : z8 w base (.slice (some ⟨g,0,none⟩) n c) items) : Sort.HoldsK yj 4 w g 0 items.toArray:=by
 intro j hj
 rw [Sort.size_flatK,List.size_toArray] at hj
 rw [Sort.get_flatK _ _ _ _ (by rw [List.size_toArray];exact hj)]
 have e:=zhk items j hj
 have hlen : j % 4 < (yj items.toArray[j / 4]!).length:=by rw [yO];omega
 refine ⟨?_,zo.free h _⟩
 have hu : (xP yj items)[j]? = some ((yj items.toArray[j / 4]!)[j % 4]!):=by
  rw [← e,List.getElem?_eq_getElem hlen,getElem!_pos (yj items.toArray[j / 4]!) (j % 4) hlen]
 have:=zo.news h j _ hu
 rwa [show (⟨g,0,none⟩ : Addr).add j = ⟨g,0 + j,none⟩ from by simp [Addr.add];exact fun h => h.symm] at this
theorem zkm {w : World} {g q : Nat} {cur : Array Value} {T : TypeId} (h : w.heap[g]? = some (.cells cur T (0,0))) (d : Array zA) (os : Array Obj) :
 ∃ cur',(sortWorldK yj 4 w g 0 q d os).heap[g]? = some (.cells cur' T (0,0)) ∧ cur'.size = cur.size:=by
 have hlt:=(Array.getElem?_eq_some_iff.1 h).1
 have h' : w.heap[g] = .cells cur T (0,0):=(Array.getElem?_eq_some_iff.1 h).2
 refine ⟨Sort.putCells id 0 (Sort.flatK yj 4 d) cur,?_,by simp [Sort.putCells]⟩
 show ((w.heap.modify g _) ++ os)[g]? = _
 rw [Array.getElem?_append_left (by simpa using hlt),Array.getElem?_eq_getElem (by simpa using hlt),Array.getElem_modify_self,h']
 rfl
set_option maxHeartbeats 1000000 in
theorem zmy (base g cap : Nat) (items : List zA) (w : World) (h : z8 w base (.slice (some ⟨g,0,none⟩) items.length cap) items) (hn : items.length ≤ 1000000) :
 Calls Tryz.prog 124 #[.slice (some ⟨g,0,none⟩) items.length cap,.func (.func 125) #[] #[]] w fun e w' =>
  ∃ its,e = .returned (.tuple #[]) ∧ z8 w' base (.slice (some ⟨g,0,none⟩) items.length cap) its ∧ its.Perm items ∧ its.Pairwise (fun a b => ¬ ji b a) ∧ xW g w w':=by
 have eg : ∀ args w,(callFunc 125 args).run Tryz.prog w = .ok (.enter 125 args) w:=enters_of Tryz.func125 (by kernel_rfl) rfl
 obtain ⟨hl0,⟨h1,_⟩ | ⟨g',cap',cur,e,hbase,hblk,hcap,hmax,hsz,htk⟩⟩:=id h
 · cases h1
 cases e
 have hlt:=zlb hblk
 have hc:=AnyQ.slices_SortFunc Tryz.sortQ 4 zrq zpr yj yO (fun x => zbU x) cfI swoI 125 #[] g 0 cap items.toArray w eg (zm3 g 0 _ w) (znh h) hlt (by rw [List.size_toArray];omega)
 rw [List.size_toArray] at hc
 refine Calls.mono hc ?_
 rintro e w' ⟨rfl,d',q,os,hp,hs,rfl⟩
 have hd : d'.size = items.length:=hp.1.trans List.size_toArray
 have hh:=holdsK_sortWorldK yj 4 w g 0 q items.toArray d' os hlt (znh h) (by rw [hd,List.size_toArray])
 have hperm:=hp.2.2
 rw [Array.extract_eq_self_of_le (by omega),Array.extract_eq_self_of_le (by rw [List.size_toArray];omega)] at hperm
 obtain ⟨cur',hb',hs'⟩:=zkm (q:=q) hblk d' os
 refine ⟨d'.toList,rfl,?_,?_,?_,?_⟩
 ·
  have hlen : d'.toList.length = items.length:=by rw [Array.length_toList];exact hd
  refine ⟨by rw [za7 yO],.inr ⟨g,cap,cur',by rw [hlen],hbase,hb',by omega,hmax,by rw [hs'];exact hsz,?_⟩⟩
  apply List.ext_getElem?
  intro j
  by_cases hj : j < d'.toList.length * 4
  ·
   rw [List.getElem?_take_of_lt hj,Array.getElem?_toList]
   have h3:=(hh j (by rw [Sort.size_flatK,hd];omega)).1
   rw [Nat.zero_add,cell_of_row _ _ _ _ _ _ hb',Sort.get_flatK _ _ _ _ (by rw [hd];omega)] at h3
   have e3:=zhk d'.toList j hj
   rw [Array.toArray_toList] at e3
   have hl3 : j % 4 < (yj d'[j / 4]!).length:=by rw [yO];omega
   rw [h3,← e3,List.getElem?_eq_getElem hl3,getElem!_pos (yj d'[j / 4]!) (j % 4) hl3]
   rfl
  ·
   have hs4 : cur'.size = cap * 4:=by rw [hs'];exact hsz
   rw [List.getElem?_eq_none (by rw [List.length_take];omega),List.getElem?_eq_none (by rw [za7 yO];omega)]
 · simpa using hperm
 ·
  rw [List.pairwise_iff_getElem]
  intro i j h1 h2 h3
  have:=hs i j (znz _) h3 (by rw [← hd];simpa using h2)
  rw [zkg] at this
  rw [Array.length_toList] at h1 h2
  rw [getElem!_pos d' i h1,getElem!_pos d' j h2] at this
  simpa using this
 ·
  exact ⟨rfl,rfl,rfl,by simp [sortWorldK,Sort.grow,Sort.putRowK,Sort.putRow,Sort.mapBlock,Sort.ahead],fun k hk hne => by
   show ((w.heap.modify g _) ++ os)[k]? = _
   rw [Array.getElem?_append_left (by simpa using hk),Array.getElem?_modify,if_neg (fun e => hne e.symm)]⟩
set_option maxRecDepth 100000 in
set_option maxHeartbeats 4000000 in
theorem zh4 (cf : Value) (w : World) : Calls Tryz.prog 124 #[.slice none 0 0,cf] w fun e w' => e = .returned (.tuple #[]) ∧ w' = w:=by
 have hl : ∀ W,Calls Tryz.prog 170 #[.int .u64 0] W fun e w' => e = .returned (.int .i64 (Lib.bitLen 0 : Nat)) ∧ w' = W:=fun W => Any.bits_Len Tryz.lays125 0 W (by omega) (by omega)
 have hi : ∀ w : World,Calls Tryz.prog 201 #[.slice none 0 0,.int .i64 0,.int .i64 0,cf] w fun e w' => e = .returned (.tuple #[]) ∧ w' = w:=fun w => by
  go_enter Tryz.func201,Tryz.ntmps201
  go_wp2_with fail
  go_loopg [8] 0 (fun gk i wr => i = .int .i64 1 ∧ w = wr)
  case atStart => exact ⟨rfl,rfl⟩
  case round =>
   obtain ⟨rfl,rfl⟩:=hrel
   go_wp2_with fail
   go_end0
   exact ⟨rfl,rfl⟩
 have hp : ∀ (lim : Int) (w : World),Calls Tryz.prog 169 #[.slice none 0 0,.int .i64 0,.int .i64 0,.int .i64 lim,cf] w fun e w' => e = .returned (.tuple #[]) ∧ w' = w:=fun lim w => by
  have Hi:=hid hi
  clear hi hl
  go_enter Tryz.func169,Tryz.ntmps169
  go_wp2_with fail
  go_loopg [1,2,3] 0 (fun gk a b l wr => a = .int .i64 0 ∧ b = .int .i64 0 ∧ l = .int .i64 lim ∧ w = wr)
  case atStart => exact ⟨rfl,rfl,rfl,rfl⟩
  case round =>
   obtain ⟨rfl,rfl,rfl,rfl⟩:=hrel
   go_wp2_with fail
   refine (Hi.out _).mono ?_
   rintro e w1 ⟨rfl,rfl⟩
   go_wp2_with fail
   refine bodyPost_ret (results_none rfl _ _ _) rfl ⟨rfl,rfl⟩
 have Hl:=hid hl;have Hp:=hid hp
 clear hl hp hi
 go_enter Tryz.func124,Tryz.ntmps124
 go_wp2_with fail
 refine (Hl.out _).mono ?_
 rintro e w1 ⟨rfl,rfl⟩
 go_wp2_with fail
 refine (Hp.out _ _).mono ?_
 rintro e w1 ⟨rfl,rfl⟩
 go_wp2_with fail
 go_end0
 exact ⟨rfl,rfl⟩
theorem zmA (base : Nat) (ai : Option Addr) (ci : Nat) (items : List zA) (w : World) (h : z8 w base (.slice ai items.length ci) items) (hn : items.length ≤ 1000000) :
 Calls Tryz.prog 124 #[.slice ai items.length ci,.func (.func 125) #[] #[]] w fun e w' =>
  ∃ its,e = .returned (.tuple #[]) ∧ z8 w' base (.slice ai items.length ci) its ∧ its.Perm items ∧ its.Pairwise (fun a b => ¬ ji b a) ∧ Below base w w':=by
 obtain ⟨hl0,⟨h1,h2⟩ | ⟨g,cap,cur,e,hbase,hblk,hcap,hmax,hsz,htk⟩⟩:=id h
 ·
  have e0 : items = []:=List.eq_nil_of_length_eq_zero h2
  subst e0
  cases h1
  refine (zh4 (.func (.func 125) #[] #[]) w).mono ?_
  rintro e w' ⟨rfl,rfl⟩
  exact ⟨[],rfl,h,List.Perm.refl _,List.Pairwise.nil,Below.refl _ _⟩
 ·
  cases e
  refine (zmy base g ci items w h hn).mono ?_
  rintro e w' ⟨its,rfl,h1,h2,h3,h4⟩
  exact ⟨its,rfl,h1,h2,h3,h4.below hbase (Nat.le_of_lt (Nat.lt_of_le_of_lt hbase (zlb hblk)))⟩
