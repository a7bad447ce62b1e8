import Derived.Test.YtmlfelbkgoplhaaGreatDoorZfPkR
import Derived.Test.YtmlfelbkgoplhaaGreatDoorZfPkL
import Derived.Test.YtmlfelbkgoplhaaGreatDoorZfAppend
import Derived.BigQuiet
import Derived.BigRegion
import Derived.Laws.Bits64b
set_option linter.unusedVariables false
set_option linter.unusedSimpArgs false
namespace Go.Proofs.YtmlfelbkgoplhaaGreatDoor
open Go.RowKit
structure zP (w : World) (p : Nat) (f : Int → Int) (tr : List Int) (v : Value) : Prop where
 blk : ∃ cur : Array Value,w.heap[p]? = some (.cells cur 132 (0,0)) ∧ cur.size = 25 ∧ (∀ i : Nat,i < 24 → cur[i]? = some (.int .i64 (f ((i : Int) + 1)))) ∧ cur[24]? = some v
 own : w.ownsRow 0 3 1 v tr.length (tr.map (Value.int .i64))
 apart : v.ownBlock ≠ some p
theorem zP.cell {w : World} {p : Nat} {f : Int → Int} {tr : List Int} {v : Value} (h : zP w p f tr v) {k : Int} (h1 : 1 ≤ k) (h2 : k ≤ 24) : w.cell? ⟨p,k.toNat - 1,none⟩ = some (.int .i64 (f k)):=by
 obtain ⟨cur,h3,h4,h5,h6⟩:=h.blk
 rw [cell_of_row w p _ cur _ (0,0) h3,h5 _ (by omega)]
 rw [show ((k.toNat - 1 : Nat) : Int) + 1 = k by omega]
theorem zP.trail {w : World} {p : Nat} {f : Int → Int} {tr : List Int} {v : Value} (h : zP w p f tr v) : w.cell? ⟨p,24,none⟩ = some v:=by
 obtain ⟨cur,h3,h4,h5,h6⟩:=h.blk
 rw [cell_of_row w p _ cur _ (0,0) h3,h6]
theorem zP.free {w : World} {p : Nat} {f : Int → Int} {tr : List Int} {v : Value} (h : zP w p f tr v) (i : Nat) : w.frozen? ⟨p,i,none⟩ = false:=by
 obtain ⟨cur,h3,_⟩:=h.blk
 simp [World.frozen?,h3]
theorem zP.lt {w : World} {p : Nat} {f : Int → Int} {tr : List Int} {v : Value} (h : zP w p f tr v) : p < w.heap.size:=by
 obtain ⟨cur,h3,_⟩:=h.blk
 exact (Array.getElem?_eq_some_iff.1 h3).1
structure Mod (p : Nat) (ov : Option Nat) (w w' : World) : Prop where
 os : w'.os = w.os
 tape : w'.tape = w.tape
 output : w'.output = w.output
 size : w.heap.size ≤ w'.heap.size
 block : ∀ k,k < w.heap.size → k ≠ p → some k ≠ ov → w'.heap[k]? = w.heap[k]?
theorem Mod.refl (p : Nat) (ov : Option Nat) (w : World) : Mod p ov w w:=⟨rfl,rfl,rfl,znr _,fun _ _ _ _ => rfl⟩
theorem Mod.trans {p : Nat} {ov ov' : Option Nat} {a b c : World} (h : Mod p ov a b) (k : Mod p ov' b c) (ho : ov' = ov ∨ ∃ g,ov' = some g ∧ a.heap.size ≤ g) : Mod p ov a c :=
 ⟨k.os.trans h.os,k.tape.trans h.tape,k.output.trans h.output,Nat.le_trans h.size k.size,fun i h1 h2 h3 => (k.block i (Nat.lt_of_lt_of_le h1 h.size) h2 (by
  rcases ho with rfl | ⟨g,rfl,hg⟩
  · exact h3
  · intro e;cases e;omega)).trans (h.block i h1 h2 h3)⟩
theorem Mod.of_below {p : Nat} {ov : Option Nat} {w w' : World} (h : Below w.heap.size w w') : Mod p ov w w':=⟨h.os,h.tape,h.output,h.size,fun k h1 _ _ => h.block k h1⟩
theorem Mod.below {p B : Nat} {ov : Option Nat} {w w' : World} (h : Mod p ov w w') (hp : B ≤ p) (ho : ∀ g,ov = some g → B ≤ g) (hB : B ≤ w.heap.size) : Below B w w' :=
 ⟨h.os,h.tape,h.output,h.size,fun k hk => h.block k (by omega) (by omega) (fun e => by have:=ho k e.symm;omega)⟩
set_option maxHeartbeats 1000000 in
theorem zq7 (x : Int) (p : Nat) (f : Int → Int) (tr : List Int) (v : Value) (w : World) (hs : zP w p f tr v) (hx : x ≠ 0) (h1 : -24 ≤ x) (h2 : x ≤ 24) (ht : Tri f) :
 Calls Tryz.prog 167 #[.pointer (some ⟨p,0,none⟩),.int .i64 x] w fun e w' => e = .returned (.int .i64 (lv f x)) ∧ w = w':=by
 by_cases hneg : x < 0
 ·
  have hc:=hs.cell (k:=-x) (by omega) (by omega)
  have h3 : 1 ≤ -x:=by omega
  obtain ⟨h4,h5⟩:=ht (-x)
  have e : lv f x = - f (-x):=by rw [lv,if_pos hneg,zc6 hneg]
  rw [e]
  clear hs ht e
  go_enter Tryz.func167,Tryz.ntmps167
  go_wp2
  go_ret
  exact ⟨rfl,rfl⟩
 ·
  have hc:=hs.cell (k:=x) (by omega) (by omega)
  have h3 : 1 ≤ x:=by omega
  have e : lv f x = f x:=by rw [lv,if_neg hneg,zbT h3]
  rw [e]
  clear hs ht e
  go_enter Tryz.func167,Tryz.ntmps167
  go_wp2
  go_ret
  exact ⟨rfl,rfl⟩
theorem zaK {w : World} {p : Nat} {cur : Array Value} {e : TypeId} {fz : Nat × Nat} (h : w.heap[p]? = some (.cells cur e fz)) (i : Nat) (u : Value) : (w.setCell ⟨p,i,none⟩ u).heap[p]? = some (.cells (cur.setIfInBounds i u) e fz):=by
 simp only [World.setCell]
 rw [Array.getElem?_modify,if_pos rfl,h]
 rfl
theorem zP.store {w : World} {p : Nat} {f : Int → Int} {tr : List Int} {v : Value} (h : zP w p f tr v) {k n : Int} (h1 : 1 ≤ k) (h2 : k ≤ 24) : zP (w.setCell ⟨p,k.toNat - 1,none⟩ (.int .i64 n)) p (upd f k n) tr v:=by
 obtain ⟨cur,h3,h4,h5,h6⟩:=h.blk
 refine ⟨⟨cur.setIfInBounds (k.toNat - 1) (.int .i64 n),?_,by simp [h4],fun i hi => ?_,?_⟩,?_,h.apart⟩
 · exact zaK h3 _ _
 ·
  rw [Array.getElem?_setIfInBounds]
  unfold upd
  by_cases e : k.toNat - 1 = i
  · rw [if_pos e,if_pos (by omega),if_pos (by omega)]
  · rw [if_neg e,if_neg (by omega),h5 i hi]
 · rw [Array.getElem?_setIfInBounds,if_neg (by omega),h6]
 ·
  refine ⟨h.own.1,?_⟩
  rcases h.own.2 with hn | ⟨g,cap,cur',hv,hg,hh,r⟩
  · exact .inl hn
  ·
   refine .inr ⟨g,cap,cur',hv,hg,?_,r⟩
   rw [zhc _ _ _ _ (by intro e;have:=h.apart;rw [hv] at this;exact this (by simp [Value.ownBlock];exact e))]
   exact hh
theorem Mod.store {w : World} {p : Nat} {ov : Option Nat} {i : Nat} {u : Value} : Mod p ov w (w.setCell ⟨p,i,none⟩ u) :=
 ⟨rfl,rfl,rfl,by simp [World.setCell],fun k hk h1 _ => zhc _ _ _ _ h1⟩
theorem zP.zge {w w1 : World} {p : Nat} {f : Int → Int} {tr tr' : List Int} {v v' : Value} (h : zP w p f tr v) (hp : w1.heap[p]? = w.heap[p]?) (ho : w1.ownsRow 0 3 1 v' tr'.length (tr'.map (Value.int .i64))) (ha : v'.ownBlock ≠ some p) :
 zP (w1.setCell ⟨p,24,none⟩ v') p f tr' v':=by
 obtain ⟨cur,h3,h4,h5,h6⟩:=h.blk
 refine ⟨⟨cur.setIfInBounds 24 v',?_,by simp [h4],fun i hi => ?_,?_⟩,?_,ha⟩
 · exact zaK (hp.trans h3) _ _
 · rw [Array.getElem?_setIfInBounds,if_neg (by omega),h5 i hi]
 · rw [Array.getElem?_setIfInBounds,if_pos rfl,if_pos (by omega)]
 ·
  refine ⟨ho.1,?_⟩
  rcases ho.2 with hn | ⟨g,cap,cur',hv,hg,hh,r⟩
  · exact .inl hn
  ·
   refine .inr ⟨g,cap,cur',hv,hg,?_,r⟩
   rw [zhc _ _ _ _ (by intro e;rw [hv] at ha;exact ha (by simp [Value.ownBlock];exact e))]
   exact hh
theorem zhC : (Tryz.prog.info? 3).map (fun i => (i.zero,i.size,i.bytes)) = some (some (.int .i64 0),1,8):=by kernel_rfl
def Next (w : World) (v v' : Value) : Prop:=v'.ownBlock = v.ownBlock ∨ ∃ g,v'.ownBlock = some g ∧ w.heap.size ≤ g
theorem zkV {w : World} {p : Nat} {f : Int → Int} {tr : List Int} {v : Value} (hs : zP w p f tr v) (x k n : Int) (hk1 : 1 ≤ k) (hk2 : k ≤ 24) (v3 : Value) (w3 : World)
 (hown : w3.ownsRow 0 3 1 v3 (tr.length + 1) (tr.map (Value.int .i64) ++ [.int .i64 x])) (hgrow : ((w.setCell ⟨p,k.toNat - 1,none⟩ (.int .i64 n)).alloc (.cells #[.int .i64 x] 3)).grownBy w3 v.ownBlock)
 (hor : v3.ownBlock = v.ownBlock ∨ v3.ownBlock = some ((w.setCell ⟨p,k.toNat - 1,none⟩ (.int .i64 n)).alloc (.cells #[.int .i64 x] 3)).heap.size) :
 w3.cell? ⟨p,24,none⟩ = some v ∧ w3.frozen? ⟨p,24,none⟩ = false ∧
 (∃ v',zP (w3.setCell ⟨p,24,none⟩ v3) p (upd f k n) (tr ++ [x]) v' ∧ Next w v v') ∧ Mod p v.ownBlock w (w3.setCell ⟨p,24,none⟩ v3):=by
 have hs2:=hs.store (n:=n) hk1 hk2
 have hlt:=hs.lt
 have hb : w3.heap[p]? = (w.setCell ⟨p,k.toNat - 1,none⟩ (.int .i64 n)).heap[p]?:=by
  rw [hgrow.block p (by simp only [zy];have:=hs2.lt;omega) (fun e => hs.apart e.symm),zct,if_neg (by have:=hs2.lt;omega)]
 have hsz : (w.setCell ⟨p,k.toNat - 1,none⟩ (.int .i64 n)).heap.size = w.heap.size:=by simp [World.setCell]
 rw [zy,hsz] at hor
 have hap : v3.ownBlock ≠ some p:=by
  rcases hor with e | e
  · rw [e];exact hs.apart
  · rw [e];intro e2;cases e2;omega
 refine ⟨?_,?_,⟨v3,hs2.zge hb (by simpa using hown) hap,?_⟩,hgrow.os,hgrow.tape,hgrow.output,?_,fun j hj h3 h4 => ?_⟩
 · exact (World.cell?_of_block hb).trans hs2.trail
 · exact (World.frozen?_of_block hb).trans (hs2.free 24)
 ·
  rcases hor with e | e
  · exact .inl e
  · exact .inr ⟨_,e,by omega⟩
 ·
  have:=hgrow.size
  rw [zy,hsz] at this
  simp [World.setCell];omega
 · rw [zhc _ _ _ _ h3,hgrow.block j (by rw [zy,hsz];omega) h4,zct,if_neg (by rw [hsz];omega),zhc _ _ _ _ h3]
def zpJ (x : Int) (p : Nat) (f : Int → Int) (tr : List Int) (v : Value) (w : World) (e : Ending) (w' : World) : Prop :=
 e = .returned (.tuple #[]) ∧ (∃ v',zP w' p (upd f (vr x) (sgn x)) (tr ++ [x]) v' ∧ Next w v v') ∧ Mod p v.ownBlock w w'
set_option maxHeartbeats 1000000 in
theorem zlf (x : Int) (p : Nat) (f : Int → Int) (tr : List Int) (v : Value) (w : World) (hs : zP w p f tr v) (hx : x ≠ 0) (h1 : -24 ≤ x) (h2 : x ≤ 24) (hl : tr.length ≤ 1000) :
 Calls Tryz.prog 65 #[.pointer (some ⟨p,0,none⟩),.int .i64 x] w (zpJ x p f tr v w):=by
 have hlt:=hs.lt
 obtain ⟨i0,hi,hz0,hz1,hz2⟩:=info_parts zhC
 by_cases hneg : x < 0
 ·
  have hc:=hs.cell (k:=-x) (by omega) (by omega)
  have h3 : 1 ≤ -x:=by omega
  have hfz:=hs.free ((-x).toNat - 1)
  have hs2:=hs.store (k:=-x) (n:=-1) (by omega) (by omega)
  have hct:=hs2.trail
  have hown:=hs2.own.alloc (.cells #[.int .i64 x] 3)
  have Hown:=hid hown
  have Hs:=hid hs
  clear hs hs2 hown
  go_enter Tryz.func65,Tryz.ntmps65
  go_wp2_with (at_builtin;go_loud (refine yc _ rfl _ _ 23 rfl 0 3 i0 (.int .i64 0) 1 8 Tryz.underlying23 hi hz0 hz1 hz2 rfl (by decide) _ _ _ rfl Hown.out _ 1 1 [.int .i64 x] rfl rfl (xI _ _ _ _ (by simp [World.setCell])) (by intro u hu;simp at hu;subst hu;rfl) (by simp only [maxLen];omega) (by omega) (znz _) ?_);intro v3 w3 hown3 hgrow3 hor3;obtain ⟨a3,c3,rfl⟩:=yw hown3;obtain ⟨hc3,hf3,hfin,hmod⟩:=zkV Hs.out x (-x) (-1) (by omega) (by omega) _ w3 hown3 hgrow3 hor3;have Hfin:=hid hfin;have Hmod:=hid hmod;clear hown3 hgrow3 hor3 hfin hmod)
  go_end0
  exact ⟨rfl,by rw [zc6 hneg,sgn,if_pos hneg];exact Hfin.out,Hmod.out⟩
 ·
  have hc:=hs.cell (k:=x) (by omega) (by omega)
  have h3 : 1 ≤ x:=by omega
  have hfz:=hs.free (x.toNat - 1)
  have hs2:=hs.store (k:=x) (n:=1) (by omega) (by omega)
  have hct:=hs2.trail
  have hown:=hs2.own.alloc (.cells #[.int .i64 x] 3)
  have Hown:=hid hown
  have Hs:=hid hs
  clear hs hs2 hown
  go_enter Tryz.func65,Tryz.ntmps65
  go_wp2_with (at_builtin;go_loud (refine yc _ rfl _ _ 23 rfl 0 3 i0 (.int .i64 0) 1 8 Tryz.underlying23 hi hz0 hz1 hz2 rfl (by decide) _ _ _ rfl Hown.out _ 1 1 [.int .i64 x] rfl rfl (xI _ _ _ _ (by simp [World.setCell])) (by intro u hu;simp at hu;subst hu;rfl) (by simp only [maxLen];omega) (by omega) (znz _) ?_);intro v3 w3 hown3 hgrow3 hor3;obtain ⟨a3,c3,rfl⟩:=yw hown3;obtain ⟨hc3,hf3,hfin,hmod⟩:=zkV Hs.out x x 1 (by omega) (by omega) _ w3 hown3 hgrow3 hor3;have Hfin:=hid hfin;have Hmod:=hid hmod;clear hown3 hgrow3 hor3 hfin hmod)
  go_end0
  exact ⟨rfl,by rw [zbT h3,sgn,if_neg (show ¬ x < 0 by omega)];exact Hfin.out,Hmod.out⟩
structure Chg (tg : Nat → Nat) (T : Nat → Bool) (w w' : World) : Prop where
 os : w'.os = w.os
 tape : w'.tape = w.tape
 output : w'.output = w.output
 size : w.heap.size ≤ w'.heap.size
 block : ∀ k,k < w.heap.size → T (tg k) = false → w'.heap[k]? = w.heap[k]?
def retag (n : Nat) (tg : Nat → Nat) (t : Nat) : Nat → Nat:=fun k => if k < n then tg k else t
theorem yA {n k : Nat} {tg : Nat → Nat} {t : Nat} (h : k < n) : retag n tg t k = tg k:=if_pos h
theorem zmH {n k : Nat} {tg : Nat → Nat} {t : Nat} (h : n ≤ k) : retag n tg t k = t:=if_neg (by omega)
theorem Chg.of_below {tg : Nat → Nat} {T : Nat → Bool} {w w' : World} (h : Below w.heap.size w w') : Chg tg T w w':=⟨h.os,h.tape,h.output,h.size,fun k hk _ => h.block k hk⟩
theorem Chg.zoN {tg : Nat → Nat} {T : Nat → Bool} {p : Nat} {ov : Option Nat} {w w' : World} (h : Mod p ov w w') (hp : T (tg p) = true) (ho : ∀ b,ov = some b → T (tg b) = true) : Chg tg T w w' :=
 ⟨h.os,h.tape,h.output,h.size,fun k hk ht => h.block k hk (by intro e;subst e;rw [hp] at ht;cases ht) (by intro e;rw [ho k e.symm] at ht;cases ht)⟩
theorem Chg.zfA {tg : Nat → Nat} {T : Nat → Bool} {w w' : World} {row : Option Nat} (h : w.grownBy w' row) (ho : ∀ b,row = some b → T (tg b) = true) : Chg tg T w w' :=
 ⟨h.os,h.tape,h.output,h.size,fun k hk ht => h.block k hk (by intro e;rw [ho k e.symm] at ht;cases ht)⟩
theorem Chg.trans {tg : Nat → Nat} {T : Nat → Bool} {t : Nat} {a b c : World} (h : Chg tg T a b) (k : Chg (retag a.heap.size tg t) T b c) : Chg tg T a c :=
 ⟨k.os.trans h.os,k.tape.trans h.tape,k.output.trans h.output,Nat.le_trans h.size k.size,fun i hi ht => (k.block i (Nat.lt_of_lt_of_le hi h.size) (by rw [yA hi];exact ht)).trans (h.block i hi ht)⟩
theorem Chg.below {tg : Nat → Nat} {T : Nat → Bool} {w w' : World} (h : Chg tg T w w') {B : Nat} (hB : B ≤ w.heap.size) (hl : ∀ k,k < B → T (tg k) = false) : Below B w w' :=
 ⟨h.os,h.tape,h.output,h.size,fun k hk => h.block k (by omega) (hl k hk)⟩
theorem Chg.own {tg : Nat → Nat} {T : Nat → Bool} {w w' : World} (h : Chg tg T w w') {base e size : Nat} {v : Value} {n : Nat} {xs : List Value} (ho : w.ownsRow base e size v n xs) (ht : ∀ b,v.ownBlock = some b → T (tg b) = false) : w'.ownsRow base e size v n xs:=by
 refine ⟨ho.1,?_⟩
 rcases ho.2 with hn | ⟨g,cap,cur,rfl,h1,h2,r⟩
 · exact .inl hn
 · exact .inr ⟨g,cap,cur,rfl,h1,by rw [h.block g (Array.getElem?_eq_some_iff.1 h2).1 (ht g rfl)];exact h2,r⟩
theorem Chg.state {tg : Nat → Nat} {T : Nat → Bool} {w w' : World} (h : Chg tg T w w') {p : Nat} {f : Int → Int} {tr : List Int} {v : Value} (hs : zP w p f tr v) (hp : T (tg p) = false) (ht : ∀ b,v.ownBlock = some b → T (tg b) = false) : zP w' p f tr v:=by
 obtain ⟨cur,h3,h4⟩:=hs.blk
 exact ⟨⟨cur,by rw [h.block p hs.lt hp];exact h3,h4⟩,h.own hs.own ht,hs.apart⟩
theorem zD.own {w : World} {v : Value} {xs : List Int} (h : zD w v xs) : xs ≠ [] → ∃ b,v.ownBlock = some b ∧ b < w.heap.size:=by
 intro hne
 obtain ⟨a,b,o,c,rfl,h2,_,_,_,h6,_⟩:=h
 rw [h2 hne]
 exact ⟨b,rfl,h6 hne⟩
theorem zD.same {w w' : World} {v : Value} {xs : List Int} (h : zD w v xs) (hb : ∀ b,v.ownBlock = some b → b < w.heap.size → w'.heap[b]? = w.heap[b]?) (hs : w.heap.size ≤ w'.heap.size) : zD w' v xs:=by
 obtain ⟨a,b,o,c,rfl,h2,h3,h4,h5,h6,h7⟩:=h
 refine ⟨a,b,o,c,rfl,h2,h3,h4,fun i hi => ?_,fun e => Nat.lt_of_lt_of_le (h6 e) hs,h7⟩
 have hne : xs ≠ []:=by intro e;subst e;simp at hi
 have e:=hb b (by rw [h2 hne];rfl) (h6 hne)
 rw [World.cell?_of_block (w:=w) e]
 exact h5 i hi
theorem Chg.ints {tg : Nat → Nat} {T : Nat → Bool} {w w' : World} (h : Chg tg T w w') {v : Value} {xs : List Int} (hi : zD w v xs) (ht : ∀ b,v.ownBlock = some b → T (tg b) = false) : zD w' v xs :=
 hi.same (fun b hb hlt => h.block b hlt (ht b hb)) h.size
theorem Chg.vals {tg : Nat → Nat} {T : Nat → Bool} {w w' : World} (h : Chg tg T w w') {rs : List Value} {ls : List (List Int)} (hr : xS w rs ls) (ht : ∀ r ∈ rs,∀ b,r.ownBlock = some b → T (tg b) = false) : xS w' rs ls :=
 ⟨hr.1,fun i h1 h2 => h.ints (hr.2 i h1 h2) (ht _ (List.getElem_mem h1))⟩
theorem qM {w : World} {base e : Nat} {v : Value} {n : Nat} {xs : List Int} (h : w.ownsRow base e 1 v n (xs.map (Value.int .i64))) (hl : xs.length ≤ 17592186044416) : zD w v xs:=by
 obtain ⟨h1,h2⟩:=h
 have hn : n = xs.length:=by simp at h1;omega
 subst hn
 rcases h2 with ⟨rfl,h3⟩ | ⟨g,cap,cur,rfl,hg,hh,h3,h4,h5,h6⟩
 ·
  have e : xs = []:=List.eq_nil_of_length_eq_zero h3
  subst e
  exact ⟨none,0,0,0,rfl,fun h => absurd rfl h,znr _,znz _,fun i hi => absurd hi (by simp),fun h => absurd rfl h,znz _⟩
 ·
  refine ⟨_,g,0,cap,rfl,fun _ => rfl,h3,h4,fun i hi => ?_,fun _ => (Array.getElem?_eq_some_iff.1 hh).1,hl⟩
  rw [cell_of_row w g (0 + i) cur e (0,0) hh,Nat.zero_add]
  have h7 : (cur.toList.take (xs.length * 1))[i]? = some (.int .i64 xs[i]):=by rw [h6];simp [hi]
  rw [List.getElem?_take] at h7
  have e2 : xs.getD i 0 = xs[i]:=by simp [hi]
  rw [e2]
  split at h7
  · simpa using h7
  · cases h7
theorem zgI {w : World} {base e : Nat} {a : Option Addr} {n c : Nat} {xs : List Value} (h : w.ownsRow base e 1 (.slice a n c) n xs) {k : Nat} (hk : k ≤ n) : w.ownsRow base e 1 (.slice a k c) k (xs.take k):=by
 obtain ⟨h1,h2⟩:=h
 refine ⟨by rw [List.length_take];omega,?_⟩
 rcases h2 with ⟨e,h3⟩ | ⟨g,cap,cur,e,hg,hh,h3,h4,h5,h6⟩
 ·
  cases e
  have : k = 0:=by omega
  subst this
  exact .inl ⟨rfl,rfl⟩
 ·
  cases e
  refine .inr ⟨g,c,cur,rfl,hg,hh,by omega,h4,h5,?_⟩
  rw [← h6,List.take_take,Nat.min_eq_left (by omega)]
  simp
def zgz (f : Int → Int) (l : List Int) : Int → Int:=l.foldl (fun f x => upd f (vr x) 0) f
theorem zlm (l : List Int) : ∀ (f : Int → Int) (u : Int),zgz f l u = if ∃ x ∈ l,vr x = u then 0 else f u:=by
 induction l with
 | nil => intro f u;simp [zgz]
 | cons y l ih =>
  intro f u
  show zgz (upd f (vr y) 0) l u = _
  rw [ih]
  by_cases h : ∃ x ∈ l,vr x = u
  · rw [if_pos h,if_pos (by obtain ⟨x,hx,e⟩:=h;exact ⟨x,by simp [hx],e⟩)]
  ·
   rw [if_neg h]
   unfold upd
   by_cases e : vr y = u
   · rw [if_pos e,if_pos ⟨y,by simp,e⟩]
   · rw [if_neg e,if_neg (by rintro ⟨x,hx,e2⟩;rcases List.mem_cons.1 hx with rfl | hx;exact e e2;exact h ⟨x,hx,e2⟩)]
theorem zg0 (f : Int → Int) (l : List Int) (x : Int) : zgz f (l ++ [x]) = upd (zgz f l) (vr x) 0:=by simp [zgz]
theorem yY.take {m : Int} {f : Int → Int} {tr : List Int} (h : yY m f tr) (n : Nat) : yY m (zgz f (tr.drop n)) (tr.take n):=by
 refine ⟨fun u => ?_,fun y hy => ?_,fun x hx => h.rng x (List.mem_of_mem_take hx),h.nodup.sublist (List.take_sublist _ _)⟩
 · rw [zlm];have:=h.tri u;split <;> omega
 ·
  have hlv : lv (zgz f (tr.drop n)) y = if ∃ x ∈ tr.drop n,vr x = vr y then 0 else lv f y:=by
   unfold lv
   rw [zlm]
   split <;> split <;> first | rfl | simp
  rw [hlv]
  have hsp : y ∈ tr ↔ y ∈ tr.take n ∨ y ∈ tr.drop n:=by rw [← List.mem_append,List.take_append_drop]
  constructor
  ·
   intro h1
   split at h1
   · omega
   ·
    rename_i hno
    rcases hsp.1 ((h.iff y hy).1 h1) with h2 | h2
    · exact h2
    · exact absurd ⟨y,h2,rfl⟩ hno
  ·
   intro h1
   have h2:=hsp.2 (.inl h1)
   have h3:=(h.iff y hy).2 h2
   rw [if_neg]
   · exact h3
   ·
    rintro ⟨x,hx,e⟩
    have hxt : x ∈ tr:=List.mem_of_mem_drop hx
    have hx0:=(h.rng x hxt).1
    have h4:=(h.iff x hx0).2 hxt
    have h5 : x = y ∨ x = -y:=by unfold vr at e;omega
    rcases h5 with rfl | rfl
    ·
     have hnd:=h.nodup
     rw [← List.take_append_drop n tr,List.nodup_append] at hnd
     exact hnd.2.2 x h1 x hx rfl
    · rw [zaP hy] at h4;omega
def zok (m : Int) (n p : Nat) (tr : List Int) (v : Value) (w : World) (e : Ending) (w' : World) : Prop :=
 e = .returned (.tuple #[]) ∧ (∃ g v',zP w' p g (tr.take n) v' ∧ yY m g (tr.take n) ∧ v'.ownBlock = v.ownBlock) ∧ Mod p v.ownBlock w w'
theorem zP.ints {w : World} {p : Nat} {f : Int → Int} {tr : List Int} {v : Value} (h : zP w p f tr v) (hl : tr.length ≤ 17592186044416) : zD w v tr:=qM h.own hl
set_option maxHeartbeats 1000000 in
theorem zm5 (m : Int) (n p : Nat) (f : Int → Int) (tr : List Int) (v : Value) (w : World) (hm : m ≤ 24) (hs : zP w p f tr v) (ht : yY m f tr) (hn : n < tr.length) :
 Calls Tryz.prog 63 #[.pointer (some ⟨p,0,none⟩),.int .i64 n] w (zok m n p tr v w):=by
 have hlen:=ht.len hm
 have htk:=ht.take n
 have hct:=hs.trail
 have hrng:=ht.rng
 obtain ⟨a,c,rfl⟩:=yw hs.own
 obtain ⟨b,o,rfl,hblk⟩:=(hs.ints (by omega)).addr hn
 have hc0 : tr.length ≤ c:=by obtain ⟨_,_,e,h,_⟩:=(hs.ints (by omega)).shape;cases e;exact h
 have hcm : c ≤ 9223372036854775807:=by obtain ⟨_,_,e,_,h,_⟩:=(hs.ints (by omega)).shape;cases e;exact h
 have hnc : n < c:=by omega
 have Hs:=hid hs;have Htk:=hid htk;have Hrng:=hid hrng
 clear hs ht htk hrng
 go_enter Tryz.func63,Tryz.ntmps63
 go_wp2_with fail
 go_loopg [13] (tr.length - n) (fun gk i wr => ∃ k : Nat,k ≤ tr.length - n ∧ gk = tr.length - n - k ∧ i = .int .i64 k ∧ zP wr p (zgz f ((tr.drop n).take k)) tr (.slice (some ⟨b,o,none⟩) tr.length c) ∧ Mod p (some b) w wr)
 case atStart => exact ⟨0,znz _,rfl,rfl,Hs.out,Mod.refl _ _ _⟩
 case round =>
  obtain ⟨k,hk,rfl,rfl,hs2,hmod⟩:=hrel
  have Hs2:=hid hs2;have Hmod:=hid hmod;clear hs2 hmod
  by_cases hlt : k < tr.length - n
  ·
   have hnk : n + k < tr.length:=by omega
   have hcell:=(Hs2.out.ints (by omega)).get hnk
   obtain ⟨hx0,hx1,hx2⟩:=Hrng.out _ (List.getElem_mem hnk)
   have htk : (tr.drop n).take (k + 1) = (tr.drop n).take k ++ [tr[n + k]]:=by
    rw [List.take_succ_eq_append_getElem (by rw [List.length_drop];omega),List.getElem_drop]
   have Htk2:=hid htk;clear htk
   generalize hx : tr[n + k] = x at hcell hx0 hx1 hx2
   have Hx:=hid hx;clear hx
   rw [← Nat.add_assoc] at hcell
   by_cases hneg : x < 0
   ·
    have h3 : 1 ≤ -x:=by omega
    have hmx : max x (-x) = -x:=by omega
    have hc2:=Hs2.out.cell (k:=-x) (by omega) (by omega)
    have hfz:=Hs2.out.free ((-x).toNat - 1)
    go_wp2
    go_roundg (tr.length - n - (k + 1))
    case measure => omega
    case rel =>
     refine ⟨k + 1,by omega,rfl,by go_num,?_,Hmod.out.trans Mod.store (.inl rfl)⟩
     rw [Htk2.out,Hx.out,zg0,zc6 hneg]
     exact Hs2.out.store h3 (by omega)
   ·
    have h3 : 1 ≤ x:=by omega
    have hmx : max x (-x) = x:=by omega
    have hc2:=Hs2.out.cell (k:=x) (by omega) (by omega)
    have hfz:=Hs2.out.free (x.toNat - 1)
    go_wp2
    go_roundg (tr.length - n - (k + 1))
    case measure => omega
    case rel =>
     refine ⟨k + 1,by omega,rfl,by go_num,?_,Hmod.out.trans Mod.store (.inl rfl)⟩
     rw [Htk2.out,Hx.out,zg0,zbT h3]
     exact Hs2.out.store h3 (by omega)
  ·
   have hct2:=Hs2.out.trail
   have hfz:=Hs2.out.free 24
   have hown:=zgI Hs2.out.own (k:=n) (by omega)
   rw [← List.map_take] at hown
   have Hown:=hid hown;clear hown
   obtain rfl : k = tr.length - n:=by omega
   go_wp2
   go_end0
   have e : (tr.drop n).take (tr.length - n) = tr.drop n:=List.take_of_length_le (by rw [List.length_drop];exact znr _)
   have hs3:=Hs2.out
   rw [e] at hs3
   have hl3 : (tr.take n).length = n:=by rw [List.length_take];omega
   exact ⟨rfl,⟨zgz f (tr.drop n),_,hs3.zge rfl (by rw [hl3];exact Hown.out) (by have:=hs3.apart;exact this),Htk.out,rfl⟩,Hmod.out.trans Mod.store (.inl rfl)⟩
def zlI (x : Int) (xs : List Int) (w : World) (e : Ending) (w' : World) : Prop :=
 (∃ n : Int,e = .returned (.int .i64 n) ∧ ((n = -1 ∧ x ∉ xs) ∨ ∃ k,n = (k : Nat) ∧ ∃ h : k < xs.length,xs[k] = x ∧ x ∉ xs.take k)) ∧ w = w'
set_option maxHeartbeats 400000 in
theorem zmt (x : Int) (v : Value) (xs : List Int) (w : World) (hv : zD w v xs) :
 Calls Tryz.prog 64 #[v,.int .i64 x] w (zlI x xs w):=by
 obtain ⟨a,c,rfl,hl,hm,hlen⟩:=hv.shape
 have Hv:=hid hv;clear hv
 go_enter Tryz.func64,Tryz.ntmps64
 go_wp2
 go_loopg [8] xs.length (fun gk i wr => w = wr ∧ ∃ k : Nat,k ≤ xs.length ∧ gk = xs.length - k ∧ i = .int .i64 k ∧ x ∉ xs.take k)
 case atStart => exact ⟨rfl,0,znz _,rfl,rfl,by simp⟩
 case round =>
  obtain ⟨rfl,k,hk,rfl,rfl,hno⟩:=hrel
  have Hno:=hid hno;clear hno
  by_cases hlt : k < xs.length
  ·
   obtain ⟨b,o,rfl,hblk⟩:=Hv.out.addr hlt
   have hc:=Hv.out.get hlt
   generalize hy : xs[k] = y at hc
   have Hy:=hid hy;clear hy
   by_cases he : x = y
   ·
    have he' : (x == y) = true:=by simpa using he
    have He:=hid he;clear he
    go_wp2
    go_ret
    exact ⟨⟨k,rfl,.inr ⟨k,rfl,hlt,by rw [Hy.out,He.out],Hno.out⟩⟩,rfl⟩
   ·
    have he' : (x == y) = false:=by simpa using he
    have He:=hid he;clear he
    go_wp2
    go_roundg (xs.length - (k + 1))
    case measure => omega
    case rel => exact ⟨rfl,k + 1,by omega,rfl,by go_num,fun h => ((zI hlt).1 h).elim Hno.out (fun e => He.out (by rw [e,Hy.out]))⟩
  ·
   go_wp2
   go_ret
   refine ⟨⟨-1,rfl,.inl ⟨rfl,?_⟩⟩,rfl⟩
   have:=Hno.out
   rw [List.take_of_length_le (by omega)] at this
   exact this
theorem zD.same' {w w' : World} {v : Value} {xs : List Int} (h : zD w v xs) (hb : xs ≠ [] → ∀ b,v.ownBlock = some b → b < w.heap.size → w'.heap[b]? = w.heap[b]?) (hs : w.heap.size ≤ w'.heap.size) : zD w' v xs:=by
 obtain ⟨a,b,o,c,rfl,h2,h3,h4,h5,h6,h7⟩:=h
 refine ⟨a,b,o,c,rfl,h2,h3,h4,fun i hi => ?_,fun e => Nat.lt_of_lt_of_le (h6 e) hs,h7⟩
 have hne : xs ≠ []:=by intro e;subst e;simp at hi
 have e:=hb hne b (by rw [h2 hne];rfl) (h6 hne)
 rw [World.cell?_of_block (w:=w) e]
 exact h5 i hi
structure zex (tg : Nat → Nat) (w : World) (rs : List Value) (ls : List (List Int)) : Prop where
 vals : xS w rs ls
 tags : ∀ i (h1 : i < rs.length) (h2 : i < ls.length),ls[i] ≠ [] → ∀ b,rs[i].ownBlock = some b → tg b = 5
theorem zex.chg {tg : Nat → Nat} {T : Nat → Bool} {w w' : World} {rs : List Value} {ls : List (List Int)} (h : zex tg w rs ls) (hc : Chg tg T w w') (h5 : T 5 = false) (t : Nat) : zex (retag w.heap.size tg t) w' rs ls:=by
 refine ⟨⟨h.vals.1,fun i h1 h2 => (h.vals.2 i h1 h2).same' (fun hne b hb hlt => hc.block b hlt (by rw [h.tags i h1 h2 hne b hb];exact h5)) hc.size⟩,fun i h1 h2 hne b hb => ?_⟩
 obtain ⟨b',hb',hlt⟩:=(h.vals.2 i h1 h2).own hne
 rw [hb] at hb';cases hb'
 rw [yA hlt]
 exact h.tags i h1 h2 hne b hb
theorem zex.snoc {tg : Nat → Nat} {w : World} {rs : List Value} {ls : List (List Int)} {r : Value} {xs : List Int} (h : zex tg w rs ls) (hr : zD w r xs) (ht : xs ≠ [] → ∀ b,r.ownBlock = some b → tg b = 5) : zex tg w (rs ++ [r]) (ls ++ [xs]):=by
 refine ⟨h.vals.snoc hr,fun i h1 h2 => ?_⟩
 by_cases e : i < rs.length
 · rw [List.getElem_append_left e,List.getElem_append_left (by rw [← h.vals.1];exact e)];exact h.tags i e _
 ·
  have e1 : i = rs.length:=by simp at h1;omega
  subst e1
  have e2 : (ls ++ [xs])[rs.length]'h2 = xs:=by
   rw [List.getElem_append_right (by rw [h.vals.1];exact znr _)];simp [h.vals.1]
  rw [List.getElem_append_right (znr _),e2]
  simpa using ht
theorem zdr {tg : Nat → Nat} {w : World} {base e size : Nat} {v v' : Value} {n : Nat} {xs : List Value} {t : Nat} (ho : w.ownsRow base e size v n xs) (ht : ∀ b,v.ownBlock = some b → tg b = t) (hn : Next w v v') : ∀ b,v'.ownBlock = some b → retag w.heap.size tg t b = t:=by
 intro b hb
 rcases hn with e | ⟨g,e,hg⟩
 ·
  rw [e] at hb
  rw [yA (ho.lt b hb).2];exact ht b hb
 ·
  rw [e] at hb;cases hb
  exact zmH hg
theorem yX {tg : Nat → Nat} {w : World} {base e size : Nat} {v : Value} {n : Nat} {xs : List Value} {t t' : Nat} (ho : w.ownsRow base e size v n xs) (ht : ∀ b,v.ownBlock = some b → tg b = t') : ∀ b,v.ownBlock = some b → retag w.heap.size tg t b = t':=by
 intro b hb
 rw [yA (ho.lt b hb).2];exact ht b hb
structure qL (B p : Nat) (w : World) (all pf : List (List Int)) (f : Int → Int) (tr : List Int) (dl : List Nat) (vl vd vp v : Value) (tg : Nat → Nat) (rl rp : List Value) : Prop where
 st : zP w p f tr v
 tp : tg p = 0
 tv : ∀ b,v.ownBlock = some b → tg b = 1
 ol : w.ownsRow 0 64 1 vl rl.length rl
 tl : ∀ b,vl.ownBlock = some b → tg b = 2
 cl : zex tg w rl all
 od : w.ownsRow 0 3 1 vd dl.length (dl.map fun n : Nat => .int .i64 n)
 td : ∀ b,vd.ownBlock = some b → tg b = 3
 op : w.ownsRow 0 64 1 vp rp.length rp
 tpp : ∀ b,vp.ownBlock = some b → tg b = 4
 cp : zex tg w rp pf
 res : w.heap[B]? = some (.cells #[.bool false,.int .u64 0,.slice none 0 0] 56 (0,0))
 tB : tg B = 6
 low : ∀ k,k < B → tg k = 5
section
variable {B p : Nat} {w : World} {all pf : List (List Int)} {f : Int → Int} {tr : List Int} {dl : List Nat} {vl vd vp v : Value} {tg : Nat → Nat} {rl rp : List Value}
theorem qL.lt (h : qL B p w all pf f tr dl vl vd vp v tg rl rp) : B < w.heap.size:=(Array.getElem?_eq_some_iff.1 h.res).1
theorem qL.below (h : qL B p w all pf f tr dl vl vd vp v tg rl rp) {T : Nat → Bool} {w' : World} (hc : Chg tg T w w') (h5 : T 5 = false) : Below B w w' :=
 hc.below (Nat.le_of_lt h.lt) (fun k hk => by rw [h.low k hk];exact h5)
theorem qL.zoy (h : qL B p w all pf f tr dl vl vd vp v tg rl rp) (t : Nat) : ∀ k,k < B → retag w.heap.size tg t k = 5:=fun k hk => by
 rw [yA (by have:=h.lt;omega)];exact h.low k hk
theorem qL.rows (h : qL B p w all pf f tr dl vl vd vp v tg rl rp) (hl : all.length ≤ 17592186044416) {w' : World} (hm : Mod p v.ownBlock w w') : xw w' vl all:=by
 have hc : Chg tg (fun t => t == 0 || t == 1) w w':=Chg.zoN hm (by rw [h.tp];rfl) (fun b hb => by rw [h.tv b hb];rfl)
 exact zbQ (hc.own h.ol (fun b hb => by rw [h.tl b hb];rfl)) (h.cl.chg hc rfl 0).vals hl
theorem qL.state (h : qL B p w all pf f tr dl vl vd vp v tg rl rp) {w' : World} {g : Int → Int} {tr' : List Int} {v' : Value} (hm : Mod p v.ownBlock w w') (hs : zP w' p g tr' v') (hn : Next w v v') :
 qL B p w' all pf g tr' dl vl vd vp v' (retag w.heap.size tg 1) rl rp ∧ Below B w w':=by
 have hc : Chg tg (fun t => t == 0 || t == 1) w w':=Chg.zoN hm (by rw [h.tp];rfl) (fun b hb => by rw [h.tv b hb];rfl)
 refine ⟨⟨hs,by rw [yA h.st.lt];exact h.tp,zdr h.st.own h.tv hn,hc.own h.ol (fun b hb => by rw [h.tl b hb];rfl),yX h.ol h.tl,h.cl.chg hc rfl _,
  hc.own h.od (fun b hb => by rw [h.td b hb];rfl),yX h.od h.td,hc.own h.op (fun b hb => by rw [h.tpp b hb];rfl),yX h.op h.tpp,h.cp.chg hc rfl _,?_,by rw [yA h.lt];exact h.tB,h.zoy _⟩,h.below hc rfl⟩
 rw [hc.block B h.lt (by rw [h.tB];rfl)];exact h.res
theorem qL.fresh (h : qL B p w all pf f tr dl vl vd vp v tg rl rp) {w' : World} (hb : Below w.heap.size w w') :
 qL B p w' all pf f tr dl vl vd vp v (retag w.heap.size tg 5) rl rp:=by
 have hc : Chg tg (fun _ => false) w w':=Chg.of_below hb
 refine ⟨hc.state h.st rfl (fun _ _ => rfl),by rw [yA h.st.lt];exact h.tp,yX h.st.own h.tv,hc.own h.ol (fun _ _ => rfl),yX h.ol h.tl,h.cl.chg hc rfl _,
  hc.own h.od (fun _ _ => rfl),yX h.od h.td,hc.own h.op (fun _ _ => rfl),yX h.op h.tpp,h.cp.chg hc rfl _,?_,by rw [yA h.lt];exact h.tB,h.zoy _⟩
 rw [hc.block B h.lt rfl];exact h.res
theorem qL.proof (h : qL B p w all pf f tr dl vl vd vp v tg rl rp) {w' : World} {vp' r : Value} {xs : List Int} (hg : w.grownBy w' vp.ownBlock) (ho : w'.ownsRow 0 64 1 vp' (rp.length + 1) (rp ++ [r])) (hn : Next w vp vp')
 (hr : zD w r xs) (ht : xs ≠ [] → ∀ b,r.ownBlock = some b → tg b = 5) :
 qL B p w' all (pf ++ [xs]) f tr dl vl vd vp' v (retag w.heap.size tg 4) rl (rp ++ [r]) ∧ Below B w w':=by
 have hc : Chg tg (fun t => t == 4) w w':=Chg.zfA hg (fun b hb => by rw [h.tpp b hb];rfl)
 refine ⟨⟨hc.state h.st (by rw [h.tp];rfl) (fun b hb => by rw [h.tv b hb];rfl),by rw [yA h.st.lt];exact h.tp,yX h.st.own h.tv,hc.own h.ol (fun b hb => by rw [h.tl b hb];rfl),yX h.ol h.tl,h.cl.chg hc rfl _,
  hc.own h.od (fun b hb => by rw [h.td b hb];rfl),yX h.od h.td,by rw [List.length_append];exact ho,zdr h.op h.tpp hn,(h.cp.snoc hr ht).chg hc rfl _,?_,by rw [yA h.lt];exact h.tB,h.zoy _⟩,h.below hc rfl⟩
 rw [hc.block B h.lt (by rw [h.tB];rfl)];exact h.res
theorem qL.clauses (h : qL B p w all pf f tr dl vl vd vp v tg rl rp) {w' : World} {vl' r : Value} {xs : List Int} (hg : w.grownBy w' vl.ownBlock) (ho : w'.ownsRow 0 64 1 vl' (rl.length + 1) (rl ++ [r])) (hn : Next w vl vl')
 (hr : zD w r xs) (ht : xs ≠ [] → ∀ b,r.ownBlock = some b → tg b = 5) :
 qL B p w' (all ++ [xs]) pf f tr dl vl' vd vp v (retag w.heap.size tg 2) (rl ++ [r]) rp ∧ Below B w w':=by
 have hc : Chg tg (fun t => t == 2) w w':=Chg.zfA hg (fun b hb => by rw [h.tl b hb];rfl)
 refine ⟨⟨hc.state h.st (by rw [h.tp];rfl) (fun b hb => by rw [h.tv b hb];rfl),by rw [yA h.st.lt];exact h.tp,yX h.st.own h.tv,by rw [List.length_append];exact ho,zdr h.ol h.tl hn,(h.cl.snoc hr ht).chg hc rfl _,
  hc.own h.od (fun b hb => by rw [h.td b hb];rfl),yX h.od h.td,hc.own h.op (fun b hb => by rw [h.tpp b hb];rfl),yX h.op h.tpp,h.cp.chg hc rfl _,?_,by rw [yA h.lt];exact h.tB,h.zoy _⟩,h.below hc rfl⟩
 rw [hc.block B h.lt (by rw [h.tB];rfl)];exact h.res
theorem qL.decided (h : qL B p w all pf f tr dl vl vd vp v tg rl rp) {w' : World} {vd' : Value} {n : Nat} (hg : w.grownBy w' vd.ownBlock) (ho : w'.ownsRow 0 3 1 vd' (dl.length + 1) ((dl.map fun n : Nat => Value.int .i64 n) ++ [.int .i64 n])) (hn : Next w vd vd') :
 qL B p w' all pf f tr (dl ++ [n]) vl vd' vp v (retag w.heap.size tg 3) rl rp ∧ Below B w w':=by
 have hc : Chg tg (fun t => t == 3) w w':=Chg.zfA hg (fun b hb => by rw [h.td b hb];rfl)
 refine ⟨⟨hc.state h.st (by rw [h.tp];rfl) (fun b hb => by rw [h.tv b hb];rfl),by rw [yA h.st.lt];exact h.tp,yX h.st.own h.tv,hc.own h.ol (fun b hb => by rw [h.tl b hb];rfl),yX h.ol h.tl,h.cl.chg hc rfl _,
  by rw [List.length_append,List.map_append];exact ho,zdr h.od h.td hn,hc.own h.op (fun b hb => by rw [h.tpp b hb];rfl),yX h.op h.tpp,h.cp.chg hc rfl _,?_,by rw [yA h.lt];exact h.tB,h.zoy _⟩,h.below hc rfl⟩
 rw [hc.block B h.lt (by rw [h.tB];rfl)];exact h.res
theorem qL.znx {a : Option Addr} {c n : Nat} (h : qL B p w all pf f tr (dl ++ [n]) vl (.slice a (dl.length + 1) c) vp v tg rl rp) : qL B p w all pf f tr dl vl (.slice a dl.length c) vp v tg rl rp:=by
 refine ⟨h.st,h.tp,h.tv,h.ol,h.tl,h.cl,?_,?_,h.op,h.tpp,h.cp,h.res,h.tB,h.low⟩
 ·
  have h1:=h.od
  rw [List.length_append] at h1
  have h2:=zgI h1 (k:=dl.length) (by simp)
  have e : ((dl ++ [n]).map fun n : Nat => Value.int .i64 n).take dl.length = dl.map fun n : Nat => Value.int .i64 n:=by
   rw [List.map_append,List.take_append_of_le_length (by simp),List.take_of_length_le (by simp)]
  rw [e] at h2
  exact h2
 ·
  intro b hb
  exact h.td b (by cases a <;> exact hb)
end
set_option maxHeartbeats 400000 in
theorem zj8 (x m : Int) (b : Nat) (w : World) (h0 : 0 ≤ m) (h1 : m ≤ 24) (hc : w.cell? ⟨b,0,none⟩ = some (.int .i64 m)) :
 Calls Tryz.prog 117 #[.int .i64 x,.pointer (some ⟨b,0,none⟩)] w fun e w' => e = .returned (.bool (qp m x)) ∧ w = w':=by
 by_cases hx0 : x = 0
 ·
  subst hx0
  go_enter Tryz.func117,Tryz.ntmps117
  go_wp2
  go_ret
  exact ⟨by simp [qp],rfl⟩
 ·
  have hx0' : (x == 0) = false:=by simp [hx0]
  by_cases h2 : m < x
  ·
   go_enter Tryz.func117,Tryz.ntmps117
   go_wp2
   go_ret
   exact ⟨by simp [qp,h2],rfl⟩
  ·
   go_enter Tryz.func117,Tryz.ntmps117
   go_wp2
   go_ret
   exact ⟨by simp [qp,hx0];omega,rfl⟩
def zlR (m : Int) (ls : List (List Int)) (w : World) (e : Ending) (w' : World) : Prop :=
 (∃ ev,e = .returned ev ∧ (Good m ls → ev = .nilIface) ∧ (¬ Good m ls → ∃ t v,ev = .iface t v)) ∧ Below w.heap.size w w'
theorem zfZ {m : Int} {ls : List (List Int)} {k : Nat} (hk : k < ls.length) (h : ∀ c ∈ ls.take k,c.length ≤ 48 ∧ c.any (qp m) = false)
 (h1 : ls[k].length ≤ 48) (h2 : ls[k].any (qp m) = false) : ∀ c ∈ ls.take (k + 1),c.length ≤ 48 ∧ c.any (qp m) = false:=by
 intro c hc
 rw [List.take_succ_eq_append_getElem hk] at hc
 rcases List.mem_append.1 hc with h3 | h3
 · exact h c h3
 · simp at h3;subst h3;exact ⟨h1,h2⟩
set_option maxHeartbeats 1000000 in
theorem zjm (m : Int) (v : Value) (ls : List (List Int)) (w : World) (hv : xw w v ls) :
 Calls Tryz.prog 60 #[.int .i64 m,v] w (zlR m ls w):=by
 obtain ⟨a,c,rfl,hl,hm,hlen⟩:=hv.shape
 have Hv:=hid hv;clear hv
 by_cases h0 : m < 0
 ·
  go_enter Tryz.func60,Tryz.ntmps60
  go_wp2
  go_ret
  exact ⟨⟨_,rfl,fun h => absurd h.1 (by omega),fun _ => ⟨_,_,rfl⟩⟩,zba⟩
 by_cases h1 : 24 < m
 ·
  go_enter Tryz.func60,Tryz.ntmps60
  go_wp2
  go_ret
  exact ⟨⟨_,rfl,fun h => absurd h.2.1 (by omega),fun _ => ⟨_,_,rfl⟩⟩,zba⟩
 by_cases h2 : 200 < ls.length
 ·
  go_enter Tryz.func60,Tryz.ntmps60
  go_wp2
  go_ret
  exact ⟨⟨_,rfl,fun h => absurd h.2.2.1 (by omega),fun _ => ⟨_,_,rfl⟩⟩,zba⟩
 have hc1:=fun (r : Value) (xs : List Int) (w1 : World) (h1' : zD w1 r xs) (h2' : w1.cell? ⟨w.heap.size,0,none⟩ = some (.int .i64 m)) =>
  zd7 117 (.pointer (some ⟨w.heap.size,0,none⟩)) (qp m) r xs w1 h1' (by intro a w;go_simp)
  (fun x hx => zj8 x m _ w1 (by omega) (by omega) h2')
 have Hc1:=hid hc1;clear hc1
 go_enter Tryz.func60,Tryz.ntmps60
 go_wp2
 go_loopg [20] ls.length (fun gk i wr => Below w.heap.size w wr ∧ w.heap.size < wr.heap.size ∧ wr.cell? ⟨w.heap.size,0,none⟩ = some (.int .i64 m) ∧ ∃ k : Nat,k ≤ ls.length ∧ gk = ls.length - k ∧ i = .int .i64 k ∧ ∀ c ∈ ls.take k,c.length ≤ 48 ∧ c.any (qp m) = false)
 case atStart => exact ⟨zba,by simp,by simp [go_sem],0,znz _,rfl,rfl,by simp⟩
 case round =>
  obtain ⟨hbw,hsz,hcm,k,hk,rfl,rfl,hno⟩:=hrel
  have Hno:=hid hno;clear hno
  have Hb:=hid hbw;clear hbw
  by_cases hlt : k < ls.length
  ·
   obtain ⟨b,o,rfl,hblk⟩:=Hv.out.addr hlt
   obtain ⟨a2,n2,c2,hc,hr⟩:=(Hv.out.below Hb.out).get hlt
   have hn2:=hr.len
   have Hn2:=hid hn2;clear hn2
   have Hr:=hid hr;clear hr
   by_cases h48 : 48 < n2
   ·
    go_wp2
    go_ret
    refine ⟨⟨_,rfl,fun h => ?_,fun _ => ⟨_,_,rfl⟩⟩,Hb.out.alloc (by omega) _⟩
    have:=(h.2.2.2 _ (List.getElem_mem hlt)).1
    have:=Hn2.out
    omega
   ·
    cases hp : ls[k].any (qp m)
    ·
     have Hp:=hid hp;clear hp
     go_wp2_with (go_at_call 116;refine (Hc1.out _ _ _ Hr.out hcm).mono ?_;rw [Hp.out];rintro e w' ⟨rfl,rfl⟩)
     go_roundg (ls.length - (k + 1))
     case measure => omega
     case rel => exact ⟨Hb.out,hsz,hcm,k + 1,by omega,rfl,by go_num,zfZ hlt Hno.out (by have:=Hn2.out;omega) Hp.out⟩
    ·
     have Hp:=hid hp;clear hp
     go_wp2_with (go_at_call 116;refine (Hc1.out _ _ _ Hr.out hcm).mono ?_;rw [Hp.out];rintro e w' ⟨rfl,rfl⟩)
     go_ret
     refine ⟨⟨_,rfl,fun h => ?_,fun _ => ⟨_,_,rfl⟩⟩,Hb.out.alloc (by omega) _⟩
     have h5:=(h.2.2.2 _ (List.getElem_mem hlt)).2
     rw [Hp.out] at h5
     exact absurd h5 (by decide)
  ·
   go_wp2
   go_ret
   refine ⟨⟨_,rfl,fun _ => rfl,fun h => absurd ⟨by omega,by omega,by omega,?_⟩ h⟩,Hb.out⟩
   have:=Hno.out
   rw [List.take_of_length_le (by omega)] at this
   exact this
def zo5 (f : Int → Int) (c : List Int) (w : World) (e : Ending) (w' : World) : Prop:=(∃ x ok,e = .returned (.tuple #[.int .i64 x,.bool ok]) ∧ zfa f c x ok) ∧ w = w'
set_option maxHeartbeats 1000000 in
theorem zox (p : Nat) (f : Int → Int) (tr c : List Int) (v vc : Value) (w : World) (hs : zP w p f tr v) (hc : zD w vc c) (hg : ∀ x ∈ c,x ≠ 0 ∧ -24 ≤ x ∧ x ≤ 24) (ht : Tri f) :
 Calls Tryz.prog 118 #[.pointer (some ⟨p,0,none⟩),vc] w (zo5 f c w):=by
 obtain ⟨ac,cc,rfl,hcl,hcm,hclen⟩:=hc.shape
 have Hc:=hid hc;clear hc
 have Hs:=hid hs;clear hs
 have Hg:=hid hg;clear hg
 have Ht:=hid ht;clear ht
 go_enter Tryz.func118,Tryz.ntmps118
 go_wp2
 go_loopg [6,11] c.length (fun gk l i wr => w = wr ∧ ∃ (k : Nat) (left : Int),k ≤ c.length ∧ gk = c.length - k ∧ i = .int .i64 k ∧ l = .int .i64 left ∧ zbM f c k left)
 case atStart => exact ⟨rfl,0,0,znz _,rfl,rfl,rfl,zi1 _ _⟩
 case round =>
  obtain ⟨rfl,k,left,hk,rfl,rfl,rfl,hsc⟩:=hrel
  have Hsc:=hid hsc;clear hsc
  by_cases hlt : k < c.length
  ·
   obtain ⟨b,o,rfl,hblk⟩:=Hc.out.addr hlt
   have hcell:=Hc.out.get hlt
   have hmem : c[k] ∈ c:=List.getElem_mem hlt
   obtain ⟨hx0,hx1,hx2⟩:=Hg.out _ hmem
   generalize hx : c[k] = x at hcell hx0 hx1 hx2 hmem
   have Hx:=hid hx;clear hx
   have hcall:=zq7 x p f tr v w Hs.out hx0 hx1 hx2 Ht.out
   have h3 : lv f x = 1 ∨ lv f x = -1 ∨ lv f x = 0:=by have:=Ht.out.lv x;omega
   rcases h3 with h3 | h3 | h3
   ·
    rw [h3] at hcall
    have H3:=hid h3;have Hcall:=hid hcall;clear h3 hcall
    go_wp2_with (go_at_call 167;refine Hcall.out.mono ?_;rintro e w' ⟨rfl,rfl⟩)
    go_ret2
    exact ⟨⟨_,_,rfl,zn6 hmem H3.out⟩,rfl⟩
   ·
    rw [h3] at hcall
    have H3:=hid h3;have Hcall:=hid hcall;clear h3 hcall
    go_wp2_with (go_at_call 167;refine Hcall.out.mono ?_;rintro e w' ⟨rfl,rfl⟩)
    go_roundg (c.length - (k + 1))
    case measure => omega
    case rel => exact ⟨rfl,k + 1,left,by omega,rfl,by go_num,rfl,Hsc.out.zqf hlt (by rw [Hx.out];exact H3.out)⟩
   ·
    rw [h3] at hcall
    have H3:=hid h3;have Hcall:=hid hcall;clear h3 hcall
    by_cases hl0 : left = 0
    ·
     subst hl0
     go_wp2_with (go_at_call 167;refine Hcall.out.mono ?_;rintro e w' ⟨rfl,rfl⟩)
     go_roundg (c.length - (k + 1))
     case measure => omega
     case rel => exact ⟨rfl,k + 1,x,by omega,rfl,by go_num,rfl,by have:=Hsc.out.step0 hlt (fun y hy => (Hg.out y hy).1) (by rw [Hx.out];exact H3.out) (.inl rfl);rw [Hx.out] at this;exact this⟩
    ·
     have hl0' : (left != 0) = true:=by simpa using hl0
     by_cases hlx : left = x
     ·
      subst hlx
      have hlx' : (left != left) = false:=by simp
      clear hl0
      go_wp2_with (go_at_call 167;refine Hcall.out.mono ?_;rintro e w' ⟨rfl,rfl⟩)
      go_roundg (c.length - (k + 1))
      case measure => omega
      case rel => exact ⟨rfl,k + 1,left,by omega,rfl,by go_num,rfl,by have:=Hsc.out.step0 hlt (fun y hy => (Hg.out y hy).1) (by rw [Hx.out];exact H3.out) (.inr (by rw [Hx.out]));rw [Hx.out] at this;exact this⟩
     ·
      have hlx' : (left != x) = true:=by simpa using hlx
      have Hl0:=hid hl0;have Hlx:=hid hlx;clear hl0 hlx
      go_wp2_with (go_at_call 167;refine Hcall.out.mono ?_;rintro e w' ⟨rfl,rfl⟩)
      go_ret2
      exact ⟨⟨_,_,rfl,zpw Hsc.out hmem H3.out Hl0.out Hlx.out⟩,rfl⟩
  ·
   obtain rfl : k = c.length:=by omega
   have hsay:=Hsc.out.say (fun y hy => (Hg.out y hy).1)
   have Hsay:=hid hsay;clear hsay
   go_wp2
   go_ret2
   exact ⟨⟨_,_,rfl,Hsay.out⟩,rfl⟩
def zkG (m : Int) (l : List (List Int)) (p : Nat) (f : Int → Int) (tr : List Int) (v : Value) (w : World) (e : Ending) (w' : World) : Prop :=
 ∃ (n : Int) (g : Int → Int) (ext : List Int) (v' : Value),e = .returned (.int .i64 n) ∧ zP w' p g (tr ++ ext) v' ∧ Next w v v' ∧ Mod p v.ownBlock w w' ∧ yY m g (tr ++ ext) ∧ zeO l tr ext ∧
  ((n = -1 ∧ ∀ d ∈ l,Stuck g d) ∨ ∃ k,n = (k : Nat) ∧ ∃ h : k < l.length,∀ y ∈ l[k],lv g y = -1)
theorem Next.trans {a b : World} {v v' v'' : Value} (h : Next a v v') (h' : Next b v' v'') (hs : a.heap.size ≤ b.heap.size) : Next a v v'':=by
 rcases h' with e | ⟨g,e,hg⟩
 ·
  rcases h with e2 | ⟨g,e2,hg⟩
  · exact .inl (e.trans e2)
  · exact .inr ⟨g,e.trans e2,hg⟩
 · exact .inr ⟨g,e,by omega⟩
set_option maxHeartbeats 1000000 in
theorem zjD (m : Int) (p : Nat) (f : Int → Int) (tr : List Int) (l : List (List Int)) (v vl : Value) (w : World) (hm : m ≤ 24) (hs : zP w p f tr v) (ht : yY m f tr)
 (hl : ∀ w',Mod p v.ownBlock w w' → xw w' vl l) (hg : ∀ d ∈ l,∀ x ∈ d,x ≠ 0 ∧ -m ≤ x ∧ x ≤ m) (hll : l.length ≤ 100000) :
 Calls Tryz.prog 62 #[.pointer (some ⟨p,0,none⟩),vl] w (zkG m l p f tr v w):=by
 obtain ⟨al,cl,rfl,hlc,hlm,_⟩:=(hl w (Mod.refl _ _ _)).shape
 have Hl:=hid hl;clear hl
 have Hg:=hid hg;clear hg
 have Hs:=hid hs;clear hs
 have Ht:=hid ht;clear ht
 go_enter Tryz.func62,Tryz.ntmps62
 go_wp2
 go_loopg [5] (unset f * 200000 + l.length) (fun gk i wr => ∃ (k : Nat) (g : Int → Int) (ext : List Int) (v' : Value),i = .int .i64 k ∧ k ≤ l.length ∧ gk = unset g * 200000 + (l.length - k) ∧ zP wr p g (tr ++ ext) v' ∧ Next w v v' ∧ Mod p v.ownBlock w wr ∧ yY m g (tr ++ ext) ∧ zeO l tr ext ∧ ∀ d ∈ l.take k,Stuck g d)
 case atStart => exact ⟨0,f,[],v,rfl,znz _,rfl,by rw [List.append_nil];exact Hs.out,.inl rfl,Mod.refl _ _ _,by rw [List.append_nil];exact Ht.out,zmk _ _,by simp⟩
 case round =>
  obtain ⟨k,g,ext,v',rfl,hk,rfl,hs,hnx,hmod,ht,hj,hst⟩:=hrel
  have Hs2:=hid hs;clear hs
  have Hnx:=hid hnx;clear hnx
  have Hmod:=hid hmod;clear hmod
  have Ht2:=hid ht;clear ht
  have Hj:=hid hj;clear hj
  have Hst:=hid hst;clear hst
  by_cases hlt : k < l.length
  ·
   obtain ⟨b,o,rfl,hblk⟩:=(Hl.out _ Hmod.out).addr hlt
   obtain ⟨a2,n2,c2,hcell,hr⟩:=(Hl.out _ Hmod.out).get hlt
   have hd : l[k] ∈ l:=List.getElem_mem hlt
   generalize hdd : l[k] = d at hr hd
   have Hdd:=hid hdd;clear hdd
   have hu:=zox p g (tr ++ ext) d v' _ wr Hs2.out hr (fun x hx => by have:=Hg.out d hd x hx;omega) Ht2.out.tri
   have Hu:=hid hu;clear hu hr
   go_wp2_with (go_at_call 118;refine Hu.out.mono ?_;rintro e w' ⟨⟨x,ok,rfl,hsay⟩,rfl⟩;have Hsay:=hid hsay;clear hsay)
   ·
    have hok : ok = false:=by simpa using (show (!ok) = true by assumption)
    subst hok
    go_ret
    refine ⟨k,g,ext,v',rfl,Hs2.out,Hnx.out,Hmod.out,Ht2.out,Hj.out,.inr ⟨k,rfl,hlt,?_⟩⟩
    rw [Hdd.out]
    exact (Hsay.out.1 rfl).2
   ·
    have hok : ok = true:=by simpa using (show (!ok) = false by assumption)
    have hx0 : x ≠ 0:=by simpa using (show (x != 0) = true by assumption)
    obtain ⟨hxd,hx1,hx2⟩:=Hsay.out.2.1 hok hx0
    obtain ⟨_,hx3,hx4⟩:=Hg.out d hd x hxd
    have ht3:=Ht2.out.snoc hx0 hx3 hx4 hx1
    have hcnt:=znJ (f:=g) (x:=x) (by unfold vr;omega) (by unfold vr;omega) (zdG.1 hx1)
    have hj3 : zeO l tr (ext ++ [x]):=Hj.out.snoc ⟨d,hd,hxd,fun y hy hne => (Ht2.out.neg (Hg.out d hd y hy).1).1 (hx2 y hy hne)⟩
    have Ht3:=hid ht3;have Hcnt:=hid hcnt;have Hj3:=hid hj3
    clear ht3 hcnt hj3 hx2 hxd
    refine (zlf x p g (tr ++ ext) v' wr Hs2.out hx0 (by omega) (by omega) (by have:=Ht2.out.len hm;omega)).mono ?_
    rintro e w2 ⟨rfl,⟨v2,hs3,hnx3⟩,hmod3⟩
    have Hs3:=hid hs3;have Hnx3:=hid hnx3;have Hmod3:=hid hmod3
    clear hs3 hnx3 hmod3
    go_wp2_with fail
    go_roundg (unset (upd g (vr x) (sgn x)) * 200000 + l.length)
    case measure => have:=Hcnt.out;omega
    case rel =>
     refine ⟨0,_,ext ++ [x],v2,rfl,znz _,rfl,?_,Hnx.out.trans Hnx3.out Hmod.out.size,Hmod.out.trans Hmod3.out Hnx.out,?_,Hj3.out,by simp⟩
     · rw [← List.append_assoc];exact Hs3.out
     · rw [← List.append_assoc];exact Ht3.out
   ·
    have hok : ok = true:=by simpa using (show (!ok) = false by assumption)
    have hx0 : x = 0:=by simpa using (show (x != 0) = false by assumption)
    have hstk:=Hsay.out.2.2 hok hx0
    have Hstk:=hid hstk;clear hstk
    go_roundg (unset g * 200000 + (l.length - (k + 1)))
    case measure => omega
    case rel => exact ⟨k + 1,g,ext,v',by go_num,by omega,rfl,Hs2.out,Hnx.out,Hmod.out,Ht2.out,Hj.out,fun y hy => ((zI hlt).1 hy).elim (Hst.out y) (fun e => by rw [e,Hdd.out];exact Hstk.out)⟩
  ·
   obtain rfl : k = l.length:=by omega
   go_wp2
   go_ret
   refine ⟨-1,g,ext,v',rfl,Hs2.out,Hnx.out,Hmod.out,Ht2.out,Hj.out,.inl ⟨rfl,?_⟩⟩
   have:=Hst.out
   rw [List.take_length] at this
   exact this
theorem zeN : (Tryz.prog.info? 64).map (fun i => (i.zero,i.size,i.bytes)) = some (some (.slice none 0 0),1,24):=by kernel_rfl
set_option maxHeartbeats 1000000 in
theorem zkn (v : Value) (ls : List (List Int)) (w : World) (hv : xw w v ls) (hlen : ls.length ≤ 100000) :
 Calls Tryz.prog 61 #[v] w fun e w' => (∃ v' rs,e = .returned v' ∧ w'.ownsRow w.heap.size 64 1 v' ls.length rs ∧ xS w rs ls) ∧ Below w.heap.size w w':=by
 obtain ⟨a,c,rfl,hl,hm,_⟩:=hv.shape
 obtain ⟨rs,hrs,hcells⟩:=hv.vals
 have heq:=fun (W : World) n c => Lib.run_eql_slice_nil (P:=Tryz.prog) W 25 64 a n c 0 0 Tryz.underlying25
 obtain ⟨i0,hi,hz0,hz1,hz2⟩:=info_parts zeN
 cases a with
 | none =>
  have e : ls = []:=by
   cases ls with
   | nil => rfl
   | cons x l => obtain ⟨b,o,h,_⟩:=hv.addr (k:=0) (by simp);cases h
  subst e
  go_enter Tryz.func61,Tryz.ntmps61
  go_wp2
  go_ret
  exact ⟨⟨_,[],rfl,World.ownsRow_nil _ _ _ _,rfl,fun i h1 => absurd h1 (by simp)⟩,Below.refl _ _⟩
 | some ad =>
  have hal : Below w.heap.size w (w.alloc (.cells #[] 64)):=zba
  have hcells':=fun j u (h : rs[j]? = some u) => (World.cell?_of_block (hal.block (ad.add j).block (World.block_lt_of_cell? _ _ (hcells ad rfl j u h)))).trans (hcells ad rfl j u h)
  have hrs':=hrs.below hal
  have Hrs:=hid hrs;clear hrs
  have Hal:=hid hal;clear hal
  have Hv:=hid hv;clear hv
  have hz1' : rs.length = ls.length * 1:=by rw [Hrs.out.1];omega
  have Hc:=hid hcells';clear hcells hcells'
  have Hz1':=hid hz1';clear hz1'
  have hone:=hrs'.oneCell
  have Hrs':=hid hrs';clear hrs'
  have Hone:=hid hone;clear hone
  go_enter Tryz.func61,Tryz.ntmps61
  go_wp2_with (at_builtin;refine wpList_append_own _ rfl _ _ 25 rfl w.heap.size 64 i0 (.slice none 0 0) 1 24 Tryz.underlying25 hi hz0 hz1 hz2 rfl (by decide) _ _ _ rfl (World.ownsRow_made w #[] 0 (znr _) (znz _) rfl) ad _ _ rs rfl Hz1'.out Hc.out Hone.out (by simp only [maxLen];omega) (by omega) (by simp) ?_;intro v' w1 hown hgrow _;have Hown:=hid hown;have Hgrow:=hid hgrow;clear hown hgrow)
  go_ret
  have hb : Below w.heap.size w w1:=Hal.out.grown Hgrow.out (by simp) (fun k hk => by cases hk;exact znr _)
  refine ⟨⟨v',rs,rfl,?_,Hrs.out⟩,hb⟩
  have:=Hown.out
  rw [Nat.zero_add,List.nil_append] at this
  exact this
structure zoo (m : Int) (l : List (List Int)) (holds : Bool) (vals : Nat) (vp err : Value) (w' : World) : Prop where
 bad : ¬ Good m l → holds = false ∧ vals = 0 ∧ vp = .slice none 0 0 ∧ ∃ t v,err = .iface t v
 small : Good m l → ziQ m l → err = .nilIface
 errs : Good m l → err = .nilIface ∨ (holds = false ∧ vals = 0 ∧ vp = .slice none 0 0 ∧ ∃ t v,err = .iface t v)
 yes : Good m l → err = .nilIface → holds = true → vp = .slice none 0 0 ∧ j6 vals l = true ∧ (∀ k : Nat,m ≤ k → vals.testBit k = false) ∧
  ∀ v',j6 v' l = true → ∀ k : Nat,(k : Int) < m → (∀ i,i < k → v'.testBit i = vals.testBit i) → v'.testBit k = true → vals.testBit k = true
 no : Good m l → err = .nilIface → holds = false → vals = 0 ∧ ∃ ls,xw w' vp ls ∧ ls.length ≤ 2000 ∧ (∀ i (h : i < ls.length),Rup m (l ++ ls.take i) ls[i]) ∧ ls.getLast? = some [] ∧ (Rup m l [] → ls = [[]])
def zms (m : Int) (l : List (List Int)) (w : World) (e : Ending) (w' : World) : Prop :=
 (∃ (holds : Bool) (vals : Nat) (vp err : Value),e = .returned (.tuple #[.agg #[.bool holds,.int .u64 vals,vp],err]) ∧ vals < 18446744073709551616 ∧ zoo m l holds vals vp err w') ∧ Below w.heap.size w w'
theorem kQ {w : World} {B : Nat} {a b c : Value} {T : TypeId} (h : w.heap[B]? = some (.cells #[a,b,c] T (0,0))) :
 w.cell? ⟨B,0,none⟩ = some a ∧ w.cell? ⟨B,1,none⟩ = some b ∧ w.cell? ⟨B,2,none⟩ = some c ∧ w.frozen? ⟨B,0,none⟩ = false ∧ w.frozen? ⟨B,1,none⟩ = false ∧ w.frozen? ⟨B,2,none⟩ = false:=by
 refine ⟨?_,?_,?_,?_,?_,?_⟩
 · rw [cell_of_row w B _ _ _ _ h];rfl
 · rw [cell_of_row w B _ _ _ _ h];rfl
 · rw [cell_of_row w B _ _ _ _ h];rfl
 all_goals simp [World.frozen?,h]
theorem zpA {w : World} {B : Nat} {r : Value} {xs : List Int} {a : Bool} {n c : Nat} {o : Option Addr} {u : Int} {T : TypeId} (h : w.heap[B]? = some (.cells #[.bool a,.int .u64 u,.slice o n c] T (0,0))) (hi : zD w r xs) (hne : xs ≠ []) : r.ownBlock ≠ some B:=by
 intro e
 obtain ⟨ad,cc,rfl,_⟩:=hi.shape
 have hlen : 0 < xs.length:=List.length_pos_iff.2 hne
 obtain ⟨bb,oo,rfl,_⟩:=hi.addr hlen
 have h1:=hi.get hlen
 simp only [Value.ownBlock,Option.some.injEq] at e
 subst e
 rw [cell_of_row w _ _ _ _ _ h] at h1
 generalize oo + 0 = q at h1
 match q with
 | 0 => simp at h1
 | 1 => simp at h1
 | 2 => simp at h1
 | q + 3 => simp at h1
theorem zjS {B : Nat} {w1 w2 : World} {vl : Value} {l : List (List Int)} {rs : List Value} (hB : B < w1.heap.size) (hres : w1.heap[B]? = some (.cells #[.bool false,.int .u64 0,.slice none 0 0] 56 (0,0)))
 (hown : w2.ownsRow w1.heap.size 64 1 vl l.length rs) (hrv : xS w1 rs l) (hb : Below w1.heap.size w1 w2) (cs : Array Value) (hcs : cs = ((List.replicate 24 (Value.int .i64 0)) ++ [Value.slice none 0 0]).toArray) :
 ∃ tg,qL B w2.heap.size (w2.alloc (.cells cs 132)) l [] (fun _ => 0) [] [] vl (.slice none 0 0) (.slice none 0 0) (.slice none 0 0) tg rs []:=by
 have hsz:=hb.size
 have hal : Below w2.heap.size w2 (w2.alloc (.cells cs 132)):=zba
 have hlow : Below w1.heap.size w1 (w2.alloc (.cells cs 132)):=hb.trans (hal.mono hsz)
 have hown3:=ownsRow_below hown hal
 have hrl : rs.length = l.length:=hrv.1
 refine ⟨fun k => if k < w1.heap.size then (if k = B then 6 else 5) else if k < w2.heap.size then 2 else 0,⟨⟨cs,za rfl,by subst hcs;rfl,fun i hi => ?_,by subst hcs;rfl⟩,World.ownsRow_nil _ _ _ _,by simp [Value.ownBlock]⟩,?_,by simp [Value.ownBlock],?_,?_,⟨hrv.below hlow,fun i h1 h2 hne b hb2 => ?_⟩,
  World.ownsRow_nil _ _ _ _,by simp [Value.ownBlock],World.ownsRow_nil _ _ _ _,by simp [Value.ownBlock],⟨ziT _,fun i h => absurd h (by simp)⟩,?_,?_,fun k hk => ?_⟩
 ·
  subst hcs
  rw [List.getElem?_toArray,List.getElem?_append_left (by rw [List.length_replicate];exact hi),List.getElem?_replicate,if_pos hi]
 · rw [if_neg (by omega),if_neg (by omega)]
 ·
  refine ⟨by omega,?_⟩
  rw [hrl]
  rcases hown3.2 with h | ⟨g,cap,cur,h1,h2,r⟩
  · exact .inl h
  · exact .inr ⟨g,cap,cur,h1,znz _,r⟩
 ·
  intro b hb2
  have h1:=hown.lt b hb2
  rw [if_neg (by omega),if_pos h1.2]
 ·
  obtain ⟨b',hb',hlt⟩:=(hrv.2 i h1 h2).own hne
  rw [hb2] at hb';cases hb'
  have h3:=zpA hres (hrv.2 i h1 h2) hne
  rw [if_pos hlt,if_neg (by rintro rfl;exact h3 hb2)]
 · rw [hlow.block B hB];exact hres
 · rw [if_pos hB,if_pos rfl]
 · rw [if_pos (by omega),if_neg (by omega)]
theorem zjU {m : Int} {l ls : List (List Int)} {f : Int → Int} {tr : List Int} {dl : List Nat} (hg : Good m l) (s : jD m l ls f tr dl) : ∀ d ∈ l ++ ls,∀ x ∈ d,x ≠ 0 ∧ -m ≤ x ∧ x ≤ m:=by
 intro d hd x hx
 rcases List.mem_append.1 hd with h | h
 · exact qg (hg.2.2.2 d h).2 hx
 ·
  obtain ⟨i,hi,rfl⟩:=List.getElem_of_mem h
  exact qg (s.learned i hi).1 hx
theorem zhd {m : Int} {l ls : List (List Int)} {f : Int → Int} {tr : List Int} {dl : List Nat} (s : jD m l ls f tr dl) (hm : m ≤ 24) : dl.length ≤ 49:=by
 have h1:=s.tok.len hm
 have h2:=zbH tr.length dl (s.zku.imp (fun h => Nat.ne_of_lt h)) s.dlt
 omega
theorem zni {B p : Nat} {w w3 : World} {all pf : List (List Int)} {f : Int → Int} {tr : List Int} {dl : List Nat} {vl vd vp v : Value} {tg : Nat → Nat} {rl rp : List Value} {r : Value} {c : List Int}
 (h : qL B p w all pf f tr dl vl vd vp v (retag w3.heap.size tg 5) rl rp) (hi : zD w r c) (hb : ∀ j,r.ownBlock = some j → w3.heap.size ≤ j) (o : Obj) :
 qL B p (w.alloc o) all pf f tr dl vl vd vp v (retag w.heap.size (retag w3.heap.size tg 5) 5) rl rp ∧ zD (w.alloc o) r c ∧ (c ≠ [] → ∀ j,r.ownBlock = some j → retag w.heap.size (retag w3.heap.size tg 5) 5 j = 5):=by
 have hal : Below w.heap.size w (w.alloc o):=zba
 refine ⟨h.fresh hal,hi.below hal,fun _ j hj => ?_⟩
 unfold retag
 split
 · rw [if_neg (by have:=hb j hj;omega)]
 · rfl
theorem zdg {w : World} {v v' : Value} (h : v'.ownBlock = v.ownBlock ∨ v'.ownBlock = some w.heap.size) : Next w v v':=h.imp id (fun e => ⟨_,e,znr _⟩)
theorem zeZ {B p : Nat} {w : World} {all pf : List (List Int)} {f : Int → Int} {tr : List Int} {dl : List Nat} {vl vd vp v : Value} {tg : Nat → Nat} {rl rp : List Value}
 (h : qL B p w all pf f tr dl vl vd vp v tg rl rp) (hl : pf.length ≤ 17592186044416) (a b c : Value) : xw (((w.setCell ⟨B,0,none⟩ a).setCell ⟨B,1,none⟩ b).setCell ⟨B,2,none⟩ c) vp pf:=by
 have hc : Chg tg (fun t => t == 6) w (((w.setCell ⟨B,0,none⟩ a).setCell ⟨B,1,none⟩ b).setCell ⟨B,2,none⟩ c):=by
  refine ⟨rfl,rfl,rfl,by simp [World.setCell],fun k hk ht => ?_⟩
  have hne : k ≠ B:=by rintro rfl;rw [h.tB] at ht;cases ht
  rw [zhc _ _ _ _ hne,zhc _ _ _ _ hne,zhc _ _ _ _ hne]
 exact zbQ (hc.own h.op (fun b hb => by rw [h.tpp b hb];rfl)) (h.cp.chg hc rfl 0).vals hl
theorem zlA {m : Int} {l ls : List (List Int)} {f : Int → Int} {tr : List Int} {dl : List Nat} (s : jD m l ls f tr dl) (hdl : 0 < dl.length) (hz : ∀ d ∈ l ++ ls,qY d) {d : List Int} (hd : d ∈ l ++ ls) (hc : ∀ y ∈ d,lv f y = -1) (hf : ziQ m l) : ls.length + 1 < 2000:=by
 rcases List.eq_nil_or_concat dl with rfl | ⟨dl',n,rfl⟩
 · simp at hdl
 ·
  rw [List.concat_eq_append] at s
  have:=(s.back hz hd hc (s.tok.take n)).fewC hf
  simpa using this
theorem zlF {B p : Nat} {w w' w3 : World} {all all' pf pf' : List (List Int)} {f f' : Int → Int} {tr tr' : List Int} {dl dl' : List Nat} {vl vl' vd vd' vp vp' v v' : Value} {tg : Nat → Nat} {rl rl' rp rp' : List Value} {r : Value} {c : List Int}
 (h : qL B p w all pf f tr dl vl vd vp v tg rl rp) (h' : qL B p w' all' pf' f' tr' dl' vl' vd' vp' v' (retag w.heap.size tg 4) rl' rp') (hg : w.grownBy w' vp.ownBlock) (hi : zD w r c) (ht : c ≠ [] → ∀ j,r.ownBlock = some j → tg j = 5)
 (hb : ∀ j,r.ownBlock = some j → w3.heap.size ≤ j) (hbel : Below B w w') (o : Obj) :
 qL B p (w'.alloc o) all' pf' f' tr' dl' vl' vd' vp' v' (retag w'.heap.size (retag w.heap.size tg 4) 5) rl' rp' ∧ zD (w'.alloc o) r c ∧ (c ≠ [] → ∀ j,r.ownBlock = some j → retag w'.heap.size (retag w.heap.size tg 4) 5 j = 5) ∧ zD w' r c ∧ True:=by
 have hal : Below w'.heap.size w' (w'.alloc o):=zba
 have hi' : zD w' r c:=hi.same' (fun hne b hb2 hlt => hg.block b hlt (fun e => by have h1:=h.tpp b e.symm;have h2:=ht hne b hb2;omega)) hg.size
 refine ⟨h'.fresh hal,hi'.below hal,fun hne j hj => ?_,hi',trivial⟩
 obtain ⟨j',hj',hlt⟩:=hi.own hne
 rw [hj] at hj';cases hj'
 have:=hg.size
 rw [yA (by omega),yA hlt]
 exact ht hne j hj
theorem zD.cap {w : World} {a : Option Addr} {n c : Nat} {xs : List Int} (h : zD w (.slice a n c) xs) : xs.length ≤ c ∧ c ≤ 9223372036854775807:=by
 obtain ⟨_,_,e,h1,h2,_⟩:=h.shape
 cases e
 exact ⟨h1,h2⟩
theorem zm2 {B p : Nat} {w : World} {all pf : List (List Int)} {f : Int → Int} {tr : List Int} {dl : List Nat} {vl vp v : Value} {tg : Nat → Nat} {rl rp : List Value} {b8 o8 n8 c8 : Nat}
 (h : qL B p w all pf f tr dl vl (.slice (some ⟨b8,o8,none⟩) n8 c8) vp v tg rl rp) (hl : dl.length ≤ 49) (hd : 0 < dl.length) : w.cell? ⟨b8,o8 + (dl.length - 1),none⟩ = some (.int .i64 (dl[dl.length - 1]'(by omega) : Nat)):=by
 have hints : zD w (.slice (some ⟨b8,o8,none⟩) n8 c8) (dl.map fun n : Nat => (n : Int)):=qM (n:=dl.length) (by rw [List.map_map];exact h.od) (by simp;omega)
 have:=hints.get (k:=dl.length - 1) (by simp;omega)
 rw [List.getElem_map] at this
 exact this
theorem zP.vars {w : World} {p : Nat} {f : Int → Int} {tr : List Int} {v : Value} (h : zP w p f tr v) {M : Nat} (hM : M ≤ 24) : zD w (.slice (some ⟨p,0,none⟩) M 24) ((List.range M).map fun i : Nat => f ((i : Int) + 1)):=by
 refine ⟨some ⟨p,0,none⟩,p,0,24,by simp,fun _ => rfl,by simpa using hM,by decide,fun i hi => ?_,fun _ => h.lt,by simp;omega⟩
 have hi' : i < M:=by simpa using hi
 have hc:=h.cell (k:=(i : Int) + 1) (by omega) (by omega)
 rw [show ((i : Int) + 1).toNat - 1 = i by omega] at hc
 rw [Nat.zero_add,hc,List.getD_eq_getElem?_getD,List.getElem?_map,List.getElem?_range hi']
 rfl
theorem zlr {f : Int → Int} {M : Nat} (h : (0 : Int) ∉ (List.range M).map fun i : Nat => f ((i : Int) + 1)) : ∀ u : Int,1 ≤ u → u ≤ M → lv f u ≠ 0:=by
 intro u h1 h2 e
 rw [zdG,zbT (by omega)] at e
 exact h (List.mem_map.2 ⟨(u - 1).toNat,List.mem_range.2 (by omega),by rw [show (((u - 1).toNat : Nat) : Int) + 1 = u by omega];exact e⟩)
theorem zoi {f : Int → Int} {M k : Nat} (hk : k < M) (h : (0 : Int) ∉ ((List.range M).map fun i : Nat => f ((i : Int) + 1)).take k) : ∀ u : Int,1 ≤ u → u < (k : Int) + 1 → lv f u ≠ 0:=by
 intro u h1 h2
 refine zlr (M:=k) (fun hm => h ?_) u h1 (by omega)
 rw [← List.map_take,List.take_range,Nat.min_eq_left (by omega)]
 exact hm
theorem zlK {f : Int → Int} {k V : Nat} (h : zh9 (k : Nat) f V) (h1 : f ((k : Int) + 1) ≠ 1) : zh9 ((k + 1 : Nat) : Nat) f V:=by
 intro j
 rw [h j]
 rcases Nat.lt_trichotomy j k with h2 | rfl | h2
 · rw [decide_eq_true (by omega : (j : Int) < k),decide_eq_true (by omega : (j : Int) < ((k + 1 : Nat) : Int))]
 · simp [h1]
 · rw [decide_eq_false (by omega : ¬ (j : Int) < k),decide_eq_false (by omega : ¬ (j : Int) < ((k + 1 : Nat) : Int))]
theorem zoB {f : Int → Int} {k V : Nat} (h : zh9 (k : Nat) f V) (h1 : f ((k : Int) + 1) = 1) : zh9 ((k + 1 : Nat) : Nat) f (V ||| 2 ^ k):=by
 intro j
 rw [Nat.testBit_or,h j,Nat.testBit_two_pow]
 rcases Nat.lt_trichotomy j k with h2 | rfl | h2
 · rw [decide_eq_true (by omega : (j : Int) < k),decide_eq_true (by omega : (j : Int) < ((k + 1 : Nat) : Int)),decide_eq_false (by omega : ¬ k = j),Bool.or_false]
 · simp [h1];omega
 · rw [decide_eq_false (by omega : ¬ (j : Int) < k),decide_eq_false (by omega : ¬ (j : Int) < ((k + 1 : Nat) : Int)),decide_eq_false (by omega : ¬ k = j)];rfl
theorem zoY : ∀ k < 24,IntKind.u64.wrap ((2 : Int) ^ k) = ((2 ^ k : Nat) : Int) ∧ 2 ^ k < 16777216:=by decide
theorem or_bit {V k : Nat} (hV : V < 16777216) (hk : k < 24) : bits .or .u64 (V : Int) (IntKind.u64.wrap ((2 : Int) ^ k)) = ((V ||| 2 ^ k : Nat) : Int) ∧ V ||| 2 ^ k < 16777216:=by
 obtain ⟨h1,h2⟩:=zoY k hk
 rw [h1,bits_or_u64_nat _ _ (by omega) (by omega)]
 exact ⟨rfl,Nat.or_lt_two_pow (n:=24) hV h2⟩
def SHead (B p : Nat) (m : Int) (l : List (List Int)) (gk : Nat) (vl vd vp : Value) (w : World) : Prop :=
 ∃ ls f tr dl v tg rl rp,qL B p w (l ++ ls) ls f tr dl vl vd vp v tg rl rp ∧ jD m l ls f tr dl ∧ ls.length < 2000 ∧ gk = (2000 - ls.length) * 100 + (50 - tr.length)
set_option maxRecDepth 100000 in
set_option maxHeartbeats 2000000 in
theorem zlC (m : Int) (vl : Value) (l : List (List Int)) (w : World) (hl : xw w vl l) :
 Calls Tryz.prog 21 #[.int .i64 m,vl] w (zms m l w):=by
 obtain ⟨al,cl,rfl,hll,hlm,hllen⟩:=hl.shape
 have Hl:=hid hl;clear hl
 have hal : Below w.heap.size w (w.alloc (.cells #[.bool false,.int .u64 0,.slice none 0 0] 56)):=zba
 have Hck:=hid (zjm m _ l _ (Hl.out.below hal))
 have Hal:=hid hal;clear hal
 by_cases hgood : Good m l
 ·
  have Hgood:=hid hgood;clear hgood
  obtain ⟨M,rfl⟩:=Int.eq_ofNat_of_zero_le Hgood.out.1
  have hM : M ≤ 24:=by have:=Hgood.out.2.1;omega
  have hl200 : l.length ≤ 200:=Hgood.out.2.2.1
  go_enter Tryz.func21,Tryz.ntmps21
  go_wp2_with fail
  refine Hck.out.mono ?_
  rintro e w1 ⟨⟨ev,rfl,hev,-⟩,hb⟩
  obtain rfl:=hev Hgood.out
  clear hev
  have hres : w1.heap[w.heap.size]? = some (.cells #[.bool false,.int .u64 0,.slice none 0 0] 56 (0,0)):=by
   rw [hb.block _ (by simp)];exact za rfl
  have Hres:=hid hres
  have Hb:=hid hb;clear hb hres
  go_wp2_with fail
  refine (zkn _ l _ ((Hl.out.below Hal.out).below Hb.out) (by omega)).mono ?_
  rintro e w2 ⟨⟨v',rs,rfl,hown,hrv⟩,hb2⟩
  have Hown:=hid hown;have Hrv:=hid hrv;have Hb2:=hid hb2;clear hown hrv hb2
  have hsz1 : w.heap.size < w1.heap.size:=by have:=Hb.out.size;rw [zy] at this;omega
  obtain ⟨tg0,hmem0⟩:=zjS hsz1 Hres.out Hown.out Hrv.out Hb2.out _ rfl
  have Hmem0:=hid hmem0;clear hmem0
  have hbel0 : Below w.heap.size w w2:=(Hal.out.trans (Hb.out.mono (by simp))).trans (Hb2.out.mono (by omega))
  have Hbel0:=hid hbel0;clear hbel0
  go_wp2_with fail
  go_loopg [1,8,9] 200050 (fun gk vl vd vp wr => Below w.heap.size w wr ∧ SHead w.heap.size w2.heap.size M l gk vl vd vp wr)
  case atStart =>
   refine ⟨Hbel0.out.alloc (by have:=Hb2.out.size;omega) _,[],fun _ => 0,[],[],.slice none 0 0,tg0,rs,[],?_,zjJ _ _,by decide,rfl⟩
   rw [List.append_nil]
   exact Hmem0.out
  case round =>
   clear Hmem0 Hbel0 Hown Hrv Hb2 Hres Hb Hck tg0
   obtain ⟨hbel,ls,f,tr,dl,v,tg,rl,rp,hmem,hsr,hls,rfl⟩:=hrel
   have Hbel:=hid hbel;have Hmem:=hid hmem;have Hsr:=hid hsr;clear hbel hmem hsr
   obtain ⟨a1,c1,rfl⟩:=yw Hmem.out.ol
   obtain ⟨a8,c8,rfl⟩:=yw Hmem.out.od
   obtain ⟨a9,c9,rfl⟩:=yw Hmem.out.op
   have hrl:=hid (show rl.length = (l ++ ls).length from Hmem.out.cl.vals.1)
   have hrp:=hid (show rp.length = ls.length from Hmem.out.cp.vals.1)
   have hall : (l ++ ls).length ≤ 2200:=by rw [List.length_append];omega
   have hrange : ∀ d ∈ l ++ ls,∀ x ∈ d,x ≠ 0 ∧ -(M : Int) ≤ x ∧ x ≤ M:=zjU Hgood.out Hsr.out
   have Hrange:=hid hrange;clear hrange
   go_wp2_with fail
   with_reducible refine (zjD M w2.heap.size f tr (l ++ ls) v _ wr (by omega) Hmem.out.st Hsr.out.tok (fun w' h => Hmem.out.rows (by omega) h) Hrange.out (by omega)).mono ?_
   rintro e w3 ⟨n,g,ext,v3,rfl,hst,hnx,hmod,htk,hj,hn⟩
   obtain ⟨hmem3,hbel3⟩:=Hmem.out.state hmod hst hnx
   have hsr3:=Hsr.out.spread htk hj
   have hext : tr.length ≤ (tr ++ ext).length:=by simp
   generalize htr3 : tr ++ ext = tr3 at hmem3 hsr3 hext
   have Hmem3:=hid hmem3;have Hbel3:=hid (Hbel.out.trans hbel3);have Hsr3:=hid hsr3
   clear hmem3 hbel3 hsr3 hst hnx hmod htk hj htr3
   rcases hn with ⟨rfl,hstuck⟩ | ⟨kk,rfl,hkk,hconf⟩
   ·
    have Hstuck:=hid hstuck;clear hstuck
    have hlt3:=Hmem3.out.st.lt
    have hvars:=Hmem3.out.st.vars (M:=M) (by omega)
    have Hvars:=hid hvars;clear hvars
    have hlen3:=Hsr3.out.tok.len (by omega)
    have hdl3 : dl.length ≤ 49:=zhd Hsr3.out (by omega)
    have hM24 : (M : Int) ≤ 24:=by omega
    have hM0 : 0 ≤ (M : Int):=by omega
    have hMa : (M : Int) ≤ ((Tryz.prog.arrayLen 130 : Nat) : Int):=hM24
    go_wp2_with fail
    refine (zmt 0 _ _ _ Hvars.out).mono ?_
    rintro e w4 ⟨⟨n,rfl,hn⟩,rfl⟩
    rcases hn with ⟨rfl,hno⟩ | ⟨k,rfl,hk,hk0,hno⟩
    ·
     have Hall:=hid (zlr hno);clear hno
     go_wp2_with fail
     go_loopg [16,91] M (fun gk u16 i wr => Below w3.heap.size w3 wr ∧ ∃ k V : Nat,k ≤ M ∧ gk = M - k ∧ i = .int .i64 k ∧ zh9 (k : Nat) g V ∧ V < 16777216 ∧
      wr.heap[w3.heap.size]? = some (.cells #[.bool true,.int .u64 V,.slice none 0 0] 56 (0,0)))
     case atStart =>
      exact ⟨zba,0,0,znz _,rfl,rfl,fun j => by simp;omega,by decide,za rfl⟩
     case round =>
      obtain ⟨hb,k,V,hk,rfl,rfl,hV,hV24,hbl⟩:=hrel
      have hBlt : w.heap.size < w3.heap.size:=Hmem3.out.lt
      obtain ⟨hr0,hr1,hr2,hz0,hz1,hz2⟩:=kQ ((hb.block _ hBlt).trans Hmem3.out.res)
      obtain ⟨hc0,hc1,hc2,hf0,hf1,hf2⟩:=kQ hbl
      have Hb:=hid hb;have HV:=hid hV;have Hbl:=hid hbl;clear hb hV hbl
      by_cases hlt : k < M
      ·
       have hc3 : wr.cell? ⟨w2.heap.size,k,none⟩ = some (.int .i64 (g ((k : Int) + 1))):=by
        have:=Hmem3.out.st.cell (k:=(k : Int) + 1) (by omega) (by omega)
        rw [show ((k : Int) + 1).toNat - 1 = k by omega] at this
        rw [Hb.out.cell (by exact hlt3)];exact this
       by_cases hg1 : g ((k : Int) + 1) = 1
       ·
        have Hg1:=hid hg1
        rw [hg1] at hc3
        clear hg1
        obtain ⟨hor,hor24⟩:=or_bit hV24 (show k < 24 by omega)
        have Hor:=hid hor;clear hor
        go_wp2_with fail
        go_region
        all_goals go_wp2_with fail
        all_goals rw [Hor.out]
        all_goals go_roundg (M - (k + 1))
        case measure => omega
        case rel =>
         exact ⟨(Hb.out.setCell (znr _) _).drew,k + 1,V ||| 2 ^ k,by omega,rfl,by go_num,zoB HV.out Hg1.out,hor24,zaK Hbl.out 1 _⟩
       ·
        have hg1' : (g ((k : Int) + 1) == 1) = false:=by simpa using hg1
        have Hg1:=hid hg1
        clear hg1
        go_wp2_with fail
        go_roundg (M - (k + 1))
        case measure => omega
        case rel => exact ⟨Hb.out,k + 1,V,by omega,rfl,by go_num,zlK HV.out Hg1.out,hV24,Hbl.out⟩
      ·
       obtain rfl : k = M:=by omega
       clear hlt hk
       go_wp2_with fail
       have hV:=HV.out
       have hz : ∀ d ∈ l ++ ls,qY d:=fun d hd x hx => (Hrange.out d hd x hx).1
       have hbw : Below w.heap.size w wr:=Hbel3.out.trans (Hb.out.mono (by have:=Hbel3.out.size;omega))
       refine bodyPost_ret (v:=.tuple #[.agg #[.bool true,.int .u64 V,.slice none 0 0],.nilIface]) (by simp [results,Tryz.results21,go_sem,hr0,hr1,hr2]) rfl ⟨⟨true,V,_,_,rfl,by omega,⟨fun h => absurd Hgood.out h,fun _ _ => rfl,fun _ => .inl rfl,fun _ _ _ => ⟨rfl,?_,fun j hj => ?_,fun v' hv' j hj hsame h1 => ?_⟩,fun _ _ h => (by cases h)⟩⟩,?_⟩
       · exact Hsr3.out.holds (fun d hd => Hrange.out d (List.mem_append_left _ hd)) Hstuck.out Hall.out hV
       · rw [hV j,decide_eq_false (by omega)];rfl
       ·
        rcases hh : V.testBit j with _ | _
        · exact (Hsr3.out.zpQ hz Hall.out hV hv' hj hsame h1 hh).elim
        · rfl
       · exact ((hbw.setCell (znr _) _).setCell (znr _) _).setCell (znr _) _
    ·
     have hkM : k < M:=by simpa using hk
     have hk1 : g ((k : Int) + 1) = 0:=by simpa using hk0
     have Hlow:=hid (zoi hkM hno)
     clear hno hk hk0
     obtain ⟨a3,c3,rfl⟩:=yw Hmem3.out.st.own
     obtain ⟨i0,hi,hz0,hz1,hz2⟩:=info_parts zhC
     have hct:=Hmem3.out.st.trail
     have hk2 : lv g ((k : Int) + 1) = 0:=by rw [zdG,zbT (by omega)];exact hk1
     have Hk2:=hid hk2;clear hk1 hk2
     go_wp2_with (at_builtin;refine yc _ rfl (.tmp 80) (.tmp 84) 23 rfl 0 3 i0 (.int .i64 0) 1 8 Tryz.underlying23 hi hz0 hz1 hz2 rfl (by decide) _ _ _ rfl (Hmem3.out.od.alloc _) _ 1 1 [.int .i64 tr3.length] rfl rfl (xI _ _ _ _ (by simp)) (by intro u hu;simp at hu;subst hu;rfl) (by simp only [maxLen];omega) (by omega) (znz _) ?_;intro v5 w5 hown5 hgrow5 hor5;obtain ⟨hmem5,hbel5⟩:=(Hmem3.out.fresh (zba)).decided hgrow5 hown5 (zdg hor5);have Hmem5:=hid hmem5;have Hbel5:=hid hbel5;clear hmem5 hbel5 hown5 hgrow5 hor5)
     refine (zlf ((k : Int) + 1) w2.heap.size g tr3 _ w5 Hmem5.out.st (by omega) (by omega) (by omega) (by omega)).mono ?_
     rintro e w6 ⟨rfl,⟨v6,hst6,hnx6⟩,hmod6⟩
     obtain ⟨hmem6,hbel6⟩:=Hmem5.out.state hmod6 hst6 hnx6
     have Hmem6:=hid hmem6;have Hbel6:=hid hbel6
     clear hst6 hnx6 hmod6 hmem6 hbel6
     go_wp2_with fail
     go_roundg ((2000 - ls.length) * 100 + (50 - (tr3 ++ [(k : Int) + 1]).length))
     case measure => rw [List.length_append];simp;omega
     case rel =>
      refine ⟨(Hbel3.out.trans (((Below.refl _ _).alloc (by have:=Hbel3.out.size;omega) _).trans Hbel5.out)).trans Hbel6.out,ls,_,_,_,v6,_,_,_,Hmem6.out,
       Hsr3.out.decide (fun d hd x hx => (Hrange.out d hd x hx).1) Hstuck.out (by omega) (by omega) Hk2.out Hlow.out,hls,rfl⟩
   ·
    have Hconf:=hid hconf;clear hconf
    obtain ⟨a3,c3,rfl⟩:=yw Hmem3.out.st.own
    have hlen3:=Hsr3.out.tok.len (by omega)
    have hdl3 : dl.length ≤ 49:=zhd Hsr3.out (by omega)
    obtain ⟨i0,hi,hz0,hz1,hz2⟩:=info_parts zhC
    go_wp2_with fail
    go_loopg [10,31] dl.length (fun gk vc i wi => Below w3.heap.size w3 wi ∧ ∃ k : Nat,k ≤ dl.length ∧ gk = dl.length - k ∧ i = .int .i64 k ∧ wi.ownsRow w3.heap.size 3 1 vc k ((dl.take k).map fun n => Value.int .i64 (-(tr3.getD n 0))))
    case atStart => exact ⟨Below.refl _ _,0,znz _,rfl,rfl,World.ownsRow_nil _ _ _ _⟩
    case round =>
     obtain ⟨hbi,k,hk,rfl,rfl,hownc⟩:=hrel
     have hmemi:=Hmem3.out.fresh hbi
     have Hbi:=hid hbi;have Hmemi:=hid hmemi;have Hownc:=hid hownc;clear hbi hmemi hownc
     have hszi:=Hbi.out.size
     by_cases hlt : k < dl.length
     ·
      have hints : zD wr (.slice a8 dl.length c8) (dl.map fun n : Nat => (n : Int)):=qM (by rw [List.map_map];exact Hmemi.out.od) (by simp;omega)
      obtain ⟨b8,o8,rfl,_⟩:=hints.addr (k:=k) (by simpa using hlt)
      have hc8:=hints.get (k:=k) (by simpa using hlt)
      rw [List.getElem_map] at hc8
      have hq : dl[k] < tr3.length:=Hsr3.out.dlt _ (List.getElem_mem hlt)
      have htake : (dl.take (k + 1)).map (fun n => Value.int .i64 (-(tr3.getD n 0))) = (dl.take k).map (fun n => Value.int .i64 (-(tr3.getD n 0))) ++ [.int .i64 (-(tr3.getD dl[k] 0))]:=by
       rw [List.take_succ_eq_append_getElem hlt,List.map_append];rfl
      have Htake:=hid htake;clear htake hints
      generalize hqq : dl[k] = q at hc8 hq
      have Hqq:=hid hqq;clear hqq
      have hct:=Hmemi.out.st.trail
      have hti:=Hmemi.out.st.ints (by omega)
      obtain ⟨b3,o3,rfl,_⟩:=hti.addr hq
      have hc3:=hti.get hq
      obtain ⟨hx0,hx1,hx2⟩:=Hsr3.out.tok.rng _ (List.getElem_mem hq)
      have hgd : tr3.getD q 0 = tr3[q]:=getD_at _ _ hq
      have Hgd:=hid hgd;clear hgd hti
      generalize hxx : tr3[q] = x at hc3 hx0 hx1 hx2
      have Hxx:=hid hxx;clear hxx
      go_wp2_with (at_builtin;refine yc _ rfl _ _ 64 rfl w3.heap.size 3 i0 (.int .i64 0) 1 8 Tryz.underlying64 hi hz0 hz1 hz2 rfl (by decide) _ _ _ rfl (Hownc.out.alloc _) _ 1 1 [.int .i64 (-x)] rfl rfl (xI _ _ _ _ (by simp)) (by intro u hu;simp at hu;subst hu;rfl) (by simp only [maxLen];omega) (by omega) (by simp;omega) ?_;intro v5 w5 hown5 hgrow5 _;have Hown5:=hid hown5;have Hgrow5:=hid hgrow5;clear hown5 hgrow5)
      go_roundg (dl.length - (k + 1))
      case measure => omega
      case rel =>
       refine ⟨(Hbi.out.alloc hszi _).grown Hgrow5.out (by simp;omega) (fun j hj => (Hownc.out.lt j hj).1),k + 1,by omega,rfl,by go_num,?_⟩
       rw [Htake.out,Hqq.out,Hgd.out,Hxx.out]
       exact Hown5.out
     ·
      obtain rfl : k = dl.length:=by omega
      clear hlt hk
      obtain ⟨a10,c10,rfl⟩:=yw Hownc.out
      have hintc : zD wr (.slice a10 dl.length c10) ((jq tr3 dl).map fun x => -x):=qM (by
       have:=Hownc.out
       rw [List.take_length] at this
       have e : ((jq tr3 dl).map fun x => -x).map (Value.int .i64) = dl.map fun n => Value.int .i64 (-(tr3.getD n 0)):=by simp [jq,Function.comp]
       rw [e];exact this) (by simp [jq];omega)
      have hblk10 : ∀ j,Value.ownBlock (.slice a10 dl.length c10) = some j → w3.heap.size ≤ j:=fun j hj => (Hownc.out.lt j hj).1
      obtain ⟨hmem6,hint6,htag6⟩:=zni Hmemi.out hintc hblk10 (.cells #[.slice a10 dl.length c10] 64)
      have Hmem6:=hid hmem6;have Hint6:=hid hint6;have Htag6:=hid htag6
      have Hblk10:=hid hblk10
      clear hmem6 hint6 htag6 hintc hblk10 Hownc hi hz0 hz1 hz2
      obtain ⟨i1,hi,hz0,hz1,hz2⟩:=info_parts zeN
      by_cases hd0 : dl.length = 0
      ·
       have hd0' : ((dl.length : Int) == 0) = true:=by simpa using hd0
       have Hd0:=hid hd0;clear hd0
       go_wp2_with (at_builtin;refine yc _ rfl (.tmp 45) (.tmp 47) 25 rfl 0 64 i1 (.slice none 0 0) 1 24 Tryz.underlying25 hi hz0 hz1 hz2 rfl (by decide) _ _ _ rfl Hmem6.out.op _ 1 1 [.slice a10 dl.length c10] rfl rfl (xI _ _ _ _ (by simp)) (by intro u hu;simp at hu;subst hu;rfl) (by have:=hrp.out;simp only [maxLen];omega) (by have:=hrp.out;omega) (znz _) ?_;intro v6 w6 hown6 hgrow6 hor6;obtain ⟨a6,c6,rfl⟩:=yw hown6;obtain ⟨hmem7,hbel7⟩:=Hmem6.out.proof hgrow6 hown6 (zdg hor6) Hint6.out Htag6.out;obtain ⟨hc0,hc1,hc2,hf0,hf1,hf2⟩:=kQ hmem7.res;have Hmem7:=hid hmem7;have Hbel7:=hid hbel7;clear hown6 hgrow6 hor6 hmem7 hbel7)
       have hdl : dl = []:=List.eq_nil_of_length_eq_zero Hd0.out
       subst hdl
       have hbw6 : Below w.heap.size w w6:=(Hbel3.out.trans (Hbi.out.mono (by have:=Hbel3.out.size;omega))).trans (((Below.refl _ _).alloc (by have:=Hbel3.out.size;omega) _).trans Hbel7.out)
       have hcc : ((jq tr3 []).map fun x => -x) = ([] : List Int):=rfl
       have hrup:=Hsr3.out.rup (fun d hd x hx => (Hrange.out d hd x hx).1) (List.getElem_mem hkk) Hconf.out
       rw [hcc] at hrup
       refine bodyPost_ret (v:=.tuple #[.agg #[.bool false,.int .u64 0,.slice a6 (rp.length + 1) c6],.nilIface]) (by simp [results,Tryz.results21,go_sem,hc0,hc1,hc2]) rfl ⟨⟨false,0,_,_,rfl,by decide,⟨fun h => absurd Hgood.out h,fun _ _ => rfl,fun _ => .inl rfl,fun _ _ h => (by cases h),fun _ _ _ => ⟨rfl,ls ++ [[]],?_,by rw [List.length_append];simp;omega,fun i hi => ?_,by simp,fun h => by rw [(Hsr3.out.start h).1];rfl⟩⟩⟩,?_⟩
       ·
        have:=zeZ Hmem7.out (by rw [List.length_append];simp;omega) (.bool false) (.int .u64 0) (.slice a6 (rp.length + 1) c6)
        rw [hcc] at this
        exact this
       ·
        rcases Nat.lt_or_ge i ls.length with h1 | h1
        ·
         rw [List.getElem_append_left h1,List.take_append_of_le_length (by omega)]
         exact Hsr3.out.learned i h1
        ·
         have e : i = ls.length:=by simp at hi;omega
         subst e
         rw [List.getElem_append_right (znr _),List.take_left]
         simpa using hrup
       · exact ((hbw6.setCell (znr _) _).setCell (znr _) _).setCell (znr _) _
      ·
       have hd0' : ((dl.length : Int) == 0) = false:=by simpa using hd0
       have hdpos : 0 < dl.length:=Nat.pos_of_ne_zero hd0
       clear hd0
       by_cases h2000 : ls.length + 1 = 2000
       ·
        have h2000' : (((rp.length + 1 : Nat) : Int) == 2000) = true:=by have:=hrp.out;simp;omega
        have H2000:=hid h2000;clear h2000
        go_wp2_with (at_builtin;refine yc _ rfl (.tmp 45) (.tmp 47) 25 rfl 0 64 i1 (.slice none 0 0) 1 24 Tryz.underlying25 hi hz0 hz1 hz2 rfl (by decide) _ _ _ rfl Hmem6.out.op _ 1 1 [.slice a10 dl.length c10] rfl rfl (xI _ _ _ _ (by simp)) (by intro u hu;simp at hu;subst hu;rfl) (by have:=hrp.out;simp only [maxLen];omega) (by have:=hrp.out;omega) (znz _) ?_;intro v6 w6 hown6 hgrow6 hor6;obtain ⟨a6,c6,rfl⟩:=yw hown6;obtain ⟨hmem7,hbel7⟩:=Hmem6.out.proof hgrow6 hown6 (zdg hor6) Hint6.out Htag6.out;obtain ⟨hc0,hc1,hc2,hf0,hf1,hf2⟩:=kQ hmem7.res;have Hmem7:=hid hmem7;have Hbel7:=hid hbel7;clear hown6 hgrow6 hor6 hmem7 hbel7)
        have hbw6 : Below w.heap.size w w6:=(Hbel3.out.trans (Hbi.out.mono (by have:=Hbel3.out.size;omega))).trans (((Below.refl _ _).alloc (by have:=Hbel3.out.size;omega) _).trans Hbel7.out)
        refine bodyPost_ret (v:=.tuple #[.agg #[.bool false,.int .u64 0,.slice none 0 0],.iface 45 (.int .i64 4)]) (by simp [results,Tryz.results21,go_sem,hc0,hc1,hc2]) rfl ⟨⟨false,0,_,_,rfl,by decide,⟨fun h => absurd Hgood.out h,fun _ hm10 => ?_,fun _ => .inr ⟨rfl,rfl,rfl,_,_,rfl⟩,fun _ h => (by cases h),fun _ h => (by cases h)⟩⟩,?_⟩
        ·
         have h1:=zlA Hsr3.out hdpos (fun d hd x hx => (Hrange.out d hd x hx).1) (List.getElem_mem hkk) Hconf.out hm10
         have:=H2000.out
         omega
        · exact ((hbw6.setCell (znr _) _).setCell (znr _) _).setCell (znr _) _
       ·
        have h2000' : (((rp.length + 1 : Nat) : Int) == 2000) = false:=by have:=hrp.out;simp;omega
        have H2000:=hid h2000;clear h2000
        have hints3 : zD w3 (.slice a8 dl.length c8) (dl.map fun n : Nat => (n : Int)):=qM (by rw [List.map_map];exact Hmem3.out.od) (by simp;omega)
        obtain ⟨b8,o8,rfl,_⟩:=hints3.addr (k:=dl.length - 1) (by simp;omega)
        have hdc8 : dl.length ≤ c8 ∧ c8 ≤ 9223372036854775807:=by have:=hints3.cap;rw [List.length_map] at this;exact this
        clear hints3
        obtain ⟨hdc8,hdc8'⟩:=hdc8
        have h0d : 0 ≤ (dl.length : Int) - 1:=by omega
        have h1d : 1 ≤ (dl.length : Int):=by omega
        have hq : dl[dl.length - 1] < tr3.length:=Hsr3.out.dlt _ (List.getElem_mem _)
        generalize hqq : dl[dl.length - 1] = q at hq
        have Hqq:=hid hqq;clear hqq
        go_wp2_with (first
         | (at_builtin;refine yc _ rfl (.tmp 45) (.tmp 47) 25 rfl 0 64 i1 (.slice none 0 0) 1 24 Tryz.underlying25 hi hz0 hz1 hz2 rfl (by decide) _ _ _ rfl Hmem6.out.op _ 1 1 [.slice a10 dl.length c10] rfl rfl (xI _ _ _ _ (by simp)) (by intro u hu;simp at hu;subst hu;rfl) (by have:=hrp.out;simp only [maxLen];omega) (by have:=hrp.out;omega) (znz _) ?_;intro v6 w6 hown6 hgrow6 hor6;obtain ⟨a6,c6,rfl⟩:=yw hown6;obtain ⟨hmem7,hbel7⟩:=Hmem6.out.proof hgrow6 hown6 (zdg hor6) Hint6.out Htag6.out;obtain ⟨hc0,hc1,hc2,hf0,hf1,hf2⟩:=kQ hmem7.res;obtain ⟨hmem8,hint8,htag8,hint9,htag9⟩:=zlF Hmem6.out hmem7 hgrow6 Hint6.out Htag6.out Hblk10.out hbel7 (.cells #[.slice a10 dl.length c10] 64);have Hmem8:=hid hmem8;have Hint8:=hid hint8;have Htag8:=hid htag8;have Hbel7:=hid hbel7;clear hown6 hgrow6 hor6 hmem7 hbel7 hmem8 hint8 htag8 hc0 hc1 hc2 hf0 hf1 hf2)
         | (at_builtin;refine yc _ rfl (.tmp 59) (.tmp 61) 25 rfl 0 64 i1 (.slice none 0 0) 1 24 Tryz.underlying25 hi hz0 hz1 hz2 rfl (by decide) _ _ _ rfl Hmem8.out.ol _ 1 1 [.slice a10 dl.length c10] rfl rfl (xI _ _ _ _ (by simp)) (by intro u hu;simp at hu;subst hu;rfl) (by have:=hrl.out;simp only [maxLen];omega) (by have:=hrl.out;omega) (znz _) ?_;intro v9 w9 hown9 hgrow9 hor9;obtain ⟨a11,c11,rfl⟩:=yw hown9;obtain ⟨hmem10,hbel10⟩:=Hmem8.out.clauses hgrow9 hown9 (zdg hor9) Hint8.out Htag8.out;have hc8:=zm2 hmem10 (by omega) hdpos;rw [Hqq.out] at hc8;have Hmem10:=hid hmem10;have Hbel10:=hid hbel10;clear hmem10 hbel10 hown9 hgrow9 hor9))
        refine (zm5 M q w2.heap.size g tr3 _ w9 (by omega) Hmem10.out.st Hsr3.out.tok hq).mono ?_
        rintro e w11 ⟨rfl,⟨g2,v11,hst11,htk11,hob11⟩,hmod11⟩
        obtain ⟨hmem11,hbel11⟩:=Hmem10.out.state hmod11 hst11 (.inl hob11)
        have Hmem11:=hid hmem11;have Hbel11:=hid hbel11;have Htk11:=hid htk11
        clear hst11 htk11 hob11 hmod11 hmem11 hbel11
        go_wp2_with fail
        go_roundg ((2000 - (ls.length + 1)) * 100 + (50 - (tr3.take q).length))
        case measure => omega
        case rel =>
         have hb9 : Below w.heap.size w w9:=((((Hbel3.out.trans (Hbi.out.mono (by have:=Hbel3.out.size;omega))).alloc (by have:=Hbel3.out.size;omega) _).trans Hbel7.out).alloc (by have:=Hbel3.out.size;have:=Hbel7.out.size;simp at this;omega) _).trans Hbel10.out
         refine ⟨hb9.trans Hbel11.out,?_⟩
         rcases List.eq_nil_or_concat dl with e | ⟨dl',n,e⟩
         · exact absurd (congrArg List.length e) (by rw [List.length_nil];omega)
         ·
          rw [List.concat_eq_append] at e
          have hqn : n = q:=by
           have:=Hqq.out
           subst e
           rw [← this];simp
          subst hqn
          have hm:=Hmem11.out
          have hs:=Hsr3.out
          have hl : dl.length = dl'.length + 1:=by rw [e];simp
          rw [e] at hm hs
          rw [← e,hl] at hm
          rw [hl,Nat.add_sub_cancel]
          rw [e] at hm
          have hback:=hs.back (fun d hd x hx => (Hrange.out d hd x hx).1) (List.getElem_mem hkk) Hconf.out Htk11.out
          have hu:=hm.znx
          rw [List.append_assoc] at hu
          exact ⟨_,g2,_,dl',v11,_,_,_,hu,hback,by rw [List.length_append];simp;have:=H2000.out;omega,by rw [List.length_append];simp⟩
 ·
  have Hgood:=hid hgood;clear hgood
  go_enter Tryz.func21,Tryz.ntmps21
  go_wp2_with fail
  refine Hck.out.mono ?_
  rintro e w1 ⟨⟨ev,rfl,-,hev⟩,hb⟩
  obtain ⟨t,v,rfl⟩:=hev Hgood.out
  clear hev
  have hres : w1.heap[w.heap.size]? = some (.cells #[.bool false,.int .u64 0,.slice none 0 0] 56 (0,0)):=by
   rw [hb.block _ (by simp)];exact za rfl
  obtain ⟨hc0,hc1,hc2,hf0,hf1,hf2⟩:=kQ hres
  have Hb:=hid hb;clear hb hres
  go_wp2_with fail
  refine bodyPost_ret (v:=.tuple #[.agg #[.bool false,.int .u64 0,.slice none 0 0],.iface t v]) (by simp [results,Tryz.results21,go_sem,hc0,hc1,hc2]) rfl ⟨⟨false,0,_,_,rfl,by decide,⟨fun _ => ⟨rfl,rfl,rfl,_,_,rfl⟩,fun h => absurd h Hgood.out,fun h => absurd h Hgood.out,fun h => absurd h Hgood.out,fun h => absurd h Hgood.out⟩⟩,?_⟩
  exact (((Hal.out.trans (Hb.out.mono (by simp))).setCell (znr _) _).setCell (znr _) _).setCell (znr _) _
