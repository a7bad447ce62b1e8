import Derived.Test.YtmlfelbkgoplhaaGreatDoorZrPkJ
import Derived.Test.YtmlfelbkgoplhaaGreatDoorZrPkF
import Derived.Test.YtmlfelbkgoplhaaGreatDoorZrRow
import Derived.Deep.Slices
import Derived.Lib.SmallJoins
import Derived.Laws.Bits64b
set_option linter.unusedVariables false
namespace Go.Proofs.YtmlfelbkgoplhaaGreatDoor
open Go.RowKit
def enc4 (k : Int × Int × Int × Int) : Value:=.agg #[.int .i64 k.1,.int .i64 k.2.1,.int .i64 k.2.2.1,.int .i64 k.2.2.2]
structure Sb where
 ps : Nat
 b : Bk
 mc : Nat
def Sb.mem (s : Sb) (k : Nat) : Prop:=s.b.mem k ∨ k = s.mc
structure IsSpace (w : World) (s : Sb) (V : Int) (st : Sp) : Prop where
 blk : w.heap[s.ps]? = some (.cells #[.pointer (some ⟨s.b.p,0,none⟩),.int .i64 V,.map (some s.mc)] 115 (0,0))
 ar : zL w s.b st.c
 map : ∃ mq,MapOf w s.mc enc4 mq ∧ ∀ a b c,assoc mq (0,a,b,c) = (st.q (a,b,c)).map (Value.int .i64)
 off : ¬ s.mem s.ps
 off2 : ¬ s.b.mem s.mc
section
variable {w w2 : World} {s : Sb} {V : Int} {st : Sp}
theorem IsSpace.lps (h : IsSpace w s V st) : s.ps < w.heap.size:=(Array.getElem?_eq_some_iff.1 h.blk).1
theorem IsSpace.lt (h : IsSpace w s V st) {k : Nat} (hk : s.mem k) : k < w.heap.size:=by
 rcases hk with hk | rfl
 · exact h.ar.lt hk
 · obtain ⟨mq,hm,_⟩:=h.map;exact hm.lt
theorem IsSpace.s0 (h : IsSpace w s V st) : w.cell? ⟨s.ps,0,none⟩ = some (.pointer (some ⟨s.b.p,0,none⟩)):=by rw [cell_of_row w _ _ _ _ _ h.blk];rfl
theorem IsSpace.s1 (h : IsSpace w s V st) : w.cell? ⟨s.ps,1,none⟩ = some (.int .i64 V):=by rw [cell_of_row w _ _ _ _ _ h.blk];rfl
theorem IsSpace.s2 (h : IsSpace w s V st) : w.cell? ⟨s.ps,2,none⟩ = some (.map (some s.mc)):=by rw [cell_of_row w _ _ _ _ _ h.blk];rfl
theorem IsSpace.below (h : IsSpace w s V st) (hb : Below w.heap.size w w2) : IsSpace w2 s V st:=by
 obtain ⟨mq,hm,hq⟩:=h.map
 exact ⟨by rw [hb.block _ h.lps];exact h.blk,h.ar.below hb,⟨mq,hm.yX (hb.block _ hm.lt),hq⟩,h.off,h.off2⟩
theorem IsSpace.arena (h : IsSpace w s V st) {c : Cells} (ho : Only s.b.mem w w2) (ha : zL w2 s.b c) : IsSpace w2 s V ⟨c,st.q⟩:=by
 obtain ⟨mq,hm,hq⟩:=h.map
 exact ⟨by rw [ho.block _ h.lps (fun e => h.off (.inl e))];exact h.blk,ha,⟨mq,hm.yX (ho.block _ hm.lt h.off2),hq⟩,h.off,h.off2⟩
theorem IsSpace.only {S : Nat → Prop} (h : IsSpace w s V st) (ho : Only S w w2) (h1 : ¬ S s.ps) (h2 : ∀ k,s.mem k → ¬ S k) : IsSpace w2 s V st:=by
 obtain ⟨mq,hm,hq⟩:=h.map
 exact ⟨by rw [ho.block _ h.lps h1];exact h.blk,h.ar.only ho (fun k hk => h2 k (.inl hk)),⟨mq,hm.yX (ho.block _ hm.lt (h2 _ (.inr rfl))),hq⟩,h.off,h.off2⟩
theorem IsSpace.put (h : IsSpace w s V st) {mq : List ((Int × Int × Int × Int) × Value)} (hq : ∀ a b c,assoc mq (0,a,b,c) = (st.q (a,b,c)).map (Value.int .i64)) {a b c x : Int} {o : Obj} (hm : MapOf (zy w s.mc o) s.mc enc4 (zN mq (0,a,b,c) (.int .i64 x))) :
 IsSpace (zy w s.mc o) s V ⟨st.c,putQ st.q (a,b,c) x⟩:=by
 have ho : Only (· = s.mc) w (zy w s.mc o):=⟨rfl,rfl,rfl,by simp [zy],fun k _ hk => yC o hk⟩
 refine ⟨by rw [ho.block _ h.lps (fun e => h.off (.inr e))];exact h.blk,h.ar.only ho (fun k hk e => h.off2 (e ▸ hk)),⟨_,hm,fun a' b' c' => ?_⟩,h.off,h.off2⟩
 rw [xw]
 unfold putQ
 by_cases e : (a,b,c) = (a',b',c')
 ·
  simp only [Prod.mk.injEq] at e
  obtain ⟨rfl,rfl,rfl⟩:=e
  simp
 · dsimp only;rw [if_neg e,if_neg (fun e2 => e (by simpa using e2))];exact hq a' b' c'
end
structure ISt (w wr : World) (s : Sb) (V : Int) (st : Sp) (a b c : Int) : Prop where
 sp : IsSpace wr s V st
 only : Only s.mem w wr
 lt : w.heap.size < wr.heap.size
 off : ∀ k,s.mem k → k < w.heap.size
 b0 : wr.cell? ⟨w.heap.size,0,none⟩ = some (.int .i64 0)
 b1 : wr.cell? ⟨w.heap.size,1,none⟩ = some (.int .i64 a)
 b2 : wr.cell? ⟨w.heap.size,2,none⟩ = some (.int .i64 b)
 b3 : wr.cell? ⟨w.heap.size,3,none⟩ = some (.int .i64 c)
section
variable {w wr w2 : World} {s : Sb} {V : Int} {st st' : Sp} {a b c : Int}
theorem ISt.grow (h : ISt w wr s V st a b c) (hb : Below wr.heap.size wr w2) : ISt w w2 s V st a b c :=
 ⟨h.sp.below hb,h.only.trans (Only.of_below hb rfl),Nat.lt_of_lt_of_le h.lt hb.size,h.off,(hb.cell h.lt).trans h.b0,(hb.cell h.lt).trans h.b1,(hb.cell h.lt).trans h.b2,(hb.cell h.lt).trans h.b3⟩
theorem ISt.step (h : ISt w wr s V st a b c) (ho : Only s.mem wr w2) (hs : IsSpace w2 s V st') : ISt w w2 s V st' a b c:=by
 have hn : ¬ s.mem w.heap.size:=fun hk => by have:=h.off _ hk;omega
 exact ⟨hs,h.only.trans ho,Nat.lt_of_lt_of_le h.lt ho.size,h.off,(ho.cell h.lt hn).trans h.b0,(ho.cell h.lt hn).trans h.b1,(ho.cell h.lt hn).trans h.b2,(ho.cell h.lt hn).trans h.b3⟩
end
theorem Sb.sub (s : Sb) : ∀ k,s.b.mem k → s.mem k:=fun k hk => .inl hk
structure ROk (V : Int) (st : Sp) (r : Sp × Int × Nat) (D : (Int → Bool) → Bool) (k : Nat) : Prop where
 err : r.2.2 = 0
 sok : SOk V r.1
 ext : Ext st.c r.1.c
 has : zx r.1.c r.2.1 = true
 den : ∀ val,den r.1.c r.2.1 val = D val
 cnt : cnt r.1.c ≤ cnt st.c + k
section
variable (V : Int) (hV : V ≤ 24) (a b : Int) (w : World) (s : Sb) (st : Sp) (hs : IsSpace w s V st) (so : SOk V st) (ha : zx st.c a = true) (hb : zx st.c b = true) (hr : cnt st.c + 2 ^ V.toNat ≤ st.c.length + 1)
include hV hs so ha hr
include hb
end
def zdC (w : World) (md : Nat) (d : Done) : Prop:=∃ mq : List (Int × Value),MapOf w md (Value.int .i64) mq ∧ ∀ k,assoc mq k = (d k).map (Value.int .i64)
theorem zdC.keep {w w' : World} {md : Nat} {d : Done} (h : zdC w md d) (hb : w'.heap[md]? = w.heap[md]?) : zdC w' md d:=by
 obtain ⟨mq,h1,h2⟩:=h;exact ⟨mq,h1.yX hb,h2⟩
theorem zdC.lt {w : World} {md : Nat} {d : Done} (h : zdC w md d) : md < w.heap.size:=by obtain ⟨mq,h1,_⟩:=h;exact h1.lt
def zjk (s : Sb) (md : Nat) (k : Nat) : Prop:=s.b.mem k ∨ k = md
structure TSt (w wr : World) (s : Sb) (V : Int) (st : Sp) (md : Nat) (d : Done) (n : Nd) : Prop where
 sp : IsSpace wr s V st
 done : zdC wr md d
 only : Only (zjk s md) w wr
 off : ∀ k,zjk s md k → k < w.heap.size
 off2 : ¬ s.mem md ∧ s.ps ≠ md
 lt : w.heap.size + 1 < wr.heap.size
 b0 : wr.cell? ⟨w.heap.size + 1,0,none⟩ = some (.int .i64 n.1)
 b1 : wr.cell? ⟨w.heap.size + 1,1,none⟩ = some (.int .i64 n.2.1)
 b2 : wr.cell? ⟨w.heap.size + 1,2,none⟩ = some (.int .i64 n.2.2)
section
variable {w wr w2 : World} {s : Sb} {V : Int} {st st' : Sp} {md : Nat} {d d' : Done} {n : Nd}
theorem TSt.grow (h : TSt w wr s V st md d n) (hb : Below wr.heap.size wr w2) : TSt w w2 s V st md d n :=
 ⟨h.sp.below hb,h.done.keep (hb.block _ h.done.lt),h.only.trans (Only.of_below hb rfl),h.off,h.off2,Nat.lt_of_lt_of_le h.lt hb.size,(hb.cell h.lt).trans h.b0,(hb.cell h.lt).trans h.b1,(hb.cell h.lt).trans h.b2⟩
theorem TSt.step (h : TSt w wr s V st md d n) (ho : Only (zjk s md) wr w2) (hs : IsSpace w2 s V st') (hd : zdC w2 md d') : TSt w w2 s V st' md d' n:=by
 have hn : ¬ zjk s md (w.heap.size + 1):=fun hk => by have:=h.off _ hk;omega
 exact ⟨hs,hd,h.only.trans ho,h.off,h.off2,Nat.lt_of_lt_of_le h.lt ho.size,(ho.cell h.lt hn).trans h.b0,(ho.cell h.lt hn).trans h.b1,(ho.cell h.lt hn).trans h.b2⟩
theorem TSt.node (h : TSt w wr s V st md d n) (ho : Only s.b.mem wr w2) (hs : IsSpace w2 s V st') : TSt w w2 s V st' md d n :=
 h.step (ho.mono fun _ hk => .inl hk) hs (h.done.keep (ho.block _ h.done.lt (fun e => h.off2.1 (.inl e))))
theorem TSt.put (h : TSt w wr s V st md d n) {mq : List (Int × Value)} (hq : ∀ k,assoc mq k = (d k).map (Value.int .i64)) {a x : Int} {o : Obj} (hm : MapOf (zy wr md o) md (Value.int .i64) (zN mq a (.int .i64 x))) :
 TSt w (zy wr md o) s V st md (putD d a x) n:=by
 have ho : Only (· = md) wr (zy wr md o):=⟨rfl,rfl,rfl,by simp [zy],fun k _ hk => yC o hk⟩
 refine h.step (ho.mono fun _ hk => .inr hk) (h.sp.only ho h.off2.2 (fun k hk e => h.off2.1 (e ▸ hk))) ⟨_,hm,fun k => ?_⟩
 rw [xw]
 unfold putD
 split
 · rfl
 · exact hq k
end
theorem Only.cut {S S' : Nat → Prop} {a w : World} (h : Only S a w) (hs : ∀ k,k < a.heap.size → S k → S' k) : Only S' a w:=⟨h.os,h.tape,h.output,h.size,fun k hk hn => h.block k hk (fun e => hn (hs k hk e))⟩
open Go.RowKit Go.ChangeShapes Go.WideShapes
def zde (x : Int) (v : Int) : Bool:=bits .and .u64 (x / 2 ^ min v.toNat 64) 1 == 1
theorem zcj {c : Cells} {s : List Int} {k : Nat} (g : zx c ((k : Int) + 2) = true) (hm : ((k : Int) + 2) ∈ s) : jk c s k:=by
 rcases xE g with e | e | ⟨k',n,e,hn,_⟩
 · omega
 · omega
 ·
  obtain rfl : k = k':=by omega
  exact jk.start hn hm
theorem ziK {S : Nat → Prop} {w w2 : World} {base e size : Nat} {v : Value} {n : Nat} {xs : List Value} (h : w.ownsRow base e size v n xs) (ho : Only S w w2) (hs : ∀ k,S k → k < base) : w2.ownsRow base e size v n xs:=by
 refine ⟨h.1,?_⟩
 rcases h.2 with hn | ⟨g,cap,cur,rfl,h1,h2,r⟩
 · exact .inl hn
 · exact .inr ⟨g,cap,cur,rfl,h1,by rw [ho.block g (Array.getElem?_eq_some_iff.1 h2).1 (fun hk => by have:=hs _ hk;omega)];exact h2,r⟩
theorem znb (y : Nat) (hy : y < 18446744073709551616) (j : Nat) (hj : j < 64) : zde (y : Int) (j : Int) = y.testBit j:=by
 unfold zde
 have e1 : min ((j : Int).toNat) 64 = j:=by rw [Int.toNat_natCast];omega
 have e2 : (y : Int) / 2 ^ j = ((y / 2 ^ j : Nat) : Int):=by simp
 rw [e1,e2,show (1 : Int) = ((1 : Nat) : Int) by rfl,bits_and_u64_nat _ _ (Nat.lt_of_le_of_lt (Nat.div_le_self _ _) hy) (by decide)]
 have h3 : y / 2 ^ j &&& 1 = (y / 2 ^ j) % 2:=Nat.and_one_is_mod _
 have h5 : y.testBit j = decide (y / 2 ^ j % 2 = 1):=Nat.testBit_eq_decide_div_mod_eq
 rw [h3,h5]
 rcases Nat.mod_two_eq_zero_or_one (y / 2 ^ j) with h4 | h4 <;> rw [h4] <;> rfl
theorem ROk.le {V : Int} {st : Sp} {r : Sp × Int × Nat} {D : (Int → Bool) → Bool} {k k' : Nat} (h : ROk V st r D k) (hk : k ≤ k') : ROk V st r D k':=⟨h.err,h.sok,h.ext,h.has,h.den,by have:=h.cnt;omega⟩
theorem ROk.of {V : Int} {st : Sp} {r r' : Sp × Int × Nat} {D D' : (Int → Bool) → Bool} {k : Nat} (h : ROk V st r D k) (e : r' = r) (hD : ∀ val,D val = D' val) : ROk V st r' D' k:=by subst e;exact ⟨h.err,h.sok,h.ext,h.has,fun val => (h.den val).trans (hD val),h.cnt⟩
