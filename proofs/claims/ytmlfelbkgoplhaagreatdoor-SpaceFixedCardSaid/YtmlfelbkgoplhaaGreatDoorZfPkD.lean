import Derived.Test.YtmlfelbkgoplhaaGreatDoorZfPkB
import Derived.Test.YtmlfelbkgoplhaaGreatDoorShelfG
import Derived.Deep.RegionHeld3
set_option linter.unusedVariables false
namespace Go.Proofs.YtmlfelbkgoplhaaGreatDoor
open Go.RowKit
section
variable {P : Program} {w : World}
theorem run_append_nil (base : Nat) (t ty e : TypeId) (i : TypeInfo) (size c : Nat) (ht : P.underlying t = some (.slice e)) (hi : P.info? e = some i)
 (v : Value) (n : Nat) (xs : List Value) (hown : w.ownsRow base e size v n xs) :
 (Builtin.append_ #[t,t] ty #[v,.slice none 0 c]).run P w = .ok v w:=by
 rcases hown.2 with ⟨rfl,rfl⟩ | ⟨g,cap,cur,rfl,_,_,hnc,_⟩
 · simp [Builtin.append_,run_underlying ht,sizeOf,typeInfo,hi,Builtin.lenOf,Builtin.firstCells]
 · simp [Builtin.append_,run_underlying ht,sizeOf,typeInfo,hi,Builtin.lenOf,Builtin.firstCells,hnc,storeCells]
theorem zdw {ops : Array Oper} {rest : List Oper} {o : Oper} {a : Act} {Q : Exit → Act → World → Prop} (hgd : o.guard = none) (s x : Operand) (t : TypeId)
 (ho : o.op = .call { callee:=.builtin .append,args:=#[s,x],argTypes:=#[t,t] })
 (base : Nat) (e : TypeId) (i : TypeInfo) (size c : Nat) (ht : P.underlying t = some (.slice e)) (hi : P.info? e = some i)
 (v : Value) (n : Nat) (xs : List Value) (hs : a.eval s = v) (hown : w.ownsRow base e size v n xs) (hx : a.eval x = .slice none 0 c)
 (h : wpList P ops Q rest (a.put o.dst v) w) : wpList P ops Q (o :: rest) a w:=by
 refine wpList_plain hgd fun K hK => ?_
 have hrun:=run_append_nil (P:=P) (w:=w) base t o.type e i size c ht hi v n xs hown
 unfold Oper.wp
 simp [execOp,ho,resolve,invoke,builtin,hs,hx,hrun,Result.andThen]
 exact hK _ _ h
end
theorem ql.zpo {w : World} {base : Nat} {v : Value} {n : Nat} {f : Nat → Spn} (h : w.ownsRow base 226 2 v n (za8 n f)) : ql w base v n f:=by
 obtain ⟨hl,h0 | ⟨g,cap,cur,e,h1,h2,h3,h4,h5,h6⟩⟩:=h
 · exact .inl h0
 ·
  refine .inr ⟨g,cap,e,h1,h4,cur,h2,h3,h5,fun k hk => ?_⟩
  have get : ∀ t,t < n * 2 → cur[t]? = (za8 n f)[t]?:=fun t ht => by
   rw [← h6,List.getElem?_take_of_lt ht,Array.getElem?_toList]
  rw [get _ (by omega),get _ (by omega),qU (by omega),qU (by omega),if_pos (by omega),if_neg (by omega),show k * 2 / 2 = k by omega,show (k * 2 + 1) / 2 = k by omega]
  exact ⟨rfl,rfl⟩
def zmg (n : Nat) (f h : Nat → Spn) : Nat → Spn:=fun k => if k < n then f k else h (k - n)
theorem zl6 (n m : Nat) (f h : Nat → Spn) : za8 (n + m) (zmg n f h) = za8 n f ++ za8 m h:=by
 apply List.ext_getElem?
 intro t
 by_cases ht : t < (n + m) * 2
 ·
  rw [qU ht]
  by_cases h1 : t < n * 2
  · rw [List.getElem?_append_left (by rw [yL];exact h1),qU h1,show zmg n f h (t / 2) = f (t / 2) from if_pos (by omega)]
  · rw [List.getElem?_append_right (by rw [yL];omega),yL,qU (by omega),show zmg n f h (t / 2) = h (t / 2 - n) from if_neg (by omega),show (t - n * 2) % 2 = t % 2 by omega,show (t - n * 2) / 2 = t / 2 - n by omega]
 · rw [List.getElem?_eq_none (by rw [yL];omega),List.getElem?_eq_none (by rw [List.length_append,yL,yL];omega)]
theorem zpG (n m : Nat) (f h : Nat → Spn) : spL (n + m) (zmg n f h) = spL n f ++ spL m h:=by
 apply List.ext_getElem
 · simp [xJ]
 ·
  intro i h1 h2
  rw [xJ] at h1
  by_cases h3 : i < n
  ·
   rw [List.getElem_append_left (by rw [xJ];exact h3)]
   simp [spL,zmg,h3]
  ·
   rw [List.getElem_append_right (by rw [xJ];omega)]
   simp [spL,zmg,h3]
theorem kG {w : World} {ops : Array Oper} {rest : List Oper} {o : Oper} {a : Act} {Q : Exit → Act → World → Prop} (hgd : o.guard = none) (s x : Operand)
 (ho : o.op = .call { callee:=.builtin .append,args:=#[s,x],argTypes:=#[73,73] })
 (base : Nat) (v : Value) (n : Nat) (f : Nat → Spn) (hs : a.eval s = v) (hown : ql w base v n f)
 (src : Value) (ys : List Spn) (hx : a.eval x = src) (hsrc : yx w src ys) (hn : n + ys.length ≤ 1000000) (hbase : base ≤ w.heap.size)
 (h : ∀ v' w' f',ql w' base v' (n + ys.length) f' → spL (n + ys.length) f' = spL n f ++ ys → Below base w w' → wpList Tryz.prog ops Q rest (a.put o.dst v') w') : wpList Tryz.prog ops Q (o :: rest) a w:=by
 obtain ⟨i0,hi,hz0,hz1,hz2⟩:=info_parts zga
 rcases hsrc with ⟨rfl,rfl⟩ | ⟨g,cap,fy,rfl,h1,h2,h3⟩
 ·
  refine zdw hgd s x 73 ho base 226 i0 2 0 zaA hi v n _ hs hown.own hx ?_
  exact h v w f hown (by simp) (Below.refl _ _)
 ·
  refine wpList_append_own w hgd s x 73 ho base 226 i0 (.agg #[.int .i64 0,.int .i64 0]) 2 16 zaA hi hz0 hz1 hz2 rfl (by decide) v n _ hs hown.own ⟨g,0,none⟩ ys.length cap (za8 ys.length fy) hx (yL _ _) (fun j u hu => ?_) (fun u hu => ?_) (by simp only [maxLen];omega) (by omega) hbase (fun v' w' ho' hg _ => ?_)
  ·
   have hj : j < ys.length * 2:=by
    have:=(List.getElem?_eq_some_iff.1 hu).1;rwa [yL] at this
   rw [qU hj] at hu
   rw [show (⟨g,0,none⟩ : Addr).add j = ⟨g,j,none⟩ from by simp [Addr.add];exact fun h => h.symm]
   rw [← hu]
   rcases (show j % 2 = 0 ∨ j % 2 = 1 by omega) with e | e
   ·
    rw [if_pos e]
    have:=h2.cell1 (k:=j / 2) (by omega)
    rwa [show j / 2 * 2 = j by omega] at this
   ·
    rw [if_neg (by omega)]
    have:=h2.zeH (k:=j / 2) (by omega)
    rwa [show j / 2 * 2 + 1 = j by omega] at this
  ·
   obtain ⟨t,ht,rfl⟩:=List.mem_map.1 hu
   split <;> rfl
  ·
   rw [← zl6] at ho'
   exact h v' w' _ (ql.zpo ho') (by rw [zpG,h3]) ((Below.refl base w).grown hg hbase (fun j hj => (hown.own.lt j hj).1))
theorem znI (n : Nat) (w : World) (hn : n ≤ 1000000) : Calls Tryz.prog 223 #[.slice none 0 0,.int .i64 n] w fun e w' => ∃ v,e = .returned v ∧ ql w' w.heap.size v 0 (fun _ => (0,0)) ∧ Below w.heap.size w w':=by
 obtain ⟨i0,hi,hz0,hz1,hz2⟩:=info_parts zga
 rcases Nat.eq_zero_or_pos n with rfl | h0
 ·
  refine Calls.mono (Any8.slices_Grow_room Tryz.growL none 0 0 0 w (by omega) (by omega) (by omega) (by omega)) ?_
  rintro e w' ⟨rfl,rfl⟩
  exact ⟨_,rfl,ql.nil _ _ _,Below.refl _ _⟩
 ·
  refine Calls.mono (Any8.slices_Grow_grow Tryz.growL i0 (.agg #[.int .i64 0,.int .i64 0]) hi hz0 (by omega) none 0 0 n [] w (by omega) (by omega) (by rw [hz2];omega) (by omega) (by simp) (fun _ => rfl) (fun a h => by cases h)) ?_
  rintro e w' ⟨rfl,rfl⟩
  refine ⟨_,rfl,.inr ⟨w.heap.size,_,rfl,znr _,grownCap_le_maxLen _ _ _ _ (by simp only [maxLen];omega),_,za rfl,znz _,?_,fun k hk => absurd hk (by omega)⟩,(Below.refl _ _).drew.alloc (znr _) _⟩
  have hge:=grownCap_ge w (0 + n) 0 226
  have hcc : (Value.agg #[.int .i64 0,.int .i64 0]).cells = #[.int .i64 0,.int .i64 0]:=rfl
  simp only [hcc,Builtin.zeroCells,Array.size_append,Array.size_map,Array.size_range]
  show 0 + (0 + n - 0) * 2 + (grownCap w (0 + n) 0 226 - (0 + n)) * 2 = grownCap w (0 + n) 0 226 * 2
  omega
set_option maxRecDepth 100000 in
set_option maxHeartbeats 8000000 in
theorem zjX (S : Nat) (va vb : Value) (xs ys : List Spn) (w : World) (hS : w.heap[S]? = some (.cells #[va,vb] 73 (0,0))) (ha : yx w va xs) (hb : yx w vb ys) (hl : xs.length + ys.length ≤ 100000) :
 Calls Tryz.prog 187 #[.slice (some ⟨S,0,none⟩) 2 2] w fun e w' => ∃ v f n,e = .returned v ∧ n = xs.length + ys.length ∧ ql w' w.heap.size v n f ∧ spL n f = xs ++ ys ∧ Below w.heap.size w w':=by
 obtain ⟨a1,c1,rfl,hl1,hc1⟩:=ha.shape
 obtain ⟨a2,c2,rfl,hl2,hc2⟩:=hb.shape
 have d1 : w.cell? ⟨S,0,none⟩ = some (.slice a1 xs.length c1):=by rw [cell_of_row _ _ _ _ _ _ hS];rfl
 have d2 : w.cell? ⟨S,1,none⟩ = some (.slice a2 ys.length c2):=by rw [cell_of_row _ _ _ _ _ _ hS];rfl
 have hSl:=zlb hS
 have Ha:=hid ha;have Hb:=hid hb;have HS:=hid hS
 clear ha hb hS
 go_enter Tryz.func187,Tryz.ntmps187
 go_wp2_with fail
 go_loopg [3,11] 2 (fun gk sz i wr => ∃ k : Nat,k ≤ 2 ∧ gk = 2 - k ∧ i = .int .i64 k ∧ sz = .int .i64 (if k = 0 then 0 else if k = 1 then (xs.length : Int) else (xs.length : Int) + ys.length) ∧ w = wr)
 case atStart => exact ⟨0,by omega,rfl,rfl,rfl,rfl⟩
 case round =>
  obtain ⟨k,hk,rfl,rfl,rfl,rfl⟩:=hrel
  obtain rfl | rfl | rfl : k = 0 ∨ k = 1 ∨ k = 2:=by omega
  ·
   have q0 : ¬ ((xs.length : Int) < 0):=by omega
   rw [if_pos rfl]
   go_wp2_with fail
   go_roundg 1
   case measure => omega
   case rel => exact ⟨1,by omega,rfl,rfl,by go_num,rfl⟩
  ·
   have q0 : ¬ ((xs.length : Int) + (ys.length : Int) < 0):=by omega
   rw [if_neg (by omega),if_pos rfl]
   go_wp2_with fail
   go_roundg 0
   case measure => omega
   case rel => exact ⟨2,by omega,rfl,rfl,by go_num,rfl⟩
  ·
   rw [if_neg (by omega),if_neg (by omega)]
   have hg:=znI (xs.length + ys.length) w (by omega)
   rw [Int.natCast_add] at hg
   have Hg:=hid hg
   clear hg
   go_wp2_with fail
   refine Hg.out.mono ?_
   rintro e w1 ⟨v1,rfl,ho1,hb1⟩
   obtain ⟨a0,c0,rfl⟩:=ho1.shape
   have Ho1:=hid ho1;have Hb1:=hid hb1
   clear ho1 hb1 Hg
   go_wp2_with fail
   go_loopg [6,27] 2 (fun gk vo i wr => ∃ (k : Nat) (n : Nat) (f : Nat → Spn),k ≤ 2 ∧ gk = 2 - k ∧ i = .int .i64 k ∧ n = (if k = 0 then 0 else if k = 1 then xs.length else xs.length + ys.length) ∧ ql wr w.heap.size vo n f ∧ spL n f = (if k = 0 then [] else if k = 1 then xs else xs ++ ys) ∧ Below w.heap.size w wr)
   case atStart => exact ⟨0,0,_,by omega,rfl,rfl,rfl,Ho1.out,rfl,Hb1.out⟩
   case round =>
    clear Ho1 Hb1
    obtain ⟨k,n,f,hk,rfl,rfl,hn,hout,hsp,hbw⟩:=hrel
    obtain ⟨wo,rfl⟩ : ∃ y,y = wr:=⟨_,rfl⟩
    obtain ⟨ao,co,rfl⟩:=hout.shape
    have hS2:=(hbw.block S hSl).trans HS.out
    have d3 : wo.cell? ⟨S,0,none⟩ = some (.slice a1 xs.length c1):=by rw [cell_of_row _ _ _ _ _ _ hS2];rfl
    have d4 : wo.cell? ⟨S,1,none⟩ = some (.slice a2 ys.length c2):=by rw [cell_of_row _ _ _ _ _ _ hS2];rfl
    have hSl2:=zlb hS2
    have sbw:=hbw.size
    have Hout:=hid hout;have Hbw:=hid hbw;have Hsp:=hid hsp;have Hn:=hid hn
    have Hx:=hid (Ha.out.below hbw);have Hy:=hid (Hb.out.below hbw)
    clear hout hbw hsp hS2 hn
    obtain rfl | rfl | rfl : k = 0 ∨ k = 1 ∨ k = 2:=by omega
    ·
     have hn0 : n = 0:=Hn.out
     subst hn0
     go_wp2_with (at_builtin;refine kG rfl (.tmp 31) (.tmp 32) rfl w.heap.size _ 0 f rfl Hout.out _ xs rfl Hx.out (by omega) sbw ?_;intro v9 w9 f9 ho9 hs9 hb9;have Ho9:=hid ho9;have Hs9:=hid hs9;have Hb9:=hid hb9;clear ho9 hs9 hb9)
     go_roundg 1
     case measure => omega
     case rel => exact ⟨1,_,_,by omega,rfl,by go_num,by simp,Ho9.out,by rw [Hs9.out];simp [spL],Hbw.out.trans Hb9.out⟩
    ·
     have hn0 : n = xs.length:=Hn.out
     subst hn0
     go_wp2_with (at_builtin;refine kG rfl (.tmp 31) (.tmp 32) rfl w.heap.size _ xs.length f rfl Hout.out _ ys rfl Hy.out (by omega) sbw ?_;intro v9 w9 f9 ho9 hs9 hb9;have Ho9:=hid ho9;have Hs9:=hid hs9;have Hb9:=hid hb9;clear ho9 hs9 hb9)
     go_roundg 0
     case measure => omega
     case rel => exact ⟨2,_,_,by omega,rfl,by go_num,by simp,Ho9.out,by rw [Hs9.out,Hsp.out];simp,Hbw.out.trans Hb9.out⟩
    ·
     go_wp2_with fail
     go_ret
     exact ⟨_,f,n,rfl,Hn.out,Hout.out,Hsp.out,Hbw.out⟩
theorem zlN {base B n : Nat} {v : Value} {f : Nat → Spn} {w : World} (h : ql w base v n f) (hfit : ∀ s ∈ spL n f,Fits s) (hn : n ≤ 100000) (hB : B ≤ base) (hB2 : B ≤ w.heap.size) : Calls Tryz.prog 184 #[v] w (zkS (spL n f) B w):=by
 rcases h with ⟨rfl,rfl⟩ | ⟨g,cap,rfl,h1,h2,h3⟩
 · exact ziw B w hB2
 · exact zfw g cap n B f w h3 hfit hn h2 (by omega) hB2
def OrP (xs ys : List Spn) (w : World) (e : Ending) (w' : World) : Prop :=
 ∃ v r,e = .returned (.agg #[v]) ∧ yx w' v r ∧ OrR xs ys r ∧ r.length ≤ xs.length + ys.length ∧ (∀ b,v.ownBlock = some b → w.heap.size ≤ b) ∧ Below w.heap.size w w'
set_option maxRecDepth 100000 in
set_option maxHeartbeats 8000000 in
theorem znc (va vb : Value) (xs ys : List Spn) (w : World) (ha : yx w va xs) (hb : yx w vb ys) (hc : Canon xs) (hd : Canon ys) (hl : xs.length + ys.length ≤ 100000) : Calls Tryz.prog 145 #[.agg #[va],.agg #[vb]] w (OrP xs ys w):=by
 obtain ⟨a1,c1,rfl,_,_⟩:=ha.shape
 obtain ⟨a2,c2,rfl,_,_⟩:=hb.shape
 have h3 : Below w.heap.size w (((w.alloc (.cells #[.slice a1 xs.length c1] 75)).alloc (.cells #[.slice a2 ys.length c2] 75)).alloc (.cells #[.slice none 0 0] 75)):=((zba).alloc (by simp) _).alloc (by simp;omega) _
 have hblk : (((w.alloc (.cells #[.slice a1 xs.length c1] 75)).alloc (.cells #[.slice a2 ys.length c2] 75)).alloc (.cells #[.slice none 0 0] 75)).heap[w.heap.size + 1 + 1]? = some (.cells #[.slice none 0 0] 75 (0,0)):=za (by simp)
 have hsz : (((w.alloc (.cells #[.slice a1 xs.length c1] 75)).alloc (.cells #[.slice a2 ys.length c2] 75)).alloc (.cells #[.slice none 0 0] 75)).heap.size = w.heap.size + 1 + 1 + 1:=by simp
 have hcc : ∀ W : World,W.heap.size = w.heap.size + 1 + 1 + 1 → Below w.heap.size w W → Calls Tryz.prog 187 #[.slice (some ⟨w.heap.size + 1 + 1 + 1,0,none⟩) 2 2] (W.alloc (.cells #[.slice a1 xs.length c1,.slice a2 ys.length c2] 73)) fun e w' => ∃ v f n,e = .returned v ∧ n = xs.length + ys.length ∧ ql w' (w.heap.size + 1 + 1 + 1 + 1) v n f ∧ spL n f = xs ++ ys ∧ Below (w.heap.size + 1 + 1 + 1 + 1) (W.alloc (.cells #[.slice a1 xs.length c1,.slice a2 ys.length c2] 73)) w':=fun W hW hbW => by
  have hbl:=hbW.trans ((Below.refl W.heap.size W).alloc (znr _) (.cells #[.slice a1 xs.length c1,.slice a2 ys.length c2] 73) |>.mono hbW.size)
  have h:=zjX (w.heap.size + 1 + 1 + 1) _ _ xs ys (W.alloc (.cells #[.slice a1 xs.length c1,.slice a2 ys.length c2] 73)) (za hW.symm) (ha.below hbl) (hb.below hbl) hl
  rw [zy,hW] at h
  exact h
 have hfit : ∀ s ∈ xs ++ ys,Fits s:=fun s hs => by
  have hw : zat s:=by
   rcases List.mem_append.1 hs with h | h
   · exact hc.ok s h
   · exact hd.ok s h
  exact fun _ => ⟨hw.1,hw.2.2⟩
 have hcc2:=hcc _ hsz h3
 have Hcc:=hid hcc2;have Hfit:=hid hfit;have H3:=hid h3;have Hblk:=hid hblk;have Hsz:=hid hsz
 clear hcc hcc2 hfit h3 hblk hsz ha hb hc hd
 go_enter Tryz.func145,Tryz.ntmps145
 go_wp2_with fail
 refine Hcc.out.mono ?_
 rintro e w1 ⟨v,f,n,rfl,hn,hout,hsp,hb1⟩
 have hB1:=H3.out.trans ((Below.refl _ _).alloc (znr _) (.cells #[.slice a1 xs.length c1,.slice a2 ys.length c2] 73) |>.mono H3.out.size)
 have hB2:=hB1.trans (hb1.mono (by omega))
 have hs1:=hb1.size
 rw [zy,Hsz.out] at hs1
 have hblk1:=(hb1.block (w.heap.size + 1 + 1) (by omega)).trans (zh Hblk.out)
 have hfit2 : ∀ s ∈ spL n f,Fits s:=fun s hs => Hfit.out s (by rw [← hsp];exact hs)
 have Hm:=hid (zlN hout hfit2 (by omega) (znr (w.heap.size + 1 + 1 + 1 + 1)) (by omega))
 have Hsp:=hid hsp;have HB2:=hid hB2;have Hblk1:=hid hblk1;have Hn:=hid hn
 obtain ⟨av,cv,rfl⟩:=hout.shape
 clear hout hsp hb1 hB1 hB2 hblk1 hfit2 hn Hcc Hblk H3
 go_wp2_with fail
 refine Hm.out.mono ?_
 rintro e w10 ⟨v10,r,rfl,hsp10,hmd,hlen,hfr,hb10⟩
 obtain ⟨a10,c10,rfl,_⟩:=hsp10.shape
 have hblk10:=(hb10.block _ (by omega)).trans Hblk1.out
 have d1:=zco hblk10;have d2:=zfo hblk10;have d3:=zlb hblk10
 have k4:=zco (one_setCell (u:=.slice a10 r.length c10) hblk10)
 have hfin:=(HB2.out.trans (hb10.mono (by omega))).setCell (p:=⟨w.heap.size + 1 + 1,0,none⟩) (by show w.heap.size ≤ w.heap.size + 1 + 1;omega) (.slice a10 r.length c10)
 have hsp2:=hsp10.qB (b:=w.heap.size + 1 + 1) (fun b hb => by have:=hfr b hb;omega) (.slice a10 r.length c10)
 rw [xJ,Hn.out] at hlen
 rw [Hsp.out] at hmd
 have Hfin:=hid hfin;have Hsp2:=hid hsp2;have Hmd:=hid hmd;have Hlen:=hid hlen;have Hfr:=hid hfr
 clear hfin hsp2 hmd hlen hsp10 hfr hb10 hblk10 Hm
 go_wp2_with fail
 exact bodyPost_ret (v:=.agg #[.slice a10 r.length c10]) (by simp [results,Tryz.results145,go_sem,k4]) rfl ⟨_,r,rfl,Hsp2.out,OrR.zdn Hmd.out,Hlen.out,fun b hb => by have:=Hfr.out b hb;omega,Hfin.out⟩
def AndP (xs ys : List Spn) (w : World) (e : Ending) (w' : World) : Prop :=
 ∃ v r,e = .returned (.agg #[v]) ∧ yx w' v r ∧ zo9 xs ys r ∧ r.length ≤ xs.length + ys.length + 3 ∧ (∀ b,v.ownBlock = some b → w.heap.size ≤ b) ∧ Below w.heap.size w w'
structure Box3 (p : Nat) (u v : Value) (w : World) : Prop where
 b1 : w.heap[p]? = some (.cells #[u] 75 (0,0))
 b2 : w.heap[p + 1]? = some (.cells #[v] 75 (0,0))
 b3 : w.heap[p + 1 + 1]? = some (.cells #[.slice none 0 0] 75 (0,0))
theorem Box3.below {p : Nat} {u v : Value} {w w' : World} (h : Box3 p u v w) (hb : Below w.heap.size w w') : Box3 p u v w' :=
 ⟨(hb.block _ (zlb h.b1)).trans h.b1,(hb.block _ (zlb h.b2)).trans h.b2,(hb.block _ (zlb h.b3)).trans h.b3⟩
set_option maxRecDepth 100000 in
set_option maxHeartbeats 8000000 in
theorem zk2 (va vb : Value) (xs ys : List Spn) (w : World) (ha : yx w va xs) (hb : yx w vb ys) (hc : Canon xs) (hd : Canon ys) (hl1 : xs.length ≤ 40000) (hl2 : ys.length ≤ 40000) (hl3 : xs.length + ys.length ≤ 40000) : Calls Tryz.prog 144 #[.agg #[va],.agg #[vb]] w (AndP xs ys w):=by
 obtain ⟨a1,c1,rfl,_,_⟩:=ha.shape
 obtain ⟨a2,c2,rfl,_,_⟩:=hb.shape
 obtain ⟨W,hW⟩ : ∃ W,W = (((w.alloc (.cells #[.slice a1 xs.length c1] 75)).alloc (.cells #[.slice a2 ys.length c2] 75)).alloc (.cells #[.slice none 0 0] 75)):=⟨_,rfl⟩
 have hb3 : Below w.heap.size w W:=by rw [hW];exact ((zba).alloc (by simp) _).alloc (by simp;omega) _
 have hbox : Box3 w.heap.size (.slice a1 xs.length c1) (.slice a2 ys.length c2) W:=by
  rw [hW]
  exact ⟨zh (zh (za rfl)),zh (za (by simp)),za (by simp)⟩
 have hdr : Below W.heap.size W W.drew:=(Below.refl _ _).drew
 have hn1:=zfb _ xs W.drew (ha.below (hb3.trans (hdr.mono hb3.size))) hc (by omega)
 have k1:=zco (hbox.below hdr).b1;have k2:=zco (hbox.below hdr).b2
 have HN1:=hid hn1;have Hbox:=hid (hbox.below hdr);have HB:=hid (hb3.trans (hdr.mono hb3.size));have Hb:=hid hb;have Hc:=hid hc;have Hd:=hid hd
 clear hn1 hb3 hdr ha hb hc hd hbox
 go_enter Tryz.func144,Tryz.ntmps144
 go_upto_region 1 with fail
 rw [← hW]
 clear hW
 go_region_held3 (fun w' => w'.cell? ⟨w.heap.size,0,none⟩ = some (.slice a1 xs.length c1) ∧ w'.cell? ⟨w.heap.size + 1,0,none⟩ = some (.slice a2 ys.length c2))
  (first | exact ⟨k1,k2⟩ | exact ⟨k51,k52⟩ | exact ⟨k61,k62⟩ | exact ⟨k71,k72⟩ | exact ⟨k81,k82⟩ | exact ⟨k91,k92⟩ | go_keep)
  (first
   | (go_at_call 185;(with_reducible refine (HN1.out).mono ?_);rintro e w5 ⟨v5,r5,rfl,hs5,hn5,hl5,hf5,hb5⟩;obtain ⟨a5,c5,rfl,_⟩:=hs5.shape;have Hbox5:=hid (Hbox.out.below hb5);have k51:=zco Hbox5.out.b1;have k52:=zco Hbox5.out.b2;have HB5:=hid (HB.out.trans (hb5.mono HB.out.size));have HN2:=hid (zfb _ ys w5 (Hb.out.below HB5.out) Hd.out (by omega));have Hs5:=hid hs5;have Hn5:=hid hn5;have Hl5:=hid hl5;clear hs5 hn5 hl5 hb5)
   | (go_at_call 185;(with_reducible refine (HN2.out).mono ?_);rintro e w6 ⟨v6,r6,rfl,hs6,hn6,hl6,hf6,hb6⟩;obtain ⟨a6,c6,rfl,_⟩:=hs6.shape;have Hbox6:=hid (Hbox5.out.below hb6);have k61:=zco Hbox6.out.b1;have k62:=zco Hbox6.out.b2;have HB6:=hid (HB5.out.trans (hb6.mono HB5.out.size));have HO:=hid (znc _ _ r5 r6 w6 (Hs5.out.below hb6) hs6 Hn5.out.1 hn6.1 (by have:=Hl5.out;omega));have Hn6:=hid hn6;have Hl6:=hid hl6;clear hs6 hn6 hl6 hb6)
   | (go_at_call 145;(with_reducible refine (HO.out).mono ?_);rintro e w7 ⟨v7,r7,rfl,hs7,ho7,hl7,hf7,hb7⟩;obtain ⟨a7,c7,rfl,_⟩:=hs7.shape;have Hbox7:=hid (Hbox6.out.below hb7);have k71:=zco Hbox7.out.b1;have k72:=zco Hbox7.out.b2;have HB7:=hid (HB6.out.trans (hb7.mono HB6.out.size));have HN3:=hid (zfb _ r7 w7 hs7 ho7.1 (by have:=Hl5.out;have:=Hl6.out;omega));have Ho7:=hid ho7;have Hl7:=hid hl7;clear hs7 ho7 hl7 hb7)
   | (go_at_call 185;(with_reducible refine (HN3.out).mono ?_);rintro e w8 ⟨v8,r8,rfl,hs8,hn8,hl8,hf8,hb8⟩;obtain ⟨a8,c8,rfl,_⟩:=hs8.shape;have Hbox8:=hid (Hbox7.out.below hb8);have k81:=zco Hbox8.out.b1;have k82:=zco Hbox8.out.b2;have k83:=zco Hbox8.out.b3;have k84:=zfo Hbox8.out.b3;have k85:=zlb Hbox8.out.b3;have k91:=(World.cell?_of_block (a:=⟨w.heap.size,0,none⟩) (zhc w8 ⟨w.heap.size + 1 + 1,0,none⟩ (.slice a8 r8.length c8) w.heap.size (by show w.heap.size ≠ w.heap.size + 1 + 1;omega))).trans k81;have k92:=(World.cell?_of_block (a:=⟨w.heap.size + 1,0,none⟩) (zhc w8 ⟨w.heap.size + 1 + 1,0,none⟩ (.slice a8 r8.length c8) (w.heap.size + 1) (by show w.heap.size + 1 ≠ w.heap.size + 1 + 1;omega))).trans k82;have HB8:=hid (HB7.out.trans (hb8.mono HB7.out.size));have Hs8:=hid hs8;have Hn8:=hid hn8;have Hl8:=hid hl8;have Hf8:=hid (show ∀ b,(Value.slice a8 r8.length c8).ownBlock = some b → w.heap.size + 1 + 1 < b from fun b hb => Nat.lt_of_lt_of_le (zlb Hbox7.out.b3) (hf8 b hb));clear hs8 hn8 hl8 hf8 hb8))
 have k4:=zco (one_setCell (u:=.slice a8 r8.length c8) Hbox8.out.b3)
 go_wp2_with fail
 exact bodyPost_ret (v:=.agg #[.slice a8 r8.length c8]) (by simp [results,Tryz.results144,go_sem,k4]) rfl ⟨_,r8,rfl,Hs8.out.qB Hf8.out _,zo9.of Hc.out Hd.out Hn5.out Hn6.out Ho7.out Hn8.out,by have:=Hl5.out;have:=Hl6.out;have:=Hl7.out;have:=Hl8.out;omega,fun b hb => by have:=Hf8.out b hb;omega,HB8.out.setCell (by show w.heap.size ≤ w.heap.size + 1 + 1;omega) _⟩
