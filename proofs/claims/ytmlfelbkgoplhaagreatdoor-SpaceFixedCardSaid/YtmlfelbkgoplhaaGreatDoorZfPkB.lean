import Derived.Test.YtmlfelbkgoplhaaGreatDoorZfPkA
import Derived.Laws.StructEq
set_option linter.unusedVariables false
namespace Go.Proofs.YtmlfelbkgoplhaaGreatDoor
open Go.RowKit
theorem yx.nil (w : World) : yx w (.slice none 0 0) []:=.inl ⟨rfl,rfl⟩
theorem yx.shape {w : World} {v : Value} {l : List Spn} (h : yx w v l) : ∃ a c,v = .slice a l.length c ∧ l.length ≤ c ∧ c ≤ maxLen:=by
 rcases h with ⟨rfl,rfl⟩ | ⟨g,cap,f,rfl,h1,h2,_⟩
 · exact ⟨_,_,rfl,znr _,znz _⟩
 · exact ⟨_,_,rfl,h2.cap,h1⟩
theorem yx.get {w : World} {a : Option Addr} {n c : Nat} {l : List Spn} (h : yx w (.slice a n c) l) {k : Nat} (hk : k < l.length) :
 ∃ g,a = some ⟨g,0,none⟩ ∧ g < w.heap.size ∧ w.cell? ⟨g,k * 2,none⟩ = some (.int .i64 l[k].1) ∧ w.cell? ⟨g,k * 2 + 1,none⟩ = some (.int .i64 l[k].2):=by
 rcases h with ⟨_,rfl⟩ | ⟨g,cap,f,e,h1,h2,h3⟩
 · simp at hk
 ·
  cases e
  have e1 : f k = l[k]:=by
   have : (spL l.length f)[k]? = l[k]?:=by rw [h3]
   rw [List.getElem?_eq_getElem hk] at this
   unfold spL at this
   rw [List.getElem?_map,List.getElem?_range hk] at this
   simpa using this
  exact ⟨g,rfl,h2.lt,by rw [← e1];exact h2.cell1 hk,by rw [← e1];exact h2.zeH hk⟩
set_option maxRecDepth 100000 in
set_option maxHeartbeats 4000000 in
theorem zif (cf : Value) (w : World) : Calls Tryz.prog 221 #[.slice none 0 0,cf] w fun e w' => e = .returned (.tuple #[]) ∧ w' = w:=by
 have hl : ∀ W,Calls Tryz.prog 170 #[.int .u64 0] W fun e w' => e = .returned (.int .i64 (Lib.bitLen 0 : Nat)) ∧ w' = W:=fun W => Any.bits_Len Tryz.lays125 0 W (by omega) (by omega)
 have hi : ∀ w : World,Calls Tryz.prog 273 #[.slice none 0 0,.int .i64 0,.int .i64 0,cf] w fun e w' => e = .returned (.tuple #[]) ∧ w' = w:=fun w => by
  go_enter Tryz.func273,Tryz.ntmps273
  go_wp2_with fail
  go_loopg [8] 0 (fun gk i wr => i = .int .i64 1 ∧ w = wr)
  case atStart => exact ⟨rfl,rfl⟩
  case round =>
   obtain ⟨rfl,rfl⟩:=hrel
   go_wp2_with fail
   go_end0
   exact ⟨rfl,rfl⟩
 have hp : ∀ (lim : Int) (w : World),Calls Tryz.prog 258 #[.slice none 0 0,.int .i64 0,.int .i64 0,.int .i64 lim,cf] w fun e w' => e = .returned (.tuple #[]) ∧ w' = w:=fun lim w => by
  have Hi:=hid hi
  clear hi hl
  go_enter Tryz.func258,Tryz.ntmps258
  go_wp2_with fail
  go_loopg [1,2,3] 0 (fun gk a b l wr => a = .int .i64 0 ∧ b = .int .i64 0 ∧ l = .int .i64 lim ∧ w = wr)
  case atStart => exact ⟨rfl,rfl,rfl,rfl⟩
  case round =>
   obtain ⟨rfl,rfl,rfl,rfl⟩:=hrel
   go_wp2_with fail
   refine (Hi.out _).mono ?_
   rintro e w1 ⟨rfl,rfl⟩
   go_wp2_with fail
   refine bodyPost_ret (results_none rfl _ _ _) rfl ⟨rfl,rfl⟩
 have Hl:=hid hl;have Hp:=hid hp
 clear hl hp hi
 go_enter Tryz.func221,Tryz.ntmps221
 go_wp2_with fail
 refine (Hl.out _).mono ?_
 rintro e w1 ⟨rfl,rfl⟩
 go_wp2_with fail
 refine (Hp.out _ _).mono ?_
 rintro e w1 ⟨rfl,rfl⟩
 go_wp2_with fail
 go_end0
 exact ⟨rfl,rfl⟩
set_option maxHeartbeats 2000000 in
theorem ziw (B : Nat) (w : World) (hB : B ≤ w.heap.size) : Calls Tryz.prog 184 #[.slice none 0 0] w (zkS [] B w):=by
 have hi : ∀ w : World,Calls Tryz.prog 229 #[.slice none 0 0,.func (.func 220) #[] #[]] w fun e w' => e = .returned (.int .i64 (-1)) ∧ w' = w:=fun w => by
  go_enter Tryz.func229,Tryz.ntmps229
  go_wp2_with fail
  go_loopg [8] 0 (fun gk i wr => gk = 0 ∧ i = .int .i64 0 ∧ w = wr)
  case atStart => exact ⟨rfl,rfl,rfl⟩
  case round =>
   obtain ⟨rfl,rfl,rfl⟩:=hrel
   go_wp2_with fail
   go_ret
   exact ⟨rfl,rfl⟩
 have hd : ∀ w : World,Calls Tryz.prog 219 #[.slice none 0 0,.func (.func 220) #[] #[]] w fun e w' => e = .returned (.slice none 0 0) ∧ w' = w:=fun w => by
  go_enter Tryz.func219,Tryz.ntmps219
  go_wp2_with fail
  refine (hi _).mono ?_
  rintro e w1 ⟨rfl,rfl⟩
  go_wp2_with fail
  go_ret
  exact ⟨rfl,rfl⟩
 have hs : ∀ w : World,Calls Tryz.prog 221 #[.slice none 0 0,.func (.func 222) #[] #[]] w fun e w' => e = .returned (.tuple #[]) ∧ w' = w:=fun w =>
  zif (.func (.func 222) #[] #[]) w
 have hal : Below B w (w.alloc (.cells #[.slice none 0 0] 75)):=(Below.refl _ _).alloc hB _
 have Hal:=hid hal;have Hd:=hid hd;have Hs:=hid hs
 clear hal hd hs hi
 go_enter Tryz.func184,Tryz.ntmps184
 go_wp2_with fail
 refine (Hd.out _).mono ?_
 rintro e w1 ⟨rfl,rfl⟩
 go_wp2_with fail
 refine (Hs.out _).mono ?_
 rintro e w1 ⟨rfl,rfl⟩
 go_wp2_with fail
 go_loopg [3,13] 0 (fun gk vo i wr => gk = 0 ∧ vo = .slice none 0 0 ∧ i = .int .i64 0 ∧ w.alloc (.cells #[.slice none 0 0] 75) = wr)
 case atStart => exact ⟨rfl,rfl,rfl,rfl⟩
 case round =>
  obtain ⟨rfl,rfl,rfl,rfl⟩:=hrel
  go_wp2_with fail
  refine bodyPost_ret (v:=.agg #[.slice none 0 0]) (by simp [results,Tryz.results184,go_sem]) rfl ⟨_,[],rfl,yx.nil _,⟨Canon.nil,fun x => Iff.rfl⟩,znr _,fun b hb => (by cases hb),Hal.out⟩
theorem ql.row {w : World} {base : Nat} {v : Value} {n : Nat} {f : Nat → Spn} (h : ql w base v (n + 1) f) : ∃ g cap,v = .slice (some ⟨g,0,none⟩) (n + 1) cap ∧ base ≤ g ∧ cap ≤ maxLen ∧ xE w g cap (n + 1) f:=by
 rcases h with ⟨_,h⟩ | h
 · omega
 · exact h
theorem yx.qB {w : World} {v : Value} {l : List Spn} (h : yx w v l) {b : Nat} (hb : ∀ k,v.ownBlock = some k → b < k) (u : Value) : yx (w.setCell ⟨b,0,none⟩ u) v l:=by
 rcases h with h | ⟨g,cap,f,rfl,h1,h2,h3⟩
 · exact .inl h
 ·
  have:=hb g rfl
  exact .inr ⟨g,cap,f,rfl,h1,h2.keep (zhc _ _ _ _ (by show g ≠ b;omega)),h3⟩
def NotP (l : List Spn) (w : World) (e : Ending) (w' : World) : Prop :=
 ∃ v r,e = .returned (.agg #[v]) ∧ yx w' v r ∧ zfH l r ∧ r.length ≤ l.length + 1 ∧ (∀ b,v.ownBlock = some b → w.heap.size ≤ b) ∧ Below w.heap.size w w'
set_option maxRecDepth 100000 in
set_option maxHeartbeats 8000000 in
theorem zfb (vs : Value) (l : List Spn) (w : World) (h : yx w vs l) (hc : Canon l) (hl : l.length ≤ 50000) : Calls Tryz.prog 185 #[.agg #[vs]] w (NotP l w):=by
 obtain ⟨a,c,rfl,hlc,hcm⟩:=h.shape
 have hal : Below w.heap.size w ((w.alloc (.cells #[.slice a l.length c] 75)).alloc (.cells #[.slice none 0 0] 75)):=(zba).alloc (by simp) _
 have hblk : ((w.alloc (.cells #[.slice a l.length c] 75)).alloc (.cells #[.slice none 0 0] 75)).heap[w.heap.size + 1]? = some (.cells #[.slice none 0 0] 75 (0,0)):=za (by simp)
 have hsz : ((w.alloc (.cells #[.slice a l.length c] 75)).alloc (.cells #[.slice none 0 0] 75)).heap.size = w.heap.size + 1 + 1:=by simp
 have H:=hid h;have Hal:=hid hal;have Hblk:=hid hblk;have Hc:=hid hc;have Hsz:=hid hsz
 clear h hal hblk hc hsz
 go_enter Tryz.func185,Tryz.ntmps185
 go_wp2_with fail
 generalize (w.alloc (.cells #[.slice a l.length c] 75)).alloc (.cells #[.slice none 0 0] 75) = wA at Hal Hblk Hsz ⊢
 go_loopg [3,4,10] l.length (fun gk vo at_ i wr => ∃ (k : Nat) (fo : Nat → Spn),k ≤ l.length ∧ gk = l.length - k ∧ i = .int .i64 k ∧ at_ = .int .i64 (zc2 0 (l.take k)) ∧ ql wr (w.heap.size + 1 + 1) vo k fo ∧ spL k fo = zb4 0 (l.take k) ∧ Below (w.heap.size + 1 + 1) wA wr)
 case atStart => exact ⟨0,fun _ => (0,0),znz _,rfl,rfl,rfl,ql.nil _ _ _,rfl,Below.refl _ _⟩
 case round =>
  obtain ⟨k,fo,hk,rfl,rfl,rfl,hout,hgap,hbw⟩:=hrel
  obtain ⟨wo,rfl⟩ : ∃ y,y = wr:=⟨_,rfl⟩
  obtain ⟨ao,co,rfl⟩:=hout.shape
  have sbw:=hbw.size
  have hsA:=Hsz.out
  by_cases hlt : k < l.length
  ·
   have hbel:=Hal.out.trans (hbw.mono (by omega))
   obtain ⟨g,rfl,hgl,c1,c2⟩:=(H.out.below hbel).get hlt
   have htk : l.take (k + 1) = l.take k ++ [l[k]]:=List.take_succ_eq_append_getElem hlt
   have hg2:=zgZ 0 (l.take k) l[k]
   have he2:=zpj 0 (l.take k) l[k]
   rw [← htk,← hgap] at hg2
   rw [← htk] at he2
   generalize l[k] = s at c1 c2 hg2 he2
   generalize zc2 0 (l.take k) = at_ at hg2 ⊢
   have Hg2:=hid hg2;have He2:=hid he2;have Hbw:=hid hbw;have Hout:=hid hout
   have Hal2:=hid (show Below wo.heap.size wo (wo.alloc (.cells #[.int .i64 s.1,.int .i64 s.2] 226)) from zba)
   have Hcell:=hid (show ∀ w9 : World,(∀ k',k' < (wo.alloc (.cells #[.int .i64 s.1,.int .i64 s.2] 226)).heap.size → (Value.slice ao k co).ownBlock ≠ some k' → w9.heap[k']? = (wo.alloc (.cells #[.int .i64 s.1,.int .i64 s.2] 226)).heap[k']?) → w9.cell? ⟨wo.heap.size,1,none⟩ = some (.int .i64 s.2) from fun w9 h9 => by
    have e:=(h9 wo.heap.size (by rw [zy];omega) (fun e => by have:=hout.lt _ e;omega)).trans (za rfl)
    rw [cell_of_row _ _ _ _ _ _ e];rfl)
   clear hg2 he2 hbw hout hgap htk hbel
   go_wp2_with (at_builtin;refine qm rfl (.tmp 14) (.tmp 19) rfl (w.heap.size + 1 + 1) _ k fo rfl (Hout.out.below Hal2.out) at_ s.1 (wo.heap.size + 1) (zy wo _).symm rfl (by omega) (by rw [zy];omega) ?_;intro v9 w9 ho9 hb9 hk9;have Ho9:=hid ho9;have Hb9:=hid hb9;have e1:=Hcell.out w9 hk9;clear ho9 hb9 hk9)
   go_roundg (l.length - (k + 1))
   case measure => omega
   case rel => exact ⟨k + 1,_,by omega,rfl,by go_num,by rw [He2.out],Ho9.out,by rw [zdy];exact Hg2.out.symm,Hbw.out.trans ((Hal2.out.mono (by omega)).trans Hb9.out)⟩
  ·
   obtain rfl : k = l.length:=by omega
   rw [List.take_length] at hgap
   have hfit:=zim (Int.le_refl 0) Hc.out
   rw [← hgap,← zdy] at hfit
   have hnot:=fun r hr => zfH.zdn (r:=r) Hc.out hr
   rw [← hgap,← zdy] at hnot
   have htl : l.take l.length = l:=List.take_length
   rw [htl]
   generalize zc2 0 l = at_ at hfit hnot ⊢
   have Hfit:=hid hfit;have Hnot:=hid hnot;have Hbw:=hid hbw;have Hout:=hid hout
   have Hal2:=hid (show Below wo.heap.size wo (wo.alloc (.cells #[.int .i64 at_,.int .i64 zU] 226)) from zba)
   clear hfit hnot hbw hout hgap
   go_wp2_with (at_builtin;refine qm rfl (.tmp 24) (.tmp 27) rfl (w.heap.size + 1 + 1) _ l.length fo rfl Hout.out at_ 1000000000 wo.heap.size rfl rfl (by omega) (by omega) ?_;intro v9 w9 ho9 hb9 _;obtain ⟨g9,c9,e9,q1,q2,q3⟩:=ho9.row;cases e9;have Hb9:=hid hb9;have Q3:=hid q3;clear ho9 hb9 q3)
   have hb9:=Hbw.out.trans Hb9.out
   have s9:=hb9.size
   refine (zfw g9 c9 (l.length + 1) (w.heap.size + 1 + 1) _ w9 Q3.out Hfit.out (by omega) q2 q1 (by omega)).mono ?_
   rintro e w10 ⟨v10,r,rfl,hsp,hmd,hlen,hfr,hb10⟩
   obtain ⟨a10,c10,rfl,_⟩:=hsp.shape
   have hblk10:=(hb10.block _ (by omega)).trans ((hb9.block _ (by omega)).trans Hblk.out)
   have d1:=zco hblk10;have d2:=zfo hblk10;have d3:=zlb hblk10
   have k4:=zco (one_setCell (u:=.slice a10 r.length c10) hblk10)
   have hfin:=(Hal.out.trans ((hb9.trans hb10).mono (by omega))).setCell (p:=⟨w.heap.size + 1,0,none⟩) (by show w.heap.size ≤ w.heap.size + 1;omega) (.slice a10 r.length c10)
   have hsp2:=hsp.qB (b:=w.heap.size + 1) (fun b hb => by have:=hfr b hb;omega) (.slice a10 r.length c10)
   rw [xJ] at hlen
   have Hfin:=hid hfin;have Hsp2:=hid hsp2;have Hmd:=hid hmd;have Hlen:=hid hlen;have Hfr:=hid hfr
   clear hfin hsp2 hmd hlen hsp hfr hb10 hblk10 hb9
   go_wp2_with fail
   exact bodyPost_ret (v:=.agg #[.slice a10 r.length c10]) (by simp [results,Tryz.results185,go_sem,k4]) rfl ⟨_,r,rfl,Hsp2.out,Hnot.out r Hmd.out,Hlen.out,fun b hb => by have:=Hfr.out b hb;omega,Hfin.out⟩
set_option maxHeartbeats 1000000 in
theorem zaD (w : World) : Calls Tryz.prog 142 #[] w fun e w' => ∃ v,e = .returned (.agg #[v]) ∧ yx w' v [(0,zU)] ∧ (∀ b,v.ownBlock = some b → w.heap.size ≤ b) ∧ Below w.heap.size w w':=by
 go_enter Tryz.func142,Tryz.ntmps142
 go_wp2_with fail
 refine bodyPost_ret (v:=.agg #[.slice (some ⟨w.heap.size + 1,0,none⟩) 1 1]) (by simp [results,Tryz.results142,go_sem]) rfl ⟨_,rfl,.inr ⟨w.heap.size + 1,1,fun _ => (0,zU),rfl,by decide,⟨_,za (by simp),znr _,rfl,fun k hk => ?_⟩,rfl⟩,fun b hb => (show w.heap.size ≤ b from (by have : w.heap.size + 1 = b:=(by simpa [Value.ownBlock] using hb);omega)),(zba).alloc (by simp) _⟩
 have : k = 0:=by simp at hk;exact hk
 subst this
 exact ⟨rfl,rfl⟩
set_option maxHeartbeats 1000000 in
theorem zmd (v : Value) (l : List Spn) (w : World) (h : yx w v l) : Calls Tryz.prog 131 #[.agg #[v]] w fun e w' => e = .returned (.bool (decide (l = []))) ∧ Below w.heap.size w w':=by
 obtain ⟨a,c,rfl,hlc,hcm⟩:=h.shape
 have hd : decide (l = []) = ((l.length : Int) == 0):=by
  cases l with
  | nil => rfl
  | cons x r =>
   have : (((x :: r).length : Int) == 0) = false:=by rw [beq_eq_false_iff_ne];simp;omega
   rw [this];simp
 rw [hd]
 have hal : Below w.heap.size w (w.alloc (.cells #[.slice a l.length c] 75)):=zba
 have Hal:=hid hal
 clear h hd hal
 go_enter Tryz.func131,Tryz.ntmps131
 go_wp2_with fail
 go_ret
 exact ⟨rfl,Hal.out⟩
def qx (a b c : Int) : Int:=(a * 1000 + b) * 1000 + c
set_option maxHeartbeats 1000000 in
theorem jQ (a b c : Int) (w : World) (ha : 0 ≤ a ∧ a ≤ 1000) (hb : 0 ≤ b ∧ b ≤ 1000) (hc : 0 ≤ c ∧ c ≤ 1000) : Calls Tryz.prog 183 #[.agg #[.int .i64 a,.int .i64 b,.int .i64 c]] w fun e w' => e = .returned (.int .i64 (qx a b c)) ∧ Below w.heap.size w w':=by
 have hal : Below w.heap.size w (w.alloc (.cells #[.int .i64 a,.int .i64 b,.int .i64 c] 72)):=zba
 have Hal:=hid hal;clear hal
 obtain ⟨a1,a2⟩:=ha;obtain ⟨b1,b2⟩:=hb;obtain ⟨c1,c2⟩:=hc
 go_enter Tryz.func183,Tryz.ntmps183
 go_wp2_with fail
 go_ret
 exact ⟨rfl,Hal.out⟩
def inB (n : Int) (s : Spn) : Bool:=decide (s.1 ≤ n) && decide (n < s.2)
theorem zkM {n : Int} {s : Spn} : inB n s = true ↔ inS n s:=by unfold inB inS;simp
set_option maxHeartbeats 1000000 in
theorem zoD (a b n : Int) (q : Nat) (w : World) (hq : w.cell? ⟨q,0,none⟩ = some (.int .i64 n)) : Calls Tryz.prog 197 #[.agg #[.int .i64 a,.int .i64 b],.pointer (some ⟨q,0,none⟩)] w fun e w' => e = .returned (.bool (inB n (a,b))) ∧ Below w.heap.size w w':=by
 have hb : Below w.heap.size w (w.alloc (.cells #[.int .i64 a,.int .i64 b] 226)):=zba
 have hqb:=World.block_lt_of_cell? _ _ hq
 have hq2:=(hb.cell hqb).trans hq
 have Hb:=hid hb;clear hb
 by_cases h : a ≤ n
 ·
  have e : inB n (a,b) = decide (n < b):=by unfold inB;simp [h]
  have h2 : decide (a ≤ n) = true:=by simpa using h
  rw [e]
  clear e h
  go_enter Tryz.func197,Tryz.ntmps197
  go_wp2_with fail
  go_ret
  exact ⟨rfl,Hb.out⟩
 ·
  have e : inB n (a,b) = false:=by unfold inB;simp [h]
  have h2 : decide (a ≤ n) = false:=by simpa using h
  rw [e]
  clear e h
  go_enter Tryz.func197,Tryz.ntmps197
  go_wp2_with fail
  go_ret
  exact ⟨rfl,Hb.out⟩
set_option maxRecDepth 100000 in
set_option maxHeartbeats 4000000 in
theorem zjC (v : Value) (l : List Spn) (n : Int) (q : Nat) (w : World) (h : yx w v l) (hq : w.cell? ⟨q,0,none⟩ = some (.int .i64 n)) :
 Calls Tryz.prog 229 #[v,.func (.func 197) #[] #[.pointer (some ⟨q,0,none⟩)]] w fun e w' =>
  (∃ r : Int,e = .returned (.int .i64 r) ∧ decide (0 ≤ r) = l.any (inB n)) ∧ Below w.heap.size w w':=by
 obtain ⟨a1,c1,rfl,hl1,hc1⟩:=h.shape
 have hm1 : l.length ≤ 9223372036854775807:=Nat.le_trans hl1 hc1
 have hqb:=World.block_lt_of_cell? _ _ hq
 have H:=hid h;have Hq:=hid hq;clear h hq
 go_enter Tryz.func229,Tryz.ntmps229
 go_wp2_with fail
 go_loopg [8] l.length (fun gk i wr => ∃ k : Nat,k ≤ l.length ∧ gk = l.length - k ∧ i = .int .i64 k ∧ Below w.heap.size w wr ∧ (l.take k).any (inB n) = false)
 case atStart => exact ⟨0,znz _,rfl,rfl,Below.refl _ _,rfl⟩
 case round =>
  obtain ⟨k,hk,rfl,rfl,hb,hno⟩:=hrel
  by_cases hlt : k < l.length
  ·
   obtain ⟨g,rfl,hgl,e1,e2⟩:=(H.out.below hb).get hlt
   have hp:=zoD l[k].1 l[k].2 n q wr ((hb.cell hqb).trans Hq.out)
   have htk : l.take (k + 1) = l.take k ++ [l[k]]:=List.take_succ_eq_append_getElem hlt
   have hmem:=List.getElem_mem hlt
   generalize l[k] = s at e1 e2 hp htk hmem
   have Hp:=hid hp;have Htk:=hid htk;have Hmem:=hid hmem;have Hb:=hid hb;have Hno:=hid hno
   clear hp htk hmem hb hno
   go_wp2_with fail
   refine Hp.out.mono ?_
   rintro e w9 ⟨rfl,hb9⟩
   have Hb9:=hid (Hb.out.trans (hb9.mono Hb.out.size))
   clear hb9 Hp
   cases hps : inB n (s.1,s.2) with
   | true =>
    have Hps:=hid hps;clear hps
    go_wp2_with fail
    go_ret
    refine ⟨⟨_,rfl,?_⟩,Hb9.out⟩
    rw [List.any_eq_true.2 ⟨s,Hmem.out,Hps.out⟩]
    simp
   | false =>
    have Hps:=hid hps;clear hps
    go_wp2_with fail
    go_roundg (l.length - (k + 1))
    case measure => omega
    case rel => exact ⟨k + 1,by omega,rfl,by go_num,Hb9.out,by rw [Htk.out,List.any_append,Hno.out];simp;exact Hps.out⟩
  ·
   obtain rfl : k = l.length:=by omega
   rw [List.take_length] at hno
   have Hb:=hid hb;have Hno:=hid hno
   clear hb hno
   go_wp2_with fail
   go_ret
   exact ⟨⟨_,rfl,by rw [Hno.out];rfl⟩,Hb.out⟩
theorem zgk (v : Value) (l : List Spn) (n : Int) (q : Nat) (w : World) (h : yx w v l) (hq : w.cell? ⟨q,0,none⟩ = some (.int .i64 n)) :
 Calls Tryz.prog 196 #[v,.func (.func 197) #[] #[.pointer (some ⟨q,0,none⟩)]] w fun e w' => e = .returned (.bool (l.any (inB n))) ∧ Below w.heap.size w w':=by
 have hi:=zjC v l n q w h hq
 obtain ⟨a1,c1,rfl,_,_⟩:=h.shape
 generalize l.any (inB n) = res at hi ⊢
 have Hi:=hid hi;clear hi h hq
 go_enter Tryz.func196,Tryz.ntmps196
 go_wp2_with fail
 refine Hi.out.mono ?_
 rintro e w1 ⟨⟨r,rfl,hr⟩,hb⟩
 have Hb:=hid hb;have Hr:=hid hr;clear hb hr
 go_wp2_with fail
 go_ret
 refine ⟨?_,Hb.out⟩
 rw [← Hr.out];rfl
def inP (x : Int) : Bool:=decide (0 ≤ x) && decide (x ≤ 999)
theorem zh6 {x : Int} (h : x < 0) : inP x = false:=by unfold inP;rw [decide_eq_false (by omega)];rfl
theorem zhL {x : Int} (h : 999 < x) : inP x = false:=by unfold inP;rw [decide_eq_false (p:=x ≤ 999) (by omega)];simp
theorem zd6 {x : Int} (h : ¬ x < 0) (h2 : ¬ 999 < x) : inP x = true:=by unfold inP;rw [decide_eq_true (p:=0 ≤ x) (by omega),decide_eq_true (p:=x ≤ 999) (by omega)];rfl
theorem zj0 {x : Int} (h : inP x = true) : 0 ≤ x ∧ x ≤ 1000:=by unfold inP at h;simp at h;omega
def zbE (l : List Spn) (a b c : Int) : Bool:=inP a && inP b && inP c && l.any (inB (qx a b c))
set_option maxRecDepth 100000 in
set_option maxHeartbeats 8000000 in
theorem zpO (v : Value) (l : List Spn) (a b c : Int) (w : World) (h : yx w v l) :
 Calls Tryz.prog 156 #[.agg #[v],.agg #[.int .i64 a,.int .i64 b,.int .i64 c]] w fun e w' => e = .returned (.bool (zbE l a b c)) ∧ Below w.heap.size w w':=by
 obtain ⟨a1,c1,rfl,_,_⟩:=h.shape
 obtain ⟨W,hW⟩ : ∃ W,W = ((w.alloc (.cells #[.slice a1 l.length c1] 75)).alloc (.cells #[.int .i64 a,.int .i64 b,.int .i64 c] 72)):=⟨_,rfl⟩
 have hbW : Below w.heap.size w W:=by rw [hW];exact (zba).alloc (by simp) _
 have hb1 : W.heap[w.heap.size]? = some (.cells #[.slice a1 l.length c1] 75 (0,0)):=by rw [hW];exact zh (za rfl)
 have hb2 : W.heap[w.heap.size + 1]? = some (.cells #[.int .i64 a,.int .i64 b,.int .i64 c] 72 (0,0)):=by rw [hW];exact za (by simp)
 have hspW:=h.below hbW
 have Hsp:=hid hspW;have HbW:=hid hbW;have Hb1:=hid hb1;have Hb2:=hid hb2
 generalize hres : zbE l a b c = res
 have Hres:=hid hres
 clear hspW hbW hb1 hb2 h hres
 go_enter Tryz.func156,Tryz.ntmps156
 go_upto_region 1 with fail
 rw [← hW]
 clear hW
 have e0 : W.cell? ⟨w.heap.size + 1,0,none⟩ = some (.int .i64 a):=by rw [cell_of_row _ _ _ _ _ _ Hb2.out];rfl
 have e1 : W.cell? ⟨w.heap.size + 1,1,none⟩ = some (.int .i64 b):=by rw [cell_of_row _ _ _ _ _ _ Hb2.out];rfl
 have e2 : W.cell? ⟨w.heap.size + 1,2,none⟩ = some (.int .i64 c):=by rw [cell_of_row _ _ _ _ _ _ Hb2.out];rfl
 have e3:=zco Hb1.out
 have x0 : ∀ W : World,(Instr.index 72 (.agg #[.int .i64 a,.int .i64 b,.int .i64 c]) (.int .i64 0)).run Tryz.prog W = .ok (.int .i64 a) W:=fun _ => by kernel_rfl
 have x1 : ∀ W : World,(Instr.index 72 (.agg #[.int .i64 a,.int .i64 b,.int .i64 c]) (.int .i64 1)).run Tryz.prog W = .ok (.int .i64 b) W:=fun _ => by kernel_rfl
 have x2 : ∀ W : World,(Instr.index 72 (.agg #[.int .i64 a,.int .i64 b,.int .i64 c]) (.int .i64 2)).run Tryz.prog W = .ok (.int .i64 c) W:=fun _ => by kernel_rfl
 go_wp2_with fail
 go_loopg [9] 3 (fun gk i wr => ∃ k : Nat,k ≤ 3 ∧ gk = 3 - k ∧ i = .int .i64 k ∧ W = wr ∧ (0 < k → inP a = true) ∧ (1 < k → inP b = true) ∧ (2 < k → inP c = true))
 case atStart => exact ⟨0,by omega,rfl,rfl,rfl,fun h => by omega,fun h => by omega,fun h => by omega⟩
 case round =>
  obtain ⟨k,hk,rfl,rfl,rfl,ia,ib,ic⟩:=hrel
  have Ia:=hid ia;have Ib:=hid ib;have Ic:=hid ic
  clear ia ib ic
  obtain rfl | rfl | rfl | rfl : k = 0 ∨ k = 1 ∨ k = 2 ∨ k = 3:=by omega
  ·
   by_cases y1 : a < 0
   ·
    have d1 : decide (a < 0) = true:=by simpa using y1
    have hr : res = false:=by rw [← Hres.out];unfold zbE;rw [zh6 y1];simp
    subst hr
    clear y1
    go_wp2_with fail
    go_ret
    exact ⟨rfl,HbW.out⟩
   ·
    have d1 : decide (a < 0) = false:=by simpa using y1
    have Hx1:=hid y1
    by_cases y2 : 999 < a
    ·
     have d2 : decide (999 < a) = true:=by simpa using y2
     have hr : res = false:=by rw [← Hres.out];unfold zbE;rw [zhL y2];simp
     subst hr
     clear y1 y2
     go_wp2_with fail
     go_ret
     exact ⟨rfl,HbW.out⟩
    ·
     have d2 : decide (999 < a) = false:=by simpa using y2
     have Hx2:=hid y2
     clear y1 y2
     go_wp2_with fail
     go_roundg 2
     case measure => omega
     case rel => exact ⟨1,by omega,rfl,rfl,rfl,fun _ => zd6 (by have:=Hx1.out;omega) (by have:=Hx2.out;omega),fun h => by omega,fun h => by omega⟩
  ·
   by_cases y1 : b < 0
   ·
    have d1 : decide (b < 0) = true:=by simpa using y1
    have hr : res = false:=by rw [← Hres.out];unfold zbE;rw [zh6 y1];simp
    subst hr
    clear y1
    go_wp2_with fail
    go_ret
    exact ⟨rfl,HbW.out⟩
   ·
    have d1 : decide (b < 0) = false:=by simpa using y1
    have Hx1:=hid y1
    by_cases y2 : 999 < b
    ·
     have d2 : decide (999 < b) = true:=by simpa using y2
     have hr : res = false:=by rw [← Hres.out];unfold zbE;rw [zhL y2];simp
     subst hr
     clear y1 y2
     go_wp2_with fail
     go_ret
     exact ⟨rfl,HbW.out⟩
    ·
     have d2 : decide (999 < b) = false:=by simpa using y2
     have Hx2:=hid y2
     clear y1 y2
     go_wp2_with fail
     go_roundg 1
     case measure => omega
     case rel => exact ⟨2,by omega,rfl,rfl,rfl,fun _ => Ia.out (by omega),fun _ => zd6 (by have:=Hx1.out;omega) (by have:=Hx2.out;omega),fun h => by omega⟩
  ·
   by_cases y1 : c < 0
   ·
    have d1 : decide (c < 0) = true:=by simpa using y1
    have hr : res = false:=by rw [← Hres.out];unfold zbE;rw [zh6 y1];simp
    subst hr
    clear y1
    go_wp2_with fail
    go_ret
    exact ⟨rfl,HbW.out⟩
   ·
    have d1 : decide (c < 0) = false:=by simpa using y1
    have Hx1:=hid y1
    by_cases y2 : 999 < c
    ·
     have d2 : decide (999 < c) = true:=by simpa using y2
     have hr : res = false:=by rw [← Hres.out];unfold zbE;rw [zhL y2];simp
     subst hr
     clear y1 y2
     go_wp2_with fail
     go_ret
     exact ⟨rfl,HbW.out⟩
    ·
     have d2 : decide (999 < c) = false:=by simpa using y2
     have Hx2:=hid y2
     clear y1 y2
     go_wp2_with fail
     go_roundg 0
     case measure => omega
     case rel => exact ⟨3,by omega,rfl,rfl,rfl,fun _ => Ia.out (by omega),fun _ => Ib.out (by omega),fun _ => zd6 (by have:=Hx1.out;omega) (by have:=Hx2.out;omega)⟩
  ·
   have pa:=Ia.out (by omega);have pb:=Ib.out (by omega);have pc:=Ic.out (by omega)
   have hr : res = l.any (inB (qx a b c)):=by rw [← Hres.out];unfold zbE;rw [pa,pb,pc];simp
   have hnum:=jQ a b c W (zj0 pa) (zj0 pb) (zj0 pc)
   have Hnum:=hid hnum;have Hr:=hid hr
   clear pa pb pc hnum hr
   generalize qx a b c = N at Hnum Hr
   go_wp2_with fail
   refine Hnum.out.mono ?_
   rintro e w1 ⟨rfl,hb1⟩
   have hal : Below w1.heap.size w1 (w1.alloc (.cells #[.int .i64 N] 3)):=zba
   have hcn:=zgk _ l N w1.heap.size _ ((Hsp.out.below hb1).below hal) (zco (za (w:=w1) (o:=.cells #[.int .i64 N] 3) rfl))
   have q3:=(hb1.cell (World.block_lt_of_cell? _ _ e3)).trans e3
   have Hcn:=hid hcn;have Hw1:=hid (HbW.out.trans (hb1.mono HbW.out.size));have Hal:=hid hal
   have q4:=World.block_lt_of_cell? _ _ q3
   clear hcn hal hb1 Hnum
   go_wp2_with fail
   refine Hcn.out.mono ?_
   rintro e w2 ⟨rfl,hb2⟩
   have Hb2':=hid ((Hw1.out.alloc Hw1.out.size _).trans (hb2.mono (Nat.le_trans Hw1.out.size Hal.out.size)))
   clear hb2 Hcn
   rw [← Hr.out]
   go_wp2_with fail
   go_ret
   exact ⟨rfl,Hb2'.out⟩
def zaj (a b c : Int) : Int:=if 0 < a then qx (a + 1) 0 0 else if 0 < b then qx 0 (b + 1) 0 else qx 0 0 (c + 1)
set_option maxHeartbeats 2000000 in
theorem zl0 (a b c : Int) (w : World) (ha : 0 ≤ a ∧ a ≤ 999) (hb : 0 ≤ b ∧ b ≤ 999) (hc : 0 ≤ c ∧ c ≤ 999) : Calls Tryz.prog 186 #[.agg #[.int .i64 a,.int .i64 b,.int .i64 c]] w fun e w' => e = .returned (.int .i64 (zaj a b c)) ∧ Below w.heap.size w w':=by
 have hal : Below w.heap.size w (w.alloc (.cells #[.int .i64 a,.int .i64 b,.int .i64 c] 72)):=zba
 have Hal:=hid hal;clear hal
 by_cases h1 : 0 < a
 ·
  have d1 : decide (0 < a) = true:=by simpa using h1
  have e : zaj a b c = qx (a + 1) 0 0:=if_pos h1
  have Hn:=hid (jQ (a + 1) 0 0 (w.alloc (.cells #[.int .i64 a,.int .i64 b,.int .i64 c] 72)) (by omega) (by omega) (by omega))
  rw [e]
  generalize qx (a + 1) 0 0 = N at Hn ⊢
  clear e
  obtain ⟨a1,a2⟩:=ha
  go_enter Tryz.func186,Tryz.ntmps186
  go_wp2_with fail
  refine Hn.out.mono ?_
  rintro e w1 ⟨rfl,hb1⟩
  have Hb1:=hid (Hal.out.trans (hb1.mono Hal.out.size));clear hb1
  go_wp2_with fail
  go_ret
  exact ⟨rfl,Hb1.out⟩
 ·
  have d1 : decide (0 < a) = false:=by simpa using h1
  by_cases h2 : 0 < b
  ·
   have d2 : decide (0 < b) = true:=by simpa using h2
   have e : zaj a b c = qx 0 (b + 1) 0:=by unfold zaj;rw [if_neg h1,if_pos h2]
   have Hn:=hid (jQ 0 (b + 1) 0 (w.alloc (.cells #[.int .i64 a,.int .i64 b,.int .i64 c] 72)) (by omega) (by omega) (by omega))
   rw [e]
   generalize qx 0 (b + 1) 0 = N at Hn ⊢
   clear e
   obtain ⟨b1,b2⟩:=hb
   go_enter Tryz.func186,Tryz.ntmps186
   go_wp2_with fail
   refine Hn.out.mono ?_
   rintro e w1 ⟨rfl,hb1⟩
   have Hb1:=hid (Hal.out.trans (hb1.mono Hal.out.size));clear hb1
   go_wp2_with fail
   go_ret
   exact ⟨rfl,Hb1.out⟩
  ·
   have d2 : decide (0 < b) = false:=by simpa using h2
   have e : zaj a b c = qx 0 0 (c + 1):=by unfold zaj;rw [if_neg h1,if_neg h2]
   have Hn:=hid (jQ 0 0 (c + 1) (w.alloc (.cells #[.int .i64 a,.int .i64 b,.int .i64 c] 72)) (by omega) (by omega) (by omega))
   rw [e]
   generalize qx 0 0 (c + 1) = N at Hn ⊢
   clear e
   obtain ⟨c1,c2⟩:=hc
   go_enter Tryz.func186,Tryz.ntmps186
   go_wp2_with fail
   refine Hn.out.mono ?_
   rintro e w1 ⟨rfl,hb1⟩
   have Hb1:=hid (Hal.out.trans (hb1.mono Hal.out.size));clear hb1
   go_wp2_with fail
   go_ret
   exact ⟨rfl,Hb1.out⟩
