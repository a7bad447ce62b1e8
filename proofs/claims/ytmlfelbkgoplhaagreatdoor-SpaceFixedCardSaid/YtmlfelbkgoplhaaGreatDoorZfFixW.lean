import Derived.Test.YtmlfelbkgoplhaaGreatDoorZfCanW
set_option linter.unusedVariables false
set_option linter.unusedSimpArgs false
namespace Go.Proofs.YtmlfelbkgoplhaaGreatDoor
open Go.RowKit
def jg (c : Cells) (is : Bool) (all : Int) (n : Nat) : List Nat:=(List.range n).filter fun v => !jc c (v : Int) is all
theorem zlX (c : Cells) (is : Bool) (all : Int) (n : Nat) : jg c is all (n + 1) = jg c is all n ++ if jc c (n : Int) is all = true then [] else [n]:=by
 unfold jg
 rw [List.range_succ,List.filter_append]
 congr 1
 cases h : jc c (n : Int) is all <;> simp [h]
theorem zbV (c : Cells) (is : Bool) (all : Int) (n : Nat) : (jg c is all n).length ≤ n:=by
 have:=List.length_filter_le (fun v : Nat => !jc c (v : Int) is all) (List.range n)
 rw [List.length_range] at this
 exact this
theorem zin {c : Cells} {is : Bool} {all : Int} {n v : Nat} : v ∈ jg c is all n ↔ v < n ∧ jc c (v : Int) is all = false:=by
 unfold jg
 rw [List.mem_filter,List.mem_range]
 simp
set_option maxRecDepth 100000 in
set_option maxHeartbeats 16000000 in
theorem zhe (q : Nat) (s : Sb) (V : Nat) (st : Sp) (all : Int) (is : Bool) (w : World) (hV : V ≤ 24) (hs : IsSpace w s V st) (hq : w.heap[q]? = some (.cells #[.pointer (some ⟨s.ps,0,none⟩),.int .i64 all] 40 (0,0))) (o : Ok st.c) (hh : zG st.c all = true) :
 Calls Tryz.prog 69 #[.pointer (some ⟨q,0,none⟩),.bool is] w fun e w' => (∃ v,e = .returned (.tuple #[v,.nilIface]) ∧ yM w' w.heap.size v ((jg st.c is all V).map fun k : Nat => (k : Int))) ∧ Below w.heap.size w w':=by
 have hmm:=@run_makeMap Tryz.prog
 have HW:=hid (show ∀ W,Below w.heap.size w W → (W.cell? ⟨q,0,none⟩ = some (.pointer (some ⟨s.ps,0,none⟩)) ∧ W.cell? ⟨q,1,none⟩ = some (.int .i64 all)) ∧ IsSpace W s V st ∧ W.heap[q]? = some (.cells #[.pointer (some ⟨s.ps,0,none⟩),.int .i64 all] 40 (0,0)) from fun W hW => by
  have h:=(hW.block _ (zlb hq)).trans hq
  exact ⟨⟨(zbp h).1,(zbp h).2.1⟩,hs.below hW,h⟩)
 obtain ⟨c0,c1⟩:=(HW.out w (Below.refl _ _)).1
 have HV:=hid (zoX (V : Int) w s st hs)
 have Ho:=hid o;have Hh:=hid hh
 have lq:=zlb hq
 have lmem:=hid (fun k (hk : s.mem k) => hs.lt hk)
 have lps:=hs.lps
 clear hs hq o hh
 go_enter Tryz.func69,Tryz.ntmps69
 go_wp2_with fail
 refine HV.out.mono ?_
 rintro e w2 ⟨rfl,rfl⟩
 go_wp2_with fail
 go_loopg [6,16] V (fun gk vo i wr => ∃ k : Nat,k ≤ V ∧ gk = V - k ∧ i = .int .i64 k ∧ yM wr w.heap.size vo ((jg st.c is all k).map fun k : Nat => (k : Int)) ∧ Below w.heap.size w wr)
 case atStart => exact ⟨0,znz _,rfl,rfl,zo.nil _ _ _ _ _,Below.refl _ _⟩
 case round =>
  clear c0 c1 HV
  obtain ⟨k,hk,rfl,rfl,hout,hbw⟩:=hrel
  obtain ⟨wo,rfl⟩ : ∃ y,y = wr:=⟨_,rfl⟩
  obtain ⟨ss,hss⟩ : ∃ ss,ss = (jg st.c is all k).map (fun k : Nat => (k : Int)):=⟨_,rfl⟩
  rw [← hss] at hout
  have hsl : ss.length ≤ 100:=by rw [hss,List.length_map];have:=zbV st.c is all k;omega
  obtain ⟨ao,co,rfl,_,_⟩:=zo.shape hout
  by_cases hlt : k < V
  ·
   have hi : (k : Int) < (V : Int):=by omega
   obtain ⟨⟨c0,c1⟩,hsp,hbx⟩:=HW.out wo hbw
   have hbM : Below wo.heap.size wo (wo.alloc (.map #[] 0)):=zba
   have hsz:=hbw.size
   have hci : zeT (wo.alloc (.map #[] 0)) q s V st all wo.heap.size k is:=⟨hsp.below hbM,(hbM.block _ (zlb hbx)).trans hbx,⟨[],zcc wo _,fun k x e => by cases e⟩,fun hm => by have:=lmem.out _ hm;omega,by omega,by omega⟩
   have HC:=hid (zov q s V st all wo.heap.size k is Ho.out 25 all _ hci Hh.out (by have:=zcf Ho.out all;omega))
   have hsu:=zlX st.c is all k
   have Hout:=hid hout;have Hbw:=hid hbw;have Hsu:=hid hsu;have Hss:=hid hss;have HbM:=hid hbM
   clear hout hbw hsu hss hbM hci hsp hbx hsz
   go_wp2_with fail
   refine HC.out.mono ?_
   rintro e w5 ⟨rfl,_,ho5⟩
   have hb5 : Below wo.heap.size wo w5:=HbM.out.trans (ho5.below HbM.out.size (fun j hj => by have e : j = wo.heap.size:=hj;omega))
   obtain ⟨r,hr⟩ : ∃ r,r = jc st.c k is all:=⟨_,rfl⟩
   rw [← hr]
   have hsu:=Hsu.out
   rw [← hr] at hsu
   have Hout5:=hid (zo.below Hout.out hb5);have Hb5:=hid (Hbw.out.trans (hb5.mono Hbw.out.size));have Hsu5:=hid hsu
   clear ho5 hb5 hr hsu c0 c1 HC
   cases r with
   | true =>
    go_wp2_with fail
    go_roundg (V - (k + 1))
    case measure => omega
    case rel => exact ⟨k + 1,by omega,rfl,by go_num,by rw [Hsu5.out,if_pos trivial,List.append_nil,← Hss.out];exact Hout5.out,Hb5.out⟩
   | false =>
    go_wp2_with (at_builtin;refine ja rfl (.tmp 29) (.tmp 31) rfl w.heap.size (.slice ao ss.length co) ss rfl Hout5.out k _ rfl rfl (by omega) Hb5.out.size ?_;intro g9 c9 w9 ho9 hb9 hk9 hg9;have Ho9:=hid ho9;have Hb9:=hid hb9;clear ho9 hb9 hk9 hg9)
    go_roundg (V - (k + 1))
    case measure => omega
    case rel => exact ⟨k + 1,by omega,rfl,by go_num,by rw [Hsu5.out,if_neg (by simp),List.map_append,← Hss.out];exact Ho9.out,Hb5.out.trans Hb9.out⟩
  ·
   obtain rfl : k = V:=by omega
   have Hout:=hid hout;have Hbw:=hid hbw;have Hss:=hid hss
   clear hout hbw hss hlt
   go_wp2_with fail
   go_ret2
   exact ⟨⟨_,rfl,by rw [← Hss.out];exact Hout.out⟩,Hbw.out⟩
def FixP (V : Nat) (st : Sp) (all : Int) (is : Bool) (w : World) (e : Ending) (w' : World) : Prop :=
 (∃ a c,e = .returned (.tuple #[.slice a (jg st.c is all V).length c,.nilIface]) ∧ yM w' w.heap.size (.slice a (jg st.c is all V).length c) ((jg st.c is all V).map fun k : Nat => (k : Int))) ∧ Below w.heap.size w w'
theorem zk3 {V : Nat} {st : Sp} {all : Int} {is : Bool} {w w' : World} {v : Value} (h : yM w' w.heap.size v ((jg st.c is all V).map fun k : Nat => (k : Int))) (hb : Below w.heap.size w w') : FixP V st all is w (.returned (.tuple #[v,.nilIface])) w':=by
 obtain ⟨a,c,e,_,_⟩:=zo.shape h
 rw [List.length_map] at e
 subst e
 exact ⟨⟨a,c,rfl,h⟩,hb⟩
section
variable (q : Nat) (s : Sb) (V : Nat) (st : Sp) (all : Int) (w : World) (hV : V ≤ 24) (hs : IsSpace w s V st) (hq : w.heap[q]? = some (.cells #[.pointer (some ⟨s.ps,0,none⟩),.int .i64 all] 40 (0,0))) (o : Ok st.c) (hh : zG st.c all = true)
include hV hs hq o hh
set_option maxHeartbeats 2000000 in
theorem zmX : Calls Tryz.prog 25 #[.pointer (some ⟨q,0,none⟩)] w (FixP V st all true w):=by
 have HF:=hid (zhe q s V st all true w hV hs hq o hh)
 clear hs hq o hh hV
 go_enter Tryz.func25,Tryz.ntmps25
 go_wp2_with fail
 refine HF.out.mono ?_
 rintro e w2 ⟨⟨v,rfl,hout⟩,hb⟩
 have Hout:=hid hout;have Hb:=hid hb
 obtain ⟨a,c,e,_,_⟩:=zo.shape hout
 rw [List.length_map] at e
 subst e
 clear hout hb
 go_wp2_with fail
 go_ret2
 exact zk3 Hout.out Hb.out
set_option maxHeartbeats 2000000 in
theorem zjy : Calls Tryz.prog 24 #[.pointer (some ⟨q,0,none⟩)] w (FixP V st all false w):=by
 have HF:=hid (zhe q s V st all false w hV hs hq o hh)
 clear hs hq o hh hV
 go_enter Tryz.func24,Tryz.ntmps24
 go_wp2_with fail
 refine HF.out.mono ?_
 rintro e w2 ⟨⟨v,rfl,hout⟩,hb⟩
 have Hout:=hid hout;have Hb:=hid hb
 obtain ⟨a,c,e,_,_⟩:=zo.shape hout
 rw [List.length_map] at e
 subst e
 clear hout hb
 go_wp2_with fail
 go_ret2
 exact zk3 Hout.out Hb.out
end
theorem zob {V R : Nat} {l : List (List Int)} {st : Sp} {all : Int} (h : zej V R l st all) (hz : ∀ c ∈ l,∀ x ∈ c,x ≠ 0 ∧ -(V : Int) ≤ x ∧ x ≤ V) {v : Nat} (hv : v < V) (is : Bool) : jc st.c v is all = true ↔ zcz (l ++ [[if is then (v : Int) + 1 else -(v : Int) - 1]]):=by
 rw [zit h.sok.ok,← zpM hz hv is]
 exact ⟨fun ⟨val,h1,h2⟩ => ⟨val,h1,by rw [← h.den];exact h2⟩,fun ⟨val,h1,h2⟩ => ⟨val,h1,by rw [h.den];exact h2⟩⟩
