import Derived.Test.YtmlfelbkgoplhaaGreatDoorZfPkM
import Derived.Deep.QuietTactic
import Derived.BigQuiet
set_option linter.unusedVariables false
namespace Go.Proofs.YtmlfelbkgoplhaaGreatDoor
open Go.RowKit
theorem any_take_succ {p : Int → Bool} {xs : List Int} {k : Nat} (h : k < xs.length) : (xs.take (k + 1)).any p = ((xs.take k).any p || p xs[k]):=by
 rw [List.take_succ_eq_append_getElem h,List.any_append];simp
def Found (p : Int → Bool) (xs : List Int) (w : World) (e : Ending) (w' : World) : Prop:=(∃ n : Int,(0 ≤ n ↔ xs.any p = true) ∧ e = .returned (.int .i64 n)) ∧ w = w'
set_option maxHeartbeats 400000 in
theorem zgl (g : Nat) (l0 : Value) (p : Int → Bool) (v : Value) (xs : List Int) (w : World) (hv : zD w v xs)
 (hcf : ∀ args w,(callFunc g args).run Tryz.prog w = .ok (.enter g args) w)
 (hg : ∀ x,x ∈ xs → Calls Tryz.prog g #[.int .i64 x,l0] w fun e w' => e = .returned (.bool (p x)) ∧ w = w') :
 Calls Tryz.prog 166 #[v,.func (.func g) #[] #[l0]] w (Found p xs w):=by
 obtain ⟨a,b,o,c,rfl,ha,hl,hm,hcell,hblk,hlen⟩:=hv
 unfold maxLen at hm
 have Hg:=hid hg;clear hg
 go_enter Tryz.func166,Tryz.ntmps166
 go_wp2
 go_loopg [8] xs.length (fun gk i wr => w = wr ∧ ∃ k : Nat,k ≤ xs.length ∧ gk = xs.length - k ∧ i = .int .i64 k ∧ (xs.take k).any p = false)
 case atStart => exact ⟨rfl,0,znz _,rfl,rfl,rfl⟩
 case round =>
  obtain ⟨rfl,k,hk,rfl,rfl,hno⟩:=hrel
  have Hno:=hid hno;clear hno
  by_cases hlt : k < xs.length
  ·
   obtain rfl:=ha (by intro h;subst h;simp at hlt)
   have hc:=hcell k hlt
   have hts:=any_take_succ (p:=p) hlt
   have Hts:=hid hts;clear hts
   cases hp : p xs[k]
   ·
    have Hp:=hid hp;clear hp
    go_wp2_with (refine (Hg.out _ (List.getElem_mem hlt)).mono ?_;rw [Hp.out];rintro e w' ⟨rfl,rfl⟩)
    go_roundg (xs.length - (k + 1))
    case measure => omega
    case rel => exact ⟨rfl,k + 1,by omega,rfl,by go_num,by rw [Hts.out,Hno.out,Hp.out];rfl⟩
   ·
    have Hp:=hid hp;clear hp
    go_wp2_with (refine (Hg.out _ (List.getElem_mem hlt)).mono ?_;rw [Hp.out];rintro e w' ⟨rfl,rfl⟩)
    go_ret
    refine ⟨⟨k,?_,rfl⟩,rfl⟩
    have h2 : xs.any p = true:=List.any_eq_true.2 ⟨_,List.getElem_mem hlt,Hp.out⟩
    simp [h2]
  ·
   go_wp2_with fail
   go_ret
   refine ⟨⟨-1,?_,rfl⟩,rfl⟩
   have:=Hno.out
   rw [List.take_of_length_le (by omega)] at this
   simp [this]
set_option maxHeartbeats 400000 in
theorem zd7 (g : Nat) (l0 : Value) (p : Int → Bool) (v : Value) (xs : List Int) (w : World) (hv : zD w v xs)
 (hcf : ∀ args w,(callFunc g args).run Tryz.prog w = .ok (.enter g args) w)
 (hg : ∀ x,x ∈ xs → Calls Tryz.prog g #[.int .i64 x,l0] w fun e w' => e = .returned (.bool (p x)) ∧ w = w') :
 Calls Tryz.prog 116 #[v,.func (.func g) #[] #[l0]] w fun e w' => e = .returned (.bool (xs.any p)) ∧ w = w':=by
 have Hi:=hid (zgl g l0 p v xs w hv hcf hg)
 clear hg hv hcf
 generalize hr : xs.any p = r
 have Hr:=hid hr;clear hr
 go_enter Tryz.func116,Tryz.ntmps116
 go_wp2_with (go_at_call 166;refine Hi.out.mono ?_;rintro e w' ⟨⟨n,hn,rfl⟩,rfl⟩;have Hn:=hid hn;clear hn)
 go_ret
 refine ⟨?_,rfl⟩
 have h1:=Hn.out
 rw [Hr.out] at h1
 show Ending.returned (.bool (decide (0 ≤ n))) = _
 cases r <;> simp at h1 <;> simp [h1]
def Within (m : Int) (ls : List (List Int)) : Prop:=∀ c ∈ ls,∀ x ∈ c,-m ≤ x ∧ x ≤ m
