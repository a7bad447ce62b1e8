import Derived.Test.YtmlfelbkgoplhaaGreatDoorZfPkZ
set_option linter.unusedVariables false
set_option linter.unusedSimpArgs false
namespace Go.Proofs.YtmlfelbkgoplhaaGreatDoor
open Go.RowKit
def zeY : Nat → Cells → Int → Bool → Int → Bool
 | 0,_,_,_,_ => false
 | f + 1,c,v,is,h => match getM c h with
  | none => h == 1
  | some n => ((decide (n.1 ≠ v) || is) && zeY f c v is n.2.2) || ((decide (n.1 ≠ v) || !is) && zeY f c v is n.2.1)
def jc (c : Cells) (v : Int) (is : Bool) (h : Int) : Bool:=zeY 25 c v is h
theorem zdT {f : Nat} {c : Cells} {v : Int} {is : Bool} {h : Int} (e : getM c h = none) : zeY (f + 1) c v is h = (h == 1):=by simp only [zeY,e]
theorem zef {f : Nat} {c : Cells} {v : Int} {is : Bool} {h : Int} {n : Nd} (e : getM c h = some n) : zeY (f + 1) c v is h = (((decide (n.1 ≠ v) || is) && zeY f c v is n.2.2) || ((decide (n.1 ≠ v) || !is) && zeY f c v is n.2.1)):=by simp only [zeY,e]
theorem zcg {c : Cells} (o : Ok c) (v : Int) (is : Bool) : ∀ (f g : Nat) (h : Int),(24 - zl c h).toNat < f → f ≤ g → zeY f c v is h = zeY g c v is h
 | 0,_,_,h1,_ => absurd h1 (Nat.not_lt_zero _)
 | f + 1,0,_,_,h2 => absurd h2 (by omega)
 | f + 1,g + 1,h,h1,h2 => by
  cases e : getM c h with
  | none => rw [zdT e,zdT e]
  | some n =>
   obtain ⟨k1,k2,_,_,k3,k4⟩:=o.kids e
   rw [yt e] at h1
   rw [zef e,zef e,zcg o v is f g n.2.1 (by omega) (by omega),zcg o v is f g n.2.2 (by omega) (by omega)]
theorem zis {c : Cells} {v : Int} {is : Bool} {h : Int} (e : getM c h = none) : jc c v is h = (h == 1):=zdT (f:=24) e
theorem zg4 {c : Cells} (o : Ok c) {v : Int} {is : Bool} {h : Int} {n : Nd} (e : getM c h = some n) : jc c v is h = (((decide (n.1 ≠ v) || is) && jc c v is n.2.2) || ((decide (n.1 ≠ v) || !is) && jc c v is n.2.1)):=by
 obtain ⟨k1,k2,_,_,k3,k4⟩:=o.kids e
 show zeY (24 + 1) c v is h = _
 rw [zef e,zcg o v is 24 25 n.2.1 (by omega) (by omega),zcg o v is 24 25 n.2.2 (by omega) (by omega)]
 rfl
theorem zit {c : Cells} (o : Ok c) (v : Int) (is : Bool) : ∀ h,jc c v is h = true ↔ ∃ val,val v = is ∧ den c h val = true:=by
 refine zdh o (fun h g => ?_) (fun h n g ih1 ih2 => ?_)
 ·
  rw [zis g]
  constructor
  ·
   intro e
   exact ⟨fun _ => is,rfl,by rw [xD g];exact e⟩
  ·
   rintro ⟨val,_,e⟩
   rw [xD g] at e
   exact e
 ·
  rw [zg4 o g,Bool.or_eq_true,Bool.and_eq_true,Bool.and_eq_true,ih1,ih2]
  constructor
  ·
   rintro (⟨h1,val,h2,h3⟩ | ⟨h1,val,h2,h3⟩)
   ·
    refine ⟨yS val n.1 true,?_,by rw [zaW o g];exact h3⟩
    unfold yS
    by_cases e : v = n.1
    ·
     rw [if_pos e]
     rw [decide_eq_false (fun q => q e.symm),Bool.false_or] at h1
     exact h1.symm
    · rw [if_neg e];exact h2
   ·
    refine ⟨yS val n.1 false,?_,by rw [zcd o g];exact h3⟩
    unfold yS
    by_cases e : v = n.1
    ·
     rw [if_pos e]
     rw [decide_eq_false (fun q => q e.symm),Bool.false_or] at h1
     cases is with
     | false => rfl
     | true => cases h1
    · rw [if_neg e];exact h2
  ·
   rintro ⟨val,h1,h2⟩
   rw [xY o g] at h2
   cases e : val n.1 with
   | true =>
    rw [e] at h2
    refine .inl ⟨?_,val,h1,by simpa using h2⟩
    by_cases q : n.1 = v
    · rw [q] at e;rw [← h1,e];simp
    · rw [decide_eq_true q];rfl
   | false =>
    rw [e] at h2
    refine .inr ⟨?_,val,h1,by simpa using h2⟩
    by_cases q : n.1 = v
    · rw [q] at e;rw [← h1,e];simp
    · rw [decide_eq_true q];rfl
theorem zpM {V : Nat} {l : List (List Int)} (hz : ∀ c ∈ l,∀ x ∈ c,x ≠ 0 ∧ -(V : Int) ≤ x ∧ x ≤ V) {v : Nat} (hv : v < V) (is : Bool) : (∃ val : Int → Bool,val v = is ∧ ze0 l val = true) ↔ zcz (l ++ [[if is then (v : Int) + 1 else -(v : Int) - 1]]):=by
 have hB : ∀ k,ze0 l (ziu k) = j6 k l:=fun k => zri fun c hc x hx => (hz c hc x hx).1
 have hl : ∀ k : Nat,j6 k [[if is then (v : Int) + 1 else -(v : Int) - 1]] = (k.testBit v == is):=fun k => by
  cases is with
  | true =>
   have e1 : (0 : Int) < (v : Int) + 1:=by omega
   have e3 : ((v : Int) + 1).toNat - 1 = v:=by omega
   show (([((v : Int) + 1)].any (ku k)) && true) = _
   rw [List.any_cons,List.any_nil,Bool.or_false,Bool.and_true,ku,if_pos e1,e3]
   cases k.testBit v <;> rfl
  | false =>
   have e1 : ¬ (0 : Int) < -(v : Int) - 1:=by omega
   have e2 : (-(v : Int) - 1) < 0:=by omega
   have e3 : (-(-(v : Int) - 1)).toNat - 1 = v:=by omega
   show (([(-(v : Int) - 1)].any (ku k)) && true) = _
   rw [List.any_cons,List.any_nil,Bool.or_false,Bool.and_true,ku,if_neg e1,decide_eq_true e2,Bool.true_and,e3]
   cases k.testBit v <;> rfl
 constructor
 ·
  rintro ⟨val,h1,h2⟩
  obtain ⟨k,_,hk⟩:=zk7 (fun j => val (j : Int)) V
  refine ⟨k,?_⟩
  unfold j6
  rw [List.all_append,Bool.and_eq_true]
  refine ⟨?_,?_⟩
  ·
   show j6 k l = true
   rw [← hB,← h2]
   refine znA hz (fun u h0 h1 => ?_)
   unfold ziu
   rw [decide_eq_true h0,Bool.true_and,hk u.toNat (by omega),show ((u.toNat : Nat) : Int) = u by omega]
  ·
   show j6 k _ = true
   rw [hl,hk v hv,h1];simp
 ·
  rintro ⟨k,hk⟩
  unfold j6 at hk
  rw [List.all_append,Bool.and_eq_true] at hk
  have h1 : j6 k l = true:=hk.1
  have h2 : j6 k [[if is then (v : Int) + 1 else -(v : Int) - 1]] = true:=hk.2
  rw [hl] at h2
  exact ⟨ziu k,by unfold ziu;rw [Int.toNat_natCast,decide_eq_true (show (0 : Int) ≤ (v : Int) by omega),Bool.true_and];simpa using h2,by rw [hB];exact h1⟩
