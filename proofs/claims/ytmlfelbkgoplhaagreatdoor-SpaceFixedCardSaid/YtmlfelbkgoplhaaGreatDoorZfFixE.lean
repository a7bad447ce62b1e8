import Derived.Test.YtmlfelbkgoplhaaGreatDoorZfFixW
set_option linter.unusedVariables false
set_option linter.unusedSimpArgs false
namespace Go.Proofs.YtmlfelbkgoplhaaGreatDoor
open Go.RowKit
def anyI (l : List Int) (k : Nat) (p : Int) : Bool:=(l.take k).any fun x => x == p
theorem zgO (l : List Int) (p : Int) : anyI l 0 p = false:=by simp [anyI]
theorem zhh (l : List Int) {k : Nat} (hk : k < l.length) (p : Int) : anyI l (k + 1) p = (anyI l k p || l.getD k 0 == p):=by
 unfold anyI
 rw [List.take_succ_eq_append_getElem hk,List.any_append]
 simp [hk]
theorem ziV (c : Cells) (is : Bool) (all : Int) (V : Nat) (p n : Nat) (hn : n = (jg c is all V).length) : anyI ((jg c is all V).map fun k : Nat => (k : Int)) n p = decide (p ∈ jg c is all V):=by
 subst hn
 unfold anyI
 rw [List.take_of_length_le (by rw [List.length_map];exact znr _),List.any_map,Bool.eq_iff_iff,List.any_eq_true,decide_eq_true_iff]
 constructor
 ·
  rintro ⟨x,hx,e⟩
  have e2 : ((x : Int) == (p : Int)) = true:=e
  rw [beq_iff_eq] at e2
  obtain rfl : x = p:=by omega
  exact hx
 ·
  intro h
  exact ⟨p,h,by show ((p : Int) == (p : Int)) = true;exact beq_self_eq_true _⟩
theorem zpD {V R : Nat} {l : List (List Int)} {st : Sp} {all : Int} (h : zej V R l st all) (hz : ∀ c ∈ l,∀ x ∈ c,x ≠ 0 ∧ -(V : Int) ≤ x ∧ x ≤ V) {v : Nat} (hv : v < V) (is : Bool) {b : Bool} (hb : b = true ↔ zcz (l ++ [[if is then (v : Int) + 1 else -(v : Int) - 1]])) : decide (v ∈ jg st.c is all V) = !b:=by
 have h1:=zob h hz hv is
 have h2 : v ∈ jg st.c is all V ↔ jc st.c v is all = false:=by
  rw [zin]
  exact ⟨fun q => q.2,fun q => ⟨hv,q⟩⟩
 cases b with
 | true => rw [Bool.not_true,decide_eq_false_iff_not,h2,h1.2 (hb.1 rfl)];simp
 | false =>
  rw [Bool.not_false,decide_eq_true_iff,h2,← Bool.not_eq_true,h1]
  exact fun q => by cases hb.2 q
theorem zpt {V R : Nat} {l : List (List Int)} {st : Sp} {all : Int} (h : zej V R l st all) {v : Nat} (is : Bool) {val : Int → Bool} (hd : den st.c all val = true) (e : val v = is) : decide (v ∈ jg st.c is all V) = false:=by
 rw [decide_eq_false_iff_not,zin]
 rintro ⟨_,q⟩
 rw [(zit h.sok.ok v is all).2 ⟨val,e,hd⟩] at q
 cases q
theorem zmW {n : Nat} {v : Nat} (hv : v < 64) : (bits .and .u64 ((n : Int) / 2 ^ v) 1 == 1) = jF (n : Int) (v : Int):=by
 unfold jF
 rw [Int.toNat_natCast,Nat.min_eq_left (by omega)]
theorem fix_eq {V R : Nat} {l : List (List Int)} {st : Sp} {all : Int} (h : zej V R l st all) (hz : ∀ c ∈ l,∀ x ∈ c,x ≠ 0 ∧ -(V : Int) ≤ x ∧ x ≤ V) {v m n : Nat} (hv : v < V) (is : Bool) (hm : l.length ≤ m) {b : Bool} (hn : n = (jg st.c is all V).length) (hb : b = true ↔ zcz (l.take m ++ [[if is then (v : Int) + 1 else -(v : Int) - 1]])) : anyI ((jg st.c is all V).map fun k : Nat => (k : Int)) n v = !b:=by
 rw [ziV _ _ _ _ _ _ hn]
 rw [List.take_of_length_le hm] at hb
 exact zpD h hz hv is hb
theorem zij {V R : Nat} {l : List (List Int)} {st : Sp} {all : Int} (h : zej V R l st all) {v n k : Nat} {val : Int → Bool} (is : Bool) (hn : k = (jg st.c is all V).length) (hd : den st.c all val = true) (e : val v = is) : anyI ((jg st.c is all V).map fun k : Nat => (k : Int)) k v = false:=by
 rw [ziV _ _ _ _ _ _ hn]
 exact zpt h is hd e
theorem znX {n : Nat} (hn : n < 18446744073709551616) (v : Nat) : (bits .and .u64 ((n : Int) / 2 ^ v) 1 == 0) = !(bits .and .u64 ((n : Int) / 2 ^ v) 1 == 1):=by
 have e2 : (n : Int) / 2 ^ v = ((n / 2 ^ v : Nat) : Int):=by simp
 rw [e2,show (1 : Int) = ((1 : Nat) : Int) by rfl,bits_and_u64_nat _ _ (Nat.lt_of_le_of_lt (Nat.div_le_self _ _) hn) (by decide),Nat.and_one_is_mod]
 rcases Nat.mod_two_eq_zero_or_one (n / 2 ^ v) with h | h <;> rw [h] <;> rfl
