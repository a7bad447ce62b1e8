import Derived.Test.YtmlfelbkgoplhaaGreatDoorZrPkU
import Derived.Test.YtmlfelbkgoplhaaGreatDoorZrPkYD
set_option linter.unusedVariables false
set_option linter.unusedSimpArgs false
namespace Go.Proofs.YtmlfelbkgoplhaaGreatDoor
open Go.RowKit
def zcG (a b : Nat) : Prop:=∀ j,a.testBit j = true → b.testBit j = true
theorem zcG.trans {a b c : Nat} (h : zcG a b) (h2 : zcG b c) : zcG a c:=fun j hj => h2 j (h j hj)
theorem zcG.refl (a : Nat) : zcG a a:=fun _ h => h
def qz (n s : Nat) : Nat:=(2 ^ n - 1) ^^^ s
theorem jr (n s j : Nat) : (qz n s).testBit j = (decide (j < n) != s.testBit j):=by
 unfold qz
 rw [Nat.testBit_xor,Nat.testBit_two_pow_sub_one]
theorem kF {n s j : Nat} (hs : s < 2 ^ n) (h : s.testBit j = true) : j < n:=by
 rcases Nat.lt_or_ge j n with q | q
 · exact q
 · rw [Nat.testBit_lt_two_pow (Nat.lt_of_lt_of_le hs (Nat.pow_le_pow_right (by decide) q))] at h;cases h
theorem zaD {n s : Nat} (hs : s < 2 ^ n) : qz n s < 2 ^ n:=Nat.lt_pow_two_of_testBit _ (fun j hj => by
 rw [jr,decide_eq_false (by omega),Nat.testBit_lt_two_pow (Nat.lt_of_lt_of_le hs (Nat.pow_le_pow_right (by decide) hj))]
 rfl)
theorem zg5 {n s : Nat} : qz n (qz n s) = s:=by
 unfold qz
 rw [← Nat.xor_assoc,Nat.xor_self,Nat.zero_xor]
def kY (s k : Nat) : Nat:=s ^^^ 2 ^ k
theorem zbu {s k : Nat} (h : s.testBit k = true) (j : Nat) : (kY s k).testBit j = (s.testBit j && decide (j ≠ k)):=by
 unfold kY
 rw [Nat.testBit_xor,Nat.testBit_two_pow]
 by_cases e : k = j
 · subst e;rw [h];simp
 · rw [decide_eq_false e,decide_eq_true (show j ≠ k from fun q => e q.symm)];simp
theorem zj8 {s k : Nat} (h : s.testBit k = true) : zcG (kY s k) s:=fun j hj => by
 rw [zbu h] at hj
 simp only [Bool.and_eq_true] at hj
 exact hj.1
theorem sub_le {a b : Nat} (h : zcG a b) : a ≤ b:=by
 have : a &&& b = a:=Nat.eq_of_testBit_eq fun j => by
  rw [Nat.testBit_and]
  cases e : a.testBit j with
  | true => rw [h j e];rfl
  | false => rfl
 rw [← this]
 exact Nat.and_le_right
theorem sub_eq {a b : Nat} (h : zcG a b) (h2 : zcG b a) : a = b:=Nat.le_antisymm (sub_le h) (sub_le h2)
theorem zfJ {s k : Nat} (h : s.testBit k = true) : kY s k < s:=by
 have h1:=sub_le (zj8 h)
 rcases Nat.lt_or_eq_of_le h1 with q | q
 · exact q
 ·
  have h2:=zbu h k
  rw [q,h] at h2
  simp at h2
theorem zn7 {n s k : Nat} (hk : k < n) (h : s.testBit k = true) : qz n (kY s k) = qz n s ||| 2 ^ k:=Nat.eq_of_testBit_eq fun j => by
 rw [jr,zbu h,Nat.testBit_or,jr,Nat.testBit_two_pow]
 by_cases e : k = j
 · subst e;rw [h];simp [hk]
 · rw [decide_eq_false e,decide_eq_true (show j ≠ k from fun q => e q.symm)];simp
def zgE (n : Nat) (bad : Nat → Bool) (s : Nat) : Bool:=bad s && (List.range n).all fun k => !s.testBit k || !bad (kY s k)
def qP (n : Nat) (bad : Nat → Bool) : List Nat:=(List.range (2 ^ n)).filter (zgE n bad)
def jl (P : Nat → Prop) (s : Nat) : Prop:=P s ∧ ∀ t,P t → zcG t s → t = s
def zfA (n : Nat) (l : List Nat) (s : Nat) : Prop:=s < 2 ^ n ∧ ∀ x ∈ l,∃ j,s.testBit j = true ∧ x.testBit j = true
def UpN (n : Nat) (bad : Nat → Bool) : Prop:=∀ a b,b < 2 ^ n → zcG a b → bad a = true → bad b = true
theorem zdT {n : Nat} {bad : Nat → Bool} {s : Nat} : zgE n bad s = true ↔ bad s = true ∧ ∀ k,k < n → s.testBit k = true → bad (kY s k) = false:=by
 unfold zgE
 rw [Bool.and_eq_true,List.all_eq_true]
 constructor
 ·
  rintro ⟨h1,h2⟩
  refine ⟨h1,fun k hk hs => ?_⟩
  have:=h2 k (List.mem_range.2 hk)
  rw [hs] at this
  simpa using this
 ·
  rintro ⟨h1,h2⟩
  refine ⟨h1,fun k hk => ?_⟩
  cases e : s.testBit k with
  | false => rfl
  | true => rw [h2 k (List.mem_range.1 hk) e];rfl
theorem zcD {n : Nat} {bad : Nat → Bool} {s : Nat} : s ∈ qP n bad ↔ s < 2 ^ n ∧ zgE n bad s = true:=by
 unfold qP
 rw [List.mem_filter,List.mem_range]
theorem zdI {n : Nat} {bad : Nat → Bool} : ∀ t,t < 2 ^ n → bad t = true → ∃ c ∈ qP n bad,zcG c t:=by
 intro t
 induction t using Nat.strongRecOn with
 | _ t ih =>
  intro ht hb
  cases e : zgE n bad t with
  | true => exact ⟨t,zcD.2 ⟨ht,e⟩,zcG.refl t⟩
  | false =>
   have : ∃ k,k < n ∧ t.testBit k = true ∧ bad (kY t k) = true:=by
    refine Decidable.byContradiction fun q => ?_
    have h1 : zgE n bad t = true:=zdT.2 ⟨hb,fun k hk hs => by
     cases e2 : bad (kY t k) with
     | false => rfl
     | true => exact absurd ⟨k,hk,hs,e2⟩ q⟩
    rw [e] at h1;cases h1
   obtain ⟨k,hk,hs,hbk⟩:=this
   have hlt:=zfJ hs
   obtain ⟨c,hc,hcs⟩:=ih _ hlt (by omega) hbk
   exact ⟨c,hc,hcs.trans (zj8 hs)⟩
theorem znd {n : Nat} {bad : Nat → Bool} (hu : UpN n bad) {s : Nat} : s ∈ qP n bad ↔ jl (fun t => t < 2 ^ n ∧ bad t = true) s:=by
 constructor
 ·
  intro h
  obtain ⟨hs,hm⟩:=zcD.1 h
  obtain ⟨hb,hd⟩:=zdT.1 hm
  refine ⟨⟨hs,hb⟩,fun t ht hts => sub_eq hts fun k hk => ?_⟩
  have hkn:=kF hs hk
  cases e : t.testBit k with
  | true => rfl
  | false =>
   have h1 : bad (kY s k) = true:=hu t _ (Nat.lt_trans (zfJ hk) hs) (fun j hj => by
    rw [zbu hk,hts j hj,Bool.true_and,decide_eq_true_iff]
    intro q;subst q;rw [e] at hj;cases hj) ht.2
   rw [hd k hkn hk] at h1;cases h1
 ·
  rintro ⟨⟨hs,hb⟩,hl⟩
  obtain ⟨c,hc,hcs⟩:=zdI s hs hb
  obtain ⟨h1,h2⟩:=zcD.1 hc
  rw [hl c ⟨h1,(zdT.1 h2).1⟩ hcs] at hc
  exact hc
def xX (n : Nat) (bad : Nat → Bool) (s : Nat) : Bool:=!bad (qz n s)
theorem flip_flip {n : Nat} {bad : Nat → Bool} (s : Nat) : xX n (xX n bad) s = bad s:=by
 unfold xX
 rw [zg5,Bool.not_not]
theorem zqm {n a b : Nat} (hb : b < 2 ^ n) (h : zcG a b) : zcG (qz n b) (qz n a):=fun j hj => by
 rw [jr] at hj ⊢
 cases e : decide (j < n) with
 | true =>
  rw [e] at hj
  cases e2 : a.testBit j with
  | false => rfl
  | true => rw [h j e2] at hj;cases hj
 | false =>
  rw [e] at hj
  cases e3 : b.testBit j with
  | false => rw [e3] at hj;cases hj
  | true => exact absurd (kF hb e3) (of_decide_eq_false e)
theorem UpN.flip {n : Nat} {bad : Nat → Bool} (hu : UpN n bad) : UpN n (xX n bad):=fun a b hb hab ha => by
 unfold xX at ha ⊢
 cases e : bad (qz n b) with
 | false => rfl
 | true =>
  have ha2 : a < 2 ^ n:=Nat.lt_of_le_of_lt (sub_le hab) hb
  rw [hu _ _ (zaD ha2) (zqm hb hab) e] at ha
  cases ha
theorem zqa {n : Nat} {bad : Nat → Bool} (hu : UpN n bad) {s : Nat} : zfA n (qP n bad) s ↔ s < 2 ^ n ∧ xX n bad s = true:=by
 constructor
 ·
  rintro ⟨hs,hh⟩
  refine ⟨hs,?_⟩
  unfold xX
  cases e : bad (qz n s) with
  | false => rfl
  | true =>
   obtain ⟨c,hc,hcs⟩:=zdI _ (zaD hs) e
   obtain ⟨j,h1,h2⟩:=hh c hc
   have h3:=hcs j h2
   rw [jr,h1,decide_eq_true (kF hs h1)] at h3
   cases h3
 ·
  rintro ⟨hs,hf⟩
  refine ⟨hs,fun x hx => ?_⟩
  obtain ⟨hx1,hx2⟩:=zcD.1 hx
  refine Classical.byContradiction fun q => ?_
  have h1 : zcG x (qz n s):=fun j hj => by
   rw [jr,decide_eq_true (kF hx1 hj)]
   cases e : s.testBit j with
   | false => rfl
   | true => exact absurd ⟨j,e,hj⟩ q
  unfold xX at hf
  rw [hu x _ (zaD hs) h1 (zdT.1 hx2).1] at hf
  cases hf
theorem jl.congr {P Q : Nat → Prop} (h : ∀ s,P s ↔ Q s) {s : Nat} : jl P s ↔ jl Q s:=by
 unfold jl
 rw [h]
 exact and_congr_right fun _ => forall_congr' fun t => by rw [h]
theorem zf7 {n : Nat} {bad : Nat → Bool} (hu : UpN n bad) (s : Nat) : s ∈ qP n (xX n bad) ↔ jl (zfA n (qP n bad)) s:=by
 rw [znd hu.flip]
 exact jl.congr fun t => (zqa hu).symm
theorem zlP {n : Nat} {a b : Nat → Bool} (h : ∀ s,a s = b s) : qP n a = qP n b:=by rw [show a = b from funext h]
theorem zjD {n : Nat} {bad : Nat → Bool} (hu : UpN n bad) (s : Nat) : s ∈ qP n bad ↔ jl (zfA n (qP n (xX n bad))) s:=by
 have h:=zf7 hu.flip s
 rw [zlP (flip_flip (n:=n) (bad:=bad))] at h
 exact h
theorem zil (n : Nat) (bad : Nat → Bool) : (qP n bad).Pairwise (· < ·):=List.pairwise_lt_range.filter _
theorem zi2 : ∀ {a b : List Nat},a.Pairwise (· < ·) → b.Pairwise (· < ·) → (∀ x,x ∈ a ↔ x ∈ b) → a = b
 | [],[],_,_,_ => rfl
 | [],y :: b,_,_,h => by have:=(h y).2 (by simp);cases this
 | x :: a,[],_,_,h => by have:=(h x).1 (by simp);cases this
 | x :: a,y :: b,ha,hb,h => by
  rw [List.pairwise_cons] at ha hb
  have e : x = y:=by
   rcases List.mem_cons.1 ((h x).1 (by simp)) with q | q
   · exact q
   ·
    rcases List.mem_cons.1 ((h y).2 (by simp)) with q2 | q2
    · exact q2.symm
    · have:=hb.1 x q;have:=ha.1 y q2;omega
  subst e
  congr 1
  refine zi2 ha.2 hb.2 fun z => ?_
  have hz:=h z
  rw [List.mem_cons,List.mem_cons] at hz
  constructor
  ·
   intro q
   rcases hz.1 (.inr q) with q2 | q2
   · have:=ha.1 z q;omega
   · exact q2
  ·
   intro q
   rcases hz.2 (.inr q) with q2 | q2
   · have:=hb.1 z q;omega
   · exact q2
theorem znl {n : Nat} {bad : Nat → Bool} {t : Nat} (ht : t < 2 ^ n) (hb : bad t = true) : 0 < (qP n bad).length:=by
 obtain ⟨c,hc,_⟩:=zdI t ht hb
 exact List.length_pos_of_mem hc
def zoH (l : List Nat) : Fam:=fun s => ∃ x ∈ l,s = smN x
theorem zjG {V : Nat} (hV : V ≤ 24) {l : List Nat} (hl : ∀ x ∈ l,x < 2 ^ V) : Small (zoH l):=fun s hs u hu => by
 obtain ⟨x,hx,rfl⟩:=hs
 by_cases h : 0 ≤ u
 ·
  rw [show u = ((u.toNat : Nat) : Int) by omega,qM] at hu
  have:=kF (hl x hx) hu
  omega
 · rw [zbI _ h] at hu;cases hu
theorem znm {l : List Nat} (y : Nat) : y ∈ l ↔ zoH l (smN y):=by
 constructor
 · intro h;exact ⟨y,h,rfl⟩
 ·
  rintro ⟨x,hx,e⟩
  rw [zmo e];exact hx
theorem zcR {V : Nat} {l : List Nat} (y : Nat) : zgl V l (smN y) ↔ zfA V l y:=by
 unfold zgl zfA
 constructor
 ·
  rintro ⟨h1,h2⟩
  refine ⟨Nat.lt_pow_two_of_testBit _ (fun j hj => ?_),fun x hx => ?_⟩
  ·
   cases e : y.testBit j with
   | false => rfl
   | true =>
    have:=h1 (j : Int) (by rw [qM];exact e)
    omega
  ·
   obtain ⟨u,h3,h4⟩:=h2 x hx
   by_cases h : 0 ≤ u
   ·
    rw [show u = ((u.toNat : Nat) : Int) by omega,qM] at h3 h4
    exact ⟨u.toNat,h3,h4⟩
   · rw [zbI _ h] at h3;cases h3
 ·
  rintro ⟨h1,h2⟩
  refine ⟨fun u hu => ?_,fun z hz => ?_⟩
  ·
   by_cases h : 0 ≤ u
   ·
    rw [show u = ((u.toNat : Nat) : Int) by omega,qM] at hu
    have:=kF h1 hu
    omega
   · rw [zbI _ h] at hu;cases hu
  ·
   obtain ⟨j,h3,h4⟩:=h2 z hz
   exact ⟨(j : Int),by rw [qM];exact h3,by rw [qM];exact h4⟩
theorem zlj {V : Nat} (hV : V ≤ 24) {l : List Nat} (y : Nat) : xL (zgl V l) (smN y) ↔ jl (zfA V l) y:=by
 constructor
 ·
  rintro ⟨h1,h2⟩
  exact ⟨(zcR y).1 h1,fun t ht hs => zmo (h2 _ ((zcR t).2 ht) (zl4.2 hs))⟩
 ·
  rintro ⟨h1,h2⟩
  refine ⟨(zcR y).2 h1,fun s hs hsub => ?_⟩
  have e:=zqu (s:=s) (fun u hu => by have:=hs.1 u hu;omega)
  rw [← e] at hs hsub ⊢
  rw [h2 _ ((zcR _).1 hs) (zl4.1 hsub)]
theorem zjF {V : Nat} (hV : V ≤ 24) {l : List Nat} (hl : ∀ x ∈ l,x < 2 ^ V) {F : Fam} (hF : ∀ s,F s ↔ zoH l s) (y : Nat) : xL (zqv V F) (smN y) ↔ jl (zfA V l) y:=by
 rw [jy (zlm hF),← zlj hV y]
 exact (jy (zmH (zjG hV hl) znm) _).symm
def zb4 (says : List Nat) (s i : Nat) : Bool:=(List.range says.length).any fun k => decide (says[k]? = some i) && s.testBit k
theorem zcO {says : List Nat} {s i : Nat} : zb4 says s i = true ↔ ∃ k,∃ h : k < says.length,says[k] = i ∧ s.testBit k = true:=by
 unfold zb4
 rw [List.any_eq_true]
 constructor
 ·
  rintro ⟨k,hk,h⟩
  simp only [Bool.and_eq_true,decide_eq_true_eq] at h
  have hk2:=List.mem_range.1 hk
  refine ⟨k,hk2,?_,h.2⟩
  have:=h.1
  rw [List.getElem?_eq_getElem hk2] at this
  exact Option.some.inj this
 ·
  rintro ⟨k,hk,rfl,h⟩
  refine ⟨k,List.mem_range.2 hk,?_⟩
  rw [h,List.getElem?_eq_getElem hk]
  simp
noncomputable def ziF (rc : List (Int × List Int)) (says : List Nat) (s : Nat) : Bool:=@decide (¬ zaK rc (zb4 says s)) (Classical.propDecidable _)
theorem ze6 {rc : List (Int × List Int)} {says : List Nat} {s : Nat} : ziF rc says s = true ↔ ¬ zaK rc (zb4 says s):=by
 unfold ziF
 exact @decide_eq_true_iff _ (Classical.propDecidable _)
theorem zgJ {rc : List (Int × List Int)} {says : List Nat} {s : Nat} : ziF rc says s = false ↔ zaK rc (zb4 says s):=by
 rw [← Bool.not_eq_true,ze6,Classical.not_not]
theorem zqQ {rc : List (Int × List Int)} {says : List Nat} {s : Nat} {b : Bool} (h : b = true ↔ zaK rc (zb4 says s)) : ziF rc says s = !b:=by
 cases b with
 | true => exact zgJ.2 (h.1 rfl)
 | false => exact ze6.2 (fun q => Bool.false_ne_true (h.2 q))
theorem zmb {rc : List (Int × List Int)} (hf : ∀ p ∈ rc,-1 ≤ p.1 ∧ p.1 < 100) (says : List Nat) (n : Nat) : UpN n (ziF rc says):=fun a b hb hab ha => by
 rw [ze6] at ha ⊢
 intro q
 refine ha (q.less hf fun i _ hi => ?_)
 obtain ⟨k,hk,h1,h2⟩:=zcO.1 hi
 exact zcO.2 ⟨k,hk,h1,hab k h2⟩
theorem zpd {ls : List zi} {items : List zA} {S : Nat → Bool} (hl : ls.length ≤ 100) (h : ∀ i,S i = false) : zaK (zH ls items) S:=by
 refine ⟨0,jf.2 fun c hc => ?_⟩
 obtain ⟨p,hp,hw,rfl⟩:=zci.1 hc
 have hb:=kS hp
 rw [zbZ (by omega) (by omega),h,Bool.or_false,decide_eq_true_iff] at hw
 rcases List.mem_append.1 hp with q | q
 ·
  unfold jN at q
  obtain ⟨k,_,q⟩:=List.mem_flatMap.1 q
  unfold zaO at q
  obtain ⟨i,_,rfl⟩:=List.mem_map.1 q
  unfold clB
  rw [List.any_cons]
  have : zaH 0 (-(i : Int) - 1) = true:=by
   unfold zaH
   rw [if_neg (by omega),decide_eq_true (by omega)]
   simp
  rw [this];rfl
 ·
  obtain ⟨k,hk,q⟩:=zak.1 q
  have:=zdO q
  omega
theorem zn2 {ls : List zi} {items : List zA} (hl : ls.length ≤ 100) (says : List Nat) : ziF (zH ls items) says 0 = false:=by
 rw [zgJ]
 refine zpd hl fun i => ?_
 cases e : zb4 says 0 i with
 | false => rfl
 | true =>
  obtain ⟨k,_,_,h⟩:=zcO.1 e
  simp at h
noncomputable def zbL (rc : List (Int × List Int)) (says : List Nat) : List Nat:=qP says.length (ziF rc says)
noncomputable def za6 (rc : List (Int × List Int)) (says : List Nat) : List Nat:=qP says.length (xX says.length (ziF rc says))
theorem zkR {ls : List zi} {items : List zA} (hl : ls.length ≤ 100) (says : List Nat) : 0 < (za6 (zH ls items) says).length:=by
 refine znl (t:=qz says.length 0) (zaD (Nat.two_pow_pos _)) ?_
 unfold xX
 rw [zg5,zn2 hl]
 rfl
theorem zjO (n : Nat) (bad : Nat → Bool) : (qP n bad).length ≤ 2 ^ n:=by
 unfold qP
 have:=List.length_filter_le (zgE n bad) (List.range (2 ^ n))
 rw [List.length_range] at this
 exact this
theorem zme {n : Nat} {bad : Nat → Bool} : ∀ x ∈ qP n bad,x < 2 ^ n:=fun x hx => (zcD.1 hx).1
theorem zlS {rc : List (Int × List Int)} (hf : ∀ p ∈ rc,-1 ≤ p.1 ∧ p.1 < 100) {says : List Nat} {ys : List Nat} (hi : ys.Pairwise (· < ·)) (h : ∀ y,y ∈ ys ↔ jl (zfA says.length (zbL rc says)) y) : ys = za6 rc says :=
 zi2 hi (zil _ _) fun x => (h x).trans (zf7 (zmb hf says _) x).symm
theorem zla {rc : List (Int × List Int)} (hf : ∀ p ∈ rc,-1 ≤ p.1 ∧ p.1 < 100) {says : List Nat} {ys : List Nat} (hi : ys.Pairwise (· < ·)) (h : ∀ y,y ∈ ys ↔ jl (zfA says.length (za6 rc says)) y) : ys = zbL rc says :=
 zi2 hi (zil _ _) fun x => (h x).trans (zjD (zmb hf says _) x).symm
theorem zpC {x : Nat} (hx : x < 18446744073709551616) (k : Nat) : (bits .and .u64 ((x : Int) / 2 ^ k) 1 == 1) = x.testBit k:=by
 have e2 : (x : Int) / 2 ^ k = ((x / 2 ^ k : Nat) : Int):=by simp
 rw [e2,show (1 : Int) = ((1 : Nat) : Int) by rfl,bits_and_u64_nat _ _ (Nat.lt_of_le_of_lt (Nat.div_le_self _ _) hx) (by decide)]
 have h3 : x / 2 ^ k &&& 1 = (x / 2 ^ k) % 2:=Nat.and_one_is_mod _
 have h5 : x.testBit k = decide (x / 2 ^ k % 2 = 1):=Nat.testBit_eq_decide_div_mod_eq
 rw [h3,h5]
 rcases Nat.mod_two_eq_zero_or_one (x / 2 ^ k) with h4 | h4 <;> rw [h4] <;> rfl
theorem zmX {out : List Nat} (hn : out.Nodup) {f : Nat → Bool} {k : Nat} (hk : k < out.length) {S : Nat → Bool} (h : ∀ j,S j = true ↔ ∃ t,∃ h : t < out.length,t < k ∧ out[t] = j ∧ f t = true) :
 ∀ j,(if j = out[k] then f k else S j) = true ↔ ∃ t,∃ h : t < out.length,t < k + 1 ∧ out[t] = j ∧ f t = true:=fun j => by
 by_cases e : j = out[k]
 ·
  rw [if_pos e]
  constructor
  · intro q;exact ⟨k,hk,by omega,e.symm,q⟩
  ·
   rintro ⟨t,ht,h1,h2,h3⟩
   rcases Nat.lt_or_ge t k with q | q
   · exact absurd (h2.trans e) (List.pairwise_iff_getElem.1 hn t k ht hk q)
   · rw [show k = t by omega];exact h3
 ·
  rw [if_neg e,h]
  constructor
  · rintro ⟨t,ht,h1,h2⟩;exact ⟨t,ht,by omega,h2⟩
  ·
   rintro ⟨t,ht,h1,h2,h3⟩
   refine ⟨t,ht,?_,h2,h3⟩
   rcases Nat.lt_or_ge t k with q | q
   · exact q
   ·
    have : t = k:=by omega
    subst this;exact absurd h2.symm e
set_option maxRecDepth 100000 in
set_option maxHeartbeats 16000000 in
theorem zqo (m : Nat) (base b0 : Nat) (a1 a2 al : Option Addr) (L c1 c2 cl : Nat) (rc : List (Int × List Int)) (out : List Nat) (set : Nat) (w : World) (hs : Solv m rc) (h : q8 w base (.slice a1 L c1) (.slice a2 L c2) rc) (ho : xI w b0 (.slice al out.length cl) (out.map fun k : Nat => (k : Int))) (hn : out.Nodup) (h100 : ∀ i ∈ out,i < 100) (hset : set < 18446744073709551616) (h60 : out.length ≤ 60) :
 Calls Tryz.prog 91 #[.agg #[.int .i64 m,.slice a1 L c1,.slice a2 L c2],.slice al out.length cl,.int .u64 set] w fun e w' => (∃ b : Bool,e = .returned (.tuple #[.bool b,.nilIface]) ∧ (b = true ↔ zaK rc (zb4 out set))) ∧ Below w.heap.size w w':=by
 have hl100 : out.length ≤ 100:=by
  have:=zbr hn (m:=List.range 100) (fun i hi => List.mem_range.2 (h100 i hi))
  simpa using this
 obtain ⟨wA,hwA⟩ : ∃ wA,wA = w.alloc (.cells #[.int .i64 m,.slice a1 L c1,.slice a2 L c2] 27):=⟨_,rfl⟩
 have hbA : Below w.heap.size w wA:=by rw [hwA];exact zba
 have hkA : wA.heap[w.heap.size]? = some (.cells #[.int .i64 m,.slice a1 L c1,.slice a2 L c2] 27 (0,0)):=by rw [hwA];exact za rfl
 obtain ⟨wM,hwM⟩ : ∃ wM,wM = wA.alloc (.cells (madeCells #[.bool false] 100) 4):=⟨_,rfl⟩
 have hbM : Below wA.heap.size wA wM:=by rw [hwM];exact zba
 have hrM : zZ wM wA.heap.size 100 (fun _ => false):=.made (by rw [hwM];exact za rfl)
 have hm2:=zmj
 have HX:=hid (show ∀ w',Below wA.heap.size wA w' → w'.heap[w.heap.size]? = some (.cells #[.int .i64 m,.slice a1 L c1,.slice a2 L c2] 27 (0,0)) ∧ q8 w' base (.slice a1 L c1) (.slice a2 L c2) rc ∧ xI w' b0 (.slice al out.length cl) (out.map fun k : Nat => (k : Int)) ∧ Below w.heap.size w w' from fun w' hw => by
  have hb:=hbA.trans (hw.mono hbA.size)
  exact ⟨(hw.block _ (zlb hkA)).trans hkA,h.below hb,zh.below ho hb,hb⟩)
 have HbM:=hid hbM;have HrM:=hid hrM;have Hn:=hid hn;have H100:=hid h100;have Hs:=hid hs;have Hset:=hid hset
 clear h ho hbA hkA hbM hrM hn h100 hs hset
 go_enter Tryz.func91,Tryz.ntmps91
 go_upto_region 1 with fail
 rw [← hwA]
 clear hwA
 go_upto_region 2 with fail
 rw [← hwM]
 clear hwM hm2
 go_wp2_with fail
 go_loopg [16] out.length (fun gk i wr => ∃ (k : Nat) (S : Nat → Bool),k ≤ out.length ∧ gk = out.length - k ∧ i = .int .i64 k ∧ zZ wr wA.heap.size 100 S ∧ (∀ j,S j = true ↔ ∃ t,∃ h : t < out.length,t < k ∧ out[t] = j ∧ set.testBit t = true) ∧ Below wA.heap.size wA wr)
 case atStart => exact ⟨0,_,znz _,rfl,rfl,HrM.out,fun j => ⟨fun q => (by cases q),fun ⟨t,_,q,_⟩ => absurd q (Nat.not_lt_zero _)⟩,HbM.out⟩
 case round =>
  obtain ⟨k,S,hk,rfl,rfl,hr,hS,hbw⟩:=hrel
  obtain ⟨wi,rfl⟩ : ∃ y,y = wr:=⟨_,rfl⟩
  obtain ⟨hbx,hrul,hrow,hbe⟩:=HX.out wi hbw
  by_cases hlt : k < out.length
  ·
   have hi : (k : Int) < (out.length : Int):=by omega
   obtain ⟨g,rfl,hg,_⟩:=zh.at hrow (by rw [List.length_map];omega)
   have hc:=zh.cell (enc:=yA) (z:=1) (fun _ => rfl) hrow (k:=k) (by rw [List.length_map];exact hlt) (j:=0) (by decide) rfl
   rw [Nat.mul_one,Nat.add_zero,List.getElem_map] at hc
   have hq:=H100.out out[k] (List.getElem_mem hlt)
   have hst:=zmX Hn.out (f:=set.testBit) hlt hS
   have hbt : (bits .and .u64 ((set : Int) / 2 ^ k) 1 == 1) = set.testBit k:=zpC Hset.out k
   have hk64 : (k : Int) < 64:=by omega
   obtain ⟨q,hqe⟩ : ∃ q,q = out[k]:=⟨_,rfl⟩
   rw [← hqe] at hc hq hst
   obtain ⟨d1,d2,d3⟩:=hr.cell hq
   have t1 : decide ((q : Int) < 0) = false:=by simp
   have t2 : decide ((100 : Int) ≤ (q : Int)) = false:=by simp;omega
   have t2p : ¬ (100 : Int) ≤ (q : Int):=by omega
   have t2n : ¬ 100 ≤ q:=by omega
   have hqi : (q : Int) < 100:=by omega
   have Hr:=hid hr;have Hst:=hid hst;have Hbw:=hid hbw
   clear hr hst hbw hS hbx hrul hrow hbe hqe
   go_wp2_with fail
   go_roundg (out.length - (k + 1))
   case measure => omega
   case rel => exact ⟨k + 1,_,by omega,rfl,by go_num,Hr.out.set hq _,Hst.out,Hbw.out.setCell (p:=⟨wA.heap.size,q,none⟩) (znr _) _⟩
  ·
   obtain rfl : k = out.length:=by omega
   have hS' : S = zb4 out set:=by
    funext j
    rw [Bool.eq_iff_iff,hS,zcO]
    exact ⟨fun ⟨t,h,_,q⟩ => ⟨t,h,q⟩,fun ⟨t,h,q⟩ => ⟨t,h,h,q⟩⟩
   subst hS'
   have HO:=hid (show ∀ w',Below wi.heap.size wi w' → Calls Tryz.prog 140 #[.agg #[.int .i64 m,.slice a1 L c1,.slice a2 L c2],.slice (some ⟨wA.heap.size,0,none⟩) 100 100] w' fun e w'' => (∃ vo,e = .returned vo ∧ jc w'' w'.heap.size vo (xS rc (jw 100 (zb4 out set)))) ∧ Below w'.heap.size w' w'' from fun w' hw => zga base (m : Nat) _ _ _ rc _ w' (hrul.below hw) ((hr.below hw).bools (by omega)) (by have:=Hs.out.len;omega) Hs.out.frm)
   have HK:=hid (show ∀ w',Below wi.heap.size wi w' → w'.cell? ⟨w.heap.size,0,none⟩ = some (.int .i64 m) ∧ w'.cell? ⟨w.heap.size,1,none⟩ = some (.slice a1 L c1) ∧ w'.cell? ⟨w.heap.size,2,none⟩ = some (.slice a2 L c2) from fun w' hw => yN ((hw.block _ (zlb hbx)).trans hbx))
   have Hbe:=hid hbe
   have HB:=hid ((Below.refl wi.heap.size wi).drew)
   have HBd:=hid (fun o => ((Below.refl wi.heap.size wi).alloc (znr _) o).drew)
   have KS:=HK.out _ HB.out
   have hlx:=zlb hbx
   clear hr hS hbw hbx hrul hrow hbe hlt
   go_wp2_with fail
   go_region_held3 (fun w' => w'.cell? ⟨w.heap.size,0,none⟩ = some (.int .i64 m) ∧ w'.cell? ⟨w.heap.size,1,none⟩ = some (.slice a1 L c1) ∧ w'.cell? ⟨w.heap.size,2,none⟩ = some (.slice a2 L c2)) (first | (with_reducible exact KS) | (with_reducible refine kS3 ?_ KS;omega) | (with_reducible refine kS3 ?_ KS;have:=HB.out.size;omega) | (with_reducible refine kSAd ?_ KS;omega) | (with_reducible refine kSA ?_ KS;have:=HB.out.size;omega) | go_keep)
    (first
     | (go_at_call 140;(refine (HO.out _ (by first | (with_reducible exact HB.out) | (with_reducible exact HBd.out _))).mono ?_);rintro e w7 ⟨⟨v7,rfl,h7⟩,hb7⟩;obtain ⟨x7,y7,rfl,_,_⟩:=h7.shape;have HSo:=hid (show ∀ w',Below w7.heap.size w7 w' → _ from fun w' hw => zdm Hs.out (h7.below hw));have hB7 : Below wi.heap.size wi w7:=(by first | (with_reducible exact HB.out.trans (hb7.mono HB.out.size)) | (with_reducible exact (HBd.out _).trans (hb7.mono (HBd.out _).size)));have hs7:=hB7.size;(try (have hx7 : w7.heap[wi.heap.size]? = some (.cells #[.bool false,.int .u64 0,.slice none 0 0] 56 (0,0)):=(hb7.block _ (by simp)).trans (za (by simp));have HX7:=hid hx7;clear hx7));clear h7 hb7 KS HB;have HB:=hid hB7;clear hB7;have KS:=HK.out _ HB.out)
     | (go_at_call 21;(refine (HSo.out _ (by first | (with_reducible exact Below.refl _ _) | (with_reducible exact zba))).mono ?_);rintro e w8 ⟨⟨holds,vals,a8,n8,c8,rfl,h8⟩,hb8⟩;have H8:=hid h8;have hB8 : Below wi.heap.size wi w8:=(by first | (with_reducible exact HB.out.trans (hb8.mono HB.out.size)) | (with_reducible exact (HB.out.alloc HB.out.size _).trans (hb8.mono (HB.out.alloc HB.out.size _).size)));(first | (have hx8:=(hb8.block _ (zlb HX7.out)).trans HX7.out) | (have hx8 : w8.heap[w7.heap.size]? = some (.cells #[.bool false,.int .u64 0,.slice none 0 0] 56 (0,0)):=(hb8.block _ (by simp)).trans (za rfl)) | skip);(try (obtain ⟨g0,g1,g2⟩:=zfp hx8;obtain ⟨z0,z1,z2⟩:=yN hx8;have l8:=zlb hx8;have HX8:=hid hx8;clear hx8));clear h8 hb8 KS HB;have HB:=hid hB8;clear hB8;have KS:=HK.out _ HB.out))
   ·
    have hk : (w8.alloc (.cells #[.bool holds,.int .u64 vals,.slice a8 n8 c8] 56)).heap[w8.heap.size]? = some (.cells #[.bool holds,.int .u64 vals,.slice a8 n8 c8] 56 (0,0)):=za rfl
    have hbz:=HB.out.alloc HB.out.size (.cells #[.bool holds,.int .u64 vals,.slice a8 n8 c8] 56)
    generalize w8.alloc (.cells #[.bool holds,.int .u64 vals,.slice a8 n8 c8] 56) = wz at hk hbz ⊢
    obtain ⟨q0,q1,q2⟩:=yN hk
    have Hbz:=hid hbz
    clear hk hbz KS q1 q2
    go_wp2_with fail
    go_ret2
    exact ⟨⟨holds,rfl,H8.out⟩,Hbe.out.trans (Hbz.out.mono Hbe.out.size)⟩
   ·
    have hk:=zbj HX8.out (.bool holds) (.int .u64 vals) (.slice a8 n8 c8)
    have hbz:=HB.out.trans (yI (w:=w8) (show wi.heap.size ≤ w7.heap.size by omega) (.bool holds) (.int .u64 vals) (.slice a8 n8 c8))
    clear g0 g1 g2 z0 z1 z2
    generalize ((w8.setCell ⟨w7.heap.size,0,none⟩ (.bool holds)).setCell ⟨w7.heap.size,1,none⟩ (.int .u64 vals)).setCell ⟨w7.heap.size,2,none⟩ (.slice a8 n8 c8) = wz at hk hbz ⊢
    obtain ⟨q0,q1,q2⟩:=yN hk
    have Hbz:=hid hbz
    clear hk hbz KS q1 q2
    go_wp2_with fail
    go_ret2
    exact ⟨⟨holds,rfl,H8.out⟩,Hbe.out.trans (Hbz.out.mono Hbe.out.size)⟩
   ·
    have hk:=zbj HX8.out (.bool holds) (.int .u64 vals) (.slice a8 n8 c8)
    have hbz:=HB.out.trans (yI (w:=w8) (znr wi.heap.size) (.bool holds) (.int .u64 vals) (.slice a8 n8 c8))
    clear g0 g1 g2 z0 z1 z2
    generalize ((w8.setCell ⟨wi.heap.size,0,none⟩ (.bool holds)).setCell ⟨wi.heap.size,1,none⟩ (.int .u64 vals)).setCell ⟨wi.heap.size,2,none⟩ (.slice a8 n8 c8) = wz at hk hbz ⊢
    obtain ⟨q0,q1,q2⟩:=yN hk
    have Hbz:=hid hbz
    clear hk hbz KS q1 q2
    go_wp2_with fail
    go_ret2
    exact ⟨⟨holds,rfl,H8.out⟩,Hbe.out.trans (Hbz.out.mono Hbe.out.size)⟩
def zb6 (bad : Nat → Bool) (s k : Nat) : Bool:=bad s && (List.range k).all fun j => !s.testBit j || !bad (kY s j)
theorem zgT (bad : Nat → Bool) (s : Nat) : zb6 bad s 0 = bad s:=by simp [zb6]
theorem zfW (bad : Nat → Bool) (s k : Nat) : zb6 bad s (k + 1) = (zb6 bad s k && (!s.testBit k || !bad (kY s k))):=by
 unfold zb6
 rw [List.range_succ,List.all_append,Bool.and_assoc]
 simp
def zbf (n : Nat) (bad : Nat → Bool) (m : Nat) : List Nat:=(List.range m).filter (zgE n bad)
theorem zg4 (n : Nat) (bad : Nat → Bool) (m : Nat) : zbf n bad (m + 1) = zbf n bad m ++ if zb6 bad m n = true then [m] else []:=by
 unfold zbf
 rw [List.range_succ,List.filter_append]
 congr 1
 show [m].filter _ = if zgE n bad m = true then [m] else []
 cases h : zgE n bad m <;> simp [h]
theorem zcS (n : Nat) (bad : Nat → Bool) : zbf n bad (2 ^ n) = qP n bad:=rfl
theorem zh4 (n : Nat) (bad : Nat → Bool) (m : Nat) : (zbf n bad m).length ≤ m:=by
 have:=List.length_filter_le (zgE n bad) (List.range m)
 rw [List.length_range] at this
 exact this
theorem zhZ {x y z : Nat} (hz : z < 18446744073709551616) (h : ∀ j,z.testBit j = (x.testBit j && !y.testBit j)) : bits .andNot .u64 (x : Int) (y : Int) = (z : Int):=by
 have h1 : BitVec.ofInt 64 (x : Int) = BitVec.ofNat 64 x:=BitVec.ofInt_natCast _ _
 have h2 : BitVec.ofInt 64 (y : Int) = BitVec.ofNat 64 y:=BitVec.ofInt_natCast _ _
 have h3 : bits .andNot .u64 (x : Int) (y : Int) = IntKind.u64.wrap ((BitVec.ofInt 64 (x : Int) &&& ~~~ BitVec.ofInt 64 (y : Int)).toNat : Int):=rfl
 have h4 : BitVec.ofNat 64 x &&& ~~~ BitVec.ofNat 64 y = BitVec.ofNat 64 z:=by
  apply BitVec.eq_of_getLsbD_eq
  intro j hj
  simp only [BitVec.getLsbD_and,BitVec.getLsbD_not,BitVec.getLsbD_ofNat,decide_eq_true hj,Bool.true_and,h]
 rw [h3,h1,h2,h4,BitVec.toNat_ofNat,Nat.mod_eq_of_lt hz,IntKind.wrap_u64]
 omega
theorem zcY {n : Nat} (hn : n ≤ 10) : 2 ^ n ≤ 1024:=by
 have : 2 ^ n ≤ 2 ^ 10:=Nat.pow_le_pow_right (by decide) hn
 omega
theorem zia {k : Nat} (hk : k < 24) : IntKind.u64.wrap ((2 : Int) ^ k) = ((2 ^ k : Nat) : Int):=by
 have h1 : (2 : Nat) ^ k < 2 ^ 24:=Nat.pow_lt_pow_right (by decide) hk
 have h2 : ((2 : Int) ^ k) = ((2 ^ k : Nat) : Int):=by simp
 rw [h2,IntKind.wrap_u64]
 generalize (2 : Nat) ^ k = q at h1 ⊢
 omega
theorem zlK {s k : Nat} (hs : s < 16777216) (h : s.testBit k = true) : bits .andNot .u64 (s : Int) ((2 ^ k : Nat) : Int) = ((kY s k : Nat) : Int) :=
 zhZ (by have:=zfJ h;omega) fun j => by
  rw [zbu h,Nat.testBit_two_pow]
  congr 1
  by_cases e : j = k
  · simp [e]
  · simp [e,Ne.symm e]
theorem zff {n s : Nat} (hn : n ≤ 10) (hs : s < 2 ^ n) : bits .andNot .u64 ((2 ^ n - 1 : Nat) : Int) (s : Int) = ((qz n s : Nat) : Int) :=
 zhZ (by have:=zaD hs;have:=zcY hn;omega) fun j => by
  rw [jr,Nat.testBit_two_pow_sub_one]
  cases e : s.testBit j with
  | false => simp
  | true => rw [decide_eq_true (kF hs e)];rfl
theorem zqR {s k : Nat} : (s &&& 2 ^ k != 0) = s.testBit k:=by
 cases e : s.testBit k with
 | true =>
  rw [bne_iff_ne]
  intro h
  have h2 : (s &&& 2 ^ k).testBit k = true:=by rw [Nat.testBit_and,e,Nat.testBit_two_pow];simp
  rw [h,Nat.zero_testBit] at h2
  cases h2
 | false =>
  have h2 : s &&& 2 ^ k = 0:=Nat.eq_of_testBit_eq fun j => by
   rw [Nat.testBit_and,Nat.testBit_two_pow,Nat.zero_testBit]
   by_cases h : k = j
   · rw [← h,e];rfl
   · simp [h]
  rw [h2];rfl
theorem zqX {s k : Nat} (hs : s < 16777216) (hk : k < 24) : (bits .and .u64 (s : Int) ((2 ^ k : Nat) : Int) != 0) = s.testBit k:=by
 have h1 : (2 : Nat) ^ k < 2 ^ 24:=Nat.pow_lt_pow_right (by decide) hk
 rw [bits_and_u64_nat _ _ (by omega) (by omega),← zqR]
 generalize s &&& 2 ^ k = y
 cases y with
 | zero => rfl
 | succ y => rw [bne_iff_ne.2 (show ((y + 1 : Nat) : Int) ≠ 0 by omega),bne_iff_ne.2 (Nat.succ_ne_zero y)]
