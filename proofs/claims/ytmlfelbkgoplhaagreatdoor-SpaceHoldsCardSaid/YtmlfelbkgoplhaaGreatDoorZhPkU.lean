/- Some texts in one: CorM, CoreA, CoreB, CoreW. -/
import Derived.Test.YtmlfelbkgoplhaaGreatDoorZhPkR
import Derived.Test.YtmlfelbkgoplhaaGreatDoorZhPkO
import Derived.Test.YtmlfelbkgoplhaaGreatDoorZhPkW
import Derived.Deep.RegionHeld3
import Derived.Deep.OwnRows
import Derived.Deep.CutRange
namespace Go.Proofs.YtmlfelbkgoplhaaGreatDoor
open Go.RowKit
set_option linter.unusedVariables false
def kindAt (ls : List LineM) (i : Nat) : Int := match ls[i]? with | some x => x.kind | none => 1
def saysN (ls : List LineM) (n : Nat) : List Nat := (List.range n).filter fun i => decide (kindAt ls i ≠ 1)
theorem kindAt_get {ls : List LineM} {i : Nat} (h : i < ls.length) : kindAt ls i = ls[i].kind := by unfold kindAt; rw [List.getElem?_eq_getElem h]
theorem says_lt {ls : List LineM} {n i : Nat} (h : i ∈ saysN ls n) : i < n := List.mem_range.1 (List.mem_filter.1 h).1
theorem says_inc (ls : List LineM) (n : Nat) : (saysN ls n).Pairwise (· < ·) := List.pairwise_lt_range.filter _
def boolsL (n : Nat) (S : Nat → Bool) : List Bool := (List.range n).map S
theorem boolsL_len (n : Nat) (S : Nat → Bool) : (boolsL n S).length = n := by unfold boolsL; simp
theorem boolsL_get {n : Nat} {S : Nat → Bool} {i : Nat} (h : i < n) : (boolsL n S).getD i false = S i := by unfold boolsL; simp [h]
theorem wantC_S {n : Nat} {S : Nat → Bool} {k : Int} (h : -1 ≤ k) (h2 : k < n) : wantC (boolsL n S) k = (decide (k < 0) || S k.toNat) := by
 unfold wantC
 rw [boolsL_len]
 by_cases h0 : k < 0
 · simp [h0]
 · rw [decide_eq_false h0, decide_eq_true h2, boolsL_get (by omega)]; simp
def SatS (rc : List (Int × List Int)) (S : Nat → Bool) : Prop := ∃ v, allB v (onlyC rc (boolsL 100 S)) = true
def SatL (l : List (List Int)) : Prop := ∃ v, allB v l = true
theorem allB_mem {v : Nat} {l : List (List Int)} : allB v l = true ↔ ∀ c ∈ l, clB v c = true := by unfold allB; rw [List.all_eq_true]
theorem only_iff {rc : List (Int × List Int)} {some : List Bool} {c : List Int} : c ∈ onlyC rc some ↔ ∃ p ∈ rc, wantC some p.1 = true ∧ p.2 = c := by
 unfold onlyC
 constructor
 ·
  intro h
  obtain ⟨p, hp, rfl⟩ := List.mem_map.1 h
  exact ⟨p, (List.mem_filter.1 hp).1, (List.mem_filter.1 hp).2, rfl⟩
 ·
  rintro ⟨p, hp, h1, rfl⟩
  exact List.mem_map.2 ⟨p, List.mem_filter.2 ⟨hp, h1⟩, rfl⟩
theorem SatS.less {rc : List (Int × List Int)} {S S' : Nat → Bool} (hf : ∀ p ∈ rc, -1 ≤ p.1 ∧ p.1 < 100) (h : SatS rc S) (hs : ∀ i, i < 100 → S' i = true → S i = true) : SatS rc S' := by
 obtain ⟨v, hv⟩ := h
 refine ⟨v, allB_mem.2 fun c hc => ?_⟩
 obtain ⟨p, hp, hw, rfl⟩ := only_iff.1 hc
 refine allB_mem.1 hv _ (only_iff.2 ⟨p, hp, ?_, rfl⟩)
 have hb := hf p hp
 rw [wantC_S hb.1 hb.2] at hw ⊢
 by_cases h0 : p.1 < 0
 · simp [h0]
 ·
  rw [decide_eq_false h0, Bool.false_or] at hw ⊢
  exact hs _ (by omega) hw
structure CoreOk (rc : List (Int × List Int)) (out : List Nat) : Prop where
 inc : out.Pairwise (· < ·)
 lt : ∀ i ∈ out, i < 100
 no : ¬ SatS rc (fun i => decide (i ∈ out))
 yes : ∀ x ∈ out, SatS rc (fun i => decide (i ∈ out ∧ i ≠ x))
structure CoreI (rc : List (Int × List Int)) (says : List Nat) (S : Nat → Bool) (j : Nat) : Prop where
 inn : ∀ i, S i = true → i ∈ says
 no : ¬ SatS rc S
 all : ∀ t (h : t < says.length), t < j → S says[t] = true
 tried : ∀ t (h : t < says.length), j ≤ t → S says[t] = true → SatS rc (fun i => S i && decide (i ≠ says[t]))
theorem CoreI.keep {rc : List (Int × List Int)} {says : List Nat} {S : Nat → Bool} {j : Nat} (h : CoreI rc says S (j + 1)) (hj : j < says.length) (hs : SatS rc (fun i => S i && decide (i ≠ says[j]))) : CoreI rc says S j :=
 ⟨h.inn, h.no, fun t ht hjt => h.all t ht (by omega), fun t ht hjt hS => by
  rcases Nat.lt_or_ge j t with q | q
  · exact h.tried t ht q hS
  ·
   have : t = j := by omega
   subst this; exact hs⟩
theorem CoreI.drop {rc : List (Int × List Int)} {says : List Nat} {S : Nat → Bool} {j : Nat} (hf : ∀ p ∈ rc, -1 ≤ p.1 ∧ p.1 < 100) (hd : says.Pairwise (· < ·)) (h : CoreI rc says S (j + 1)) (hj : j < says.length) (hs : ¬ SatS rc (fun i => S i && decide (i ≠ says[j]))) : CoreI rc says (fun i => S i && decide (i ≠ says[j])) j :=
 ⟨fun i hi => h.inn i (by simp only [Bool.and_eq_true] at hi; exact hi.1), hs, fun t ht hjt => by
  have h1 := h.all t ht (by omega)
  have h2 := List.pairwise_iff_getElem.1 hd t j ht hj hjt
  simp only [h1, Bool.true_and, decide_eq_true_eq]
  omega, fun t ht hjt hS => by
  simp only [Bool.and_eq_true, decide_eq_true_eq] at hS
  rcases Nat.lt_or_ge j t with q | q
  ·
   refine (h.tried t ht q hS.1).less hf (fun i _ hi => ?_)
   simp only [Bool.and_eq_true, decide_eq_true_eq] at hi ⊢
   exact ⟨hi.1.1, hi.2⟩
  ·
   have : t = j := by omega
   subst this
   exact absurd rfl hS.2⟩
theorem CoreI.done {rc : List (Int × List Int)} {ls : List LineM} {n : Nat} (hn : n ≤ 100) (hf : ∀ p ∈ rc, -1 ≤ p.1 ∧ p.1 < 100) {S : Nat → Bool} (h : CoreI rc (saysN ls n) S 0) : CoreOk rc ((saysN ls n).filter S) := by
 have hm : ∀ i, i ∈ (saysN ls n).filter S ↔ S i = true := fun i => by
  rw [List.mem_filter]
  exact ⟨fun q => q.2, fun q => ⟨h.inn i q, q⟩⟩
 refine ⟨(says_inc ls n).filter _, fun i hi => by have := says_lt (List.mem_filter.1 hi).1; omega, fun q => h.no (q.less hf (fun i _ hi => by rw [decide_eq_true_iff, hm]; exact hi)), fun x hx => ?_⟩
 obtain ⟨hx1, hx2⟩ := List.mem_filter.1 hx
 obtain ⟨t, ht, rfl⟩ := List.getElem_of_mem hx1
 refine (h.tried t ht (Nat.zero_le _) hx2).less hf (fun i _ hi => ?_)
 rw [decide_eq_true_iff, hm] at hi
 simp only [Bool.and_eq_true, decide_eq_true_eq]
 exact hi
theorem says_all {ls : List LineM} {items : List ItemM} (hn : ls.length ≤ 100) : onlyC (rulesC ls items) (boolsL 100 (fun i => decide (i ∈ saysN ls ls.length))) = clsOf (rulesC ls items) := by
 unfold onlyC clsOf
 congr 1
 refine List.filter_eq_self.2 fun p hp => ?_
 have hb := rulesC_from hp
 rw [wantC_S (by omega) (by omega)]
 rcases List.mem_append.1 hp with h | h
 · rw [exclR_from h]; rfl
 ·
  obtain ⟨k, hk, h⟩ := mem_linesC.1 h
  have he := lineC_from h
  rw [Nat.zero_add] at he h
  have : k ∈ saysN ls ls.length := by
   unfold saysN
   refine List.mem_filter.2 ⟨List.mem_range.2 hk, ?_⟩
   rw [decide_eq_true_iff, kindAt_get hk]
   intro e
   unfold lineC at h
   rw [if_neg (by omega), if_neg (by omega), if_neg (by omega)] at h
   cases h
  rw [he, Int.toNat_natCast, decide_eq_true this]; simp
theorem unsat_chain {m : Int} {l ls : List (List Int)} (hz : ∀ d ∈ l, NoZero d) (h : ∀ i (h : i < ls.length), Rup m (l ++ ls.take i) ls[i]) (hl : ls.getLast? = some []) {v : Nat} (hv : allB v l = true) : False := by
 have hzz : ∀ d ∈ l ++ ls, NoZero d := fun d hd => by
  rcases List.mem_append.1 hd with q | q
  · exact hz d q
  ·
   obtain ⟨i, hi, rfl⟩ := List.getElem_of_mem q
   exact fun x hx => (lit_of_good (h i hi).1 hx).1
 have key : ∀ i, i ≤ ls.length → allB v (l ++ ls.take i) = true := by
  intro i
  induction i with
  | zero => intro _; simpa using hv
  | succ i ih =>
   intro hi
   have h1 := ih (by omega)
   have h2 := (h i (by omega)).sound (fun d hd => hzz d (by
    rcases List.mem_append.1 hd with q | q
    · simp [q]
    · simp [List.mem_of_mem_take q])) h1
   rw [List.take_succ_eq_append_getElem (by omega), ← List.append_assoc]
   unfold allB at h1 ⊢
   rw [List.all_append, h1]
   simpa using h2
 have h1 := key ls.length (Nat.le_refl _)
 rw [List.take_length] at h1
 have hm : ([] : List Int) ∈ ls := List.mem_of_getLast? hl
 have := allB_mem.1 h1 [] (List.mem_append_right _ hm)
 cases this
theorem good_zero {m : Int} {l : List (List Int)} (h : Good m l) : ∀ d ∈ l, NoZero d := fun d hd x hx => (lit_of_good (h.2.2.2 d hd).2 hx).1
theorem solveB_any (m : Int) (vl : Value) (l : List (List Int)) (w : World) (hl : IsRows w vl l) (hg : Good m l) (hf : FewC m l) :
 Calls Tryz.prog 21 #[.int .i64 m, vl] w fun e w' => (∃ (holds : Bool) (vals : Nat) (a : Option Addr) (n c : Nat), e = .returned (.tuple #[.agg #[.bool holds, .int .u64 vals, .slice a n c], .nilIface]) ∧ (holds = true ↔ SatL l)) ∧ Below w.heap.size w w' := by
 refine (solve_any m vl l w hl).mono ?_
 rintro e w' ⟨⟨holds, vals, vp, err, rfl, hv, hs⟩, hb⟩
 obtain rfl := hs.small hg hf
 refine ⟨?_, hb⟩
 cases holds with
 | true =>
  obtain ⟨rfl, h1, _⟩ := hs.yes hg rfl rfl
  exact ⟨true, vals, none, 0, 0, rfl, fun _ => ⟨vals, h1⟩, fun _ => rfl⟩
 | false =>
  obtain ⟨_, ls, h1, _, h2, h3, _⟩ := hs.no hg rfl rfl
  obtain ⟨a, c, rfl, _⟩ := h1.shape
  exact ⟨false, vals, a, _, c, rfl, fun h => (by cases h), fun ⟨v, hv⟩ => (unsat_chain (good_zero hg) h2 h3 hv).elim⟩
theorem good_rules {ls : List LineM} {items : List ItemM} (ho : CatOk ls items) (hr : (rulesC ls items).length ≤ 200) (some : List Bool) : Good (items.length : Nat) (onlyC (rulesC ls items) some) := by
 have hn : items.length ≤ 24 := by rw [ho.perm.length_eq]; exact ho.most
 refine ⟨by omega, by omega, ?_, fun c hc => ?_⟩
 ·
  have := only_len (rc := rulesC ls items) (some := some)
  rw [clsOf, List.length_map] at this
  omega
 ·
  obtain ⟨p, hp, _, rfl⟩ := only_iff.1 hc
  obtain ⟨h1, h2⟩ := rules_bound ho p hp
  exact ⟨by omega, any_bad_false (fun x hx => by have := h2 x hx; omega)⟩
end Go.Proofs.YtmlfelbkgoplhaaGreatDoor
namespace Go.Proofs.YtmlfelbkgoplhaaGreatDoor
open Go.RowKit
set_option linter.unusedVariables false
def BoolRow (w : World) (p n : Nat) (S : Nat → Bool) : Prop := ∃ cur : Array Value, w.heap[p]? = some (.cells cur 4 (0, 0)) ∧ cur.size = n ∧ ∀ j, j < n → cur[j]? = some (.bool (S j))
theorem BoolRow.made {w : World} {p n : Nat} (h : w.heap[p]? = some (.cells (madeCells #[.bool false] n) 4 (0, 0))) : BoolRow w p n (fun _ => false) :=
 ⟨_, h, by rw [size_madeCells], fun j hj => by rw [← Array.getElem?_toList, toList_madeCells_one]; simp [hj]⟩
theorem BoolRow.set {w : World} {p n : Nat} {S : Nat → Bool} (h : BoolRow w p n S) {k : Nat} (hk : k < n) (b : Bool) : BoolRow (w.setCell ⟨p, k, none⟩ (.bool b)) p n (fun i => if i = k then b else S i) := by
 obtain ⟨cur, h1, h2, h3⟩ := h
 refine ⟨_, heap_set h1 k _, by simp [h2], fun j hj => ?_⟩
 rw [Array.getElem?_setIfInBounds]
 by_cases e : k = j
 · subst e; rw [if_pos rfl, if_pos (by omega)]; simp
 ·
  rw [if_neg e]
  show cur[j]? = some (.bool (if j = k then b else S j))
  rw [if_neg (fun q => e q.symm)]; exact h3 j hj
theorem BoolRow.cell {w : World} {p n : Nat} {S : Nat → Bool} (h : BoolRow w p n S) {j : Nat} (hj : j < n) : w.cell? ⟨p, j, none⟩ = some (.bool (S j)) ∧ w.frozen? ⟨p, j, none⟩ = false ∧ p < w.heap.size := by
 obtain ⟨cur, h1, h2, h3⟩ := h
 exact ⟨by rw [cell_of_row _ _ _ _ _ _ h1]; exact h3 j hj, by simp [World.frozen?, h1], lt_of_block h1⟩
theorem BoolRow.lt {w : World} {p n : Nat} {S : Nat → Bool} (h : BoolRow w p n S) : p < w.heap.size := by
 obtain ⟨cur, h1, _⟩ := h
 exact lt_of_block h1
theorem BoolRow.block {w w' : World} {p n : Nat} {S : Nat → Bool} (h : BoolRow w p n S) (hb : w'.heap[p]? = w.heap[p]?) : BoolRow w' p n S := by
 obtain ⟨cur, h1, h2⟩ := h
 exact ⟨cur, hb.trans h1, h2⟩
theorem BoolRow.below {w w' : World} {p n : Nat} {S : Nat → Bool} (h : BoolRow w p n S) (hb : Below w.heap.size w w') : BoolRow w' p n S := h.block (hb.block _ h.lt)
theorem BoolRow.congr {w : World} {p n : Nat} {S S' : Nat → Bool} (h : BoolRow w p n S) (e : ∀ i, i < n → S i = S' i) : BoolRow w p n S' := by
 obtain ⟨cur, h1, h2, h3⟩ := h
 exact ⟨cur, h1, h2, fun j hj => by rw [← e j hj]; exact h3 j hj⟩
theorem BoolRow.bools {w : World} {p n : Nat} {S : Nat → Bool} (h : BoolRow w p n S) (hn : n ≤ 1000) : IsBools w (.slice (some ⟨p, 0, none⟩) n n) (boolsL n S) := by
 have hc := fun j hj => (h.cell (j := j) hj).1
 refine ⟨_, p, 0, n, by rw [boolsL_len], fun _ => rfl, by rw [boolsL_len]; exact Nat.le_refl _, by unfold maxLen; omega, fun i hi => ?_, fun _ => h.lt⟩
 rw [boolsL_len] at hi
 rw [Nat.zero_add, hc i hi, boolsL_get hi]
end Go.Proofs.YtmlfelbkgoplhaaGreatDoor
namespace Go.Proofs.YtmlfelbkgoplhaaGreatDoor
open Go.RowKit
set_option linter.unusedVariables false
structure Solv (m : Nat) (rc : List (Int × List Int)) : Prop where
 good : ∀ S, Good (m : Nat) (onlyC rc (boolsL 100 S))
 few : ∀ S, FewC (m : Nat) (onlyC rc (boolsL 100 S))
 frm : ∀ p ∈ rc, -1 ≤ p.1 ∧ p.1 ≤ 1000
 len : rc.length ≤ 200
end Go.Proofs.YtmlfelbkgoplhaaGreatDoor
namespace Go.Proofs.YtmlfelbkgoplhaaGreatDoor
open Go.RowKit
set_option linter.unusedVariables false
theorem rules_solv {ls : List LineM} {items : List ItemM} (ho : CatOk ls items) (hr : (rulesC ls items).length ≤ 200) (h12 : items.length ≤ 12) : Solv items.length (rulesC ls items) :=
 ⟨fun S => good_rules ho hr _, fun S => fewC_rules ho h12 _, fun p hp => by have := rulesC_from hp; have := ho.few; omega, hr⟩
theorem rules_all {ls : List LineM} {items : List ItemM} (hl : ls.length ≤ 100) (h : Solv items.length (rulesC ls items)) : Good (items.length : Nat) (clsOf (rulesC ls items)) ∧ FewC (items.length : Nat) (clsOf (rulesC ls items)) := by
 rw [← says_all hl]
 exact ⟨h.good _, h.few _⟩
theorem rulesIn_cls {w : World} {base : Nat} {vc vf : Value} {rc : List (Int × List Int)} (h : RulesIn w base vc vf rc) : ClsIn w base vc (clsOf rc) := by
 obtain ⟨vs, h1, h2, _⟩ := h
 exact ⟨vs, h1, h2⟩
theorem rulesWithin {ls : List LineM} {items : List ItemM} (ho : CatOk ls items) : (∀ c ∈ clsOf (rulesC ls items), c.length ≤ 100000) ∧ Within 1000 (clsOf (rulesC ls items)) := by
 have hn : items.length ≤ 24 := by rw [ho.perm.length_eq]; exact ho.most
 refine ⟨fun c hc => ?_, fun c hc x hx => ?_⟩
 ·
  obtain ⟨p, hp, rfl⟩ := List.mem_map.1 hc
  have := (rules_bound ho p hp).1
  omega
 ·
  obtain ⟨p, hp, rfl⟩ := List.mem_map.1 hc
  have := (rules_bound ho p hp).2 x hx
  omega
end Go.Proofs.YtmlfelbkgoplhaaGreatDoor
