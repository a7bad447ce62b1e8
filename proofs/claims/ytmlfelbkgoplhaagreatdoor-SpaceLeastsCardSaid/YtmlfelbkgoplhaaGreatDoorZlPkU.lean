import Derived.Test.YtmlfelbkgoplhaaGreatDoorZlPkO
import Derived.Test.YtmlfelbkgoplhaaGreatDoorZlPkW
import Derived.Deep.RegionHeld3
import Derived.Deep.OwnRows
import Derived.Deep.CutRange
set_option linter.unusedVariables false
set_option linter.unusedSimpArgs false
namespace Go.Proofs.YtmlfelbkgoplhaaGreatDoor
open Go.RowKit
def zjn (ls : List zk) (i : Nat) : Int := match ls[i]? with | some x => x.kind | none => 1
def zd1 (ls : List zk) (n : Nat) : List Nat := (List.range n).filter fun i => decide (zjn ls i ≠ 1)
theorem zi1 {ls : List zk} {i : Nat} (h : i < ls.length) : zjn ls i = ls[i].kind := by unfold zjn; rw [List.getElem?_eq_getElem h]
theorem zn2 {ls : List zk} {n i : Nat} (h : i ∈ zd1 ls n) : i < n := List.mem_range.1 (List.mem_filter.1 h).1
theorem zlW (ls : List zk) (n : Nat) : (zd1 ls n).Pairwise (· < ·) := List.pairwise_lt_range.filter _
def zat (n : Nat) (S : Nat → Bool) : List Bool := (List.range n).map S
theorem zaZ (n : Nat) (S : Nat → Bool) : (zat n S).length = n := by unfold zat; simp
theorem zfw {n : Nat} {S : Nat → Bool} {i : Nat} (h : i < n) : (zat n S).getD i false = S i := by unfold zat; simp [h]
theorem zkg {n : Nat} {S : Nat → Bool} {k : Int} (h : -1 ≤ k) (h2 : k < n) : zko (zat n S) k = (decide (k < 0) || S k.toNat) := by
 unfold zko
 rw [zaZ]
 by_cases h0 : k < 0
 · simp [h0]
 · rw [decide_eq_false h0, decide_eq_true h2, zfw (by omega)]; simp
def zhb (rc : List (Int × List Int)) (S : Nat → Bool) : Prop := ∃ v, zg0 v (zaM rc (zat 100 S)) = true
theorem zio {v : Nat} {l : List (List Int)} : zg0 v l = true ↔ ∀ c ∈ l, clB v c = true := by unfold zg0; rw [List.all_eq_true]
theorem zft {rc : List (Int × List Int)} {some : List Bool} {c : List Int} : c ∈ zaM rc some ↔ ∃ p ∈ rc, zko some p.1 = true ∧ p.2 = c := by
 unfold zaM
 constructor
 ·
  intro h
  obtain ⟨p, hp, rfl⟩ := List.mem_map.1 h
  exact ⟨p, (List.mem_filter.1 hp).1, (List.mem_filter.1 hp).2, rfl⟩
 ·
  rintro ⟨p, hp, h1, rfl⟩
  exact List.mem_map.2 ⟨p, List.mem_filter.2 ⟨hp, h1⟩, rfl⟩
theorem zhb.less {rc : List (Int × List Int)} {S S' : Nat → Bool} (hf : ∀ p ∈ rc, -1 ≤ p.1 ∧ p.1 < 100) (h : zhb rc S) (hs : ∀ i, i < 100 → S' i = true → S i = true) : zhb rc S' := by
 obtain ⟨v, hv⟩ := h
 refine ⟨v, zio.2 fun c hc => ?_⟩
 obtain ⟨p, hp, hw, rfl⟩ := zft.1 hc
 refine zio.1 hv _ (zft.2 ⟨p, hp, ?_, rfl⟩)
 have hb := hf p hp
 rw [zkg hb.1 hb.2] at hw ⊢
 by_cases h0 : p.1 < 0
 · simp [h0]
 ·
  rw [decide_eq_false h0, Bool.false_or] at hw ⊢
  exact hs _ (by omega) hw
structure zow (rc : List (Int × List Int)) (out : List Nat) : Prop where
 inc : out.Pairwise (· < ·)
 lt : ∀ i ∈ out, i < 100
 no : ¬ zhb rc (fun i => decide (i ∈ out))
 yes : ∀ x ∈ out, zhb rc (fun i => decide (i ∈ out ∧ i ≠ x))
structure zeh (rc : List (Int × List Int)) (says : List Nat) (S : Nat → Bool) (j : Nat) : Prop where
 inn : ∀ i, S i = true → i ∈ says
 no : ¬ zhb rc S
 all : ∀ t (h : t < says.length), t < j → S says[t] = true
 tried : ∀ t (h : t < says.length), j ≤ t → S says[t] = true → zhb rc (fun i => S i && decide (i ≠ says[t]))
theorem zeh.keep {rc : List (Int × List Int)} {says : List Nat} {S : Nat → Bool} {j : Nat} (h : zeh rc says S (j + 1)) (hj : j < says.length) (hs : zhb rc (fun i => S i && decide (i ≠ says[j]))) : zeh rc says S j :=
 ⟨h.inn, h.no, fun t ht hjt => h.all t ht (by omega), fun t ht hjt hS => by
  rcases Nat.lt_or_ge j t with q | q
  · exact h.tried t ht q hS
  ·
   have : t = j := by omega
   subst this; exact hs⟩
theorem zeh.drop {rc : List (Int × List Int)} {says : List Nat} {S : Nat → Bool} {j : Nat} (hf : ∀ p ∈ rc, -1 ≤ p.1 ∧ p.1 < 100) (hd : says.Pairwise (· < ·)) (h : zeh rc says S (j + 1)) (hj : j < says.length) (hs : ¬ zhb rc (fun i => S i && decide (i ≠ says[j]))) : zeh rc says (fun i => S i && decide (i ≠ says[j])) j :=
 ⟨fun i hi => h.inn i (by simp only [Bool.and_eq_true] at hi; exact hi.1), hs, fun t ht hjt => by
  have h1 := h.all t ht (by omega)
  have h2 := List.pairwise_iff_getElem.1 hd t j ht hj hjt
  simp only [h1, Bool.true_and, decide_eq_true_eq]
  omega, fun t ht hjt hS => by
  simp only [Bool.and_eq_true, decide_eq_true_eq] at hS
  rcases Nat.lt_or_ge j t with q | q
  ·
   refine (h.tried t ht q hS.1).less hf (fun i _ hi => ?_)
   simp only [Bool.and_eq_true, decide_eq_true_eq] at hi ⊢
   exact ⟨hi.1.1, hi.2⟩
  ·
   have : t = j := by omega
   subst this
   exact absurd rfl hS.2⟩
theorem zeh.done {rc : List (Int × List Int)} {ls : List zk} {n : Nat} (hn : n ≤ 100) (hf : ∀ p ∈ rc, -1 ≤ p.1 ∧ p.1 < 100) {S : Nat → Bool} (h : zeh rc (zd1 ls n) S 0) : zow rc ((zd1 ls n).filter S) := by
 have hm : ∀ i, i ∈ (zd1 ls n).filter S ↔ S i = true := fun i => by
  rw [List.mem_filter]
  exact ⟨fun q => q.2, fun q => ⟨h.inn i q, q⟩⟩
 refine ⟨(zlW ls n).filter _, fun i hi => by have := zn2 (List.mem_filter.1 hi).1; omega, fun q => h.no (q.less hf (fun i _ hi => by rw [decide_eq_true_iff, hm]; exact hi)), fun x hx => ?_⟩
 obtain ⟨hx1, hx2⟩ := List.mem_filter.1 hx
 obtain ⟨t, ht, rfl⟩ := List.getElem_of_mem hx1
 refine (h.tried t ht (znz _) hx2).less hf (fun i _ hi => ?_)
 rw [decide_eq_true_iff, hm] at hi
 simp only [Bool.and_eq_true, decide_eq_true_eq]
 exact hi
theorem zmJ {ls : List zk} {items : List zw} (hn : ls.length ≤ 100) : zaM (zJ ls items) (zat 100 (fun i => decide (i ∈ zd1 ls ls.length))) = yY (zJ ls items) := by
 unfold zaM yY
 congr 1
 refine List.filter_eq_self.2 fun p hp => ?_
 have hb := zea hp
 rw [zkg (by omega) (by omega)]
 rcases List.mem_append.1 hp with h | h
 · rw [zeH h]; rfl
 ·
  obtain ⟨k, hk, h⟩ := zaX.1 h
  have he := zfh h
  rw [Nat.zero_add] at he h
  have : k ∈ zd1 ls ls.length := by
   unfold zd1
   refine List.mem_filter.2 ⟨List.mem_range.2 hk, ?_⟩
   rw [decide_eq_true_iff, zi1 hk]
   intro e
   unfold qK at h
   rw [if_neg (by omega), if_neg (by omega), if_neg (by omega)] at h
   cases h
  rw [he, Int.toNat_natCast, decide_eq_true this]; simp
theorem zeZ {ls : List zk} {items : List zw} (ho : zbC ls items) (hr : (zJ ls items).length ≤ 200) (some : List Bool) : Good (items.length : Nat) (zaM (zJ ls items) some) := by
 have hn : items.length ≤ 24 := by rw [ho.perm.length_eq]; exact ho.most
 refine ⟨by omega, by omega, ?_, fun c hc => ?_⟩
 ·
  have := zmP (rc := zJ ls items) (some := some)
  rw [yY, List.length_map] at this
  omega
 ·
  obtain ⟨p, hp, _, rfl⟩ := zft.1 hc
  obtain ⟨h1, h2⟩ := zbv ho p hp
  exact ⟨by omega, zcf (fun x hx => by have := h2 x hx; omega)⟩
def yN (w : World) (p n : Nat) (S : Nat → Bool) : Prop := ∃ cur : Array Value, w.heap[p]? = some (.cells cur 4 (0, 0)) ∧ cur.size = n ∧ ∀ j, j < n → cur[j]? = some (.bool (S j))
theorem yN.made {w : World} {p n : Nat} (h : w.heap[p]? = some (.cells (madeCells #[.bool false] n) 4 (0, 0))) : yN w p n (fun _ => false) :=
 ⟨_, h, by rw [size_madeCells], fun j hj => by rw [← Array.getElem?_toList, toList_madeCells_one]; simp [hj]⟩
theorem yN.set {w : World} {p n : Nat} {S : Nat → Bool} (h : yN w p n S) {k : Nat} (hk : k < n) (b : Bool) : yN (w.setCell ⟨p, k, none⟩ (.bool b)) p n (fun i => if i = k then b else S i) := by
 obtain ⟨cur, h1, h2, h3⟩ := h
 refine ⟨_, heap_set h1 k _, by simp [h2], fun j hj => ?_⟩
 rw [Array.getElem?_setIfInBounds]
 by_cases e : k = j
 · subst e; rw [if_pos rfl, if_pos (by omega)]; simp
 ·
  rw [if_neg e]
  show cur[j]? = some (.bool (if j = k then b else S j))
  rw [if_neg (fun q => e q.symm)]; exact h3 j hj
theorem yN.cell {w : World} {p n : Nat} {S : Nat → Bool} (h : yN w p n S) {j : Nat} (hj : j < n) : w.cell? ⟨p, j, none⟩ = some (.bool (S j)) ∧ w.frozen? ⟨p, j, none⟩ = false ∧ p < w.heap.size := by
 obtain ⟨cur, h1, h2, h3⟩ := h
 exact ⟨by rw [cell_of_row _ _ _ _ _ _ h1]; exact h3 j hj, by simp [World.frozen?, h1], zlb h1⟩
theorem yN.lt {w : World} {p n : Nat} {S : Nat → Bool} (h : yN w p n S) : p < w.heap.size := by
 obtain ⟨cur, h1, _⟩ := h
 exact zlb h1
theorem yN.block {w w' : World} {p n : Nat} {S : Nat → Bool} (h : yN w p n S) (hb : w'.heap[p]? = w.heap[p]?) : yN w' p n S := by
 obtain ⟨cur, h1, h2⟩ := h
 exact ⟨cur, hb.trans h1, h2⟩
theorem yN.below {w w' : World} {p n : Nat} {S : Nat → Bool} (h : yN w p n S) (hb : Below w.heap.size w w') : yN w' p n S := h.block (hb.block _ h.lt)
theorem yN.congr {w : World} {p n : Nat} {S S' : Nat → Bool} (h : yN w p n S) (e : ∀ i, i < n → S i = S' i) : yN w p n S' := by
 obtain ⟨cur, h1, h2, h3⟩ := h
 exact ⟨cur, h1, h2, fun j hj => by rw [← e j hj]; exact h3 j hj⟩
theorem yN.bools {w : World} {p n : Nat} {S : Nat → Bool} (h : yN w p n S) (hn : n ≤ 1000) : zad w (.slice (some ⟨p, 0, none⟩) n n) (zat n S) := by
 have hc := fun j hj => (h.cell (j := j) hj).1
 refine ⟨_, p, 0, n, by rw [zaZ], fun _ => rfl, by rw [zaZ]; exact znr _, by unfold maxLen; omega, fun i hi => ?_, fun _ => h.lt⟩
 rw [zaZ] at hi
 rw [Nat.zero_add, hc i hi, zfw hi]
structure Solv (m : Nat) (rc : List (Int × List Int)) : Prop where
 good : ∀ S, Good (m : Nat) (zaM rc (zat 100 S))
 few : ∀ S, FewC (m : Nat) (zaM rc (zat 100 S))
 frm : ∀ p ∈ rc, -1 ≤ p.1 ∧ p.1 ≤ 1000
 len : rc.length ≤ 200
theorem zju {ls : List zk} {items : List zw} (ho : zbC ls items) (hr : (zJ ls items).length ≤ 200) (h12 : items.length ≤ 12) : Solv items.length (zJ ls items) :=
 ⟨fun S => zeZ ho hr _, fun S => zjx ho h12 _, fun p hp => by have := zea hp; have := ho.few; omega, hr⟩
theorem zk1 {ls : List zk} {items : List zw} (hl : ls.length ≤ 100) (h : Solv items.length (zJ ls items)) : Good (items.length : Nat) (yY (zJ ls items)) ∧ FewC (items.length : Nat) (yY (zJ ls items)) := by
 rw [← zmJ hl]
 exact ⟨h.good _, h.few _⟩
theorem zh7 {w : World} {base : Nat} {vc vf : Value} {rc : List (Int × List Int)} (h : jX w base vc vf rc) : zaE w base vc (yY rc) := by
 obtain ⟨vs, h1, h2, _⟩ := h
 exact ⟨vs, h1, h2⟩
