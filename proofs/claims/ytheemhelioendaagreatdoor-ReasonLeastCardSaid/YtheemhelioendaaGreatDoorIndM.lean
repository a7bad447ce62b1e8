/- Of a catalog's items, of each package one at most: how many sets there are. Plain. -/
import Derived.Test.YtheemhelioendaaGreatDoorPkH
import Derived.Test.YtheemhelioendaaGreatDoorPkM
import Derived.Test.YtheemhelioendaaGreatDoorDpll
namespace Go.Proofs.YtheemhelioendaaGreatDoor
set_option linter.unusedVariables false

def prodL : List Nat → Nat
  | [] => 1
  | a :: l => a * prodL l
theorem step_pow : ∀ k : Nat, (k + 1) * (3 * 2 ^ k) ≤ 4 * 3 ^ k
  | 0 => by decide
  | 1 => by decide
  | k + 2 => by
    have ih := step_pow (k + 1)
    have e1 : (2 : Nat) ^ (k + 2) = 2 * 2 ^ (k + 1) := by rw [Nat.pow_succ, Nat.mul_comm]
    have e2 : (3 : Nat) ^ (k + 2) = 3 * 3 ^ (k + 1) := by rw [Nat.pow_succ, Nat.mul_comm]
    rw [e1, e2]
    generalize (2 : Nat) ^ (k + 1) = a at ih
    generalize (3 : Nat) ^ (k + 1) = b at ih
    have h1 : (k + 2 + 1) * (3 * (2 * a)) = (2 * (k + 3)) * (3 * a) := by
      rw [show 3 * (2 * a) = 2 * (3 * a) by omega, ← Nat.mul_assoc, Nat.mul_comm (k + 2 + 1) 2]
    have h2 : (2 * (k + 3)) * (3 * a) ≤ (3 * (k + 1 + 1)) * (3 * a) := Nat.mul_le_mul_right _ (by omega)
    have h3 : (3 * (k + 1 + 1)) * (3 * a) = 3 * ((k + 1 + 1) * (3 * a)) := Nat.mul_assoc ..
    omega
theorem prod_pow : ∀ ks : List Nat, prodL (ks.map (· + 1)) * (3 ^ ks.length * 2 ^ ks.sum) ≤ 4 ^ ks.length * 3 ^ ks.sum
  | [] => by simp [prodL]
  | k :: ks => by
    have ih := prod_pow ks
    have h := step_pow k
    have := Nat.mul_le_mul h ih
    simp only [List.map_cons, prodL, List.length_cons, List.sum_cons, Nat.pow_succ, Nat.pow_add]
    calc (k + 1) * prodL (ks.map (· + 1)) * (3 ^ ks.length * 3 * (2 ^ k * 2 ^ ks.sum))
        = ((k + 1) * (3 * 2 ^ k)) * (prodL (ks.map (· + 1)) * (3 ^ ks.length * 2 ^ ks.sum)) := by ac_rfl
      _ ≤ (4 * 3 ^ k) * (4 ^ ks.length * 3 ^ ks.sum) := this
      _ = 4 ^ ks.length * 4 * (3 ^ k * 3 ^ ks.sum) := by ac_rfl
theorem prod_check : ∀ L < 9, ∀ S < 13, ¬ 1297 * (3 ^ L * 2 ^ S) ≤ 4 ^ L * 3 ^ S := by decide
theorem prod_le {ks : List Nat} (h1 : ks.length ≤ 8) (h2 : ks.sum ≤ 12) : prodL (ks.map (· + 1)) ≤ 1296 := by
  rcases Nat.lt_or_ge 1296 (prodL (ks.map (· + 1))) with h | h
  · exact absurd (Nat.le_trans (Nat.mul_le_mul_right _ h) (prod_pow ks)) (prod_check _ (by omega) _ (by omega))
  · exact h
/-- Of each group one, or none. -/
def vecs : List (List Nat) → List (List (Option Nat))
  | [] => [[]]
  | g :: gs => (vecs gs).flatMap fun v => (none :: g.map some).map (· :: v)
theorem flatMap_len {α β : Type} (f : α → List β) (k : Nat) (h : ∀ x, (f x).length = k) : ∀ l : List α, (l.flatMap f).length = k * l.length
  | [] => by simp
  | x :: l => by rw [List.flatMap_cons, List.length_append, h, flatMap_len f k h l, List.length_cons, Nat.mul_succ]; omega
theorem vecs_len : ∀ gs : List (List Nat), (vecs gs).length = prodL ((gs.map List.length).map (· + 1))
  | [] => rfl
  | g :: gs => by
    unfold vecs
    rw [flatMap_len _ (g.length + 1) (fun x => by simp), vecs_len gs]
    rfl
def memN (c : List Int) (j : Nat) : Bool := decide (-((j : Int) + 1) ∈ c)
def pickG (c : List Int) (g : List Nat) : Option Nat := g.find? (memN c)
theorem pick_cases (c : List Int) (g : List Nat) : pickG c g = none ∨ ∃ j ∈ g, memN c j = true ∧ pickG c g = some j := by
  unfold pickG
  cases h : g.find? (memN c) with
  | none => exact .inl rfl
  | some j => exact .inr ⟨j, List.mem_of_find?_eq_some h, List.find?_some h, rfl⟩
theorem mem_vecs (c : List Int) : ∀ gs : List (List Nat), gs.map (pickG c) ∈ vecs gs
  | [] => List.mem_singleton.2 rfl
  | g :: gs => by
    unfold vecs
    refine List.mem_flatMap.2 ⟨_, mem_vecs c gs, List.mem_map.2 ⟨pickG c g, ?_, rfl⟩⟩
    rcases pick_cases c g with h | ⟨j, hj, _, h⟩
    · rw [h]; exact List.mem_cons_self ..
    · rw [h]; exact List.mem_cons_of_mem _ (List.mem_map.2 ⟨j, hj, rfl⟩)
theorem code_congr {c d : List Int} : ∀ {m : Nat}, (∀ j, j < m → memN c j = memN d j) → code c m = code d m
  | 0, _ => rfl
  | m + 1, h => by
    have ih := code_congr (m := m) (fun j hj => h j (by omega))
    have h1 := h m (by omega)
    have e : c.contains (-((m : Int) + 1)) = d.contains (-((m : Int) + 1)) := by
      unfold memN at h1
      rw [Bool.eq_iff_iff, List.contains_iff_mem, List.contains_iff_mem]
      simpa using h1
    simp only [code, ih, e]
def memB (x : ByteArray) (l : List ByteArray) : Bool := l.any fun y => decide (y = x)
theorem memB_iff {x : ByteArray} {l : List ByteArray} : memB x l = true ↔ x ∈ l := by
  unfold memB
  rw [List.any_eq_true]
  exact ⟨fun ⟨y, hy, e⟩ => by have : y = x := by simpa using e
                              rw [← this]; exact hy, fun h => ⟨x, h, by simp⟩⟩
theorem memB_cons (x y : ByteArray) (l : List ByteArray) : memB x (y :: l) = (decide (y = x) || memB x l) := rfl
/-- The packages. -/
def uniqB : List ByteArray → List ByteArray
  | [] => []
  | x :: l => if memB x (uniqB l) = true then uniqB l else x :: uniqB l
theorem mem_uniq {x : ByteArray} : ∀ {l : List ByteArray}, x ∈ uniqB l ↔ x ∈ l
  | [] => Iff.rfl
  | y :: l => by
    rw [uniqB]
    split
    · rename_i h
      rw [mem_uniq, List.mem_cons]
      exact ⟨.inr, fun q => q.elim (fun e => by rw [e]; exact mem_uniq.1 (memB_iff.1 h)) id⟩
    · rw [List.mem_cons, List.mem_cons, mem_uniq]
theorem nodup_uniq : ∀ l : List ByteArray, (uniqB l).Nodup
  | [] => List.nodup_nil
  | y :: l => by
    rw [uniqB]
    split
    · exact nodup_uniq l
    · rename_i h
      exact List.nodup_cons.2 ⟨fun q => h (memB_iff.2 q), nodup_uniq l⟩
def groupN (f : Nat → ByteArray) (n : Nat) (nm : ByteArray) : List Nat := (List.range n).filter fun j => decide (f j = nm)
theorem group_sum (f : Nat → ByteArray) (n : Nat) : ∀ ns : List ByteArray, ns.Nodup → ((ns.map (groupN f n)).map List.length).sum ≤ ((List.range n).filter fun j => memB (f j) ns).length
  | [], _ => by simp
  | nm :: ns, h => by
    rw [List.nodup_cons] at h
    have ih := group_sum f n ns h.2
    rw [List.map_cons, List.map_cons, List.sum_cons]
    have key : ∀ l : List Nat, (l.filter fun j => decide (f j = nm)).length + (l.filter fun j => memB (f j) ns).length ≤ (l.filter fun j => memB (f j) (nm :: ns)).length := by
      intro l
      induction l with
      | nil => simp
      | cons j l ihl =>
        by_cases h1 : f j = nm
        · have h2 : ¬ memB (f j) ns = true := by rw [memB_iff, h1]; exact h.1
          rw [List.filter_cons_of_pos (by simp [h1]), List.filter_cons_of_neg (p := fun j => memB (f j) ns) h2, List.filter_cons_of_pos (p := fun j => memB (f j) (nm :: ns)) (by rw [memB_cons, h1]; simp)]
          simp only [List.length_cons]; omega
        · have h1' : ¬ nm = f j := fun e => h1 e.symm
          by_cases h2 : memB (f j) ns = true
          · rw [List.filter_cons_of_neg (by simp [h1]), List.filter_cons_of_pos (p := fun j => memB (f j) ns) h2, List.filter_cons_of_pos (p := fun j => memB (f j) (nm :: ns)) (by rw [memB_cons, h2]; simp)]
            simp only [List.length_cons]; omega
          · rw [List.filter_cons_of_neg (by simp [h1]), List.filter_cons_of_neg (p := fun j => memB (f j) ns) h2, List.filter_cons_of_neg (p := fun j => memB (f j) (nm :: ns)) (by rw [memB_cons]; simp [h1', h2])]
            exact ihl
    have := key (List.range n)
    unfold groupN at ih ⊢
    omega
/-- Sets of which no two items are of one package: there are not so many. -/
theorem few_sets {f : Nat → ByteArray} {n : Nat} {ns : List ByteArray} (h1 : ns.Nodup) (h2 : ns.length ≤ 8) (h3 : n ≤ 12) (hin : ∀ j, j < n → f j ∈ ns) {cs : List (List Int)} (hc : (cs.map (code · n)).Nodup)
    (hi : ∀ c ∈ cs, ∀ i k, i < n → k < n → memN c i = true → memN c k = true → f i = f k → i = k) : cs.length ≤ 1296 := by
  have gs_len : ((ns.map (groupN f n)).map List.length).sum ≤ 12 := by
    have := group_sum f n ns h1
    have h4 := List.length_filter_le (fun j => memB (f j) ns) (List.range n)
    rw [List.length_range] at h4
    omega
  have hnd : (cs.map fun c => (ns.map (groupN f n)).map (pickG c)).Nodup := by
    rw [List.Nodup, List.pairwise_map] at hc ⊢
    refine (List.pairwise_iff_forall_sublist.2 fun {c d} hs e => ?_)
    have hne := List.pairwise_iff_forall_sublist.1 hc hs
    have hcm : c ∈ cs := hs.subset (by simp)
    have hdm : d ∈ cs := hs.subset (by simp)
    have half : ∀ {c d : List Int}, c ∈ cs → d ∈ cs → ((ns.map (groupN f n)).map (pickG c) = (ns.map (groupN f n)).map (pickG d)) → ∀ j, j < n → memN c j = true → memN d j = true := fun {c d} hc hd e j hj hm => by
      have hg : j ∈ groupN f n (f j) := List.mem_filter.2 ⟨List.mem_range.2 hj, by simp⟩
      have hgm : groupN f n (f j) ∈ ns.map (groupN f n) := List.mem_map.2 ⟨_, hin j hj, rfl⟩
      have e2 : pickG c (groupN f n (f j)) = pickG d (groupN f n (f j)) := List.map_inj_left.1 e _ hgm
      have e3 : pickG c (groupN f n (f j)) = some j := by
        rcases pick_cases c (groupN f n (f j)) with h | ⟨k, hk, hmk, h⟩
        · have := List.find?_eq_none.1 h j hg
          exact absurd hm this
        · have hk2 := List.mem_filter.1 hk
          have : k = j := hi c hc k j (List.mem_range.1 hk2.1) hj hmk hm (by simpa using hk2.2)
          rw [h, this]
      rw [e2] at e3
      rcases pick_cases d (groupN f n (f j)) with h | ⟨k, hk, hmk, h⟩
      · rw [h] at e3; cases e3
      · rw [h] at e3; cases e3; exact hmk
    refine hne (code_congr fun j hj => ?_)
    cases h5 : memN c j <;> cases h6 : memN d j
    · rfl
    · rw [half hdm hcm e.symm j hj h6] at h5; cases h5
    · rw [half hcm hdm e j hj h5] at h6; cases h6
    · rfl
  have := nodup_sub hnd (m := vecs (ns.map (groupN f n))) (fun v hv => by
    obtain ⟨c, _, rfl⟩ := List.mem_map.1 hv
    exact mem_vecs c _)
  rw [List.length_map, vecs_len] at this
  exact Nat.le_trans this (prod_le (by simpa using h2) gs_len)
theorem excl_in {n : Nat} {items : List ItemM} {i k : Nat} (hik : i < k) (hk : k < n) (he : (itemAt items i).1 = (itemAt items k).1) : (-1, [-(i : Int) - 1, -(k : Int) - 1]) ∈ exclR n items := by
  unfold exclR
  refine List.mem_flatMap.2 ⟨k, List.mem_range.2 hk, ?_⟩
  unfold exclN
  exact List.mem_map.2 ⟨i, List.mem_filter.2 ⟨List.mem_range.2 hik, by simp [he]⟩, rfl⟩
/-- What the search can learn of a catalog's rules. -/
theorem fewC_rules {ls : List LineM} {items : List ItemM} (ho : CatOk ls items) (h12 : items.length ≤ 12) (some : List Bool) : FewC items.length (onlyC (rulesC ls items) some) := fun cs hc hcs => by
  have hex : ∀ i k, i < k → k < items.length → (itemAt items i).1 = (itemAt items k).1 → [-(i : Int) - 1, -(k : Int) - 1] ∈ onlyC (rulesC ls items) some := fun i k h1 h2 h3 => by
    unfold onlyC
    exact List.mem_map.2 ⟨_, List.mem_filter.2 ⟨List.mem_append_left _ (excl_in h1 h2 h3), rfl⟩, rfl⟩
  have hno : ∀ c ∈ cs, ∀ i k, i < k → k < items.length → memN c i = true → memN c k = true → (itemAt items i).1 = (itemAt items k).1 → False := fun c hcm i k h1 h2 h3 h4 h5 => by
    have e1 : -((i : Int) + 1) ∈ c := by simpa [memN] using h3
    have e2 : -((k : Int) + 1) ∈ c := by simpa [memN] using h4
    have hm := hex i k h1 h2 h5
    rw [show -(i : Int) - 1 = -((i : Int) + 1) by omega, show -(k : Int) - 1 = -((k : Int) + 1) by omega] at hm
    have := (hcs c hcm _ e1).2.2 _ e2 hm
    omega
  have hlen := few_sets (f := fun j => (itemAt items j).1) (n := items.length) (ns := uniqB (items.map (·.1))) (nodup_uniq _) (ho.names _ (nodup_uniq _) (fun nm hnm => by
      obtain ⟨it, hit, rfl⟩ := List.mem_map.1 (mem_uniq.1 hnm)
      have h1 := ho.perm.mem_iff.1 hit
      unfold itemsOf at h1
      obtain ⟨x, hx, rfl⟩ := List.mem_map.1 h1
      obtain ⟨h2, h3⟩ := List.mem_filter.1 hx
      exact ⟨x, h2, by simpa using h3, rfl⟩)) h12 (fun j hj => mem_uniq.2 (List.mem_map.2 ⟨itemAt items j, by rw [itemAt_get hj]; exact List.getElem_mem hj, rfl⟩)) (by simpa using hc) (fun c hcm i k hi hk h1 h2 h3 => by
    rcases Nat.lt_trichotomy i k with h | h | h
    · exact (hno c hcm i k h hk h1 h2 h3).elim
    · exact h
    · exact (hno c hcm k i h hi h2 h1 h3.symm).elim)
  omega
end Go.Proofs.YtheemhelioendaaGreatDoor
