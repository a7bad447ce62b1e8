import Derived.Test.YtmlfelbkgoplhaaGreatDoorZwSolF
set_option linter.unusedVariables false
set_option linter.unusedSimpArgs false
namespace Go.Proofs.YtmlfelbkgoplhaaGreatDoor
open Go.RowKit
theorem jK.one {ls ls' : List zi} {a b : List zq} (h : jK ls a) (h' : jK ls' b) (e : zC ls = zC ls') : a = b :=
 List.Perm.eq_of_pairwise (le := jb) (fun x y _ _ h1 h2 => absurd (jw h1 h2) (j4 x)) h.order h'.order (h.perm.trans (e ▸ h'.perm.symm))
def zcy (it : zq) (rv : Value) : zi := ⟨4, it.1, 0, 0, 0, ⟨#[]⟩, [(yE it.2.1 it.2.2.1 it.2.2.2, yE it.2.1 it.2.2.1 it.2.2.2 + 1)], rv⟩
theorem kN (ls : List zi) (it : zq) (rv : Value) : zC (ls ++ [zcy it rv]) = zC ls := by
 unfold zC
 rw [List.filter_append]
 simp [zcy]
theorem zlx {ls : List zi} {it : zq} (h : it ∈ zC ls) : ∃ x ∈ ls, x.kind = 1 ∧ x.item = it := by
 obtain ⟨x, hx, e⟩ := List.mem_map.1 h
 obtain ⟨h1, h2⟩ := List.mem_filter.1 hx
 exact ⟨x, h1, by simpa using h2, e⟩
theorem zlo {x : zi} (h : zP x = 0) (hk : x.kind = 1) : yj x.name = true ∧ jf x.va x.vb x.vc := by
 unfold zP at h
 rw [if_neg (by omega)] at h
 split at h
 · omega
 ·
  rename_i h1
  split at h
  · omega
  ·
   split at h
   · omega
   ·
    rename_i h3
    refine ⟨?_, zeI.1 ?_⟩
    ·
     cases e : yj x.name with
     | true => rfl
     | false => exact absurd (.inl e) h1
    ·
     cases e : zd1 x.va x.vb x.vc with
     | true => rfl
     | false => exact absurd ⟨by omega, e⟩ h3
theorem zeJ {ls : List zi} {it : zq} (ho : NewOk ls) (h : it ∈ zC ls) : yj it.1 = true ∧ jf it.2.1 it.2.2.1 it.2.2.2 := by
 obtain ⟨x, hx, hk, rfl⟩ := zlx h
 exact zlo (ho.check x hx) hk
theorem zmo {ls : List zi} {it : zq} (ho : NewOk ls) (h : it ∈ zC ls) (hl : ls.length < 100) (rv : Value) : NewOk (ls ++ [zcy it rv]) := by
 obtain ⟨hn, _⟩ := zeJ ho h
 refine ⟨by rw [List.length_append]; simp; omega, fun x hx => ?_, by rw [kN]; exact ho.twice, fun l hl hn => ?_, by rw [kN]; exact ho.most, fun x hx hk => ?_⟩
 ·
  rcases List.mem_append.1 hx with q | q
  · exact ho.check x q
  ·
   rw [List.mem_singleton.1 q]
   unfold zP zcy
   simp only
   have h1 : ¬ (yj it.1 = false ∨ (((4 : Int) = 2 ∨ (4 : Int) = 3) ∧ yj ⟨#[]⟩ = false)) := fun q => by
    rcases q with q | ⟨q, _⟩
    · rw [hn] at q; cases q
    · omega
   rw [if_neg (by omega), if_neg h1]
   simp
   rfl
 ·
  refine ho.names l hl fun n hn' => ?_
  obtain ⟨x, hx, hk, e⟩ := hn n hn'
  rcases List.mem_append.1 hx with q | q
  · exact ⟨x, q, hk, e⟩
  · rw [List.mem_singleton.1 q] at hk; simp [zcy] at hk
 ·
  rw [kN]
  rcases List.mem_append.1 hx with q | q
  · exact ho.there x q hk
  · rw [List.mem_singleton.1 q] at hk; simp [zcy] at hk
theorem zk0 {a b c : Int} (h : jf a b c) : kz (yE a b c, yE a b c + 1) := by
 have h1 := h.a; have h2 := h.b; have h3 := h.c
 unfold kz yE zO
 simp only
 omega
theorem ziD {a b c x y z : Int} (h : jf a b c) (h' : jf x y z) (e : yE a b c = yE x y z) : a = x ∧ b = y ∧ c = z := by
 have h1 := h.a; have h2 := h.b; have h3 := h.c
 have g1 := h'.a; have g2 := h'.b; have g3 := h'.c
 unfold yE at e
 omega
theorem filter_one {n k : Nat} (hk : k < n) (p : Nat → Bool) (h : ∀ i, i < n → (p i = true ↔ i = k)) : (List.range n).filter p = [k] := by
 have e : (List.range n).filter p = (List.range n).filter (fun i => decide (i = k)) := List.filter_congr fun i hi => by
  have := h i (List.mem_range.1 hi)
  cases q : p i with
  | true => exact (decide_eq_true (this.1 q)).symm
  | false => exact (decide_eq_false (fun q2 => by rw [this.2 q2] at q; cases q)).symm
 rw [e]
 clear e h
 induction n with
 | zero => omega
 | succ n ih =>
  rw [List.range_succ, List.filter_append]
  by_cases e : k = n
  ·
   subst e
   rw [List.filter_eq_nil_iff.2 (fun i hi => by have := List.mem_range.1 hi; simp; omega)]
   simp
  ·
   rw [ih (by omega)]
   simp
   omega
theorem zjY {items : List zq} (hn : items.Nodup) (hv : ∀ it ∈ items, jf it.2.1 it.2.2.1 it.2.2.2) {k : Nat} (hk : k < items.length) : qD items items[k].1 [(yE items[k].2.1 items[k].2.2.1 items[k].2.2.2, yE items[k].2.1 items[k].2.2.1 items[k].2.2.2 + 1)] = [k] := by
 unfold qD zbi
 refine filter_one hk _ fun i hi => ?_
 rw [zah hi]
 have hvi := hv _ (List.getElem_mem hi)
 have hvk := hv _ (List.getElem_mem hk)
 unfold zhO
 rw [Bool.and_eq_true, decide_eq_true_iff, zkc hvi, decide_eq_true_iff, qi]
 constructor
 ·
  rintro ⟨h1, h2, h3⟩
  have e := ziD hvi hvk (by simp only at h2 h3; omega)
  refine Decidable.byContradiction fun hne => ?_
  have hij : items[i] = items[k] := Prod.ext h1 (Prod.ext e.1 (Prod.ext e.2.1 e.2.2))
  have := List.pairwise_iff_getElem.1 hn
  rcases Nat.lt_or_gt_of_ne hne with q | q
  · exact this i k hi hk q hij
  · exact this k i hk hi q hij.symm
 ·
  rintro rfl
  exact ⟨rfl, Int.le_refl _, by simp only; omega⟩
theorem zjW {ls : List zi} {items : List zq} (ho : jK ls items) {k : Nat} (hk : k < items.length) (rv : Value) : zx (ls ++ [zcy items[k] rv]) items = zx ls items ++ [((ls.length : Int), [(k : Int) + 1])] := by
 have hn : items.Nodup := ho.perm.nodup_iff.2 ho.twice
 have hv : ∀ it ∈ items, jf it.2.1 it.2.2.1 it.2.2.2 := fun it hi => (zeJ ho.toNewOk (ho.perm.mem_iff.1 hi)).2
 unfold zx
 rw [zbI, List.append_assoc]
 congr 2
 rw [Nat.zero_add]
 unfold qP zcy
 simp only [if_pos]
 rw [zjY hn hv hk]
 rfl
theorem zmO {items : List zq} (hn : items.Nodup) {k : Nat} (hk : k < items.length) : kG items items[k] = k :=
 zhI hk rfl fun j hj e => List.pairwise_iff_getElem.1 hn j k (by omega) hk hj e
theorem zk2 {ls : List zi} {items : List zq} (ho : jK ls items) {k : Nat} (hl : ls.length < 100) {out : List Nat} (h : zcW (zx ls items ++ [((ls.length : Int), [(k : Int) + 1])]) out) (hs : zfB (zR (zx ls items))) : ∃ pre, out = pre ++ [ls.length] := by
 have key : ∀ (S : Nat → Bool) (v : Nat) (c : List Int), c ∈ y9 (zx ls items ++ [((ls.length : Int), [(k : Int) + 1])]) (jd 100 S) ↔ ∃ p ∈ zx ls items ++ [((ls.length : Int), [(k : Int) + 1])], (p.1 < 0 ∨ S p.1.toNat = true) ∧ p.2 = c := fun S v c => by
  rw [zb1]
  constructor
  ·
   rintro ⟨p, hp, hw, e⟩
   have hb : -1 ≤ p.1 ∧ p.1 < 100 := by
    rcases List.mem_append.1 hp with q | q
    · have := ji q; omega
    · rw [List.mem_singleton.1 q]; simp only; omega
   rw [zaw (by omega) (by omega)] at hw
   exact ⟨p, hp, by simpa using hw, e⟩
  ·
   rintro ⟨p, hp, hw, e⟩
   have hb : -1 ≤ p.1 ∧ p.1 < 100 := by
    rcases List.mem_append.1 hp with q | q
    · have := ji q; omega
    · rw [List.mem_singleton.1 q]; simp only; omega
   exact ⟨p, hp, by rw [zaw (by omega) (by omega)]; simpa using hw, e⟩
 have hmem : ls.length ∈ out := by
  refine Decidable.byContradiction fun hno => h.no ?_
  obtain ⟨v, hv⟩ := hs
  refine ⟨v, xQ.2 fun c hc => ?_⟩
  obtain ⟨p, hp, hw, rfl⟩ := (key _ v c).1 hc
  rcases List.mem_append.1 hp with q | q
  · exact xQ.1 hv _ (List.mem_map.2 ⟨p, q, rfl⟩)
  ·
   rw [List.mem_singleton.1 q] at hw
   simp only [Int.toNat_natCast, decide_eq_true_eq] at hw
   rcases hw with q | q
   · omega
   · exact absurd q hno
 have hlt : ∀ x ∈ out, x ≤ ls.length := fun x hx => by
  refine Decidable.byContradiction fun hgt => h.no ?_
  obtain ⟨v, hv⟩ := h.yes x hx
  refine ⟨v, xQ.2 fun c hc => ?_⟩
  obtain ⟨p, hp, hw, rfl⟩ := (key _ v c).1 hc
  refine xQ.1 hv _ ((key _ v _).2 ⟨p, hp, ?_, rfl⟩)
  have hb : p.1 ≤ ls.length := by
   rcases List.mem_append.1 hp with q | q
   · have := ji q; omega
   · rw [List.mem_singleton.1 q]; simp only; omega
  rcases hw with q | q
  · exact .inl q
  ·
   refine .inr ?_
   rw [decide_eq_true_eq] at q ⊢
   exact ⟨q, by omega⟩
 obtain ⟨a, b, rfl⟩ := List.append_of_mem hmem
 cases b with
 | nil => exact ⟨a, rfl⟩
 | cons y b =>
  have h1 := h.inc
  rw [List.pairwise_append] at h1
  have h2 := (List.pairwise_cons.1 h1.2.1).1 y (by simp)
  have h3 := hlt y (by simp)
  omega
