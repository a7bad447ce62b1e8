/- Some texts in one: ImgM, ImgS, ImgT, ImgL, ImgK, LoadM. -/
import Derived.Lib.ItoaMem
import Derived.Lib.AtoiTie
import Derived.Lib.AtoiAllCases
import Derived.Test.YthmflcmbaldflaaGreatDoorIpA
import Derived.Lib.Split
import Derived.Lib.SplitLaws
import Derived.Lib.CountLaws
import Derived.Lib.CutLaws
namespace Go.Proofs.YthmflcmbaldflaaGreatDoor
set_option linter.unusedVariables false

theorem dig_of (n : Nat) (h : n < 10) : Lib.digitVal (UInt8.ofNat (48 + n)) = some n := by
  have e : (UInt8.ofNat (48 + n)).toNat = 48 + n := by simp; omega
  unfold Lib.digitVal
  rw [e, if_pos (by omega)]
  congr 1; omega
theorem decFrom_snoc (b : UInt8) (d : Nat) (hb : Lib.digitVal b = some d) : ∀ (l : List UInt8) (acc n : Nat), Lib.decFrom acc l = some n → Lib.decFrom acc (l ++ [b]) = some (n * 10 + d)
  | [], acc, n, h => by
    simp only [Lib.decFrom, Option.some.injEq] at h
    subst h
    simp [Lib.decFrom, hb]
  | c :: r, acc, n, h => by
    simp only [List.cons_append, Lib.decFrom] at h ⊢
    cases e : Lib.digitVal c with
    | none => rw [e] at h; cases h
    | some k => rw [e] at h; exact decFrom_snoc b d hb r _ n h
theorem decFrom_digits (u : Nat) : Lib.decFrom 0 (Lib.decDigits u) = some u := by
  induction u using Nat.strongRecOn with
  | _ u ih =>
    rw [Lib.decDigits]
    split
    · rename_i h
      have := dig_of u h
      simp only [Lib.decFrom, this]
      simp
    · rename_i h
      rw [decFrom_snoc _ _ (dig_of (u % 10) (by omega)) _ _ _ (ih (u / 10) (by omega))]
      congr 1; omega
theorem digits_ne (u : Nat) : Lib.decDigits u ≠ [] := by
  intro e
  have := Lib.decDigits_length u
  rw [e] at this
  have := Lib.nDigits_pos u
  simp at *; omega
theorem digits_ch (u : Nat) : ∀ c ∈ Lib.decDigits u, 48 ≤ c.toNat ∧ c.toNat ≤ 57 := by
  intro c hc
  obtain ⟨k, hk⟩ := List.mem_iff_getElem?.1 hc
  obtain ⟨d, hd⟩ := Lib.digit_of_decFrom _ _ _ (decFrom_digits u) k c hk
  have := Lib.digitVal_eq hd
  omega
theorem digits_inj {u v : Nat} (h : Lib.decDigits u = Lib.decDigits v) : u = v := by
  have h1 := decFrom_digits u
  rw [h, decFrom_digits v] at h1
  injection h1 with h1
  exact h1.symm
theorem digits_len {u : Nat} (h : u < 10000) : 1 ≤ (Lib.decDigits u).length ∧ (Lib.decDigits u).length ≤ 4 := by
  rw [Lib.decDigits_length]
  refine ⟨Lib.nDigits_pos u, ?_⟩
  unfold Lib.nDigits; split
  · omega
  · unfold Lib.nDigits; split
    · omega
    · unfold Lib.nDigits; split
      · omega
      · unfold Lib.nDigits; split
        · omega
        · omega
/-- strconv.Itoa of what is not below 0. -/
def dec (n : Nat) : List UInt8 := Lib.decDigits n
theorem itoa_dec (n : Nat) : Lib.itoa (n : Int) = dec n := Lib.itoa_nonneg n
theorem atoi_dec (n : Nat) (h : n < 1000000000000000000) : Lib.atoiAll (dec n) = .ok (n : Int) := by
  have hl : (dec n).length ≤ 18 := by
    unfold dec
    rw [Lib.decDigits_length]
    rcases Nat.lt_or_ge 18 (Lib.nDigits n) with h1 | h1
    · obtain ⟨k, hk⟩ : ∃ k, Lib.nDigits n = k + 1 := ⟨Lib.nDigits n - 1, by omega⟩
      have key : ∀ (k u : Nat), Lib.nDigits u = k + 1 → 1 ≤ k → 10 ^ k ≤ u := by
        intro k
        induction k with
        | zero => intro u _ h; omega
        | succ k ih =>
          intro u hu _
          rcases Nat.lt_or_ge u 10 with h9 | h9
          · rw [Lib.nDigits_small h9] at hu; omega
          · rw [Lib.nDigits_big (by omega)] at hu
            rw [Nat.pow_succ]
            rcases Nat.eq_zero_or_pos k with rfl | hk0
            · omega
            · have := ih (u / 10) (by omega) hk0; omega
      have h2 := key k n hk (by omega)
      have h3 : 10 ^ 18 ≤ 10 ^ k := Nat.pow_le_pow_right (by decide) (by omega)
      have h4 : (10 : Nat) ^ 18 = 1000000000000000000 := by decide
      omega
    · exact h1
  rw [Lib.atoiAll_short _ hl]
  unfold dec
  have hn := digits_ne n
  have hc := digits_ch n
  have hd := decFrom_digits n
  cases e : Lib.decDigits n with
  | nil => exact absurd e hn
  | cons c r =>
    have := hc c (by rw [e]; exact List.mem_cons_self ..)
    rw [e] at hd
    have e1 : (c == 45) = false := by
      refine beq_false_of_ne ?_
      rintro rfl; simp at this
    have e2 : (c == 43) = false := by
      refine beq_false_of_ne ?_
      rintro rfl; simp at this
    unfold Lib.atoi Lib.decNat
    simp only [e1, e2, hd]
    simp [Lib.NumEnd.ofOption]

/-- The sum over bytes. -/
def sumL : List UInt8 → Nat → Nat
  | [], n => n
  | x :: r, n => sumL r ((41 * n + x.toNat) % 9973)
def sumM (b : List UInt8) : Nat := sumL b 19
theorem sumL_lt : ∀ (l : List UInt8) (n : Nat), n < 9973 → sumL l n < 9973
  | [], _, h => h
  | x :: r, n, _ => sumL_lt r _ (Nat.mod_lt _ (by decide))
theorem sumM_lt (b : List UInt8) : sumM b < 9973 := sumL_lt b 19 (by decide)
theorem sumL_inj : ∀ (l : List UInt8) (a b : Nat), a < 9973 → b < 9973 → sumL l a = sumL l b → a = b
  | [], _, _, _, _, h => h
  | x :: r, a, b, ha, hb, h => by
    have h1 := sumL_inj r _ _ (Nat.mod_lt _ (by decide)) (Nat.mod_lt _ (by decide)) h
    omega
theorem sumL_append : ∀ (l r : List UInt8) (n : Nat), sumL (l ++ r) n = sumL r (sumL l n)
  | [], _, _ => rfl
  | x :: l, r, n => sumL_append l r _
theorem sumM_set {A : List UInt8} {i : Nat} {x y : UInt8} (hi : A[i]? = some x) (h : sumM (A.set i y) = sumM A) : y = x := by
  obtain ⟨hlt, hx⟩ := List.getElem?_eq_some_iff.1 hi
  have e1 : A = A.take i ++ x :: A.drop (i + 1) := by rw [← hx]; simp
  have e2 : A.set i y = A.take i ++ y :: A.drop (i + 1) := by rw [List.set_eq_take_append_cons_drop, if_pos hlt]
  unfold sumM at h
  rw [e2] at h
  rw [show sumL A 19 = sumL (A.take i ++ x :: A.drop (i + 1)) 19 by rw [← e1]] at h
  rw [sumL_append, sumL_append] at h
  have h1 := sumL_inj _ _ _ (Nat.mod_lt _ (by decide)) (Nat.mod_lt _ (by decide)) h
  have hx := x.toNat_lt; have hy := y.toNat_lt
  apply UInt8.toNat_inj.1
  omega
/-- A text with its sum behind it. -/
def sumT : List UInt8 := [115, 117, 109, 32]
def sealedT (A : List UInt8) : List UInt8 := A ++ (sumT ++ (dec (sumM A) ++ [10]))
theorem sealedT_len (A : List UInt8) : (sealedT A).length = A.length + (dec (sumM A)).length + 5 := by
  unfold sealedT sumT; simp; omega
theorem dec_sum (A : List UInt8) : 1 ≤ (dec (sumM A)).length ∧ (dec (sumM A)).length ≤ 4 := digits_len (Nat.lt_trans (sumM_lt A) (by decide))
theorem sealed_at (A : List UInt8) (j : Nat) : (sealedT A)[A.length + j]? = (sumT ++ (dec (sumM A) ++ [10]))[j]? := by
  unfold sealedT
  rw [List.getElem?_append_right (by omega)]
  congr 1; omega
/-- One text's sum is longer than the other one's: they differ in two places. -/
theorem shift_two {A B : List UInt8} {k : Nat} (hk : 1 ≤ k) (hk3 : k ≤ 3) (hl : A.length = B.length + k) : (sealedT B)[A.length]? ≠ (sealedT A)[A.length]? ∧ (sealedT B)[A.length + 1]? ≠ (sealedT A)[A.length + 1]? := by
  have a0 := sealed_at A 0
  have a1 := sealed_at A 1
  have b0 := sealed_at B k
  have b1 := sealed_at B (k + 1)
  rw [Nat.add_zero] at a0
  rw [← hl] at b0
  rw [show B.length + (k + 1) = A.length + 1 by omega] at b1
  rw [a0, a1, b0, b1]
  obtain ⟨h1, _⟩ := dec_sum B
  have hd := digits_ch (sumM B)
  unfold dec at *
  cases e : Lib.decDigits (sumM B) with
  | nil => rw [e] at h1; simp at h1
  | cons c r =>
    have hc := hd c (by rw [e]; exact List.mem_cons_self ..)
    have hc2 : c ≠ 117 := by intro h; rw [h] at hc; simp at hc
    rcases (by omega : k = 1 ∨ k = 2 ∨ k = 3) with rfl | rfl | rfl <;> simp [sumT, hc2]
theorem sealed_one {A B : List UInt8} {i : Nat} {x y : UInt8} (hi : (sealedT A)[i]? = some x) (hne : y ≠ x) : (sealedT A).set i y ≠ sealedT B := by
  intro h
  have hl : (sealedT A).length = (sealedT B).length := by rw [← h]; simp
  have hoth : ∀ j, j ≠ i → (sealedT B)[j]? = (sealedT A)[j]? := fun j hj => by rw [← h, List.getElem?_set_ne (by omega)]
  obtain ⟨a1, a2⟩ := dec_sum A
  obtain ⟨b1, b2⟩ := dec_sum B
  rw [sealedT_len, sealedT_len] at hl
  rcases Nat.lt_trichotomy A.length B.length with hab | hab | hab
  · obtain ⟨q1, q2⟩ := shift_two (A := B) (B := A) (k := B.length - A.length) (by omega) (by omega) (by omega)
    rcases Nat.decEq B.length i with e | e
    · exact q1 (hoth _ e).symm
    · exact q2 (hoth _ (by omega)).symm
  · have hdl : (dec (sumM A)).length = (dec (sumM B)).length := by omega
    rcases Nat.lt_or_ge i A.length with h1 | h1
    · -- a byte of the text ahead of the sum
      have hB : B = A.set i y := by
        have e1 : (sealedT B).take B.length = B := by unfold sealedT; simp
        have e2 : ((sealedT A).set i y).take A.length = A.set i y := by
          unfold sealedT
          rw [List.set_append_left _ _ h1]
          rw [List.take_left' (by simp)]
        rw [← e1, ← h, ← hab, e2]
      have hD : dec (sumM A) = dec (sumM B) := by
        have e1 : (sealedT B).drop B.length = sumT ++ (dec (sumM B) ++ [10]) := by unfold sealedT; simp
        have e2 : ((sealedT A).set i y).drop A.length = sumT ++ (dec (sumM A) ++ [10]) := by
          unfold sealedT
          rw [List.set_append_left _ _ h1]
          rw [List.drop_left' (by simp)]
        rw [h, hab, e1] at e2
        have := List.append_cancel_left e2
        exact (List.append_cancel_right this).symm
      have hs := digits_inj hD
      rw [hB] at hs
      have hA : A[i]? = some x := by
        rw [← hi]; unfold sealedT; rw [List.getElem?_append_left h1]
      exact hne (sumM_set hA hs.symm)
    · have hAB : A = B := by
        refine List.ext_getElem? fun j => ?_
        rcases Nat.lt_or_ge j A.length with h2 | h2
        · have := hoth j (by omega)
          unfold sealedT at this
          rw [List.getElem?_append_left h2, List.getElem?_append_left (by omega)] at this
          exact this.symm
        · rw [List.getElem?_eq_none h2, List.getElem?_eq_none (by omega)]
      rw [← hAB] at h
      have : ((sealedT A).set i y)[i]? = some y := by
        rw [List.getElem?_set_self]
        exact (List.getElem?_eq_some_iff.1 hi).1
      rw [h, hi] at this
      injection this with this
      exact hne this.symm
  · obtain ⟨q1, q2⟩ := shift_two (A := A) (B := B) (k := A.length - B.length) (by omega) (by omega) (by omega)
    rcases Nat.decEq A.length i with e | e
    · exact q1 (hoth _ e)
    · exact q2 (hoth _ (by omega))
end Go.Proofs.YthmflcmbaldflaaGreatDoor
namespace Go.Proofs.YthmflcmbaldflaaGreatDoor
set_option linter.unusedVariables false

/-- Where a handle stands among those that have a number. -/
def numM (ks : List Int) (h : Int) : Nat := ks.idxOf h
/-- A node's line. -/
def lineM (c : Cells) (ks : List Int) (h : Int) : List UInt8 := match getM c h with
  | some n => dec n.1.toNat ++ 32 :: (dec (numM ks n.2.1) ++ 32 :: (dec (numM ks n.2.2) ++ [10]))
  | none => []
/-- All lines. -/
def bodyM (c : Cells) (ks : List Int) : List UInt8 := ((ks.drop 2).map (lineM c ks)).flatten
/-- The walk: who has a number then, in order. -/
def walkM : Nat → Cells → Int → List Int → List Int
  | 0, _, _, ks => ks
  | f + 1, c, h, ks => if h ∈ ks then ks else match getM c h with
    | some n => walkM f c n.2.2 (walkM f c n.2.1 ks) ++ [h]
    | none => ks
def startK : List Int := [0, 1]
def orderM (c : Cells) (h : Int) : List Int := walkM 25 c h startK
def headM (V : Nat) (n t : Nat) : List UInt8 := [115, 112, 97, 99, 101, 32] ++ (dec V ++ 32 :: (dec n ++ 32 :: (dec t ++ [10])))
def outM (V : Nat) (c : Cells) (h : Int) : List UInt8 := headM V ((orderM c h).length - 2) (numM (orderM c h) h) ++ bodyM c (orderM c h)
def saveM (V : Nat) (c : Cells) (h : Int) : List UInt8 := sealedT (outM V c h)

/-- Who has a number is a node, behind those that it leads to. -/
structure KOk (c : Cells) (ks : List Int) : Prop where
  start : ks.take 2 = [0, 1]
  nodup : ks.Nodup
  node : ∀ i x, ks[i]? = some x → 2 ≤ i → ∃ n, getM c x = some n ∧ n.2.1 ∈ ks.take i ∧ n.2.2 ∈ ks.take i
theorem kok_start (c : Cells) : KOk c startK := ⟨rfl, by decide, fun i x hx hi => by
  have := (List.getElem?_eq_some_iff.1 hx).1
  simp [startK] at this; omega⟩
section
variable {c : Cells} {ks : List Int}
theorem KOk.len (k : KOk c ks) : 2 ≤ ks.length := by
  have := congrArg List.length k.start
  rw [List.length_take] at this
  simp at this; omega
theorem KOk.zero (k : KOk c ks) : (0 : Int) ∈ ks := by
  have : (0 : Int) ∈ ks.take 2 := by rw [k.start]; simp
  exact List.mem_of_mem_take this
theorem KOk.one (k : KOk c ks) : (1 : Int) ∈ ks := by
  have : (1 : Int) ∈ ks.take 2 := by rw [k.start]; simp
  exact List.mem_of_mem_take this
theorem KOk.has (k : KOk c ks) {x : Int} (hx : x ∈ ks) : hasM c x = true := by
  obtain ⟨i, hi⟩ := List.mem_iff_getElem?.1 hx
  rcases Nat.lt_or_ge i 2 with h2 | h2
  · have : (ks.take 2)[i]? = some x := by rw [List.getElem?_take]; simp [h2, hi]
    rw [k.start] at this
    rcases (by omega : i = 0 ∨ i = 1) with rfl | rfl
    · simp at this; subst this; exact hasM_zero _
    · simp at this; subst this; exact hasM_one _
  · obtain ⟨n, hn, _⟩ := k.node i x hi h2
    exact has_of_get hn
theorem KOk.kids (k : KOk c ks) {x : Int} {n : Nd} (hx : x ∈ ks) (hn : getM c x = some n) : n.2.1 ∈ ks ∧ n.2.2 ∈ ks := by
  obtain ⟨i, hi⟩ := List.mem_iff_getElem?.1 hx
  rcases Nat.lt_or_ge i 2 with h2 | h2
  · have : (ks.take 2)[i]? = some x := by rw [List.getElem?_take]; simp [h2, hi]
    rw [k.start] at this
    rcases (by omega : i = 0 ∨ i = 1) with rfl | rfl
    · simp at this; subst this; rw [getM_end c (.inl rfl)] at hn; cases hn
    · simp at this; subst this; rw [getM_end c (.inr rfl)] at hn; cases hn
  · obtain ⟨m, hm, h3, h4⟩ := k.node i x hi h2
    rw [hn] at hm
    injection hm with hm
    subst hm
    exact ⟨List.mem_of_mem_take h3, List.mem_of_mem_take h4⟩
theorem KOk.snoc (k : KOk c ks) {h : Int} {n : Nd} (hh : h ∉ ks) (hn : getM c h = some n) (h1 : n.2.1 ∈ ks) (h2 : n.2.2 ∈ ks) : KOk c (ks ++ [h]) := by
  have hl := k.len
  refine ⟨by rw [List.take_append_of_le_length hl]; exact k.start, ?_, fun i x hx hi => ?_⟩
  · rw [List.nodup_append]
    exact ⟨k.nodup, by simp, fun a ha b hb => by rw [List.mem_singleton.1 hb]; rintro rfl; exact hh ha⟩
  · rcases Nat.lt_or_ge i ks.length with h3 | h3
    · rw [List.getElem?_append_left h3] at hx
      rw [List.take_append_of_le_length (by omega)]
      exact k.node i x hx hi
    · have h4 := (List.getElem?_eq_some_iff.1 hx).1
      simp at h4
      obtain rfl : i = ks.length := by omega
      rw [List.getElem?_append_right (Nat.le_refl _), Nat.sub_self] at hx
      simp at hx
      subst hx
      rw [List.take_left' rfl]
      exact ⟨n, hn, h1, h2⟩
theorem KOk.le (k : KOk c ks) : ks.length ≤ c.length + 2 := by
  have hn : (ks.map Int.toNat).Nodup := by
    rw [List.nodup_iff_pairwise_ne, List.pairwise_map]
    refine List.Pairwise.imp_of_mem (fun {a b} ha hb hab => ?_) (List.nodup_iff_pairwise_ne.1 k.nodup)
    have h1 := hasM_nonneg (k.has ha)
    have h2 := hasM_nonneg (k.has hb)
    omega
  have := nodup_bound (c.length + 2) _ hn (fun x hx => by
    obtain ⟨y, hy, rfl⟩ := List.mem_map.1 hx
    have h1 := hasM_nonneg (k.has hy)
    have h2 := hasM_le (k.has hy)
    omega)
  simpa using this
end
theorem numM_app {ks l : List Int} {x : Int} (h : x ∈ ks) : numM (ks ++ l) x = numM ks x := by
  unfold numM; rw [List.idxOf_append, if_pos h]
theorem numM_lt {ks : List Int} {x : Int} (h : x ∈ ks) : numM ks x < ks.length := List.idxOf_lt_length_iff.2 h
theorem numM_new {ks : List Int} {x : Int} (h : x ∉ ks) : numM (ks ++ [x]) x = ks.length := by
  unfold numM; rw [List.idxOf_append, if_neg h]; simp
theorem numM_get {ks : List Int} {x : Int} (h : x ∈ ks) : ks[numM ks x]? = some x := by
  unfold numM
  have hl := List.idxOf_lt_length_iff.2 h
  rw [List.getElem?_eq_getElem hl, List.getElem_idxOf]
theorem lineM_app {c : Cells} {ks l : List Int} {h : Int} (hk : ∀ n, getM c h = some n → n.2.1 ∈ ks ∧ n.2.2 ∈ ks) : lineM c (ks ++ l) h = lineM c ks h := by
  unfold lineM
  cases e : getM c h with
  | none => rfl
  | some n =>
    obtain ⟨h1, h2⟩ := hk n e
    simp only [numM_app h1, numM_app h2]
theorem bodyM_snoc {c : Cells} {ks : List Int} (k : KOk c ks) {h : Int} {n : Nd} (hn : getM c h = some n) (h1 : n.2.1 ∈ ks) (h2 : n.2.2 ∈ ks) : bodyM c (ks ++ [h]) = bodyM c ks ++ lineM c ks h := by
  unfold bodyM
  rw [List.drop_append_of_le_length k.len, List.map_append, List.flatten_append]
  congr 1
  · congr 1
    refine List.map_congr_left fun x hx => ?_
    exact lineM_app (fun m hm => k.kids (List.mem_of_mem_drop hx) hm)
  · simp only [List.map_cons, List.map_nil, List.flatten_cons, List.flatten_nil, List.append_nil]
    exact lineM_app (fun m hm => by rw [hn] at hm; injection hm with hm; subst hm; exact ⟨h1, h2⟩)
theorem dec_len {n : Nat} (h : n < 10000) : (dec n).length ≤ 4 := (digits_len h).2
theorem lineM_len {c : Cells} (o : Ok c) {ks : List Int} (hl : ks.length < 10000) (h : Int) : (lineM c ks h).length ≤ 15 := by
  unfold lineM
  cases e : getM c h with
  | none => simp
  | some n =>
    have h0 := o.kids e
    have hle : ∀ x, numM ks x < 10000 := fun x => by
      have : numM ks x ≤ ks.length := List.idxOf_le_length
      omega
    have a := dec_len (n := n.1.toNat) (by omega)
    have b := dec_len (hle n.2.1)
    have d := dec_len (hle n.2.2)
    simp; omega
theorem bodyM_len {c : Cells} (o : Ok c) {ks : List Int} (hl : ks.length < 10000) : (bodyM c ks).length ≤ 15 * ks.length := by
  unfold bodyM
  have key : ∀ l : List Int, ((l.map (lineM c ks)).flatten).length ≤ 15 * l.length := by
    intro l
    induction l with
    | nil => simp
    | cons x l ih =>
      have := lineM_len o hl x
      simp only [List.map_cons, List.flatten_cons, List.length_append, List.length_cons]
      omega
  have := key (ks.drop 2)
  rw [List.length_drop] at this
  omega
/-- Whom the walk adds stands no higher. -/
theorem walkM_top {c : Cells} (o : Ok c) : ∀ (f : Nat) (h : Int) (ks : List Int), ∀ y ∈ walkM f c h ks, y ∈ ks ∨ topM c h ≤ topM c y
  | 0, _, _, y, hy => .inl hy
  | f + 1, h, ks, y, hy => by
    unfold walkM at hy
    split at hy
    · exact .inl hy
    · cases e : getM c h with
      | none => rw [e] at hy; exact .inl hy
      | some n =>
        rw [e] at hy
        obtain ⟨b1, b2, k1, k2, k3, k4⟩ := o.kids e
        have ht := top_node e
        rcases List.mem_append.1 hy with h1 | h1
        · rcases walkM_top o f _ _ y h1 with h2 | h2
          · rcases walkM_top o f _ _ y h2 with h3 | h3
            · exact .inl h3
            · exact .inr (by omega)
          · exact .inr (by omega)
        · rw [List.mem_singleton.1 h1]; exact .inr (Int.le_refl _)
/-- What the walk leaves. -/
theorem walkM_ok {c : Cells} (o : Ok c) : ∀ (f : Nat) (h : Int) (ks : List Int), (24 - topM c h).toNat < f → hasM c h = true → KOk c ks → KOk c (walkM f c h ks) ∧ h ∈ walkM f c h ks ∧ ks <+: walkM f c h ks
  | 0, _, _, h1, _, _ => absurd h1 (Nat.not_lt_zero _)
  | f + 1, h, ks, hf, hh, k => by
    unfold walkM
    split
    · rename_i hm; exact ⟨k, hm, List.prefix_refl _⟩
    · rename_i hm
      cases e : getM c h with
      | none =>
        rcases getM_none_of_has hh e with rfl | rfl
        · exact absurd k.zero hm
        · exact absurd k.one hm
      | some n =>
        obtain ⟨b1, b2, k1, k2, k3, k4⟩ := o.kids e
        have ht := top_node e
        rw [ht] at hf
        obtain ⟨a1, a2, a3⟩ := walkM_ok o f n.2.1 ks (by omega) k1 k
        obtain ⟨d1, d2, d3⟩ := walkM_ok o f n.2.2 _ (by omega) k2 a1
        have hni : h ∉ walkM f c n.2.2 (walkM f c n.2.1 ks) := by
          intro hin
          rcases walkM_top o f _ _ h hin with h2 | h2
          · rcases walkM_top o f _ _ h h2 with h3 | h3
            · exact hm h3
            · omega
          · omega
        exact ⟨d1.snoc hni e (d3.subset a2) d2, by simp, (a3.trans d3).trans (List.prefix_append _ _)⟩
theorem orderM_ok {c : Cells} (o : Ok c) {h : Int} (hh : hasM c h = true) : KOk c (orderM c h) ∧ h ∈ orderM c h := by
  have := topM_le o h
  obtain ⟨a, b, _⟩ := walkM_ok o 25 h startK (by omega) hh (kok_start c)
  exact ⟨a, b⟩
end Go.Proofs.YthmflcmbaldflaaGreatDoor
namespace Go.Proofs.YthmflcmbaldflaaGreatDoor
set_option linter.unusedVariables false

def bytB (l : List UInt8) : ByteArray := ⟨l.toArray⟩
theorem bytB_data (l : List UInt8) : (bytB l).data.toList = l := rfl
theorem bytB_size (l : List UInt8) : (bytB l).size = l.length := rfl
theorem bytB_inj {l m : List UInt8} (h : bytB l = bytB m) : l = m := by
  have := congrArg (fun s : ByteArray => s.data.toList) h
  simpa [bytB_data] using this
theorem bytB_self (s : ByteArray) : bytB s.data.toList = s := rfl
theorem bytB_extract (l : List UInt8) (i k : Nat) : (bytB l).extract i k = bytB ((l.drop i).take (k - i)) := by
  apply ByteArray.ext
  apply Array.toList_inj.1
  rw [Lib.extract_data]
  unfold bytB
  simp
theorem bindex_byte {x : UInt8} : ∀ {A R : List UInt8}, (∀ y ∈ A, y ≠ x) → Lib.index (A ++ x :: R) [x] = (A.length : Int)
  | [], R, _ => by
    show (if ([x] : List UInt8).isPrefixOf (x :: R) then (0 : Int) else _) = _
    rw [if_pos (by simp [List.isPrefixOf])]
    rfl
  | y :: A, R, h => by
    have hy : y ≠ x := h y (List.mem_cons_self ..)
    have ih := bindex_byte (x := x) (A := A) (R := R) (fun z hz => h z (List.mem_cons_of_mem _ hz))
    show (if ([x] : List UInt8).isPrefixOf (y :: (A ++ x :: R)) then (0 : Int) else if Lib.index (A ++ x :: R) [x] == -1 then -1 else Lib.index (A ++ x :: R) [x] + 1) = _
    rw [if_neg (by simp [List.isPrefixOf, Ne.symm hy]), ih, if_neg (by rw [beq_iff_eq]; omega)]
    simp
theorem bindex_none {x : UInt8} : ∀ {A : List UInt8}, (∀ y ∈ A, y ≠ x) → Lib.index A [x] = -1
  | [], _ => by
    show (if ([x] : List UInt8).isEmpty then (0 : Int) else -1) = -1
    rw [if_neg (by simp)]
  | y :: A, h => by
    have hy : y ≠ x := h y (List.mem_cons_self ..)
    have ih := bindex_none (x := x) (A := A) (fun z hz => h z (List.mem_cons_of_mem _ hz))
    show (if ([x] : List UInt8).isPrefixOf (y :: A) then (0 : Int) else if Lib.index A [x] == -1 then -1 else Lib.index A [x] + 1) = -1
    rw [if_neg (by simp [List.isPrefixOf, Ne.symm hy]), ih]
    rfl
/-- A text's pieces between a byte. -/
def cutB (x : UInt8) (s : ByteArray) : List ByteArray := Lib.splitB (bytB [x]) 0 (Lib.countB s (bytB [x])) s
theorem cut_hit {x : UInt8} {A R : List UInt8} (h : ∀ y ∈ A, y ≠ x) : cutB x (bytB (A ++ x :: R)) = bytB A :: cutB x (bytB R) := by
  have hi : Lib.indexB (bytB (A ++ x :: R)) (bytB [x]) = (A.length : Nat) := bindex_byte h
  have e0 : (bytB (A ++ x :: R)).extract 0 A.length = bytB A := by rw [bytB_extract]; simp
  have hs : (bytB [x]).size = 1 := rfl
  have e2 : (bytB (A ++ x :: R)).extract (A.length + (bytB [x]).size) (bytB (A ++ x :: R)).size = bytB R := by
    rw [hs, bytB_extract, bytB_size]
    congr 1
    rw [List.take_of_length_le (by simp; omega)]
    rw [show A.length + 1 = (A ++ [x]).length by simp, show A ++ x :: R = (A ++ [x]) ++ R by simp, List.drop_left]
  unfold cutB
  rw [Lib.countB_hit _ _ _ (by rw [hs]; exact Nat.le_refl _) hi, e2, Nat.add_comm 1, Lib.splitB_hit _ _ _ _ _ hi, e2, Nat.add_zero, e0]
theorem cut_last {x : UInt8} {A : List UInt8} (h : ∀ y ∈ A, y ≠ x) : cutB x (bytB A) = [bytB A] := by
  unfold cutB
  rw [Lib.splitB_miss _ _ _ _ (bindex_none h)]
/-- Three numbers as words. -/
theorem dec_ne {n : Nat} {x : UInt8} (hx : x.toNat < 48) : ∀ y ∈ dec n, y ≠ x := fun y hy e => by
  have := digits_ch n y hy
  rw [e] at this; omega
def tripT (a b d : Nat) : List UInt8 := dec a ++ 32 :: (dec b ++ 32 :: dec d)
theorem trip_words (a b d : Nat) : cutB 32 (bytB (tripT a b d)) = [bytB (dec a), bytB (dec b), bytB (dec d)] := by
  unfold tripT
  rw [cut_hit (dec_ne (by decide)), cut_hit (dec_ne (by decide)), cut_last (dec_ne (by decide))]
theorem trip_nl (a b d : Nat) : ∀ y ∈ tripT a b d, y ≠ 10 := by
  intro y hy
  unfold tripT at hy
  simp only [List.mem_append, List.mem_cons] at hy
  rcases hy with h | rfl | h | rfl | h
  · exact dec_ne (by decide) y h
  · decide
  · exact dec_ne (by decide) y h
  · decide
  · exact dec_ne (by decide) y h
def spaceT : List UInt8 := [115, 112, 97, 99, 101]
theorem head_words (V n t : Nat) : cutB 32 (bytB (spaceT ++ 32 :: tripT V n t)) = [bytB spaceT, bytB (dec V), bytB (dec n), bytB (dec t)] := by
  rw [cut_hit (by decide), trip_words]
theorem headM_eq (V n t : Nat) : headM V n t = (spaceT ++ 32 :: tripT V n t) ++ [10] := by
  unfold headM spaceT tripT; simp
/-- A node's three numbers. -/
def tripM (c : Cells) (ks : List Int) (h : Int) : Nat × Nat × Nat := match getM c h with
  | some n => (n.1.toNat, numM ks n.2.1, numM ks n.2.2)
  | none => (0, 0, 0)
theorem lineM_eq {c : Cells} {ks : List Int} {h : Int} {n : Nd} (e : getM c h = some n) : lineM c ks h = tripT (tripM c ks h).1 (tripM c ks h).2.1 (tripM c ks h).2.2 ++ [10] := by
  unfold lineM tripM tripT
  rw [e]
  simp
/-- The lines between. -/
theorem body_cut {c : Cells} {ks : List Int} (R : List UInt8) : ∀ (l : List Int), (∀ x ∈ l, ∃ n, getM c x = some n) → cutB 10 (bytB ((l.map (lineM c ks)).flatten ++ R)) = l.map (fun x => bytB (tripT (tripM c ks x).1 (tripM c ks x).2.1 (tripM c ks x).2.2)) ++ cutB 10 (bytB R)
  | [], _ => rfl
  | x :: l, h => by
    obtain ⟨n, hn⟩ := h x (List.mem_cons_self ..)
    rw [List.map_cons, List.flatten_cons, lineM_eq hn]
    rw [show (tripT (tripM c ks x).1 (tripM c ks x).2.1 (tripM c ks x).2.2 ++ [10] ++ (l.map (lineM c ks)).flatten) ++ R = tripT (tripM c ks x).1 (tripM c ks x).2.1 (tripM c ks x).2.2 ++ 10 :: ((l.map (lineM c ks)).flatten ++ R) by simp]
    rw [cut_hit (trip_nl _ _ _), body_cut R l (fun y hy => h y (List.mem_cons_of_mem _ hy))]
    rfl
/-- The lines of what Save writes. -/
theorem save_lines {V : Nat} {c : Cells} {h : Int} (k : KOk c (orderM c h)) : cutB 10 (bytB (saveM V c h)) =
    bytB (spaceT ++ 32 :: tripT V ((orderM c h).length - 2) (numM (orderM c h) h)) :: (((orderM c h).drop 2).map (fun x => bytB (tripT (tripM c (orderM c h) x).1 (tripM c (orderM c h) x).2.1 (tripM c (orderM c h) x).2.2)) ++ [bytB (sumT ++ dec (sumM (outM V c h))), bytB []]) := by
  have hnode : ∀ x ∈ (orderM c h).drop 2, ∃ n, getM c x = some n := fun x hx => by
    obtain ⟨i, hi⟩ := List.mem_iff_getElem?.1 hx
    rw [List.getElem?_drop] at hi
    obtain ⟨n, hn, _⟩ := k.node _ x hi (by omega)
    exact ⟨n, hn⟩
  have e : saveM V c h = (spaceT ++ 32 :: tripT V ((orderM c h).length - 2) (numM (orderM c h) h)) ++ 10 :: ((((orderM c h).drop 2).map (lineM c (orderM c h))).flatten ++ ((sumT ++ dec (sumM (outM V c h))) ++ 10 :: [])) := by
    unfold saveM sealedT
    rw [show outM V c h = headM V ((orderM c h).length - 2) (numM (orderM c h) h) ++ bodyM c (orderM c h) from rfl, headM_eq]
    unfold bodyM
    simp
  rw [e, cut_hit ?_, body_cut _ _ hnode, cut_hit ?_, cut_last (by simp)]
  · intro y hy
    rcases List.mem_append.1 hy with h1 | h1
    · exact (by decide : ∀ y ∈ sumT, y ≠ 10) y h1
    · exact dec_ne (by decide) y h1
  · intro y hy
    simp only [List.mem_append, List.mem_cons] at hy
    rcases hy with h1 | rfl | h1
    · exact (by decide : ∀ y ∈ spaceT, y ≠ 10) y h1
    · decide
    · exact trip_nl _ _ _ y h1
end Go.Proofs.YthmflcmbaldflaaGreatDoor
namespace Go.Proofs.YthmflcmbaldflaaGreatDoor
set_option linter.unusedVariables false

section
variable (c : Cells) (K : List Int) (R : Nat)
def nodeAt (j : Nat) : Nd := match getM c (K.getD (j + 2) 0) with
  | some n => (n.1, (numM K n.2.1 : Int), (numM K n.2.2 : Int))
  | none => (0, 0, 0)
/-- What is there when i lines were read. -/
def cI (i : Nat) : Cells := (List.range R).map fun j => if j < i then some (nodeAt c K j) else none
end
section
variable {c : Cells} {K : List Int} {R : Nat}
theorem cI_len (i : Nat) : (cI c K R i).length = R := by simp [cI]
theorem cI_at (i j : Nat) : (cI c K R i).at j = if j < i ∧ j < R then some (nodeAt c K j) else none := by
  rcases Nat.lt_or_ge j R with h | h
  · rw [at_get (by rw [cI_len]; exact h)]
    simp [cI, h]
  · rw [at_ge (by rw [cI_len]; exact h), if_neg (by omega)]
theorem cI_zero : cI c K R 0 = List.replicate R none := by
  unfold cI
  refine List.ext_getElem (by simp) (fun i h1 h2 => by simp)
theorem num_at (k : KOk c K) {p : Nat} {x : Int} (h : K[p]? = some x) : numM K x = p := by
  obtain ⟨h1, h2⟩ := List.getElem?_eq_some_iff.1 h
  unfold numM
  subst h2
  exact k.nodup.idxOf_getElem p h1
theorem num_inj {x y : Int} (hx : x ∈ K) (hy : y ∈ K) (e : numM K x = numM K y) : x = y := by
  have h1 := numM_get hx
  rw [e, numM_get hy] at h1
  injection h1 with h1
  exact h1.symm
theorem num_zero (k : KOk c K) : numM K 0 = 0 := by
  refine num_at k ?_
  have : (K.take 2)[0]? = some 0 := by rw [k.start]; rfl
  rwa [List.getElem?_take_of_lt (by omega)] at this
theorem num_one (k : KOk c K) : numM K 1 = 1 := by
  refine num_at k ?_
  have : (K.take 2)[1]? = some 1 := by rw [k.start]; rfl
  rwa [List.getElem?_take_of_lt (by omega)] at this
theorem num_lt_of_take {x : Int} {i : Nat} (h : x ∈ K.take i) : x ∈ K ∧ numM K x < i := by
  have hm := List.mem_of_mem_take h
  refine ⟨hm, ?_⟩
  have e : numM K x = numM (K.take i) x := by
    have := numM_app (l := K.drop i) h
    rwa [List.take_append_drop] at this
  rw [e]
  have := numM_lt h
  rw [List.length_take] at this
  omega
/-- A numbered handle's node, anew. -/
theorem getM_num (k : KOk c K) {i : Nat} (hi : i ≤ R) {x : Int} (hx : x ∈ K) (hlt : numM K x < i + 2) : getM (cI c K R i) (numM K x : Int) = (getM c x).map fun n => (n.1, (numM K n.2.1 : Int), (numM K n.2.2 : Int)) := by
  have hg := numM_get hx
  rcases Nat.lt_or_ge (numM K x) 2 with h2 | h2
  · rw [getM_end _ (by omega)]
    have : (K.take 2)[numM K x]? = some x := by rw [List.getElem?_take_of_lt h2]; exact hg
    rw [k.start] at this
    rcases (by omega : numM K x = 0 ∨ numM K x = 1) with e | e <;> rw [e] at this <;> simp at this <;> subst this
    · rw [getM_end c (.inl rfl)]; rfl
    · rw [getM_end c (.inr rfl)]; rfl
  · obtain ⟨j, hj⟩ : ∃ j, numM K x = j + 2 := ⟨numM K x - 2, by omega⟩
    rw [hj, show ((j + 2 : Nat) : Int) = (j : Int) + 2 by omega, getM_node, cI_at, if_pos (by omega)]
    rw [hj] at hg
    obtain ⟨n, hn, _⟩ := k.node _ x hg (by omega)
    unfold nodeAt
    rw [List.getD_eq_getElem?_getD, hg, Option.getD_some, hn]
    rfl
theorem topM_num (k : KOk c K) {i : Nat} (hi : i ≤ R) {x : Int} (hx : x ∈ K) (hlt : numM K x < i + 2) : topM (cI c K R i) (numM K x : Int) = topM c x := by
  unfold topM
  rw [getM_num k hi hx hlt]
  cases getM c x <;> rfl
theorem hasM_num (k : KOk c K) {i : Nat} (hi : i ≤ R) {x : Int} (hx : x ∈ K) (hlt : numM K x < i + 2) : hasM (cI c K R i) (numM K x : Int) = true := by
  have hh := k.has hx
  cases e : getM c x with
  | none =>
    rcases getM_none_of_has hh e with rfl | rfl
    · rw [num_zero k]; exact hasM_zero _
    · rw [num_one k]; exact hasM_one _
  | some n =>
    refine has_of_get (n := (n.1, (numM K n.2.1 : Int), (numM K n.2.2 : Int))) ?_
    rw [getM_num k hi hx hlt, e]; rfl
/-- A line is read. -/
theorem mk_step (o : Ok c) (k : KOk c K) {i : Nat} (hi : i < R) (hK : i + 2 < K.length) : mkM (cI c K R i) (nodeAt c K i) = (cI c K R (i + 1), (i : Int) + 2, 0) := by
  have hx : K[i + 2]? = some K[i + 2] := List.getElem?_eq_getElem hK
  generalize K[i + 2] = x at hx
  obtain ⟨n, hn, hl, hh⟩ := k.node _ x hx (by omega)
  have hnd : nodeAt c K i = (n.1, (numM K n.2.1 : Int), (numM K n.2.2 : Int)) := by
    unfold nodeAt; rw [List.getD_eq_getElem?_getD, hx, Option.getD_some, hn]
  obtain ⟨l1, l2⟩ := num_lt_of_take hl
  obtain ⟨m1, m2⟩ := num_lt_of_take hh
  obtain ⟨b1, b2, k1, k2, k3, k4⟩ := o.kids hn
  have hb : badM (cI c K R i) (nodeAt c K i) = 0 := by
    rw [hnd]
    exact badM_zero b1 b2 (hasM_num k (by omega) l1 l2) (hasM_num k (by omega) m1 m2) (by rw [topM_num k (by omega) l1 l2]; exact k3) (by rw [topM_num k (by omega) m1 m2]; exact k4)
  have hf : findM (cI c K R i) (nodeAt c K i) = none := by
    cases e : findM (cI c K R i) (nodeAt c K i) with
    | none => rfl
    | some j =>
      exfalso
      have h1 := findM_some e
      rw [cI_at] at h1
      split at h1
      · rename_i hj
        injection h1 with h1
        have hjl : j + 2 < K.length := by omega
        have hy : K[j + 2]? = some K[j + 2] := List.getElem?_eq_getElem hjl
        generalize K[j + 2] = y at hy
        obtain ⟨m, hm, hl', hh'⟩ := k.node _ y hy (by omega)
        have hnd' : nodeAt c K j = (m.1, (numM K m.2.1 : Int), (numM K m.2.2 : Int)) := by
          unfold nodeAt; rw [List.getD_eq_getElem?_getD, hy, Option.getD_some, hm]
        rw [hnd, hnd'] at h1
        simp only [Prod.mk.injEq] at h1
        have e1 := num_inj (num_lt_of_take hl').1 l1 (by omega)
        have e2 := num_inj (num_lt_of_take hh').1 m1 (by omega)
        have emn : m = n := by
          obtain ⟨a, b, d⟩ := m
          obtain ⟨a', b', d'⟩ := n
          simp only at h1 e1 e2
          rw [h1.1, e1, e2]
        subst emn
        obtain ⟨p, hp, hpa, _⟩ := getM_some hm
        obtain ⟨q, hq, hqa, _⟩ := getM_some hn
        have := o.uniq p q m hpa hqa
        have hxy : x = y := by omega
        have q1 := num_at k hx
        have q2 := num_at k hy
        rw [hxy] at q1
        omega
      · cases h1
  have hr : freeM (cI c K R i) = some i := freeM_at (by rw [cI_len]; exact hi) (by rw [cI_at, if_neg (by omega)]) (fun j hj => by rw [cI_at, if_pos (by omega)]; rfl)
  unfold mkM
  rw [if_neg (by simp [hb]), hf, hr]
  simp only [Prod.mk.injEq, and_true]
  refine List.ext_getElem (by simp [cI_len]) (fun j h1 h2 => ?_)
  rw [cI_len] at h2
  rw [List.getElem_set]
  simp only [cI, List.getElem_map, List.getElem_range]
  by_cases e : i = j
  · subst e; rw [if_pos rfl, if_pos (by omega)]
  · rw [if_neg e]
    by_cases h3 : j < i
    · rw [if_pos h3, if_pos (by omega)]
    · rw [if_neg h3, if_neg (by omega)]
theorem ok_none (R : Nat) : Ok (List.replicate R none : Cells) := by
  have h : ∀ k n, Cells.at (List.replicate R none) k ≠ some n := fun k n e => by
    unfold Cells.at at e
    rw [List.getD_eq_getElem?_getD, List.getElem?_replicate] at e
    split at e <;> cases e
  exact ⟨fun k n e => absurd e (h k n), fun k n e => absurd e (h k n), fun k n e => absurd e (h k n), fun j k n e => absurd e (h j n)⟩
theorem cI_ok (o : Ok c) (k : KOk c K) : ∀ i, i ≤ R → i + 2 ≤ K.length → Ok (cI c K R i)
  | 0, _, _ => by rw [cI_zero]; exact ok_none R
  | i + 1, h1, h2 => by
    have := mkM_ok (cI_ok o k i (by omega) (by omega)) (nodeAt c K i)
    rwa [mk_step o k (by omega) (by omega)] at this
/-- All is read: the same function. -/
theorem den_num (o : Ok c) (k : KOk c K) (hR : K.length ≤ R + 2) (val : Int → Bool) : ∀ x, x ∈ K → den (cI c K R (K.length - 2)) (numM K x : Int) val = den c x val := by
  have hl := k.len
  have o' := cI_ok (R := R) o k (K.length - 2) (by omega) (by omega)
  have hg : ∀ x, x ∈ K → getM (cI c K R (K.length - 2)) (numM K x : Int) = (getM c x).map fun n => (n.1, (numM K n.2.1 : Int), (numM K n.2.2 : Int)) := fun x hx => getM_num k (by omega) hx (by have := numM_lt hx; omega)
  refine node_ind o (Q := fun x => x ∈ K → den (cI c K R (K.length - 2)) (numM K x : Int) val = den c x val) (fun x g hx => ?_) (fun x n g ih1 ih2 hx => ?_)
  · have h1 := hg x hx
    rw [g] at h1
    rw [den_end h1, den_end g]
    rcases getM_none_of_has (k.has hx) g with rfl | rfl
    · rw [num_zero k]; rfl
    · rw [num_one k]; rfl
  · have h1 := hg x hx
    rw [g] at h1
    obtain ⟨a, b⟩ := k.kids hx g
    rw [den_node o' h1, den_node o g]
    simp only
    rw [ih1 a, ih2 b]
/-- The numbering of what is read. -/
theorem walk_num (k : KOk c K) (hR : K.length ≤ R + 2) : ∀ (f : Nat) (x : Int) (ks : List Int), x ∈ K → (∀ y ∈ ks, y ∈ K) →
    walkM f (cI c K R (K.length - 2)) (numM K x : Int) (ks.map fun y => (numM K y : Int)) = (walkM f c x ks).map (fun y => (numM K y : Int)) ∧ ∀ y ∈ walkM f c x ks, y ∈ K
  | 0, _, ks, _, hk => ⟨rfl, hk⟩
  | f + 1, x, ks, hx, hk => by
    have hl := k.len
    have hg := getM_num (R := R) k (i := K.length - 2) (by omega) hx (by have := numM_lt hx; omega)
    have hmem : (numM K x : Int) ∈ (ks.map fun y => (numM K y : Int)) ↔ x ∈ ks := by
      rw [List.mem_map]
      refine ⟨fun ⟨y, hy, e⟩ => ?_, fun h => ⟨x, h, rfl⟩⟩
      rw [← num_inj (hk y hy) hx (by omega)]; exact hy
    unfold walkM
    by_cases hm : x ∈ ks
    · rw [if_pos (hmem.2 hm), if_pos hm]; exact ⟨rfl, hk⟩
    · rw [if_neg (fun h => hm (hmem.1 h)), if_neg hm, hg]
      cases e : getM c x with
      | none => exact ⟨rfl, hk⟩
      | some n =>
        obtain ⟨a, b⟩ := k.kids hx e
        obtain ⟨h1, h2⟩ := walk_num k hR f n.2.1 ks a hk
        obtain ⟨h3, h4⟩ := walk_num k hR f n.2.2 _ b h2
        simp only [Option.map_some]
        rw [h1, h3]
        refine ⟨by simp, fun y hy => ?_⟩
        rcases List.mem_append.1 hy with h5 | h5
        · exact h4 y h5
        · rw [List.mem_singleton.1 h5]; exact hx
end
theorem num_map {K L : List Int} {x : Int} (hx : x ∈ K) (hL : ∀ y ∈ L, y ∈ K) (hxL : x ∈ L) : numM (L.map fun y => (numM K y : Int)) (numM K x : Int) = numM L x := by
  induction L with
  | nil => cases hxL
  | cons y L ih =>
    unfold numM at *
    rw [List.map_cons, List.idxOf_cons, List.idxOf_cons]
    by_cases e : y = x
    · subst e; simp
    · have h1 : ((List.idxOf y K : Int) == (List.idxOf x K : Int)) = false := by
        refine beq_false_of_ne (fun h => e ?_)
        exact num_inj (hL y (List.mem_cons_self ..)) hx (by unfold numM; omega)
      have h2 : (y == x) = false := beq_false_of_ne e
      rw [h1, h2]
      simp only [cond_false]
      have hx2 : x ∈ L := by
        rcases List.mem_cons.1 hxL with h | h
        · exact absurd h.symm e
        · exact h
      rw [ih (fun z hz => hL z (List.mem_cons_of_mem _ hz)) hx2]
section
variable {c : Cells} {R : Nat} {h : Int}
/-- What is read is written the same. -/
theorem save_num {V : Nat} (o : Ok c) (hh : hasM c h = true) (hR : c.length ≤ R) :
    saveM V (cI c (orderM c h) R ((orderM c h).length - 2)) (numM (orderM c h) h : Int) = saveM V c h ∧
    orderM (cI c (orderM c h) R ((orderM c h).length - 2)) (numM (orderM c h) h : Int) = (orderM c h).map (fun y => (numM (orderM c h) y : Int)) := by
  obtain ⟨k, hm⟩ := orderM_ok o hh
  have hle := k.le
  have hl := k.len
  generalize hK : orderM c h = K at *
  have hw := walk_num k (R := R) (by omega) 25 h startK hm (fun y hy => by
    rcases List.mem_cons.1 hy with rfl | hy
    · exact k.zero
    · rw [List.mem_singleton.1 hy]; exact k.one)
  have hs : startK.map (fun y => (numM K y : Int)) = startK := by
    unfold startK; simp [num_zero k, num_one k]
  rw [hs] at hw
  have hord : orderM (cI c K R (K.length - 2)) (numM K h : Int) = K.map (fun y => (numM K y : Int)) := by
    unfold orderM; rw [hw.1]; unfold orderM at hK; rw [hK]
  refine ⟨?_, hord⟩
  have hnum : ∀ x ∈ K, numM (K.map fun y => (numM K y : Int)) (numM K x : Int) = numM K x := fun x hx => num_map hx (fun y hy => hy) hx
  unfold saveM outM
  rw [hord, hK]
  have hb : bodyM (cI c K R (K.length - 2)) (K.map (fun y => (numM K y : Int))) = bodyM c K := by
    unfold bodyM
    rw [← List.map_drop, List.map_map]
    congr 1
    refine List.map_congr_left fun x hx => ?_
    have hxK := List.mem_of_mem_drop hx
    have hg := getM_num (R := R) k (i := K.length - 2) (by omega) hxK (by have := numM_lt hxK; omega)
    show lineM _ _ (numM K x : Int) = lineM c K x
    unfold lineM
    rw [hg]
    cases e : getM c x with
    | none => rfl
    | some n =>
      obtain ⟨a, b⟩ := k.kids hxK e
      simp only [Option.map_some]
      rw [hnum _ a, hnum _ b]
  rw [hb, hnum h hm, List.length_map]
end
/-- Who gets a number is reached. -/
theorem walk_rch {c : Cells} (o : Ok c) : ∀ (f : Nat) (h : Int) (ks : List Int), ∀ y ∈ walkM f c h ks, y ∈ ks ∨ ∀ k : Nat, y = (k : Int) + 2 → RchC c [h] k
  | 0, _, _, y, hy => .inl hy
  | f + 1, h, ks, y, hy => by
    unfold walkM at hy
    split at hy
    · exact .inl hy
    · cases e : getM c h with
      | none => rw [e] at hy; exact .inl hy
      | some n =>
        rw [e] at hy
        obtain ⟨p, rfl, hp, _⟩ := getM_some e
        have h0 : RchC c [(p : Int) + 2] p := RchC.start hp (by simp)
        have up : ∀ z : Int, (z = n.2.1 ∨ z = n.2.2) → ∀ k : Nat, RchC c [z] k → RchC c [(p : Int) + 2] k := by
          intro z hz k hk
          refine Rch.ind (Q := fun k => RchC c [(p : Int) + 2] k) (fun k hu hm => ?_) (fun k k' _ ih hu e => Rch.low k k' ih hu e) (fun k k' _ ih hu e => Rch.high k k' ih hu e) hk
          have hz2 := List.mem_singleton.1 hm
          obtain ⟨m, hm2⟩ := Option.isSome_iff_exists.1 hu
          rcases hz with rfl | rfl
          · exact RchC.low h0 hp hm2 hz2.symm
          · exact RchC.high h0 hp hm2 hz2.symm
        rcases List.mem_append.1 hy with h1 | h1
        · rcases walk_rch o f _ _ y h1 with h2 | h2
          · rcases walk_rch o f _ _ y h2 with h3 | h3
            · exact .inl h3
            · exact .inr (fun k hk => up _ (.inl rfl) k (h3 k hk))
          · exact .inr (fun k hk => up _ (.inr rfl) k (h2 k hk))
        · rw [List.mem_singleton.1 h1]
          refine .inr (fun k hk => ?_)
          have : p = k := by omega
          subst this; exact h0
end Go.Proofs.YthmflcmbaldflaaGreatDoor
namespace Go.Proofs.YthmflcmbaldflaaGreatDoor
set_option linter.unusedVariables false

/-- A text's three numbers. -/
def TripR (s : ByteArray) (a b d : Nat) : Prop := cutB 32 s = [bytB (dec a), bytB (dec b), bytB (dec d)]
theorem dec_inj {a b : Nat} (h : bytB (dec a) = bytB (dec b)) : a = b := digits_inj (bytB_inj h)
theorem TripR.one {s : ByteArray} {a b d a' b' d' : Nat} (h : TripR s a b d) (h' : TripR s a' b' d') : a = a' ∧ b = b' ∧ d = d' := by
  unfold TripR at h h'
  rw [h] at h'
  simp only [List.cons.injEq, and_true] at h'
  exact ⟨dec_inj h'.1, dec_inj h'.2.1, dec_inj h'.2.2⟩
/-- A line's node, by the handles told so far. -/
def ndL (p : Cells × List Int) (a b d : Nat) : Nd := ((a : Int), p.2.getD b 0, p.2.getD d 0)
/-- A line is read. -/
def StepL (V : Nat) (p : Cells × List Int) (s : ByteArray) (p' : Cells × List Int) : Prop :=
  ∃ a b d, TripR s a b d ∧ a < V ∧ b < p.2.length ∧ d < p.2.length ∧ b ≠ d ∧ (mkM p.1 (ndL p a b d)).2.2 = 0 ∧ p' = ((mkM p.1 (ndL p a b d)).1, p.2 ++ [(mkM p.1 (ndL p a b d)).2.1])
theorem StepL.one {V : Nat} {p q r : Cells × List Int} {s : ByteArray} (h : StepL V p s q) (h' : StepL V p s r) : q = r := by
  obtain ⟨a, b, d, h1, _, _, _, _, _, rfl⟩ := h
  obtain ⟨a', b', d', h1', _, _, _, _, _, rfl⟩ := h'
  obtain ⟨rfl, rfl, rfl⟩ := h1.one h1'
  rfl
def LinesL (V : Nat) : Cells × List Int → List ByteArray → Cells × List Int → Prop
  | p, [], q => q = p
  | p, s :: l, q => ∃ p', StepL V p s p' ∧ LinesL V p' l q
theorem LinesL.one {V : Nat} : ∀ {l : List ByteArray} {p q r : Cells × List Int}, LinesL V p l q → LinesL V p l r → q = r
  | [], _, _, _, h, h' => h.trans h'.symm
  | s :: l, p, q, r, ⟨p', h1, h2⟩, ⟨p'', h1', h2'⟩ => by
    obtain rfl := h1.one h1'
    exact LinesL.one h2 h2'
theorem LinesL.snoc {V : Nat} {s : ByteArray} : ∀ {l : List ByteArray} {p q r : Cells × List Int}, LinesL V p l q → StepL V q s r → LinesL V p (l ++ [s]) r
  | [], p, q, r, h, h' => by subst h; exact ⟨r, h', rfl⟩
  | x :: l, p, q, r, ⟨p', h1, h2⟩, h' => ⟨p', h1, LinesL.snoc h2 h'⟩
theorem LinesL.split {V : Nat} : ∀ {l l' : List ByteArray} {p r : Cells × List Int}, LinesL V p (l ++ l') r → ∃ q, LinesL V p l q ∧ LinesL V q l' r
  | [], l', p, r, h => ⟨p, rfl, h⟩
  | x :: l, l', p, r, ⟨p', h1, h2⟩ => by
    obtain ⟨q, h3, h4⟩ := LinesL.split (l := l) h2
    exact ⟨q, ⟨p', h1, h3⟩, h4⟩
/-- What holds of the handles so far. -/
structure POk (p : Cells × List Int) : Prop where
  ok : Ok p.1
  has : ∀ h ∈ p.2, hasM p.1 h = true
theorem StepL.pok {V : Nat} {p q : Cells × List Int} {s : ByteArray} (k : POk p) (h : StepL V p s q) : POk q ∧ q.1.length = p.1.length ∧ q.2.length = p.2.length + 1 := by
  obtain ⟨a, b, d, _, _, _, _, _, h0, rfl⟩ := h
  have e := mkM_ext p.1 (ndL p a b d)
  refine ⟨⟨mkM_ok k.ok _, fun h hh => ?_⟩, e.len, by simp⟩
  rcases List.mem_append.1 hh with h1 | h1
  · exact e.has (k.has h h1)
  · rw [List.mem_singleton.1 h1]; exact has_of_get (mkM_get h0)
theorem LinesL.pok {V : Nat} : ∀ {l : List ByteArray} {p q : Cells × List Int}, POk p → LinesL V p l q → POk q ∧ q.1.length = p.1.length ∧ q.2.length = p.2.length + l.length
  | [], p, q, k, h => by subst h; exact ⟨k, rfl, rfl⟩
  | s :: l, p, q, k, ⟨p', h1, h2⟩ => by
    obtain ⟨k1, k2, k3⟩ := h1.pok k
    obtain ⟨m1, m2, m3⟩ := LinesL.pok k1 h2
    exact ⟨m1, m2.trans k2, by rw [m3, k3, List.length_cons]; omega⟩
theorem pok_start (R : Nat) : POk (List.replicate R none, startK) := ⟨ok_none R, fun h hh => by
  rcases List.mem_cons.1 hh with rfl | hh
  · exact hasM_zero _
  · rw [List.mem_singleton.1 hh]; exact hasM_one _⟩
/-- What a text's head says. -/
def HeadR (s : ByteArray) (V n t : Nat) : Prop := cutB 32 s = [bytB spaceT, bytB (dec V), bytB (dec n), bytB (dec t)]
theorem HeadR.one {s : ByteArray} {a b d a' b' d' : Nat} (h : HeadR s a b d) (h' : HeadR s a' b' d') : a = a' ∧ b = b' ∧ d = d' := by
  unfold HeadR at h h'
  rw [h] at h'
  simp only [List.cons.injEq, and_true, true_and] at h'
  exact ⟨dec_inj h'.1, dec_inj h'.2.1, dec_inj h'.2.2⟩
structure LoadOk (R : Nat) (ds : ByteArray) (V : Nat) (c : Cells) (h : Int) : Prop where
  small : ds.size ≤ 20000
  form : ∃ (hd : ByteArray) (ls : List ByteArray) (s1 s2 : ByteArray) (t : Nat) (hs : List Int), cutB 10 ds = hd :: (ls ++ [s1, s2]) ∧ HeadR hd V ls.length t ∧ LinesL V (List.replicate R none, startK) ls (c, hs) ∧ t < hs.length ∧ h = hs.getD t 0
  vars : V ≤ 24
  again : ds = bytB (saveM V c h)
theorem LoadOk.one {R : Nat} {ds : ByteArray} {V V' : Nat} {c c' : Cells} {h h' : Int} (l : LoadOk R ds V c h) (l' : LoadOk R ds V' c' h') : V = V' ∧ c = c' ∧ h = h' := by
  obtain ⟨hd, ls, s1, s2, t, hs, e, e1, e2, e3, rfl⟩ := l.form
  obtain ⟨hd', ls', s1', s2', t', hs', f, f1, f2, f3, rfl⟩ := l'.form
  rw [e] at f
  simp only [List.cons.injEq] at f
  obtain ⟨rfl, f⟩ := f
  have hls : ls = ls' := by
    have h1 := congrArg List.length f
    have h2 := congrArg (List.take ls.length) f
    simp at h1
    rw [List.take_left' rfl, h1, List.take_left' rfl] at h2
    exact h2
  subst hls
  obtain ⟨rfl, _, rfl⟩ := e1.one f1
  have := e2.one f2
  simp only [Prod.mk.injEq] at this
  obtain ⟨rfl, rfl⟩ := this
  exact ⟨rfl, rfl, rfl⟩
section
variable {c : Cells} {K : List Int} {R : Nat}
/-- The handles of what Save writes. -/
def handlesI (i : Nat) : List Int := (List.range (i + 2)).map fun j : Nat => (j : Int)
theorem handlesI_succ (i : Nat) : handlesI (i + 1) = handlesI i ++ [(i : Int) + 2] := by
  unfold handlesI
  rw [show i + 1 + 2 = (i + 2) + 1 by omega, List.range_succ, List.map_append]
  simp
theorem handlesI_at {i j : Nat} (h : j < i + 2) : (handlesI i).getD j 0 = (j : Int) := by
  unfold handlesI
  simp [List.getD_eq_getElem?_getD, h]
theorem handlesI_len (i : Nat) : (handlesI i).length = i + 2 := by simp [handlesI]
def lineB (c : Cells) (K : List Int) (x : Int) : ByteArray := bytB (tripT (tripM c K x).1 (tripM c K x).2.1 (tripM c K x).2.2)
theorem step_back {V : Nat} (o : COk V c) (k : KOk c K) {i : Nat} (hi : i < R) (hK : i + 2 < K.length) : StepL V (cI c K R i, handlesI i) (lineB c K (K.getD (i + 2) 0)) (cI c K R (i + 1), handlesI (i + 1)) := by
  have hx : K[i + 2]? = some K[i + 2] := List.getElem?_eq_getElem hK
  rw [List.getD_eq_getElem?_getD, hx, Option.getD_some]
  have hm := mk_step (R := R) o.ok k hi hK
  generalize K[i + 2] = x at hx
  obtain ⟨n, hn, hl, hh⟩ := k.node _ x hx (by omega)
  have hnd : nodeAt c K i = (n.1, (numM K n.2.1 : Int), (numM K n.2.2 : Int)) := by
    unfold nodeAt; rw [List.getD_eq_getElem?_getD, hx, Option.getD_some, hn]
  obtain ⟨l1, l2⟩ := num_lt_of_take hl
  obtain ⟨m1, m2⟩ := num_lt_of_take hh
  obtain ⟨b1, b2, _⟩ := o.ok.kids hn
  obtain ⟨p, hp, hpa, _⟩ := getM_some hn
  have hv := o.vlt p n hpa
  have hr := o.red p n hpa
  have hne : ndL (cI c K R i, handlesI i) n.1.toNat (numM K n.2.1) (numM K n.2.2) = nodeAt c K i := by
    rw [hnd]
    unfold ndL
    simp only [handlesI_at l2, handlesI_at m2]
    rw [Int.toNat_of_nonneg b1]
  refine ⟨n.1.toNat, numM K n.2.1, numM K n.2.2, ?_, by omega, by rw [handlesI_len]; exact l2, by rw [handlesI_len]; exact m2, fun e => hr (num_inj l1 m1 e), ?_, ?_⟩
  · unfold TripR lineB tripM
    rw [hn]
    exact trip_words _ _ _
  · rw [hne, hm]
  · rw [hne, hm, handlesI_succ]
theorem lines_back {V : Nat} (o : COk V c) (k : KOk c K) : ∀ (i : Nat), i ≤ R → i + 2 ≤ K.length → LinesL V (cI c K R 0, handlesI 0) ((List.range i).map fun j => lineB c K (K.getD (j + 2) 0)) (cI c K R i, handlesI i)
  | 0, _, _ => rfl
  | i + 1, h1, h2 => by
    rw [List.range_succ, List.map_append]
    exact (lines_back o k i (by omega) (by omega)).snoc (step_back o k (by omega) (by omega))
end
/-- WHAT SAVE WRITES IS READ. -/
theorem load_back {V R : Nat} {c : Cells} {h : Int} (hV : V ≤ 24) (o : COk V c) (hh : hasM c h = true) (hR : c.length ≤ R) (hs : (saveM V c h).length ≤ 20000) :
    LoadOk R (bytB (saveM V c h)) V (cI c (orderM c h) R ((orderM c h).length - 2)) (numM (orderM c h) h : Int) := by
  obtain ⟨k, hm⟩ := orderM_ok o.ok hh
  have hle := k.le
  have hl := k.len
  refine ⟨hs, ⟨_, _, _, _, numM (orderM c h) h, handlesI ((orderM c h).length - 2), save_lines k, ?_, ?_, ?_, ?_⟩, hV, ?_⟩
  · rw [List.length_map, List.length_drop]
    exact head_words _ _ _
  · have := lines_back (R := R) o k ((orderM c h).length - 2) (by omega) (by omega)
    rw [cI_zero] at this
    have e : handlesI 0 = startK := rfl
    rw [e] at this
    have e2 : ((orderM c h).drop 2).map (fun x => bytB (tripT (tripM c (orderM c h) x).1 (tripM c (orderM c h) x).2.1 (tripM c (orderM c h) x).2.2)) = (List.range ((orderM c h).length - 2)).map fun j => lineB c (orderM c h) ((orderM c h).getD (j + 2) 0) := by
      refine List.ext_getElem (by simp) (fun j h1 h2 => ?_)
      simp only [List.getElem_map, List.getElem_drop, List.getElem_range]
      rw [List.length_map, List.length_drop] at h1
      unfold lineB
      rw [List.getD_eq_getElem?_getD, List.getElem?_eq_getElem (by omega), Option.getD_some]
      congr 2 <;> simp only [Nat.add_comm]
    rw [e2]; exact this
  · rw [handlesI_len]
    have := numM_lt hm; omega
  · rw [handlesI_at (by have := numM_lt hm; omega)]
  · rw [(save_num o.ok hh hR).1]
/-- All that is read is reached. -/
theorem reach_back {V R : Nat} {c : Cells} {h : Int} (o : COk V c) (hh : hasM c h = true) (hR : c.length ≤ R) :
    (reachM (cI c (orderM c h) R ((orderM c h).length - 2)) [(numM (orderM c h) h : Int)]).length = cnt (cI c (orderM c h) R ((orderM c h).length - 2)) := by
  classical
  obtain ⟨k, hm⟩ := orderM_ok o.ok hh
  have hle := k.le
  have hl := k.len
  have ho := (save_num (V := V) o.ok hh hR).2
  have o' := cI_ok (R := R) o.ok k ((orderM c h).length - 2) (by omega) (by omega)
  have hw := walk_rch o' 25 (numM (orderM c h) h : Int) startK
  rw [cnt_range]
  unfold reachM
  rw [List.length_map]
  congr 1
  refine List.filter_congr fun j hj => ?_
  rw [cI_len] at hj
  have hjR := List.mem_range.1 hj
  rw [cI_at]
  by_cases h1 : j < (orderM c h).length - 2 ∧ j < R
  · rw [if_pos h1]
    have hx : (orderM c h)[j + 2]? = some (orderM c h)[j + 2] := List.getElem?_eq_getElem (by omega)
    have hnum := num_at k hx
    have hin : ((j : Int) + 2) ∈ orderM (cI c (orderM c h) R ((orderM c h).length - 2)) (numM (orderM c h) h : Int) := by
      rw [ho, List.mem_map]
      exact ⟨(orderM c h)[j + 2], List.getElem_mem (by omega), by rw [hnum]; omega⟩
    rcases hw _ hin with h2 | h2
    · rcases List.mem_cons.1 h2 with h3 | h3
      · omega
      · have := List.mem_singleton.1 h3; omega
    · rw [decide_eq_true (h2 j rfl)]; rfl
  · rw [if_neg h1]
    have : ¬ RchC (cI c (orderM c h) R ((orderM c h).length - 2)) [(numM (orderM c h) h : Int)] j := fun h2 => by
      obtain ⟨n, hn⟩ := h2.used
      rw [cI_at, if_neg h1] at hn
      cases hn
    rw [decide_eq_false this]; rfl
/-- What is read is in order. -/
theorem cok_back {V R : Nat} {c : Cells} {h : Int} (o : COk V c) (hh : hasM c h = true) (hR : c.length ≤ R) : COk V (cI c (orderM c h) R ((orderM c h).length - 2)) := by
  obtain ⟨k, hm⟩ := orderM_ok o.ok hh
  have hle := k.le
  have hl := k.len
  have key : ∀ j n, (cI c (orderM c h) R ((orderM c h).length - 2)).at j = some n → ∃ x m, getM c x = some m ∧ m.2.1 ∈ orderM c h ∧ m.2.2 ∈ orderM c h ∧ n = (m.1, (numM (orderM c h) m.2.1 : Int), (numM (orderM c h) m.2.2 : Int)) := by
    intro j n hn
    rw [cI_at] at hn
    split at hn
    · rename_i hj
      injection hn with hn
      have hx : (orderM c h)[j + 2]? = some (orderM c h)[j + 2] := List.getElem?_eq_getElem (by omega)
      generalize (orderM c h)[j + 2] = x at hx
      obtain ⟨m, hm1, hl1, hl2⟩ := k.node _ x hx (by omega)
      refine ⟨x, m, hm1, List.mem_of_mem_take hl1, List.mem_of_mem_take hl2, ?_⟩
      rw [← hn]
      unfold nodeAt; rw [List.getD_eq_getElem?_getD, hx, Option.getD_some, hm1]
    · cases hn
  refine ⟨cI_ok (R := R) o.ok k ((orderM c h).length - 2) (by omega) (by omega), fun j n hn => ?_, fun j n hn => ?_⟩
  · obtain ⟨x, m, h1, h2, h3, rfl⟩ := key j n hn
    obtain ⟨p, hp, hpa, _⟩ := getM_some h1
    intro e
    exact o.red p m hpa (num_inj h2 h3 (by simp only at e; omega))
  · obtain ⟨x, m, h1, h2, h3, rfl⟩ := key j n hn
    obtain ⟨p, hp, hpa, _⟩ := getM_some h1
    exact o.vlt p m hpa
end Go.Proofs.YthmflcmbaldflaaGreatDoor
namespace Go.Proofs.YthmflcmbaldflaaGreatDoor
set_option linter.unusedVariables false

def NoLoad (R : Nat) (ds : ByteArray) : Prop := ∀ V c h, ¬ LoadOk R ds V c h
theorem load_big {R : Nat} {ds : ByteArray} (h : 20000 < ds.size) : NoLoad R ds := fun V c x l => by have := l.small; omega
theorem load_form {R : Nat} {ds : ByteArray} {V : Nat} {c : Cells} {h : Int} (l : LoadOk R ds V c h) {hd : ByteArray} {rest : List ByteArray} (e : cutB 10 ds = hd :: rest) : ∃ ls s1 s2 t hs, rest = ls ++ [s1, s2] ∧ HeadR hd V ls.length t ∧ LinesL V (List.replicate R none, startK) ls (c, hs) ∧ t < hs.length ∧ h = hs.getD t 0 := by
  obtain ⟨hd', ls, s1, s2, t, hs, e', h1, h2, h3, h4⟩ := l.form
  rw [e] at e'
  injection e' with e1 e2
  subst e1
  exact ⟨ls, s1, s2, t, hs, e2, h1, h2, h3, h4⟩
theorem lines_len {R : Nat} {V : Nat} {ls : List ByteArray} {c : Cells} {hs : List Int} (h : LinesL V (List.replicate R none, startK) ls (c, hs)) : hs.length = ls.length + 2 := by
  have := (h.pok (pok_start R)).2.2
  rw [this]; show 2 + _ = _; omega
/-- The head does not say so. -/
theorem load_head {R : Nat} {ds hd : ByteArray} {rest : List ByteArray} (e : cutB 10 ds = hd :: rest) (hno : ∀ V n t, V ≤ 24 → n + 2 = rest.length → t < n + 2 → ¬ HeadR hd V n t) : NoLoad R ds := fun V c h l => by
  obtain ⟨ls, s1, s2, t, hs, rfl, h1, h2, h3, _⟩ := load_form l e
  have := lines_len h2
  exact hno V ls.length t l.vars (by simp) (by omega) h1
section
variable {R : Nat} {ds hd s1 s2 : ByteArray} {ls : List ByteArray} {V t : Nat}
theorem load_form2 (e : cutB 10 ds = hd :: (ls ++ [s1, s2])) (hh : HeadR hd V ls.length t) {V' : Nat} {c : Cells} {h : Int} (l : LoadOk R ds V' c h) : V' = V ∧ ∃ hs, LinesL V (List.replicate R none, startK) ls (c, hs) ∧ t < hs.length ∧ h = hs.getD t 0 := by
  obtain ⟨ls', s1', s2', t', hs, e', h1, h2, h3, h4⟩ := load_form l e
  have hls : ls = ls' := by
    have q1 := congrArg List.length e'
    have q2 := congrArg (List.take ls.length) e'
    simp at q1
    rw [List.take_left' rfl, q1, List.take_left' rfl] at q2
    exact q2
  subst hls
  obtain ⟨rfl, _, rfl⟩ := hh.one h1
  exact ⟨rfl, hs, h2, h3, h4⟩
theorem load_step {k : Nat} {p : Cells × List Int} (e : cutB 10 ds = hd :: (ls ++ [s1, s2])) (hh : HeadR hd V ls.length t) (hk : k < ls.length) (hl : LinesL V (List.replicate R none, startK) (ls.take k) p) (hno : ∀ p', ¬ StepL V p ls[k] p') : NoLoad R ds := fun V' c h l => by
  obtain ⟨rfl, hs, h1, _⟩ := load_form2 e hh l
  have e2 : ls = ls.take k ++ ls[k] :: ls.drop (k + 1) := by simp
  rw [e2] at h1
  obtain ⟨q, g1, g2⟩ := LinesL.split h1
  obtain rfl := hl.one g1
  obtain ⟨p', g3, _⟩ := g2
  exact hno p' g3
theorem load_end {c : Cells} {hs : List Int} (e : cutB 10 ds = hd :: (ls ++ [s1, s2])) (hh : HeadR hd V ls.length t) (hl : LinesL V (List.replicate R none, startK) ls (c, hs)) (hno : ¬ t < hs.length ∨ ds ≠ bytB (saveM V c (hs.getD t 0))) : NoLoad R ds := fun V' c' h l => by
  obtain ⟨rfl, hs', h1, h2, rfl⟩ := load_form2 e hh l
  have := hl.one h1
  simp only [Prod.mk.injEq] at this
  obtain ⟨rfl, rfl⟩ := this
  rcases hno with h3 | h3
  · exact h3 h2
  · exact h3 l.again
end
/-- No step. -/
theorem noStep_words {V : Nat} {p : Cells × List Int} {s : ByteArray} (h : ∀ a b d, a < V → b < p.2.length → d < p.2.length → ¬ TripR s a b d) : ∀ p', ¬ StepL V p s p' := fun p' ⟨a, b, d, h1, h2, h3, h4, _⟩ => h a b d h2 h3 h4 h1
theorem noStep_num {V a b d : Nat} {p : Cells × List Int} {s : ByteArray} (ht : TripR s a b d) (h : ¬ a < V ∨ ¬ b < p.2.length ∨ ¬ d < p.2.length ∨ b = d ∨ (mkM p.1 (ndL p a b d)).2.2 ≠ 0) : ∀ p', ¬ StepL V p s p' := fun p' ⟨a', b', d', h1, h2, h3, h4, h5, h6, _⟩ => by
  obtain ⟨rfl, rfl, rfl⟩ := ht.one h1
  rcases h with q | q | q | q | q
  · exact q h2
  · exact q h3
  · exact q h4
  · exact h5 q
  · exact q h6
end Go.Proofs.YthmflcmbaldflaaGreatDoor
