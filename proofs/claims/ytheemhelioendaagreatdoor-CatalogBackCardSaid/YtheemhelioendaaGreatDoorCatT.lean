/- A catalog's text as Text writes it, plain: read again it says the same lines. -/
import Derived.Test.YtheemhelioendaaGreatDoorCatM
import Derived.Test.YtheemhelioendaaGreatDoorRTxtM
namespace Go.Proofs.YtheemhelioendaaGreatDoor
open Go.RowKit
set_option linter.unusedVariables false

theorem cut_hit {A R : List UInt8} (h : ∀ y ∈ A, y ≠ 32) : cutA (wordB (A ++ 32 :: R)) = wordB A ∧ cutB (wordB (A ++ 32 :: R)) = wordB R := by
  have hi := index_byte (R := R) h
  unfold cutA cutB
  rw [wordB_data]
  unfold Lib.cut spT
  rw [hi, if_pos (by omega)]
  constructor
  · simp [wordB]
  · rw [show ((A.length : Int)).toNat + [(32 : UInt8)].length = (A ++ [(32 : UInt8)]).length by simp, show A ++ 32 :: R = (A ++ [32]) ++ R by simp, List.drop_left]
    rfl
theorem cut_miss {A : List UInt8} (h : ∀ y ∈ A, y ≠ 32) : cutA (wordB A) = wordB A ∧ cutB (wordB A) = ByteArray.empty := by
  have hi := index_none (sub := []) h
  unfold cutA cutB
  rw [wordB_data]
  unfold Lib.cut spT
  rw [hi, if_neg (by decide)]
  exact ⟨rfl, rfl⟩
theorem wordB_self (s : ByteArray) : wordB s.data.toList = s := rfl
/-- A line as Text writes it. -/
def lineT (x : LineM) : List UInt8 :=
  if x.kind = 1 then pkgT.data.toList ++ 32 :: (x.name.data.toList ++ 32 :: verL x.va x.vb x.vc)
  else if x.kind = 2 then needT.data.toList ++ 32 :: (x.name.data.toList ++ 32 :: (verL x.va x.vb x.vc ++ 32 :: (x.other.data.toList ++ 32 :: rangeT x.range)))
  else if x.kind = 3 then clashT.data.toList ++ 32 :: (x.name.data.toList ++ 32 :: (verL x.va x.vb x.vc ++ 32 :: (x.other.data.toList ++ 32 :: rangeT x.range)))
  else rootT.data.toList ++ 32 :: (x.name.data.toList ++ 32 :: rangeT x.range)
def catT : List LineM → List UInt8
  | [] => []
  | x :: l => lineT x ++ 10 :: catT l
theorem catT_app : ∀ (a b : List LineM), catT (a ++ b) = catT a ++ catT b
  | [], b => rfl
  | x :: a, b => by simp [catT, catT_app a b]
theorem nameCh_ne : ∀ c : UInt8, nameCh c = true → c ≠ 32 ∧ c ≠ 10 := by
  have h : ∀ n : Fin 256, nameCh (UInt8.ofNat n.val) = true → UInt8.ofNat n.val ≠ 32 ∧ UInt8.ofNat n.val ≠ 10 := by decide +kernel
  intro c hc
  have := h ⟨c.toNat, c.toNat_lt⟩
  simp only [UInt8.ofNat_toNat] at this
  exact this hc
theorem nameOk_ch {s : ByteArray} (h : nameOk s = true) : ∀ y ∈ s.data.toList, y ≠ 32 ∧ y ≠ 10 := by
  unfold nameOk at h
  simp only [Bool.and_eq_true] at h
  exact fun y hy => nameCh_ne y (List.all_eq_true.1 h.1.1.2 y hy)
theorem verL_ch {a b c : Int} (h : VerOk a b c) : ∀ y ∈ verL a b c, y ≠ 32 ∧ y ≠ 10 := by
  intro y hy
  rcases verL_mem h y hy with rfl | q
  · decide
  · exact ⟨(digB_ne q).2.1, by rintro rfl; revert q; decide⟩
/-- What check asks, apart. -/
structure LineOk (x : LineM) : Prop where
  kind : x.kind = 1 ∨ x.kind = 2 ∨ x.kind = 3 ∨ x.kind = 4
  name : nameOk x.name = true
  other : x.kind = 2 ∨ x.kind = 3 → nameOk x.other = true
  none : x.kind = 1 ∨ x.kind = 4 → x.other = ByteArray.empty
  pkg : x.kind = 1 → x.range = []
  root : x.kind = 4 → x.va = 0 ∧ x.vb = 0 ∧ x.vc = 0
  ver : x.kind ≠ 4 → VerOk x.va x.vb x.vc
theorem checkM_ok {x : LineM} : checkM x = 0 ↔ LineOk x := by
  unfold checkM
  constructor
  · intro h
    split at h
    · cases h
    · rename_i h1
      split at h
      · cases h
      · rename_i h2
        split at h
        · cases h
        · rename_i h3
          split at h
          · cases h
          · rename_i h4
            simp only [not_or, not_and, Bool.not_eq_false] at h1 h2 h3 h4
            refine ⟨by omega, h2.1, fun q => h2.2 q, fun q => ?_, fun q => ?_, fun q => ?_, fun q => verB_ok.1 (h4 q)⟩
            · have := h3.1 (by omega); simpa using this
            · have := h3.2.1 q; simpa using this
            · have := h3.2.2 q; simpa using this
  · intro h
    have hk := h.kind
    rw [if_neg (by omega), if_neg, if_neg, if_neg]
    · rintro ⟨h1, h2⟩
      rw [verB_ok.2 (h.ver h1)] at h2; cases h2
    · rintro (⟨h1, h2⟩ | ⟨h1, h2⟩ | ⟨h1, h2⟩)
      · exact h2 (h.none (by omega))
      · exact h2 (h.pkg h1)
      · exact h2 (h.root h1)
    · rintro (h1 | ⟨h1, h2⟩)
      · rw [h.name] at h1; cases h1
      · rw [h.other h1] at h2; cases h2
theorem lineR_text {x : LineM} (h : LineOk x) (hc : Canon x.range) (hl : (rangeT x.range).length ≤ 1000) : LineR (wordB (lineT x)) x := by
  have hn := fun y hy => (nameOk_ch h.name y hy).1
  have c1 : ∀ y ∈ pkgT.data.toList, y ≠ 32 := by decide
  have c2 : ∀ y ∈ needT.data.toList, y ≠ 32 := by decide
  have c3 : ∀ y ∈ clashT.data.toList, y ≠ 32 := by decide
  have c4 : ∀ y ∈ rootT.data.toList, y ≠ 32 := by decide
  have ht := textR_range hc
  unfold lineT
  split
  · rename_i k
    have hv := h.ver (by omega)
    have v1 := fun y hy => (verL_ch hv y hy).1
    unfold LineR
    rw [(cut_hit c1).1, (cut_hit c1).2, (cut_hit hn).1, (cut_hit hn).2, (cut_miss v1).1, (cut_miss v1).2]
    exact ⟨rfl, .inl ⟨k, rfl, verL_ok hv, rfl, h.none (.inl k), h.pkg k⟩⟩
  · split
    · rename_i k
      have hv := h.ver (by omega)
      have v1 := fun y hy => (verL_ch hv y hy).1
      have o1 := fun y hy => (nameOk_ch (h.other (.inl k)) y hy).1
      unfold LineR
      rw [(cut_hit c2).1, (cut_hit c2).2, (cut_hit hn).1, (cut_hit hn).2, (cut_hit v1).1, (cut_hit v1).2, (cut_hit o1).1, (cut_hit o1).2]
      exact ⟨rfl, .inr (.inl ⟨.inl ⟨k, rfl⟩, verL_ok hv, rfl, hl, ht⟩)⟩
    · split
      · rename_i k
        have hv := h.ver (by omega)
        have v1 := fun y hy => (verL_ch hv y hy).1
        have o1 := fun y hy => (nameOk_ch (h.other (.inr k)) y hy).1
        unfold LineR
        rw [(cut_hit c3).1, (cut_hit c3).2, (cut_hit hn).1, (cut_hit hn).2, (cut_hit v1).1, (cut_hit v1).2, (cut_hit o1).1, (cut_hit o1).2]
        exact ⟨rfl, .inr (.inl ⟨.inr ⟨k, rfl⟩, verL_ok hv, rfl, hl, ht⟩)⟩
      · have k : x.kind = 4 := by have := h.kind; omega
        unfold LineR
        rw [(cut_hit c4).1, (cut_hit c4).2, (cut_hit hn).1, (cut_hit hn).2]
        obtain ⟨r1, r2, r3⟩ := h.root k
        exact ⟨rfl, .inr (.inr ⟨k, rfl, r1, r2, r3, h.none (.inr k), hl, ht⟩)⟩
theorem join_ne {c : UInt8} {sep : List UInt8} (hs : ∀ y ∈ sep, y ≠ c) : ∀ {xs : List (List UInt8)}, (∀ x ∈ xs, ∀ y ∈ x, y ≠ c) → ∀ y ∈ Lib.join xs sep, y ≠ c
  | [], _, y, hy => by simp [Lib.join_nil] at hy
  | x :: r, h, y, hy => by
    rw [Lib.join_cons] at hy
    rcases List.mem_append.1 hy with q | q
    · exact h x (List.mem_cons_self ..) y q
    · unfold Lib.joinTail at q
      obtain ⟨z, hz, q⟩ := List.mem_flatten.1 q
      obtain ⟨t, ht, rfl⟩ := List.mem_map.1 hz
      rcases List.mem_append.1 q with q | q
      · exact hs y q
      · exact h t (List.mem_cons_of_mem _ ht) y q
theorem rangeT_ne {l : List Spn} (hc : Canon l) : ∀ y ∈ rangeT l, y ≠ 10 := by
  unfold rangeT
  split
  · decide
  · refine join_ne (by decide) (fun x hx => ?_)
    obtain ⟨s, hs, rfl⟩ := List.mem_map.1 hx
    obtain ⟨h1, h2, h3⟩ := hc.ok s hs
    have key : ∀ (o : List UInt8) (n : Int), (∀ y ∈ o, y ≠ 10) → 0 ≤ n ∧ n < pastV → ∀ y ∈ o ++ vT n, y ≠ 10 := fun o n ho hn y hy => by
      rcases List.mem_append.1 hy with q | q
      · exact ho y q
      · exact (verL_ch (vT_ok hn).1 y q).2
    unfold spanT
    refine join_ne (by decide) (fun t ht => ?_)
    unfold spanW at ht
    split at ht
    · rw [List.mem_singleton.1 ht]; exact key [] _ (by simp) ⟨h1, by omega⟩
    · split at ht
      · rename_i e
        rcases List.mem_cons.1 ht with rfl | ht
        · exact key _ _ (by decide) ⟨h1, by omega⟩
        · rw [List.mem_singleton.1 ht]; exact key _ _ (by decide) ⟨by omega, e.2⟩
      · split at ht
        · rw [List.mem_singleton.1 ht]; exact key _ _ (by decide) ⟨h1, by omega⟩
        · split at ht
          · rename_i e
            rw [List.mem_singleton.1 ht]; exact key _ _ (by decide) ⟨by omega, e⟩
          · rw [List.mem_singleton.1 ht]; decide
theorem lineT_ne {x : LineM} (h : LineOk x) (hc : Canon x.range) : (∀ y ∈ lineT x, y ≠ 10) ∧ lineT x ≠ [] := by
  have hn := fun y hy => (nameOk_ch h.name y hy).2
  have hr := rangeT_ne hc
  have c1 : ∀ y ∈ pkgT.data.toList, y ≠ 10 := by decide
  have c2 : ∀ y ∈ needT.data.toList, y ≠ 10 := by decide
  have c3 : ∀ y ∈ clashT.data.toList, y ≠ 10 := by decide
  have c4 : ∀ y ∈ rootT.data.toList, y ≠ 10 := by decide
  have app : ∀ {a b : List UInt8}, (∀ y ∈ a, y ≠ 10) → (∀ y ∈ b, y ≠ 10) → ∀ y ∈ a ++ 32 :: b, y ≠ 10 := fun h1 h2 y hy => by
    rcases List.mem_append.1 hy with q | q
    · exact h1 y q
    · rcases List.mem_cons.1 q with rfl | q
      · decide
      · exact h2 y q
  unfold lineT
  split
  · rename_i k
    have v1 := fun y hy => (verL_ch (h.ver (by omega)) y hy).2
    exact ⟨app c1 (app hn v1), by simp⟩
  · split
    · rename_i k
      have v1 := fun y hy => (verL_ch (h.ver (by omega)) y hy).2
      have o1 := fun y hy => (nameOk_ch (h.other (.inl k)) y hy).2
      exact ⟨app c2 (app hn (app v1 (app o1 hr))), by simp⟩
    · split
      · rename_i k
        have v1 := fun y hy => (verL_ch (h.ver (by omega)) y hy).2
        have o1 := fun y hy => (nameOk_ch (h.other (.inr k)) y hy).2
        exact ⟨app c3 (app hn (app v1 (app o1 hr))), by simp⟩
      · exact ⟨app c4 (app hn hr), by simp⟩
/-- A text's pieces between line ends. -/
def nlB : ByteArray := ⟨#[10]⟩
def rowsT (s : ByteArray) : List ByteArray := Lib.splitB nlB 0 (Lib.countB s nlB) s
theorem rows_hit {A R : List UInt8} (h : ∀ y ∈ A, y ≠ 10) : rowsT (wordB (A ++ 10 :: R)) = wordB A :: rowsT (wordB R) := by
  have hi : Lib.indexB (wordB (A ++ 10 :: R)) nlB = (A.length : Nat) := index_byte h
  have e0 : (wordB (A ++ 10 :: R)).extract 0 A.length = wordB A := by rw [wordB_extract]; simp
  have e2 : (wordB (A ++ 10 :: R)).extract (A.length + nlB.size) (wordB (A ++ 10 :: R)).size = wordB R := by
    have hs : nlB.size = 1 := rfl
    rw [hs, wordB_extract, wordB_size]
    congr 1
    rw [List.take_of_length_le (by simp; omega)]
    rw [show A.length + 1 = (A ++ [10]).length by simp, show A ++ 10 :: R = (A ++ [10]) ++ R by simp, List.drop_left]
  unfold rowsT
  rw [Lib.countB_hit _ _ _ (by decide) hi, e2, Nat.add_comm 1, Lib.splitB_hit _ _ _ _ _ hi, e2, Nat.add_zero, e0]
theorem rows_nil : rowsT (wordB []) = [wordB []] := by
  unfold rowsT
  rw [Lib.splitB_miss _ _ _ _ (by decide)]
/-- Two lists go together, one by one. -/
def All2 {α β : Type} (R : α → β → Prop) : List α → List β → Prop
  | [], [] => True
  | a :: ps, b :: bs => R a b ∧ All2 R ps bs
  | _, _ => False
theorem All2.len {α β : Type} {R : α → β → Prop} : ∀ {ps : List α} {bs : List β}, All2 R ps bs → ps.length = bs.length
  | [], [], _ => rfl
  | a :: ps, b :: bs, h => by simp [All2.len h.2]
  | [], _ :: _, h => h.elim
  | _ :: _, [], h => h.elim
theorem All2.snoc {α β : Type} {R : α → β → Prop} {a : α} {b : β} (hr : R a b) : ∀ {ps : List α} {bs : List β}, All2 R ps bs → All2 R (ps ++ [a]) (bs ++ [b])
  | [], [], _ => ⟨hr, trivial⟩
  | _ :: ps, _ :: bs, h => ⟨h.1, All2.snoc hr h.2⟩
  | [], _ :: _, h => h.elim
  | _ :: _, [], h => h.elim
theorem All2.app {α β : Type} {R : α → β → Prop} : ∀ {ps ps' : List α} {bs : List β}, All2 R (ps ++ ps') bs → ∃ b1 b2, bs = b1 ++ b2 ∧ All2 R ps b1 ∧ All2 R ps' b2
  | [], ps', bs, h => ⟨[], bs, rfl, trivial, h⟩
  | a :: ps, ps', b :: bs, h => by
    obtain ⟨b1, b2, e, h1, h2⟩ := All2.app (ps := ps) h.2
    exact ⟨b :: b1, b2, by rw [e]; rfl, ⟨h.1, h1⟩, h2⟩
  | a :: ps, ps', [], h => h.elim
/-- What a text's lines say. -/
def LinesR (s : ByteArray) (ls : List LineM) : Prop := All2 LineR ((rowsT s).filter fun p => decide (0 < p.size)) ls
theorem linesR_text : ∀ {ls : List LineM}, (∀ x ∈ ls, LineOk x ∧ Canon x.range ∧ (rangeT x.range).length ≤ 1000) → LinesR (wordB (catT ls)) ls
  | [], _ => by
    unfold LinesR catT
    rw [rows_nil]
    trivial
  | x :: l, h => by
    have ih := linesR_text (fun y hy => h y (List.mem_cons_of_mem _ hy))
    obtain ⟨h1, h2, h3⟩ := h x (List.mem_cons_self ..)
    have hn := lineT_ne h1 h2
    unfold LinesR at ih ⊢
    unfold catT
    rw [rows_hit hn.1, List.filter_cons_of_pos (by rw [decide_eq_true_iff, wordB_size]; exact List.length_pos_iff.2 hn.2)]
    exact ⟨lineR_text h1 h2 h3, ih⟩
theorem all2_same : ∀ {ps : List ByteArray} {a b : List LineM}, All2 LineR ps a → All2 LineR ps b → All2 LineM.same a b
  | [], [], [], _, _ => trivial
  | _ :: _, _ :: _, _ :: _, h, h' => ⟨h.1.one h'.1, all2_same h.2 h'.2⟩
  | [], _ :: _, _, h, _ => h.elim
  | [], [], _ :: _, _, h => h.elim
  | _ :: _, [], _, h, _ => h.elim
  | _ :: _, _ :: _, [], _, h => h.elim
theorem LinesR.one {s : ByteArray} {a b : List LineM} (h : LinesR s a) (h' : LinesR s b) : All2 LineM.same a b := all2_same h h'
end Go.Proofs.YtheemhelioendaaGreatDoor
