/- Contract: count.Parse. -/
import Derived.Test.YtdeaficdfooegaaDoorNatMul
import Derived.Test.YtdeaficdfooegaaDoorNatAdd
import Derived.Test.YtdeaficdfooegaaDoorAMem
import Derived.Test.YtdeaficdfooegaaDoorShelf
import Derived.Deep.RegionHeld3
namespace Go.Proofs.YtdeaficdfooegaaDoor
open Go.RowKit Go.Lib
set_option linter.unusedVariables false

def digitB (b : UInt8) : Bool := decide (48 ≤ b.toNat) && decide (b.toNat < 58)
def digs10 : List UInt8 := [48, 49, 50, 51, 52, 53, 54, 55, 56, 57]
theorem digs_mem (b : UInt8) : digs10.contains b = digitB b := by
  have key : ∀ n : Fin 256, digs10.contains (UInt8.ofNat n.val) = digitB (UInt8.ofNat n.val) := by decide +kernel
  have := key ⟨b.toNat, b.toNat_lt⟩
  simpa using this
theorem dropW_nil {α : Type} {p : α → Bool} : ∀ {l : List α}, (∀ x ∈ l, p x = true) → l.dropWhile p = []
  | [], _ => rfl
  | x :: l, h => by
    rw [List.dropWhile_cons_of_pos (h x List.mem_cons_self)]
    exact dropW_nil (fun y hy => h y (List.mem_cons_of_mem _ hy))
theorem dropW_head {α : Type} {p : α → Bool} {m : α} {ms : List α} : ∀ {l : List α}, l.dropWhile p = m :: ms → p m = false
  | [], h => by cases h
  | x :: l, h => by
    cases e : p x
    · rw [List.dropWhile_cons_of_neg (by simp [e])] at h
      cases h; exact e
    · rw [List.dropWhile_cons_of_pos e] at h
      exact dropW_head h
theorem dropW_all {α : Type} {p : α → Bool} : ∀ {l : List α}, l.dropWhile p = [] → ∀ x ∈ l, p x = true
  | [], _, x, hx => by cases hx
  | y :: l, h, x, hx => by
    cases e : p y
    · rw [List.dropWhile_cons_of_neg (by simp [e])] at h; cases h
    · rw [List.dropWhile_cons_of_pos e] at h
      rcases List.mem_cons.1 hx with rfl | hx
      · exact e
      · exact dropW_all h x hx
theorem trim_nil {l cs : List UInt8} (h : ∀ b ∈ l, cs.contains b = true) : trimS l cs = [] := by
  unfold trimS trimRightS
  rw [dropW_nil (fun x hx => h x (List.mem_reverse.1 hx))]
  rfl
theorem trim_some {l cs : List UInt8} (h : ∃ b ∈ l, cs.contains b = false) : trimS l cs ≠ [] := by
  intro e
  unfold trimS trimLeftS at e
  have h1 := dropW_all e
  unfold trimRightS at h1
  cases hd : l.reverse.dropWhile (cs.contains ·) with
  | nil =>
    obtain ⟨b, hb, hn⟩ := h
    have := dropW_all hd b (List.mem_reverse.2 hb)
    rw [hn] at this; cases this
  | cons m ms =>
    have h2 := dropW_head hd
    have h3 := h1 m (by rw [hd]; simp)
    rw [h2] at h3; cases h3
/-- The value of digits. -/
def valD (l : List UInt8) : Nat := l.foldl (fun a b => a * 10 + (b.toNat - 48)) 0
theorem Trim_all (s : ByteArray) (w : World) (hs : s.size ≤ 9223372036854775807) (h : ∀ b ∈ s.data.toList, digitB b = true) :
    Calls Tryd.prog 37 #[.string s, .string { data := #[48, 49, 50, 51, 52, 53, 54, 55, 56, 57] }] w fun e w' => e = .returned (.string { data := #[] }) ∧ Below w.heap.size w w' := by
  have hc := Go.Proofs.Any.strings_Trim_laid Tryd.lays160 (by kernel_rfl) s ⟨#[48, 49, 50, 51, 52, 53, 54, 55, 56, 57]⟩ w hs (by decide) (Go.Proofs.ascii_of_all (by decide))
  have e : trimS s.data.toList [48, 49, 50, 51, 52, 53, 54, 55, 56, 57] = [] := trim_nil (fun b hb => (digs_mem b).trans (h b hb))
  change Calls Tryd.prog 37 _ _ (fun e w' => e = .returned (.string ⟨(trimS s.data.toList [48, 49, 50, 51, 52, 53, 54, 55, 56, 57]).toArray⟩) ∧ Below w.heap.size w w') at hc
  rw [e] at hc
  exact hc
theorem Trim_some (s : ByteArray) (w : World) (hs : s.size ≤ 9223372036854775807) (h : ∃ b ∈ s.data.toList, digitB b = false) :
    Calls Tryd.prog 37 #[.string s, .string { data := #[48, 49, 50, 51, 52, 53, 54, 55, 56, 57] }] w fun e w' => ∃ r : ByteArray, e = .returned (.string r) ∧ r.data.toList ≠ [] ∧ Below w.heap.size w w' := by
  have hc := Go.Proofs.Any.strings_Trim_laid Tryd.lays160 (by kernel_rfl) s ⟨#[48, 49, 50, 51, 52, 53, 54, 55, 56, 57]⟩ w hs (by decide) (Go.Proofs.ascii_of_all (by decide))
  have e : trimS s.data.toList [48, 49, 50, 51, 52, 53, 54, 55, 56, 57] ≠ [] := trim_some (by obtain ⟨b, hb, hn⟩ := h; exact ⟨b, hb, (digs_mem b).trans hn⟩)
  change Calls Tryd.prog 37 _ _ (fun e w' => e = .returned (.string ⟨(trimS s.data.toList [48, 49, 50, 51, 52, 53, 54, 55, 56, 57]).toArray⟩) ∧ Below w.heap.size w w') at hc
  exact hc.mono fun e' w' ⟨h1, h2⟩ => ⟨_, h1, by simpa using e, h2⟩

def goodD (l : List UInt8) : Bool := !l.isEmpty && l.all digitB && (l.head? != some 48 || l == [48])
def errN (k : Int) : Value := .iface 49 (.int .i64 k)
theorem list_at (s : ByteArray) (k : Nat) (h : k < s.size) : s.data.toList[k]'(by simpa using h) = s[k] := by
  simp [ByteArray.getElem_eq_getElem_data]
theorem valD_snoc (l : List UInt8) (b : UInt8) : valD (l ++ [b]) = valD l * 10 + (b.toNat - 48) := by unfold valD; rw [List.foldl_append]; rfl
theorem valD_take (s : ByteArray) (k : Nat) (h : k < s.size) : valD (s.data.toList.take (k + 1)) = valD (s.data.toList.take k) * 10 + (s[k].toNat - 48) := by
  rw [List.take_succ_eq_append_getElem (by simpa using h), valD_snoc, list_at s k h]
theorem foldD_lt : ∀ (l : List UInt8) (a : Nat), (∀ b ∈ l, digitB b = true) → l.foldl (fun a b => a * 10 + (b.toNat - 48)) a < (a + 1) * 10 ^ l.length
  | [], a, _ => by simp
  | b :: l, a, h => by
    have h1 := foldD_lt l (a * 10 + (b.toNat - 48)) (fun x hx => h x (List.mem_cons_of_mem _ hx))
    have h2 := h b List.mem_cons_self
    unfold digitB at h2
    simp only [Bool.and_eq_true, decide_eq_true_eq] at h2
    rw [List.foldl_cons, List.length_cons, Nat.pow_succ, Nat.mul_comm (10 ^ l.length), ← Nat.mul_assoc]
    refine Nat.lt_of_lt_of_le h1 (Nat.mul_le_mul_right _ ?_)
    omega
theorem valD_lt (l : List UInt8) (h : ∀ b ∈ l, digitB b = true) : valD l < 10 ^ l.length := by
  have := foldD_lt l 0 h
  unfold valD; omega
theorem pow_limbs {m k : Nat} (h : m < 10 ^ k) (hk : k ≤ 200) : (limbsOf m).length ≤ 200 := by
  refine limbs_le (Nat.lt_of_lt_of_le h ?_)
  have h1 : (10 : Nat) ^ k ≤ 10 ^ 200 := Nat.pow_le_pow_right (by decide) hk
  have h2 : (10 : Nat) ^ 200 ≤ B32 ^ 200 := Nat.pow_le_pow_left (by decide) 200
  omega
/-- Parse on its way. -/
structure PrI (w wr : World) (ba bt : Nat) (sl st : Value) (m : Nat) : Prop where
  below : Below w.heap.size w wr
  res : wr.heap[w.heap.size]? = some (.cells #[.slice none 0 0] 24 (0, 0))
  ten : wr.heap[bt]? = some (.cells #[st] 24 (0, 0))
  tenN : IsNat wr (.agg #[st]) 10
  box : wr.heap[ba]? = some (.cells #[sl] 24 (0, 0))
  nat : IsNat wr (.agg #[sl]) m
  ne : ba ≠ bt ∧ ba ≠ w.heap.size ∧ w.heap.size ≤ ba
theorem PrI.grow {w wr w2 : World} {ba bt : Nat} {sl st : Value} {m : Nat} (h : PrI w wr ba bt sl st m) (hb : Below wr.heap.size wr w2) : PrI w w2 ba bt sl st m :=
  ⟨h.below.trans (hb.mono h.below.size), (hb.block _ (lt_of_block h.res)).trans h.res, (hb.block _ (lt_of_block h.ten)).trans h.ten, h.tenN.below hb, (hb.block _ (lt_of_block h.box)).trans h.box, h.nat.below hb, h.ne⟩
theorem PrI.set {w wr : World} {ba bt : Nat} {a a9 : Option Addr} {k c k9 c9 : Nat} {st : Value} {m n : Nat} (h : PrI w wr ba bt (.slice a k c) st m) (hn : IsNat wr (.agg #[.slice a9 k9 c9]) n) : PrI w (wr.setCell ⟨ba, 0, none⟩ (.slice a9 k9 c9)) ba bt (.slice a9 k9 c9) st n :=
  ⟨h.below.setCell h.ne.2.2 _, (Below.heap_setCell _ _ _ _ (fun e => h.ne.2.1 e.symm)).trans h.res, (Below.heap_setCell _ _ _ _ (fun e => h.ne.1 e.symm)).trans h.ten, h.tenN.setRes h.box _, one_setCell h.box, hn.setRes h.box _, h.ne⟩

set_option maxRecDepth 100000 in
set_option maxHeartbeats 8000000 in
theorem Parse_good (s : ByteArray) (w : World) (hg : goodD s.data.toList = true) (hs : s.size ≤ 100) :
    Calls Tryd.prog 8 #[.string s] w fun e w' => ∃ v, e = .returned (.tuple #[v, .nilIface]) ∧ IsNat w' v (valD s.data.toList) ∧ Below w.heap.size w w' := by
  have hsp : goodD s.data.toList = true → s.data.toList ≠ [] ∧ (∀ b ∈ s.data.toList, digitB b = true) ∧ (s.data.toList.head? ≠ some 48 ∨ s.data.toList = [48]) := fun hg => by
    unfold goodD at hg
    simp only [Bool.and_eq_true, List.all_eq_true, Bool.not_eq_true', List.isEmpty_eq_false_iff, Bool.or_eq_true, bne_iff_ne, beq_iff_eq] at hg
    exact ⟨hg.1.1, hg.1.2, hg.2⟩
  obtain ⟨hne, hall, hfst⟩ := hsp hg
  have htr := fun w' => Trim_all s w' (by omega) hall
  have hpos : 0 < s.size := by
    rcases Nat.eq_zero_or_pos s.size with h | h
    · exfalso; apply hne; apply List.eq_nil_of_length_eq_zero; simpa using h
    · exact h
  have h0 : s.toList.isEmpty = false := by rw [Lib.toList_data]; simpa using hne
  have hhd : s.data.toList.head? = some s[0] := by rw [List.head?_eq_getElem?, List.getElem?_eq_getElem (by simpa using hpos), list_at s 0 hpos]
  have h100 : decide (100 < (s.size : Int)) = false := by simp; omega
  have Htr := Lib.hid htr; have Hall := Lib.hid hall
  clear htr hg hsp hne hall
  have hcase : (((s[0].toNat : Nat) : Int) == 48) = false ∨ ((((s[0].toNat : Nat) : Int) == 48) = true ∧ (!(s.toList == [48])) = false) := by
    rw [hhd] at hfst
    rcases hfst with h | h
    · left
      have : s[0].toNat ≠ 48 := fun e => h (by congr 1; exact UInt8.toNat_inj.1 e)
      simp; omega
    · right
      rw [h] at hhd
      have e : s[0] = 48 := by simpa using hhd.symm
      exact ⟨by rw [e]; rfl, by rw [Lib.toList_data, h]; rfl⟩
  clear hfst hhd
  rcases hcase with h48 | ⟨h48, hstr⟩
  all_goals
    go_enter Tryd.func8, Tryd.ntmps8
    go_wp2_with fail
    refine (Htr.out _).mono ?_
    rintro e w1 ⟨rfl, hb1⟩
    have hbw := ((Below.refl w.heap.size w).alloc (Nat.le_refl _) (.cells #[.slice none 0 0] 24)).trans (hb1.mono (by simp))
    have hres := (hb1.block _ (by simp)).trans (heap_at (w := w) (o := .cells #[.slice none 0 0] 24) rfl)
    have Hbw := Lib.hid hbw; have Hres := Lib.hid hres
    clear hb1 hbw hres
    go_wp2_with fail
    have hb2 : Below w1.heap.size w1 (w1.alloc (.cells #[.slice none 0 0] 24)) := (Below.refl _ _).alloc (Nat.le_refl _) _
    have Hb2 := Lib.hid hb2; clear hb2
    refine (Of_any 10 _ (by decide)).mono ?_
    rintro e w2 ⟨v10, rfl, hn10, hb3⟩
    obtain ⟨a10, c10, rfl⟩ := hn10.shape
    have hb13 := Hb2.out.trans (hb3.mono Hb2.out.size)
    have hlt12 : w1.heap.size < w2.heap.size := by have := hb3.size; simp at this; omega
    have hb4 : Below w2.heap.size w2 (w2.alloc (.cells #[.slice a10 (limbsOf 10).length c10] 24)) := (Below.refl _ _).alloc (Nat.le_refl _) _
    have hst : PrI w (w2.alloc (.cells #[.slice a10 (limbsOf 10).length c10] 24)) w1.heap.size w2.heap.size (.slice none 0 0) (.slice a10 (limbsOf 10).length c10) 0 :=
      ⟨(Hbw.out.trans (hb13.mono Hbw.out.size)).trans (hb4.mono (by have := Hbw.out.size; omega)), heap_up ((hb13.block _ (lt_of_block Hres.out)).trans Hres.out), heap_at rfl, hn10.below hb4, heap_up ((hb3.block _ (by simp)).trans (heap_at rfl)), isNat_zero _, by omega, by have := lt_of_block Hres.out; omega, Hbw.out.size⟩
    have Hst := Lib.hid hst
    clear hst hn10 hb3 hb13 hb4 Htr Hbw Hres Hb2
    go_wp2_with fail
    obtain ⟨bt, ebt⟩ : ∃ b, b = w2.heap.size := ⟨_, rfl⟩
    obtain ⟨ba, eba⟩ : ∃ b, b = w1.heap.size := ⟨_, rfl⟩
    rw [← ebt, ← eba] at Hst ⊢
    clear ebt eba hlt12
    generalize (w2.alloc (.cells #[.slice a10 (limbsOf 10).length c10] 24)) = w3 at Hst ⊢
    clear h48 h0 h100
    try clear hstr
    generalize (limbsOf 10).length = n10 at Hst ⊢
    go_loopg [35] s.size (fun gk i wr => ∃ (k m : Nat) (sl : Value), k ≤ s.size ∧ gk = s.size - k ∧ i = .int .i64 k ∧ m = valD (s.data.toList.take k) ∧ PrI w wr ba bt sl (.slice a10 n10 c10) m)
    case atStart => exact ⟨0, 0, _, Nat.zero_le _, rfl, rfl, by simp [valD], Hst.out⟩
    case round =>
      clear Hst
      obtain ⟨k, m, sl, hk, rfl, rfl, hm, hI⟩ := hrel
      by_cases hlt : k < s.size
      · have hvt := valD_take s k hlt
        have hdg := Hall.out _ (List.getElem_mem (show k < s.data.toList.length by simpa using hlt))
        rw [list_at s k hlt] at hdg
        unfold digitB at hdg
        simp only [Bool.and_eq_true, decide_eq_true_eq] at hdg
        have hml : m < 10 ^ k := by
          have := valD_lt (s.data.toList.take k) (fun b hb => Hall.out b (List.mem_of_mem_take hb))
          rw [List.length_take] at this
          rw [hm]
          refine Nat.lt_of_lt_of_le this (Nat.pow_le_pow_right (by decide) (by omega))
        have hm10 : m * 10 < 10 ^ (k + 1) := by rw [Nat.pow_succ]; omega
        have hl1 := pow_limbs hml (by omega)
        have hl2 := pow_limbs hm10 (by omega)
        rw [← hm] at hvt
        obtain ⟨a8, c8, e8⟩ := hI.nat.shape
        cases e8
        have hI1 := hI.grow (w2 := wr.drew) ((Below.refl _ _).drew)
        obtain ⟨d, hd⟩ : ∃ d : Nat, d = s[k].toNat - 48 := ⟨_, rfl⟩
        rw [← hd] at hvt
        have hsub : IntKind.u8.wrap ((s[k].toNat : Int) - 48) = (d : Int) := by rw [IntKind.wrap_u8]; omega
        have hd10 : d < 10 := by omega
        have hsub2 : IntKind.i64.wrap (d : Int) = (d : Int) := IntWalk.i64_in _ (by omega)
        have mulq := fun w' (h : PrI w w' ba bt (.slice a8 (limbsOf m).length c8) (.slice a10 n10 c10) m) => Mul_any m 10 _ _ w' h.nat h.tenN (by omega) (by rw [show limbsOf 10 = [10] by decide +kernel]; decide)
        have ofq := fun w' => Of_any d w' (by omega)
        have addq := fun w' va vb (h1 : IsNat w' va (m * 10)) (h2 : IsNat w' vb d) => Add_any (m * 10) d va vb w' h1 h2 (by omega) (by have : (limbsOf d).length ≤ 1 := limbs_le (by unfold B32; omega); omega)
        have cb := cell_of_one hI.box; have ct := cell_of_one hI.ten
        have Mulq := Lib.hid mulq; have Ofq := Lib.hid ofq; have Addq := Lib.hid addq; have HI1 := Lib.hid hI1; have Hvt := Lib.hid hvt; have Hd := Lib.hid hd
        have hki : (k : Int) < s.size := by exact_mod_cast hlt
        clear mulq ofq addq hI1 hI hvt hm hml hm10 hl1 hl2 hd hdg hd10
        go_wp2_with fail
        go_region_with (first | (go_at_call 16; (with_reducible refine (Mulq.out _ HI1.out).mono ?_); rintro e w9 ⟨v9, rfl, hn9, hb9⟩; obtain ⟨a9, c9, rfl⟩ := hn9.shape; have hI9 := HI1.out.grow hb9; have h91 := cell_of_one hI9.box; have h92 := cell_of_one hI9.ten; have HI1 := Lib.hid hI9; (try have hn10 := hn10.below hb9); clear hI9) | (go_at_call 18; (with_reducible refine (Ofq.out _).mono ?_); rintro e w10 ⟨v10, rfl, hn10, hb10⟩; obtain ⟨a0, c0, rfl⟩ := hn10.shape; have hI10 := HI1.out.grow hb10; (try have hn9 := hn9.below hb10); have h93 := cell_of_one hI10.box; have h94 := cell_of_one hI10.ten; have HI1 := Lib.hid hI10; clear hI10) | (go_at_call 13; (with_reducible refine (Addq.out _ _ _ hn9 hn10).mono ?_); rintro e w11 ⟨v11, rfl, hn11, hb11⟩; obtain ⟨a11, c11, rfl⟩ := hn11.shape; have hI11 := HI1.out.grow hb11; have h95 := cell_of_one hI11.box; have h96 := cell_of_one hI11.ten; have h97 := free_of_one hI11.box; have h98 := lt_of_block hI11.box; have Hset := Lib.hid (hI11.set hn11); clear hI11 HI1 hn9 hn10 hn11 hb9 hb10 hb11))
        all_goals
          go_wp2_with fail
          go_roundg (s.size - (k + 1))
          case measure => omega
          case rel => exact ⟨k + 1, m * 10 + d, _, by omega, rfl, by go_num, Hvt.out.symm, Hset.out⟩
      · obtain rfl : k = s.size := by omega
        have hmv : m = valD s.data.toList := by rw [hm, List.take_of_length_le (by simp)]
        clear hm hlt
        obtain ⟨a8, c8, e8⟩ := hI.nat.shape
        cases e8
        have c2 := cell_of_one hI.box
        have c4 := cell_of_one hI.res; have f4 := free_of_one hI.res; have l4 := lt_of_block hI.res
        have HI := Lib.hid hI; have Hm := Lib.hid hmv
        clear hI hmv
        go_wp2_with fail
        exact bodyPost_ret (v := .tuple #[.agg #[.slice a8 (limbsOf m).length c8], .nilIface]) (by simp [results, Tryd.results8, go_sem, c4]) rfl ⟨_, rfl, Hm.out ▸ HI.out.nat.setRes HI.out.res _, HI.out.below.setCell (by simp) _⟩
end Go.Proofs.YtdeaficdfooegaaDoor
