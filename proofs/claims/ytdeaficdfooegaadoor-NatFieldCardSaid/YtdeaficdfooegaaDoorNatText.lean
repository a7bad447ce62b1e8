/- Contracts: (count.Nat).Zero, (count.Nat).Text. -/
import Derived.Test.YtdeaficdfooegaaDoorNatShort
import Derived.Test.YtdeaficdfooegaaDoorRevB
import Derived.Laws.BytesArg
import Derived.Test.YtdeaficdfooegaaDoorAppend
namespace Go.Proofs.YtdeaficdfooegaaDoor
open Go.RowKit
set_option linter.unusedVariables false

/-! ### Plain law -/
def d9 : Nat → Nat → List Nat
  | 0, _ => []
  | k + 1, r => (48 + r % 10) :: d9 k (r / 10)
def chunks (n : Nat) : List Nat := if h : n = 0 then [] else d9 9 (n % 1000000000) ++ chunks (n / 1000000000)
termination_by n
decreasing_by exact Nat.div_lt_self (Nat.pos_of_ne_zero h) (by decide)
theorem chunks_zero : chunks 0 = [] := by rw [chunks]; simp
theorem chunks_pos {n : Nat} (h : n ≠ 0) : chunks n = d9 9 (n % 1000000000) ++ chunks (n / 1000000000) := by rw [chunks]; simp [h]
theorem d9_len : ∀ k r, (d9 k r).length = k
  | 0, _ => rfl
  | k + 1, r => by simp [d9, d9_len k]
theorem d9_range : ∀ k r, ∀ x ∈ d9 k r, 48 ≤ x ∧ x < 58
  | 0, _, x, h => by cases h
  | k + 1, r, x, h => by
    rw [d9] at h
    rcases List.mem_cons.1 h with rfl | h
    · omega
    · exact d9_range k _ x h
theorem d9_some : ∀ k r, r ≠ 0 → r < 10 ^ k → ∃ x ∈ d9 k r, x ≠ 48
  | 0, r, h0, h => by simp at h; exact absurd h h0
  | k + 1, r, h0, h => by
    by_cases e : r % 10 = 0
    · have h1 : r / 10 ≠ 0 := by omega
      obtain ⟨x, hx, hne⟩ := d9_some k (r / 10) h1 (by rw [Nat.pow_succ] at h; omega)
      exact ⟨x, List.mem_cons_of_mem _ hx, hne⟩
    · exact ⟨48 + r % 10, List.mem_cons_self, by omega⟩
theorem chunks_ind {Q : Nat → Prop} (h0 : Q 0) (h1 : ∀ n, n ≠ 0 → Q (n / 1000000000) → Q n) (n : Nat) : Q n := by
  induction n using Nat.strongRecOn with
  | _ n ih =>
    by_cases h : n = 0
    · subst h; exact h0
    · exact h1 n h (ih _ (Nat.div_lt_self (Nat.pos_of_ne_zero h) (by decide)))
theorem chunks_range (n : Nat) : ∀ x ∈ chunks n, 48 ≤ x ∧ x < 58 := by
  refine chunks_ind (Q := fun n => ∀ x ∈ chunks n, 48 ≤ x ∧ x < 58) (by rw [chunks_zero]; intro x h; cases h) (fun n h ih x hx => ?_) n
  rw [chunks_pos h] at hx
  rcases List.mem_append.1 hx with hx | hx
  · exact d9_range _ _ x hx
  · exact ih x hx
theorem chunks_some (n : Nat) : n ≠ 0 → ∃ x ∈ chunks n, x ≠ 48 := by
  refine chunks_ind (Q := fun n => n ≠ 0 → ∃ x ∈ chunks n, x ≠ 48) (fun h => absurd rfl h) (fun n h ih _ => ?_) n
  rw [chunks_pos h]
  by_cases e : n % 1000000000 = 0
  · have h1 : n / 1000000000 ≠ 0 := by omega
    obtain ⟨x, hx, hne⟩ := ih h1
    exact ⟨x, List.mem_append_right _ hx, hne⟩
  · obtain ⟨x, hx, hne⟩ := d9_some 9 _ e (by omega)
    exact ⟨x, List.mem_append_left _ hx, hne⟩
/-- The decimal text. -/
def textN (n : Nat) : List Nat := if n = 0 then [48] else (chunks n).reverse.dropWhile (· == 48)
def textB (n : Nat) : ByteArray := strOfNums ((textN n).map fun x : Nat => (x : Int))
theorem cut_zeros {l : List Nat} {k : Nat} (hk : k < l.length) (hne : l[k] ≠ 48) (h48 : ∀ x ∈ l.drop (k + 1), x = 48) : l.reverse.dropWhile (· == 48) = (l.take (k + 1)).reverse := by
  conv => lhs; rw [← List.take_append_drop (k + 1) l]
  rw [List.reverse_append, List.dropWhile_append_of_pos (fun x hx => by simpa using h48 x (List.mem_reverse.1 hx))]
  rw [List.take_succ_eq_append_getElem hk, List.reverse_append, List.reverse_singleton, List.singleton_append, List.dropWhile_cons_of_neg (by simpa using hne)]
theorem chunks_len : ∀ (k n : Nat), n < 1000000000 ^ k → (chunks n).length ≤ 9 * k
  | 0, n, h => by
    have : n = 0 := by simpa using h
    subst this; rw [chunks_zero]; simp
  | k + 1, n, h => by
    by_cases e : n = 0
    · subst e; rw [chunks_zero]; simp
    · rw [chunks_pos e, List.length_append, d9_len]
      have := chunks_len k (n / 1000000000) (Nat.div_lt_of_lt_mul (by rw [Nat.pow_succ, Nat.mul_comm] at h; exact h))
      omega

theorem limbs_mono' {m n : Nat} (h : m ≤ n) : (limbsOf m).length ≤ (limbsOf n).length := by
  apply Classical.byContradiction
  intro hn
  have := limbs_short (a := n) (b := m) (by omega)
  omega

/-! ### In memory -/
theorem infoU8 : (Tryd.prog.info? 5).map (fun i => (i.zero, i.size, i.bytes)) = some (some (.int .u8 0), 1, 1) := by kernel_rfl
theorem field_nat (x : Value) (w : World) : (Instr.field 24 (.agg #[x]) 0).run Tryd.prog w = .ok x w := by kernel_rfl
def bytesV (l : List Nat) : List Value := l.map fun x : Nat => Value.int .u8 (x : Int)
/-- A number's limbs, and a row of bytes that is not where they lie. -/
structure LOff (w : World) (vl : Value) (m : Nat) (vo : Value) : Prop where
  lim : IsLimbs w vl (limbsOf m)
  off : ∀ b, vl.ownBlock = some b → vo.ownBlock ≠ some b ∧ b < w.heap.size
theorem LOff.grown {w w' : World} {vl vo v' : Value} {m : Nat} (h : LOff w vl m vo) (hg : w.grownBy w' vo.ownBlock) (hv : v'.ownBlock = vo.ownBlock ∨ v'.ownBlock = some w.heap.size) : LOff w' vl m v' := by
  refine ⟨?_, fun b hb => ?_⟩
  · obtain ⟨a, b, o, c, h1, h2, h3, h4, h5, h6, h7⟩ := h.lim
    refine ⟨a, b, o, c, h1, h2, h3, h4, fun i hi => ?_, fun hne => Nat.lt_of_lt_of_le (h6 hne) hg.size, h7⟩
    have hne : limbsOf m ≠ [] := by intro e; rw [e] at hi; simp at hi
    have hb : vl.ownBlock = some b := by rw [h1, h2 hne]; rfl
    rw [World.cell?_of_block (w := w) (hg.block b (h6 hne) (fun e => (h.off b hb).1 e.symm))]
    exact h5 i hi
  · have h1 := h.off b hb
    refine ⟨?_, Nat.lt_of_lt_of_le h1.2 hg.size⟩
    rcases hv with e | e
    · rw [e]; exact h1.1
    · rw [e]; intro e2; have := Option.some.inj e2; omega
theorem LOff.below {w w' : World} {vl vo : Value} {m : Nat} (h : LOff w vl m vo) (hb : Below w.heap.size w w') : LOff w' vl m vo :=
  ⟨h.lim.below hb, fun b hb2 => ⟨(h.off b hb2).1, Nat.lt_of_lt_of_le (h.off b hb2).2 hb.size⟩⟩

theorem Zero_any (n : Nat) (va : Value) (w : World) (ha : IsNat w va n) :
    Calls Tryd.prog 40 #[va] w fun e w' => e = .returned (.bool (n == 0)) ∧ Below w.heap.size w w' := by
  obtain ⟨a, c, rfl⟩ := ha.shape
  have hz : (((limbsOf n).length : Int) == 0) = (n == 0) := by
    by_cases e : n = 0
    · subst e; rw [limbs_zero]; rfl
    · have h1 : limbsOf n ≠ [] := fun h => e (limbs_nil h)
      have h2 : (limbsOf n).length ≠ 0 := fun h => h1 (List.eq_nil_of_length_eq_zero h)
      rw [show (n == 0) = false by simpa using e]
      simp; omega
  have Hz := Lib.hid hz; clear hz
  go_enter Tryd.func40, Tryd.ntmps40
  go_wp2_with fail
  go_ret
  rw [← Hz.out]
  exact ⟨rfl, (Below.refl _ _).alloc (Nat.le_refl _) _⟩

theorem owns_brow {w : World} {base : Nat} {v : Value} {l : List Nat} (h : w.ownsRow base 5 1 v l.length (bytesV l)) (hp : 0 < l.length) : ∃ g cap, v = .slice (some ⟨g, 0, none⟩) l.length cap ∧ base ≤ g ∧ BRow w g cap l.length (fun k => l.getD k 0) := by
  rcases h.2 with ⟨_, h0⟩ | ⟨g, cap, cur, e, hg, hh, h3, h4, h5, h6⟩
  · omega
  · refine ⟨g, cap, e, hg, cur, hh, h3, by omega, fun k hk => ?_⟩
    have h7 : (cur.toList.take (l.length * 1))[k]? = some (.int .u8 ((l.getD k 0 : Nat) : Int)) := by
      rw [h6]; simp [bytesV, hk]
    rw [List.getElem?_take] at h7
    split at h7
    · simpa using h7
    · cases h7
/-- Text on its way. -/
structure TxI (W wr : World) (vo vl : Value) (n m : Nat) (outs : List Nat) : Prop where
  below : Below W.heap.size W wr
  own : wr.ownsRow W.heap.size 5 1 vo outs.length (bytesV outs)
  off : LOff wr vl m vo
  val : outs ++ chunks m = chunks n
structure TxJ (W wr : World) (vo vl : Value) (n m r c : Nat) (outs : List Nat) : Prop where
  below : Below W.heap.size W wr
  own : wr.ownsRow W.heap.size 5 1 vo outs.length (bytesV outs)
  off : LOff wr vl m vo
  val : outs ++ (d9 (9 - c) r ++ chunks m) = chunks n
theorem TxJ.push {W wr w2 : World} {vo vl v' : Value} {n m r c : Nat} {outs : List Nat} (h : TxJ W wr vo vl n m r c outs) (hc : c < 9)
    (ho : w2.ownsRow W.heap.size 5 1 v' (outs.length + 1) (bytesV outs ++ [.int .u8 ((48 + r % 10 : Nat) : Int)])) (hg : (wr.alloc (.cells #[.int .u8 ((48 + r % 10 : Nat) : Int)] 5)).grownBy w2 vo.ownBlock)
    (hv : v'.ownBlock = vo.ownBlock ∨ v'.ownBlock = some (wr.alloc (.cells #[.int .u8 ((48 + r % 10 : Nat) : Int)] 5)).heap.size) : TxJ W w2 v' vl n m (r / 10) (c + 1) (outs ++ [48 + r % 10]) := by
  have hw := h.below.size
  have hb1 : Below wr.heap.size wr (wr.alloc (.cells #[.int .u8 ((48 + r % 10 : Nat) : Int)] 5)) := (Below.refl _ _).alloc (Nat.le_refl _) _
  have hvb : ∀ j, vo.ownBlock = some j → W.heap.size ≤ j := fun j hj => (h.own.lt j hj).1
  have hb : Below W.heap.size (wr.alloc (.cells #[.int .u8 ((48 + r % 10 : Nat) : Int)] 5)) w2 := (Below.refl _ _).grown hg (by simp; omega) hvb
  refine ⟨(h.below.alloc hw _).trans hb, by simpa [bytesV] using ho, (h.off.below hb1).grown hg hv, ?_⟩
  have h1 := h.val
  rw [show 9 - c = (9 - (c + 1)) + 1 by omega, d9] at h1
  rw [List.append_assoc]; exact h1
theorem TxI.start {W wr w2 w3 : World} {vo vl vl2 : Value} {n m : Nat} {outs : List Nat} (h : TxI W wr vo vl n m outs) (hm : m ≠ 0) (hb2 : Below wr.heap.size wr w2) (hb3 : Below w2.heap.size w2 w3) {g k c : Nat} (hg : g = wr.heap.size) (he : vl2 = .slice (some ⟨g, 0, none⟩) k c) (hl : IsLimbs w3 vl2 (limbsOf (m / 1000000000))) (hw : wr.heap.size < w2.heap.size) :
    TxJ W w3 vo vl2 n (m / 1000000000) (m % 1000000000) 0 outs := by
  have hb : Below wr.heap.size wr w3 := hb2.trans (hb3.mono hb2.size)
  have hs3 := hb3.size
  refine ⟨h.below.trans (hb.mono h.below.size), ownsRow_below h.own hb, ⟨hl, fun b hbb => ?_⟩, ?_⟩
  · rw [he] at hbb
    have hbg : b = g := (Option.some.inj hbb).symm
    refine ⟨fun e => ?_, by omega⟩
    have := (h.own.lt b e).2
    omega
  · rw [← h.val, chunks_pos hm]
theorem TxJ.stop {W wr : World} {vo vl : Value} {n m r : Nat} {outs : List Nat} (h : TxJ W wr vo vl n m r 9 outs) : TxI W wr vo vl n m outs := ⟨h.below, h.own, h.off, h.val⟩

set_option maxRecDepth 100000 in
set_option maxHeartbeats 8000000 in
theorem Text_any (n : Nat) (va : Value) (w : World) (ha : IsNat w va n) (hl : (limbsOf n).length ≤ 1000000) (hc : (chunks n).length ≤ 1000000) :
    Calls Tryd.prog 12 #[va] w fun e w' => e = .returned (.string (textB n)) ∧ Below w.heap.size w w' := by
  obtain ⟨i0, hi, hz0, hz1, hz2⟩ := info_parts infoU8
  obtain ⟨a, ca, rfl⟩ := ha.shape
  have hb1 : Below w.heap.size w (w.alloc (.cells #[.slice a (limbsOf n).length ca] 24)) := (Below.refl _ _).alloc (Nat.le_refl _) _
  have hz := Zero_any n _ _ (ha.below hb1)
  by_cases h0 : n = 0
  · subst h0
    have Hz := Lib.hid hz; clear hz ha hl hc
    rw [limbs_zero] at Hz hb1 ⊢
    have Hb1 := Lib.hid hb1; clear hb1
    go_enter Tryd.func12, Tryd.ntmps12
    go_wp2_with fail
    refine Hz.out.mono ?_
    rintro e w2 ⟨rfl, hb2⟩
    have Hb2 := Lib.hid hb2; clear hb2
    simp only [beq_self_eq_true]
    go_wp2_with fail
    go_ret
    exact ⟨rfl, Hb1.out.trans (Hb2.out.mono Hb1.out.size)⟩
  · have hn0 : (n == 0) = false := by simpa using h0
    rw [hn0] at hz
    have Hz := Lib.hid hz; have Hb1 := Lib.hid hb1; have H0 := Lib.hid h0; have Hc := Lib.hid hc; have Hl := Lib.hid hl
    have hlim := ha.limbs
    have Hlim := Lib.hid hlim
    clear hz hb1 hn0 h0 hc hl ha hlim
    go_enter Tryd.func12, Tryd.ntmps12
    go_wp2_with fail
    refine Hz.out.mono ?_
    rintro e w2 ⟨rfl, hb2⟩
    have hbw := Hb1.out.trans (hb2.mono Hb1.out.size)
    have hba : w2.heap[w.heap.size]? = some (.cells #[.slice a (limbsOf n).length ca] 24 (0, 0)) := (hb2.block _ (by simp)).trans (heap_at rfl)
    have c1 := cell_of_one hba
    have hoff : ∀ b, (Value.slice a (limbsOf n).length ca).ownBlock = some b → b < w2.heap.size := fun b hb => by
      have hne : limbsOf n ≠ [] := fun h => H0.out (limbs_nil h)
      obtain ⟨_, b0, o0, _, h1, h2, _, _, _, h6, _⟩ := Hlim.out
      have e1 := h2 hne
      cases h1
      rw [e1] at hb
      have e2 : b = b0 := (Option.some.inj hb).symm
      have := h6 hne; have := hbw.size; omega
    have hst : TxI w2 w2 (.slice none 0 0) (.slice a (limbsOf n).length ca) n n [] := ⟨Below.refl _ _, World.ownsRow_nil _ _ _ _, ⟨Hlim.out.below hbw, fun b hb => ⟨by simp [Value.ownBlock], hoff b hb⟩⟩, rfl⟩
    have Hst := Lib.hid hst; have Hbw := Lib.hid hbw
    clear hst hbw hb2 hba hoff
    go_wp2_with fail
    clear c1
    go_loopg [3, 4] n (fun gk o l wr => ∃ (m : Nat) (outs : List Nat) (al : Option Addr) (cl : Nat), m = gk ∧ m ≤ n ∧ l = .slice al (limbsOf m).length cl ∧ TxI w2 wr o l n m outs)
    case atStart => exact ⟨n, [], a, ca, rfl, Nat.le_refl _, rfl, Hst.out⟩
    case round =>
      clear Hst
      obtain ⟨m, outs, al, cl, rfl, hmn, rfl, hI⟩ := hrel
      obtain ⟨wo, hwo⟩ : ∃ wo : World, wo = wr := ⟨_, rfl⟩
      subst hwo
      have hmc : (limbsOf m).length ≤ 1000000 := Nat.le_trans (limbs_mono' hmn) Hl.out
      have hcl : (chunks n).length ≤ 1000000 := Hc.out
      by_cases hm0 : m = 0
      · subst hm0
        have hz : (limbsOf 0).length = 0 := by rw [limbs_zero]; rfl
        have hout : outs = chunks n := by have := hI.val; rw [chunks_zero, List.append_nil] at this; exact this
        subst hout
        obtain ⟨x0, hx0, hne0⟩ := chunks_some n H0.out
        have hpos : 0 < (chunks n).length := List.length_pos_of_mem hx0
        obtain ⟨g, cap, rfl, hg, hrow⟩ := owns_brow hI.own hpos
        have Hrow := Lib.hid hrow; have HI := Lib.hid hI; have Hg := Lib.hid hg; have Hcl := Lib.hid hcl
        have Hx0 := Lib.hid (show ∃ x ∈ chunks n, x ≠ 48 from ⟨x0, hx0, hne0⟩)
        clear hrow hI hg hx0 hne0 hmc hcl
        rw [hz]
        go_wp2_with fail
        go_loopg [3] (chunks n).length (fun gk o wx => ∃ k : Nat, k + 1 = gk ∧ k + 1 ≤ (chunks n).length ∧ o = .slice (some ⟨g, 0, none⟩) (k + 1) cap ∧ wx = wo ∧ ∀ x ∈ (chunks n).drop (k + 1), x = 48)
        case atStart => exact ⟨(chunks n).length - 1, by omega, by omega, by rw [show (chunks n).length - 1 + 1 = (chunks n).length by omega], rfl, fun x hx => by rw [show (chunks n).length - 1 + 1 = (chunks n).length by omega, List.drop_length] at hx; cases hx⟩
        case round =>
          obtain ⟨j, rfl, hj, rfl, rfl, h48⟩ := hrel
          have hjl : j < (chunks n).length := by omega
          have c1 := Hrow.out.cell hjl
          have hgd : (chunks n).getD j 0 = (chunks n)[j] := by simp [hjl]
          rw [hgd] at c1
          have hcap : (chunks n).length ≤ cap := by obtain ⟨_, _, h2, _⟩ := Hrow.out; exact h2
          have hjc : j ≤ cap := by omega
          have hjb : j ≤ 1000000 := by have := Hcl.out; omega
          by_cases hx : (chunks n)[j] = 48
          · rw [hx] at c1
            have hj0 : j ≠ 0 := by
              rintro rfl
              obtain ⟨x0, hx0, hne0⟩ := Hx0.out
              rw [← List.take_append_drop 1 (chunks n)] at hx0
              rcases List.mem_append.1 hx0 with h | h
              · rw [List.take_succ_eq_append_getElem (by omega)] at h
                simp at h
                exact hne0 (h.trans hx)
              · exact hne0 (h48 x0 h)
            have h48b : ∀ x ∈ (chunks n).drop j, x = 48 := fun x hm => by
              rw [List.drop_eq_getElem_cons hjl] at hm
              rcases List.mem_cons.1 hm with e | e
              · rw [e]; exact hx
              · exact h48 x e
            have H48 := Lib.hid h48b
            clear h48 h48b hx hgd
            go_wp2_with fail
            go_roundg j
            case measure => omega
            case rel => exact ⟨j - 1, by omega, by omega, by rw [show j - 1 + 1 = j by omega], rfl, by rw [show j - 1 + 1 = j by omega]; exact H48.out⟩
          · have hxr := chunks_range n _ (List.getElem_mem hjl)
            have hne : (((chunks n)[j] : Nat) : Int) ≠ 48 := by omega
            have hne2 : ((((chunks n)[j] : Nat) : Int) == 48) = false := by simpa using hne
            have hcz := cut_zeros hjl hx h48
            have hrv := revB_any g cap (j + 1) _ wr (Hrow.out.less (show j + 1 ≤ (chunks n).length by omega)) (by have := Hcl.out; omega)
            generalize (chunks n)[j] = x at c1 hne hne2
            have Hrv := Lib.hid hrv; have Hcz := Lib.hid hcz
            clear hrv hcz h48 hx hxr hgd hne
            go_wp2_with fail
            refine Hrv.out.mono ?_
            rintro e w5 ⟨rfl, hr5, ho5⟩
            have htx : (textN n).length = j + 1 := by unfold textN; rw [if_neg H0.out, Hcz.out]; simp; omega
            have hcv := run_convert_bytes_arg (P := Tryd.prog) w5 80 5 Tryd.underlying80 Tryd.underlying5 g 0 (j + 1) cap ((textN n).map fun x : Nat => (x : Int)) (by simp [htx]) (fun i hi => by
              rw [Nat.zero_add, hr5.cell hi]
              have e1 : (textN n)[i]? = some ((chunks n).getD (j + 1 - 1 - i) 0) := by
                unfold textN
                rw [if_neg H0.out, Hcz.out, List.getElem?_reverse (by simp; omega)]
                simp only [List.length_take]
                rw [List.getElem?_take_of_lt (by omega), List.getD_eq_getElem?_getD, show min (j + 1) (chunks n).length - 1 - i = j + 1 - 1 - i by omega]
                rw [List.getElem?_eq_getElem (by omega)]; rfl
              simp [List.getD_eq_getElem?_getD, List.getElem?_map, e1]) 9 Tryd.underlying9
            have Hcv := Lib.hid hcv; have Ho5 := Lib.hid ho5
            clear hcv hr5 ho5 Hrv
            have hcv := Hcv.out
            go_wp2_with fail
            go_ret
            refine ⟨rfl, ?_⟩
            have h1 := Hbw.out.trans (HI.out.below.mono Hbw.out.size)
            refine h1.trans (Ho5.out.below h1.size (fun k hk => ?_))
            have e5 : k = g := hk
            have := Hg.out; have := Hbw.out.size; omega
      · have hposN : 0 < (limbsOf m).length := by
          have h1 : limbsOf m ≠ [] := fun h => hm0 (limbs_nil h)
          have h2 : (limbsOf m).length ≠ 0 := fun h => h1 (List.eq_nil_of_length_eq_zero h)
          omega
        have hq := short_any 1000000000 (.slice al (limbsOf m).length cl) (limbsOf m) wo hI.off.lim (by decide) (by decide) hmc
        have hsv := short_val (d := 1000000000) (by decide) (by decide) (limbs_lt m)
        have hsp := short_spec (d := 1000000000) (by decide) (by decide) (limbsOf m) (limbs_lt m)
        rw [val_limbs] at hsv hq
        have HI := Lib.hid hI; have Hq := Lib.hid hq; have Hsv := Lib.hid hsv; have Hsp := Lib.hid hsp; have Hm0 := Lib.hid hm0
        clear hI hq hsv hsp hm0 hmc
        go_wp2_with fail
        refine Hq.out.mono ?_
        rintro e w3 ⟨rfl, hl3, hb3⟩
        have hl3b := hl3
        rw [← Hsp.out.2.1] at hl3b
        have hq2 := made_at _ _ _ w3 hl3b
        rw [Hsv.out.1, Hsp.out.2.1] at hq2
        have hwl := hb3.size
        have hl1 : wo.heap.size < w3.heap.size := by
          obtain ⟨a', b', o', c', e1, e2, _, _, _, e6, _⟩ := hl3b
          have hne : (shortL 1000000000 (limbsOf m)).1 ≠ [] := fun h => by have := Hsp.out.2.1; rw [h] at this; simp at this; omega
          have := e2 hne
          cases e1
          have e7 : wo.heap.size = b' := by have := Option.some.inj this; exact congrArg Addr.block this
          have := e6 hne; omega
        have Hq2 := Lib.hid hq2; have Hb3 := Lib.hid hb3; have Hl1 := Lib.hid hl1
        clear hq2 hl3 hl3b hb3 Hq hwl hl1
        go_wp2_with fail
        refine Hq2.out.mono ?_
        rintro e w4 ⟨k4, rfl, hn4, hb4⟩
        have hl4 := hn4.limbs
        have hk4 : k4 = (limbsOf (m / 1000000000)).length := by
          obtain ⟨_, _, e1, _, _⟩ := hl4.shape
          cases e1; rfl
        subst hk4
        have hj := HI.out.start Hm0.out Hb3.out hb4 rfl rfl hl4 Hl1.out
        have hr0 : valL (limbsOf m) % 1000000000 = m % 1000000000 := by rw [val_limbs]
        have Hj := Lib.hid hj; have Hr0 := Lib.hid hr0
        have hfn := field_nat
        clear hj hl4 hn4 hb4 hr0 Hq2
        go_wp2_with fail
        clear hfn
        go_loopg [3, 6, 22] 9 (fun gk o r i wx => ∃ (c r' : Nat) (outs' : List Nat), c ≤ 9 ∧ gk = 9 - c ∧ r = .int .u32 r' ∧ i = .int .i64 c ∧ r' < 1000000000 ∧ TxJ w2 wx o (.slice (some ⟨wo.heap.size, 0, none⟩) (limbsOf (m / 1000000000)).length (limbsOf m).length) n (m / 1000000000) r' c outs')
        case atStart => exact ⟨0, m % 1000000000, outs, by omega, rfl, by first | rfl | rw [Hr0.out], rfl, by omega, Hj.out⟩
        case round =>
          clear Hj
          obtain ⟨c, r', outs', hc9, rfl, rfl, rfl, hr9, hJ⟩ := hrel
          have hol : outs'.length ≤ 1000000 := by
            have := congrArg List.length hJ.val
            simp only [List.length_append] at this
            omega
          by_cases hc : c < 9
          · obtain ⟨ao, co, rfl⟩ := owns_shape hJ.own
            have hdig : 48 + r' % 10 < 256 := by omega
            have hown := hJ.own.alloc (.cells #[.int .u8 ((48 + r' % 10 : Nat) : Int)] 5)
            have hpush := fun w7 v' => hJ.push (w2 := w7) (v' := v') hc
            have hbase : w2.heap.size ≤ (wr.alloc (.cells #[.int .u8 ((48 + r' % 10 : Nat) : Int)] 5)).heap.size := by have := hJ.below.size; simp; omega
            have hcast : ((48 + r' % 10 : Nat) : Int) = 48 + (r' : Int) % 10 := by omega
            rw [hcast] at hown hpush hbase
            have Hown := Lib.hid hown; have Hpush := Lib.hid hpush; have Hol := Lib.hid hol
            clear hown hpush hdig hcast hJ hol
            go_wp2_with (at_builtin; refine wpList_append_at _ rfl (.tmp 24) (.tmp 29) 80 rfl w2.heap.size 5 i0 (.int .u8 0) 1 1 Tryd.underlying80 hi hz0 hz1 hz2 rfl (by decide) _ _ _ rfl Hown.out _ 1 1 [.int .u8 (48 + (r' : Int) % 10)] rfl rfl (cell_new_at _ _ _ _ rfl) (by intro u hu; rw [List.mem_singleton.1 hu]; rfl) (by have := Hol.out; simp only [maxLen]; omega) (by have := Hol.out; omega) hbase ?_; intro v' w7 hown7 hgrow7 hor7; have Hf7 := Lib.hid (Hpush.out _ _ hown7 hgrow7 hor7); obtain ⟨a7, c7, rfl⟩ := owns_shape hown7; clear hown7 hgrow7 hor7)
            go_roundg (9 - (c + 1))
            case measure => omega
            case rel => exact ⟨c + 1, r' / 10, _, by omega, rfl, by go_num, by go_num, by omega, Hf7.out⟩
          · obtain rfl : c = 9 := by omega
            have Hs := Lib.hid hJ.stop
            clear hJ hol
            go_wp2_with fail
            go_roundg (m / 1000000000)
            case measure => have := Hm0.out; omega
            case rel => exact ⟨m / 1000000000, outs', _, _, rfl, by omega, rfl, Hs.out⟩
end Go.Proofs.YtdeaficdfooegaaDoor
