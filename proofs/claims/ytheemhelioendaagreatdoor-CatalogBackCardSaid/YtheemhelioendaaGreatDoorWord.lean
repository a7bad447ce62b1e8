/- Contract: semver.word: one word of a range. -/
import Derived.Test.YtheemhelioendaaGreatDoorWrdM
import Derived.Test.YtheemhelioendaaGreatDoorShelfI
import Derived.Deep.RegionHeld3
import Derived.Deep.Cut
import Derived.Deep.CutRange
import Derived.Deep.CutBlock
namespace Go.Proofs.YtheemhelioendaaGreatDoor
open Go.RowKit
set_option linter.unusedVariables false

theorem opLen_le (s : ByteArray) : opLen s ≤ s.size := by
  unfold opLen
  have := (List.takeWhile_sublist opCh (l := s.data.toList)).length_le
  exact this
theorem takeWhile_get {p : UInt8 → Bool} : ∀ {l : List UInt8} {k : Nat} (h : k < l.length), (k < (l.takeWhile p).length → p l[k] = true) ∧ (k = (l.takeWhile p).length → p l[k] = false)
  | [], k, h => by simp at h
  | c :: l, 0, h => by
    simp only [List.getElem_cons_zero]
    cases hc : p c with
    | true => rw [List.takeWhile_cons_of_pos hc]; simp
    | false => rw [List.takeWhile_cons_of_neg (by simp [hc])]; simp
  | c :: l, k + 1, h => by
    simp only [List.getElem_cons_succ]
    cases hc : p c with
    | true =>
      rw [List.takeWhile_cons_of_pos hc]
      have := takeWhile_get (p := p) (l := l) (k := k) (by simpa using h)
      simp only [List.length_cons, Nat.add_lt_add_iff_right, Nat.add_right_cancel_iff]
      exact this
    | false => rw [List.takeWhile_cons_of_neg (by simp [hc])]; simp
theorem op_at {s : ByteArray} {k : Nat} (h : k < s.size) : (k < opLen s → opCh s[k] = true) ∧ (k = opLen s → opCh s[k] = false) := takeWhile_get (l := s.data.toList) h
theorem indexOp_any (c : UInt8) (w : World) : Calls Tryz.prog 142 #[.string ⟨#[61, 33, 60, 62, 94, 126]⟩, .int .u8 (c.toNat : Int)] w fun e w' => (∃ r : Int, e = .returned (.int .i64 r) ∧ decide (0 ≤ r) = opCh c) ∧ w' = w := by
  refine (Any.strings_IndexByte Tryz.lays137 _ _ w).mono ?_
  rintro e w' ⟨rfl, rfl⟩
  refine ⟨⟨_, rfl, ?_⟩, rfl⟩
  rw [opCh_index]
  simp [opsL]; rfl

def WordP (s : ByteArray) (w : World) (e : Ending) (w' : World) : Prop :=
  ∃ v r er, e = .returned (.tuple #[.agg #[v], er]) ∧ IsSp w' v r ∧ r.length ≤ 2 ∧ (∀ b, v.ownBlock = some b → w.heap.size ≤ b) ∧ Below w.heap.size w w' ∧
    ((er = .nilIface ∧ WordR s r) ∨ ((∃ k, er = .iface 43 (.int .i64 k)) ∧ ∀ r, ¬ WordR s r))
/-- made of one span that lies in a fresh row. -/
theorem made1_call (lo hi : Int) (b : Nat) (w : World) (hb : b = w.heap.size) (hf : Fits (lo, hi)) :
    Calls Tryz.prog 143 #[.slice (some ⟨b, 0, none⟩) 1 1] (w.alloc (.cells #[.int .i64 lo, .int .i64 hi] 115)) (MadeP [(lo, hi)] w.heap.size (w.alloc (.cells #[.int .i64 lo, .int .i64 hi] 115))) := by
  subst hb
  have h := made_any w.heap.size 1 1 w.heap.size (fun _ => (lo, hi)) (w.alloc (.cells #[.int .i64 lo, .int .i64 hi] 115)) ⟨_, heap_at rfl, Nat.le_refl _, rfl, fun k hk => by
    have : k = 0 := by omega
    subst this; exact ⟨rfl, rfl⟩⟩ (fun s hs => by
    obtain ⟨k, hk, rfl⟩ := mem_spL.1 hs
    exact hf) (by omega) (by decide) (Nat.le_refl _) (by rw [alloc_size]; omega)
  have e : spL 1 (fun _ => (lo, hi)) = [(lo, hi)] := rfl
  rw [e] at h
  exact h
theorem ne_bytes {s : ByteArray} {l : List UInt8} (h : (s.toList == l) = false) : s ≠ ⟨l.toArray⟩ := by
  intro e; subst e
  rw [ByteArray.toList_eq] at h
  simp at h
theorem toList_ne {s t : ByteArray} (h : s ≠ t) : (s.toList == t.data.toList) = false := by
  rw [beq_eq_false_iff_ne, ByteArray.toList_eq]
  intro e
  exact h (ByteArray.ext (Array.toList_inj.1 e))

theorem cells2 {w : World} {p : Nat} {a b : Value} {T : TypeId} (h : w.heap[p]? = some (.cells #[a, b] T (0, 0))) :
    w.cell? ⟨p, 0, none⟩ = some a ∧ w.cell? ⟨p, 1, none⟩ = some b ∧ w.frozen? ⟨p, 0, none⟩ = false ∧ w.frozen? ⟨p, 1, none⟩ = false := by
  refine ⟨?_, ?_, ?_, ?_⟩
  · rw [cell_of_row w p _ _ _ _ h]; rfl
  · rw [cell_of_row w p _ _ _ _ h]; rfl
  all_goals simp [World.frozen?, h]
theorem set2 {w : World} {p : Nat} {a b : Value} {T : TypeId} (h : w.heap[p]? = some (.cells #[a, b] T (0, 0))) (x y : Value) : ((w.setCell ⟨p, 0, none⟩ x).setCell ⟨p, 1, none⟩ y).heap[p]? = some (.cells #[x, y] T (0, 0)) := by
  have := heap_set (heap_set h 0 x) 1 y
  simpa using this
theorem keep2 {w : World} {p q : Nat} {o : Obj} (h : w.heap[q]? = some o) (hne : q ≠ p) (x y : Value) : ((w.setCell ⟨p, 0, none⟩ x).setCell ⟨p, 1, none⟩ y).heap[q]? = some o :=
  (Below.heap_setCell _ _ _ _ hne).trans ((Below.heap_setCell _ _ _ _ hne).trans h)
theorem hb5_up {w w' : World} {o : Obj} {B : Nat} (h : Below w.heap.size (w.alloc o) w') (hB : B ≤ w.heap.size) : Below B w w' :=
  ((Below.refl B w).alloc hB o).trans (h.mono hB)

set_option maxRecDepth 100000 in
set_option maxHeartbeats 8000000 in
theorem word_special (w : World) : Calls Tryz.prog 119 #[.string anyT] w (WordP anyT w) ∧ Calls Tryz.prog 119 #[.string noneT] w (WordP noneT w) := by
  constructor
  · have hal : Below w.heap.size w (w.alloc (.cells #[.slice none 0 0] 49)) := (Below.refl _ _).alloc (Nat.le_refl _) _
    have hblk : (w.alloc (.cells #[.slice none 0 0] 49)).heap[w.heap.size]? = some (.cells #[.slice none 0 0] 49 (0, 0)) := heap_at rfl
    have HAny := Lib.hid (any_any (w.alloc (.cells #[.slice none 0 0] 49)))
    have Hal := Lib.hid hal; have Hblk := Lib.hid hblk
    clear hal hblk
    unfold anyT
    go_enter Tryz.func119, Tryz.ntmps119
    go_wp2_with fail
    refine HAny.out.mono ?_
    rintro e w1 ⟨v, rfl, hsp, hfr, hb1⟩
    obtain ⟨a, c, rfl, _⟩ := hsp.shape
    have hblk1 := (hb1.block _ (by simp)).trans Hblk.out
    have d1 := cell_of_one hblk1; have d2 := free_of_one hblk1; have d3 := lt_of_block hblk1
    have k4 := cell_of_one (one_setCell (u := .slice a 1 c) hblk1)
    have Hsp := Lib.hid (hsp.set_other (b := w.heap.size) (fun b hb => by have := hfr b hb; simp at this; omega) (.slice a 1 c))
    have Hfr := Lib.hid hfr; have Hb1 := Lib.hid ((Hal.out.trans (hb1.mono Hal.out.size)).setCell (p := ⟨w.heap.size, 0, none⟩) (Nat.le_refl _) (.slice a 1 c))
    clear hsp hfr hb1 hblk1 HAny
    go_wp2_with fail
    exact bodyPost_ret (v := .tuple #[.agg #[.slice a 1 c], .nilIface]) (by simp [results, Tryz.results119, go_sem, k4]) rfl ⟨_, _, _, rfl, Hsp.out, by simp, fun b hb => by have := Hfr.out b hb; simp at this; omega, Hb1.out, .inl ⟨rfl, .inl ⟨rfl, rfl⟩⟩⟩
  · have hal : Below w.heap.size w (w.alloc (.cells #[.slice none 0 0] 49)) := (Below.refl _ _).alloc (Nat.le_refl _) _
    have Hal := Lib.hid hal
    clear hal
    unfold noneT
    go_enter Tryz.func119, Tryz.ntmps119
    go_wp2_with fail
    exact bodyPost_ret (v := .tuple #[.agg #[.slice none 0 0], .nilIface]) (by simp [results, Tryz.results119, go_sem]) rfl ⟨_, [], _, rfl, IsSp.nil _, by simp, fun b hb => (by cases hb), Hal.out, .inl ⟨rfl, .inr (.inl ⟨rfl, rfl⟩)⟩⟩

set_option maxRecDepth 100000 in
set_option maxHeartbeats 16000000 in
theorem word_plain (s : ByteArray) (w : World) (hs : s.size ≤ 100000) (hL : LaidR w) (h1 : s ≠ anyT) (h2 : s ≠ noneT) : Calls Tryz.prog 119 #[.string s] w (WordP s w) := by
  have e1 : (s.toList == [97, 110, 121]) = false := toList_ne h1
  have e2 : (s.toList == [110, 111, 110, 101]) = false := toList_ne h2
  have hle := opLen_le s
  obtain ⟨W, hW⟩ : ∃ W, W = w.alloc (.cells #[.slice none 0 0] 49) := ⟨_, rfl⟩
  have hbW : Below w.heap.size w W := by rw [hW]; exact (Below.refl _ _).alloc (Nat.le_refl _) _
  have hsW : W.heap.size = w.heap.size + 1 := by rw [hW]; simp
  have hblk : W.heap[w.heap.size]? = some (.cells #[.slice none 0 0] 49 (0, 0)) := by rw [hW]; exact heap_at rfl
  have hdata : (s.extract (opLen s) s.size).size ≤ 100000 := by simp; omega
  have HP := Lib.hid (parse_any (s.extract (opLen s) s.size) W hdata (hL.below hbW))
  have HbW := Lib.hid hbW; have HsW := Lib.hid hsW; have Hblk := Lib.hid hblk; have Hn1 := Lib.hid h1; have Hn2 := Lib.hid h2
  clear hbW hsW hblk h1 h2 hL hdata
  go_enter Tryz.func119, Tryz.ntmps119
  go_upto_region 1 with fail
  rw [← hW]
  clear hW
  go_upto_block 1 with fail
  go_cut [4] from 16 to 28 (fun i wx => i = .int .i64 (opLen s) ∧ wx = W)
  case first =>
    go_wp2_with fail
    go_loopg [4] s.size (fun gk i wr => ∃ k : Nat, k ≤ opLen s ∧ gk = s.size - k ∧ i = .int .i64 k ∧ W = wr)
    case atStart => exact ⟨0, Nat.zero_le _, rfl, rfl, rfl⟩
    case round =>
      obtain ⟨k, hk, rfl, rfl, rfl⟩ := hrel
      by_cases hlt : k < s.size
      · have hop := op_at hlt
        have hix := indexOp_any s[k] W
        have hlt2 : (k : Int) < (s.size : Int) := by omega
        by_cases hko : k < opLen s
        · rw [hop.1 hko] at hix
          have Hix := Lib.hid hix
          clear hop hix
          go_wp2_with fail
          refine Hix.out.mono ?_
          rintro e w' ⟨⟨r, rfl, hr⟩, rfl⟩
          go_wp2_with fail
          go_roundg (s.size - (k + 1))
          case measure => omega
          case rel => exact ⟨k + 1, by omega, rfl, by go_num, rfl⟩
        · have hke : k = opLen s := by omega
          rw [hop.2 hke] at hix
          have Hix := Lib.hid hix; have Hke := Lib.hid hke
          clear hop hix hke
          go_wp2_with fail
          refine Hix.out.mono ?_
          rintro e w' ⟨⟨r, rfl, hr⟩, rfl⟩
          go_wp2_with fail
          go_meet
          exact ⟨by rw [Hke.out], rfl⟩
      · have hke : k = opLen s := by omega
        have Hke := Lib.hid hke
        have hge : decide ((k : Int) < (s.size : Int)) = false := by simp; omega
        clear hke
        go_wp2_with fail
        go_meet
        exact ⟨by rw [Hke.out], rfl⟩
  case rest =>
    obtain ⟨rfl, rfl⟩ := hcut
    have hcut2 : (opLen s : Int) ≤ (s.size : Int) := by omega
    go_wp2_with fail
    refine HP.out.mono ?_
    rintro e w1 ⟨a, b, c, er, rfl, hb1, hcase⟩
    have hblk1 := (hb1.block _ (lt_of_block Hblk.out)).trans Hblk.out
    have Hb1 := Lib.hid (HbW.out.trans (hb1.mono HbW.out.size)); have Hblk1 := Lib.hid hblk1
    have Hs1 := Lib.hid (lt_of_block hblk1)
    clear hb1 hblk1 HP Hblk HbW
    rcases hcase with ⟨rfl, hok⟩ | ⟨⟨q, rfl⟩, hbad⟩
    · obtain ⟨hba, hbb, hbc⟩ := hok.bd
      obtain ⟨W2, hW2⟩ : ∃ W2, W2 = w1.alloc (.cells #[.int .i64 a, .int .i64 b, .int .i64 c] 46) := ⟨_, rfl⟩
      have hz2 : W2.heap.size = w1.heap.size + 1 := by rw [hW2]; simp
      have hb2 : Below w.heap.size w W2 := by rw [hW2]; exact Hb1.out.alloc (by have := Hs1.out; omega) _
      have hv2 : W2.heap[w1.heap.size]? = some (.cells #[.int .i64 a, .int .i64 b, .int .i64 c] 46 (0, 0)) := by rw [hW2]; exact heap_at rfl
      have hr2 : W2.heap[w.heap.size]? = some (.cells #[.slice none 0 0] 49 (0, 0)) := by rw [hW2]; exact heap_up Hblk1.out
      have HN := Lib.hid (number_any a b c W2 (by omega) (by omega) (by omega))
      have Hok := Lib.hid hok; have Hba := Lib.hid hba; have Hbb := Lib.hid hbb; have Hbc := Lib.hid hbc
      have Hz2 := Lib.hid hz2; have HB2 := Lib.hid hb2; have Hv2 := Lib.hid hv2; have Hr2 := Lib.hid hr2
      have hnb := numV_bd hba hbb hbc
      have hnc : 0 ≤ numV a b c ∧ numV a b c < 1000000000 := hnb
      obtain ⟨n1, n2⟩ := hnc
      have Hnb := Lib.hid hnb
      obtain ⟨N, hN⟩ : ∃ N, N = numV a b c := ⟨_, rfl⟩
      rw [← hN] at HN n1 n2 Hnb
      have HNe := Lib.hid hN
      clear hN hok hba hbb hbc hz2 hb2 hv2 hr2 Hblk1 Hb1
      obtain ⟨m0, m1, m2, m3, m4, m5⟩ := cells3 Hv2.out
      go_upto_region 12 with fail
      rw [← hW2]
      clear hW2
      go_wp2_with fail
      refine HN.out.mono ?_
      rintro e w3 ⟨rfl, hb3⟩
      have hv3 := (hb3.block _ (lt_of_block Hv2.out)).trans Hv2.out
      have hr3 := (hb3.block _ (lt_of_block Hr2.out)).trans Hr2.out
      have hB3 := HB2.out.trans (hb3.mono HB2.out.size)
      obtain ⟨W4, hW4⟩ : ∃ W4, W4 = w3.alloc (.cells #[.int .i64 0, .int .i64 0] 115) := ⟨_, rfl⟩
      have hz4 : W4.heap.size = w3.heap.size + 1 := by rw [hW4]; simp
      have hv4 : W4.heap[w1.heap.size]? = some (.cells #[.int .i64 a, .int .i64 b, .int .i64 c] 46 (0, 0)) := by rw [hW4]; exact heap_up hv3
      have hr4 : W4.heap[w.heap.size]? = some (.cells #[.slice none 0 0] 49 (0, 0)) := by rw [hW4]; exact heap_up hr3
      have hp4 : W4.heap[w3.heap.size]? = some (.cells #[.int .i64 0, .int .i64 0] 115 (0, 0)) := by rw [hW4]; exact heap_at rfl
      have hB4 : Below w.heap.size w W4 := by rw [hW4]; exact hB3.alloc hB3.size _
      have hlt3 := lt_of_block hr3
      have Hz4 := Lib.hid hz4; have Hv4 := Lib.hid hv4; have Hr4 := Lib.hid hr4; have Hp4 := Lib.hid hp4; have HB4 := Lib.hid hB4; have Hlt3 := Lib.hid hlt3
      clear hb3 hv3 hr3 hB3 hz4 hv4 hr4 hp4 hB4 hlt3 HN Hv2 Hr2 HB2 Hz2 m0 m1 m2 m3 m4 m5
      go_upto_region 14 with fail
      rw [← hW4]
      clear hW4
      have hcut3 : (0 : Int) ≤ (opLen s : Int) := by omega
      go_upto_block 3 with fail
      generalize hx : s.extract 0 (opLen s) = x
      have Hx := Lib.hid hx; clear hx
      go_cut [] from 45 to 97 (fun wx => ∃ (k : Nat) (lo hi : Int), wx.heap[w3.heap.size]? = some (.cells #[.int .i64 lo, .int .i64 hi] 115 (0, 0)) ∧ wx.heap[w.heap.size]? = some (.cells #[.slice none 0 0] 49 (0, 0)) ∧ Below w.heap.size w wx ∧ opK x.data.toList = some k ∧ k ≠ 1 ∧ (lo, hi) = opSpan k a b c ∧ w3.heap.size < wx.heap.size)
      case first =>
        have d1 := cell_of_one Hr4.out; have d2 := free_of_one Hr4.out; have d3 := lt_of_block Hr4.out
        obtain ⟨m0, m1, m2, m3, m4, m5⟩ := cells3 Hv4.out
        obtain ⟨p0, p1, p2, p3⟩ := cells2 Hp4.out
        have p4 := lt_of_block Hp4.out
        have hb1 := Hba.out.2; have hb2 := Hbb.out.2; have hb3 := Hbc.out.2
        rcases opK_cases x.data.toList with h | h | h | h | h | h | h | h | h | ⟨hn, g0, g1, g2, g3, g4, g5, g6, g7, g8⟩
        · obtain rfl : x = ⟨#[]⟩ := ByteArray.ext (Array.toList_inj.1 h)
          have Hh := Lib.hid h; clear h
          go_wp2_with fail
          go_meet
          exact ⟨0, _, _, set2 Hp4.out _ _, keep2 Hr4.out (by have := Hlt3.out; omega) _ _, (HB4.out.setCell (by have := Hlt3.out; show w.heap.size ≤ w3.heap.size; omega) _).setCell (by have := Hlt3.out; show w.heap.size ≤ w3.heap.size; omega) _, rfl, by decide, by rw [HNe.out]; rfl, by have := Hz4.out; simp; omega⟩
        · obtain rfl : x = ⟨#[61]⟩ := ByteArray.ext (Array.toList_inj.1 h)
          have Hh := Lib.hid h; clear h
          go_wp2_with fail
          go_meet
          exact ⟨0, _, _, set2 Hp4.out _ _, keep2 Hr4.out (by have := Hlt3.out; omega) _ _, (HB4.out.setCell (by have := Hlt3.out; show w.heap.size ≤ w3.heap.size; omega) _).setCell (by have := Hlt3.out; show w.heap.size ≤ w3.heap.size; omega) _, rfl, by decide, by rw [HNe.out]; rfl, by have := Hz4.out; simp; omega⟩
        · obtain rfl : x = ⟨#[33]⟩ := ByteArray.ext (Array.toList_inj.1 h)
          have Hh := Lib.hid h; clear h
          have hfit : Fits (N, N + 1) := fun _ => ⟨Hnb.out.1, by have := Hnb.out.2; show N + 1 ≤ pastV; omega⟩
          have HM := Lib.hid (made1_call N (N + 1) W4.heap.size W4 rfl hfit)
          clear hfit
          go_wp2_with fail
          refine HM.out.mono ?_
          rintro e w5 ⟨v5, r5, rfl, hs5, hm5, hl5, hf5, hb5⟩
          have hB5 := HB4.out.trans (hb5_up hb5 HB4.out.size)
          have hr5 := (hb5.block _ (lt_of_block Hr4.out)).trans (heap_up Hr4.out)
          obtain ⟨a5, c5, rfl, _⟩ := hs5.shape
          have HNot := Lib.hid (not_any _ r5 w5 hs5 hm5.1 (by have : ([(N, N + 1)] : List Spn).length = 1 := rfl; omega))
          have Hm5 := Lib.hid hm5; have Hl5 := Lib.hid hl5; have HB5 := Lib.hid hB5; have Hr5 := Lib.hid hr5
          clear hs5 hm5 hl5 hf5 hb5 hB5 hr5 HM d1 d2 d3 m0 m1 m2 m3 m4 m5 p0 p1 p2 p3 p4
          go_wp2_with fail
          refine HNot.out.mono ?_
          rintro e w6 ⟨v6, r6, rfl, hs6, hm6, hl6, hf6, hb6⟩
          obtain ⟨a6, c6, rfl, _⟩ := hs6.shape
          have hr6 := (hb6.block _ (lt_of_block Hr5.out)).trans Hr5.out
          have d1 := cell_of_one hr6; have d2 := free_of_one hr6; have d3 := lt_of_block hr6
          have k4 := cell_of_one (one_setCell (u := .slice a6 r6.length c6) hr6)
          have Hs6 := Lib.hid (hs6.set_other (b := w.heap.size) (fun b hb => by have := hf6 b hb; have := lt_of_block Hr5.out; omega) (.slice a6 r6.length c6))
          have HB6 := Lib.hid ((HB5.out.trans (hb6.mono HB5.out.size)).setCell (p := ⟨w.heap.size, 0, none⟩) (Nat.le_refl _) (.slice a6 r6.length c6))
          have Hf6 := Lib.hid (show ∀ b, (Value.slice a6 r6.length c6).ownBlock = some b → w.heap.size ≤ b from fun b hb => Nat.le_trans HB5.out.size (hf6 b hb))
          have Hl6 := Lib.hid (show r6.length ≤ 2 from by have := Hl5.out; have : ([(N, N + 1)] : List Spn).length = 1 := rfl; omega)
          have Hm6 := Lib.hid hm6
          clear hs6 hm6 hl6 hf6 hb6 hr6 HNot Hl5
          go_wp2_with fail
          refine bodyPost_ret (v := .tuple #[.agg #[.slice a6 r6.length c6], .nilIface]) (by simp [results, Tryz.results119, go_sem, k4]) rfl ⟨_, r6, _, rfl, Hs6.out, Hl6.out, Hf6.out, HB6.out, .inl ⟨rfl, .inr (.inr ⟨Hn1.out, Hn2.out, 1, a, b, c, by rw [Hx.out]; rfl, Hok.out, OpR.of_not (by have h := Hm5.out; rw [HNe.out] at h; exact h) Hm6.out⟩)⟩⟩
        · obtain rfl : x = ⟨#[60]⟩ := ByteArray.ext (Array.toList_inj.1 h)
          have Hh := Lib.hid h; clear h
          go_wp2_with fail
          go_meet
          exact ⟨2, _, _, set2 Hp4.out _ _, keep2 Hr4.out (by have := Hlt3.out; omega) _ _, (HB4.out.setCell (by have := Hlt3.out; show w.heap.size ≤ w3.heap.size; omega) _).setCell (by have := Hlt3.out; show w.heap.size ≤ w3.heap.size; omega) _, rfl, by decide, by rw [HNe.out]; rfl, by have := Hz4.out; simp; omega⟩
        · obtain rfl : x = ⟨#[60, 61]⟩ := ByteArray.ext (Array.toList_inj.1 h)
          have Hh := Lib.hid h; clear h
          go_wp2_with fail
          go_meet
          exact ⟨3, _, _, set2 Hp4.out _ _, keep2 Hr4.out (by have := Hlt3.out; omega) _ _, (HB4.out.setCell (by have := Hlt3.out; show w.heap.size ≤ w3.heap.size; omega) _).setCell (by have := Hlt3.out; show w.heap.size ≤ w3.heap.size; omega) _, rfl, by decide, by rw [HNe.out]; rfl, by have := Hz4.out; simp; omega⟩
        · obtain rfl : x = ⟨#[62]⟩ := ByteArray.ext (Array.toList_inj.1 h)
          have Hh := Lib.hid h; clear h
          go_wp2_with fail
          go_meet
          exact ⟨4, _, _, set2 Hp4.out _ _, keep2 Hr4.out (by have := Hlt3.out; omega) _ _, (HB4.out.setCell (by have := Hlt3.out; show w.heap.size ≤ w3.heap.size; omega) _).setCell (by have := Hlt3.out; show w.heap.size ≤ w3.heap.size; omega) _, rfl, by decide, by rw [HNe.out]; rfl, by have := Hz4.out; simp; omega⟩
        · obtain rfl : x = ⟨#[62, 61]⟩ := ByteArray.ext (Array.toList_inj.1 h)
          have Hh := Lib.hid h; clear h
          go_wp2_with fail
          go_meet
          exact ⟨5, _, _, set2 Hp4.out _ _, keep2 Hr4.out (by have := Hlt3.out; omega) _ _, (HB4.out.setCell (by have := Hlt3.out; show w.heap.size ≤ w3.heap.size; omega) _).setCell (by have := Hlt3.out; show w.heap.size ≤ w3.heap.size; omega) _, rfl, by decide, by rw [HNe.out]; rfl, by have := Hz4.out; simp; omega⟩
        · obtain rfl : x = ⟨#[94]⟩ := ByteArray.ext (Array.toList_inj.1 h)
          have Hh := Lib.hid h; clear h
          have HC := Lib.hid (caret_any a b c W4 Hba.out Hbb.out Hbc.out)
          obtain ⟨C, hC⟩ : ∃ C, C = caretV a b c := ⟨_, rfl⟩
          rw [← hC] at HC
          have HCe := Lib.hid hC
          clear hC
          go_wp2_with fail
          refine HC.out.mono ?_
          rintro e w5 ⟨rfl, hb5⟩
          have hr5 := (hb5.block _ (lt_of_block Hr4.out)).trans Hr4.out
          have hp5 := (hb5.block _ (lt_of_block Hp4.out)).trans Hp4.out
          have HB5 := Lib.hid (HB4.out.trans (hb5.mono HB4.out.size))
          have Hr5 := Lib.hid hr5; have Hp5 := Lib.hid hp5
          clear hb5 hr5 hp5 d1 d2 d3 m0 m1 m2 m3 m4 m5 p0 p1 p2 p3 p4 HC
          obtain ⟨p0, p1, p2, p3⟩ := cells2 Hp5.out
          have p4 := lt_of_block Hp5.out
          go_wp2_with fail
          go_meet
          exact ⟨6, _, _, set2 Hp5.out _ _, keep2 Hr5.out (by have := Hlt3.out; omega) _ _, (HB5.out.setCell (by have := Hlt3.out; show w.heap.size ≤ w3.heap.size; omega) _).setCell (by have := Hlt3.out; show w.heap.size ≤ w3.heap.size; omega) _, rfl, by decide, by rw [HNe.out, HCe.out]; rfl, by simp; omega⟩
        · obtain rfl : x = ⟨#[126]⟩ := ByteArray.ext (Array.toList_inj.1 h)
          have Hh := Lib.hid h; clear h
          have HC := Lib.hid (number_any a (b + 1) 0 W4 (by have := Hba.out; omega) (by have := Hbb.out; omega) (by omega))
          obtain ⟨C, hC⟩ : ∃ C, C = numV a (b + 1) 0 := ⟨_, rfl⟩
          rw [← hC] at HC
          have HCe := Lib.hid hC
          have hb0 := Hbb.out.1
          clear hC
          go_wp2_with fail
          refine HC.out.mono ?_
          rintro e w5 ⟨rfl, hb5⟩
          have hr5 := (hb5.block _ (lt_of_block Hr4.out)).trans Hr4.out
          have hp5 := (hb5.block _ (lt_of_block Hp4.out)).trans Hp4.out
          have HB5 := Lib.hid (HB4.out.trans (hb5.mono HB4.out.size))
          have Hr5 := Lib.hid hr5; have Hp5 := Lib.hid hp5
          clear hb5 hr5 hp5 d1 d2 d3 m0 m1 m2 m3 m4 m5 p0 p1 p2 p3 p4 HC
          obtain ⟨p0, p1, p2, p3⟩ := cells2 Hp5.out
          have p4 := lt_of_block Hp5.out
          go_wp2_with fail
          go_meet
          exact ⟨7, _, _, set2 Hp5.out _ _, keep2 Hr5.out (by have := Hlt3.out; omega) _ _, (HB5.out.setCell (by have := Hlt3.out; show w.heap.size ≤ w3.heap.size; omega) _).setCell (by have := Hlt3.out; show w.heap.size ≤ w3.heap.size; omega) _, rfl, by decide, by rw [HNe.out, HCe.out]; rfl, by simp; omega⟩
        · have t0 : x.toList = [] → False := fun e => g0 (by rw [← ByteArray.toList_eq]; exact e)
          have b0 : x.toList.isEmpty = false := by cases hq : x.toList with | nil => exact (t0 hq).elim | cons _ _ => rfl
          have b1 : (x.toList == [61]) = false := by rw [beq_eq_false_iff_ne, ByteArray.toList_eq]; exact g1
          have b2 : (x.toList == [33]) = false := by rw [beq_eq_false_iff_ne, ByteArray.toList_eq]; exact g2
          have b3 : (x.toList == [60]) = false := by rw [beq_eq_false_iff_ne, ByteArray.toList_eq]; exact g3
          have b4 : (x.toList == [60, 61]) = false := by rw [beq_eq_false_iff_ne, ByteArray.toList_eq]; exact g4
          have b5 : (x.toList == [62]) = false := by rw [beq_eq_false_iff_ne, ByteArray.toList_eq]; exact g5
          have b6 : (x.toList == [62, 61]) = false := by rw [beq_eq_false_iff_ne, ByteArray.toList_eq]; exact g6
          have b7 : (x.toList == [94]) = false := by rw [beq_eq_false_iff_ne, ByteArray.toList_eq]; exact g7
          have b8 : (x.toList == [126]) = false := by rw [beq_eq_false_iff_ne, ByteArray.toList_eq]; exact g8
          have Hn := Lib.hid hn
          have Hne := Lib.hid (show ∀ k, opK x.data.toList ≠ some k from fun k h => by rw [hn] at h; cases h)
          have k4 := cell_of_one (one_setCell (u := .slice none 0 0) Hr4.out)
          clear g0 g1 g2 g3 g4 g5 g6 g7 g8 hn t0
          go_wp2_with fail
          refine bodyPost_ret (v := .tuple #[.agg #[.slice none 0 0], .iface 43 (.int .i64 3)]) (by simp [results, Tryz.results119, go_sem, k4]) rfl ⟨_, [], _, rfl, IsSp.nil _, by simp, fun b hb => (by cases hb), HB4.out.setCell (Nat.le_refl _) _, .inr ⟨⟨_, rfl⟩, fun r hr => ?_⟩⟩
          rcases hr with ⟨hr, _⟩ | ⟨hr, _⟩ | ⟨_, _, k, a', b', c', hk, _, _⟩
          · exact Hn1.out hr
          · exact Hn2.out hr
          · rw [Hx.out] at hk; exact Hne.out k hk
      case rest =>
        obtain ⟨k, lo, hi, hp, hr, hB, hk, hk1, hsp, hlt⟩ := hcut
        have hfb := opSpan_fits (k := k) Hba.out Hbb.out Hbc.out
        have hfit : Fits (lo, hi) := fun _ => by rw [hsp]; exact hfb
        have HM := Lib.hid (made1_call lo hi wc.heap.size wc rfl hfit)
        obtain ⟨p0, p1, p2, p3⟩ := cells2 hp
        have Hr := Lib.hid hr; have HB := Lib.hid hB; have Hk := Lib.hid hk; have Hk1 := Lib.hid hk1; have Hsp := Lib.hid hsp; have Hlt := Lib.hid hlt
        clear hp hr hB hk hk1 hsp hlt hfb hfit Hr4 Hp4 Hv4 HB4
        go_wp2_with fail
        refine HM.out.mono ?_
        rintro e w5 ⟨v5, r5, rfl, hs5, hm5, hl5, hf5, hb5⟩
        have hB5 := HB.out.trans (hb5_up hb5 HB.out.size)
        have hr5 := (hb5.block _ (lt_of_block Hr.out)).trans (heap_up Hr.out)
        obtain ⟨a5, c5, rfl, _⟩ := hs5.shape
        have d1 := cell_of_one hr5; have d2 := free_of_one hr5; have d3 := lt_of_block hr5
        have k4 := cell_of_one (one_setCell (u := .slice a5 r5.length c5) hr5)
        have Hs5 := Lib.hid (hs5.set_other (b := w.heap.size) (fun b hb => by have := hf5 b hb; have := lt_of_block Hr.out; simp at *; omega) (.slice a5 r5.length c5))
        have HB6 := Lib.hid (hB5.setCell (p := ⟨w.heap.size, 0, none⟩) (Nat.le_refl _) (.slice a5 r5.length c5))
        have Hf6 := Lib.hid (show ∀ b, (Value.slice a5 r5.length c5).ownBlock = some b → w.heap.size ≤ b from fun b hb => by have := hf5 b hb; have := HB.out.size; simp at *; omega)
        have Hl6 := Lib.hid (show r5.length ≤ 2 from by have : ([(lo, hi)] : List Spn).length = 1 := rfl; omega)
        have Hm5 := Lib.hid hm5
        clear hs5 hm5 hl5 hf5 hb5 hr5 HM hB5
        go_wp2_with fail
        refine bodyPost_ret (v := .tuple #[.agg #[.slice a5 r5.length c5], .nilIface]) (by simp [results, Tryz.results119, go_sem, k4]) rfl ⟨_, r5, _, rfl, Hs5.out, Hl6.out, Hf6.out, HB6.out, .inl ⟨rfl, .inr (.inr ⟨Hn1.out, Hn2.out, k, a, b, c, by rw [Hx.out]; exact Hk.out, Hok.out, OpR.of_made Hk1.out (by have h := Hm5.out; rw [Hsp.out] at h; exact h)⟩)⟩⟩
    · have d1 := cell_of_one Hblk1.out; have d2 := free_of_one Hblk1.out; have d3 := lt_of_block Hblk1.out
      have Hbad := Lib.hid hbad
      have k4 : ((w1.setCell ⟨w.heap.size, 0, none⟩ (.slice none 0 0)).alloc (.cells #[.int .i64 a, .int .i64 b, .int .i64 c] 46)).cell? ⟨w.heap.size, 0, none⟩ = some (.slice none 0 0) := cell_of_one (heap_up (one_setCell Hblk1.out))
      clear hbad
      go_wp2_with fail
      refine bodyPost_ret (v := .tuple #[.agg #[.slice none 0 0], .iface 43 (.int .i64 q)]) (by simp [results, Tryz.results119, go_sem, k4]) rfl ⟨_, [], _, rfl, IsSp.nil _, by simp, fun b hb => (by cases hb), (Hb1.out.setCell (Nat.le_refl _) _).alloc (by have := Hs1.out; simp; omega) _, .inr ⟨⟨_, rfl⟩, fun r hr => ?_⟩⟩
      rcases hr with ⟨hr, _⟩ | ⟨hr, _⟩ | ⟨_, _, k, a', b', c', _, hv, _⟩
      · exact Hn1.out hr
      · exact Hn2.out hr
      · exact Hbad.out _ _ _ hv
theorem word_any (s : ByteArray) (w : World) (hs : s.size ≤ 100000) (hL : LaidR w) : Calls Tryz.prog 119 #[.string s] w (WordP s w) := by
  by_cases h1 : s = anyT
  · subst h1; exact (word_special w).1
  · by_cases h2 : s = noneT
    · subst h2; exact (word_special w).2
    · exact word_plain s w hs hL h1 h2
end Go.Proofs.YtheemhelioendaaGreatDoor
