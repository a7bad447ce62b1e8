/- Contracts: Version.Text, Version.Cmp, slices.Compare at ints (rows of three). -/
import Derived.Test.YtheemhelioendaaGreatDoorVerT
namespace Go.Proofs.YtheemhelioendaaGreatDoor
open Go.RowKit
set_option linter.unusedVariables false

def cmp3 (a b c x y z : Int) : Int := if Lib.compareInt a x ≠ 0 then Lib.compareInt a x else if Lib.compareInt b y ≠ 0 then Lib.compareInt b y else Lib.compareInt c z
theorem compareInt_cases (a b : Int) : (a < b ∧ Lib.compareInt a b = -1) ∨ (a = b ∧ Lib.compareInt a b = 0) ∨ (b < a ∧ Lib.compareInt a b = 1) := by
  unfold Lib.compareInt
  rcases Int.lt_trichotomy a b with h | h | h
  · left; refine ⟨h, ?_⟩; (repeat' split) <;> first | rfl | (exfalso; omega)
  · right; left; refine ⟨h, ?_⟩; (repeat' split) <;> first | rfl | (exfalso; omega)
  · right; right; refine ⟨h, ?_⟩; (repeat' split) <;> first | rfl | (exfalso; omega)
theorem cmp3_num {a b c x y z : Int} (h : VerOk a b c) (h' : VerOk x y z) : (cmp3 a b c x y z < 0 ↔ numV a b c < numV x y z) ∧ (cmp3 a b c x y z = 0 ↔ numV a b c = numV x y z) ∧ (0 < cmp3 a b c x y z ↔ numV x y z < numV a b c) := by
  obtain ⟨⟨a1, a2⟩, ⟨b1, b2⟩, c1, c2⟩ := h
  obtain ⟨⟨x1, x2⟩, ⟨y1, y2⟩, z1, z2⟩ := h'
  unfold cmp3 numV
  rcases compareInt_cases a x with ⟨p, e⟩ | ⟨p, e⟩ | ⟨p, e⟩
  · rw [e, if_pos (by decide)]; omega
  · rw [e, if_neg (by decide)]
    rcases compareInt_cases b y with ⟨q, e⟩ | ⟨q, e⟩ | ⟨q, e⟩
    · rw [e, if_pos (by decide)]; omega
    · rw [e, if_neg (by decide)]
      rcases compareInt_cases c z with ⟨r, e⟩ | ⟨r, e⟩ | ⟨r, e⟩ <;> (rw [e]; omega)
    · rw [e, if_pos (by decide)]; omega
  · rw [e, if_pos (by decide)]; omega

set_option maxRecDepth 100000 in
set_option maxHeartbeats 4000000 in
theorem compare3_any (p q : Nat) (a b c x y z : Int) (T T' : TypeId) (w : World) (hp : w.heap[p]? = some (.cells #[.int .i64 a, .int .i64 b, .int .i64 c] T (0, 0))) (hq : w.heap[q]? = some (.cells #[.int .i64 x, .int .i64 y, .int .i64 z] T' (0, 0))) :
    Calls Tryz.prog 57 #[.slice (some ⟨p, 0, none⟩) 3 3, .slice (some ⟨q, 0, none⟩) 3 3] w fun e w' => e = .returned (.int .i64 (cmp3 a b c x y z)) ∧ w' = w := by
  obtain ⟨p0, p1, p2, _⟩ := cells3 hp
  obtain ⟨q0, q1, q2, _⟩ := cells3 hq
  have H0 := Lib.hid (compareI_any a x w); have H1 := Lib.hid (compareI_any b y w); have H2 := Lib.hid (compareI_any c z w)
  have hres : ∀ r, r = cmp3 a b c x y z → r = (if Lib.compareInt a x ≠ 0 then Lib.compareInt a x else if Lib.compareInt b y ≠ 0 then Lib.compareInt b y else Lib.compareInt c z) := fun r h => h
  generalize hR : cmp3 a b c x y z = R at hres
  have Hres := Lib.hid (hres R rfl)
  clear hres hR hp hq
  generalize Lib.compareInt a x = A at H0 Hres
  generalize Lib.compareInt b y = B at H1 Hres
  generalize Lib.compareInt c z = C at H2 Hres
  go_enter Tryz.func57, Tryz.ntmps57
  go_wp2_with fail
  go_loopg [11] 3 (fun gk i wr => ∃ k : Nat, k ≤ 3 ∧ gk = 3 - k ∧ i = .int .i64 k ∧ w = wr ∧ (0 < k → A = 0) ∧ (1 < k → B = 0) ∧ (2 < k → C = 0))
  case atStart => exact ⟨0, by omega, rfl, rfl, rfl, fun h => by omega, fun h => by omega, fun h => by omega⟩
  case round =>
    obtain ⟨k, hk, rfl, rfl, rfl, ia, ib, ic⟩ := hrel
    have Ia := Lib.hid ia; have Ib := Lib.hid ib; have Ic := Lib.hid ic
    clear ia ib ic
    obtain rfl | rfl | rfl | rfl : k = 0 ∨ k = 1 ∨ k = 2 ∨ k = 3 := by omega
    · by_cases hz : A = 0
      · subst hz
        go_wp2_with fail
        refine H0.out.mono ?_
        rintro e w1 ⟨rfl, rfl⟩
        go_wp2_with fail
        go_roundg 2
        case measure => omega
        case rel => exact ⟨1, by omega, rfl, rfl, rfl, by simp, fun h => by omega, fun h => by omega⟩
      · have t1 : (A != 0) = true := by rw [bne_iff_ne]; exact hz
        have Hz := Lib.hid hz; clear hz
        have hr : R = A := by rw [Hres.out, if_pos Hz.out]
        subst hr
        go_wp2_with fail
        refine H0.out.mono ?_
        rintro e w1 ⟨rfl, rfl⟩
        go_wp2_with fail
        go_ret
        exact ⟨rfl, rfl⟩
    · have ha := Ia.out (by omega)
      by_cases hz : B = 0
      · subst hz
        clear ha
        go_wp2_with fail
        refine H1.out.mono ?_
        rintro e w1 ⟨rfl, rfl⟩
        go_wp2_with fail
        go_roundg 1
        case measure => omega
        case rel => exact ⟨2, by omega, rfl, rfl, rfl, fun _ => Ia.out (by omega), by simp, fun h => by omega⟩
      · have t1 : (B != 0) = true := by rw [bne_iff_ne]; exact hz
        have Hz := Lib.hid hz; clear hz
        have hr : R = B := by rw [Hres.out, if_neg (by rw [ha]; decide), if_pos Hz.out]
        clear ha
        subst hr
        go_wp2_with fail
        refine H1.out.mono ?_
        rintro e w1 ⟨rfl, rfl⟩
        go_wp2_with fail
        go_ret
        exact ⟨rfl, rfl⟩
    · have ha := Ia.out (by omega)
      have hb := Ib.out (by omega)
      have hr : R = C := by rw [Hres.out, if_neg (by rw [ha]; decide), if_neg (by rw [hb]; decide)]
      clear ha hb
      subst hr
      by_cases hz : R = 0
      · subst hz
        go_wp2_with fail
        refine H2.out.mono ?_
        rintro e w1 ⟨rfl, rfl⟩
        go_wp2_with fail
        go_roundg 0
        case measure => omega
        case rel => exact ⟨3, by omega, rfl, rfl, rfl, fun _ => Ia.out (by omega), fun _ => Ib.out (by omega), by simp⟩
      · have t1 : (R != 0) = true := by rw [bne_iff_ne]; exact hz
        clear hz
        go_wp2_with fail
        refine H2.out.mono ?_
        rintro e w1 ⟨rfl, rfl⟩
        go_wp2_with fail
        go_ret
        exact ⟨rfl, rfl⟩
    · have ha := Ia.out (by omega)
      have hb := Ib.out (by omega)
      have hc := Ic.out (by omega)
      have hr : R = 0 := by rw [Hres.out, if_neg (by rw [ha]; decide), if_neg (by rw [hb]; decide), hc]
      clear ha hb hc
      subst hr
      go_wp2_with fail
      go_ret
      exact ⟨rfl, rfl⟩

set_option maxRecDepth 100000 in
set_option maxHeartbeats 4000000 in
theorem cmp_any (a b c x y z : Int) (w : World) : Calls Tryz.prog 25 #[.agg #[.int .i64 a, .int .i64 b, .int .i64 c], .agg #[.int .i64 x, .int .i64 y, .int .i64 z]] w fun e w' => e = .returned (.int .i64 (cmp3 a b c x y z)) ∧ Below w.heap.size w w' := by
  obtain ⟨W, hW⟩ : ∃ W, W = ((w.alloc (.cells #[.int .i64 a, .int .i64 b, .int .i64 c] 46)).alloc (.cells #[.int .i64 x, .int .i64 y, .int .i64 z] 46)) := ⟨_, rfl⟩
  have hb : Below w.heap.size w W := by rw [hW]; exact ((Below.refl _ _).alloc (Nat.le_refl _) _).alloc (by simp) _
  have h1 : W.heap[w.heap.size]? = some (.cells #[.int .i64 a, .int .i64 b, .int .i64 c] 46 (0, 0)) := by rw [hW]; exact heap_up (heap_at rfl)
  have h2 : W.heap[w.heap.size + 1]? = some (.cells #[.int .i64 x, .int .i64 y, .int .i64 z] 46 (0, 0)) := by rw [hW]; exact heap_at (by simp)
  have HC := Lib.hid (compare3_any w.heap.size (w.heap.size + 1) a b c x y z _ _ W.drew h1 h2)
  have Hb := Lib.hid hb.drew
  clear hb h1 h2
  generalize cmp3 a b c x y z = R at HC ⊢
  go_enter Tryz.func25, Tryz.ntmps25
  go_upto_region 1 with fail
  rw [← hW]
  clear hW
  go_region_held3 (fun w' => True) (trivial)
    ((go_at_call 57; (with_reducible refine (HC.out).mono ?_); rintro e w5 ⟨rfl, rfl⟩))
  go_wp2_with fail
  go_ret
  exact ⟨rfl, Hb.out⟩
theorem vstr_eq {a b c : Int} : ((((⟨(Lib.itoa a).toArray⟩ : ByteArray) ++ ⟨#[46]⟩) ++ ⟨(Lib.itoa b).toArray⟩) ++ ⟨#[46]⟩) ++ ⟨(Lib.itoa c).toArray⟩ = wordB (verL a b c) := by
  apply ByteArray.ext
  apply Array.toList_inj.1
  unfold wordB verL
  simp
set_option maxRecDepth 100000 in
set_option maxHeartbeats 4000000 in
theorem text_any (a b c : Int) (w : World) (h : VerOk a b c) (hL : LaidR w) : Calls Tryz.prog 50 #[.agg #[.int .i64 a, .int .i64 b, .int .i64 c]] w fun e w' => e = .returned (.string (wordB (verL a b c))) ∧ Below w.heap.size w w' := by
  obtain ⟨W, hW⟩ : ∃ W, W = w.alloc (.cells #[.int .i64 a, .int .i64 b, .int .i64 c] 46) := ⟨_, rfl⟩
  have hb : Below w.heap.size w W := by rw [hW]; exact (Below.refl _ _).alloc (Nat.le_refl _) _
  have h1 : W.drew.heap[w.heap.size]? = some (.cells #[.int .i64 a, .int .i64 b, .int .i64 c] 46 (0, 0)) := by rw [hW]; exact heap_at rfl
  have hl1 := (okNum_of h.a).2.2.2; have hl2 := (okNum_of h.b).2.2.2; have hl3 := (okNum_of h.c).2.2.2
  obtain ⟨⟨a1, a2⟩, ⟨b1, b2⟩, c1, c2⟩ := h
  have Hc := Lib.hid h1
  have HB := Lib.hid hb.drew
  have HL := Lib.hid hL
  have HN0 := Lib.hid (itoa_any a W.drew (by omega) (by omega) (hL.below HB.out))
  have HI := Lib.hid (show ∀ n (w' : World), -1000 ≤ n ∧ n ≤ 1000 → Below w.heap.size w w' → Calls Tryz.prog 86 #[.int .i64 n] w' fun e w'' => e = .returned (.string ⟨(Lib.itoa n).toArray⟩) ∧ Below w'.heap.size w' w'' from fun n w' hn hw => itoa_any n w' (by omega) (by omega) (hL.below hw))
  have He := Lib.hid (vstr_eq (a := a) (b := b) (c := c))
  have hs1 : (⟨(Lib.itoa a).toArray⟩ : ByteArray).size ≤ 3 := by show (Lib.itoa a).toArray.size ≤ 3; simpa using hl1
  have hs2 : (⟨(Lib.itoa b).toArray⟩ : ByteArray).size ≤ 3 := by show (Lib.itoa b).toArray.size ≤ 3; simpa using hl2
  have hs3 : (⟨(Lib.itoa c).toArray⟩ : ByteArray).size ≤ 3 := by show (Lib.itoa c).toArray.size ≤ 3; simpa using hl3
  clear hb h1 hl1 hl2 hl3 hL
  have HI2 := Lib.hid (show ∀ (w' : World), Below w.heap.size w w' → Calls Tryz.prog 86 #[.int .i64 b] w' fun e w'' => e = .returned (.string ⟨(Lib.itoa b).toArray⟩) ∧ Below w'.heap.size w' w'' from fun w' hw => HI.out b w' (by omega) hw)
  have HI3 := Lib.hid (show ∀ (w' : World), Below w.heap.size w w' → Calls Tryz.prog 86 #[.int .i64 c] w' fun e w'' => e = .returned (.string ⟨(Lib.itoa c).toArray⟩) ∧ Below w'.heap.size w' w'' from fun w' hw => HI.out c w' (by omega) hw)
  clear HI
  generalize (⟨(Lib.itoa a).toArray⟩ : ByteArray) = sa at *
  generalize (⟨(Lib.itoa b).toArray⟩ : ByteArray) = sb at *
  generalize (⟨(Lib.itoa c).toArray⟩ : ByteArray) = sc at *
  have z1 : ¬ 9223372036854775807 < sa.size + 1 := by omega
  have z2 : ¬ 9223372036854775807 < sa.size + 1 + sb.size := by omega
  have z3 : ¬ 9223372036854775807 < sa.size + 1 + sb.size + 1 := by omega
  have z4 : ¬ 9223372036854775807 < sa.size + 1 + sb.size + 1 + sc.size := by omega
  have KS := cells3 Hc.out
  go_enter Tryz.func50, Tryz.ntmps50
  go_upto_region 1 with fail
  rw [← hW]
  clear hW
  go_region_held3 (fun w' => w'.cell? ⟨w.heap.size, 0, none⟩ = some (.int .i64 a) ∧ w'.cell? ⟨w.heap.size, 1, none⟩ = some (.int .i64 b) ∧ w'.cell? ⟨w.heap.size, 2, none⟩ = some (.int .i64 c)) (exact ⟨KS.1, KS.2.1, KS.2.2.1⟩)
    (first
      | (go_at_call 86; (with_reducible refine (HN0.out).mono ?_); rintro e w5 ⟨rfl, hb⟩; have Hc := Lib.hid ((hb.block _ (lt_of_block Hc.out)).trans Hc.out); have KS := cells3 Hc.out; have HB := Lib.hid (HB.out.trans (hb.mono HB.out.size)); have HN1 := Lib.hid (HI2.out w5 HB.out); clear hb HN0)
      | (go_at_call 86; (with_reducible refine (HN1.out).mono ?_); rintro e w6 ⟨rfl, hb⟩; have Hc := Lib.hid ((hb.block _ (lt_of_block Hc.out)).trans Hc.out); have KS := cells3 Hc.out; have HB := Lib.hid (HB.out.trans (hb.mono HB.out.size)); have HN2 := Lib.hid (HI3.out w6 HB.out); clear hb HN1)
      | (go_at_call 86; (with_reducible refine (HN2.out).mono ?_); rintro e w7 ⟨rfl, hb⟩; have Hc := Lib.hid ((hb.block _ (lt_of_block Hc.out)).trans Hc.out); have KS := cells3 Hc.out; have HB := Lib.hid (HB.out.trans (hb.mono HB.out.size)); clear hb HN2))
  go_wp2_with fail
  go_ret
  exact ⟨congrArg (fun s => Ending.returned (Value.string s)) He.out, HB.out⟩
end Go.Proofs.YtheemhelioendaaGreatDoor
