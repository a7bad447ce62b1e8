/- Some texts in one: SortQ, SortI. -/
import Derived.Test.YtmlfelbkgoplhaaGreatDoorZhPkI
import Derived.Test.YtmlfelbkgoplhaaGreatDoorShelfQ
import Derived.Test.YtmlfelbkgoplhaaGreatDoorZhPkA
namespace Go.Proofs.YtmlfelbkgoplhaaGreatDoor
open Go.RowKit
set_option linter.unusedVariables false
def GrowsTo (w w' : World) : Prop := ∃ q os', w' = Sort.grow (w.drewN q) os'
theorem GrowsTo.refl (w : World) : GrowsTo w w := ⟨0, #[], by simp [Sort.grow, World.drewN]⟩
theorem GrowsTo.alloc {w w' : World} (h : GrowsTo w w') (o : Obj) : GrowsTo w (w'.alloc o) := by
 obtain ⟨q, os, rfl⟩ := h
 exact ⟨q, os ++ #[o], by rw [Sort.alloc_eq_grow, Sort.grow_grow]⟩
theorem GrowsTo.drew {w w' : World} (h : GrowsTo w w') : GrowsTo w w'.drew := by
 obtain ⟨q, os, rfl⟩ := h
 exact ⟨q + 1, os, by simp [Sort.grow, World.drewN, World.drew]; omega⟩
theorem GrowsTo.drewN {w w' : World} (h : GrowsTo w w') (n : Nat) : GrowsTo w (w'.drewN n) := by
 obtain ⟨q, os, rfl⟩ := h
 exact ⟨q + n, os, by simp [Sort.grow, World.drewN]; omega⟩
theorem GrowsTo.trans {w w1 w2 : World} (h : GrowsTo w w1) (h2 : GrowsTo w1 w2) : GrowsTo w w2 := by
 obtain ⟨q, os, rfl⟩ := h
 obtain ⟨q2, os2, rfl⟩ := h2
 exact ⟨q + q2, os ++ os2, by simp [Sort.grow, World.drewN]; omega⟩
theorem GrowsTo.below {w w' : World} (h : GrowsTo w w') : Below w.heap.size w w' := by
 obtain ⟨q, os, rfl⟩ := h
 refine ⟨rfl, rfl, rfl, by simp [Sort.grow, World.drewN], fun k hk => ?_⟩
 show (w.heap ++ os)[k]? = _
 rw [Array.getElem?_append_left hk]
def cmpB (x y : ByteArray) : Int := if Op.bytesLess x.toList y.toList = true then -1 else if x.toList = y.toList then 0 else 1
theorem less_lt : ∀ (x y : List UInt8), Op.bytesLess x y = decide (x < y)
 | [], [] => by simp [Op.bytesLess]
 | _ :: _, [] => by simp [Op.bytesLess]
 | [], _ :: _ => by simp [Op.bytesLess]
 | a :: x, b :: y => by
  rw [Op.bytesLess, less_lt x y]
  simp only [List.cons_lt_cons_iff]
  by_cases h1 : a < b <;> by_cases h2 : a = b <;> by_cases h3 : x < y <;> simp [h1, h2, h3]
theorem tri_bytes (x y : List UInt8) : (x < y ∧ x ≠ y ∧ ¬ y < x) ∨ (x = y ∧ ¬ x < y ∧ ¬ y < x) ∨ (y < x ∧ x ≠ y ∧ ¬ x < y) := by
 have hi := fun l : List UInt8 => List.lt_irrefl l
 by_cases h1 : x < y
 · exact .inl ⟨h1, fun e => hi x (by rw [← e] at h1; exact h1), fun h2 => hi x (List.lt_trans h1 h2)⟩
 ·
  by_cases h2 : y < x
  · exact .inr (.inr ⟨h2, fun e => hi x (by rw [← e] at h2; exact h2), h1⟩)
  · exact .inr (.inl ⟨List.le_antisymm h2 h1, h1, h2⟩)
theorem cmpB_cases (x y : ByteArray) : (x.toList < y.toList ∧ x ≠ y ∧ cmpB x y = -1) ∨ (x = y ∧ cmpB x y = 0) ∨ (y.toList < x.toList ∧ x ≠ y ∧ cmpB x y = 1) := by
 unfold cmpB
 rw [less_lt]
 rcases tri_bytes x.toList y.toList with ⟨h1, h2, h3⟩ | ⟨h1, h2, h3⟩ | ⟨h1, h2, h3⟩
 · exact .inl ⟨h1, fun e => h2 (by rw [e]), by rw [if_pos (by simpa using h1)]⟩
 · exact .inr (.inl ⟨toList_inj' h1, by rw [if_neg (by simpa using h2), if_pos h1]⟩)
 · exact .inr (.inr ⟨h1, fun e => h2 (by rw [e]), by rw [if_neg (by simpa using h3), if_neg h2]⟩)
theorem cmp3_lex (a b c x y z : Int) : (cmp3 a b c x y z < 0 ↔ a < x ∨ a = x ∧ (b < y ∨ b = y ∧ c < z)) ∧ (0 < cmp3 a b c x y z ↔ x < a ∨ a = x ∧ (y < b ∨ b = y ∧ z < c)) := by
 unfold cmp3
 rcases compareInt_cases a x with ⟨h, e⟩ | ⟨h, e⟩ | ⟨h, e⟩
 · rw [e, if_pos (by decide)]; omega
 ·
  rw [e, if_neg (by decide)]
  rcases compareInt_cases b y with ⟨h2, e⟩ | ⟨h2, e⟩ | ⟨h2, e⟩
  · rw [e, if_pos (by decide)]; omega
  ·
   rw [e, if_neg (by decide)]
   rcases compareInt_cases c z with ⟨h3, e⟩ | ⟨h3, e⟩ | ⟨h3, e⟩ <;> rw [e] <;> omega
  · rw [e, if_pos (by decide)]; omega
 · rw [e, if_pos (by decide)]; omega
def cfI (x y : ItemM) : Int := if cmpB x.1 y.1 ≠ 0 then cmpB x.1 y.1 else cmp3 y.2.1 y.2.2.1 y.2.2.2 x.2.1 x.2.2.1 x.2.2.2
theorem cfI_lt (x y : ItemM) : cfI x y < 0 ↔ itemLt x y := by
 unfold cfI itemLt
 rcases cmpB_cases x.1 y.1 with ⟨h1, h2, e⟩ | ⟨h2, e⟩ | ⟨h1, h2, e⟩
 · rw [e, if_pos (by decide)]; exact ⟨fun _ => .inl h1, fun _ => by decide⟩
 ·
  rw [e, if_neg (by decide)]
  exact ⟨fun h => .inr ⟨h2, h⟩, fun h => h.elim (fun q => absurd q (by rw [h2]; exact List.lt_irrefl _)) (fun q => q.2)⟩
 ·
  rw [e, if_pos (by decide)]
  exact ⟨fun h => by omega, fun h => h.elim (fun q => absurd (List.lt_trans h1 q) (List.lt_irrefl _)) (fun q => absurd q.1 h2)⟩
theorem itemLt_irrefl (x : ItemM) : ¬ itemLt x x := by
 rintro (h | ⟨_, h⟩)
 · exact List.lt_irrefl _ h
 · rw [(cmp3_lex _ _ _ _ _ _).1] at h; omega
theorem itemLt_trans {x y z : ItemM} (h1 : itemLt x y) (h2 : itemLt y z) : itemLt x z := by
 rcases h1 with h1 | ⟨e1, h1⟩ <;> rcases h2 with h2 | ⟨e2, h2⟩
 · exact .inl (List.lt_trans h1 h2)
 · exact .inl (by rw [← e2]; exact h1)
 · exact .inl (by rw [e1]; exact h2)
 ·
  refine .inr ⟨e1.trans e2, ?_⟩
  rw [(cmp3_lex _ _ _ _ _ _).1] at *
  omega
theorem itemLt_tri (x y : ItemM) : itemLt x y ∨ x = y ∨ itemLt y x := by
 rcases cmpB_cases x.1 y.1 with ⟨h1, h2, e⟩ | ⟨h2, e⟩ | ⟨h1, h2, e⟩
 · exact .inl (.inl h1)
 ·
  by_cases ha : cmp3 y.2.1 y.2.2.1 y.2.2.2 x.2.1 x.2.2.1 x.2.2.2 < 0
  · exact .inl (.inr ⟨h2, ha⟩)
  ·
   by_cases hb : cmp3 x.2.1 x.2.2.1 x.2.2.2 y.2.1 y.2.2.1 y.2.2.2 < 0
   · exact .inr (.inr (.inr ⟨h2.symm, hb⟩))
   ·
    refine .inr (.inl ?_)
    rw [(cmp3_lex _ _ _ _ _ _).1] at ha hb
    obtain ⟨n, a, b, c⟩ := x
    obtain ⟨n', a', b', c'⟩ := y
    simp only at h2 ha hb
    subst h2
    have e1 : a = a' := by omega
    subst e1
    have e2 : b = b' := by omega
    subst e2
    have e3 : c = c' := by omega
    subst e3
    rfl
 · exact .inr (.inr (.inl h1))
theorem ltI (x y : ItemM) : (ltOf cfI x y = true ↔ itemLt x y) := by
 unfold ltOf
 rw [decide_eq_true_iff, cfI_lt]
theorem ltI_no (x y : ItemM) : (ltOf cfI x y = false ↔ ¬ itemLt x y) := by rw [← ltI, Bool.eq_false_iff]
theorem swoI : Sort.SWO (ltOf cfI) where
 irrefl x := (ltI_no x x).2 (itemLt_irrefl x)
 trans x y z h1 h2 := (ltI x z).2 (itemLt_trans ((ltI x y).1 h1) ((ltI y z).1 h2))
 ntrans x y z h1 h2 := by
  rw [ltI_no] at *
  intro h
  rcases itemLt_tri x y with q | q | q
  · exact h1 q
  · subst q; exact h2 h
  ·
   rcases itemLt_tri y z with q2 | q2 | q2
   · exact h2 q2
   · subst q2; exact itemLt_irrefl x (itemLt_trans h q)
   · exact itemLt_irrefl x (itemLt_trans h (itemLt_trans q2 q))
theorem isNaNS_any (x : ByteArray) (w : World) : Calls Tryz.prog 171 #[.string x] w fun e w' => e = .returned (.bool false) ∧ w' = w := by
 go_enter Tryz.func171, Tryz.ntmps171
 go_wp2
 go_ret
 exact ⟨by simp, rfl⟩
set_option maxRecDepth 10000 in
set_option maxHeartbeats 1000000 in
theorem cmpS_any (x y : ByteArray) (w : World) : Calls Tryz.prog 127 #[.string x, .string y] w fun e w' => e = .returned (.int .i64 (cmpB x y)) ∧ w' = w := by
 have hx := isNaNS_any x w
 have hy := isNaNS_any y w
 rcases cmpB_cases x y with ⟨h1, h2, e⟩ | ⟨h2, e⟩ | ⟨h1, h2, e⟩
 ·
  have t1 : Op.bytesLess x.toList y.toList = true := by rw [less_lt]; simpa using h1
  rw [e]
  have H1 := Lib.hid h1; have H2 := Lib.hid h2
  clear e h1 h2
  go_enter Tryz.func127, Tryz.ntmps127
  go_wp2_with (first | (go_at_call 171; refine hx.mono ?_; rintro e w' ⟨rfl, rfl⟩) | (go_at_call 171; refine hy.mono ?_; rintro e w' ⟨rfl, rfl⟩))
  go_ret
  exact ⟨rfl, rfl⟩
 ·
  subst h2
  have t1 : Op.bytesLess x.toList x.toList = false := by rw [less_lt]; rw [decide_eq_false_iff_not]; exact List.lt_irrefl x.toList
  rw [e]
  clear e
  go_enter Tryz.func127, Tryz.ntmps127
  go_wp2_with (go_at_call 171; refine hx.mono ?_; rintro e w' ⟨rfl, rfl⟩)
  go_ret
  exact ⟨rfl, rfl⟩
 ·
  have t1 : Op.bytesLess x.toList y.toList = false := by
   rw [less_lt]
   have : ¬ x.toList < y.toList := fun q => List.lt_irrefl _ (List.lt_trans h1 q)
   simpa using this
  have t2 : (x.toList == y.toList) = false := by rw [beq_eq_false_iff_ne]; exact fun q => h2 (toList_inj' q)
  rw [e]
  have H1 := Lib.hid h1; have H2 := Lib.hid h2
  clear e h1 h2
  go_enter Tryz.func127, Tryz.ntmps127
  go_wp2_with (first | (go_at_call 171; refine hx.mono ?_; rintro e w' ⟨rfl, rfl⟩) | (go_at_call 171; refine hy.mono ?_; rintro e w' ⟨rfl, rfl⟩))
  go_ret
  exact ⟨rfl, rfl⟩
set_option maxRecDepth 100000 in
set_option maxHeartbeats 4000000 in
theorem cmpOr_any (q : Nat) (a b : Int) (W : World) (h : W.heap[q]? = some (.cells #[.int .i64 a, .int .i64 b] 3 (0, 0))) :
 Calls Tryz.prog 126 #[.slice (some ⟨q, 0, none⟩) 2 2] W fun e w' => e = .returned (.int .i64 (if a ≠ 0 then a else b)) ∧ W = w' := by
 obtain ⟨c0, c1, _, _⟩ := cellsC h
 have H := Lib.hid h
 clear h
 by_cases ha : a = 0
 ·
  subst ha
  rw [if_neg (by simp)]
  by_cases hb : b = 0
  ·
   subst hb
   go_enter Tryz.func126, Tryz.ntmps126
   go_wp2_with fail
   go_loopg [8] 2 (fun gk i wr => ∃ k : Nat, k ≤ 2 ∧ gk = 2 - k ∧ i = .int .i64 k ∧ W = wr)
   case atStart => exact ⟨0, by omega, rfl, rfl, rfl⟩
   case round =>
    obtain ⟨k, hk, rfl, rfl, rfl⟩ := hrel
    obtain rfl | rfl | rfl : k = 0 ∨ k = 1 ∨ k = 2 := by omega
    ·
     go_wp2_with fail
     go_roundg 1
     case measure => omega
     case rel => exact ⟨1, by omega, rfl, rfl, rfl⟩
    ·
     go_wp2_with fail
     go_roundg 0
     case measure => omega
     case rel => exact ⟨2, by omega, rfl, rfl, rfl⟩
    ·
     go_wp2_with fail
     go_ret
     exact ⟨rfl, rfl⟩
  ·
   have tb : (b != 0) = true := by rw [bne_iff_ne]; exact hb
   clear hb
   go_enter Tryz.func126, Tryz.ntmps126
   go_wp2_with fail
   go_loopg [8] 2 (fun gk i wr => ∃ k : Nat, k ≤ 1 ∧ gk = 2 - k ∧ i = .int .i64 k ∧ W = wr)
   case atStart => exact ⟨0, by omega, rfl, rfl, rfl⟩
   case round =>
    obtain ⟨k, hk, rfl, rfl, rfl⟩ := hrel
    obtain rfl | rfl : k = 0 ∨ k = 1 := by omega
    ·
     go_wp2_with fail
     go_roundg 1
     case measure => omega
     case rel => exact ⟨1, by omega, rfl, rfl, rfl⟩
    ·
     go_wp2_with fail
     go_ret
     exact ⟨rfl, rfl⟩
 ·
  rw [if_pos ha]
  have ta : (a != 0) = true := by rw [bne_iff_ne]; exact ha
  clear ha
  go_enter Tryz.func126, Tryz.ntmps126
  go_wp2_with fail
  go_loopg [8] 2 (fun gk i wr => gk = 2 ∧ i = .int .i64 0 ∧ W = wr)
  case atStart => exact ⟨rfl, rfl, rfl⟩
  case round =>
   obtain ⟨rfl, rfl, rfl⟩ := hrel
   go_wp2_with fail
   go_ret
   exact ⟨rfl, rfl⟩
set_option maxRecDepth 100000 in
set_option maxHeartbeats 4000000 in
theorem cmpG_any (a b c x y z : Int) (w : World) : Calls Tryz.prog 128 #[.agg #[.int .i64 a, .int .i64 b, .int .i64 c], .agg #[.int .i64 x, .int .i64 y, .int .i64 z]] w fun e w' => e = .returned (.int .i64 (cmp3 a b c x y z)) ∧ GrowsTo w w' := by
 obtain ⟨W, hW⟩ : ∃ W, W = ((w.alloc (.cells #[.int .i64 a, .int .i64 b, .int .i64 c] 72)).alloc (.cells #[.int .i64 x, .int .i64 y, .int .i64 z] 72)) := ⟨_, rfl⟩
 have hb : GrowsTo w W := by rw [hW]; exact ((GrowsTo.refl w).alloc _).alloc _
 have h1 : W.heap[w.heap.size]? = some (.cells #[.int .i64 a, .int .i64 b, .int .i64 c] 72 (0, 0)) := by rw [hW]; exact heap_up (heap_at rfl)
 have h2 : W.heap[w.heap.size + 1]? = some (.cells #[.int .i64 x, .int .i64 y, .int .i64 z] 72 (0, 0)) := by rw [hW]; exact heap_at (by simp)
 have HC := Lib.hid (compare3_any w.heap.size (w.heap.size + 1) a b c x y z _ _ W.drew h1 h2)
 have Hb := Lib.hid hb.drew
 clear hb h1 h2
 generalize cmp3 a b c x y z = R at HC ⊢
 go_enter Tryz.func128, Tryz.ntmps128
 go_upto_region 1 with fail
 rw [← hW]
 clear hW
 go_region_held3 (fun w' => True) (trivial)
  ((go_at_call 172; (with_reducible refine (HC.out).mono ?_); rintro e w5 ⟨rfl, rfl⟩))
 go_wp2_with fail
 go_ret
 exact ⟨rfl, Hb.out⟩
theorem GrowsTo.cell {w w' : World} (h : GrowsTo w w') {g : Nat} {o : Obj} (hb : w.heap[g]? = some o) : w'.heap[g]? = some o := (h.below.block g (lt_of_block hb)).trans hb
set_option maxRecDepth 100000 in
set_option maxHeartbeats 8000000 in
theorem new1_any (x y : ItemM) (w : World) : Calls Tryz.prog 125 #[.agg (encItem x).toArray, .agg (encItem y).toArray] w fun e w' => e = .returned (.int .i64 (cfI x y)) ∧ GrowsTo w w' := by
 obtain ⟨nx, a, b, c⟩ := x
 obtain ⟨ny, p, q, r⟩ := y
 obtain ⟨W, hW⟩ : ∃ W, W = ((w.alloc (.cells #[.string nx, .int .i64 a, .int .i64 b, .int .i64 c] 94)).alloc (.cells #[.string ny, .int .i64 p, .int .i64 q, .int .i64 r] 94)) := ⟨_, rfl⟩
 have hb : GrowsTo w W := by rw [hW]; exact ((GrowsTo.refl w).alloc _).alloc _
 have h1 : W.heap[w.heap.size]? = some (.cells #[.string nx, .int .i64 a, .int .i64 b, .int .i64 c] 94 (0, 0)) := by rw [hW]; exact heap_up (heap_at rfl)
 have h2 : W.heap[w.heap.size + 1]? = some (.cells #[.string ny, .int .i64 p, .int .i64 q, .int .i64 r] 94 (0, 0)) := by rw [hW]; exact heap_at (by simp)
 have HK := Lib.hid (show ∀ w', GrowsTo W w' → (w'.cell? ⟨w.heap.size, 0, none⟩ = some (.string nx) ∧ w'.cell? ⟨w.heap.size, 1, none⟩ = some (.int .i64 a) ∧ w'.cell? ⟨w.heap.size, 2, none⟩ = some (.int .i64 b) ∧ w'.cell? ⟨w.heap.size, 3, none⟩ = some (.int .i64 c)) ∧ (w'.cell? ⟨w.heap.size + 1, 0, none⟩ = some (.string ny) ∧ w'.cell? ⟨w.heap.size + 1, 1, none⟩ = some (.int .i64 p) ∧ w'.cell? ⟨w.heap.size + 1, 2, none⟩ = some (.int .i64 q) ∧ w'.cell? ⟨w.heap.size + 1, 3, none⟩ = some (.int .i64 r)) from fun w' hw => ⟨cells4 (hw.cell h1), cells4 (hw.cell h2)⟩)
 have HW := Lib.hid (GrowsTo.refl W).drew
 have Hb := Lib.hid hb
 have KS := HK.out _ HW.out
 have HS := Lib.hid (cmpS_any nx ny W.drew)
 have hcf : cfI (nx, a, b, c) (ny, p, q, r) = if cmpB nx ny ≠ 0 then cmpB nx ny else cmp3 p q r a b c := rfl
 rw [hcf]
 generalize cmpB nx ny = A at HS ⊢
 generalize hB : cmp3 p q r a b c = B
 have HC := Lib.hid (fun w' => hB ▸ cmpG_any p q r a b c w')
 clear hb h1 h2 hcf hB
 obtain ⟨R, hR⟩ : ∃ R, R = if A ≠ 0 then A else B := ⟨_, rfl⟩
 rw [← hR]
 have HR := Lib.hid hR
 clear hR
 simp only [encItem]
 go_enter Tryz.func125, Tryz.ntmps125
 go_upto_region 1 with fail
 rw [← hW]
 clear hW
 go_region_held3 (fun w' => (w'.cell? ⟨w.heap.size, 0, none⟩ = some (.string nx) ∧ w'.cell? ⟨w.heap.size, 1, none⟩ = some (.int .i64 a) ∧ w'.cell? ⟨w.heap.size, 2, none⟩ = some (.int .i64 b) ∧ w'.cell? ⟨w.heap.size, 3, none⟩ = some (.int .i64 c)) ∧ (w'.cell? ⟨w.heap.size + 1, 0, none⟩ = some (.string ny) ∧ w'.cell? ⟨w.heap.size + 1, 1, none⟩ = some (.int .i64 p) ∧ w'.cell? ⟨w.heap.size + 1, 2, none⟩ = some (.int .i64 q) ∧ w'.cell? ⟨w.heap.size + 1, 3, none⟩ = some (.int .i64 r)))
  (first | exact KS | exact HK.out _ (HW.out.alloc _))
  (first
   | (go_at_call 127; (with_reducible refine (HS.out).mono ?_); rintro e w5 ⟨rfl, rfl⟩)
   | (go_at_call 128; (with_reducible refine (HC.out _).mono ?_); rintro e w6 ⟨rfl, hg⟩; have HW := Lib.hid (HW.out.trans hg); have KS := HK.out _ HW.out; have HO := Lib.hid (cmpOr_any w6.heap.size A B (w6.alloc (.cells #[.int .i64 A, .int .i64 B] 3)) (heap_at rfl)); rw [← HR.out] at HO; clear hg)
   | (go_at_call 126; (with_reducible refine (HO.out).mono ?_); rintro e w7 ⟨rfl, rfl⟩))
 go_wp2_with fail
 go_ret
 exact ⟨rfl, Hb.out.trans (HW.out.alloc _)⟩
end Go.Proofs.YtmlfelbkgoplhaaGreatDoor
namespace Go.Proofs.YtmlfelbkgoplhaaGreatDoor
open Go.RowKit
set_option linter.unusedVariables false
theorem isAggI : ∀ w, (isAgg 94).run Tryz.prog w = .ok true w := fun w => by kernel_rfl
theorem sizeOfI : ∀ w, (Go.sizeOf 94).run Tryz.prog w = .ok 4 w := fun w => by kernel_rfl
theorem cmpLaysI (blk off size : Nat) (w : World) : CmpLays Tryz.prog 125 #[] encItem 4 cfI blk off size w := fun _ _ _ _ x y => new1_any x y _
theorem flatI_get (items : List ItemM) (j : Nat) (h : j < items.length * 4) : (encItem items.toArray[j / 4]!)[j % 4]? = (flatG encItem items)[j]? := by
 have hk : j / 4 < items.length := by omega
 have := flatG_get encItem_len items (j / 4) (j % 4) hk (by omega)
 rw [show j / 4 * 4 + j % 4 = j by omega] at this
 rw [this, getElem!_pos _ _ (by simpa using hk)]
 simp
theorem holdsI {w : World} {base g n c : Nat} {items : List ItemM} (h : IsItems w base (.slice (some ⟨g, 0, none⟩) n c) items) : Sort.HoldsK encItem 4 w g 0 items.toArray := by
 intro j hj
 rw [Sort.size_flatK, List.size_toArray] at hj
 rw [Sort.get_flatK _ _ _ _ (by rw [List.size_toArray]; exact hj)]
 have e := flatI_get items j hj
 have hlen : j % 4 < (encItem items.toArray[j / 4]!).length := by rw [encItem_len]; omega
 refine ⟨?_, RowG.free h _⟩
 have hu : (flatG encItem items)[j]? = some ((encItem items.toArray[j / 4]!)[j % 4]!) := by
  rw [← e, List.getElem?_eq_getElem hlen, getElem!_pos (encItem items.toArray[j / 4]!) (j % 4) hlen]
 have := RowG.news h j _ hu
 rwa [show (⟨g, 0, none⟩ : Addr).add j = ⟨g, 0 + j, none⟩ from by simp [Addr.add]; exact fun h => h.symm] at this
theorem block_sort {w : World} {g q : Nat} {cur : Array Value} {T : TypeId} (h : w.heap[g]? = some (.cells cur T (0, 0))) (d : Array ItemM) (os : Array Obj) :
 ∃ cur', (sortWorldK encItem 4 w g 0 q d os).heap[g]? = some (.cells cur' T (0, 0)) ∧ cur'.size = cur.size := by
 have hlt := (Array.getElem?_eq_some_iff.1 h).1
 have h' : w.heap[g] = .cells cur T (0, 0) := (Array.getElem?_eq_some_iff.1 h).2
 refine ⟨Sort.putCells id 0 (Sort.flatK encItem 4 d) cur, ?_, by simp [Sort.putCells]⟩
 show ((w.heap.modify g _) ++ os)[g]? = _
 rw [Array.getElem?_append_left (by simpa using hlt), Array.getElem?_eq_getElem (by simpa using hlt), Array.getElem_modify_self, h']
 rfl
set_option maxHeartbeats 1000000 in
theorem sortI_any (base g cap : Nat) (items : List ItemM) (w : World) (h : IsItems w base (.slice (some ⟨g, 0, none⟩) items.length cap) items) (hn : items.length ≤ 1000000) :
 Calls Tryz.prog 124 #[.slice (some ⟨g, 0, none⟩) items.length cap, .func (.func 125) #[] #[]] w fun e w' =>
  ∃ its, e = .returned (.tuple #[]) ∧ IsItems w' base (.slice (some ⟨g, 0, none⟩) items.length cap) its ∧ its.Perm items ∧ its.Pairwise (fun a b => ¬ itemLt b a) ∧ Only1 g w w' := by
 have eg : ∀ args w, (callFunc 125 args).run Tryz.prog w = .ok (.enter 125 args) w := enters_of Tryz.func125 (by kernel_rfl) rfl
 obtain ⟨hl0, ⟨h1, _⟩ | ⟨g', cap', cur, e, hbase, hblk, hcap, hmax, hsz, htk⟩⟩ := id h
 · cases h1
 cases e
 have hlt := lt_of_block hblk
 have hc := AnyQ.slices_SortFunc Tryz.sortQ 4 isAggI sizeOfI encItem encItem_len (fun x => encItem_one x) cfI swoI 125 #[] g 0 cap items.toArray w eg (cmpLaysI g 0 _ w) (holdsI h) hlt (by rw [List.size_toArray]; omega)
 rw [List.size_toArray] at hc
 refine Calls.mono hc ?_
 rintro e w' ⟨rfl, d', q, os, hp, hs, rfl⟩
 have hd : d'.size = items.length := hp.1.trans List.size_toArray
 have hh := holdsK_sortWorldK encItem 4 w g 0 q items.toArray d' os hlt (holdsI h) (by rw [hd, List.size_toArray])
 have hperm := hp.2.2
 rw [Array.extract_eq_self_of_le (by omega), Array.extract_eq_self_of_le (by rw [List.size_toArray]; omega)] at hperm
 obtain ⟨cur', hb', hs'⟩ := block_sort (q := q) hblk d' os
 refine ⟨d'.toList, rfl, ?_, ?_, ?_, ?_⟩
 ·
  have hlen : d'.toList.length = items.length := by rw [Array.length_toList]; exact hd
  refine ⟨by rw [flatG_len encItem_len], .inr ⟨g, cap, cur', by rw [hlen], hbase, hb', by omega, hmax, by rw [hs']; exact hsz, ?_⟩⟩
  apply List.ext_getElem?
  intro j
  by_cases hj : j < d'.toList.length * 4
  ·
   rw [List.getElem?_take_of_lt hj, Array.getElem?_toList]
   have h3 := (hh j (by rw [Sort.size_flatK, hd]; omega)).1
   rw [Nat.zero_add, cell_of_row _ _ _ _ _ _ hb', Sort.get_flatK _ _ _ _ (by rw [hd]; omega)] at h3
   have e3 := flatI_get d'.toList j hj
   rw [Array.toArray_toList] at e3
   have hl3 : j % 4 < (encItem d'[j / 4]!).length := by rw [encItem_len]; omega
   rw [h3, ← e3, List.getElem?_eq_getElem hl3, getElem!_pos (encItem d'[j / 4]!) (j % 4) hl3]
   rfl
  ·
   have hs4 : cur'.size = cap * 4 := by rw [hs']; exact hsz
   rw [List.getElem?_eq_none (by rw [List.length_take]; omega), List.getElem?_eq_none (by rw [flatG_len encItem_len]; omega)]
 · simpa using hperm
 ·
  rw [List.pairwise_iff_getElem]
  intro i j h1 h2 h3
  have := hs i j (Nat.zero_le _) h3 (by rw [← hd]; simpa using h2)
  rw [ltI_no] at this
  rw [Array.length_toList] at h1 h2
  rw [getElem!_pos d' i h1, getElem!_pos d' j h2] at this
  simpa using this
 ·
  exact ⟨rfl, rfl, rfl, by simp [sortWorldK, Sort.grow, Sort.putRowK, Sort.putRow, Sort.mapBlock, Sort.ahead], fun k hk hne => by
   show ((w.heap.modify g _) ++ os)[k]? = _
   rw [Array.getElem?_append_left (by simpa using hk), Array.getElem?_modify, if_neg (fun e => hne e.symm)]⟩
set_option maxRecDepth 100000 in
set_option maxHeartbeats 4000000 in
theorem sortNilI_any (cf : Value) (w : World) : Calls Tryz.prog 124 #[.slice none 0 0, cf] w fun e w' => e = .returned (.tuple #[]) ∧ w' = w := by
 have hl : ∀ W, Calls Tryz.prog 170 #[.int .u64 0] W fun e w' => e = .returned (.int .i64 (Lib.bitLen 0 : Nat)) ∧ w' = W := fun W => Any.bits_Len Tryz.lays125 0 W (by omega) (by omega)
 have hi : ∀ w : World, Calls Tryz.prog 201 #[.slice none 0 0, .int .i64 0, .int .i64 0, cf] w fun e w' => e = .returned (.tuple #[]) ∧ w' = w := fun w => by
  go_enter Tryz.func201, Tryz.ntmps201
  go_wp2_with fail
  go_loopg [8] 0 (fun gk i wr => i = .int .i64 1 ∧ w = wr)
  case atStart => exact ⟨rfl, rfl⟩
  case round =>
   obtain ⟨rfl, rfl⟩ := hrel
   go_wp2_with fail
   go_end0
   exact ⟨rfl, rfl⟩
 have hp : ∀ (lim : Int) (w : World), Calls Tryz.prog 169 #[.slice none 0 0, .int .i64 0, .int .i64 0, .int .i64 lim, cf] w fun e w' => e = .returned (.tuple #[]) ∧ w' = w := fun lim w => by
  have Hi := Lib.hid hi
  clear hi hl
  go_enter Tryz.func169, Tryz.ntmps169
  go_wp2_with fail
  go_loopg [1, 2, 3] 0 (fun gk a b l wr => a = .int .i64 0 ∧ b = .int .i64 0 ∧ l = .int .i64 lim ∧ w = wr)
  case atStart => exact ⟨rfl, rfl, rfl, rfl⟩
  case round =>
   obtain ⟨rfl, rfl, rfl, rfl⟩ := hrel
   go_wp2_with fail
   refine (Hi.out _).mono ?_
   rintro e w1 ⟨rfl, rfl⟩
   go_wp2_with fail
   refine bodyPost_ret (results_none rfl _ _ _) rfl ⟨rfl, rfl⟩
 have Hl := Lib.hid hl; have Hp := Lib.hid hp
 clear hl hp hi
 go_enter Tryz.func124, Tryz.ntmps124
 go_wp2_with fail
 refine (Hl.out _).mono ?_
 rintro e w1 ⟨rfl, rfl⟩
 go_wp2_with fail
 refine (Hp.out _ _).mono ?_
 rintro e w1 ⟨rfl, rfl⟩
 go_wp2_with fail
 go_end0
 exact ⟨rfl, rfl⟩
theorem sortI_all (base : Nat) (ai : Option Addr) (ci : Nat) (items : List ItemM) (w : World) (h : IsItems w base (.slice ai items.length ci) items) (hn : items.length ≤ 1000000) :
 Calls Tryz.prog 124 #[.slice ai items.length ci, .func (.func 125) #[] #[]] w fun e w' =>
  ∃ its, e = .returned (.tuple #[]) ∧ IsItems w' base (.slice ai items.length ci) its ∧ its.Perm items ∧ its.Pairwise (fun a b => ¬ itemLt b a) ∧ Below base w w' := by
 obtain ⟨hl0, ⟨h1, h2⟩ | ⟨g, cap, cur, e, hbase, hblk, hcap, hmax, hsz, htk⟩⟩ := id h
 ·
  have e0 : items = [] := List.eq_nil_of_length_eq_zero h2
  subst e0
  cases h1
  refine (sortNilI_any (.func (.func 125) #[] #[]) w).mono ?_
  rintro e w' ⟨rfl, rfl⟩
  exact ⟨[], rfl, h, List.Perm.refl _, List.Pairwise.nil, Below.refl _ _⟩
 ·
  cases e
  refine (sortI_any base g ci items w h hn).mono ?_
  rintro e w' ⟨its, rfl, h1, h2, h3, h4⟩
  exact ⟨its, rfl, h1, h2, h3, h4.below hbase (Nat.le_of_lt (Nat.lt_of_le_of_lt hbase (lt_of_block hblk)))⟩
end Go.Proofs.YtmlfelbkgoplhaaGreatDoor
