/- Contract: semver.Parse. -/
import Derived.Test.YtheemhelioendaaGreatDoorPrsA
import Derived.Test.YtheemhelioendaaGreatDoorSame
import Derived.Lib.SplitLaws
import Derived.Lib.AtoiAllCases
namespace Go.Proofs.YtheemhelioendaaGreatDoor
open Go.RowKit
set_option linter.unusedVariables false

theorem splitB_sizes (sep : ByteArray) (save : Nat) : ∀ (k : Nat) (s x : ByteArray), x ∈ Lib.splitB sep save k s → x.size ≤ s.size
  | 0, s, x, h => by
    rw [Lib.splitB_zero, List.mem_singleton] at h; rw [h]; exact Nat.le_refl _
  | k + 1, s, x, h => by
    unfold Lib.splitB at h
    split at h
    · rw [List.mem_singleton] at h; rw [h]; exact Nat.le_refl _
    · rcases List.mem_cons.1 h with rfl | h
      · simp; omega
      · have := splitB_sizes sep save k _ x h
        simp at this; omega
theorem toList_inj' {a b : ByteArray} (h : a.toList = b.toList) : a = b := by
  rw [ByteArray.toList_eq, ByteArray.toList_eq] at h
  exact ByteArray.ext (Array.toList_inj.1 h)
theorem cells3 {w : World} {p : Nat} {a b c : Value} {T : TypeId} (h : w.heap[p]? = some (.cells #[a, b, c] T (0, 0))) :
    w.cell? ⟨p, 0, none⟩ = some a ∧ w.cell? ⟨p, 1, none⟩ = some b ∧ w.cell? ⟨p, 2, none⟩ = some c ∧ w.frozen? ⟨p, 0, none⟩ = false ∧ w.frozen? ⟨p, 1, none⟩ = false ∧ w.frozen? ⟨p, 2, none⟩ = false := by
  refine ⟨?_, ?_, ?_, ?_, ?_, ?_⟩
  · rw [cell_of_row w p _ _ _ _ h]; rfl
  · rw [cell_of_row w p _ _ _ _ h]; rfl
  · rw [cell_of_row w p _ _ _ _ h]; rfl
  all_goals simp [World.frozen?, h]
theorem set3 {w : World} {p : Nat} {a b c : Value} {T : TypeId} (h : w.heap[p]? = some (.cells #[a, b, c] T (0, 0))) (x y z : Value) : (((w.setCell ⟨p, 0, none⟩ x).setCell ⟨p, 1, none⟩ y).setCell ⟨p, 2, none⟩ z).heap[p]? = some (.cells #[x, y, z] T (0, 0)) := by
  have := heap_set (heap_set (heap_set h 0 x) 1 y) 2 z
  simpa using this
def dotB : ByteArray := ⟨#[46]⟩
def partsV (s : ByteArray) : List ByteArray := Lib.splitB dotB 0 (Lib.countB s dotB) s
/-- A part that is a number. -/
def partV (s : ByteArray) (n : Int) : Prop := Lib.atoiAll s.data.toList = .ok n ∧ (⟨(Lib.itoa n).toArray⟩ : ByteArray) = s ∧ 0 ≤ n ∧ n ≤ 999
theorem partV.one {s : ByteArray} {n m : Int} (h : partV s n) (h2 : partV s m) : n = m := by
  have := h.1.symm.trans h2.1
  cases this; rfl
def okVer (s : ByteArray) (a b c : Int) : Prop := ∃ p q r, partsV s = [p, q, r] ∧ partV p a ∧ partV q b ∧ partV r c
def ParseP (s : ByteArray) (w : World) (e : Ending) (w' : World) : Prop :=
  ∃ a b c er, e = .returned (.tuple #[.agg #[.int .i64 a, .int .i64 b, .int .i64 c], er]) ∧ Below w.heap.size w w' ∧ ((er = .nilIface ∧ okVer s a b c) ∨ ((∃ k, er = .iface 43 (.int .i64 k)) ∧ ∀ a b c, ¬ okVer s a b c))
set_option maxRecDepth 100000 in
set_option maxHeartbeats 8000000 in
theorem parse_any (s : ByteArray) (w : World) (hs : s.size ≤ 100000) (h : LaidR w) : Calls Tryz.prog 102 #[.string s] w (ParseP s w) := by
  have hsz := fun x hx => splitB_sizes dotB 0 (Lib.countB s dotB) s x hx
  have hlen : (partsV s).length = Lib.countB s dotB + 1 := Lib.splitB_all dotB (by decide) 0 _ s rfl
  obtain ⟨W, hW⟩ : ∃ W, W = ((w.alloc (.cells #[.int .i64 0, .int .i64 0, .int .i64 0] 46)).alloc (.cells #[.int .i64 0, .int .i64 0, .int .i64 0] 46)) := ⟨_, rfl⟩
  have hbW : Below w.heap.size w W := by rw [hW]; exact ((Below.refl _ _).alloc (Nat.le_refl _) _).alloc (by simp) _
  have hsp := split_any s dotB W (by omega) (by decide) (h.below hbW)
  have hsW : W.heap.size = w.heap.size + 1 + 1 := by rw [hW]; simp
  have hb1 : W.heap[w.heap.size]? = some (.cells #[.int .i64 0, .int .i64 0, .int .i64 0] 46 (0, 0)) := by rw [hW]; exact heap_up (heap_at rfl)
  have hb2 : W.heap[w.heap.size + 1]? = some (.cells #[.int .i64 0, .int .i64 0, .int .i64 0] 46 (0, 0)) := by rw [hW]; exact heap_at (by simp)
  rw [hsW] at hsp
  have hq : Lib.splitB dotB 0 (Lib.countB s dotB) s = partsV s := rfl
  rw [hq] at hsp hsz
  rw [← hlen] at hsp
  unfold ParseP okVer
  generalize partsV s = ws at hsp hsz hlen ⊢
  have Hsp := Lib.hid hsp; have HbW := Lib.hid hbW; have Hb1 := Lib.hid hb1; have Hb2 := Lib.hid hb2; have Hsz := Lib.hid hsz; have HL := Lib.hid (h.below hbW); have HsW := Lib.hid hsW
  clear hsp hbW hb1 hb2 hsz hsW hq hlen
  unfold dotB at Hsp
  go_enter Tryz.func102, Tryz.ntmps102
  go_upto_region 2 with fail
  rw [← hW]
  clear hW
  go_wp2_with fail
  refine Hsp.out.mono ?_
  rintro e w1 ⟨rfl, rfl⟩
  have hal : Below W.heap.size W (W.alloc (.cells (ws.map Value.string).toArray 9)) := (Below.refl _ _).alloc (Nat.le_refl _) _
  have hb1' := heap_up (o := .cells (ws.map Value.string).toArray 9) Hb1.out
  have hbX := HbW.out.trans (hal.mono HbW.out.size)
  have HX := Lib.hid hbX; have Hb1' := Lib.hid hb1'
  obtain ⟨m0, m1, m2, m3, m4, m5⟩ := cells3 hb1'
  have m6 := lt_of_block hb1'
  clear hal hb1' hbX
  by_cases h3 : ws.length = 3
  · obtain ⟨p, q, r, rfl⟩ : ∃ p q r, ws = [p, q, r] := by
      match ws, h3 with
      | [p, q, r], _ => exact ⟨p, q, r, rfl⟩
    have hb2' := heap_up (o := .cells ([p, q, r].map Value.string).toArray 9) Hb2.out
    have hb3' : (W.alloc (.cells ([p, q, r].map Value.string).toArray 9)).heap[w.heap.size + 1 + 1]? = some (.cells #[.string p, .string q, .string r] 9 (0, 0)) := heap_at HsW.out.symm
    have HL0 := Lib.hid (show LaidR w from h)
    have Hb2' := Lib.hid hb2'; have Hb3' := Lib.hid hb3'
    clear hb2' hb3' m0 m1 m2 m3 m4 m5 m6 Hsp h3 h
    go_wp2_with fail
    have ew : W.alloc (.cells ([p, q, r].map Value.string).toArray 9) = W.alloc (.cells #[.string p, .string q, .string r] 9) := rfl
    rw [ew] at HX Hb1' Hb2' Hb3'
    generalize W.alloc (.cells #[.string p, .string q, .string r] 9) = WX at HX Hb1' Hb2' Hb3' ⊢
    go_loopg [19] 3 (fun gk i wr => ∃ (k : Nat) (f0 f1 f2 : Int), k ≤ 3 ∧ gk = 3 - k ∧ i = .int .i64 k ∧ wr.heap[w.heap.size]? = some (.cells #[.int .i64 0, .int .i64 0, .int .i64 0] 46 (0, 0)) ∧ wr.heap[w.heap.size + 1]? = some (.cells #[.int .i64 f0, .int .i64 f1, .int .i64 f2] 46 (0, 0)) ∧ wr.heap[w.heap.size + 1 + 1]? = some (.cells #[.string p, .string q, .string r] 9 (0, 0)) ∧ Below w.heap.size w wr ∧ (0 < k → partV p f0) ∧ (1 < k → partV q f1) ∧ (2 < k → partV r f2))
    case atStart => exact ⟨0, 0, 0, 0, by omega, rfl, rfl, Hb1'.out, Hb2'.out, Hb3'.out, HX.out, fun h => by omega, fun h => by omega, fun h => by omega⟩
    case round =>
     clear Hb1' Hb2' Hb3' HX
     obtain ⟨k, f0, f1, f2, hk, rfl, rfl, s1, s2, s3, hbw, pp, pq, pr⟩ := hrel
     obtain ⟨wo, rfl⟩ : ∃ y, y = wr := ⟨_, rfl⟩
     have S1 := Lib.hid s1; have S2 := Lib.hid s2; have S3 := Lib.hid s3; have Hbw := Lib.hid hbw; have Pp := Lib.hid pp; have Pq := Lib.hid pq; have Pr := Lib.hid pr
     clear s1 s2 s3 hbw pp pq pr
     have hlt3 := lt_of_block S3.out
     obtain rfl | rfl | rfl | rfl : k = 0 ∨ k = 1 ∨ k = 2 ∨ k = 3 := by omega
     · have ca : wo.cell? ⟨w.heap.size + 1 + 1, 0, none⟩ = some (.string p) := by rw [cell_of_row _ _ _ _ _ _ S3.out]; rfl
       have Hat := Lib.hid (atoi_any p wo (by have := Hsz.out p (by simp); omega) (HL0.out.below Hbw.out))
       go_wp2_with fail
       refine Hat.out.mono ?_
       rintro e w9 ⟨n, er, rfl, hcase, hb9⟩
       have T1 := Lib.hid ((hb9.block _ (lt_of_block S1.out)).trans S1.out); have T2 := Lib.hid ((hb9.block _ (lt_of_block S2.out)).trans S2.out); have T3 := Lib.hid ((hb9.block _ (lt_of_block S3.out)).trans S3.out)
       have Hb9 := Lib.hid (Hbw.out.trans (hb9.mono Hbw.out.size))
       clear hb9 Hat S1 S2 S3 Hbw ca hlt3
       rcases hcase with ⟨rfl, hok⟩ | ⟨⟨t, v, rfl⟩, hbad⟩
       · have hbd := Lib.atoiAll_bounds hok
         have Hit := Lib.hid (itoa_any n w9 hbd.1 hbd.2 (HL0.out.below Hb9.out))
         have hone : ∀ m, partV p m → m = n ∧ (⟨(Lib.itoa n).toArray⟩ : ByteArray) = p ∧ 0 ≤ n ∧ n ≤ 999 := fun m hm => by
           have e : n = m := by have := hok.symm.trans hm.1; cases this; rfl
           subst e
           exact ⟨rfl, hm.2⟩
         have hgood : (⟨(Lib.itoa n).toArray⟩ : ByteArray) = p → 0 ≤ n → n ≤ 999 → partV p n := fun h1 h2 h3 => ⟨hok, h1, h2, h3⟩
         generalize (⟨(Lib.itoa n).toArray⟩ : ByteArray) = y at Hit hone hgood
         have Hone := Lib.hid hone; have Hgood := Lib.hid hgood
         clear hok hone hgood hbd
         go_wp2_with fail
         refine Hit.out.mono ?_
         rintro e w10 ⟨rfl, hb10⟩
         have Z := Lib.hid ((hb10.block _ (lt_of_block T1.out)).trans T1.out)
         have Z2 := Lib.hid ((hb10.block _ (lt_of_block T2.out)).trans T2.out)
         have Z3 := Lib.hid ((hb10.block _ (lt_of_block T3.out)).trans T3.out)
         have Hb10 := Lib.hid (Hb9.out.trans (hb10.mono Hb9.out.size))
         clear T1 T2 T3 Hb9 hb10 Hit
         obtain ⟨m0, m1, m2, m3, m4, m5⟩ := cells3 Z.out
         have m6 := lt_of_block Z.out
         by_cases hyp : y = p
         · subst hyp
           by_cases hn1 : n < 0
           · have d1 : decide (n < 0) = true := by simpa using hn1
             have Nb := Lib.hid (fun m hm => (show False from by have := (Hone.out m hm).2.2.1; omega))
             obtain ⟨k0, k1, k2, _⟩ := cells3 (set3 Z.out (.int .i64 0) (.int .i64 0) (.int .i64 0))
             go_wp2_with fail
             refine bodyPost_ret (v := .tuple #[.agg #[.int .i64 0, .int .i64 0, .int .i64 0], .iface 43 (.int .i64 3)]) (by simp [results, Tryz.results102, go_sem, k0, k1, k2]) rfl ⟨0, 0, 0, _, rfl, ((Hb10.out.setCell (Nat.le_refl _) _).setCell (Nat.le_refl _) _).setCell (Nat.le_refl _) _, .inr ⟨⟨_, rfl⟩, fun a b c h => ?_⟩⟩
             obtain ⟨p', q', r', e, ea, eb, ec⟩ := h
             cases e
             exact Nb.out _ ea
           · by_cases hn2 : 999 < n
             · have d1 : decide (n < 0) = false := by simpa using hn1
               have d2 : decide (999 < n) = true := by simpa using hn2
               have Nb := Lib.hid (fun m hm => (show False from by have := (Hone.out m hm).2.2.2; omega))
               obtain ⟨k0, k1, k2, _⟩ := cells3 (set3 Z.out (.int .i64 0) (.int .i64 0) (.int .i64 0))
               go_wp2_with fail
               refine bodyPost_ret (v := .tuple #[.agg #[.int .i64 0, .int .i64 0, .int .i64 0], .iface 43 (.int .i64 2)]) (by simp [results, Tryz.results102, go_sem, k0, k1, k2]) rfl ⟨0, 0, 0, _, rfl, ((Hb10.out.setCell (Nat.le_refl _) _).setCell (Nat.le_refl _) _).setCell (Nat.le_refl _) _, .inr ⟨⟨_, rfl⟩, fun a b c h => ?_⟩⟩
               obtain ⟨p', q', r', e, ea, eb, ec⟩ := h
               cases e
               exact Nb.out _ ea
             · have d1 : decide (n < 0) = false := by simpa using hn1
               have d2 : decide (999 < n) = false := by simpa using hn2
               have Hg := Lib.hid (Hgood.out rfl (by omega) (by omega))
               obtain ⟨u0, u1, u2, u3, u4, u5⟩ := cells3 Z2.out
               have u6 := lt_of_block Z2.out
               have hset : (w10.setCell ⟨w.heap.size + 1, 0, none⟩ (.int .i64 n)).heap[w.heap.size + 1]? = some (.cells #[.int .i64 n, .int .i64 f1, .int .i64 f2] 46 (0, 0)) := heap_set Z2.out _ _
               have hz1 := (Below.heap_setCell w10 ⟨w.heap.size + 1, 0, none⟩ (.int .i64 n) w.heap.size (by show w.heap.size ≠ w.heap.size + 1; omega)).trans Z.out
               have hz3 := (Below.heap_setCell w10 ⟨w.heap.size + 1, 0, none⟩ (.int .i64 n) (w.heap.size + 1 + 1) (by show w.heap.size + 1 + 1 ≠ w.heap.size + 1; omega)).trans Z3.out
               have Hset := Lib.hid hset; have Hz1 := Lib.hid hz1; have Hz3 := Lib.hid hz3
               clear hset hz1 hz3 hn1 hn2
               go_wp2_with fail
               go_roundg 2
               case measure => omega
               case rel => exact ⟨1, n, f1, f2, by omega, rfl, by go_num, Hz1.out, Hset.out, Hz3.out, Hb10.out.setCell (by show w.heap.size ≤ w.heap.size + 1; omega) _, fun _ => Hg.out, fun h => by omega, fun h => by omega⟩
         · have hyl : ¬ y.toList = p.toList := fun h => hyp (toList_inj' h)
           have Nb := Lib.hid (fun m hm => (show False from hyp (Hone.out m hm).2.1))
           obtain ⟨k0, k1, k2, _⟩ := cells3 (set3 Z.out (.int .i64 0) (.int .i64 0) (.int .i64 0))
           go_wp2_with fail
           refine bodyPost_ret (v := .tuple #[.agg #[.int .i64 0, .int .i64 0, .int .i64 0], .iface 43 (.int .i64 3)]) (by simp [results, Tryz.results102, go_sem, k0, k1, k2]) rfl ⟨0, 0, 0, _, rfl, ((Hb10.out.setCell (Nat.le_refl _) _).setCell (Nat.le_refl _) _).setCell (Nat.le_refl _) _, .inr ⟨⟨_, rfl⟩, fun a b c h => ?_⟩⟩
           obtain ⟨p', q', r', e, ea, eb, ec⟩ := h
           cases e
           exact Nb.out _ ea
       · have Z := T1
         obtain ⟨m0, m1, m2, m3, m4, m5⟩ := cells3 Z.out
         have m6 := lt_of_block Z.out
         have Nb := Lib.hid (fun m (hm : partV p m) => hbad m hm.1)
         clear hbad
         obtain ⟨k0, k1, k2, _⟩ := cells3 (set3 Z.out (.int .i64 0) (.int .i64 0) (.int .i64 0))
         go_wp2_with fail
         refine bodyPost_ret (v := .tuple #[.agg #[.int .i64 0, .int .i64 0, .int .i64 0], .iface 43 (.int .i64 3)]) (by simp [results, Tryz.results102, go_sem, k0, k1, k2]) rfl ⟨0, 0, 0, _, rfl, ((Hb9.out.setCell (Nat.le_refl _) _).setCell (Nat.le_refl _) _).setCell (Nat.le_refl _) _, .inr ⟨⟨_, rfl⟩, fun a b c h => ?_⟩⟩
         obtain ⟨p', q', r', e, ea, eb, ec⟩ := h
         cases e
         exact Nb.out _ ea
     · have ca : wo.cell? ⟨w.heap.size + 1 + 1, 1, none⟩ = some (.string q) := by rw [cell_of_row _ _ _ _ _ _ S3.out]; rfl
       have Hat := Lib.hid (atoi_any q wo (by have := Hsz.out q (by simp); omega) (HL0.out.below Hbw.out))
       go_wp2_with fail
       refine Hat.out.mono ?_
       rintro e w9 ⟨n, er, rfl, hcase, hb9⟩
       have T1 := Lib.hid ((hb9.block _ (lt_of_block S1.out)).trans S1.out); have T2 := Lib.hid ((hb9.block _ (lt_of_block S2.out)).trans S2.out); have T3 := Lib.hid ((hb9.block _ (lt_of_block S3.out)).trans S3.out)
       have Hb9 := Lib.hid (Hbw.out.trans (hb9.mono Hbw.out.size))
       clear hb9 Hat S1 S2 S3 Hbw ca hlt3
       rcases hcase with ⟨rfl, hok⟩ | ⟨⟨t, v, rfl⟩, hbad⟩
       · have hbd := Lib.atoiAll_bounds hok
         have Hit := Lib.hid (itoa_any n w9 hbd.1 hbd.2 (HL0.out.below Hb9.out))
         have hone : ∀ m, partV q m → m = n ∧ (⟨(Lib.itoa n).toArray⟩ : ByteArray) = q ∧ 0 ≤ n ∧ n ≤ 999 := fun m hm => by
           have e : n = m := by have := hok.symm.trans hm.1; cases this; rfl
           subst e
           exact ⟨rfl, hm.2⟩
         have hgood : (⟨(Lib.itoa n).toArray⟩ : ByteArray) = q → 0 ≤ n → n ≤ 999 → partV q n := fun h1 h2 h3 => ⟨hok, h1, h2, h3⟩
         generalize (⟨(Lib.itoa n).toArray⟩ : ByteArray) = y at Hit hone hgood
         have Hone := Lib.hid hone; have Hgood := Lib.hid hgood
         clear hok hone hgood hbd
         go_wp2_with fail
         refine Hit.out.mono ?_
         rintro e w10 ⟨rfl, hb10⟩
         have Z := Lib.hid ((hb10.block _ (lt_of_block T1.out)).trans T1.out)
         have Z2 := Lib.hid ((hb10.block _ (lt_of_block T2.out)).trans T2.out)
         have Z3 := Lib.hid ((hb10.block _ (lt_of_block T3.out)).trans T3.out)
         have Hb10 := Lib.hid (Hb9.out.trans (hb10.mono Hb9.out.size))
         clear T1 T2 T3 Hb9 hb10 Hit
         obtain ⟨m0, m1, m2, m3, m4, m5⟩ := cells3 Z.out
         have m6 := lt_of_block Z.out
         by_cases hyp : y = q
         · subst hyp
           by_cases hn1 : n < 0
           · have d1 : decide (n < 0) = true := by simpa using hn1
             have Nb := Lib.hid (fun m hm => (show False from by have := (Hone.out m hm).2.2.1; omega))
             obtain ⟨k0, k1, k2, _⟩ := cells3 (set3 Z.out (.int .i64 0) (.int .i64 0) (.int .i64 0))
             go_wp2_with fail
             refine bodyPost_ret (v := .tuple #[.agg #[.int .i64 0, .int .i64 0, .int .i64 0], .iface 43 (.int .i64 3)]) (by simp [results, Tryz.results102, go_sem, k0, k1, k2]) rfl ⟨0, 0, 0, _, rfl, ((Hb10.out.setCell (Nat.le_refl _) _).setCell (Nat.le_refl _) _).setCell (Nat.le_refl _) _, .inr ⟨⟨_, rfl⟩, fun a b c h => ?_⟩⟩
             obtain ⟨p', q', r', e, ea, eb, ec⟩ := h
             cases e
             exact Nb.out _ eb
           · by_cases hn2 : 999 < n
             · have d1 : decide (n < 0) = false := by simpa using hn1
               have d2 : decide (999 < n) = true := by simpa using hn2
               have Nb := Lib.hid (fun m hm => (show False from by have := (Hone.out m hm).2.2.2; omega))
               obtain ⟨k0, k1, k2, _⟩ := cells3 (set3 Z.out (.int .i64 0) (.int .i64 0) (.int .i64 0))
               go_wp2_with fail
               refine bodyPost_ret (v := .tuple #[.agg #[.int .i64 0, .int .i64 0, .int .i64 0], .iface 43 (.int .i64 2)]) (by simp [results, Tryz.results102, go_sem, k0, k1, k2]) rfl ⟨0, 0, 0, _, rfl, ((Hb10.out.setCell (Nat.le_refl _) _).setCell (Nat.le_refl _) _).setCell (Nat.le_refl _) _, .inr ⟨⟨_, rfl⟩, fun a b c h => ?_⟩⟩
               obtain ⟨p', q', r', e, ea, eb, ec⟩ := h
               cases e
               exact Nb.out _ eb
             · have d1 : decide (n < 0) = false := by simpa using hn1
               have d2 : decide (999 < n) = false := by simpa using hn2
               have Hg := Lib.hid (Hgood.out rfl (by omega) (by omega))
               obtain ⟨u0, u1, u2, u3, u4, u5⟩ := cells3 Z2.out
               have u6 := lt_of_block Z2.out
               have hset : (w10.setCell ⟨w.heap.size + 1, 1, none⟩ (.int .i64 n)).heap[w.heap.size + 1]? = some (.cells #[.int .i64 f0, .int .i64 n, .int .i64 f2] 46 (0, 0)) := heap_set Z2.out _ _
               have hz1 := (Below.heap_setCell w10 ⟨w.heap.size + 1, 1, none⟩ (.int .i64 n) w.heap.size (by show w.heap.size ≠ w.heap.size + 1; omega)).trans Z.out
               have hz3 := (Below.heap_setCell w10 ⟨w.heap.size + 1, 1, none⟩ (.int .i64 n) (w.heap.size + 1 + 1) (by show w.heap.size + 1 + 1 ≠ w.heap.size + 1; omega)).trans Z3.out
               have Hset := Lib.hid hset; have Hz1 := Lib.hid hz1; have Hz3 := Lib.hid hz3
               clear hset hz1 hz3 hn1 hn2
               go_wp2_with fail
               go_roundg 1
               case measure => omega
               case rel => exact ⟨2, f0, n, f2, by omega, rfl, by go_num, Hz1.out, Hset.out, Hz3.out, Hb10.out.setCell (by show w.heap.size ≤ w.heap.size + 1; omega) _, fun _ => Pp.out (by omega), fun _ => Hg.out, fun h => by omega⟩
         · have hyl : ¬ y.toList = q.toList := fun h => hyp (toList_inj' h)
           have Nb := Lib.hid (fun m hm => (show False from hyp (Hone.out m hm).2.1))
           obtain ⟨k0, k1, k2, _⟩ := cells3 (set3 Z.out (.int .i64 0) (.int .i64 0) (.int .i64 0))
           go_wp2_with fail
           refine bodyPost_ret (v := .tuple #[.agg #[.int .i64 0, .int .i64 0, .int .i64 0], .iface 43 (.int .i64 3)]) (by simp [results, Tryz.results102, go_sem, k0, k1, k2]) rfl ⟨0, 0, 0, _, rfl, ((Hb10.out.setCell (Nat.le_refl _) _).setCell (Nat.le_refl _) _).setCell (Nat.le_refl _) _, .inr ⟨⟨_, rfl⟩, fun a b c h => ?_⟩⟩
           obtain ⟨p', q', r', e, ea, eb, ec⟩ := h
           cases e
           exact Nb.out _ eb
       · have Z := T1
         obtain ⟨m0, m1, m2, m3, m4, m5⟩ := cells3 Z.out
         have m6 := lt_of_block Z.out
         have Nb := Lib.hid (fun m (hm : partV q m) => hbad m hm.1)
         clear hbad
         obtain ⟨k0, k1, k2, _⟩ := cells3 (set3 Z.out (.int .i64 0) (.int .i64 0) (.int .i64 0))
         go_wp2_with fail
         refine bodyPost_ret (v := .tuple #[.agg #[.int .i64 0, .int .i64 0, .int .i64 0], .iface 43 (.int .i64 3)]) (by simp [results, Tryz.results102, go_sem, k0, k1, k2]) rfl ⟨0, 0, 0, _, rfl, ((Hb9.out.setCell (Nat.le_refl _) _).setCell (Nat.le_refl _) _).setCell (Nat.le_refl _) _, .inr ⟨⟨_, rfl⟩, fun a b c h => ?_⟩⟩
         obtain ⟨p', q', r', e, ea, eb, ec⟩ := h
         cases e
         exact Nb.out _ eb
     · have ca : wo.cell? ⟨w.heap.size + 1 + 1, 2, none⟩ = some (.string r) := by rw [cell_of_row _ _ _ _ _ _ S3.out]; rfl
       have Hat := Lib.hid (atoi_any r wo (by have := Hsz.out r (by simp); omega) (HL0.out.below Hbw.out))
       go_wp2_with fail
       refine Hat.out.mono ?_
       rintro e w9 ⟨n, er, rfl, hcase, hb9⟩
       have T1 := Lib.hid ((hb9.block _ (lt_of_block S1.out)).trans S1.out); have T2 := Lib.hid ((hb9.block _ (lt_of_block S2.out)).trans S2.out); have T3 := Lib.hid ((hb9.block _ (lt_of_block S3.out)).trans S3.out)
       have Hb9 := Lib.hid (Hbw.out.trans (hb9.mono Hbw.out.size))
       clear hb9 Hat S1 S2 S3 Hbw ca hlt3
       rcases hcase with ⟨rfl, hok⟩ | ⟨⟨t, v, rfl⟩, hbad⟩
       · have hbd := Lib.atoiAll_bounds hok
         have Hit := Lib.hid (itoa_any n w9 hbd.1 hbd.2 (HL0.out.below Hb9.out))
         have hone : ∀ m, partV r m → m = n ∧ (⟨(Lib.itoa n).toArray⟩ : ByteArray) = r ∧ 0 ≤ n ∧ n ≤ 999 := fun m hm => by
           have e : n = m := by have := hok.symm.trans hm.1; cases this; rfl
           subst e
           exact ⟨rfl, hm.2⟩
         have hgood : (⟨(Lib.itoa n).toArray⟩ : ByteArray) = r → 0 ≤ n → n ≤ 999 → partV r n := fun h1 h2 h3 => ⟨hok, h1, h2, h3⟩
         generalize (⟨(Lib.itoa n).toArray⟩ : ByteArray) = y at Hit hone hgood
         have Hone := Lib.hid hone; have Hgood := Lib.hid hgood
         clear hok hone hgood hbd
         go_wp2_with fail
         refine Hit.out.mono ?_
         rintro e w10 ⟨rfl, hb10⟩
         have Z := Lib.hid ((hb10.block _ (lt_of_block T1.out)).trans T1.out)
         have Z2 := Lib.hid ((hb10.block _ (lt_of_block T2.out)).trans T2.out)
         have Z3 := Lib.hid ((hb10.block _ (lt_of_block T3.out)).trans T3.out)
         have Hb10 := Lib.hid (Hb9.out.trans (hb10.mono Hb9.out.size))
         clear T1 T2 T3 Hb9 hb10 Hit
         obtain ⟨m0, m1, m2, m3, m4, m5⟩ := cells3 Z.out
         have m6 := lt_of_block Z.out
         by_cases hyp : y = r
         · subst hyp
           by_cases hn1 : n < 0
           · have d1 : decide (n < 0) = true := by simpa using hn1
             have Nb := Lib.hid (fun m hm => (show False from by have := (Hone.out m hm).2.2.1; omega))
             obtain ⟨k0, k1, k2, _⟩ := cells3 (set3 Z.out (.int .i64 0) (.int .i64 0) (.int .i64 0))
             go_wp2_with fail
             refine bodyPost_ret (v := .tuple #[.agg #[.int .i64 0, .int .i64 0, .int .i64 0], .iface 43 (.int .i64 3)]) (by simp [results, Tryz.results102, go_sem, k0, k1, k2]) rfl ⟨0, 0, 0, _, rfl, ((Hb10.out.setCell (Nat.le_refl _) _).setCell (Nat.le_refl _) _).setCell (Nat.le_refl _) _, .inr ⟨⟨_, rfl⟩, fun a b c h => ?_⟩⟩
             obtain ⟨p', q', r', e, ea, eb, ec⟩ := h
             cases e
             exact Nb.out _ ec
           · by_cases hn2 : 999 < n
             · have d1 : decide (n < 0) = false := by simpa using hn1
               have d2 : decide (999 < n) = true := by simpa using hn2
               have Nb := Lib.hid (fun m hm => (show False from by have := (Hone.out m hm).2.2.2; omega))
               obtain ⟨k0, k1, k2, _⟩ := cells3 (set3 Z.out (.int .i64 0) (.int .i64 0) (.int .i64 0))
               go_wp2_with fail
               refine bodyPost_ret (v := .tuple #[.agg #[.int .i64 0, .int .i64 0, .int .i64 0], .iface 43 (.int .i64 2)]) (by simp [results, Tryz.results102, go_sem, k0, k1, k2]) rfl ⟨0, 0, 0, _, rfl, ((Hb10.out.setCell (Nat.le_refl _) _).setCell (Nat.le_refl _) _).setCell (Nat.le_refl _) _, .inr ⟨⟨_, rfl⟩, fun a b c h => ?_⟩⟩
               obtain ⟨p', q', r', e, ea, eb, ec⟩ := h
               cases e
               exact Nb.out _ ec
             · have d1 : decide (n < 0) = false := by simpa using hn1
               have d2 : decide (999 < n) = false := by simpa using hn2
               have Hg := Lib.hid (Hgood.out rfl (by omega) (by omega))
               obtain ⟨u0, u1, u2, u3, u4, u5⟩ := cells3 Z2.out
               have u6 := lt_of_block Z2.out
               have hset : (w10.setCell ⟨w.heap.size + 1, 2, none⟩ (.int .i64 n)).heap[w.heap.size + 1]? = some (.cells #[.int .i64 f0, .int .i64 f1, .int .i64 n] 46 (0, 0)) := heap_set Z2.out _ _
               have hz1 := (Below.heap_setCell w10 ⟨w.heap.size + 1, 2, none⟩ (.int .i64 n) w.heap.size (by show w.heap.size ≠ w.heap.size + 1; omega)).trans Z.out
               have hz3 := (Below.heap_setCell w10 ⟨w.heap.size + 1, 2, none⟩ (.int .i64 n) (w.heap.size + 1 + 1) (by show w.heap.size + 1 + 1 ≠ w.heap.size + 1; omega)).trans Z3.out
               have Hset := Lib.hid hset; have Hz1 := Lib.hid hz1; have Hz3 := Lib.hid hz3
               clear hset hz1 hz3 hn1 hn2
               go_wp2_with fail
               go_roundg 0
               case measure => omega
               case rel => exact ⟨3, f0, f1, n, by omega, rfl, by go_num, Hz1.out, Hset.out, Hz3.out, Hb10.out.setCell (by show w.heap.size ≤ w.heap.size + 1; omega) _, fun _ => Pp.out (by omega), fun _ => Pq.out (by omega), fun _ => Hg.out⟩
         · have hyl : ¬ y.toList = r.toList := fun h => hyp (toList_inj' h)
           have Nb := Lib.hid (fun m hm => (show False from hyp (Hone.out m hm).2.1))
           obtain ⟨k0, k1, k2, _⟩ := cells3 (set3 Z.out (.int .i64 0) (.int .i64 0) (.int .i64 0))
           go_wp2_with fail
           refine bodyPost_ret (v := .tuple #[.agg #[.int .i64 0, .int .i64 0, .int .i64 0], .iface 43 (.int .i64 3)]) (by simp [results, Tryz.results102, go_sem, k0, k1, k2]) rfl ⟨0, 0, 0, _, rfl, ((Hb10.out.setCell (Nat.le_refl _) _).setCell (Nat.le_refl _) _).setCell (Nat.le_refl _) _, .inr ⟨⟨_, rfl⟩, fun a b c h => ?_⟩⟩
           obtain ⟨p', q', r', e, ea, eb, ec⟩ := h
           cases e
           exact Nb.out _ ec
       · have Z := T1
         obtain ⟨m0, m1, m2, m3, m4, m5⟩ := cells3 Z.out
         have m6 := lt_of_block Z.out
         have Nb := Lib.hid (fun m (hm : partV r m) => hbad m hm.1)
         clear hbad
         obtain ⟨k0, k1, k2, _⟩ := cells3 (set3 Z.out (.int .i64 0) (.int .i64 0) (.int .i64 0))
         go_wp2_with fail
         refine bodyPost_ret (v := .tuple #[.agg #[.int .i64 0, .int .i64 0, .int .i64 0], .iface 43 (.int .i64 3)]) (by simp [results, Tryz.results102, go_sem, k0, k1, k2]) rfl ⟨0, 0, 0, _, rfl, ((Hb9.out.setCell (Nat.le_refl _) _).setCell (Nat.le_refl _) _).setCell (Nat.le_refl _) _, .inr ⟨⟨_, rfl⟩, fun a b c h => ?_⟩⟩
         obtain ⟨p', q', r', e, ea, eb, ec⟩ := h
         cases e
         exact Nb.out _ ec
     · obtain ⟨m0, m1, m2, m3, m4, m5⟩ := cells3 S1.out
       have m6 := lt_of_block S1.out
       obtain ⟨u0, u1, u2, u3, u4, u5⟩ := cells3 S2.out
       have u6 := lt_of_block S2.out
       obtain ⟨k0, k1, k2, _⟩ := cells3 (set3 S1.out (.int .i64 f0) (.int .i64 f1) (.int .i64 f2))
       go_wp2_with fail
       exact bodyPost_ret (v := .tuple #[.agg #[.int .i64 f0, .int .i64 f1, .int .i64 f2], .nilIface]) (by simp [results, Tryz.results102, go_sem, k0, k1, k2]) rfl ⟨f0, f1, f2, _, rfl, ((Hbw.out.setCell (Nat.le_refl _) _).setCell (Nat.le_refl _) _).setCell (Nat.le_refl _) _, .inl ⟨rfl, p, q, r, rfl, Pp.out (by omega), Pq.out (by omega), Pr.out (by omega)⟩⟩
  · have d1 : ((ws.length : Int) != 3) = true := by simp; omega
    obtain ⟨k0, k1, k2, _⟩ := cells3 (set3 Hb1'.out (.int .i64 0) (.int .i64 0) (.int .i64 0))
    go_wp2_with fail
    refine bodyPost_ret (v := .tuple #[.agg #[.int .i64 0, .int .i64 0, .int .i64 0], .iface 43 (.int .i64 3)]) (by simp [results, Tryz.results102, go_sem, k0, k1, k2]) rfl ⟨0, 0, 0, _, rfl, ((HX.out.setCell (Nat.le_refl _) _).setCell (Nat.le_refl _) _).setCell (Nat.le_refl _) _, .inr ⟨⟨_, rfl⟩, fun a b c h => ?_⟩⟩
    obtain ⟨p, q, r, e, _⟩ := h
    exact h3 (by rw [e]; rfl)
end Go.Proofs.YtheemhelioendaaGreatDoor
