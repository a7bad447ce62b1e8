/- The closures of BddBoole: what they capture, and their contracts. -/
import Derived.Test.YtmlnfbageoabnaaBooleM
import Derived.Test.YtmlnfbageoabnaaSpaceF
import Derived.OneCell
namespace Go.Proofs.Ytmlnfbageoabnaa
open Go.RowKit
set_option linter.unusedVariables false

theorem setCell_self {w : World} {b : Nat} {v : Value} {t : TypeId} (h : w.heap[b]? = some (.cells #[v] t (0, 0))) : w.setCell ⟨b, 0, none⟩ v = w := by
  have hlt := lt_of_block h
  have hh : w.heap[b] = .cells #[v] t (0, 0) := by simpa [Array.getElem?_eq_getElem hlt] using h
  have e : (w.setCell ⟨b, 0, none⟩ v).heap = w.heap := by
    apply Array.ext_getElem?
    intro i
    by_cases e : i = b
    · subst e; exact (one_setCell h).trans h.symm
    · exact Below.heap_setCell _ _ _ _ e
  calc w.setCell ⟨b, 0, none⟩ v = { w with heap := (w.setCell ⟨b, 0, none⟩ v).heap } := rfl
    _ = { w with heap := w.heap } := by rw [e]
    _ = w := rfl

/-- The closures' variables: the space, the handles that are kept, what went wrong, the function that looks. -/
structure Cap (w : World) (s : Sb) (bs bh bb bd : Nat) (vh : Value) : Prop where
  cs : w.heap[bs]? = some (.cells #[.pointer (some ⟨s.ps, 0, none⟩)] 46 (0, 0))
  ch : w.heap[bh]? = some (.cells #[vh] 22 (0, 0))
  cb : w.heap[bb]? = some (.cells #[.bool false] 4 (0, 0))
  cd : w.heap[bd]? = some (.cells #[.func (.func 34) #[] #[.pointer (some ⟨bb, 0, none⟩)]] 63 (0, 0))
  off : ¬ s.mem bs ∧ ¬ s.mem bh ∧ ¬ s.mem bb ∧ ¬ s.mem bd
theorem Cap.only {w w' : World} {s : Sb} {bs bh bb bd : Nat} {vh : Value} (h : Cap w s bs bh bb bd vh) (ho : Only s.mem w w') : Cap w' s bs bh bb bd vh :=
  ⟨(ho.block _ (lt_of_block h.cs) h.off.1).trans h.cs, (ho.block _ (lt_of_block h.ch) h.off.2.1).trans h.ch, (ho.block _ (lt_of_block h.cb) h.off.2.2.1).trans h.cb, (ho.block _ (lt_of_block h.cd) h.off.2.2.2).trans h.cd, h.off⟩
theorem Cap.below {w w' : World} {s : Sb} {bs bh bb bd : Nat} {vh : Value} (h : Cap w s bs bh bb bd vh) (ho : Below w.heap.size w w') : Cap w' s bs bh bb bd vh :=
  ⟨(ho.block _ (lt_of_block h.cs)).trans h.cs, (ho.block _ (lt_of_block h.ch)).trans h.ch, (ho.block _ (lt_of_block h.cb)).trans h.cb, (ho.block _ (lt_of_block h.cd)).trans h.cd, h.off⟩

/-- do: no error: nothing turns. -/
theorem do_any (x : Int) (bb : Nat) (w : World) (h : w.heap[bb]? = some (.cells #[.bool false] 4 (0, 0))) :
    Calls Try.prog 34 #[.int .i64 x, .nilIface, .pointer (some ⟨bb, 0, none⟩)] w fun e w' => e = .returned (.int .i64 x) ∧ w = w' := by
  have c := cell_of_one h
  have f := free_of_one h
  have lt := lt_of_block h
  have hs := setCell_self h
  have Hs := Lib.hid hs; clear hs h
  go_enter Try.func34, Try.ntmps34
  go_wp2_with fail
  go_ret
  exact ⟨rfl, Hs.out.symm⟩

/-- What a closure that makes hands back. -/
def MadeX (w : World) (s : Sb) (V : Int) (r : Sp × Int × Nat) (e : Ending) (w' : World) : Prop := e = .returned (.int .i64 r.2.1) ∧ IsSpace w' s V r.1 ∧ Only s.mem w w'

section
variable (V : Int) (hV : V ≤ 24) (a b : Int) (w : World) (s : Sb) (st : Sp) {bs bh bb bd : Nat} {vh : Value} (hs : IsSpace w s V st) (so : SOk V st) (hc : Cap w s bs bh bb bd vh) (ha : hasM st.c a = true) (hb : hasM st.c b = true) (hr : cnt st.c + 2 ^ V.toNat ≤ st.c.length + 1)
include hV hs so hc ha hr
set_option maxHeartbeats 1000000 in
theorem cNot_any : Calls Try.prog 37 #[.int .i64 a, .pointer (some ⟨bd, 0, none⟩), .pointer (some ⟨bs, 0, none⟩)] w (MadeX w s V (iteX st a 0 1)) := by
  have hq := Not_any V hV a w.drew s st (hs.below (Below.refl _ _).drew) so ha hr
  have ok := iteX_ok hV so ha (hasM_zero _) (hasM_one _) hr
  generalize iteX st a 0 1 = R at hq ok ⊢
  have c1 := cell_of_one hc.cs
  have c2 := cell_of_one hc.cd
  have Hq := Lib.hid hq; have Ok := Lib.hid ok; have Hc := Lib.hid hc; clear hq ok hc hs so ha hr
  go_enter Try.func37, Try.ntmps37
  go_wp2_with fail
  go_region_held3 (fun w' => w'.cell? ⟨bs, 0, none⟩ = some (.pointer (some ⟨s.ps, 0, none⟩)) ∧ w'.cell? ⟨bd, 0, none⟩ = some (.func (.func 34) #[] #[.pointer (some ⟨bb, 0, none⟩)]))
    (first | exact ⟨c1, c2⟩ | exact ⟨h91, h92⟩ | go_keep)
    (first | (go_at_call 38; refine (Hq.out).mono ?_; rintro e w9 ⟨rfl, hs9, ho9⟩; have h91 := cell_of_one (Hc.out.only (Only.drew0 ho9)).cs; have h92 := cell_of_one (Hc.out.only (Only.drew0 ho9)).cd; rw [Ok.out.err]; simp only [errV, if_true]) | (go_at_call 34; refine (do_any _ _ _ (Hc.out.only (Only.drew0 ho9)).cb).mono ?_; rintro e w10 ⟨rfl, rfl⟩))
  all_goals (go_wp2_with fail; go_ret)
  all_goals exact ⟨rfl, by assumption, Only.drew0 (by assumption)⟩
include hb
set_option maxHeartbeats 1000000 in
theorem cAnd_any : Calls Try.prog 35 #[.int .i64 a, .int .i64 b, .pointer (some ⟨bd, 0, none⟩), .pointer (some ⟨bs, 0, none⟩)] w (MadeX w s V (iteX st a b 0)) := by
  have hq := And_any V hV a b w.drew s st (hs.below (Below.refl _ _).drew) so ha hb hr
  have ok := iteX_ok hV so ha hb (hasM_zero _) hr
  generalize iteX st a b 0 = R at hq ok ⊢
  have c1 := cell_of_one hc.cs
  have c2 := cell_of_one hc.cd
  have Hq := Lib.hid hq; have Ok := Lib.hid ok; have Hc := Lib.hid hc; clear hq ok hc hs so ha hb hr
  go_enter Try.func35, Try.ntmps35
  go_wp2_with fail
  go_region_held3 (fun w' => w'.cell? ⟨bs, 0, none⟩ = some (.pointer (some ⟨s.ps, 0, none⟩)) ∧ w'.cell? ⟨bd, 0, none⟩ = some (.func (.func 34) #[] #[.pointer (some ⟨bb, 0, none⟩)]))
    (first | exact ⟨c1, c2⟩ | exact ⟨h91, h92⟩ | go_keep)
    (first | (go_at_call 29; refine (Hq.out).mono ?_; rintro e w9 ⟨rfl, hs9, ho9⟩; have h91 := cell_of_one (Hc.out.only (Only.drew0 ho9)).cs; have h92 := cell_of_one (Hc.out.only (Only.drew0 ho9)).cd; rw [Ok.out.err]; simp only [errV, if_true]) | (go_at_call 34; refine (do_any _ _ _ (Hc.out.only (Only.drew0 ho9)).cb).mono ?_; rintro e w10 ⟨rfl, rfl⟩))
  all_goals (go_wp2_with fail; go_ret)
  all_goals exact ⟨rfl, by assumption, Only.drew0 (by assumption)⟩
set_option maxHeartbeats 1000000 in
theorem cOr_any : Calls Try.prog 36 #[.int .i64 a, .int .i64 b, .pointer (some ⟨bd, 0, none⟩), .pointer (some ⟨bs, 0, none⟩)] w (MadeX w s V (iteX st a 1 b)) := by
  have hq := Or_any V hV a b w.drew s st (hs.below (Below.refl _ _).drew) so ha hb hr
  have ok := iteX_ok hV so ha (hasM_one _) hb hr
  generalize iteX st a 1 b = R at hq ok ⊢
  have c1 := cell_of_one hc.cs
  have c2 := cell_of_one hc.cd
  have Hq := Lib.hid hq; have Ok := Lib.hid ok; have Hc := Lib.hid hc; clear hq ok hc hs so ha hb hr
  go_enter Try.func36, Try.ntmps36
  go_wp2_with fail
  go_region_held3 (fun w' => w'.cell? ⟨bs, 0, none⟩ = some (.pointer (some ⟨s.ps, 0, none⟩)) ∧ w'.cell? ⟨bd, 0, none⟩ = some (.func (.func 34) #[] #[.pointer (some ⟨bb, 0, none⟩)]))
    (first | exact ⟨c1, c2⟩ | exact ⟨h91, h92⟩ | go_keep)
    (first | (go_at_call 27; refine (Hq.out).mono ?_; rintro e w9 ⟨rfl, hs9, ho9⟩; have h91 := cell_of_one (Hc.out.only (Only.drew0 ho9)).cs; have h92 := cell_of_one (Hc.out.only (Only.drew0 ho9)).cd; rw [Ok.out.err]; simp only [errV, if_true]) | (go_at_call 34; refine (do_any _ _ _ (Hc.out.only (Only.drew0 ho9)).cb).mono ?_; rintro e w10 ⟨rfl, rfl⟩))
  all_goals (go_wp2_with fail; go_ret)
  all_goals exact ⟨rfl, by assumption, Only.drew0 (by assumption)⟩
end

set_option maxHeartbeats 1000000 in
/-- then: the same; what was made is freed. -/
theorem cThen_any (V : Int) (x : Int) (w : World) (s : Sb) (st : Sp) {bs bh bb bd : Nat} {vh : Value} {h : List Int} (hs : IsSpace w s V st) (so : SOk V st) (hc : Cap w s bs bh bb bd vh) (hi : IsInts w vh h) (hl : h.length ≤ 100000) (hh : ∀ y ∈ h, hasM st.c y = true) :
    Calls Try.prog 39 #[.int .i64 x, .int .i64 x, .pointer (some ⟨bs, 0, none⟩), .pointer (some ⟨bh, 0, none⟩), .pointer (some ⟨bb, 0, none⟩)] w fun e w' => e = .returned (.bool true) ∧ IsSpace w' s V (freeX st h) ∧ Only s.mem w w' := by
  have hf := Free_any V vh h w s st hs so.ok hi hl (fun y hy => by have := hasM_le (hh y hy); have := hs.ar.len; have := hs.ar.room.2; omega)
  have c1 := cell_of_one hc.cs
  have c2 := cell_of_one hc.ch
  have Hf := Lib.hid hf; have Hc := Lib.hid hc; clear hf hc hs so hi hh
  go_enter Try.func39, Try.ntmps39
  go_wp2_with fail
  refine Hf.out.mono ?_
  rintro e w1 ⟨rfl, hs1, ho1⟩
  have c3 := cell_of_one (Hc.out.only ho1).cb
  have Hs1 := Lib.hid hs1; have Ho1 := Lib.hid ho1; clear hs1 ho1
  go_wp2_with fail
  go_ret
  exact ⟨rfl, Hs1.out, Ho1.out⟩
end Go.Proofs.Ytmlnfbageoabnaa
