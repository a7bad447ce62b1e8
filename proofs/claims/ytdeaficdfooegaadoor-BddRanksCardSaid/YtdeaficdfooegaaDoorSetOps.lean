/- Contracts: (*bdd.Space).Set, both, Some, Each. -/
import Derived.Test.YtdeaficdfooegaaDoorOps
import Derived.Test.YtdeaficdfooegaaDoorSet
namespace Go.Proofs.YtdeaficdfooegaaDoor
open Go.RowKit
set_option linter.unusedVariables false

theorem Only.cut {S S' : Nat → Prop} {a w : World} (h : Only S a w) (hs : ∀ k, k < a.heap.size → S k → S' k) : Only S' a w := ⟨h.os, h.tape, h.output, h.size, fun k hk hn => h.block k hk (fun e => hn (hs k hk e))⟩

def noDone : Done := fun _ => none
def setX (st : Sp) (h v : Int) (is : Bool) : Sp × Int × Nat := let r := setM 25 st.c noDone h v is; (⟨r.1, st.q⟩, r.2.2.1, r.2.2.2)
def someX (st : Sp) (h v : Int) : Sp × Int × Nat := let l := setX st h v false; let u := setX l.1 h v true; iteX u.1 l.2.1 1 u.2.1
def eachX (st : Sp) (h v : Int) : Sp × Int × Nat := let l := setX st h v false; let u := setX l.1 h v true; iteX u.1 l.2.1 u.2.1 0

theorem noDone_ok (c : Cells) (v : Int) (is : Bool) : DOk c noDone v is := ⟨fun _ _ h => by cases h⟩
theorem setX_ok {V : Int} (hV : V ≤ 24) {st : Sp} {h v : Int} (is : Bool) (h0 : 0 ≤ v) (h1 : v < V) (so : SOk V st) (hh : hasM st.c h = true) (hr : cnt st.c + 2 ^ V.toNat ≤ st.c.length + 1) :
    ROk V st (setX st h v is) (fun val => den st.c h (setV val v is)) (2 ^ v.toNat) := by
  have t0 := so.ok.top_pos h
  have p1 := two_pow_le (show (V - topM st.c h).toNat ≤ V.toNat by omega)
  have p2 := two_pow_le (show (v - topM st.c h).toNat ≤ v.toNat by omega)
  have h := setM_spec V hV v is 25 st.c noDone h so.cells (noDone_ok _ _ _) hh (by omega) (by omega)
  have hc := h.cnt2 (by omega)
  exact ⟨h.err, so.more h.ext h.cok, h.ext, h.has, h.den, by unfold setX; dsimp only; omega⟩
theorem pow_half {V v : Int} (h0 : 0 ≤ v) (h1 : v < V) : 2 * 2 ^ v.toNat ≤ 2 ^ V.toNat := by
  obtain ⟨k, hk⟩ : ∃ k, V.toNat = v.toNat + 1 + k := ⟨V.toNat - (v.toNat + 1), by omega⟩
  rw [hk, Nat.pow_add, Nat.pow_succ, Nat.mul_comm 2]
  exact Nat.le_mul_of_pos_right _ (Nat.two_pow_pos _)
theorem ROk.hasOld {V : Int} {st : Sp} {r : Sp × Int × Nat} {D : (Int → Bool) → Bool} {k : Nat} (h : ROk V st r D k) {x : Int} (hx : hasM st.c x = true) : hasM r.1.c x = true := h.ext.has hx
theorem old_den {V : Int} {st : Sp} {r : Sp × Int × Nat} {D : (Int → Bool) → Bool} {k : Nat} (h : ROk V st r D k) (so : SOk V st) {x : Int} (hx : hasM st.c x = true) (val : Int → Bool) : den r.1.c x val = den st.c x val := den_ext so.ok h.sok.ok h.ext val x hx

/-- The ways of Some and Each. -/
structure BothWays (V : Int) (st : Sp) (h v : Int) (l u : Sp × Int × Nat) : Prop where
  ol : ROk V st l (fun val => den st.c h (setV val v false)) (2 ^ v.toNat)
  ou : ROk V l.1 u (fun val => den st.c h (setV val v true)) (2 ^ v.toNat)
  lu : hasM u.1.c l.2.1 = true
  room : cnt u.1.c + 2 ^ V.toNat ≤ u.1.c.length + 1
theorem bothWays {V : Int} (hV : V ≤ 24) {st : Sp} {h v : Int} (h0 : 0 ≤ v) (h1 : v < V) (so : SOk V st) (hh : hasM st.c h = true) (hr : cnt st.c + 2 * 2 ^ V.toNat ≤ st.c.length + 1) :
    BothWays V st h v (setX st h v false) (setX (setX st h v false).1 h v true) := by
  have p := pow_half h0 h1
  have l := setX_ok hV false h0 h1 so hh (by omega)
  have lc := l.cnt; have le := l.ext.len
  have u := setX_ok hV true h0 h1 l.sok (l.hasOld hh) (by omega)
  have uc := u.cnt; have ue := u.ext.len
  refine ⟨l, ⟨u.err, u.sok, u.ext, u.has, fun val => (u.den val).trans (old_den l so hh _), u.cnt⟩, u.hasOld l.has, by omega⟩

theorem someX_ok {V : Int} (hV : V ≤ 24) {st : Sp} {h v : Int} (h0 : 0 ≤ v) (h1 : v < V) (so : SOk V st) (hh : hasM st.c h = true) (hr : cnt st.c + 2 * 2 ^ V.toNat ≤ st.c.length + 1) :
    ROk V st (someX st h v) (fun val => den st.c h (setV val v false) || den st.c h (setV val v true)) (2 * 2 ^ V.toNat) := by
  have p := pow_half h0 h1
  have b := bothWays hV h0 h1 so hh hr
  have r := iteX_ok hV b.ou.sok b.lu (hasM_one _) b.ou.has b.room
  refine ⟨r.err, r.sok, (b.ol.ext.trans b.ou.ext).trans r.ext, r.has, fun val => ?_, ?_⟩
  · refine (r.den val).trans ?_
    rw [old_den b.ou b.ol.sok b.ol.has, b.ol.den, b.ou.den, den_one]
    cases den st.c h (setV val v false) <;> simp
  · have := r.cnt; have := b.ol.cnt; have := b.ou.cnt; unfold someX; dsimp only at *; omega
theorem eachX_ok {V : Int} (hV : V ≤ 24) {st : Sp} {h v : Int} (h0 : 0 ≤ v) (h1 : v < V) (so : SOk V st) (hh : hasM st.c h = true) (hr : cnt st.c + 2 * 2 ^ V.toNat ≤ st.c.length + 1) :
    ROk V st (eachX st h v) (fun val => den st.c h (setV val v false) && den st.c h (setV val v true)) (2 * 2 ^ V.toNat) := by
  have p := pow_half h0 h1
  have b := bothWays hV h0 h1 so hh hr
  have r := iteX_ok hV b.ou.sok b.lu b.ou.has (hasM_zero _) b.room
  refine ⟨r.err, r.sok, (b.ol.ext.trans b.ou.ext).trans r.ext, r.has, fun val => ?_, ?_⟩
  · refine (r.den val).trans ?_
    rw [old_den b.ou b.ol.sok b.ol.has, b.ol.den, b.ou.den, den_zero]
    cases den st.c h (setV val v false) <;> simp
  · have := r.cnt; have := b.ol.cnt; have := b.ou.cnt; unfold eachX; dsimp only at *; omega

set_option maxHeartbeats 2000000 in
theorem Set_any (V : Int) (hV : V ≤ 24) (h v : Int) (is : Bool) (w : World) (s : Sb) (st : Sp) (hs : IsSpace w s V st) (so : SOk V st) (h0 : 0 ≤ v) (h1 : v < V) (hh : hasM st.c h = true) (hr : cnt st.c + 2 ^ V.toNat ≤ st.c.length + 1) :
    Calls Tryd.prog 92 #[.pointer (some ⟨s.ps, 0, none⟩), .int .i64 h, .int .i64 v, .bool is] w (SpPost s V (setX st h v is) w) := by
  have hmm := @run_makeMap Tryd.prog
  have hlen := hs.ar.len
  have hR := hs.ar.room.2
  have lh : h ≤ 9223372036854775807 := by have := hasM_le hh; omega
  have c0 := hs.s0
  have c1 := hs.s1
  have hha := has_any h w s.b st.c hs.ar lh
  rw [hh] at hha
  have t0 := so.ok.top_pos h
  have p1 := two_pow_le (show (V - topM st.c h).toNat ≤ V.toNat by omega)
  have hb : Below w.heap.size w (w.alloc (.map #[] 0)) := (Below.refl _ _).alloc (Nat.le_refl _) _
  have hs1 := hs.below hb
  have hd : DoneAt (w.alloc (.map #[] 0)) w.heap.size noDone := ⟨[], mapOf_new w _, fun _ => rfl⟩
  have hset := set_in V hV v is w.heap.size st.q 25 h (w.alloc (.map #[] 0)) s st.c noDone hs1 hd ⟨fun hm => by have := hs.lt hm; omega, by have := hs.lps; omega⟩ so.cells (noDone_ok _ _ _) hh (by omega) (by omega)
  have hon : ∀ w2, Only (setMem s w.heap.size) (w.alloc (.map #[] 0)) w2 → Only s.mem w w2 := fun w2 ho => ((Only.of_below (S := setMem s w.heap.size) hb rfl).trans ho).cut (fun k hk hm => hm.elim (fun hm => .inl hm) (fun e => by omega))
  have e1 : decide (v < 0) = false := by simpa using h0
  have e2 : decide (V ≤ v) = false := by simpa using h1
  have hx : setX st h v is = (⟨(setM 25 st.c noDone h v is).1, st.q⟩, (setM 25 st.c noDone h v is).2.2.1, (setM 25 st.c noDone h v is).2.2.2) := rfl
  rw [hx]
  have Hha := Lib.hid hha; have Hset := Lib.hid hset; have Hon := Lib.hid hon
  clear hha hset hon hs1 hd hb hs so hh hr hlen hR t0 p1 hx h0 h1
  go_enter Tryd.func92, Tryd.ntmps92
  go_wp2_with fail
  refine Hha.out.mono ?_
  rintro e w' ⟨rfl, rfl⟩
  go_wp2_with fail
  refine Hset.out.mono ?_
  rintro e w1 ⟨rfl, hs1, _, ho1⟩
  have Hs1 := Lib.hid hs1; have Ho1 := Lib.hid (Hon.out _ ho1); clear hs1 ho1
  go_wp2_with fail
  go_ret2
  exact ⟨rfl, Hs1.out, Ho1.out⟩

set_option maxHeartbeats 2000000 in
theorem bothOr_any (V : Int) (hV : V ≤ 24) (h v : Int) (w : World) (s : Sb) (st : Sp) (hs : IsSpace w s V st) (so : SOk V st) (h0 : 0 ≤ v) (h1 : v < V) (hh : hasM st.c h = true) (hr : cnt st.c + 2 * 2 ^ V.toNat ≤ st.c.length + 1) :
    Calls Tryd.prog 114 #[.pointer (some ⟨s.ps, 0, none⟩), .int .i64 h, .int .i64 v, .func (.func 89) #[.pointer (some ⟨s.ps, 0, none⟩)] #[]] w (SpPost s V (someX st h v) w) := by
  have p := pow_half h0 h1
  have b := bothWays hV h0 h1 so hh hr
  have q1 := Set_any V hV h v false w s st hs so h0 h1 hh (by omega)
  have q2 := fun w1 hs1 => Set_any V hV h v true w1 s (setX st h v false).1 hs1 b.ol.sok h0 h1 (b.ol.hasOld hh) (by have := b.ol.cnt; have := b.ol.ext.len; omega)
  have hx : someX st h v = iteX (setX (setX st h v false).1 h v true).1 (setX st h v false).2.1 1 (setX (setX st h v false).1 h v true).2.1 := rfl
  rw [hx]
  generalize setX (setX st h v false).1 h v true = U at b q2 ⊢
  generalize setX st h v false = L at b q1 q2 ⊢
  have B := Lib.hid b; have Q1 := Lib.hid q1; have Q2 := Lib.hid q2
  clear b q1 q2 hs so hh hr hx p
  go_enter Tryd.func114, Tryd.ntmps114
  go_wp2_with fail
  refine Q1.out.mono ?_
  rintro e w1 ⟨rfl, hs1, ho1⟩
  have q := Q2.out w1 hs1
  rw [B.out.ol.err]
  simp only [errV, if_true]
  have Q := Lib.hid q; have Ho1 := Lib.hid ho1; clear q hs1 ho1 Q2
  go_wp2_with fail
  refine Q.out.mono ?_
  rintro e w2 ⟨rfl, hs2, ho2⟩
  rw [B.out.ou.err]
  simp only [errV, if_true]
  have q := Or_any V hV L.2.1 U.2.1 w2 s U.1 hs2 B.out.ou.sok B.out.lu B.out.ou.has B.out.room
  have Q3 := Lib.hid q; have Ho2 := Lib.hid ho2; clear q hs2 ho2 Q
  go_wp2_with fail
  refine Q3.out.mono ?_
  rintro e w3 ⟨rfl, hs3, ho3⟩
  have Hs3 := Lib.hid hs3; have Ho3 := Lib.hid ((Ho1.out.trans Ho2.out).trans ho3); clear hs3 ho3 Ho1 Ho2
  go_wp2_with fail
  go_ret2
  exact ⟨rfl, Hs3.out, Ho3.out⟩
set_option maxHeartbeats 2000000 in
theorem bothAnd_any (V : Int) (hV : V ≤ 24) (h v : Int) (w : World) (s : Sb) (st : Sp) (hs : IsSpace w s V st) (so : SOk V st) (h0 : 0 ≤ v) (h1 : v < V) (hh : hasM st.c h = true) (hr : cnt st.c + 2 * 2 ^ V.toNat ≤ st.c.length + 1) :
    Calls Tryd.prog 114 #[.pointer (some ⟨s.ps, 0, none⟩), .int .i64 h, .int .i64 v, .func (.func 88) #[.pointer (some ⟨s.ps, 0, none⟩)] #[]] w (SpPost s V (eachX st h v) w) := by
  have p := pow_half h0 h1
  have b := bothWays hV h0 h1 so hh hr
  have q1 := Set_any V hV h v false w s st hs so h0 h1 hh (by omega)
  have q2 := fun w1 hs1 => Set_any V hV h v true w1 s (setX st h v false).1 hs1 b.ol.sok h0 h1 (b.ol.hasOld hh) (by have := b.ol.cnt; have := b.ol.ext.len; omega)
  have hx : eachX st h v = iteX (setX (setX st h v false).1 h v true).1 (setX st h v false).2.1 (setX (setX st h v false).1 h v true).2.1 0 := rfl
  rw [hx]
  generalize setX (setX st h v false).1 h v true = U at b q2 ⊢
  generalize setX st h v false = L at b q1 q2 ⊢
  have B := Lib.hid b; have Q1 := Lib.hid q1; have Q2 := Lib.hid q2
  clear b q1 q2 hs so hh hr hx p
  go_enter Tryd.func114, Tryd.ntmps114
  go_wp2_with fail
  refine Q1.out.mono ?_
  rintro e w1 ⟨rfl, hs1, ho1⟩
  have q := Q2.out w1 hs1
  rw [B.out.ol.err]
  simp only [errV, if_true]
  have Q := Lib.hid q; have Ho1 := Lib.hid ho1; clear q hs1 ho1 Q2
  go_wp2_with fail
  refine Q.out.mono ?_
  rintro e w2 ⟨rfl, hs2, ho2⟩
  rw [B.out.ou.err]
  simp only [errV, if_true]
  have q := And_any V hV L.2.1 U.2.1 w2 s U.1 hs2 B.out.ou.sok B.out.lu B.out.ou.has B.out.room
  have Q3 := Lib.hid q; have Ho2 := Lib.hid ho2; clear q hs2 ho2 Q
  go_wp2_with fail
  refine Q3.out.mono ?_
  rintro e w3 ⟨rfl, hs3, ho3⟩
  have Hs3 := Lib.hid hs3; have Ho3 := Lib.hid ((Ho1.out.trans Ho2.out).trans ho3); clear hs3 ho3 Ho1 Ho2
  go_wp2_with fail
  go_ret2
  exact ⟨rfl, Hs3.out, Ho3.out⟩

set_option maxHeartbeats 1000000 in
theorem Some_any (V : Int) (hV : V ≤ 24) (h v : Int) (w : World) (s : Sb) (st : Sp) (hs : IsSpace w s V st) (so : SOk V st) (h0 : 0 ≤ v) (h1 : v < V) (hh : hasM st.c h = true) (hr : cnt st.c + 2 * 2 ^ V.toNat ≤ st.c.length + 1) :
    Calls Tryd.prog 93 #[.pointer (some ⟨s.ps, 0, none⟩), .int .i64 h, .int .i64 v] w (SpPost s V (someX st h v) w) := by
  have hmf : ∀ (fn : Fn) (first cap : Array Value) (w : World), (Instr.makeFunc fn first cap).run Tryd.prog w = .ok (.func fn first cap) w := fun _ _ _ _ => rfl
  have Q := Lib.hid (bothOr_any V hV h v w s st hs so h0 h1 hh hr)
  clear hs so h0 h1 hh hr
  go_enter Tryd.func93, Tryd.ntmps93
  go_wp2_with fail
  refine Q.out.mono ?_
  rintro e w1 ⟨rfl, hs1, ho1⟩
  have Hs1 := Lib.hid hs1; have Ho1 := Lib.hid ho1; clear hs1 ho1
  go_wp2_with fail
  go_ret2
  exact ⟨rfl, Hs1.out, Ho1.out⟩

set_option maxHeartbeats 1000000 in
theorem Each_any (V : Int) (hV : V ≤ 24) (h v : Int) (w : World) (s : Sb) (st : Sp) (hs : IsSpace w s V st) (so : SOk V st) (h0 : 0 ≤ v) (h1 : v < V) (hh : hasM st.c h = true) (hr : cnt st.c + 2 * 2 ^ V.toNat ≤ st.c.length + 1) :
    Calls Tryd.prog 94 #[.pointer (some ⟨s.ps, 0, none⟩), .int .i64 h, .int .i64 v] w (SpPost s V (eachX st h v) w) := by
  have hmf : ∀ (fn : Fn) (first cap : Array Value) (w : World), (Instr.makeFunc fn first cap).run Tryd.prog w = .ok (.func fn first cap) w := fun _ _ _ _ => rfl
  have Q := Lib.hid (bothAnd_any V hV h v w s st hs so h0 h1 hh hr)
  clear hs so h0 h1 hh hr
  go_enter Tryd.func94, Tryd.ntmps94
  go_wp2_with fail
  refine Q.out.mono ?_
  rintro e w1 ⟨rfl, hs1, ho1⟩
  have Hs1 := Lib.hid hs1; have Ho1 := Lib.hid ho1; clear hs1 ho1
  go_wp2_with fail
  go_ret2
  exact ⟨rfl, Hs1.out, Ho1.out⟩
end Go.Proofs.YtdeaficdfooegaaDoor
