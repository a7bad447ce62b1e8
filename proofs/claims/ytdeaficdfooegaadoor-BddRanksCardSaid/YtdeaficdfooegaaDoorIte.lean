/- Contracts: (*bdd.Space).ite. (Printed by gen_ite.py.) -/
import Derived.Test.YtdeaficdfooegaaDoorSpace
namespace Go.Proofs.YtdeaficdfooegaaDoor
open Go.RowKit
set_option linter.unusedVariables false

/-- What a space's method leaves that makes handles. -/
def SpPost (s : Sb) (V : Int) (r : Sp × Int × Nat) (w : World) (e : Ending) (w' : World) : Prop :=
  e = .returned (.tuple #[.int .i64 r.2.1, errV r.2.2]) ∧ IsSpace w' s V r.1 ∧ Only s.mem w w'

/-- ite on its way: the key lies in a box. -/
structure ISt (w wr : World) (s : Sb) (V : Int) (st : Sp) (a b c : Int) : Prop where
  sp : IsSpace wr s V st
  only : Only s.mem w wr
  lt : w.heap.size < wr.heap.size
  off : ∀ k, s.mem k → k < w.heap.size
  b0 : wr.cell? ⟨w.heap.size, 0, none⟩ = some (.int .i64 0)
  b1 : wr.cell? ⟨w.heap.size, 1, none⟩ = some (.int .i64 a)
  b2 : wr.cell? ⟨w.heap.size, 2, none⟩ = some (.int .i64 b)
  b3 : wr.cell? ⟨w.heap.size, 3, none⟩ = some (.int .i64 c)
section
variable {w wr w2 : World} {s : Sb} {V : Int} {st st' : Sp} {a b c : Int}
theorem ISt.grow (h : ISt w wr s V st a b c) (hb : Below wr.heap.size wr w2) : ISt w w2 s V st a b c :=
  ⟨h.sp.below hb, h.only.trans (Only.of_below hb rfl), Nat.lt_of_lt_of_le h.lt hb.size, h.off, (hb.cell h.lt).trans h.b0, (hb.cell h.lt).trans h.b1, (hb.cell h.lt).trans h.b2, (hb.cell h.lt).trans h.b3⟩
theorem ISt.step (h : ISt w wr s V st a b c) (ho : Only s.mem wr w2) (hs : IsSpace w2 s V st') : ISt w w2 s V st' a b c := by
  have hn : ¬ s.mem w.heap.size := fun hk => by have := h.off _ hk; omega
  exact ⟨hs, h.only.trans ho, Nat.lt_of_lt_of_le h.lt ho.size, h.off, (ho.cell h.lt hn).trans h.b0, (ho.cell h.lt hn).trans h.b1, (ho.cell h.lt hn).trans h.b2, (ho.cell h.lt hn).trans h.b3⟩
theorem ist_start (h : IsSpace w s V st) : ISt w (w.alloc (.cells #[.int .i64 0, .int .i64 a, .int .i64 b, .int .i64 c] 206)) s V st a b c := by
  have hb : Below w.heap.size w (w.alloc (.cells #[.int .i64 0, .int .i64 a, .int .i64 b, .int .i64 c] 206)) := (Below.refl _ _).alloc (Nat.le_refl _) _
  exact ⟨h.below hb, Only.of_below hb rfl, by simp, fun k hk => h.lt hk, by simp, by simp, by simp, by simp⟩
end

theorem Sb.sub (s : Sb) : ∀ k, s.b.mem k → s.mem k := fun k hk => .inl hk

theorem SOk.hit {V : Int} {st : Sp} (so : SOk V st) (a b c : Int) : hitM st (a, b, c) = st.q (a, b, c) := by
  unfold hitM
  cases e : st.q (a, b, c) with
  | none => rfl
  | some h => simp only [(so.mem a b c h e).2.2.2.1, if_true]

/-- The ways of iteM, when there is room. -/
theorem iteM_go {V : Int} (hV : V ≤ 24) {f : Nat} {s : Sp} {a b c : Int} (so : SOk V s) (ha : hasM s.c a = true) (hb : hasM s.c b = true) (hc : hasM s.c c = true) (hf : (24 - min3 (topM s.c a) (topM s.c b) (topM s.c c)).toNat < f + 1)
    (hr : cnt s.c + 2 ^ (V - min3 (topM s.c a) (topM s.c b) (topM s.c c)).toNat ≤ s.c.length + 1) (h1 : ¬ (a = 1 ∨ b = c)) (h0 : ¬ a = 0) (hq : s.q (a, b, c) = none) {v : Int} (hv : v = min3 (topM s.c a) (topM s.c b) (topM s.c c)) :
    ∃ R1 R2 R3, R1 = iteM f s (atM s.c a v).1 (atM s.c b v).1 (atM s.c c v).1 ∧ R2 = iteM f R1.1 (atM s.c a v).2 (atM s.c b v).2 (atM s.c c v).2 ∧ R3 = nodeM R2.1.c v R1.2.1 R2.2.1 ∧
      iteM (f + 1) s a b c = (⟨R3.1, putQ R2.1.q (a, b, c) R3.2.1⟩, R3.2.1, 0) ∧ AtOk s.c a v (atM s.c a v) ∧ AtOk s.c b v (atM s.c b v) ∧ AtOk s.c c v (atM s.c c v) ∧ v < V ∧
      (24 - min3 (topM s.c (atM s.c a v).1) (topM s.c (atM s.c b v).1) (topM s.c (atM s.c c v).1)).toNat < f ∧ cnt s.c + 2 ^ (V - min3 (topM s.c (atM s.c a v).1) (topM s.c (atM s.c b v).1) (topM s.c (atM s.c c v).1)).toNat ≤ s.c.length + 1 ∧
      (24 - min3 (topM R1.1.c (atM s.c a v).2) (topM R1.1.c (atM s.c b v).2) (topM R1.1.c (atM s.c c v).2)).toNat < f ∧ cnt R1.1.c + 2 ^ (V - min3 (topM R1.1.c (atM s.c a v).2) (topM R1.1.c (atM s.c b v).2) (topM R1.1.c (atM s.c c v).2)).toNat ≤ R1.1.c.length + 1 ∧
      R1.2.2 = 0 ∧ R2.2.2 = 0 ∧ R3.2.2 = 0 ∧ SOk V R1.1 ∧ SOk V R2.1 ∧ Ext s.c R1.1.c ∧ Ext R1.1.c R2.1.c ∧ hasM R1.1.c R1.2.1 = true ∧ hasM R2.1.c R2.2.1 = true := by
  have ta := so.ok.top_pos a
  have tb := so.ok.top_pos b
  have tc := so.ok.top_pos c
  have hva : v ≤ topM s.c a := by rw [hv]; unfold min3; omega
  have hvb : v ≤ topM s.c b := by rw [hv]; unfold min3; omega
  have hvc : v ≤ topM s.c c := by rw [hv]; unfold min3; omega
  have hv0 : 0 ≤ v := by rw [hv]; unfold min3; omega
  obtain ⟨n, g⟩ : ∃ n, getM s.c a = some n := by
    cases g : getM s.c a with
    | some n => exact ⟨n, rfl⟩
    | none =>
      rcases getM_none_of_has ha g with e | e
      · exact absurd e h0
      · exact absurd (.inl e) h1
  have hvV : v < V := by
    have h2 := top_node g
    obtain ⟨k, rfl, h3, _⟩ := getM_some g
    have := so.vlt k n h3
    omega
  have A := atM_spec so.ok ha hva (by omega)
  have B := atM_spec so.ok hb hvb (by omega)
  have C := atM_spec so.ok hc hvc (by omega)
  have m1 : v + 1 ≤ min3 (topM s.c (atM s.c a v).1) (topM s.c (atM s.c b v).1) (topM s.c (atM s.c c v).1) := by have := A.top1; have := B.top1; have := C.top1; unfold min3; omega
  have w1 := two_pow_le (show (V - min3 (topM s.c (atM s.c a v).1) (topM s.c (atM s.c b v).1) (topM s.c (atM s.c c v).1)).toNat ≤ (V - (v + 1)).toNat by omega)
  have sp := two_pow_split hvV
  have p2 := two_pow_pos (V - (v + 1)).toNat
  rw [← hv] at hr hf
  have r1 := iteM_spec V hV f s (atM s.c a v).1 (atM s.c b v).1 (atM s.c c v).1 so A.has1 B.has1 C.has1 (by omega) (by omega)
  obtain ⟨R1, hR1⟩ : ∃ R, R = iteM f s (atM s.c a v).1 (atM s.c b v).1 (atM s.c c v).1 := ⟨_, rfl⟩
  rw [← hR1] at r1
  have E1 := r1.ext
  have c1 := r1.cnt
  have ht2 : ∀ {x : Int}, hasM s.c x = true → topM R1.1.c x = topM s.c x := fun hx => E1.top hx
  have m2 : v + 1 ≤ min3 (topM R1.1.c (atM s.c a v).2) (topM R1.1.c (atM s.c b v).2) (topM R1.1.c (atM s.c c v).2) := by
    rw [ht2 A.has2, ht2 B.has2, ht2 C.has2]; have := A.top2; have := B.top2; have := C.top2; unfold min3; omega
  have w2 := two_pow_le (show (V - min3 (topM R1.1.c (atM s.c a v).2) (topM R1.1.c (atM s.c b v).2) (topM R1.1.c (atM s.c c v).2)).toNat ≤ (V - (v + 1)).toNat by omega)
  have L1 := E1.len
  have r2 := iteM_spec V hV f R1.1 (atM s.c a v).2 (atM s.c b v).2 (atM s.c c v).2 r1.sok (E1.has A.has2) (E1.has B.has2) (E1.has C.has2) (by omega) (by omega)
  obtain ⟨R2, hR2⟩ : ∃ R, R = iteM f R1.1 (atM s.c a v).2 (atM s.c b v).2 (atM s.c c v).2 := ⟨_, rfl⟩
  rw [← hR2] at r2
  have E2 := r2.ext
  have c2 := r2.cnt
  have L2 := E2.len
  have t1 : v < topM R2.1.c R1.2.1 := by rw [E2.top r1.has]; have := r1.top; omega
  have t2 : v < topM R2.1.c R2.2.1 := by have := r2.top; omega
  have r3 := nodeM_spec r2.sok.ok r2.sok.red hv0 (by omega) (E2.has r1.has) r2.has t1 t2 (by omega)
  refine ⟨R1, R2, _, hR1, hR2, rfl, ?_, A, B, C, hvV, by omega, by omega, by omega, by omega, r1.err, r2.err, r3.err, r1.sok, r2.sok, E1, E2, r1.has, r2.has⟩
  have hh : hitM s (a, b, c) = none := by rw [so.hit]; exact hq
  rw [iteM, if_neg h1, if_neg h0, hh]
  simp only [← hv]
  rw [← hR1, if_neg (by rw [r1.err]; simp), ← hR2, if_neg (by rw [r2.err]; simp), r3.err]
  simp

set_option maxRecDepth 100000 in
set_option maxHeartbeats 8000000 in
theorem ite_in (V : Int) (hV : V ≤ 24) : ∀ (f : Nat) (a b c : Int) (w : World) (s : Sb) (st : Sp), IsSpace w s V st → SOk V st → hasM st.c a = true → hasM st.c b = true → hasM st.c c = true →
    (24 - min3 (topM st.c a) (topM st.c b) (topM st.c c)).toNat < f → cnt st.c + 2 ^ (V - min3 (topM st.c a) (topM st.c b) (topM st.c c)).toNat ≤ st.c.length + 1 →
    Calls Tryd.prog 112 #[.pointer (some ⟨s.ps, 0, none⟩), .int .i64 a, .int .i64 b, .int .i64 c] w (SpPost s V (iteM f st a b c) w)
  | 0, _, _, _, _, _, _, _, _, _, _, _, hf, _ => absurd hf (Nat.not_lt_zero _)
  | f + 1, a, b, c, w, s, st, hs, so, ha, hb, hc, hf, hr => by
    have Hih := Lib.hid (ite_in V hV f)
    have Hs := Lib.hid hs; have Hso := Lib.hid so; have Hha := Lib.hid ha; have Hhb := Lib.hid hb; have Hhc := Lib.hid hc; have Hf := Lib.hid hf; have Hr := Lib.hid hr
    have hlen := hs.ar.len
    have hR := hs.ar.room.2
    have la : a ≤ 9223372036854775807 := by have := hasM_le ha; omega
    have lb : b ≤ 9223372036854775807 := by have := hasM_le hb; omega
    have lc : c ≤ 9223372036854775807 := by have := hasM_le hc; omega
    have Hlen := Lib.hid hlen
    clear hs so ha hb hc hf hr hlen hR
    by_cases h1 : a = 1 ∨ b = c
    · have e : iteM (f + 1) st a b c = (st, b, 0) := by rw [iteM, if_pos h1]
      rw [e]
      clear e
      rcases h1 with rfl | rfl
      · go_enter Tryd.func112, Tryd.ntmps112
        go_wp2_with fail
        go_ret2
        exact ⟨rfl, Hs.out, Only.refl _ _⟩
      · by_cases h2 : a = 1
        · subst h2
          go_enter Tryd.func112, Tryd.ntmps112
          go_wp2_with fail
          go_ret2
          exact ⟨rfl, Hs.out, Only.refl _ _⟩
        · have e1 : (a == 1) = false := by simpa using h2
          clear h2
          go_enter Tryd.func112, Tryd.ntmps112
          go_wp2_with fail
          go_ret2
          exact ⟨rfl, Hs.out, Only.refl _ _⟩
    · have e1 : (a == 1) = false := by simp; exact fun e => h1 (.inl e)
      have e2 : (b == c) = false := by simp; exact fun e => h1 (.inr e)
      by_cases h0 : a = 0
      · have e : iteM (f + 1) st a b c = (st, c, 0) := by rw [iteM, if_neg h1, if_pos h0]
        rw [e]
        clear e h1
        subst h0
        go_enter Tryd.func112, Tryd.ntmps112
        go_wp2_with fail
        go_ret2
        exact ⟨rfl, Hs.out, Only.refl _ _⟩
      · have e3 : (a == 0) = false := by simpa using h0
        obtain ⟨mq, hmq, hmv⟩ := Hs.out.map
        have hi0 := ist_start (a := a) (b := b) (c := c) Hs.out
        have hlk0 := fun n => ((hmq.below (w' := (w.alloc (.cells #[.int .i64 0, .int .i64 a, .int .i64 b, .int .i64 c] 206)).drewN n) (below_drewN ((Below.refl _ _).alloc (Nat.succ_le_of_lt hmq.lt) _) n)).lookup (P := Tryd.prog) (kt := 206) (et := 3) (t := 95) key4 Tryd.underlying95 (zeroInt _) (0, a, b, c) true)
        simp only [enc4, if_true, hmv] at hlk0
        have H1 := Lib.hid h1; have H0 := Lib.hid h0; have Hmq := Lib.hid hmq; have Hmv := Lib.hid hmv
        clear h1 h0 hmq hmv
        cases hq : st.q (a, b, c) with
        | some h =>
          have e : iteM (f + 1) st a b c = (st, h, 0) := by rw [iteM, if_neg H1.out, if_neg H0.out, Hso.out.hit, hq]
          have hh := (Hso.out.mem a b c h hq).2.2.2.1
          rw [e]
          rw [hq] at hlk0
          simp only [Option.map_some, Option.getD_some, Option.isSome_some] at hlk0
          have lh : h ≤ 9223372036854775807 := by have := hasM_le hh; have := Hlen.out; have := Hs.out.ar.room.2; omega
          have Hi0 := Lib.hid hi0; have Hlk := Lib.hid hlk0; have Hhh := Lib.hid hh
          clear hi0 hlk0 hh hq e
          go_enter Tryd.func112, Tryd.ntmps112
          go_wp2_with fail
          have hi := Hi0.out
          have hlk := Hlk.out
          clear Hi0 Hlk
          generalize w.alloc (.cells #[.int .i64 0, .int .i64 a, .int .i64 b, .int .i64 c] 206) = w0 at hi hlk ⊢
          have c2 := hi.sp.s2
          have b0 := hi.b0
          have b1 := hi.b1
          have b2 := hi.b2
          have b3 := hi.b3
          have Hi := Lib.hid hi; clear hi
          go_quiet (fail)
          have hi2 := Hi.out.grow (w2 := w0.drewN nq) (below_drewN (Below.refl _ _) nq)
          have c0 := hi2.sp.s0
          have hha := has_any h (w0.drewN nq) s.b st.c hi2.sp.ar lh
          rw [Hhh.out] at hha
          have Hi2 := Lib.hid hi2; have Hha := Lib.hid hha
          clear hi2 hha hlk c2 b0 b1 b2 b3 Hi
          go_wp2_with fail
          refine Hha.out.mono ?_
          rintro e w' ⟨rfl, rfl⟩
          go_wp2_with fail
          go_ret2
          exact ⟨rfl, Hi2.out.sp, Hi2.out.only⟩
        | none =>
          rw [hq] at hlk0
          simp only [Option.map_none, Option.getD_none, Option.isSome_none] at hlk0
          obtain ⟨v, hv⟩ : ∃ v, v = min3 (topM st.c a) (topM st.c b) (topM st.c c) := ⟨_, rfl⟩
          obtain ⟨R1, R2, R3, hR1, hR2, hR3, he, A, B, C, hvV, f1, r1, f2, r2, er1, er2, er3, so1, so2, E1, E2, hh1, hh2⟩ := iteM_go hV Hso.out Hha.out Hhb.out Hhc.out Hf.out Hr.out H1.out H0.out hq hv
          rw [he]
          obtain ⟨ta, hta⟩ : ∃ t, t = topM st.c a := ⟨_, rfl⟩
          obtain ⟨tb, htb⟩ : ∃ t, t = topM st.c b := ⟨_, rfl⟩
          obtain ⟨tc, htc⟩ : ∃ t, t = topM st.c c := ⟨_, rfl⟩
          have hmin : (if tc < (if tb < ta then tb else ta) then tc else (if tb < ta then tb else ta)) = v := by
            rw [hv, ← hta, ← htb, ← htc]; unfold min3
            split <;> split <;> omega
          have hm1 := A.has1; have hm2 := B.has1; have hm3 := C.has1
          have hv24 : v < 24 := by omega
          have len1 := E1.len; have len2 := E2.len
          have l1 : R1.2.1 ≤ 9223372036854775807 := by have := hasM_le hh1; have := Hlen.out; have := Hs.out.ar.room.2; omega
          have l2 : R2.2.1 ≤ 9223372036854775807 := by have := hasM_le hh2; have := Hlen.out; have := Hs.out.ar.room.2; omega
          have Hi0 := Lib.hid hi0; have Hlk := Lib.hid hlk0; have Hta := Lib.hid hta.symm; have Htb := Lib.hid htb.symm; have Htc := Lib.hid htc.symm; have Hmin := Lib.hid hmin
          have HA := Lib.hid A; have HB := Lib.hid B; have HC := Lib.hid C; have Hf1 := Lib.hid f1; have Hr1 := Lib.hid r1; have Hf2 := Lib.hid f2; have Hr2 := Lib.hid r2; have Her1 := Lib.hid er1; have Her2 := Lib.hid er2; have Her3 := Lib.hid er3
          have Hso1 := Lib.hid so1; have Hso2 := Lib.hid so2; have HE1 := Lib.hid E1; have HE2 := Lib.hid E2; have Hh1 := Lib.hid hh1; have Hh2 := Lib.hid hh2; have HR1 := Lib.hid hR1; have HR2 := Lib.hid hR2; have HR3 := Lib.hid hR3
          clear hi0 hlk0 hta htb htc hmin hm1 hm2 hm3 A B C f1 r1 f2 r2 er1 er2 er3 so1 so2 E1 E2 hh1 hh2 hR1 hR2 hR3 he hq hv len1 len2
          go_enter Tryd.func112, Tryd.ntmps112
          go_wp2_with fail
          have hi := Hi0.out
          have hlk := Hlk.out
          clear Hi0 Hlk
          generalize w.alloc (.cells #[.int .i64 0, .int .i64 a, .int .i64 b, .int .i64 c] 206) = w0 at hi hlk ⊢
          have c2 := hi.sp.s2
          have b0 := hi.b0
          have b1 := hi.b1
          have b2 := hi.b2
          have b3 := hi.b3
          have Hi := Lib.hid hi; clear hi
          go_quiet (fail)
          have hi2 := Hi.out.grow (w2 := w0.drewN nq) (below_drewN (Below.refl _ _) nq)
          clear hlk c2 b0 b1 b2 b3 Hi
          generalize w0.drewN nq = wq at hi2 ⊢
          have Hi0 := Lib.hid hi2; clear hi2
          go_wp2_with fail
          refine wp_region_class (fun w' => ISt w w' s V st a b c) (by kernel_rfl) (by kernel_rfl) (Hi0.out.grow (Below.refl _ _).drew) ?_
          go_big_quiet_want
          go_big_quiet_op
          go_big_quiet_on
          go_big_quiet_want
          refine quiet_run (.pointer (some ⟨s.ps, 0, none⟩)) (fun w' hc => by go_simp) ?_
          simp [Act.put]
          go_big_quiet_on
          go_big_quiet_want
          refine quiet_run (.pointer (some ⟨s.ps, 0, none⟩)) (fun w' hc => by go_simp) ?_
          simp [Act.put]
          go_big_quiet_on
          go_big_quiet_want
          refine quiet_run (.pointer (some ⟨s.b.p, 0, none⟩)) (fun w' hc => by have c0 := hc.sp.s0; go_simp) ?_
          simp [Act.put]
          go_big_quiet_on
          go_big_quiet_want
          go_big_quiet_op
          go_big_quiet_on
          go_big_quiet_want
          refine quiet_call (.int .i64 ta) 51 #[.pointer (some ⟨s.b.p, 0, none⟩), .int .i64 a] (fun w' => by go_simp) (fun w' hc => (top_any a w' s.b st.c hc.sp.ar la).mono fun e w2 he => ⟨by rw [← Hta.out]; exact he.1, hc.grow he.2⟩) ?_
          simp [Act.put]
          go_big_quiet_on
          go_big_quiet_want
          go_big_quiet_op
          go_big_quiet_on
          go_big_quiet_want
          refine quiet_run (.pointer (some ⟨s.ps, 0, none⟩)) (fun w' hc => by go_simp) ?_
          simp [Act.put]
          go_big_quiet_on
          go_big_quiet_want
          refine quiet_run (.pointer (some ⟨s.ps, 0, none⟩)) (fun w' hc => by go_simp) ?_
          simp [Act.put]
          go_big_quiet_on
          go_big_quiet_want
          refine quiet_run (.pointer (some ⟨s.b.p, 0, none⟩)) (fun w' hc => by have c0 := hc.sp.s0; go_simp) ?_
          simp [Act.put]
          go_big_quiet_on
          go_big_quiet_want
          go_big_quiet_op
          go_big_quiet_on
          go_big_quiet_want
          refine quiet_call (.int .i64 tb) 51 #[.pointer (some ⟨s.b.p, 0, none⟩), .int .i64 b] (fun w' => by go_simp) (fun w' hc => (top_any b w' s.b st.c hc.sp.ar lb).mono fun e w2 he => ⟨by rw [← Htb.out]; exact he.1, hc.grow he.2⟩) ?_
          simp [Act.put]
          go_big_quiet_on
          go_big_quiet_want
          go_big_quiet_op
          go_big_quiet_on
          go_big_quiet_want
          refine quiet_run (.pointer (some ⟨s.ps, 0, none⟩)) (fun w' hc => by go_simp) ?_
          simp [Act.put]
          go_big_quiet_on
          go_big_quiet_want
          refine quiet_run (.pointer (some ⟨s.ps, 0, none⟩)) (fun w' hc => by go_simp) ?_
          simp [Act.put]
          go_big_quiet_on
          go_big_quiet_want
          refine quiet_run (.pointer (some ⟨s.b.p, 0, none⟩)) (fun w' hc => by have c0 := hc.sp.s0; go_simp) ?_
          simp [Act.put]
          go_big_quiet_on
          go_big_quiet_want
          go_big_quiet_op
          go_big_quiet_on
          go_big_quiet_want
          refine quiet_call (.int .i64 tc) 51 #[.pointer (some ⟨s.b.p, 0, none⟩), .int .i64 c] (fun w' => by go_simp) (fun w' hc => (top_any c w' s.b st.c hc.sp.ar lc).mono fun e w2 he => ⟨by rw [← Htc.out]; exact he.1, hc.grow he.2⟩) ?_
          simp [Act.put]
          go_big_quiet_on
          go_big_quiet_want
          refine quiet_run (.int .i64 v) (fun w' hc => by have hm := Hmin.out; go_simp) ?_
          simp [Act.put]
          go_big_quiet_on
          go_big_quiet_want
          go_big_quiet_op
          go_big_quiet_on
          refine wpQuiet_nil ?_
          intro w1 hi1
          have Hi1 := Lib.hid hi1; clear hi1 Hi0
          go_wp2_with fail
          refine (bat_any a v w1 s V st Hi1.out.sp la).mono ?_
          rintro e w2 ⟨rfl, hb2⟩
          have Hi2 := Lib.hid (Hi1.out.grow hb2); clear hb2 Hi1
          go_wp2_with fail
          refine (bat_any b v w2 s V st Hi2.out.sp lb).mono ?_
          rintro e w3 ⟨rfl, hb3⟩
          have Hi3 := Lib.hid (Hi2.out.grow hb3); clear hb3 Hi2
          go_wp2_with fail
          refine (bat_any c v w3 s V st Hi3.out.sp lc).mono ?_
          rintro e w4 ⟨rfl, hb4⟩
          have Hi4 := Lib.hid (Hi3.out.grow hb4); clear hb4 Hi3
          have hr1 := Hih.out (atM st.c a v).1 (atM st.c b v).1 (atM st.c c v).1 w4 s st Hi4.out.sp Hso.out HA.out.has1 HB.out.has1 HC.out.has1 Hf1.out Hr1.out
          rw [← HR1.out] at hr1
          have Hq1 := Lib.hid hr1; clear hr1
          go_wp2_with fail
          refine Hq1.out.mono ?_
          rintro e w5 ⟨rfl, hs5, ho5⟩
          have Hi5 := Lib.hid (Hi4.out.step ho5 hs5); clear hs5 ho5 Hi4 Hq1
          rw [Her1.out]
          simp only [errV, if_true]
          have hr2 := Hih.out (atM st.c a v).2 (atM st.c b v).2 (atM st.c c v).2 w5 s R1.1 Hi5.out.sp Hso1.out (HE1.out.has HA.out.has2) (HE1.out.has HB.out.has2) (HE1.out.has HC.out.has2) Hf2.out Hr2.out
          rw [← HR2.out] at hr2
          have Hq2 := Lib.hid hr2; clear hr2
          go_wp2_with fail
          refine Hq2.out.mono ?_
          rintro e w6 ⟨rfl, hs6, ho6⟩
          have Hi6 := Lib.hid (Hi5.out.step ho6 hs6); clear hs6 ho6 Hi5 Hq2
          rw [Her2.out]
          simp only [errV, if_true]
          have hn3 := node_any v R1.2.1 R2.2.1 w6 s V R2.1 Hi6.out.sp l1 l2
          rw [← HR3.out] at hn3
          have Hq3 := Lib.hid hn3; clear hn3
          go_wp2_with fail
          refine Hq3.out.mono ?_
          rintro e w7 ⟨rfl, hs7, ho7⟩
          have hi7 := Hi6.out.step (ho7.mono s.sub) hs7
          rw [Her3.out]
          simp only [errV, if_true]
          have hi8 := hi7.grow (w2 := w7.drew) (Below.refl _ _).drew
          obtain ⟨mq7, hmq7, hmv7⟩ := hi8.sp.map
          obtain ⟨ob, hrun, hob⟩ := hmq7.update (P := Tryd.prog) (kt := 206) (et := 3) (t := 95) key4 Tryd.underlying95 (0, a, b, c) (.int .i64 R3.2.1)
          have hfin := hi8.sp.put hmv7 hob
          simp only [enc4] at hrun
          have hon : Only s.mem w (setObjW w7.drew s.mc ob) := hi8.only.trans ⟨rfl, rfl, rfl, by simp [setObjW], fun k _ hk => setObjW_other ob (fun e => hk (.inr e))⟩
          have c2 := hi7.sp.s2
          have b0 := hi7.b0
          have b1 := hi7.b1
          have b2 := hi7.b2
          have b3 := hi7.b3
          have Hfin := Lib.hid hfin; have Hon := Lib.hid hon
          clear hi7 hi8 hmq7 hmv7 hob hfin hon hs7 ho7 Hi6 Hq3
          go_wp2_with fail
          go_region
          all_goals go_wp2_with fail
          all_goals go_ret2
          all_goals exact ⟨rfl, Hfin.out, Hon.out⟩
end Go.Proofs.YtdeaficdfooegaaDoor
