import Derived.Test.YtmlfelbkgoplhaaGreatDoorZwPkN
import Derived.Test.YtmlfelbkgoplhaaGreatDoorZwPkK
import Derived.Deep.RegionHeld3
import Derived.Deep.CutBlock
import Derived.Laws.Bits64b
import Derived.Deep.QuietTactic
import Derived.BigQuiet
import Derived.BigRegion
import Derived.Laws.BytesArg
set_option linter.unusedVariables false
set_option linter.unusedSimpArgs false
namespace Go.Proofs.YtmlfelbkgoplhaaGreatDoor
open Go.RowKit
def zbK (w : World) (md : Nat) (V : Int) (c : Cells) : Prop := ∃ mq : List (Int × Value), MapOf w md (Value.int .i64) mq ∧ ∀ k v, assoc mq k = some v → zW w v (qY V c k)
theorem zbK.lt {w : World} {md : Nat} {V : Int} {c : Cells} (h : zbK w md V c) : md < w.heap.size := by obtain ⟨mq, h1, _⟩ := h; exact h1.lt
theorem zbK.below {w w' : World} {md : Nat} {V : Int} {c : Cells} (h : zbK w md V c) (hb : Below w.heap.size w w') : zbK w' md V c := by
 obtain ⟨mq, h1, h2⟩ := h; exact ⟨mq, h1.xM (hb.block _ h1.lt), fun k v e => (h2 k v e).below hb⟩
theorem zW.zna {w w' : World} {v : Value} {n md : Nat} {V : Int} {c : Cells} (h : zW w v n) (hm : zbK w md V c) (ho : Only (· = md) w w') : zW w' v n := by
 obtain ⟨mq, h1, _⟩ := hm; exact h.zdA h1 ho
theorem je.zna {wr w2 : World} {B : Nat} {a : Option Addr} {c n md : Nat} {V : Int} {cs : Cells} (h : je wr B a c n) (hm : zbK wr md V cs) (ho : Only (· = md) wr w2) : je w2 B a c n := by
 refine ⟨(ho.block _ (zlb h.blk) (fun e => ?_)).trans h.blk, h.nat.zna hm ho⟩
 obtain ⟨mq, ⟨es, cl, hb, _⟩, _⟩ := hm
 have := h.blk
 rw [e, hb] at this; cases this
structure CSt (w wr : World) (s : Sb) (V : Int) (st : Sp) (md : Nat) (n : Nd) (nb : Nat) : Prop where
 sp : IsSpace wr s V st
 done : zbK wr md V st.c
 only : Only (· = md) w wr
 off : md < w.heap.size ∧ ¬ s.mem md ∧ s.ps ≠ md
 old : s.ps < w.heap.size ∧ ∀ k, s.mem k → k < w.heap.size
 nb1 : w.heap.size < nb ∧ nb < wr.heap.size
 b0 : wr.cell? ⟨nb, 0, none⟩ = some (.int .i64 n.1)
 b1 : wr.cell? ⟨nb, 1, none⟩ = some (.int .i64 n.2.1)
 b2 : wr.cell? ⟨nb, 2, none⟩ = some (.int .i64 n.2.2)
 res : wr.heap[w.heap.size]? = some (.cells #[.slice none 0 0] 52 (0, 0))
section
variable {w wr w2 : World} {s : Sb} {V : Int} {st : Sp} {md : Nat} {n : Nd} {nb : Nat}
theorem CSt.grow (h : CSt w wr s V st md n nb) (hb : Below wr.heap.size wr w2) : CSt w w2 s V st md n nb :=
 ⟨h.sp.below hb, h.done.below hb, h.only.trans (Only.of_below hb rfl), h.off, h.old, ⟨h.nb1.1, Nat.lt_of_lt_of_le h.nb1.2 hb.size⟩, (hb.cell h.nb1.2).trans h.b0, (hb.cell h.nb1.2).trans h.b1, (hb.cell h.nb1.2).trans h.b2, (hb.block _ (zlb h.res)).trans h.res⟩
theorem CSt.step (h : CSt w wr s V st md n nb) (ho : Only (· = md) wr w2) (hd : zbK w2 md V st.c) : CSt w w2 s V st md n nb := by
 have hn : nb ≠ md := by have := h.off.1; have := h.nb1.1; omega
 have hr : w.heap.size ≠ md := by have := h.off.1; omega
 exact ⟨h.sp.only ho h.off.2.2 (fun k hk e => h.off.2.1 (e ▸ hk)), hd, h.only.trans ho, h.off, h.old, ⟨h.nb1.1, Nat.lt_of_lt_of_le h.nb1.2 ho.size⟩, (ho.cell h.nb1.2 hn).trans h.b0, (ho.cell h.nb1.2 hn).trans h.b1, (ho.cell h.nb1.2 hn).trans h.b2, (ho.block _ (zlb h.res) hr).trans h.res⟩
structure zki (w' : World) (s : Sb) (V : Int) (n : Nd) (nb : Nat) : Prop where
 c0 : w'.cell? ⟨s.ps, 0, none⟩ = some (.pointer (some ⟨s.b.p, 0, none⟩))
 c1 : w'.cell? ⟨s.ps, 1, none⟩ = some (.int .i64 V)
 b0 : w'.cell? ⟨nb, 0, none⟩ = some (.int .i64 n.1)
 b1 : w'.cell? ⟨nb, 1, none⟩ = some (.int .i64 n.2.1)
 b2 : w'.cell? ⟨nb, 2, none⟩ = some (.int .i64 n.2.2)
theorem zki.alloc {w' : World} (h : zki w' s V n nb) (o : Obj) : zki (w'.alloc o) s V n nb := by
 have k : ∀ {p : Addr} {v : Value}, w'.cell? p = some v → (w'.alloc o).cell? p = some v := fun {p v} e => (World.cell?_alloc_some _ _ _ (by rw [e]; rfl)).trans e
 exact ⟨k h.c0, k h.c1, k h.b0, k h.b1, k h.b2⟩
theorem CSt.held (h : CSt w wr s V st md n nb) : zki wr s V n nb := ⟨h.sp.s0, h.sp.s1, h.b0, h.b1, h.b2⟩
end
structure CW (w wr : World) (s : Sb) (V : Int) (st : Sp) (md : Nat) (n : Nd) (nb D B : Nat) : Prop where
 c : CSt w wr s V st md n nb
 zb : wr.heap[B]? = some (.cells #[.slice none 0 0] 52 (0, 0))
 zd : wr.heap[D]? = some (.cells #[.slice none 0 0] 52 (0, 0))
 lt : nb < D ∧ D ≤ B
section
variable {w wr w2 : World} {s : Sb} {V : Int} {st : Sp} {md : Nat} {n : Nd} {nb D B : Nat}
theorem CW.grow (h : CW w wr s V st md n nb D B) (hb : Below wr.heap.size wr w2) : CW w w2 s V st md n nb D B := ⟨h.c.grow hb, (hb.block _ (zlb h.zb)).trans h.zb, (hb.block _ (zlb h.zd)).trans h.zd, h.lt⟩
theorem CW.step (h : CW w wr s V st md n nb D B) (ho : Only (· = md) wr w2) (hd : zbK w2 md V st.c) : CW w w2 s V st md n nb D B := by
 have l0 := h.c.off.1; have l1 := h.c.nb1.1; have l2 := h.lt
 exact ⟨h.c.step ho hd, (ho.block _ (zlb h.zb) (fun e => by have e' : B = md := e; omega)).trans h.zb, (ho.block _ (zlb h.zd) (fun e => by have e' : D = md := e; omega)).trans h.zd, h.lt⟩
theorem CW.alloc (h : CW w wr s V st md n nb D B) : CW w (wr.alloc (.cells #[.slice none 0 0] 52)) s V st md n nb D wr.heap.size :=
 ⟨h.c.grow (zba), za rfl, zh h.zd, h.lt.1, Nat.le_of_lt (zlb h.zd)⟩
theorem CW.gap (h : CW w wr s V st md n nb D B) : D < wr.heap.size := zlb h.zd
theorem CW.back (h : CW w wr s V st md n nb D B) : CW w wr s V st md n nb D D := ⟨h.c, h.zd, h.zd, h.lt.1, znr _⟩
theorem zbK.xW {wr : World} {md : Nat} {V : Int} {c : Cells} {R : Nat} (h : zbK wr md V c) (hR : wr.heap[R]? = some (.cells #[.slice none 0 0] 52 (0, 0))) (u : Value) : zbK (wr.setCell ⟨R, 0, none⟩ u) md V c := by
 obtain ⟨mq, h1, h2⟩ := h
 have hn : md ≠ R := fun e => by
  subst e
  obtain ⟨es, cl, hb, _⟩ := h1
  rw [hb] at hR; cases hR
 exact ⟨mq, h1.xM (zhc _ _ _ _ hn), fun k v e => (h2 k v e).xW hR u⟩
theorem CW.zfI (h : CW w wr s V st md n nb D B) (u : Value) : CSt w (wr.setCell ⟨B, 0, none⟩ u) s V st md n nb := by
 have l1 := h.c.nb1; have l2 := h.lt; have l3 := h.c.old
 have hb : ∀ k, k ≠ B → (wr.setCell ⟨B, 0, none⟩ u).heap[k]? = wr.heap[k]? := fun k hk => zhc _ _ _ _ hk
 have ho : Only (· = B) wr (wr.setCell ⟨B, 0, none⟩ u) := ⟨rfl, rfl, rfl, by simp, fun k _ hk => hb k hk⟩
 have hc : ∀ j, (wr.setCell ⟨B, 0, none⟩ u).cell? ⟨nb, j, none⟩ = wr.cell? ⟨nb, j, none⟩ := fun j => ho.cell l1.2 (fun e => by have e' : nb = B := e; omega)
 refine ⟨h.c.sp.only ho (fun e => by have e' : s.ps = B := e; omega) (fun k hk e => by have := l3.2 k hk; have e' : k = B := e; omega), h.c.done.xW h.zb u, ?_, h.c.off, h.c.old, ⟨l1.1, by simpa using l1.2⟩, (hc 0).trans h.c.b0, (hc 1).trans h.c.b1, (hc 2).trans h.c.b2, (hb _ (by omega)).trans h.c.res⟩
 exact ⟨h.c.only.os, h.c.only.tape, h.c.only.output, by simpa using h.c.only.size, fun k hk hn => (hb k (by omega)).trans (h.c.only.block k hk hn)⟩
theorem CW.set (h : CW w wr s V st md n nb D B) (hD : D < B) (u : Value) : CW w (wr.setCell ⟨B, 0, none⟩ u) s V st md n nb D D :=
 have e := (zhc wr ⟨B, 0, none⟩ u D (by simp; omega)).trans h.zd
 ⟨h.zfI u, e, e, h.lt.1, znr _⟩
theorem CW.put (h : CW w wr s V st md n nb D B) {a : Option Addr} {c k : Nat} (hn : zW wr (.agg #[.slice a (zf k).length c]) k) : je (wr.setCell ⟨B, 0, none⟩ (.slice a (zf k).length c)) B a c k := ⟨one_setCell h.zb, hn.xW h.zb _⟩
theorem je.put {b : Option Addr} {d j : Nat} {E : Nat} (h : je wr E b d j) (hw : CW w wr s V st md n nb D B) (hne : E ≠ B) (u : Value) : je (wr.setCell ⟨B, 0, none⟩ u) E b d j := ⟨(zhc _ _ _ _ hne).trans h.blk, h.nat.xW hw.zb _⟩
theorem CW.more (h : CW w wr s V st md n nb D B) (o : Obj) : CW w (wr.alloc o) s V st md n nb D D := (h.grow (zba)).back
end
theorem CSt.putC {w wr : World} {s : Sb} {V : Int} {st : Sp} {md : Nat} {n : Nd} {nb : Nat} (h : CSt w wr s V st md n nb) {mq : List (Int × Value)} (hm : MapOf wr md (Value.int .i64) mq) (hmv : ∀ k v, assoc mq k = some v → zW wr v (qY V st.c k)) {k : Int} {v : Value} (hn : zW wr v (qY V st.c k)) {o : Obj} (ho : MapOf (zB wr md o) md (Value.int .i64) (zU mq k v)) :
 CSt w (zB wr md o) s V st md n nb ∧ ∀ (E : Nat) (b : Option Addr) (d j : Nat), je wr E b d j → je (zB wr md o) E b d j := by
 have hon : Only (· = md) wr (zB wr md o) := ⟨rfl, rfl, rfl, by simp [zB], fun k _ hk => yV o hk⟩
 have hd : zbK (zB wr md o) md V st.c := ⟨_, ho, fun k' v' e => by
  rw [zcd] at e
  split at e
  · rename_i e2; subst e2; cases e; exact hn.zdA hm hon
  · exact (hmv k' v' e).zdA hm hon⟩
 exact ⟨h.step hon hd, fun E b d j hb => hb.zna h.done hon⟩
theorem CSt.fin {w wr : World} {s : Sb} {V : Int} {st : Sp} {md : Nat} {n : Nd} {nb : Nat} (h : CSt w wr s V st md n nb) (u : Value) : zbK (wr.setCell ⟨w.heap.size, 0, none⟩ u) md V st.c ∧ Only (· = md) w (wr.setCell ⟨w.heap.size, 0, none⟩ u) :=
 ⟨h.done.xW h.res u, h.only.os, h.only.tape, h.only.output, by simpa using h.only.size, fun k hk hn => (zhc _ _ _ _ (by simp; omega)).trans (h.only.block k hk hn)⟩
theorem znF (a b : Int) : min a b = if b < a then b else a := by split <;> omega
theorem zgs {V : Nat} {st : Sp} {h u : Int} (hV : V ≤ 24) (co : COk V st.c) (hh : zD st.c h = true) (u0 : 0 ≤ u) (ht : u < zm st.c h) (huV : u < V) :
 ∃ T : Nat, T ≤ 24 ∧ (xX V st.c h - u - 1).toNat = T ∧ (zf (qY V st.c h * 2 ^ T)).length ≤ 1000000 ∧
  IntKind.i64.wrap (IntKind.i64.wrap ((if (V : Int) < zm st.c h then (V : Int) else zm st.c h) - u) - 1) = (T : Int) := by
 have hb := zlX hV co hh
 have h24 := (co.ok.xC h).2
 have e : (if (V : Int) < zm st.c h then (V : Int) else zm st.c h) = xX V st.c h := by unfold xX; split <;> omega
 rw [e]
 refine ⟨(xX V st.c h - u - 1).toNat, ?_, rfl, zkr (Nat.le_trans (Nat.mul_le_mul_left _ (Nat.pow_le_pow_right (by decide) ?_)) hb), ?_⟩
 · unfold xX; omega
 · unfold xX; omega
 · rw [IntWalk.i64_in (xX V st.c h - u) (by unfold xX; omega), IntWalk.i64_in _ (by unfold xX; omega)]; unfold xX; omega
set_option maxRecDepth 100000 in
set_option maxHeartbeats 16000000 in
theorem zgp (V : Nat) (hV : V ≤ 24) (md : Nat) : ∀ (f : Nat) (h : Int) (w : World) (s : Sb) (st : Sp), IsSpace w s V st → zbK w md V st.c → (¬ s.mem md ∧ s.ps ≠ md) → COk V st.c → zD st.c h = true → (24 - zm st.c h).toNat < f →
 Calls Tryz.prog 57 #[.pointer (some ⟨s.ps, 0, none⟩), .int .i64 h, .map (some md)] w fun e w' => ∃ v, e = .returned v ∧ zW w' v (qY V st.c h) ∧ zbK w' md V st.c ∧ Only (· = md) w w'
 | 0, _, _, _, _, _, _, _, _, _, hf => absurd hf (Nat.not_lt_zero _)
 | f + 1, h, w, s, st, hs, hd, hoff, co, hh, hf => by
  have Hih := hid (zgp V hV md f)
  have hlen := hs.ar.len
  have hR := hs.ar.room.2
  have lh : h ≤ 9223372036854775807 := by have := xE hh; omega
  have c0 := hs.s0
  have lmd := hd.lt
  have lps := hs.lps
  have hbr : Below w.heap.size w (w.alloc (.cells #[.slice none 0 0] 52)) := zba
  have hg := zc6 h _ s.b st.c (hs.ar.below hbr) lh
  have Hs := hid hs; have Hd := hid hd; have Hoff := hid hoff; have Hco := hid co; have Hhh := hid hh; have Hf := hid hf
  clear hs hd hoff co hh hf hlen hR hbr
  cases g : getM st.c h with
  | none =>
   rw [g] at hg
   have hcx := zkO (V := V) g
   have hn : h = ((h.toNat : Nat) : Int) := by have := zhY Hhh.out; omega
   rw [hcx]
   have Hg := hid hg; have Hn := hid hn; clear hg g hcx hn
   go_enter Tryz.func57, Tryz.ntmps57
   go_wp2_with fail
   refine Hg.out.mono ?_
   rintro e w1 ⟨rfl, rfl⟩
   simp only [za7, qR, Option.getD_none, Option.isSome_none]
   go_wp2_with fail
   have hb : Below w.heap.size w (((w.alloc (.cells #[.slice none 0 0] 52)).alloc (.cells #[.int .i64 0, .int .i64 0, .int .i64 0] 117)).alloc (.cells #[.int .i64 0, .int .i64 0, .int .i64 0] 117)) := ((zba).alloc (by simp) _).alloc (by simp only [zw]; omega) _
   have hq := zo6 h.toNat (((w.alloc (.cells #[.slice none 0 0] 52)).alloc (.cells #[.int .i64 0, .int .i64 0, .int .i64 0] 117)).alloc (.cells #[.int .i64 0, .int .i64 0, .int .i64 0] 117)) (by omega)
   rw [← Hn.out] at hq
   refine hq.mono ?_
   rintro e w2 ⟨v, rfl, hv, hb2⟩
   obtain ⟨a8, c8, rfl⟩ := hv.shape
   have hr : Res w w2 52 (.slice none 0 0) := zmF (zh (zh (za rfl))) hb hb2
   have c2 := hr.cell; have f2 := hr.free; have l2 := hr.lt
   have Hv := hid hv; have Hr := hid hr
   clear hv hb2 hb hq hr
   go_wp2_with fail
   exact bodyPost_ret (v := .agg #[.slice a8 (zf h.toNat).length c8]) (by simp [results, Tryz.results57, go_sem, c2]) rfl ⟨_, rfl, Hv.out.xW Hr.out.blk _, Hd.out.below (Hr.out.set _), Only.of_below (Hr.out.set _) rfl⟩
  | some n =>
   obtain ⟨u, lo, hi⟩ := n
   obtain ⟨b1, b2, k1, k2, k3, k4⟩ := Hco.out.ok.kids g
   rw [g] at hg
   have hcx := zhP (V := V) Hco.out.ok g
   have hvV : u < V := by obtain ⟨k, rfl, h3, _⟩ := getM_some g; exact Hco.out.vlt k _ h3
   have htop := yh g
   dsimp only at b1 b2 k1 k2 k3 k4 hcx htop
   have hb3 : Below w.heap.size w (((w.alloc (.cells #[.slice none 0 0] 52)).alloc (.cells #[.int .i64 u, .int .i64 lo, .int .i64 hi] 117)).alloc (.cells #[.int .i64 u, .int .i64 lo, .int .i64 hi] 117)) := ((zba).alloc (by simp) _).alloc (by simp only [zw]; omega) _
   have hts : CSt w (((w.alloc (.cells #[.slice none 0 0] 52)).alloc (.cells #[.int .i64 u, .int .i64 lo, .int .i64 hi] 117)).alloc (.cells #[.int .i64 u, .int .i64 lo, .int .i64 hi] 117)) s V st md (u, lo, hi) (w.heap.size + 1 + 1) :=
    ⟨Hs.out.below hb3, Hd.out.below hb3, Only.of_below hb3 rfl, ⟨lmd, Hoff.out⟩, ⟨lps, fun k hk => Hs.out.lt hk⟩, ⟨by omega, by simp⟩, by rw [cell_of_row _ _ _ _ _ _ (za (by simp))]; rfl, by rw [cell_of_row _ _ _ _ _ _ (za (by simp))]; rfl, by rw [cell_of_row _ _ _ _ _ _ (za (by simp))]; rfl, zh (zh (za rfl))⟩
   have Hg := hid hg; have Hcx := hid hcx; have Hts := hid hts; have Hk1 := hid k1; have Hk2 := hid k2; have Hfuel := hid (show (24 - zm st.c lo).toNat < f ∧ (24 - zm st.c hi).toNat < f by have := Hf.out; omega)
   clear hg hcx hts hb3 g htop k1 k2
   go_enter Tryz.func57, Tryz.ntmps57
   go_wp2_with fail
   refine Hg.out.mono ?_
   rintro e w1 ⟨rfl, rfl⟩
   simp only [za7, qR, Option.getD_some, Option.isSome_some]
   obtain ⟨mq, hmq, hmv⟩ := Hd.out
   have Hmq := hid (hmq.xM ((znL w (.cells #[.slice none 0 0] 52) (.cells #[.int .i64 u, .int .i64 lo, .int .i64 hi] 117) (.cells #[.int .i64 u, .int .i64 lo, .int .i64 hi] 117)).block _ lmd)); have Hmv := hid hmv; clear hmq hmv
   cases ha : assoc mq h with
   | some v =>
    have hv := Hmv.out h v ha
    obtain ⟨a8, c8, rfl⟩ := hv.shape
    have Ha := hid ha; have Hv := hid hv; clear ha hv
    go_wp2_with (at_lookup; refine yY rfl (.tmp 28) (.tmp 29) 125 true rfl (kt := 3) (et := 52) (enc := Value.int .i64) (kC Tryz.underlying3) Tryz.underlying125 (zks _) (b := md) rfl (l := mq) Hmq.out (k := h) rfl ?_; rw [Ha.out]; simp only [Option.getD_some, Option.isSome_some, if_true])
    exact bodyPost_ret (v := .agg #[.slice a8 (zf (qY V st.c h)).length c8]) (by simp [results, Tryz.results57, go_sem]) rfl ⟨_, rfl, Hv.out.below (zjC _ _ _ _ _), Hd.out.below (zjC _ _ _ _ _), Only.of_below (zjC _ _ _ _ _) rfl⟩
   | none =>
    have Ha := hid ha; clear ha
    go_wp2_with (at_lookup; refine yY rfl (.tmp 28) (.tmp 29) 125 true rfl (kt := 3) (et := 52) (enc := Value.int .i64) (kC Tryz.underlying3) Tryz.underlying125 (zks _) (b := md) rfl (l := mq) Hmq.out (k := h) rfl ?_; rw [Ha.out]; simp only [Option.getD_none, Option.isSome_none, if_true])
    have ti := Hts.out.grow (w2 := (((w.alloc (.cells #[.slice none 0 0] 52)).alloc (.cells #[.int .i64 u, .int .i64 lo, .int .i64 hi] 117)).alloc (.cells #[.int .i64 u, .int .i64 lo, .int .i64 hi] 117)).alloc (.cells #[.slice none 0 0] 52)) (zba)
    have hz4 : ((((w.alloc (.cells #[.slice none 0 0] 52)).alloc (.cells #[.int .i64 u, .int .i64 lo, .int .i64 hi] 117)).alloc (.cells #[.int .i64 u, .int .i64 lo, .int .i64 hi] 117)).alloc (.cells #[.slice none 0 0] 52)).heap[w.heap.size + 1 + 1 + 1]? = some (.cells #[.slice none 0 0] 52 (0, 0)) := za (by simp)
    clear Hts Hmq Hmv Ha
    generalize (((w.alloc (.cells #[.slice none 0 0] 52)).alloc (.cells #[.int .i64 u, .int .i64 lo, .int .i64 hi] 117)).alloc (.cells #[.int .i64 u, .int .i64 lo, .int .i64 hi] 117)).alloc (.cells #[.slice none 0 0] 52) = w4 at ti hz4 ⊢
    obtain ⟨nb, enb⟩ : ∃ b, b = w.heap.size + 1 + 1 := ⟨_, rfl⟩
    rw [← enb] at ti ⊢
    obtain ⟨T1, hT1, eT1, hS1, hE1⟩ := zgs (h := lo) hV Hco.out Hk1.out b1 k3 hvV
    obtain ⟨T2, hT2, eT2, hS2, hE2⟩ := zgs (h := hi) hV Hco.out Hk2.out b1 k4 hvV
    have hlen := Hs.out.ar.len; have hRR := Hs.out.ar.room.2
    have hTop1 := fun w' (ha : zH w' s.b st.c) => jA lo w' s.b st.c ha (by have := xE Hk1.out; omega)
    have hTop2 := fun w' (ha : zH w' s.b st.c) => jA hi w' s.b st.c ha (by have := xE Hk2.out; omega)
    clear hlen hRR
    have Hcx2 := Hcx.out
    rw [eT1, eT2] at Hcx2
    clear Hcx eT1 eT2
    have Hcx := hid Hcx2; clear Hcx2
    have g1 := (Hco.out.ok.xC lo).2; have g2 := (Hco.out.ok.xC hi).2
    generalize zm st.c lo = t1 at k3 hE1 hTop1 g1
    generalize zm st.c hi = t2 at k4 hE2 hTop2 g2
    have HS1 := hid hS1; have HS2 := hid hS2; have HT1 := hid hTop1; have HT2 := hid hTop2; have HE1 := hid hE1; have HE2 := hid hE2
    clear hS1 hS2 hTop1 hTop2 hE1 hE2
    have hcw0 : CW w w4 s V st md (u, lo, hi) nb (w.heap.size + 1 + 1 + 1) (w.heap.size + 1 + 1 + 1) := ⟨ti, hz4, hz4, by omega, znr _⟩
    clear enb ti hz4
    obtain ⟨D, eD⟩ : ∃ z, z = w.heap.size + 1 + 1 + 1 := ⟨_, rfl⟩
    rw [← eD] at hcw0
    clear eD
    have Hcw0 := hid hcw0; clear hcw0
    go_upto_region 7 with fail
    go_cut [11] from 35 to 56 (fun p wx => ∃ (BL : Nat) (aL : Option Addr) (cL : Nat), p = .pointer (some ⟨BL, 0, none⟩) ∧ CW w wx s V st md (u, lo, hi) nb D D ∧ je wx BL aL cL (qY V st.c lo * 2 ^ T1))
    case first =>
     have hw0 := Hcw0.out.grow (w2 := w4.drew) ((Below.refl _ _).drew)
     have HIA := hid (Hcw0.out.alloc.grow (w2 := (w4.alloc (.cells #[.slice none 0 0] 52)).drew) ((Below.refl _ _).drew))
     have h90 := hw0.c.held
     have h91 := zco hw0.zb; have h92 := zfo hw0.zb
     have HI := hid hw0; have HD := HI; clear hw0
     go_region_held3 (fun w' => w'.cell? ⟨s.ps, 0, none⟩ = some (.pointer (some ⟨s.b.p, 0, none⟩)) ∧ w'.cell? ⟨s.ps, 1, none⟩ = some (.int .i64 V) ∧ w'.cell? ⟨nb, 0, none⟩ = some (.int .i64 u) ∧ w'.cell? ⟨nb, 1, none⟩ = some (.int .i64 lo) ∧ w'.cell? ⟨nb, 2, none⟩ = some (.int .i64 hi))
      (first | exact ⟨h90.c0, h90.c1, h90.b0, h90.b1, h90.b2⟩ | exact ⟨(h90.alloc _).c0, (h90.alloc _).c1, (h90.alloc _).b0, (h90.alloc _).b1, (h90.alloc _).b2⟩ | exact ⟨(HI.out.zfI _).held.c0, (HI.out.zfI _).held.c1, (HI.out.zfI _).held.b0, (HI.out.zfI _).held.b1, (HI.out.zfI _).held.b2⟩ | go_keep)
      (first
       | (go_at_call 57; first | ((with_reducible refine (Hih.out lo _ s st HI.out.c.sp HI.out.c.done Hoff.out Hco.out Hk1.out Hfuel.out.1).mono ?_); rintro e w9 ⟨v9, rfl, hn9, hd9, ho9⟩; obtain ⟨a9, c9, rfl⟩ := hn9.shape; have hi9 := HI.out.step ho9 hd9; clear hd9 ho9; clear h90 h91 h92 HI; have HI := hid hi9; have HN := hid hn9; have h90 := hi9.c.held; have h91 := zco hi9.zb; have h92 := zfo hi9.zb; clear hn9 hi9) | (have hgap := HI.out.gap; clear HD; have HD := hid hgap; clear hgap; clear HI; have HI := HIA; (with_reducible refine (Hih.out lo _ s st HI.out.c.sp HI.out.c.done Hoff.out Hco.out Hk1.out Hfuel.out.1).mono ?_); rintro e w9 ⟨v9, rfl, hn9, hd9, ho9⟩; obtain ⟨a9, c9, rfl⟩ := hn9.shape; have hi9 := HI.out.step ho9 hd9; clear hd9 ho9; clear h90 h91 h92 HI; have HI := hid hi9; have HN := hid hn9; have h90 := hi9.c.held; have h91 := zco hi9.zb; have h92 := zfo hi9.zb; clear hn9 hi9))
       | (go_at_call 59; first | ((with_reducible refine (HT1.out _ HI.out.c.sp.ar).mono ?_); rintro e w9 ⟨rfl, hb9⟩; have hi9 := HI.out.grow hb9; have hn9 := HN.out.below hb9; clear hb9; clear h90 h91 h92 HI HN; have HI := hid hi9; have HN := hid hn9; have h90 := hi9.c.held; have h91 := zco hi9.zb; have h92 := zfo hi9.zb; clear hn9 hi9) | (have hgap := HI.out.gap; clear HD; have HD := hid hgap; clear hgap; have hi9 := HI.out.alloc; clear HI; have HI := hid hi9; clear hi9; have hn9 := HN.out.below (w' := World.alloc _ (.cells #[.slice none 0 0] 52)) (zba); clear HN; have HN := hid hn9; clear hn9; (with_reducible refine (HT1.out _ HI.out.c.sp.ar).mono ?_); rintro e w9 ⟨rfl, hb9⟩; have hi9 := HI.out.grow hb9; have hn9 := HN.out.below hb9; clear hb9; clear h90 h91 h92 HI HN; have HI := hid hi9; have HN := hid hn9; have h90 := hi9.c.held; have h91 := zco hi9.zb; have h92 := zfo hi9.zb; clear hn9 hi9))
       | (go_at_call 58; (try rw [znF t1 (V : Int)]); rw [HE1.out]; generalize (if (V : Int) < t1 then (V : Int) else t1) = m1; first | ((with_reducible refine (zak (qY V st.c lo) T1 _ _ HN.out (by omega) HS1.out).mono ?_); rintro e w9 ⟨v9, rfl, hn9, hb9⟩; obtain ⟨a9, c9, rfl⟩ := hn9.shape; have hi9 := HI.out.grow hb9; clear hb9; clear h90 h91 h92 HI HN; have HI := hid hi9; have HN := hid hn9; have h90 := hi9.c.held; have h91 := zco hi9.zb; have h92 := zfo hi9.zb; clear hn9 hi9; dsimp only) | (have hgap := HI.out.gap; clear HD; have HD := hid hgap; clear hgap; have hi9 := HI.out.alloc; clear HI; have HI := hid hi9; clear hi9; have hn9 := HN.out.below (w' := World.alloc _ (.cells #[.slice none 0 0] 52)) (zba); clear HN; have HN := hid hn9; clear hn9; (with_reducible refine (zak (qY V st.c lo) T1 _ _ HN.out (by omega) HS1.out).mono ?_); rintro e w9 ⟨v9, rfl, hn9, hb9⟩; obtain ⟨a9, c9, rfl⟩ := hn9.shape; have hi9 := HI.out.grow hb9; clear hb9; clear h90 h91 h92 HI HN; have HI := hid hi9; have HN := hid hn9; have h90 := hi9.c.held; have h91 := zco hi9.zb; have h92 := zfo hi9.zb; clear hn9 hi9; dsimp only)))
     all_goals (go_wp2_with fail; go_meet)
     all_goals first
      | exact ⟨_, _, _, rfl, HI.out.more _, je.mk' HN.out⟩
      | exact ⟨_, _, _, rfl, HI.out.set HD.out _, HI.out.put HN.out⟩
    case rest =>
     clear Hcw0
     obtain ⟨BL, aL, cL, rfl, hcw, hnb⟩ := hcut
     have Hcw := hid hcw; have Hnb := hid hnb; clear hcw hnb
     obtain ⟨w5, rfl⟩ : ∃ x, x = wc := ⟨_, rfl⟩
     go_upto_region 8 with fail
     go_cut [12] from 57 to 78 (fun p wx => ∃ (BH : Nat) (aH : Option Addr) (cH : Nat), p = .pointer (some ⟨BH, 0, none⟩) ∧ CW w wx s V st md (u, lo, hi) nb D D ∧ je wx BL aL cL (qY V st.c lo * 2 ^ T1) ∧ je wx BH aH cH (qY V st.c hi * 2 ^ T2))
     case first =>
      have hw0 := Hcw.out.grow (w2 := w5.drew) ((Below.refl _ _).drew)
      have HIA := hid (Hcw.out.alloc.grow (w2 := (w5.alloc (.cells #[.slice none 0 0] 52)).drew) ((Below.refl _ _).drew))
      have HLA := hid ((Hnb.out.more (.cells #[.slice none 0 0] 52)).below (w2 := (w5.alloc (.cells #[.slice none 0 0] 52)).drew) ((Below.refl _ _).drew))
      have HL := hid (Hnb.out.below (w2 := w5.drew) ((Below.refl _ _).drew))
      have h90 := hw0.c.held
      have h91 := zco hw0.zb; have h92 := zfo hw0.zb
      have HI := hid hw0; have HD := HI; have HE := HI; clear hw0
      go_region_held3 (fun w' => w'.cell? ⟨s.ps, 0, none⟩ = some (.pointer (some ⟨s.b.p, 0, none⟩)) ∧ w'.cell? ⟨s.ps, 1, none⟩ = some (.int .i64 V) ∧ w'.cell? ⟨nb, 0, none⟩ = some (.int .i64 u) ∧ w'.cell? ⟨nb, 1, none⟩ = some (.int .i64 lo) ∧ w'.cell? ⟨nb, 2, none⟩ = some (.int .i64 hi))
       (first | exact ⟨h90.c0, h90.c1, h90.b0, h90.b1, h90.b2⟩ | exact ⟨(h90.alloc _).c0, (h90.alloc _).c1, (h90.alloc _).b0, (h90.alloc _).b1, (h90.alloc _).b2⟩ | exact ⟨(HI.out.zfI _).held.c0, (HI.out.zfI _).held.c1, (HI.out.zfI _).held.b0, (HI.out.zfI _).held.b1, (HI.out.zfI _).held.b2⟩ | go_keep)
       (first
        | (go_at_call 57; first | ((with_reducible refine (Hih.out hi _ s st HI.out.c.sp HI.out.c.done Hoff.out Hco.out Hk2.out Hfuel.out.2).mono ?_); rintro e w9 ⟨v9, rfl, hn9, hd9, ho9⟩; obtain ⟨a9, c9, rfl⟩ := hn9.shape; have hl9 := HL.out.zna HI.out.c.done ho9; clear HL; have HL := hid hl9; clear hl9; have hi9 := HI.out.step ho9 hd9; clear hd9 ho9; clear h90 h91 h92 HI; have HI := hid hi9; have HN := hid hn9; have h90 := hi9.c.held; have h91 := zco hi9.zb; have h92 := zfo hi9.zb; clear hn9 hi9) | (have hgap := Hcw.out.gap; clear HD; have HD := hid hgap; clear hgap; have hgap := Hnb.out.lt; clear HE; have HE := hid hgap; clear hgap; clear HI; have HI := HIA; clear HL; have HL := HLA; (with_reducible refine (Hih.out hi _ s st HI.out.c.sp HI.out.c.done Hoff.out Hco.out Hk2.out Hfuel.out.2).mono ?_); rintro e w9 ⟨v9, rfl, hn9, hd9, ho9⟩; obtain ⟨a9, c9, rfl⟩ := hn9.shape; have hl9 := HL.out.zna HI.out.c.done ho9; clear HL; have HL := hid hl9; clear hl9; have hi9 := HI.out.step ho9 hd9; clear hd9 ho9; clear h90 h91 h92 HI; have HI := hid hi9; have HN := hid hn9; have h90 := hi9.c.held; have h91 := zco hi9.zb; have h92 := zfo hi9.zb; clear hn9 hi9))
        | (go_at_call 59; first | ((with_reducible refine (HT2.out _ HI.out.c.sp.ar).mono ?_); rintro e w9 ⟨rfl, hb9⟩; have hl9 := HL.out.below hb9; clear HL; have HL := hid hl9; clear hl9; have hi9 := HI.out.grow hb9; have hn9 := HN.out.below hb9; clear hb9; clear h90 h91 h92 HI HN; have HI := hid hi9; have HN := hid hn9; have h90 := hi9.c.held; have h91 := zco hi9.zb; have h92 := zfo hi9.zb; clear hn9 hi9) | (have hgap := HI.out.gap; clear HD; have HD := hid hgap; clear hgap; have hgap := HL.out.lt; clear HE; have HE := hid hgap; clear hgap; have hi9 := HI.out.alloc; clear HI; have HI := hid hi9; clear hi9; have hn9 := HN.out.below (w' := World.alloc _ (.cells #[.slice none 0 0] 52)) (zba); clear HN; have HN := hid hn9; clear hn9; have hl9 := HL.out.more (.cells #[.slice none 0 0] 52); clear HL; have HL := hid hl9; clear hl9; (with_reducible refine (HT2.out _ HI.out.c.sp.ar).mono ?_); rintro e w9 ⟨rfl, hb9⟩; have hl9 := HL.out.below hb9; clear HL; have HL := hid hl9; clear hl9; have hi9 := HI.out.grow hb9; have hn9 := HN.out.below hb9; clear hb9; clear h90 h91 h92 HI HN; have HI := hid hi9; have HN := hid hn9; have h90 := hi9.c.held; have h91 := zco hi9.zb; have h92 := zfo hi9.zb; clear hn9 hi9))
        | (go_at_call 58; (try rw [znF t2 (V : Int)]); rw [HE2.out]; generalize (if (V : Int) < t2 then (V : Int) else t2) = m2; first | ((with_reducible refine (zak (qY V st.c hi) T2 _ _ HN.out (by omega) HS2.out).mono ?_); rintro e w9 ⟨v9, rfl, hn9, hb9⟩; obtain ⟨a9, c9, rfl⟩ := hn9.shape; have hl9 := HL.out.below hb9; clear HL; have HL := hid hl9; clear hl9; have hi9 := HI.out.grow hb9; clear hb9; clear h90 h91 h92 HI HN; have HI := hid hi9; have HN := hid hn9; have h90 := hi9.c.held; have h91 := zco hi9.zb; have h92 := zfo hi9.zb; clear hn9 hi9; dsimp only) | (have hgap := HI.out.gap; clear HD; have HD := hid hgap; clear hgap; have hgap := HL.out.lt; clear HE; have HE := hid hgap; clear hgap; have hi9 := HI.out.alloc; clear HI; have HI := hid hi9; clear hi9; have hn9 := HN.out.below (w' := World.alloc _ (.cells #[.slice none 0 0] 52)) (zba); clear HN; have HN := hid hn9; clear hn9; have hl9 := HL.out.more (.cells #[.slice none 0 0] 52); clear HL; have HL := hid hl9; clear hl9; (with_reducible refine (zak (qY V st.c hi) T2 _ _ HN.out (by omega) HS2.out).mono ?_); rintro e w9 ⟨v9, rfl, hn9, hb9⟩; obtain ⟨a9, c9, rfl⟩ := hn9.shape; have hl9 := HL.out.below hb9; clear HL; have HL := hid hl9; clear hl9; have hi9 := HI.out.grow hb9; clear hb9; clear h90 h91 h92 HI HN; have HI := hid hi9; have HN := hid hn9; have h90 := hi9.c.held; have h91 := zco hi9.zb; have h92 := zfo hi9.zb; clear hn9 hi9; dsimp only)))
      all_goals (go_wp2_with fail; go_meet)
      all_goals first
       | exact ⟨_, _, _, rfl, HI.out.more _, HL.out.more _, je.mk' HN.out⟩
       | exact ⟨_, _, _, rfl, HI.out.set HD.out _, HL.out.put HI.out (Nat.ne_of_lt HE.out) _, HI.out.put HN.out⟩
     case rest =>
      clear Hcw Hnb
      obtain ⟨BH, aH, cH, rfl, hcw, hl, hh2⟩ := hcut
      have k1 := zco hl.blk; have k2 := zco hh2.blk
      have Hq := hid (zoM (qY V st.c lo * 2 ^ T1) (qY V st.c hi * 2 ^ T2) _ _ _ hl.nat hh2.nat HS1.out HS2.out)
      rw [← Hcx.out] at Hq
      have Hcw := hid hcw; clear hcw hl hh2
      go_wp2_with fail
      refine Hq.out.mono ?_
      rintro e w9 ⟨v9, rfl, hn9, hb9⟩
      obtain ⟨a9, c9, rfl⟩ := hn9.shape
      have hi9 := Hcw.out.grow hb9
      have hi10 := hi9.more (.cells #[.slice a9 (zf (qY V st.c h)).length c9] 52)
      have hn10 := je.mk' hn9
      obtain ⟨mq, hmq, hmv⟩ := hi10.c.done
      have Hi10 := hid hi10; have Hn10 := hid hn10; have Hmq := hid hmq; have Hmv := hid hmv
      clear Hcw Hq hn9 hb9 hi9 hi10 hn10 hmq hmv k1 k2
      go_wp2_with (at_mapUpdate; refine yc rfl (.tmp 82) (.tmp 83) (.tmp 84) 125 rfl (kt := 3) (et := 52) (enc := Value.int .i64) (kC Tryz.underlying3) Tryz.underlying125 (b := md) rfl (l := mq) Hmq.out (k := h) rfl (.agg #[.slice a9 (zf (qY V st.c h)).length c9]) rfl ?_; intro ob hob; have hi11 := CSt.putC Hi10.out.c Hmq.out Hmv.out Hn10.out.nat hob; have hn11 := hi11.2 _ _ _ _ Hn10.out; have k3 := zco hn11.blk; have k4 := zco hi11.1.res; have k5 := zfo hi11.1.res; have k6 := zlb hi11.1.res; have Hi11 := hid hi11.1; have Hn11 := hid hn11; clear hob hi11 hn11 Hi10 Hn10 Hmq Hmv; generalize zB _ md ob = w11 at Hi11 Hn11 k3 k4 k5 k6 ⊢)
      exact bodyPost_ret (v := .agg #[.slice a9 (zf (qY V st.c h)).length c9]) (by simp [results, Tryz.results57, go_sem, k4]) rfl ⟨_, rfl, Hn11.out.nat.xW Hi11.out.res _, Hi11.out.fin _⟩
structure KSt (w wr : World) (s : Sb) (V : Int) (st : Sp) (bx : Nat) (sl : Value) : Prop where
 sp : IsSpace wr s V st
 below : Below w.heap.size w wr
 old : s.ps < w.heap.size
 res : wr.heap[w.heap.size]? = some (.cells #[.slice none 0 0] 52 (0, 0))
 box : wr.heap[bx]? = some (.cells #[sl] 52 (0, 0))
 lt : w.heap.size < bx
section
variable {w wr w2 : World} {s : Sb} {V : Int} {st : Sp} {bx : Nat} {sl : Value}
theorem KSt.grow (h : KSt w wr s V st bx sl) (hb : Below wr.heap.size wr w2) : KSt w w2 s V st bx sl :=
 ⟨h.sp.below hb, h.below.trans (hb.mono h.below.size), h.old, (hb.block _ (zlb h.res)).trans h.res, (hb.block _ (zlb h.box)).trans h.box, h.lt⟩
theorem KSt.cells (h : KSt w wr s V st bx sl) : wr.cell? ⟨s.ps, 0, none⟩ = some (.pointer (some ⟨s.b.p, 0, none⟩)) ∧ wr.cell? ⟨s.ps, 1, none⟩ = some (.int .i64 V) ∧ wr.cell? ⟨bx, 0, none⟩ = some sl := ⟨h.sp.s0, h.sp.s1, zco h.box⟩
theorem KSt.yA (h : KSt w wr s V st bx sl) (u : Value) : (wr.setCell ⟨w.heap.size, 0, none⟩ u).cell? ⟨s.ps, 0, none⟩ = some (.pointer (some ⟨s.b.p, 0, none⟩)) ∧ (wr.setCell ⟨w.heap.size, 0, none⟩ u).cell? ⟨s.ps, 1, none⟩ = some (.int .i64 V) ∧ (wr.setCell ⟨w.heap.size, 0, none⟩ u).cell? ⟨bx, 0, none⟩ = some sl := by
 have l1 := h.old; have l2 := h.lt
 refine ⟨?_, ?_, ?_⟩
 · rw [World.cell?_setCell_far _ _ _ _ (by dsimp only; omega)]; exact h.cells.1
 · rw [World.cell?_setCell_far _ _ _ _ (by dsimp only; omega)]; exact h.cells.2.1
 · rw [World.cell?_setCell_far _ _ _ _ (by dsimp only; omega)]; exact h.cells.2.2
end
set_option maxRecDepth 100000 in
set_option maxHeartbeats 8000000 in
theorem zgr (V : Nat) (hV : V ≤ 24) (h : Int) (w : World) (s : Sb) (st : Sp) (hs : IsSpace w s V st) (co : COk V st.c) (hh : zD st.c h = true) :
 Calls Tryz.prog 20 #[.pointer (some ⟨s.ps, 0, none⟩), .int .i64 h] w fun e w' => ∃ v, e = .returned (.tuple #[v, .nilIface]) ∧ zW w' v (qZ V V (den st.c h) (fun _ => false)) ∧ Below w.heap.size w w' := by
 have hmm := @run_makeMap Tryz.prog
 have hlen := hs.ar.len
 have hR := hs.ar.room.2
 have lh : h ≤ 9223372036854775807 := by have := xE hh; omega
 have c0 := hs.s0
 have lps := hs.lps
 have hsum := zkG hV co hh (fun _ => false)
 obtain ⟨N, eN⟩ : ∃ N, N = qZ V V (den st.c h) (fun _ => false) := ⟨_, rfl⟩
 rw [← eN] at hsum ⊢
 have hN : N ≤ 2 ^ 24 := by rw [eN]; exact Nat.le_trans (zeN _ _ _) (Nat.pow_le_pow_right (by decide) hV)
 have hsh := zkr hN
 have t0 := co.ok.xC h
 obtain ⟨T, eT⟩ : ∃ T : Nat, T = (xX V st.c h).toNat := ⟨_, rfl⟩
 rw [← eT] at hsum
 have hmin : (if (V : Int) < zm st.c h then (V : Int) else zm st.c h) = (T : Int) := by rw [eT]; unfold xX; split <;> omega
 have hT : T ≤ 24 := by rw [eT]; unfold xX; omega
 have hb0 : Below w.heap.size w (w.alloc (.cells #[.slice none 0 0] 52)) := zba
 have hha := yR h _ s.b st.c (hs.ar.below hb0) lh
 rw [hh] at hha
 have hb1 : Below w.heap.size w ((w.alloc (.cells #[.slice none 0 0] 52)).alloc (.map #[] 0)) := hb0.alloc (by simp) _
 have hm0 : MapOf ((w.alloc (.cells #[.slice none 0 0] 52)).alloc (.map #[] 0)) (w.heap.size + 1) (Value.int .i64) ([] : List (Int × Value)) := by
  have := zcj (w.alloc (.cells #[.slice none 0 0] 52)) (Value.int .i64)
  simpa using this
 have hct := zgp V hV (w.heap.size + 1) 25 h _ s st (hs.below hb1) ⟨[], hm0, fun k v e => by cases e⟩ ⟨fun hk => by have := hs.lt hk; omega, by omega⟩ co hh (by omega)
 have htop := fun w' (ha : zH w' s.b st.c) => jA h w' s.b st.c ha lh
 generalize zm st.c h = t1 at hmin htop t0
 have Hha := hid hha; have Hct := hid hct; have Hsum := hid hsum; have Hsh := hid hsh; have Hmin := hid hmin; have Hs := hid hs; have Htop := hid htop; have Hb1 := hid hb1
 clear hha hct hsum hsh hmin hs hlen hR co hh hb0 hb1 hm0 eN eT hN htop t0
 go_enter Tryz.func20, Tryz.ntmps20
 go_wp2_with fail
 refine Hha.out.mono ?_
 rintro e w' ⟨rfl, rfl⟩
 go_wp2_with fail
 refine Hct.out.mono ?_
 rintro e w1 ⟨v1, rfl, hn1, hdd, ho1⟩
 clear hdd
 obtain ⟨a1, c1, rfl⟩ := hn1.shape
 have hbw : Below w.heap.size w w1 := Hb1.out.trans (ho1.below Hb1.out.size (fun k hk => by have e' : k = w.heap.size + 1 := hk; omega))
 have hres : w1.heap[w.heap.size]? = some (.cells #[.slice none 0 0] 52 (0, 0)) := (ho1.block _ (by simp; omega) (fun e => by have e' : w.heap.size = w.heap.size + 1 := e; omega)).trans (zh (za rfl))
 have hk : KSt w (w1.alloc (.cells #[.slice a1 (zf (qY V st.c h)).length c1] 52)) s V st w1.heap.size (.slice a1 (zf (qY V st.c h)).length c1) :=
  ⟨(Hs.out.below hbw).below (zba), hbw.alloc hbw.size _, lps, zh hres, za rfl, zlb hres⟩
 have hn := hn1.below (w' := w1.alloc (.cells #[.slice a1 (zf (qY V st.c h)).length c1] 52)) (zba)
 have Hk := hid hk; have Hn := hid hn
 clear hk hn hn1 ho1 hbw hres Hct Hha Hs Hb1 c0
 go_upto_region 4 with fail
 generalize w1.alloc (.cells #[.slice a1 (zf (qY V st.c h)).length c1] 52) = w2 at Hk Hn ⊢
 generalize w1.heap.size = bx at Hk ⊢
 clear w1
 have hk0 := Hk.out.grow (w2 := w2.drew) ((Below.refl _ _).drew)
 have h90 := hk0.cells
 have h91 := zco hk0.res; have h92 := zfo hk0.res
 have HI := hid hk0; have HN := hid (Hn.out.below (w' := w2.drew) ((Below.refl _ _).drew)); clear hk0 Hk Hn
 go_region_held3 (fun w' => w'.cell? ⟨s.ps, 0, none⟩ = some (.pointer (some ⟨s.b.p, 0, none⟩)) ∧ w'.cell? ⟨s.ps, 1, none⟩ = some (.int .i64 V) ∧ w'.cell? ⟨bx, 0, none⟩ = some (.slice a1 (zf (qY V st.c h)).length c1))
  (first | exact h90 | exact HI.out.yA _ | go_keep)
  (first
   | (go_at_call 59; (with_reducible refine (Htop.out _ HI.out.sp.ar).mono ?_); rintro e w9 ⟨rfl, hb9⟩; have hi9 := HI.out.grow hb9; have hn9 := HN.out.below hb9; clear h90 h91 h92 HI HN hb9; have HI := hid hi9; have HN := hid hn9; have h90 := hi9.cells; have h91 := zco hi9.res; have h92 := zfo hi9.res; clear hi9 hn9)
   | (go_at_call 58; (try rw [znF t1 (V : Int)]); rw [Hmin.out]; (with_reducible refine (zak (qY V st.c h) T _ _ HN.out (by omega) (by rw [Hsum.out]; exact Hsh.out)).mono ?_); rintro e w9 ⟨v9, rfl, hn9, hb9⟩; obtain ⟨a9, c9, rfl⟩ := hn9.shape; have hi9 := HI.out.grow hb9; clear h90 h91 h92 HI HN hb9; have HI := hid hi9; have HN := hid hn9; have h90 := hi9.cells; have h91 := zco hi9.res; have h92 := zfo hi9.res; have h93 := zlb hi9.res; clear hi9 hn9; dsimp only))
 all_goals (go_wp2_with fail)
 all_goals (have hnn := HN.out; rw [Hsum.out] at hnn)
 all_goals exact bodyPost_ret (v := .tuple #[.agg #[.slice a9 (zf (qY V st.c h * 2 ^ T)).length c9], .nilIface]) (by simp [results, Tryz.results20, go_sem, h91]) rfl ⟨_, rfl, by rw [Hsum.out]; exact hnn.xW HI.out.res _, HI.out.below.setCell (by simp) _⟩
def zbf (d : Nat) : List Nat → List Nat × Nat
 | [] => ([], 0)
 | x :: xs => (((zbf d xs).2 * B32 + x) / d :: (zbf d xs).1, ((zbf d xs).2 * B32 + x) % d)
theorem ze8 {d : Nat} {xs : List Nat} {j : Nat} (hj : j < xs.length) : zbf d (xs.drop j) = (((zbf d (xs.drop (j + 1))).2 * B32 + xs[j]) / d :: (zbf d (xs.drop (j + 1))).1, ((zbf d (xs.drop (j + 1))).2 * B32 + xs[j]) % d) := by
 rw [List.drop_eq_getElem_cons hj]; rfl
structure ShI (W wr : World) (g : Nat) (outs xs : List Nat) (d k r : Nat) : Prop where
 mem : zex W wr g outs
 len : outs.length = xs.length
 at_ : outs.drop k = (zbf d (xs.drop k)).1
 rest : r = (zbf d (xs.drop k)).2
theorem ShI.next {W wr w2 : World} {g : Nat} {outs xs : List Nat} {d j r : Nat} (h : ShI W wr g outs xs d (j + 1) r) (hj : j < xs.length) (hw : zex W w2 g (outs.set j ((r * B32 + xs[j]) / d))) : ShI W w2 g (outs.set j ((r * B32 + xs[j]) / d)) xs d j ((r * B32 + xs[j]) % d) := by
 have hl := h.len
 refine ⟨hw, by simp [hl], ?_, ?_⟩
 ·
  rw [ze8 hj, ← h.rest, ← h.at_, List.drop_eq_getElem_cons (by simp; omega), List.drop_set_of_lt (by omega)]
  simp
 · rw [ze8 hj, ← h.rest]
def zaC (w : World) (g cap n : Nat) (f : Nat → Nat) : Prop := ∃ cur : Array Value, w.heap[g]? = some (.cells cur 5 (0, 0)) ∧ n ≤ cap ∧ cur.size = cap ∧ ∀ k, k < n → cur[k]? = some (.int .u8 (f k : Nat))
theorem zaC.cell {w : World} {g cap n : Nat} {f : Nat → Nat} (h : zaC w g cap n f) {k : Nat} (hk : k < n) : w.cell? ⟨g, k, none⟩ = some (.int .u8 (f k : Nat)) := by
 obtain ⟨cur, h1, _, _, h2⟩ := h; rw [cell_of_row w g k cur _ _ h1]; exact h2 k hk
theorem zaC.free {w : World} {g cap n : Nat} {f : Nat → Nat} (h : zaC w g cap n f) (k : Nat) : w.frozen? ⟨g, k, none⟩ = false := by
 obtain ⟨cur, h1, _⟩ := h; simp [World.frozen?, h1]
theorem zaC.lt {w : World} {g cap n : Nat} {f : Nat → Nat} (h : zaC w g cap n f) : g < w.heap.size := by
 obtain ⟨cur, h1, _⟩ := h; exact (Array.getElem?_eq_some_iff.1 h1).1
theorem zaC.drew {w : World} {g cap n : Nat} {f : Nat → Nat} (h : zaC w g cap n f) (m : Nat) : zaC (w.drewN m) g cap n f := h
theorem zaC.less {w : World} {g cap n m : Nat} {f : Nat → Nat} (h : zaC w g cap n f) (hm : m ≤ n) : zaC w g cap m f := by
 obtain ⟨cur, h1, h2, h3, h4⟩ := h; exact ⟨cur, h1, by omega, h3, fun k hk => h4 k (by omega)⟩
theorem zaC.keep {w w' : World} {g cap n : Nat} {f : Nat → Nat} (h : zaC w g cap n f) (hb : w'.heap[g]? = w.heap[g]?) : zaC w' g cap n f := by
 obtain ⟨cur, h1, h2⟩ := h; exact ⟨cur, hb.trans h1, h2⟩
theorem zaC.set {w : World} {g cap n : Nat} {f : Nat → Nat} (h : zaC w g cap n f) (j v : Nat) : zaC (w.setCell ⟨g, j, none⟩ (.int .u8 (v : Nat))) g cap n (fun k => if k = j then v else f k) := by
 obtain ⟨cur, h1, h2, h3, h4⟩ := h
 have hlt := (Array.getElem?_eq_some_iff.1 h1).1
 have h' : w.heap[g] = .cells cur 5 (0, 0) := (Array.getElem?_eq_some_iff.1 h1).2
 refine ⟨cur.setIfInBounds j (.int .u8 (v : Nat)), ?_, h2, by simp [h3], fun k hk => ?_⟩
 ·
  show (w.heap.modify g _)[g]? = _
  rw [Array.getElem?_eq_getElem (by simpa using hlt), Array.getElem_modify_self, h']
  rfl
 ·
  dsimp only
  by_cases e : k = j
  ·
   subst e
   rw [Array.getElem?_setIfInBounds_self_of_lt (by omega), if_pos rfl]
  · rw [Array.getElem?_setIfInBounds_ne (fun e2 => e e2.symm), if_neg e]; exact h4 k hk
theorem zaC.same {w : World} {g cap n : Nat} {f f' : Nat → Nat} (h : zaC w g cap n f) (e : ∀ k, k < n → f k = f' k) : zaC w g cap n f' := by
 obtain ⟨cur, h1, h2, h3, h4⟩ := h; exact ⟨cur, h1, h2, h3, fun k hk => by rw [← e k hk]; exact h4 k hk⟩
def d9 : Nat → Nat → List Nat
 | 0, _ => []
 | k + 1, r => (48 + r % 10) :: d9 k (r / 10)
def chunks (n : Nat) : List Nat := if h : n = 0 then [] else d9 9 (n % 1000000000) ++ chunks (n / 1000000000)
termination_by n
decreasing_by exact Nat.div_lt_self (Nat.pos_of_ne_zero h) (by decide)
theorem zjg {n : Nat} (h : n ≠ 0) : chunks n = d9 9 (n % 1000000000) ++ chunks (n / 1000000000) := by rw [chunks]; simp [h]
def zhn (l : List Nat) : List Value := l.map fun x : Nat => Value.int .u8 (x : Int)
structure ziF (w : World) (vl : Value) (m : Nat) (vo : Value) : Prop where
 lim : zS w vl (zf m)
 off : ∀ b, vl.ownBlock = some b → vo.ownBlock ≠ some b ∧ b < w.heap.size
theorem ziF.grown {w w' : World} {vl vo v' : Value} {m : Nat} (h : ziF w vl m vo) (hg : w.grownBy w' vo.ownBlock) (hv : v'.ownBlock = vo.ownBlock ∨ v'.ownBlock = some w.heap.size) : ziF w' vl m v' := by
 refine ⟨?_, fun b hb => ?_⟩
 ·
  obtain ⟨a, b, o, c, h1, h2, h3, h4, h5, h6, h7⟩ := h.lim
  refine ⟨a, b, o, c, h1, h2, h3, h4, fun i hi => ?_, fun hne => Nat.lt_of_lt_of_le (h6 hne) hg.size, h7⟩
  have hne : zf m ≠ [] := by intro e; rw [e] at hi; simp at hi
  have hb : vl.ownBlock = some b := by rw [h1, h2 hne]; rfl
  rw [World.cell?_of_block (w := w) (hg.block b (h6 hne) (fun e => (h.off b hb).1 e.symm))]
  exact h5 i hi
 ·
  have h1 := h.off b hb
  refine ⟨?_, Nat.lt_of_lt_of_le h1.2 hg.size⟩
  rcases hv with e | e
  · rw [e]; exact h1.1
  · rw [e]; intro e2; have := Option.some.inj e2; omega
theorem ziF.below {w w' : World} {vl vo : Value} {m : Nat} (h : ziF w vl m vo) (hb : Below w.heap.size w w') : ziF w' vl m vo :=
 ⟨h.lim.below hb, fun b hb2 => ⟨(h.off b hb2).1, Nat.lt_of_lt_of_le (h.off b hb2).2 hb.size⟩⟩
theorem zhK (n : Nat) (va : Value) (w : World) (ha : zW w va n) :
 Calls Tryz.prog 23 #[va] w fun e w' => e = .returned (.bool (n == 0)) ∧ Below w.heap.size w w' := by
 obtain ⟨a, c, rfl⟩ := ha.shape
 have hz : (((zf n).length : Int) == 0) = (n == 0) := by
  by_cases e : n = 0
  · subst e; rw [xJ]; rfl
  ·
   have h1 : zf n ≠ [] := fun h => e (zgo h)
   have h2 : (zf n).length ≠ 0 := fun h => h1 (List.eq_nil_of_length_eq_zero h)
   rw [show (n == 0) = false by simpa using e]
   simp; omega
 have Hz := hid hz; clear hz
 go_enter Tryz.func23, Tryz.ntmps23
 go_wp2_with fail
 go_ret
 rw [← Hz.out]
 exact ⟨rfl, zba⟩
structure TxI (W wr : World) (vo vl : Value) (n m : Nat) (outs : List Nat) : Prop where
 below : Below W.heap.size W wr
 own : wr.ownsRow W.heap.size 5 1 vo outs.length (zhn outs)
 off : ziF wr vl m vo
 val : outs ++ chunks m = chunks n
structure TxJ (W wr : World) (vo vl : Value) (n m r c : Nat) (outs : List Nat) : Prop where
 below : Below W.heap.size W wr
 own : wr.ownsRow W.heap.size 5 1 vo outs.length (zhn outs)
 off : ziF wr vl m vo
 val : outs ++ (d9 (9 - c) r ++ chunks m) = chunks n
theorem TxJ.push {W wr w2 : World} {vo vl v' : Value} {n m r c : Nat} {outs : List Nat} (h : TxJ W wr vo vl n m r c outs) (hc : c < 9)
 (ho : w2.ownsRow W.heap.size 5 1 v' (outs.length + 1) (zhn outs ++ [.int .u8 ((48 + r % 10 : Nat) : Int)])) (hg : (wr.alloc (.cells #[.int .u8 ((48 + r % 10 : Nat) : Int)] 5)).grownBy w2 vo.ownBlock)
 (hv : v'.ownBlock = vo.ownBlock ∨ v'.ownBlock = some (wr.alloc (.cells #[.int .u8 ((48 + r % 10 : Nat) : Int)] 5)).heap.size) : TxJ W w2 v' vl n m (r / 10) (c + 1) (outs ++ [48 + r % 10]) := by
 have hw := h.below.size
 have hb1 : Below wr.heap.size wr (wr.alloc (.cells #[.int .u8 ((48 + r % 10 : Nat) : Int)] 5)) := zba
 have hvb : ∀ j, vo.ownBlock = some j → W.heap.size ≤ j := fun j hj => (h.own.lt j hj).1
 have hb : Below W.heap.size (wr.alloc (.cells #[.int .u8 ((48 + r % 10 : Nat) : Int)] 5)) w2 := (Below.refl _ _).grown hg (by simp; omega) hvb
 refine ⟨(h.below.alloc hw _).trans hb, by simpa [zhn] using ho, (h.off.below hb1).grown hg hv, ?_⟩
 have h1 := h.val
 rw [show 9 - c = (9 - (c + 1)) + 1 by omega, d9] at h1
 rw [List.append_assoc]; exact h1
theorem TxI.start {W wr w2 w3 : World} {vo vl vl2 : Value} {n m : Nat} {outs : List Nat} (h : TxI W wr vo vl n m outs) (hm : m ≠ 0) (hb2 : Below wr.heap.size wr w2) (hb3 : Below w2.heap.size w2 w3) {g k c : Nat} (hg : g = wr.heap.size) (he : vl2 = .slice (some ⟨g, 0, none⟩) k c) (hl : zS w3 vl2 (zf (m / 1000000000))) (hw : wr.heap.size < w2.heap.size) :
 TxJ W w3 vo vl2 n (m / 1000000000) (m % 1000000000) 0 outs := by
 have hb : Below wr.heap.size wr w3 := hb2.trans (hb3.mono hb2.size)
 have hs3 := hb3.size
 refine ⟨h.below.trans (hb.mono h.below.size), ownsRow_below h.own hb, ⟨hl, fun b hbb => ?_⟩, ?_⟩
 ·
  rw [he] at hbb
  have hbg : b = g := (Option.some.inj hbb).symm
  refine ⟨fun e => ?_, by omega⟩
  have := (h.own.lt b e).2
  omega
 · rw [← h.val, zjg hm]
theorem TxJ.stop {W wr : World} {vo vl : Value} {n m r : Nat} {outs : List Nat} (h : TxJ W wr vo vl n m r 9 outs) : TxI W wr vo vl n m outs := ⟨h.below, h.own, h.off, h.val⟩
