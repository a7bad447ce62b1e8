/- Contract: (*bdd.Space).counts. -/
import Derived.Test.YthmflcmbaldflaaGreatDoorCntM
import Derived.Test.YthmflcmbaldflaaGreatDoorNBox
import Derived.Test.YthmflcmbaldflaaGreatDoorNatDbl
import Derived.Test.YthmflcmbaldflaaGreatDoorNatAdd
import Derived.Test.YthmflcmbaldflaaGreatDoorIpF
import Derived.Deep.RegionHeld3
import Derived.Deep.CutBlock
namespace Go.Proofs.YthmflcmbaldflaaGreatDoor
open Go.RowKit
set_option linter.unusedVariables false

/-- What was counted is kept in a map. -/
def NMap (w : World) (md : Nat) (V : Int) (c : Cells) : Prop := ∃ mq : List (Int × Value), MapOf w md (Value.int .i64) mq ∧ ∀ k v, assoc mq k = some v → IsNat w v (cntX V c k)
theorem NMap.lt {w : World} {md : Nat} {V : Int} {c : Cells} (h : NMap w md V c) : md < w.heap.size := by obtain ⟨mq, h1, _⟩ := h; exact h1.lt
theorem NMap.below {w w' : World} {md : Nat} {V : Int} {c : Cells} (h : NMap w md V c) (hb : Below w.heap.size w w') : NMap w' md V c := by
  obtain ⟨mq, h1, h2⟩ := h; exact ⟨mq, h1.block_eq (hb.block _ h1.lt), fun k v e => (h2 k v e).below hb⟩
theorem IsNat.nmap {w w' : World} {v : Value} {n md : Nat} {V : Int} {c : Cells} (h : IsNat w v n) (hm : NMap w md V c) (ho : Only (· = md) w w') : IsNat w' v n := by
  obtain ⟨mq, h1, _⟩ := hm; exact h.mapOnly h1 ho

theorem NBox.nmap {wr w2 : World} {B : Nat} {a : Option Addr} {c n md : Nat} {V : Int} {cs : Cells} (h : NBox wr B a c n) (hm : NMap wr md V cs) (ho : Only (· = md) wr w2) : NBox w2 B a c n := by
  refine ⟨(ho.block _ (lt_of_block h.blk) (fun e => ?_)).trans h.blk, h.nat.nmap hm ho⟩
  obtain ⟨mq, ⟨es, cl, hb, _⟩, _⟩ := hm
  have := h.blk
  rw [e, hb] at this; cases this

/-- counts on its way. -/
structure CSt (w wr : World) (s : Sb) (V : Int) (st : Sp) (md : Nat) (n : Nd) (nb : Nat) : Prop where
  sp : IsSpace wr s V st
  done : NMap wr md V st.c
  only : Only (· = md) w wr
  off : md < w.heap.size ∧ ¬ s.mem md ∧ s.ps ≠ md
  old : s.ps < w.heap.size ∧ ∀ k, s.mem k → k < w.heap.size
  nb1 : w.heap.size < nb ∧ nb < wr.heap.size
  b0 : wr.cell? ⟨nb, 0, none⟩ = some (.int .i64 n.1)
  b1 : wr.cell? ⟨nb, 1, none⟩ = some (.int .i64 n.2.1)
  b2 : wr.cell? ⟨nb, 2, none⟩ = some (.int .i64 n.2.2)
  res : wr.heap[w.heap.size]? = some (.cells #[.slice none 0 0] 43 (0, 0))
section
variable {w wr w2 : World} {s : Sb} {V : Int} {st : Sp} {md : Nat} {n : Nd} {nb : Nat}
theorem CSt.grow (h : CSt w wr s V st md n nb) (hb : Below wr.heap.size wr w2) : CSt w w2 s V st md n nb :=
  ⟨h.sp.below hb, h.done.below hb, h.only.trans (Only.of_below hb rfl), h.off, h.old, ⟨h.nb1.1, Nat.lt_of_lt_of_le h.nb1.2 hb.size⟩, (hb.cell h.nb1.2).trans h.b0, (hb.cell h.nb1.2).trans h.b1, (hb.cell h.nb1.2).trans h.b2, (hb.block _ (lt_of_block h.res)).trans h.res⟩
theorem CSt.step (h : CSt w wr s V st md n nb) (ho : Only (· = md) wr w2) (hd : NMap w2 md V st.c) : CSt w w2 s V st md n nb := by
  have hn : nb ≠ md := by have := h.off.1; have := h.nb1.1; omega
  have hr : w.heap.size ≠ md := by have := h.off.1; omega
  exact ⟨h.sp.only ho h.off.2.2 (fun k hk e => h.off.2.1 (e ▸ hk)), hd, h.only.trans ho, h.off, h.old, ⟨h.nb1.1, Nat.lt_of_lt_of_le h.nb1.2 ho.size⟩, (ho.cell h.nb1.2 hn).trans h.b0, (ho.cell h.nb1.2 hn).trans h.b1, (ho.cell h.nb1.2 hn).trans h.b2, (ho.block _ (lt_of_block h.res) hr).trans h.res⟩
/-- The world in which a region's calls stand. -/
structure CHeld (w' : World) (s : Sb) (V : Int) (n : Nd) (nb : Nat) : Prop where
  c0 : w'.cell? ⟨s.ps, 0, none⟩ = some (.pointer (some ⟨s.b.p, 0, none⟩))
  c1 : w'.cell? ⟨s.ps, 1, none⟩ = some (.int .i64 V)
  b0 : w'.cell? ⟨nb, 0, none⟩ = some (.int .i64 n.1)
  b1 : w'.cell? ⟨nb, 1, none⟩ = some (.int .i64 n.2.1)
  b2 : w'.cell? ⟨nb, 2, none⟩ = some (.int .i64 n.2.2)
theorem CHeld.alloc {w' : World} (h : CHeld w' s V n nb) (o : Obj) : CHeld (w'.alloc o) s V n nb := by
  have k : ∀ {p : Addr} {v : Value}, w'.cell? p = some v → (w'.alloc o).cell? p = some v := fun {p v} e => (World.cell?_alloc_some _ _ _ (by rw [e]; rfl)).trans e
  exact ⟨k h.c0, k h.c1, k h.b0, k h.b1, k h.b2⟩
theorem CSt.held (h : CSt w wr s V st md n nb) : CHeld wr s V n nb := ⟨h.sp.s0, h.sp.s1, h.b0, h.b1, h.b2⟩
end
/-- counts on its way, with boxes that are 0: one that was there, one that was made last. -/
structure CW (w wr : World) (s : Sb) (V : Int) (st : Sp) (md : Nat) (n : Nd) (nb D B : Nat) : Prop where
  c : CSt w wr s V st md n nb
  zb : wr.heap[B]? = some (.cells #[.slice none 0 0] 43 (0, 0))
  zd : wr.heap[D]? = some (.cells #[.slice none 0 0] 43 (0, 0))
  lt : nb < D ∧ D ≤ B
section
variable {w wr w2 : World} {s : Sb} {V : Int} {st : Sp} {md : Nat} {n : Nd} {nb D B : Nat}
theorem CW.grow (h : CW w wr s V st md n nb D B) (hb : Below wr.heap.size wr w2) : CW w w2 s V st md n nb D B := ⟨h.c.grow hb, (hb.block _ (lt_of_block h.zb)).trans h.zb, (hb.block _ (lt_of_block h.zd)).trans h.zd, h.lt⟩
theorem CW.step (h : CW w wr s V st md n nb D B) (ho : Only (· = md) wr w2) (hd : NMap w2 md V st.c) : CW w w2 s V st md n nb D B := by
  have l0 := h.c.off.1; have l1 := h.c.nb1.1; have l2 := h.lt
  exact ⟨h.c.step ho hd, (ho.block _ (lt_of_block h.zb) (fun e => by have e' : B = md := e; omega)).trans h.zb, (ho.block _ (lt_of_block h.zd) (fun e => by have e' : D = md := e; omega)).trans h.zd, h.lt⟩
theorem CW.alloc (h : CW w wr s V st md n nb D B) : CW w (wr.alloc (.cells #[.slice none 0 0] 43)) s V st md n nb D wr.heap.size :=
  ⟨h.c.grow ((Below.refl _ _).alloc (Nat.le_refl _) _), heap_at rfl, heap_up h.zd, h.lt.1, Nat.le_of_lt (lt_of_block h.zd)⟩
theorem CW.gap (h : CW w wr s V st md n nb D B) : D < wr.heap.size := lt_of_block h.zd
theorem CW.back (h : CW w wr s V st md n nb D B) : CW w wr s V st md n nb D D := ⟨h.c, h.zd, h.zd, h.lt.1, Nat.le_refl _⟩
theorem NMap.setRes {wr : World} {md : Nat} {V : Int} {c : Cells} {R : Nat} (h : NMap wr md V c) (hR : wr.heap[R]? = some (.cells #[.slice none 0 0] 43 (0, 0))) (u : Value) : NMap (wr.setCell ⟨R, 0, none⟩ u) md V c := by
  obtain ⟨mq, h1, h2⟩ := h
  have hn : md ≠ R := fun e => by
    subst e
    obtain ⟨es, cl, hb, _⟩ := h1
    rw [hb] at hR; cases hR
  exact ⟨mq, h1.block_eq (Below.heap_setCell _ _ _ _ hn), fun k v e => (h2 k v e).setRes hR u⟩
theorem CW.setC (h : CW w wr s V st md n nb D B) (u : Value) : CSt w (wr.setCell ⟨B, 0, none⟩ u) s V st md n nb := by
  have l1 := h.c.nb1; have l2 := h.lt; have l3 := h.c.old
  have hb : ∀ k, k ≠ B → (wr.setCell ⟨B, 0, none⟩ u).heap[k]? = wr.heap[k]? := fun k hk => Below.heap_setCell _ _ _ _ hk
  have ho : Only (· = B) wr (wr.setCell ⟨B, 0, none⟩ u) := ⟨rfl, rfl, rfl, by simp, fun k _ hk => hb k hk⟩
  have hc : ∀ j, (wr.setCell ⟨B, 0, none⟩ u).cell? ⟨nb, j, none⟩ = wr.cell? ⟨nb, j, none⟩ := fun j => ho.cell l1.2 (fun e => by have e' : nb = B := e; omega)
  refine ⟨h.c.sp.only ho (fun e => by have e' : s.ps = B := e; omega) (fun k hk e => by have := l3.2 k hk; have e' : k = B := e; omega), h.c.done.setRes h.zb u, ?_, h.c.off, h.c.old, ⟨l1.1, by simpa using l1.2⟩, (hc 0).trans h.c.b0, (hc 1).trans h.c.b1, (hc 2).trans h.c.b2, (hb _ (by omega)).trans h.c.res⟩
  exact ⟨h.c.only.os, h.c.only.tape, h.c.only.output, by simpa using h.c.only.size, fun k hk hn => (hb k (by omega)).trans (h.c.only.block k hk hn)⟩
theorem CW.set (h : CW w wr s V st md n nb D B) (hD : D < B) (u : Value) : CW w (wr.setCell ⟨B, 0, none⟩ u) s V st md n nb D D :=
  have e := (Below.heap_setCell wr ⟨B, 0, none⟩ u D (by simp; omega)).trans h.zd
  ⟨h.setC u, e, e, h.lt.1, Nat.le_refl _⟩
theorem CW.put (h : CW w wr s V st md n nb D B) {a : Option Addr} {c k : Nat} (hn : IsNat wr (.agg #[.slice a (limbsOf k).length c]) k) : NBox (wr.setCell ⟨B, 0, none⟩ (.slice a (limbsOf k).length c)) B a c k := ⟨one_setCell h.zb, hn.setRes h.zb _⟩
theorem NBox.put {b : Option Addr} {d j : Nat} {E : Nat} (h : NBox wr E b d j) (hw : CW w wr s V st md n nb D B) (hne : E ≠ B) (u : Value) : NBox (wr.setCell ⟨B, 0, none⟩ u) E b d j := ⟨(Below.heap_setCell _ _ _ _ hne).trans h.blk, h.nat.setRes hw.zb _⟩
theorem CW.more (h : CW w wr s V st md n nb D B) (o : Obj) : CW w (wr.alloc o) s V st md n nb D D := (h.grow ((Below.refl _ _).alloc (Nat.le_refl _) _)).back
end
theorem CSt.putC {w wr : World} {s : Sb} {V : Int} {st : Sp} {md : Nat} {n : Nd} {nb : Nat} (h : CSt w wr s V st md n nb) {mq : List (Int × Value)} (hm : MapOf wr md (Value.int .i64) mq) (hmv : ∀ k v, assoc mq k = some v → IsNat wr v (cntX V st.c k)) {k : Int} {v : Value} (hn : IsNat wr v (cntX V st.c k)) {o : Obj} (ho : MapOf (setObjW wr md o) md (Value.int .i64) (putAssoc mq k v)) :
    CSt w (setObjW wr md o) s V st md n nb ∧ ∀ (E : Nat) (b : Option Addr) (d j : Nat), NBox wr E b d j → NBox (setObjW wr md o) E b d j := by
  have hon : Only (· = md) wr (setObjW wr md o) := ⟨rfl, rfl, rfl, by simp [setObjW], fun k _ hk => setObjW_other o hk⟩
  have hd : NMap (setObjW wr md o) md V st.c := ⟨_, ho, fun k' v' e => by
    rw [assoc_put] at e
    split at e
    · rename_i e2; subst e2; cases e; exact hn.mapOnly hm hon
    · exact (hmv k' v' e).mapOnly hm hon⟩
  exact ⟨h.step hon hd, fun E b d j hb => hb.nmap h.done hon⟩
theorem CSt.fin {w wr : World} {s : Sb} {V : Int} {st : Sp} {md : Nat} {n : Nd} {nb : Nat} (h : CSt w wr s V st md n nb) (u : Value) : NMap (wr.setCell ⟨w.heap.size, 0, none⟩ u) md V st.c ∧ Only (· = md) w (wr.setCell ⟨w.heap.size, 0, none⟩ u) :=
  ⟨h.done.setRes h.res u, h.only.os, h.only.tape, h.only.output, by simpa using h.only.size, fun k hk hn => (Below.heap_setCell _ _ _ _ (by simp; omega)).trans (h.only.block k hk hn)⟩
theorem minIf (a b : Int) : min a b = if b < a then b else a := by split <;> omega
/-- The exponent of a way, and what the walk sees of it. -/
theorem exp_facts {V : Nat} {st : Sp} {h u : Int} (hV : V ≤ 24) (co : COk V st.c) (hh : hasM st.c h = true) (u0 : 0 ≤ u) (ht : u < topM st.c h) (huV : u < V) :
    ∃ T : Nat, T ≤ 24 ∧ (cutT V st.c h - u - 1).toNat = T ∧ (limbsOf (cntX V st.c h * 2 ^ T)).length ≤ 1000000 ∧
      IntKind.i64.wrap (IntKind.i64.wrap ((if (V : Int) < topM st.c h then (V : Int) else topM st.c h) - u) - 1) = (T : Int) := by
  have hb := cnt_bound hV co hh
  have h24 := (co.ok.top_pos h).2
  have e : (if (V : Int) < topM st.c h then (V : Int) else topM st.c h) = cutT V st.c h := by unfold cutT; split <;> omega
  rw [e]
  refine ⟨(cutT V st.c h - u - 1).toNat, ?_, rfl, short24 (Nat.le_trans (Nat.mul_le_mul_left _ (Nat.pow_le_pow_right (by decide) ?_)) hb), ?_⟩
  · unfold cutT; omega
  · unfold cutT; omega
  · rw [IntWalk.i64_in (cutT V st.c h - u) (by unfold cutT; omega), IntWalk.i64_in _ (by unfold cutT; omega)]; unfold cutT; omega
set_option maxRecDepth 100000 in
set_option maxHeartbeats 16000000 in
theorem counts_in (V : Nat) (hV : V ≤ 24) (md : Nat) : ∀ (f : Nat) (h : Int) (w : World) (s : Sb) (st : Sp), IsSpace w s V st → NMap w md V st.c → (¬ s.mem md ∧ s.ps ≠ md) → COk V st.c → hasM st.c h = true → (24 - topM st.c h).toNat < f →
    Calls Tryz.prog 31 #[.pointer (some ⟨s.ps, 0, none⟩), .int .i64 h, .map (some md)] w fun e w' => ∃ v, e = .returned v ∧ IsNat w' v (cntX V st.c h) ∧ NMap w' md V st.c ∧ Only (· = md) w w'
  | 0, _, _, _, _, _, _, _, _, _, hf => absurd hf (Nat.not_lt_zero _)
  | f + 1, h, w, s, st, hs, hd, hoff, co, hh, hf => by
    have Hih := Lib.hid (counts_in V hV md f)
    have hlen := hs.ar.len
    have hR := hs.ar.room.2
    have lh : h ≤ 9223372036854775807 := by have := hasM_le hh; omega
    have c0 := hs.s0
    have lmd := hd.lt
    have lps := hs.lps
    have hbr : Below w.heap.size w (w.alloc (.cells #[.slice none 0 0] 43)) := (Below.refl _ _).alloc (Nat.le_refl _) _
    have hg := get_any h _ s.b st.c (hs.ar.below hbr) lh
    have Hs := Lib.hid hs; have Hd := Lib.hid hd; have Hoff := Lib.hid hoff; have Hco := Lib.hid co; have Hhh := Lib.hid hh; have Hf := Lib.hid hf
    clear hs hd hoff co hh hf hlen hR hbr
    cases g : getM st.c h with
    | none =>
      rw [g] at hg
      have hcx := cnt_end (V := V) g
      have hn : h = ((h.toNat : Nat) : Int) := by have := hasM_nonneg Hhh.out; omega
      rw [hcx]
      have Hg := Lib.hid hg; have Hn := Lib.hid hn; clear hg g hcx hn
      go_enter Tryz.func31, Tryz.ntmps31
      go_wp2_with fail
      refine Hg.out.mono ?_
      rintro e w1 ⟨rfl, rfl⟩
      simp only [gotV, encNd, Option.getD_none, Option.isSome_none]
      go_wp2_with fail
      have hb : Below w.heap.size w (((w.alloc (.cells #[.slice none 0 0] 43)).alloc (.cells #[.int .i64 0, .int .i64 0, .int .i64 0] 68)).alloc (.cells #[.int .i64 0, .int .i64 0, .int .i64 0] 68)) := (((Below.refl _ _).alloc (Nat.le_refl _) _).alloc (by simp) _).alloc (by simp only [alloc_size]; omega) _
      have hq := Of_any h.toNat (((w.alloc (.cells #[.slice none 0 0] 43)).alloc (.cells #[.int .i64 0, .int .i64 0, .int .i64 0] 68)).alloc (.cells #[.int .i64 0, .int .i64 0, .int .i64 0] 68)) (by omega)
      rw [← Hn.out] at hq
      refine hq.mono ?_
      rintro e w2 ⟨v, rfl, hv, hb2⟩
      obtain ⟨a8, c8, rfl⟩ := hv.shape
      have hr : Res w w2 43 (.slice none 0 0) := res_of (heap_up (heap_up (heap_at rfl))) hb hb2
      have c2 := hr.cell; have f2 := hr.free; have l2 := hr.lt
      have Hv := Lib.hid hv; have Hr := Lib.hid hr
      clear hv hb2 hb hq hr
      go_wp2_with fail
      exact bodyPost_ret (v := .agg #[.slice a8 (limbsOf h.toNat).length c8]) (by simp [results, Tryz.results31, go_sem, c2]) rfl ⟨_, rfl, Hv.out.setRes Hr.out.blk _, Hd.out.below (Hr.out.set _), Only.of_below (Hr.out.set _) rfl⟩
    | some n =>
      obtain ⟨u, lo, hi⟩ := n
      obtain ⟨b1, b2, k1, k2, k3, k4⟩ := Hco.out.ok.kids g
      rw [g] at hg
      have hcx := cnt_node (V := V) Hco.out.ok g
      have hvV : u < V := by obtain ⟨k, rfl, h3, _⟩ := getM_some g; exact Hco.out.vlt k _ h3
      have htop := top_node g
      dsimp only at b1 b2 k1 k2 k3 k4 hcx htop
      have hb3 : Below w.heap.size w (((w.alloc (.cells #[.slice none 0 0] 43)).alloc (.cells #[.int .i64 u, .int .i64 lo, .int .i64 hi] 68)).alloc (.cells #[.int .i64 u, .int .i64 lo, .int .i64 hi] 68)) := (((Below.refl _ _).alloc (Nat.le_refl _) _).alloc (by simp) _).alloc (by simp only [alloc_size]; omega) _
      have hts : CSt w (((w.alloc (.cells #[.slice none 0 0] 43)).alloc (.cells #[.int .i64 u, .int .i64 lo, .int .i64 hi] 68)).alloc (.cells #[.int .i64 u, .int .i64 lo, .int .i64 hi] 68)) s V st md (u, lo, hi) (w.heap.size + 1 + 1) :=
        ⟨Hs.out.below hb3, Hd.out.below hb3, Only.of_below hb3 rfl, ⟨lmd, Hoff.out⟩, ⟨lps, fun k hk => Hs.out.lt hk⟩, ⟨by omega, by simp⟩, by rw [cell_of_row _ _ _ _ _ _ (heap_at (by simp))]; rfl, by rw [cell_of_row _ _ _ _ _ _ (heap_at (by simp))]; rfl, by rw [cell_of_row _ _ _ _ _ _ (heap_at (by simp))]; rfl, heap_up (heap_up (heap_at rfl))⟩
      have Hg := Lib.hid hg; have Hcx := Lib.hid hcx; have Hts := Lib.hid hts; have Hk1 := Lib.hid k1; have Hk2 := Lib.hid k2; have Hfuel := Lib.hid (show (24 - topM st.c lo).toNat < f ∧ (24 - topM st.c hi).toNat < f by have := Hf.out; omega)
      clear hg hcx hts hb3 g htop k1 k2
      go_enter Tryz.func31, Tryz.ntmps31
      go_wp2_with fail
      refine Hg.out.mono ?_
      rintro e w1 ⟨rfl, rfl⟩
      simp only [gotV, encNd, Option.getD_some, Option.isSome_some]
      obtain ⟨mq, hmq, hmv⟩ := Hd.out
      have Hmq := Lib.hid (hmq.block_eq ((below3 w (.cells #[.slice none 0 0] 43) (.cells #[.int .i64 u, .int .i64 lo, .int .i64 hi] 68) (.cells #[.int .i64 u, .int .i64 lo, .int .i64 hi] 68)).block _ lmd)); have Hmv := Lib.hid hmv; clear hmq hmv
      cases ha : assoc mq h with
      | some v =>
        have hv := Hmv.out h v ha
        obtain ⟨a8, c8, rfl⟩ := hv.shape
        have Ha := Lib.hid ha; have Hv := Lib.hid hv; clear ha hv
        go_wp2_with (at_lookup; refine wpList_lookup_of rfl (.tmp 28) (.tmp 29) 83 true rfl (kt := 3) (et := 43) (enc := Value.int .i64) (intKey Tryz.underlying3) Tryz.underlying83 (zeroNat _) (b := md) rfl (l := mq) Hmq.out (k := h) rfl ?_; rw [Ha.out]; simp only [Option.getD_some, Option.isSome_some, if_true])
        exact bodyPost_ret (v := .agg #[.slice a8 (limbsOf (cntX V st.c h)).length c8]) (by simp [results, Tryz.results31, go_sem]) rfl ⟨_, rfl, Hv.out.below (below4 _ _ _ _ _), Hd.out.below (below4 _ _ _ _ _), Only.of_below (below4 _ _ _ _ _) rfl⟩
      | none =>
        have Ha := Lib.hid ha; clear ha
        go_wp2_with (at_lookup; refine wpList_lookup_of rfl (.tmp 28) (.tmp 29) 83 true rfl (kt := 3) (et := 43) (enc := Value.int .i64) (intKey Tryz.underlying3) Tryz.underlying83 (zeroNat _) (b := md) rfl (l := mq) Hmq.out (k := h) rfl ?_; rw [Ha.out]; simp only [Option.getD_none, Option.isSome_none, if_true])
        have ti := Hts.out.grow (w2 := (((w.alloc (.cells #[.slice none 0 0] 43)).alloc (.cells #[.int .i64 u, .int .i64 lo, .int .i64 hi] 68)).alloc (.cells #[.int .i64 u, .int .i64 lo, .int .i64 hi] 68)).alloc (.cells #[.slice none 0 0] 43)) ((Below.refl _ _).alloc (Nat.le_refl _) _)
        have hz4 : ((((w.alloc (.cells #[.slice none 0 0] 43)).alloc (.cells #[.int .i64 u, .int .i64 lo, .int .i64 hi] 68)).alloc (.cells #[.int .i64 u, .int .i64 lo, .int .i64 hi] 68)).alloc (.cells #[.slice none 0 0] 43)).heap[w.heap.size + 1 + 1 + 1]? = some (.cells #[.slice none 0 0] 43 (0, 0)) := heap_at (by simp)
        clear Hts Hmq Hmv Ha
        generalize (((w.alloc (.cells #[.slice none 0 0] 43)).alloc (.cells #[.int .i64 u, .int .i64 lo, .int .i64 hi] 68)).alloc (.cells #[.int .i64 u, .int .i64 lo, .int .i64 hi] 68)).alloc (.cells #[.slice none 0 0] 43) = w4 at ti hz4 ⊢
        obtain ⟨nb, enb⟩ : ∃ b, b = w.heap.size + 1 + 1 := ⟨_, rfl⟩
        rw [← enb] at ti ⊢
        obtain ⟨T1, hT1, eT1, hS1, hE1⟩ := exp_facts (h := lo) hV Hco.out Hk1.out b1 k3 hvV
        obtain ⟨T2, hT2, eT2, hS2, hE2⟩ := exp_facts (h := hi) hV Hco.out Hk2.out b1 k4 hvV
        have hlen := Hs.out.ar.len; have hRR := Hs.out.ar.room.2
        have hTop1 := fun w' (ha : IsArena w' s.b st.c) => top_any lo w' s.b st.c ha (by have := hasM_le Hk1.out; omega)
        have hTop2 := fun w' (ha : IsArena w' s.b st.c) => top_any hi w' s.b st.c ha (by have := hasM_le Hk2.out; omega)
        clear hlen hRR
        have Hcx2 := Hcx.out
        rw [eT1, eT2] at Hcx2
        clear Hcx eT1 eT2
        have Hcx := Lib.hid Hcx2; clear Hcx2
        have g1 := (Hco.out.ok.top_pos lo).2; have g2 := (Hco.out.ok.top_pos hi).2
        generalize topM st.c lo = t1 at k3 hE1 hTop1 g1
        generalize topM st.c hi = t2 at k4 hE2 hTop2 g2
        have HS1 := Lib.hid hS1; have HS2 := Lib.hid hS2; have HT1 := Lib.hid hTop1; have HT2 := Lib.hid hTop2; have HE1 := Lib.hid hE1; have HE2 := Lib.hid hE2
        clear hS1 hS2 hTop1 hTop2 hE1 hE2
        have hcw0 : CW w w4 s V st md (u, lo, hi) nb (w.heap.size + 1 + 1 + 1) (w.heap.size + 1 + 1 + 1) := ⟨ti, hz4, hz4, by omega, Nat.le_refl _⟩
        clear enb ti hz4
        obtain ⟨D, eD⟩ : ∃ z, z = w.heap.size + 1 + 1 + 1 := ⟨_, rfl⟩
        rw [← eD] at hcw0
        clear eD
        have Hcw0 := Lib.hid hcw0; clear hcw0
        go_upto_region 7 with fail
        go_cut [11] from 35 to 56 (fun p wx => ∃ (BL : Nat) (aL : Option Addr) (cL : Nat), p = .pointer (some ⟨BL, 0, none⟩) ∧ CW w wx s V st md (u, lo, hi) nb D D ∧ NBox wx BL aL cL (cntX V st.c lo * 2 ^ T1))
        case first =>
          have hw0 := Hcw0.out.grow (w2 := w4.drew) ((Below.refl _ _).drew)
          have HIA := Lib.hid (Hcw0.out.alloc.grow (w2 := (w4.alloc (.cells #[.slice none 0 0] 43)).drew) ((Below.refl _ _).drew))
          have h90 := hw0.c.held
          have h91 := cell_of_one hw0.zb; have h92 := free_of_one hw0.zb
          have HI := Lib.hid hw0; have HD := HI; clear hw0
          go_region_held3 (fun w' => w'.cell? ⟨s.ps, 0, none⟩ = some (.pointer (some ⟨s.b.p, 0, none⟩)) ∧ w'.cell? ⟨s.ps, 1, none⟩ = some (.int .i64 V) ∧ w'.cell? ⟨nb, 0, none⟩ = some (.int .i64 u) ∧ w'.cell? ⟨nb, 1, none⟩ = some (.int .i64 lo) ∧ w'.cell? ⟨nb, 2, none⟩ = some (.int .i64 hi))
            (first | exact ⟨h90.c0, h90.c1, h90.b0, h90.b1, h90.b2⟩ | exact ⟨(h90.alloc _).c0, (h90.alloc _).c1, (h90.alloc _).b0, (h90.alloc _).b1, (h90.alloc _).b2⟩ | exact ⟨(HI.out.setC _).held.c0, (HI.out.setC _).held.c1, (HI.out.setC _).held.b0, (HI.out.setC _).held.b1, (HI.out.setC _).held.b2⟩ | go_keep)
            (first
              | (go_at_call 31; first | ((with_reducible refine (Hih.out lo _ s st HI.out.c.sp HI.out.c.done Hoff.out Hco.out Hk1.out Hfuel.out.1).mono ?_); rintro e w9 ⟨v9, rfl, hn9, hd9, ho9⟩; obtain ⟨a9, c9, rfl⟩ := hn9.shape; have hi9 := HI.out.step ho9 hd9; clear hd9 ho9; clear h90 h91 h92 HI; have HI := Lib.hid hi9; have HN := Lib.hid hn9; have h90 := hi9.c.held; have h91 := cell_of_one hi9.zb; have h92 := free_of_one hi9.zb; clear hn9 hi9) | (have hgap := HI.out.gap; clear HD; have HD := Lib.hid hgap; clear hgap; clear HI; have HI := HIA; (with_reducible refine (Hih.out lo _ s st HI.out.c.sp HI.out.c.done Hoff.out Hco.out Hk1.out Hfuel.out.1).mono ?_); rintro e w9 ⟨v9, rfl, hn9, hd9, ho9⟩; obtain ⟨a9, c9, rfl⟩ := hn9.shape; have hi9 := HI.out.step ho9 hd9; clear hd9 ho9; clear h90 h91 h92 HI; have HI := Lib.hid hi9; have HN := Lib.hid hn9; have h90 := hi9.c.held; have h91 := cell_of_one hi9.zb; have h92 := free_of_one hi9.zb; clear hn9 hi9))
              | (go_at_call 33; first | ((with_reducible refine (HT1.out _ HI.out.c.sp.ar).mono ?_); rintro e w9 ⟨rfl, hb9⟩; have hi9 := HI.out.grow hb9; have hn9 := HN.out.below hb9; clear hb9; clear h90 h91 h92 HI HN; have HI := Lib.hid hi9; have HN := Lib.hid hn9; have h90 := hi9.c.held; have h91 := cell_of_one hi9.zb; have h92 := free_of_one hi9.zb; clear hn9 hi9) | (have hgap := HI.out.gap; clear HD; have HD := Lib.hid hgap; clear hgap; have hi9 := HI.out.alloc; clear HI; have HI := Lib.hid hi9; clear hi9; have hn9 := HN.out.below (w' := World.alloc _ (.cells #[.slice none 0 0] 43)) ((Below.refl _ _).alloc (Nat.le_refl _) _); clear HN; have HN := Lib.hid hn9; clear hn9; (with_reducible refine (HT1.out _ HI.out.c.sp.ar).mono ?_); rintro e w9 ⟨rfl, hb9⟩; have hi9 := HI.out.grow hb9; have hn9 := HN.out.below hb9; clear hb9; clear h90 h91 h92 HI HN; have HI := Lib.hid hi9; have HN := Lib.hid hn9; have h90 := hi9.c.held; have h91 := cell_of_one hi9.zb; have h92 := free_of_one hi9.zb; clear hn9 hi9))
              | (go_at_call 32; (try rw [minIf t1 (V : Int)]); rw [HE1.out]; generalize (if (V : Int) < t1 then (V : Int) else t1) = m1; first | ((with_reducible refine (Double_any (cntX V st.c lo) T1 _ _ HN.out (by omega) HS1.out).mono ?_); rintro e w9 ⟨v9, rfl, hn9, hb9⟩; obtain ⟨a9, c9, rfl⟩ := hn9.shape; have hi9 := HI.out.grow hb9; clear hb9; clear h90 h91 h92 HI HN; have HI := Lib.hid hi9; have HN := Lib.hid hn9; have h90 := hi9.c.held; have h91 := cell_of_one hi9.zb; have h92 := free_of_one hi9.zb; clear hn9 hi9; dsimp only) | (have hgap := HI.out.gap; clear HD; have HD := Lib.hid hgap; clear hgap; have hi9 := HI.out.alloc; clear HI; have HI := Lib.hid hi9; clear hi9; have hn9 := HN.out.below (w' := World.alloc _ (.cells #[.slice none 0 0] 43)) ((Below.refl _ _).alloc (Nat.le_refl _) _); clear HN; have HN := Lib.hid hn9; clear hn9; (with_reducible refine (Double_any (cntX V st.c lo) T1 _ _ HN.out (by omega) HS1.out).mono ?_); rintro e w9 ⟨v9, rfl, hn9, hb9⟩; obtain ⟨a9, c9, rfl⟩ := hn9.shape; have hi9 := HI.out.grow hb9; clear hb9; clear h90 h91 h92 HI HN; have HI := Lib.hid hi9; have HN := Lib.hid hn9; have h90 := hi9.c.held; have h91 := cell_of_one hi9.zb; have h92 := free_of_one hi9.zb; clear hn9 hi9; dsimp only)))
          all_goals (go_wp2_with fail; go_meet)
          all_goals first
            | exact ⟨_, _, _, rfl, HI.out.more _, NBox.mk' HN.out⟩
            | exact ⟨_, _, _, rfl, HI.out.set HD.out _, HI.out.put HN.out⟩
        case rest =>
          clear Hcw0
          obtain ⟨BL, aL, cL, rfl, hcw, hnb⟩ := hcut
          have Hcw := Lib.hid hcw; have Hnb := Lib.hid hnb; clear hcw hnb
          obtain ⟨w5, rfl⟩ : ∃ x, x = wc := ⟨_, rfl⟩
          go_upto_region 8 with fail
          go_cut [12] from 57 to 78 (fun p wx => ∃ (BH : Nat) (aH : Option Addr) (cH : Nat), p = .pointer (some ⟨BH, 0, none⟩) ∧ CW w wx s V st md (u, lo, hi) nb D D ∧ NBox wx BL aL cL (cntX V st.c lo * 2 ^ T1) ∧ NBox wx BH aH cH (cntX V st.c hi * 2 ^ T2))
          case first =>
            have hw0 := Hcw.out.grow (w2 := w5.drew) ((Below.refl _ _).drew)
            have HIA := Lib.hid (Hcw.out.alloc.grow (w2 := (w5.alloc (.cells #[.slice none 0 0] 43)).drew) ((Below.refl _ _).drew))
            have HLA := Lib.hid ((Hnb.out.more (.cells #[.slice none 0 0] 43)).below (w2 := (w5.alloc (.cells #[.slice none 0 0] 43)).drew) ((Below.refl _ _).drew))
            have HL := Lib.hid (Hnb.out.below (w2 := w5.drew) ((Below.refl _ _).drew))
            have h90 := hw0.c.held
            have h91 := cell_of_one hw0.zb; have h92 := free_of_one hw0.zb
            have HI := Lib.hid hw0; have HD := HI; have HE := HI; clear hw0
            go_region_held3 (fun w' => w'.cell? ⟨s.ps, 0, none⟩ = some (.pointer (some ⟨s.b.p, 0, none⟩)) ∧ w'.cell? ⟨s.ps, 1, none⟩ = some (.int .i64 V) ∧ w'.cell? ⟨nb, 0, none⟩ = some (.int .i64 u) ∧ w'.cell? ⟨nb, 1, none⟩ = some (.int .i64 lo) ∧ w'.cell? ⟨nb, 2, none⟩ = some (.int .i64 hi))
              (first | exact ⟨h90.c0, h90.c1, h90.b0, h90.b1, h90.b2⟩ | exact ⟨(h90.alloc _).c0, (h90.alloc _).c1, (h90.alloc _).b0, (h90.alloc _).b1, (h90.alloc _).b2⟩ | exact ⟨(HI.out.setC _).held.c0, (HI.out.setC _).held.c1, (HI.out.setC _).held.b0, (HI.out.setC _).held.b1, (HI.out.setC _).held.b2⟩ | go_keep)
              (first
                | (go_at_call 31; first | ((with_reducible refine (Hih.out hi _ s st HI.out.c.sp HI.out.c.done Hoff.out Hco.out Hk2.out Hfuel.out.2).mono ?_); rintro e w9 ⟨v9, rfl, hn9, hd9, ho9⟩; obtain ⟨a9, c9, rfl⟩ := hn9.shape; have hl9 := HL.out.nmap HI.out.c.done ho9; clear HL; have HL := Lib.hid hl9; clear hl9; have hi9 := HI.out.step ho9 hd9; clear hd9 ho9; clear h90 h91 h92 HI; have HI := Lib.hid hi9; have HN := Lib.hid hn9; have h90 := hi9.c.held; have h91 := cell_of_one hi9.zb; have h92 := free_of_one hi9.zb; clear hn9 hi9) | (have hgap := Hcw.out.gap; clear HD; have HD := Lib.hid hgap; clear hgap; have hgap := Hnb.out.lt; clear HE; have HE := Lib.hid hgap; clear hgap; clear HI; have HI := HIA; clear HL; have HL := HLA; (with_reducible refine (Hih.out hi _ s st HI.out.c.sp HI.out.c.done Hoff.out Hco.out Hk2.out Hfuel.out.2).mono ?_); rintro e w9 ⟨v9, rfl, hn9, hd9, ho9⟩; obtain ⟨a9, c9, rfl⟩ := hn9.shape; have hl9 := HL.out.nmap HI.out.c.done ho9; clear HL; have HL := Lib.hid hl9; clear hl9; have hi9 := HI.out.step ho9 hd9; clear hd9 ho9; clear h90 h91 h92 HI; have HI := Lib.hid hi9; have HN := Lib.hid hn9; have h90 := hi9.c.held; have h91 := cell_of_one hi9.zb; have h92 := free_of_one hi9.zb; clear hn9 hi9))
                | (go_at_call 33; first | ((with_reducible refine (HT2.out _ HI.out.c.sp.ar).mono ?_); rintro e w9 ⟨rfl, hb9⟩; have hl9 := HL.out.below hb9; clear HL; have HL := Lib.hid hl9; clear hl9; have hi9 := HI.out.grow hb9; have hn9 := HN.out.below hb9; clear hb9; clear h90 h91 h92 HI HN; have HI := Lib.hid hi9; have HN := Lib.hid hn9; have h90 := hi9.c.held; have h91 := cell_of_one hi9.zb; have h92 := free_of_one hi9.zb; clear hn9 hi9) | (have hgap := HI.out.gap; clear HD; have HD := Lib.hid hgap; clear hgap; have hgap := HL.out.lt; clear HE; have HE := Lib.hid hgap; clear hgap; have hi9 := HI.out.alloc; clear HI; have HI := Lib.hid hi9; clear hi9; have hn9 := HN.out.below (w' := World.alloc _ (.cells #[.slice none 0 0] 43)) ((Below.refl _ _).alloc (Nat.le_refl _) _); clear HN; have HN := Lib.hid hn9; clear hn9; have hl9 := HL.out.more (.cells #[.slice none 0 0] 43); clear HL; have HL := Lib.hid hl9; clear hl9; (with_reducible refine (HT2.out _ HI.out.c.sp.ar).mono ?_); rintro e w9 ⟨rfl, hb9⟩; have hl9 := HL.out.below hb9; clear HL; have HL := Lib.hid hl9; clear hl9; have hi9 := HI.out.grow hb9; have hn9 := HN.out.below hb9; clear hb9; clear h90 h91 h92 HI HN; have HI := Lib.hid hi9; have HN := Lib.hid hn9; have h90 := hi9.c.held; have h91 := cell_of_one hi9.zb; have h92 := free_of_one hi9.zb; clear hn9 hi9))
                | (go_at_call 32; (try rw [minIf t2 (V : Int)]); rw [HE2.out]; generalize (if (V : Int) < t2 then (V : Int) else t2) = m2; first | ((with_reducible refine (Double_any (cntX V st.c hi) T2 _ _ HN.out (by omega) HS2.out).mono ?_); rintro e w9 ⟨v9, rfl, hn9, hb9⟩; obtain ⟨a9, c9, rfl⟩ := hn9.shape; have hl9 := HL.out.below hb9; clear HL; have HL := Lib.hid hl9; clear hl9; have hi9 := HI.out.grow hb9; clear hb9; clear h90 h91 h92 HI HN; have HI := Lib.hid hi9; have HN := Lib.hid hn9; have h90 := hi9.c.held; have h91 := cell_of_one hi9.zb; have h92 := free_of_one hi9.zb; clear hn9 hi9; dsimp only) | (have hgap := HI.out.gap; clear HD; have HD := Lib.hid hgap; clear hgap; have hgap := HL.out.lt; clear HE; have HE := Lib.hid hgap; clear hgap; have hi9 := HI.out.alloc; clear HI; have HI := Lib.hid hi9; clear hi9; have hn9 := HN.out.below (w' := World.alloc _ (.cells #[.slice none 0 0] 43)) ((Below.refl _ _).alloc (Nat.le_refl _) _); clear HN; have HN := Lib.hid hn9; clear hn9; have hl9 := HL.out.more (.cells #[.slice none 0 0] 43); clear HL; have HL := Lib.hid hl9; clear hl9; (with_reducible refine (Double_any (cntX V st.c hi) T2 _ _ HN.out (by omega) HS2.out).mono ?_); rintro e w9 ⟨v9, rfl, hn9, hb9⟩; obtain ⟨a9, c9, rfl⟩ := hn9.shape; have hl9 := HL.out.below hb9; clear HL; have HL := Lib.hid hl9; clear hl9; have hi9 := HI.out.grow hb9; clear hb9; clear h90 h91 h92 HI HN; have HI := Lib.hid hi9; have HN := Lib.hid hn9; have h90 := hi9.c.held; have h91 := cell_of_one hi9.zb; have h92 := free_of_one hi9.zb; clear hn9 hi9; dsimp only)))
            all_goals (go_wp2_with fail; go_meet)
            all_goals first
              | exact ⟨_, _, _, rfl, HI.out.more _, HL.out.more _, NBox.mk' HN.out⟩
              | exact ⟨_, _, _, rfl, HI.out.set HD.out _, HL.out.put HI.out (Nat.ne_of_lt HE.out) _, HI.out.put HN.out⟩
          case rest =>
            clear Hcw Hnb
            obtain ⟨BH, aH, cH, rfl, hcw, hl, hh2⟩ := hcut
            have k1 := cell_of_one hl.blk; have k2 := cell_of_one hh2.blk
            have Hq := Lib.hid (Add_any (cntX V st.c lo * 2 ^ T1) (cntX V st.c hi * 2 ^ T2) _ _ _ hl.nat hh2.nat HS1.out HS2.out)
            rw [← Hcx.out] at Hq
            have Hcw := Lib.hid hcw; clear hcw hl hh2
            go_wp2_with fail
            refine Hq.out.mono ?_
            rintro e w9 ⟨v9, rfl, hn9, hb9⟩
            obtain ⟨a9, c9, rfl⟩ := hn9.shape
            have hi9 := Hcw.out.grow hb9
            have hi10 := hi9.more (.cells #[.slice a9 (limbsOf (cntX V st.c h)).length c9] 43)
            have hn10 := NBox.mk' hn9
            obtain ⟨mq, hmq, hmv⟩ := hi10.c.done
            have Hi10 := Lib.hid hi10; have Hn10 := Lib.hid hn10; have Hmq := Lib.hid hmq; have Hmv := Lib.hid hmv
            clear Hcw Hq hn9 hb9 hi9 hi10 hn10 hmq hmv k1 k2
            go_wp2_with (at_mapUpdate; refine wpList_mapUpdate_of rfl (.tmp 82) (.tmp 83) (.tmp 84) 83 rfl (kt := 3) (et := 43) (enc := Value.int .i64) (intKey Tryz.underlying3) Tryz.underlying83 (b := md) rfl (l := mq) Hmq.out (k := h) rfl (.agg #[.slice a9 (limbsOf (cntX V st.c h)).length c9]) rfl ?_; intro ob hob; have hi11 := CSt.putC Hi10.out.c Hmq.out Hmv.out Hn10.out.nat hob; have hn11 := hi11.2 _ _ _ _ Hn10.out; have k3 := cell_of_one hn11.blk; have k4 := cell_of_one hi11.1.res; have k5 := free_of_one hi11.1.res; have k6 := lt_of_block hi11.1.res; have Hi11 := Lib.hid hi11.1; have Hn11 := Lib.hid hn11; clear hob hi11 hn11 Hi10 Hn10 Hmq Hmv; generalize setObjW _ md ob = w11 at Hi11 Hn11 k3 k4 k5 k6 ⊢)
            exact bodyPost_ret (v := .agg #[.slice a9 (limbsOf (cntX V st.c h)).length c9]) (by simp [results, Tryz.results31, go_sem, k4]) rfl ⟨_, rfl, Hn11.out.nat.setRes Hi11.out.res _, Hi11.out.fin _⟩
end Go.Proofs.YthmflcmbaldflaaGreatDoor
