/- Contract: the closure of (*family.Store).Count. -/
import Derived.Test.YtmlnfbageoabnaaFamO
import Derived.Test.YtmlnfbageoabnaaNBox
import Derived.Test.YtmlnfbageoabnaaNatAdd
import Derived.Deep.RegionHeld3
import Derived.Deep.CutBlock
namespace Go.Proofs.Ytmlnfbageoabnaa
open Go.RowKit
set_option linter.unusedVariables false

/-! ### How many sets -/
def cntZF : Nat → Cells → Int → Nat
  | 0, _, _ => 0
  | f + 1, c, h => match getM c h with
    | none => h.toNat
    | some n => cntZF f c n.2.1 + cntZF f c n.2.2
theorem cntZF_none {f : Nat} {c : Cells} {h : Int} (e : getM c h = none) : cntZF (f + 1) c h = h.toNat := by simp only [cntZF, e]
theorem cntZF_some {f : Nat} {c : Cells} {h : Int} {n : Nd} (e : getM c h = some n) : cntZF (f + 1) c h = cntZF f c n.2.1 + cntZF f c n.2.2 := by simp only [cntZF, e]
def cntZ (c : Cells) (h : Int) : Nat := cntZF 25 c h
theorem cntZF_more {c : Cells} (o : Ok c) : ∀ (f g : Nat) (h : Int), (24 - topM c h).toNat < f → f ≤ g → cntZF f c h = cntZF g c h
  | 0, _, _, h1, _ => absurd h1 (Nat.not_lt_zero _)
  | f + 1, 0, _, _, h2 => absurd h2 (by omega)
  | f + 1, g + 1, h, h1, h2 => by
    cases e : getM c h with
    | none => rw [cntZF_none e, cntZF_none e]
    | some n =>
      obtain ⟨k1, k2, _, _, k3, k4⟩ := o.kids e
      rw [top_node e] at h1
      rw [cntZF_some e, cntZF_some e, cntZF_more o f g n.2.1 (by omega) (by omega), cntZF_more o f g n.2.2 (by omega) (by omega)]
theorem cntZ_node {c : Cells} (o : Ok c) {h : Int} {n : Nd} (e : getM c h = some n) : cntZ c h = cntZ c n.2.1 + cntZ c n.2.2 := by
  obtain ⟨k1, k2, _, _, k3, k4⟩ := o.kids e
  show cntZF (24 + 1) c h = cntZF 25 c n.2.1 + cntZF 25 c n.2.2
  rw [cntZF_some e, cntZF_more o 24 25 n.2.1 (by omega) (by omega), cntZF_more o 24 25 n.2.2 (by omega) (by omega)]
theorem cntZ_end {c : Cells} {h : Int} (e : getM c h = none) : cntZ c h = h.toNat := cntZF_none (f := 24) e
theorem cntZ_le {V : Int} {c : Cells} (o : ZOk V c) : ∀ h, hasM c h = true → cntZ c h ≤ 2 ^ (V - topM c h).toNat := by
  refine node_ind o.ok (Q := fun h => hasM c h = true → cntZ c h ≤ 2 ^ (V - topM c h).toNat) (fun h g hh => ?_) (fun h n g ih1 ih2 hh => ?_)
  · rw [cntZ_end g]
    have := two_pow_pos (V - topM c h).toNat
    rcases getM_none_of_has hh g with rfl | rfl <;> simp <;> omega
  · obtain ⟨b1, b2, k1, k2, k3, k4⟩ := o.ok.kids g
    have hvV : n.1 < V := by obtain ⟨k, _, h1, _⟩ := getM_some g; exact o.vlt k n h1
    rw [cntZ_node o.ok g, top_node g, two_pow_split hvV]
    have h1 := ih1 k1
    have h2 := ih2 k2
    have w1 := two_pow_le (show (V - topM c n.2.1).toNat ≤ (V - (n.1 + 1)).toNat by omega)
    have w2 := two_pow_le (show (V - topM c n.2.2).toNat ≤ (V - (n.1 + 1)).toNat by omega)
    omega
theorem cntZ_all {V : Int} (hV : V ≤ 24) {c : Cells} (o : ZOk V c) {h : Int} (hh : hasM c h = true) : cntZ c h ≤ 2 ^ V.toNat ∧ cntZ c h ≤ 2 ^ 24 := by
  have h1 := cntZ_le o h hh
  have h2 := topM_le o.ok h
  have h3 := two_pow_le (show (V - topM c h).toNat ≤ V.toNat by omega)
  have h4 := two_pow_le (show V.toNat ≤ 24 by omega)
  exact ⟨by omega, by omega⟩

/-! ### In memory -/
def ZMap (w : World) (md : Nat) (c : Cells) : Prop := ∃ mq : List (Int × Value), MapOf w md (Value.int .i64) mq ∧ ∀ k v, assoc mq k = some v → IsNat w v (cntZ c k)
theorem ZMap.lt {w : World} {md : Nat} {c : Cells} (h : ZMap w md c) : md < w.heap.size := by obtain ⟨mq, h1, _⟩ := h; exact h1.lt
theorem ZMap.below {w w' : World} {md : Nat} {c : Cells} (h : ZMap w md c) (hb : Below w.heap.size w w') : ZMap w' md c := by
  obtain ⟨mq, h1, h2⟩ := h; exact ⟨mq, h1.block_eq (hb.block _ h1.lt), fun k v e => (h2 k v e).below hb⟩
theorem ZMap.setRes {wr : World} {md : Nat} {c : Cells} {R : Nat} (h : ZMap wr md c) (hR : wr.heap[R]? = some (.cells #[.slice none 0 0] 70 (0, 0))) (u : Value) : ZMap (wr.setCell ⟨R, 0, none⟩ u) md c := by
  obtain ⟨mq, h1, h2⟩ := h
  have hn : md ≠ R := fun e => by
    subst e
    obtain ⟨es, cl, hb, _⟩ := h1
    rw [hb] at hR; cases hR
  exact ⟨mq, h1.block_eq (Below.heap_setCell _ _ _ _ hn), fun k v e => (h2 k v e).setRes hR u⟩
theorem IsNat.zmap {w w' : World} {v : Value} {n md : Nat} {c : Cells} (h : IsNat w v n) (hm : ZMap w md c) (ho : Only (· = md) w w') : IsNat w' v n := by
  obtain ⟨mq, h1, _⟩ := hm; exact h.mapOnly h1 ho

/-- The closure's variables: the store's, the memo's, its own. -/
structure Cc where
  s : Nat
  d : Nat
  a : Nat
def cntV (q : Cc) : Value := .func (.func 113) #[] #[.pointer (some ⟨q.s, 0, none⟩), .pointer (some ⟨q.d, 0, none⟩), .pointer (some ⟨q.a, 0, none⟩)]
structure CEnv (w : World) (s : Fb) (md : Nat) (q : Cc) : Prop where
  hst : w.heap[q.s]? = some (.cells #[.pointer (some ⟨s.ps, 0, none⟩)] 77 (0, 0))
  hd : w.heap[q.d]? = some (.cells #[.map (some md)] 100 (0, 0))
  ha : w.heap[q.a]? = some (.cells #[cntV q] 73 (0, 0))
  off : q.s ≠ md ∧ q.d ≠ md ∧ q.a ≠ md
section
variable {w w2 : World} {s : Fb} {md : Nat} {q : Cc}
theorem CEnv.keep (h : CEnv w s md q) (h1 : w2.heap[q.s]? = w.heap[q.s]?) (h2 : w2.heap[q.d]? = w.heap[q.d]?) (h3 : w2.heap[q.a]? = w.heap[q.a]?) : CEnv w2 s md q := ⟨h1.trans h.hst, h2.trans h.hd, h3.trans h.ha, h.off⟩
theorem CEnv.only (h : CEnv w s md q) (ho : Only (· = md) w w2) : CEnv w2 s md q :=
  h.keep (ho.block _ (lt_of_block h.hst) h.off.1) (ho.block _ (lt_of_block h.hd) h.off.2.1) (ho.block _ (lt_of_block h.ha) h.off.2.2)
theorem CEnv.below (h : CEnv w s md q) (hb : Below w.heap.size w w2) : CEnv w2 s md q :=
  h.keep (hb.block _ (lt_of_block h.hst)) (hb.block _ (lt_of_block h.hd)) (hb.block _ (lt_of_block h.ha))
theorem CEnv.lt (h : CEnv w s md q) : q.s < w.heap.size ∧ q.d < w.heap.size ∧ q.a < w.heap.size := ⟨lt_of_block h.hst, lt_of_block h.hd, lt_of_block h.ha⟩
end

/-- The closure on its way: its result's block, the node's, a box that is 0 (D), the one made last (B). -/
structure ZW (w wr : World) (s : Fb) (V : Int) (c : Cells) (md : Nat) (q : Cc) (n : Nd) (nb D B : Nat) : Prop where
  sp : IsStore wr s V c
  done : ZMap wr md c
  env : CEnv wr s md q
  only : Only (· = md) w wr
  off : md < w.heap.size ∧ ¬ s.b.mem md ∧ s.ps ≠ md
  old : s.ps < w.heap.size ∧ (∀ k, s.b.mem k → k < w.heap.size) ∧ q.s < w.heap.size ∧ q.d < w.heap.size ∧ q.a < w.heap.size
  nb1 : w.heap.size < nb ∧ nb < wr.heap.size
  node : wr.heap[nb]? = some (.cells #[.int .i64 n.1, .int .i64 n.2.1, .int .i64 n.2.2] 32 (0, 0))
  res : wr.heap[w.heap.size]? = some (.cells #[.slice none 0 0] 70 (0, 0))
  zb : wr.heap[B]? = some (.cells #[.slice none 0 0] 70 (0, 0))
  zd : wr.heap[D]? = some (.cells #[.slice none 0 0] 70 (0, 0))
  lt : nb < D ∧ D ≤ B
section
variable {w wr w2 : World} {s : Fb} {V : Int} {c : Cells} {md : Nat} {q : Cc} {n : Nd} {nb D B : Nat}
theorem ZW.grow (h : ZW w wr s V c md q n nb D B) (hb : Below wr.heap.size wr w2) : ZW w w2 s V c md q n nb D B :=
  ⟨h.sp.below hb, h.done.below hb, h.env.below hb, h.only.trans (Only.of_below hb rfl), h.off, h.old, ⟨h.nb1.1, Nat.lt_of_lt_of_le h.nb1.2 hb.size⟩, (hb.block _ (lt_of_block h.node)).trans h.node, (hb.block _ (lt_of_block h.res)).trans h.res, (hb.block _ (lt_of_block h.zb)).trans h.zb, (hb.block _ (lt_of_block h.zd)).trans h.zd, h.lt⟩
theorem ZW.step (h : ZW w wr s V c md q n nb D B) (ho : Only (· = md) wr w2) (hd : ZMap w2 md c) : ZW w w2 s V c md q n nb D B := by
  have l0 := h.off.1; have l1 := h.nb1.1; have l2 := h.lt
  have key : ∀ {b : Nat} {o : Obj}, wr.heap[b]? = some o → w.heap.size ≤ b → w2.heap[b]? = some o := fun {b o} e hn => (ho.block b (lt_of_block e) (fun e2 => by have e3 : b = md := e2; omega)).trans e
  exact ⟨h.sp.only ho h.off.2.2 (fun k hk e => h.off.2.1 (e ▸ hk)), hd, h.env.only ho, h.only.trans ho, h.off, h.old, ⟨h.nb1.1, Nat.lt_of_lt_of_le h.nb1.2 ho.size⟩, key h.node (by omega), key h.res (by omega), key h.zb (by omega), key h.zd (by omega), h.lt⟩
theorem ZW.alloc (h : ZW w wr s V c md q n nb D B) : ZW w (wr.alloc (.cells #[.slice none 0 0] 70)) s V c md q n nb D wr.heap.size := by
  have g := h.grow ((Below.refl _ _).alloc (Nat.le_refl _) (.cells #[.slice none 0 0] 70))
  exact ⟨g.sp, g.done, g.env, g.only, g.off, g.old, g.nb1, g.node, g.res, heap_at rfl, g.zd, ⟨h.lt.1, Nat.le_of_lt (lt_of_block h.zd)⟩⟩
theorem ZW.gap (h : ZW w wr s V c md q n nb D B) : D < wr.heap.size := lt_of_block h.zd
theorem ZW.back (h : ZW w wr s V c md q n nb D B) : ZW w wr s V c md q n nb D D := ⟨h.sp, h.done, h.env, h.only, h.off, h.old, h.nb1, h.node, h.res, h.zd, h.zd, h.lt.1, Nat.le_refl _⟩
theorem ZW.more (h : ZW w wr s V c md q n nb D B) (o : Obj) : ZW w (wr.alloc o) s V c md q n nb D D := (h.grow ((Below.refl _ _).alloc (Nat.le_refl _) _)).back
theorem ZW.set (h : ZW w wr s V c md q n nb D B) (hD : D < B) (u : Value) : ZW w (wr.setCell ⟨B, 0, none⟩ u) s V c md q n nb D D := by
  have l1 := h.nb1; have l2 := h.lt; have l3 := h.old
  have hb : ∀ k, k ≠ B → (wr.setCell ⟨B, 0, none⟩ u).heap[k]? = wr.heap[k]? := fun k hk => Below.heap_setCell _ _ _ _ hk
  have ho : Only (· = B) wr (wr.setCell ⟨B, 0, none⟩ u) := ⟨rfl, rfl, rfl, by simp, fun k _ hk => hb k hk⟩
  have e := (hb D (by omega)).trans h.zd
  refine ⟨h.sp.only ho (fun e => by have e' : s.ps = B := e; omega) (fun k hk e => by have := l3.2.1 k hk; have e' : k = B := e; omega), h.done.setRes h.zb u, h.env.keep (hb _ (by omega)) (hb _ (by omega)) (hb _ (by omega)), ?_, h.off, h.old, ⟨l1.1, by simpa using l1.2⟩, (hb _ (by omega)).trans h.node, (hb _ (by omega)).trans h.res, e, e, h.lt.1, Nat.le_refl _⟩
  exact ⟨h.only.os, h.only.tape, h.only.output, by simpa using h.only.size, fun k hk hn => (hb k (by omega)).trans (h.only.block k hk hn)⟩
theorem ZW.put (h : ZW w wr s V c md q n nb D B) {a : Option Addr} {d k : Nat} (hn : IsNat wr (.agg #[.slice a (limbsOf k).length d]) k) : NBox (wr.setCell ⟨B, 0, none⟩ (.slice a (limbsOf k).length d)) B a d k := ⟨one_setCell h.zb, hn.setRes h.zb _⟩
/-- The cells that a region loads. -/
structure ZHeld (w' : World) (q : Cc) (n : Nd) (nb : Nat) : Prop where
  ca : w'.cell? ⟨q.a, 0, none⟩ = some (.func (.func 113) #[] #[.pointer (some ⟨q.s, 0, none⟩), .pointer (some ⟨q.d, 0, none⟩), .pointer (some ⟨q.a, 0, none⟩)])
  b1 : w'.cell? ⟨nb, 1, none⟩ = some (.int .i64 n.2.1)
  b2 : w'.cell? ⟨nb, 2, none⟩ = some (.int .i64 n.2.2)
theorem ZW.held (h : ZW w wr s V c md q n nb D B) : ZHeld wr q n nb := ⟨cell_of_one h.env.ha, by rw [cell_of_row wr _ _ _ _ _ h.node]; rfl, by rw [cell_of_row wr _ _ _ _ _ h.node]; rfl⟩
theorem ZHeld.alloc {w' : World} (h : ZHeld w' q n nb) (o : Obj) : ZHeld (w'.alloc o) q n nb := by
  have k : ∀ {p : Addr} {v : Value}, w'.cell? p = some v → (w'.alloc o).cell? p = some v := fun {p v} e => (World.cell?_alloc_some _ _ _ (by rw [e]; rfl)).trans e
  exact ⟨k h.ca, k h.b1, k h.b2⟩
theorem ZW.heldSet (h : ZW w wr s V c md q n nb D B) (u : Value) : ZHeld (wr.setCell ⟨B, 0, none⟩ u) q n nb := by
  have l1 := h.nb1; have l2 := h.lt; have l3 := h.old; have g := h.held
  refine ⟨?_, ?_, ?_⟩
  · rw [World.cell?_setCell_far _ _ _ _ (by dsimp only; omega)]; exact g.ca
  · rw [World.cell?_setCell_far _ _ _ _ (by dsimp only; omega)]; exact g.b1
  · rw [World.cell?_setCell_far _ _ _ _ (by dsimp only; omega)]; exact g.b2
theorem ZW.putM (h : ZW w wr s V c md q n nb D B) {mq : List (Int × Value)} (hm : MapOf wr md (Value.int .i64) mq) (hmv : ∀ k v, assoc mq k = some v → IsNat wr v (cntZ c k)) {k : Int} {v : Value} (hn : IsNat wr v (cntZ c k)) {o : Obj} (ho : MapOf (setObjW wr md o) md (Value.int .i64) (putAssoc mq k v)) :
    ZW w (setObjW wr md o) s V c md q n nb D B ∧ IsNat (setObjW wr md o) v (cntZ c k) := by
  have hon : Only (· = md) wr (setObjW wr md o) := ⟨rfl, rfl, rfl, by simp [setObjW], fun k _ hk => setObjW_other o hk⟩
  have hd : ZMap (setObjW wr md o) md c := ⟨_, ho, fun k' v' e => by
    rw [assoc_put] at e
    split at e
    · rename_i e2; subst e2; cases e; exact hn.mapOnly hm hon
    · exact (hmv k' v' e).mapOnly hm hon⟩
  exact ⟨h.step hon hd, hn.mapOnly hm hon⟩
theorem ZW.fin (h : ZW w wr s V c md q n nb D B) (u : Value) : ZMap (wr.setCell ⟨w.heap.size, 0, none⟩ u) md c ∧ Only (· = md) w (wr.setCell ⟨w.heap.size, 0, none⟩ u) :=
  ⟨h.done.setRes h.res u, h.only.os, h.only.tape, h.only.output, by simpa using h.only.size, fun k hk hn => (Below.heap_setCell _ _ _ _ (by simp; omega)).trans (h.only.block k hk hn)⟩
end

set_option maxRecDepth 100000 in
set_option maxHeartbeats 16000000 in
theorem fcnt_in {V : Int} (hV : V ≤ 24) (md : Nat) (q : Cc) : ∀ (f : Nat) (h : Int) (w : World) (s : Fb) (c : Cells), IsStore w s V c → ZMap w md c → CEnv w s md q → (¬ s.b.mem md ∧ s.ps ≠ md) → ZOk V c → hasM c h = true → (24 - topM c h).toNat < f →
    Calls Try.prog 113 #[.int .i64 h, .pointer (some ⟨q.s, 0, none⟩), .pointer (some ⟨q.d, 0, none⟩), .pointer (some ⟨q.a, 0, none⟩)] w fun e w' => ∃ v, e = .returned v ∧ IsNat w' v (cntZ c h) ∧ ZMap w' md c ∧ Only (· = md) w w'
  | 0, _, _, _, _, _, _, _, _, _, _, hf => absurd hf (Nat.not_lt_zero _)
  | f + 1, h, w, s, c, hs, hd, he, hoff, zo, hh, hf => by
    have Hih := Lib.hid (fcnt_in hV md q f)
    have lh := hs.le hh
    have c0 := hs.s0
    have lmd := hd.lt
    have lps := hs.lps
    have lq := he.lt
    have lq1 := lq.1; have lq2 := lq.2.1; have lq3 := lq.2.2
    have cs := cell_of_one he.hst
    have cd := cell_of_one he.hd
    have ca := cell_of_one he.ha
    have hbr : Below w.heap.size w (w.alloc (.cells #[.slice none 0 0] 70)) := (Below.refl _ _).alloc (Nat.le_refl _) _
    have hg := get_any h _ s.b c (hs.ar.below hbr) lh
    have Hs := Lib.hid hs; have Hd := Lib.hid hd; have He := Lib.hid he; have Hoff := Lib.hid hoff; have Hz := Lib.hid zo; have Hhh := Lib.hid hh; have Hf := Lib.hid hf
    clear hs hd he hoff zo hh hf hbr lq ca
    cases g : getM c h with
    | none =>
      rw [g] at hg
      have hcx := cntZ_end g
      have hn : h = ((h.toNat : Nat) : Int) := by have := hasM_nonneg Hhh.out; omega
      rw [hcx]
      have Hg := Lib.hid hg; have Hn := Lib.hid hn; clear hg g hcx hn
      go_enter Try.func113, Try.ntmps113
      go_wp2_with fail
      refine Hg.out.mono ?_
      rintro e w1 ⟨rfl, rfl⟩
      simp only [gotV, encNd, Option.getD_none, Option.isSome_none]
      go_wp2_with fail
      have hb := below3 w (.cells #[.slice none 0 0] 70) (.cells #[.int .i64 0, .int .i64 0, .int .i64 0] 32) (.cells #[.int .i64 0, .int .i64 0, .int .i64 0] 32)
      have hq := Of_any h.toNat (((w.alloc (.cells #[.slice none 0 0] 70)).alloc (.cells #[.int .i64 0, .int .i64 0, .int .i64 0] 32)).alloc (.cells #[.int .i64 0, .int .i64 0, .int .i64 0] 32)) (by omega)
      rw [← Hn.out] at hq
      refine hq.mono ?_
      rintro e w2 ⟨v, rfl, hv, hb2⟩
      obtain ⟨a8, c8, rfl⟩ := hv.shape
      have hr : Res w w2 70 (.slice none 0 0) := res_of (heap_up (heap_up (heap_at rfl))) hb hb2
      have c2 := hr.cell; have f2 := hr.free; have l2 := hr.lt
      have Hv := Lib.hid hv; have Hr := Lib.hid hr
      clear hv hb2 hb hq hr
      go_wp2_with fail
      exact bodyPost_ret (v := .agg #[.slice a8 (limbsOf h.toNat).length c8]) (by simp [results, Try.results113, go_sem, c2]) rfl ⟨_, rfl, Hv.out.setRes Hr.out.blk _, Hd.out.below (Hr.out.set _), Only.of_below (Hr.out.set _) rfl⟩
    | some n =>
      obtain ⟨u, lo, hi⟩ := n
      obtain ⟨b1, b2, k1, k2, k3, k4⟩ := Hz.out.ok.kids g
      rw [g] at hg
      have hcx := cntZ_node Hz.out.ok g
      have htop := top_node g
      dsimp only at b1 b2 k1 k2 k3 k4 hcx htop
      have Hg := Lib.hid hg; have Hcx := Lib.hid hcx; have Hk1 := Lib.hid k1; have Hk2 := Lib.hid k2; have Hfuel := Lib.hid (show (24 - topM c lo).toNat < f ∧ (24 - topM c hi).toNat < f by have := Hf.out; omega)
      have S1 := Lib.hid (short24 (cntZ_all hV Hz.out k1).2); have S2 := Lib.hid (short24 (cntZ_all hV Hz.out k2).2)
      clear hg hcx g htop k1 k2 k3 k4
      have hb4 := below4 w (.cells #[.slice none 0 0] 70) (.cells #[.int .i64 u, .int .i64 lo, .int .i64 hi] 32) (.cells #[.int .i64 u, .int .i64 lo, .int .i64 hi] 32) (.cells #[.slice none 0 0] 70)
      have hzw : ZW w ((((w.alloc (.cells #[.slice none 0 0] 70)).alloc (.cells #[.int .i64 u, .int .i64 lo, .int .i64 hi] 32)).alloc (.cells #[.int .i64 u, .int .i64 lo, .int .i64 hi] 32)).alloc (.cells #[.slice none 0 0] 70)) s V c md q (u, lo, hi) (w.heap.size + 1 + 1) (w.heap.size + 1 + 1 + 1) (w.heap.size + 1 + 1 + 1) :=
        ⟨Hs.out.below hb4, Hd.out.below hb4, He.out.below hb4, Only.of_below hb4 rfl, ⟨lmd, Hoff.out⟩, ⟨lps, fun k hk => Hs.out.lt hk, lq1, lq2, lq3⟩, ⟨by omega, by simp⟩, heap_up (heap_at (by simp)), heap_up (heap_up (heap_up (heap_at rfl))), heap_at (by simp), heap_at (by simp), by omega, Nat.le_refl _⟩
      have Hzw := Lib.hid hzw; clear hzw hb4
      go_enter Try.func113, Try.ntmps113
      go_wp2_with fail
      refine Hg.out.mono ?_
      rintro e w1 ⟨rfl, rfl⟩
      simp only [gotV, encNd, Option.getD_some, Option.isSome_some]
      obtain ⟨mq, hmq, hmv⟩ := Hd.out
      have Hmq := Lib.hid (hmq.block_eq ((below3 w (.cells #[.slice none 0 0] 70) (.cells #[.int .i64 u, .int .i64 lo, .int .i64 hi] 32) (.cells #[.int .i64 u, .int .i64 lo, .int .i64 hi] 32)).block _ lmd)); have Hmv := Lib.hid hmv; clear hmq hmv
      have cd3 := cell_of_one ((He.out.below (below3 w (.cells #[.slice none 0 0] 70) (.cells #[.int .i64 u, .int .i64 lo, .int .i64 hi] 32) (.cells #[.int .i64 u, .int .i64 lo, .int .i64 hi] 32))).hd)
      cases ha : assoc mq h with
      | some v =>
        have hv := Hmv.out h v ha
        obtain ⟨a8, c8, rfl⟩ := hv.shape
        have Ha := Lib.hid ha; have Hv := Lib.hid hv; clear ha hv
        go_wp2_with (at_lookup; refine wpList_lookup_of rfl (.tmp 25) (.tmp 26) 100 true rfl (kt := 3) (et := 70) (enc := Value.int .i64) (intKey Try.underlying3) Try.underlying100 (zeroNat _) (b := md) rfl (l := mq) Hmq.out (k := h) rfl ?_; rw [Ha.out]; simp only [Option.getD_some, Option.isSome_some, if_true])
        exact bodyPost_ret (v := .agg #[.slice a8 (limbsOf (cntZ c h)).length c8]) (by simp [results, Try.results113, go_sem]) rfl ⟨_, rfl, Hv.out.below (below4 _ _ _ _ _), Hd.out.below (below4 _ _ _ _ _), Only.of_below (below4 _ _ _ _ _) rfl⟩
      | none =>
        have Ha := Lib.hid ha; clear ha
        go_wp2_with (at_lookup; refine wpList_lookup_of rfl (.tmp 25) (.tmp 26) 100 true rfl (kt := 3) (et := 70) (enc := Value.int .i64) (intKey Try.underlying3) Try.underlying100 (zeroNat _) (b := md) rfl (l := mq) Hmq.out (k := h) rfl ?_; rw [Ha.out]; simp only [Option.getD_none, Option.isSome_none, if_true])
        clear Hmq Hmv Ha cs cd cd3
        generalize (((w.alloc (.cells #[.slice none 0 0] 70)).alloc (.cells #[.int .i64 u, .int .i64 lo, .int .i64 hi] 32)).alloc (.cells #[.int .i64 u, .int .i64 lo, .int .i64 hi] 32)).alloc (.cells #[.slice none 0 0] 70) = w4 at Hzw ⊢
        obtain ⟨nb, enb⟩ : ∃ b, b = w.heap.size + 1 + 1 := ⟨_, rfl⟩
        obtain ⟨D, eD⟩ : ∃ z, z = w.heap.size + 1 + 1 + 1 := ⟨_, rfl⟩
        have hzw := Hzw.out; clear Hzw
        rw [← eD, ← enb] at hzw
        rw [← enb]
        have Hzw := Lib.hid hzw; clear hzw enb eD
        go_upto_region 7 with fail
        go_cut [10] from 32 to 40 (fun p wx => ∃ (BL : Nat) (aL : Option Addr) (cL : Nat), p = .pointer (some ⟨BL, 0, none⟩) ∧ ZW w wx s V c md q (u, lo, hi) nb D D ∧ NBox wx BL aL cL (cntZ c h))
        case first =>
          have hw0 := Hzw.out.grow (w2 := w4.drew) ((Below.refl _ _).drew)
          have HIA := Lib.hid (Hzw.out.alloc.grow (w2 := (w4.alloc (.cells #[.slice none 0 0] 70)).drew) ((Below.refl _ _).drew))
          have h90 := hw0.held
          have h91 := cell_of_one hw0.zb; have h92 := free_of_one hw0.zb
          have HI := Lib.hid hw0; have HD := HI; clear hw0
          go_region_held3 (fun w' => w'.cell? ⟨q.a, 0, none⟩ = some (.func (.func 113) #[] #[.pointer (some ⟨q.s, 0, none⟩), .pointer (some ⟨q.d, 0, none⟩), .pointer (some ⟨q.a, 0, none⟩)]) ∧ w'.cell? ⟨nb, 1, none⟩ = some (.int .i64 lo) ∧ w'.cell? ⟨nb, 2, none⟩ = some (.int .i64 hi))
            (first | exact ⟨h90.ca, h90.b1, h90.b2⟩ | exact ⟨(h90.alloc _).ca, (h90.alloc _).b1, (h90.alloc _).b2⟩ | exact ⟨(HI.out.heldSet _).ca, (HI.out.heldSet _).b1, (HI.out.heldSet _).b2⟩ | go_keep)
            (first
              | (go_at_call 113; first | ((with_reducible refine (Hih.out lo _ s c HI.out.sp HI.out.done HI.out.env Hoff.out Hz.out Hk1.out Hfuel.out.1).mono ?_); rintro e w9 ⟨v9, rfl, hn9, hd9, ho9⟩; obtain ⟨a9, c9, rfl⟩ := hn9.shape; have hi9 := HI.out.step ho9 hd9; clear hd9 ho9; have HN := Lib.hid hn9; clear hn9; clear h90 h91 h92 HI; have HI := Lib.hid hi9; have h90 := hi9.held; have h91 := cell_of_one hi9.zb; have h92 := free_of_one hi9.zb; clear hi9) | (have hgap := HI.out.gap; clear HD; have HD := Lib.hid hgap; clear hgap; clear HI; have HI := HIA; (with_reducible refine (Hih.out lo _ s c HI.out.sp HI.out.done HI.out.env Hoff.out Hz.out Hk1.out Hfuel.out.1).mono ?_); rintro e w9 ⟨v9, rfl, hn9, hd9, ho9⟩; obtain ⟨a9, c9, rfl⟩ := hn9.shape; have hi9 := HI.out.step ho9 hd9; clear hd9 ho9; have HN := Lib.hid hn9; clear hn9; clear h90 h91 h92 HI; have HI := Lib.hid hi9; have h90 := hi9.held; have h91 := cell_of_one hi9.zb; have h92 := free_of_one hi9.zb; clear hi9) | ((with_reducible refine (Hih.out hi _ s c HI.out.sp HI.out.done HI.out.env Hoff.out Hz.out Hk2.out Hfuel.out.2).mono ?_); rintro e w9 ⟨v9, rfl, hn9, hd9, ho9⟩; obtain ⟨b9, d9, rfl⟩ := hn9.shape; have hm9 := HN.out.zmap HI.out.done ho9; clear HN; have HN := Lib.hid hm9; clear hm9; have hi9 := HI.out.step ho9 hd9; clear hd9 ho9; have HM := Lib.hid hn9; clear hn9; clear h90 h91 h92 HI; have HI := Lib.hid hi9; have h90 := hi9.held; have h91 := cell_of_one hi9.zb; have h92 := free_of_one hi9.zb; clear hi9) | (have hgap := HI.out.gap; clear HD; have HD := Lib.hid hgap; clear hgap; have hi9 := HI.out.alloc; clear HI; have HI := Lib.hid hi9; clear hi9; have hm9 := HN.out.below (w' := World.alloc _ (.cells #[.slice none 0 0] 70)) ((Below.refl _ _).alloc (Nat.le_refl _) _); clear HN; have HN := Lib.hid hm9; clear hm9; (with_reducible refine (Hih.out hi _ s c HI.out.sp HI.out.done HI.out.env Hoff.out Hz.out Hk2.out Hfuel.out.2).mono ?_); rintro e w9 ⟨v9, rfl, hn9, hd9, ho9⟩; obtain ⟨b9, d9, rfl⟩ := hn9.shape; have hm9 := HN.out.zmap HI.out.done ho9; clear HN; have HN := Lib.hid hm9; clear hm9; have hi9 := HI.out.step ho9 hd9; clear hd9 ho9; have HM := Lib.hid hn9; clear hn9; clear h90 h91 h92 HI; have HI := Lib.hid hi9; have h90 := hi9.held; have h91 := cell_of_one hi9.zb; have h92 := free_of_one hi9.zb; clear hi9))
              | (go_at_call 44; first | ((with_reducible refine (Add_any (cntZ c lo) (cntZ c hi) _ _ _ HN.out HM.out S1.out S2.out).mono ?_); rintro e w9 ⟨v9, rfl, hn9, hb9⟩; rw [← Hcx.out] at hn9; obtain ⟨e9, f9, rfl⟩ := hn9.shape; have hi9 := HI.out.grow hb9; clear hb9 HN HM; have HN := Lib.hid hn9; clear hn9; clear h90 h91 h92 HI; have HI := Lib.hid hi9; have h90 := hi9.held; have h91 := cell_of_one hi9.zb; have h92 := free_of_one hi9.zb; clear hi9) | (have hgap := HI.out.gap; clear HD; have HD := Lib.hid hgap; clear hgap; have hi9 := HI.out.alloc; clear HI; have HI := Lib.hid hi9; clear hi9; have hm9 := HN.out.below (w' := World.alloc _ (.cells #[.slice none 0 0] 70)) ((Below.refl _ _).alloc (Nat.le_refl _) _); clear HN; have HN := Lib.hid hm9; clear hm9; have hm9 := HM.out.below (w' := World.alloc _ (.cells #[.slice none 0 0] 70)) ((Below.refl _ _).alloc (Nat.le_refl _) _); clear HM; have HM := Lib.hid hm9; clear hm9; (with_reducible refine (Add_any (cntZ c lo) (cntZ c hi) _ _ _ HN.out HM.out S1.out S2.out).mono ?_); rintro e w9 ⟨v9, rfl, hn9, hb9⟩; rw [← Hcx.out] at hn9; obtain ⟨e9, f9, rfl⟩ := hn9.shape; have hi9 := HI.out.grow hb9; clear hb9 HN HM; have HN := Lib.hid hn9; clear hn9; clear h90 h91 h92 HI; have HI := Lib.hid hi9; have h90 := hi9.held; have h91 := cell_of_one hi9.zb; have h92 := free_of_one hi9.zb; clear hi9)))
          all_goals (go_wp2_with fail; go_meet)
          all_goals first
            | exact ⟨_, _, _, rfl, HI.out.more _, NBox.mk' HN.out⟩
            | exact ⟨_, _, _, rfl, HI.out.set HD.out _, HI.out.put HN.out⟩
        case rest =>
          clear Hzw
          obtain ⟨BL, aL, cL, rfl, hzw, hnb⟩ := hcut
          have cd := cell_of_one hzw.env.hd
          have k1 := cell_of_one hnb.blk
          obtain ⟨mq5, hmq, hmv⟩ := hzw.done
          have Hzw := Lib.hid hzw; have Hnb := Lib.hid hnb; have Hmq := Lib.hid hmq; have Hmv := Lib.hid hmv; clear hzw hnb hmq hmv
          go_wp2_with (at_mapUpdate; refine wpList_mapUpdate_of rfl (.tmp 41) (.tmp 42) (.tmp 43) 100 rfl (kt := 3) (et := 70) (enc := Value.int .i64) (intKey Try.underlying3) Try.underlying100 (b := md) rfl (l := mq5) Hmq.out (k := h) rfl (.agg #[.slice aL (limbsOf (cntZ c h)).length cL]) rfl ?_; intro ob hob; have hi11 := Hzw.out.putM Hmq.out Hmv.out Hnb.out.nat hob; have hon : NBox (setObjW wc md ob) BL aL cL (cntZ c h) := ⟨(setObjW_other ob (fun e => by have e2 := Hnb.out.blk; obtain ⟨es, cl, hb, _⟩ := Hmq.out; rw [e, hb] at e2; cases e2)).trans Hnb.out.blk, hi11.2⟩; have k3 := cell_of_one hon.blk; have k4 := cell_of_one hi11.1.res; have k5 := free_of_one hi11.1.res; have k6 := lt_of_block hi11.1.res; have Hi11 := Lib.hid hi11.1; have Hn11 := Lib.hid hon; clear hob hi11 hon Hzw Hnb Hmq Hmv cd k1; generalize setObjW wc md ob = w11 at Hi11 Hn11 k3 k4 k5 k6 ⊢)
          exact bodyPost_ret (v := .agg #[.slice aL (limbsOf (cntZ c h)).length cL]) (by simp [results, Try.results113, go_sem, k4]) rfl ⟨_, rfl, Hn11.out.nat.setRes Hi11.out.res _, Hi11.out.fin _⟩
end Go.Proofs.Ytmlnfbageoabnaa
