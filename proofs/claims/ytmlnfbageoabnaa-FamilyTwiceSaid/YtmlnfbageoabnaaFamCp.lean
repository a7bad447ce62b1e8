/- Contract: (*family.Store).copyOf; a map that is written out; how many nodes one handle leads to. -/
import Derived.Test.YtmlnfbageoabnaaFamIn
namespace Go.Proofs.Ytmlnfbageoabnaa
open Go.RowKit
set_option linter.unusedVariables false

/-! ### What one handle leads to -/
theorem len_sub {α : Type} [DecidableEq α] : ∀ (l m : List α), l.Nodup → (∀ x ∈ l, x ∈ m) → l.length ≤ m.length
  | [], _, _, _ => Nat.zero_le _
  | x :: l, m, hn, hs => by
    rw [List.nodup_cons] at hn
    have hx := hs x List.mem_cons_self
    have h1 := len_sub l (m.erase x) hn.2 (fun y hy => (List.mem_erase_of_ne (fun e => hn.1 (by rw [← e]; exact hy))).2 (hs y (List.mem_cons_of_mem _ hy)))
    rw [List.length_erase_of_mem hx] at h1
    have h2 := List.length_pos_of_mem hx
    rw [List.length_cons]; omega
def lowT (L : Int) : Nat → Cells → Int → List Nat
  | 0, _, _ => []
  | f + 1, c, h => match getM c h with
    | none => []
    | some n => if n.1 < L then (h - 2).toNat :: (lowT L f c n.2.1 ++ lowT L f c n.2.2) else []
theorem lowT_none {L : Int} {f : Nat} {c : Cells} {h : Int} (e : getM c h = none) : lowT L (f + 1) c h = [] := by simp only [lowT, e]
theorem lowT_some {L : Int} {f : Nat} {c : Cells} {h : Int} {n : Nd} (e : getM c h = some n) : lowT L (f + 1) c h = if n.1 < L then (h - 2).toNat :: (lowT L f c n.2.1 ++ lowT L f c n.2.2) else [] := by simp only [lowT, e]
theorem lowT_len {L : Int} {c : Cells} (o : Ok c) : ∀ (f : Nat) (h : Int), (lowT L f c h).length ≤ costO (L - topM c h).toNat
  | 0, _ => Nat.zero_le _
  | f + 1, h => by
    cases e : getM c h with
    | none => rw [lowT_none e]; exact Nat.zero_le _
    | some n =>
      obtain ⟨_, _, _, _, k3, k4⟩ := o.kids e
      rw [lowT_some e, top_node e]
      split
      · rename_i hl
        have h1 := lowT_len (L := L) o f n.2.1
        have h2 := lowT_len (L := L) o f n.2.2
        have h3 := costO_mono (show (L - topM c n.2.1).toNat ≤ (L - (n.1 + 1)).toNat by omega)
        have h4 := costO_mono (show (L - topM c n.2.2).toNat ≤ (L - (n.1 + 1)).toNat by omega)
        have h5 := costO_step L n.1
        rw [if_pos hl] at h5
        simp only [List.length_cons, List.length_append]
        omega
      · exact Nat.zero_le _
theorem lowT_head {L : Int} {f : Nat} {c : Cells} {k : Nat} {n : Nd} (hn : c.at k = some n) (hl : n.1 < L) : k ∈ lowT L (f + 1) c ((k : Int) + 2) := by
  rw [lowT_some ((getM_node k).trans hn), if_pos hl, show (((k : Int) + 2) - 2).toNat = k by omega]
  exact List.mem_cons_self
theorem lowT_kid {L : Int} {c : Cells} (o : Ok c) {k k' : Nat} {n n' : Nd} (hn : c.at k = some n) (hn' : c.at k' = some n') (hl : n'.1 < L) (e : n.2.1 = (k' : Int) + 2 ∨ n.2.2 = (k' : Int) + 2) : ∀ (f : Nat) (h : Int), (24 - topM c h).toNat < f → k ∈ lowT L f c h → k' ∈ lowT L f c h
  | 0, _, hf, _ => absurd hf (Nat.not_lt_zero _)
  | f + 1, h, hf, hm => by
    cases g : getM c h with
    | none => rw [lowT_none g] at hm; cases hm
    | some m =>
      obtain ⟨m1, m2, _, _, k3, k4⟩ := o.kids g
      rw [top_node g] at hf
      have t1 := topM_le o m.2.1; have t2 := topM_le o m.2.2
      rw [lowT_some g] at hm ⊢
      split at hm
      · rename_i hml
        rw [if_pos hml]
        rcases List.mem_cons.1 hm with h1 | hm
        · obtain ⟨j, rfl, hj, _⟩ := getM_some g
          obtain rfl : k = j := by omega
          have : m = n := by rw [hn] at hj; exact (Option.some.inj hj).symm
          subst this
          obtain ⟨f', rfl⟩ : ∃ f', f = f' + 1 := ⟨f - 1, by omega⟩
          refine List.mem_cons_of_mem _ (List.mem_append.2 ?_)
          rcases e with e | e
          · rw [e]; exact .inl (lowT_head hn' hl)
          · rw [e]; exact .inr (lowT_head hn' hl)
        · refine List.mem_cons_of_mem _ (List.mem_append.2 ?_)
          rcases List.mem_append.1 hm with hm | hm
          · exact .inl (lowT_kid o hn hn' hl e f _ (by omega) hm)
          · exact .inr (lowT_kid o hn hn' hl e f _ (by omega) hm)
      · cases hm
theorem rch_lowT {L : Int} {c : Cells} (o : Ok c) {h : Int} {k : Nat} (hr : RchC c [h] k) : ∀ n, c.at k = some n → n.1 < L → k ∈ lowT L 25 c h := by
  have hf : (24 - topM c h).toNat < 25 := by have := topM_le o h; omega
  have hinc : ∀ {j j' : Nat} {m m' : Nd}, c.at j = some m → c.at j' = some m' → (m.2.1 = (j' : Int) + 2 ∨ m.2.2 = (j' : Int) + 2) → m.1 < m'.1 := fun {j j' m m'} hj hj' e => by
    obtain ⟨_, _, _, _, k3, k4⟩ := o.kids ((getM_node _).trans hj)
    rcases e with e | e
    · rw [e, top_node ((getM_node _).trans hj')] at k3; exact k3
    · rw [e, top_node ((getM_node _).trans hj')] at k4; exact k4
  refine Rch.ind (Q := fun k => ∀ n, c.at k = some n → n.1 < L → k ∈ lowT L 25 c h) (fun k hu hm n hn hl => ?_) (fun k k' h1 ih hu e n hn hl => ?_) (fun k k' h1 ih hu e n hn hl => ?_) hr
  · rw [← List.mem_singleton.1 hm]; exact lowT_head (f := 24) hn hl
  · obtain ⟨m, hm⟩ := RchC.used h1
    rw [hm] at e
    have h2 := hinc hm hn (.inl e)
    exact lowT_kid o hm hn hl (.inl e) 25 h hf (ih m hm (by omega))
  · obtain ⟨m, hm⟩ := RchC.used h1
    rw [hm] at e
    have h2 := hinc hm hn (.inr e)
    exact lowT_kid o hm hn hl (.inr e) 25 h hf (ih m hm (by omega))
/-- What is left when one handle is kept. -/
theorem lows_sweep_one {L : Int} {c : Cells} (o : Ok c) (h : Int) : lows L (sweepM c [h]) ≤ costO (L - topM c h).toNat := by
  refine Nat.le_trans ?_ (lowT_len (L := L) o 25 h)
  rw [lows_range]
  refine len_sub _ _ (List.Pairwise.filter _ List.nodup_range) (fun k hk => ?_)
  obtain ⟨_, hk⟩ := List.mem_filter.1 hk
  cases e : (sweepM c [h]).at k with
  | none => rw [e] at hk; cases hk
  | some n =>
    rw [e] at hk
    obtain ⟨h1, h2⟩ := sweepM_some.1 e
    exact rch_lowT o h1 n h2 (by simpa [isLow] using hk)

/-! ### A map that is written out -/
theorem wpList_insert_of {P : Program} {α : Type} [DecidableEq α] {w : World} {ops : Array Oper} {rest : List Oper} {o : Oper} {a : Act} {Q : Exit → Act → World → Prop}
    (hg : o.guard = none) (m x v : Operand) (t : TypeId) (hop : o.op = Op.insert t m x v) {kt et : TypeId} {enc : α → Value} (K : KeyTy P kt enc) (ht : P.underlying t = some (.map kt et))
    {b : Nat} (hm : a.eval m = .map (some b)) {l : List (α × Value)} (h : MapOf w b enc l) {k : α} (hx : a.eval x = enc k) (u : Value) (hv : a.eval v = u)
    (hK : ∀ ob, MapOf (setObjW w b ob) b enc (putAssoc l k u) → wpList P ops Q rest (a.put o.dst undef) (setObjW w b ob)) :
    wpList P ops Q (o :: rest) a w := by
  refine wpList_plain hg fun K' hK' => ?_
  obtain ⟨ob, hrun, h2⟩ := h.update K ht k u
  unfold Oper.wp
  simp only [execOp, hop, hm, hx, hv, hrun, Sem.run_bind, Result.andThen_ok, Sem.run_pure]
  exact hK' _ _ (hK ob h2)

/-! ### A family of another store -/
structure CGood (ct c : Cells) (h x : Int) : Prop where
  has : hasM c x = true
  z : ∀ s, Z c x s ↔ Z ct h s
  top : topM ct h ≤ topM c x
theorem CGood.ext {ct c c' : Cells} {h x : Int} (g : CGood ct c h x) (o : Ok c) (o' : Ok c') (e : Ext c c') : CGood ct c' h x :=
  ⟨e.has g.has, fun s => (Z_ext o o' e x g.has s).trans (g.z s), by rw [e.top g.has]; exact g.top⟩
def CMap (w : World) (md : Nat) (ct c : Cells) : Prop := ∃ mq : List (Int × Value), MapOf w md (Value.int .i64) mq ∧ (assoc mq 0).isSome = true ∧ (assoc mq 1).isSome = true ∧ ∀ k v, assoc mq k = some v → ∃ x, v = .int .i64 x ∧ CGood ct c k x
section
variable {w w2 : World} {md : Nat} {ct c c' : Cells}
theorem CMap.lt (h : CMap w md ct c) : md < w.heap.size := by obtain ⟨mq, h1, _⟩ := h; exact h1.lt
theorem CMap.keep (h : CMap w md ct c) (hb : w2.heap[md]? = w.heap[md]?) : CMap w2 md ct c := by
  obtain ⟨mq, h1, h2⟩ := h; exact ⟨mq, h1.block_eq hb, h2⟩
theorem CMap.below (h : CMap w md ct c) (hb : Below w.heap.size w w2) : CMap w2 md ct c := h.keep (hb.block _ h.lt)
theorem CMap.ext (h : CMap w md ct c) (o : Ok c) (o' : Ok c') (e : Ext c c') : CMap w md ct c' := by
  obtain ⟨mq, h1, h2, h3, h4⟩ := h
  exact ⟨mq, h1, h2, h3, fun k v hv => by obtain ⟨x, e1, g⟩ := h4 k v hv; exact ⟨x, e1, g.ext o o' e⟩⟩
theorem CMap.put {mq : List (Int × Value)} (h2 : (assoc mq 0).isSome = true) (h3 : (assoc mq 1).isSome = true) (h4 : ∀ k v, assoc mq k = some v → ∃ x, v = .int .i64 x ∧ CGood ct c k x) {h x : Int} (g : CGood ct c h x) {o : Obj} (hm : MapOf (setObjW w md o) md (Value.int .i64) (putAssoc mq h (.int .i64 x))) : CMap (setObjW w md o) md ct c := by
  refine ⟨_, hm, ?_, ?_, fun k v hv => ?_⟩
  · rw [assoc_put]; split
    · rfl
    · exact h2
  · rw [assoc_put]; split
    · rfl
    · exact h3
  · rw [assoc_put] at hv
    split at hv
    · rename_i e; subst e; cases hv; exact ⟨x, rfl, g⟩
    · exact h4 k v hv
end
structure CpOk (V L : Int) (ct c c' : Cells) (h x : Int) : Prop where
  zok : ZOk V c'
  ext : Ext c c'
  good : CGood ct c' h x
  cnt : lows L c' ≤ lows L c + costO (L - topM ct h).toNat
theorem cpok_node {V L : Int} {ct c c1 c2 : Cells} {h x1 x2 : Int} {n : Nd} {r : Cells × Int × Nat} (ot : ZOk V ct) (g : getM ct h = some n) (K1 : CpOk V L ct c c1 n.2.1 x1) (K2 : CpOk V L ct c1 c2 n.2.2 x2) (N : NodeZ L c2 n.1 x1 x2 r) : CpOk V L ct c r.1 h r.2.1 := by
  obtain ⟨b1, b2, k1, k2, k3, k4⟩ := ot.ok.kids g
  have hvV : n.1 < V := by obtain ⟨k, _, h1, _⟩ := getM_some g; exact ot.vlt k n h1
  have c1' := K1.cnt; have c2' := K2.cnt; have c3' := N.cnt
  have m1 := costO_mono (show (L - topM ct n.2.1).toNat ≤ (L - (n.1 + 1)).toNat by omega)
  have m2 := costO_mono (show (L - topM ct n.2.2).toNat ≤ (L - (n.1 + 1)).toNat by omega)
  have cs := costO_step L n.1
  refine ⟨zok_node K2.zok hvV N, (K1.ext.trans K2.ext).trans N.ext, ⟨N.has, fun s => (N.z s).trans ?_, by rw [top_node g]; exact N.top⟩, by rw [top_node g]; omega⟩
  have e1 : ∀ s, Z c2 x1 s ↔ Z ct n.2.1 s := fun s => (Z_ext K1.zok.ok K2.zok.ok K2.ext x1 K1.good.has s).trans (K1.good.z s)
  rw [mixF_congr e1 K2.good.z s, Z_node ot.ok g]
  exact Iff.rfl

/-- copyOf on its way: the node lies in a box. -/
structure KSt (w wr : World) (s t : Fb) (V : Int) (ct c : Cells) (md : Nat) (n : Nd) : Prop where
  sp : IsStore wr s V c
  tp : IsStore wr t V ct
  done : CMap wr md ct c
  only : Only (famMem s md) w wr
  off : ∀ k, famMem s md k → k < w.heap.size
  lt : w.heap.size + 1 < wr.heap.size
  nb : wr.heap[w.heap.size + 1]? = some (.cells #[.int .i64 n.1, .int .i64 n.2.1, .int .i64 n.2.2] 32 (0, 0))
/-- The stores and the memo lie apart. -/
structure COff (s t : Fb) (md : Nat) : Prop where
  s1 : ¬ s.b.mem md
  s2 : s.ps ≠ md
  t1 : ¬ famMem s md t.ps
  t2 : ∀ k, t.b.mem k → ¬ famMem s md k
section
variable {w wr w2 : World} {s t : Fb} {V : Int} {ct c c' : Cells} {md : Nat} {n : Nd}
theorem KSt.step (h : KSt w wr s t V ct c md n) (q : COff s t md) (ho : Only (famMem s md) wr w2) (hs : IsStore w2 s V c') (hd : CMap w2 md ct c') : KSt w w2 s t V ct c' md n := by
  have hn : ¬ famMem s md (w.heap.size + 1) := fun hk => by have := h.off _ hk; omega
  exact ⟨hs, h.tp.only ho q.t1 q.t2, hd, h.only.trans ho, h.off, Nat.lt_of_lt_of_le h.lt ho.size, (ho.block _ h.lt hn).trans h.nb⟩
theorem KSt.node (h : KSt w wr s t V ct c md n) (q : COff s t md) (ho : Only s.b.mem wr w2) (hs : IsStore w2 s V c') (o : Ok c) (o' : Ok c') (e : Ext c c') : KSt w w2 s t V ct c' md n :=
  h.step q (ho.mono fun _ hk => .inl hk) hs ((h.done.keep (ho.block _ h.done.lt q.s1)).ext o o' e)
theorem KSt.put (h : KSt w wr s t V ct c md n) (q : COff s t md) {mq : List (Int × Value)} (h2 : (assoc mq 0).isSome = true) (h3 : (assoc mq 1).isSome = true) (h4 : ∀ k v, assoc mq k = some v → ∃ x, v = .int .i64 x ∧ CGood ct c k x) {a x : Int} (g : CGood ct c a x) {o : Obj} (hm : MapOf (setObjW wr md o) md (Value.int .i64) (putAssoc mq a (.int .i64 x))) :
    KSt w (setObjW wr md o) s t V ct c md n := by
  have ho : Only (· = md) wr (setObjW wr md o) := ⟨rfl, rfl, rfl, by simp [setObjW], fun k _ hk => setObjW_other o hk⟩
  exact h.step q (ho.mono fun _ hk => .inr hk) (h.sp.only ho q.s2 (fun k hk e => q.s1 (e ▸ hk))) (CMap.put h2 h3 h4 g hm)
theorem kst_start (h : IsStore w s V c) (ht : IsStore w t V ct) (hd : CMap w md ct c) (X : Obj) : KSt w ((w.alloc X).alloc (.cells #[.int .i64 n.1, .int .i64 n.2.1, .int .i64 n.2.2] 32)) s t V ct c md n := by
  have hb : Below w.heap.size w ((w.alloc X).alloc (.cells #[.int .i64 n.1, .int .i64 n.2.1, .int .i64 n.2.2] 32)) := ((Below.refl _ _).alloc (Nat.le_refl _) _).alloc (by simp) _
  have l := hd.lt
  exact ⟨h.below hb, ht.below hb, hd.below hb, Only.of_below hb rfl, fun k hk => hk.elim (fun hk => h.lt hk) (fun hk => hk ▸ l), by simp, heap_at (by simp)⟩
theorem KSt.b0 (h : KSt w wr s t V ct c md n) : wr.cell? ⟨w.heap.size + 1, 0, none⟩ = some (.int .i64 n.1) := by rw [cell_of_row wr _ _ _ _ _ h.nb]; rfl
theorem KSt.b1 (h : KSt w wr s t V ct c md n) : wr.cell? ⟨w.heap.size + 1, 1, none⟩ = some (.int .i64 n.2.1) := by rw [cell_of_row wr _ _ _ _ _ h.nb]; rfl
theorem KSt.b2 (h : KSt w wr s t V ct c md n) : wr.cell? ⟨w.heap.size + 1, 2, none⟩ = some (.int .i64 n.2.2) := by rw [cell_of_row wr _ _ _ _ _ h.nb]; rfl
end
def CPost (V L : Int) (s : Fb) (md : Nat) (ct c : Cells) (h : Int) (w : World) (e : Ending) (w' : World) : Prop :=
  ∃ c' x, e = .returned (.tuple #[.int .i64 x, .nilIface]) ∧ IsStore w' s V c' ∧ CMap w' md ct c' ∧ Only (famMem s md) w w' ∧ CpOk V L ct c c' h x

set_option maxRecDepth 100000 in
set_option maxHeartbeats 8000000 in
theorem copy_in {V L : Int} (hV : V ≤ 24) (hL : V ≤ L + 3) {s t : Fb} (md : Nat) (q : COff s t md) {ct : Cells} (ot : ZOk V ct) : ∀ (f : Nat) (h : Int) (w : World) (c : Cells), IsStore w s V c → IsStore w t V ct → CMap w md ct c → ZOk V c → hasM ct h = true → (24 - topM ct h).toNat < f → lows L c + costO (L - topM ct h).toNat + hiB V L < c.length →
    Calls Try.prog 101 #[.pointer (some ⟨s.ps, 0, none⟩), .pointer (some ⟨t.ps, 0, none⟩), .int .i64 h, .map (some md)] w (CPost V L s md ct c h w)
  | 0, _, _, _, _, _, _, _, _, hf, _ => absurd hf (Nat.not_lt_zero _)
  | f + 1, h, w, c, hs, ht, hd, zo, hh, hf, hr => by
    have Hih := Lib.hid (copy_in hV hL md q ot (s := s) f)
    obtain ⟨mq, hmq, hm0, hm1, hmv⟩ := hd
    have hd : CMap w md ct c := ⟨mq, hmq, hm0, hm1, hmv⟩
    have Hq := Lib.hid q; have Hot := Lib.hid ot
    cases e : assoc mq h with
    | some v =>
      obtain ⟨x, rfl, gd⟩ := hmv h v e
      have Hs := Lib.hid hs; have Hd := Lib.hid hd; have Hz := Lib.hid zo; have Hgd := Lib.hid gd; have Hmq := Lib.hid hmq; have He := Lib.hid e
      clear hs ht hd zo hh hf hr hm0 hm1 hmv gd hmq e q ot
      go_enter Try.func101, Try.ntmps101
      go_wp2_with (at_lookup; refine wpList_lookup_of rfl (.tmp 19) (.tmp 20) 95 true rfl (kt := 3) (et := 3) (enc := Value.int .i64) (intKey Try.underlying3) Try.underlying95 (zeroInt _) (b := md) rfl (l := mq) Hmq.out (k := h) rfl ?_; rw [He.out]; simp only [Option.getD_some, Option.isSome_some, if_true])
      go_ret2
      exact ⟨c, x, rfl, Hs.out, Hd.out, Only.refl _ _, Hz.out, Ext.refl _, Hgd.out, Nat.le_add_right _ _⟩
    | none =>
      cases g : getM ct h with
      | none =>
        exfalso
        rcases getM_none_of_has hh g with rfl | rfl
        · rw [e] at hm0; cases hm0
        · rw [e] at hm1; cases hm1
      | some n =>
        obtain ⟨u, lo, hi⟩ := n
        obtain ⟨b1, b2, k1, k2, k3, k4⟩ := ot.ok.kids g
        have htop := top_node g
        dsimp only at b1 b2 k1 k2 k3 k4 htop
        rw [htop] at hf hr
        have hkt := kst_start (n := (u, lo, hi)) hs ht hd (.cells #[.int .i64 u, .int .i64 lo, .int .i64 hi] 32)
        have hg := get_any h w t.b ct ht.ar (ht.le hh)
        rw [g] at hg
        have c0 := ht.s0
        have lps := ht.lps
        have m1 := costO_mono (show (L - topM ct lo).toNat ≤ (L - (u + 1)).toNat by omega)
        have m2 := costO_mono (show (L - topM ct hi).toNat ≤ (L - (u + 1)).toNat by omega)
        have cs := costO_step L u
        have hf1 : (24 - topM ct lo).toNat < f := by omega
        have hf2 : (24 - topM ct hi).toNat < f := by omega
        have hq1 := Hih.out lo _ c hkt.sp hkt.tp hkt.done zo k1 hf1 (by omega)
        have He := Lib.hid e; have Hmq := Lib.hid hmq; have Hg := Lib.hid hg; have G := Lib.hid g; have Hkt := Lib.hid hkt; have Hz := Lib.hid zo; have Hr := Lib.hid hr; have B1 := Lib.hid b1; have B2 := Lib.hid b2; have K1 := Lib.hid k1; have K2 := Lib.hid k2; have K3 := Lib.hid k3; have K4 := Lib.hid k4; have M1 := Lib.hid m1; have M2 := Lib.hid m2; have Hcs := Lib.hid cs; have Hf2 := Lib.hid hf2; have Hq1 := Lib.hid hq1
        clear e hmq hg g hkt zo hr b1 b2 k1 k2 k3 k4 m1 m2 cs hf1 hf2 hq1 htop hs ht hd hh hf hm0 hm1 hmv q ot
        go_enter Try.func101, Try.ntmps101
        go_wp2_with (at_lookup; refine wpList_lookup_of rfl (.tmp 19) (.tmp 20) 95 true rfl (kt := 3) (et := 3) (enc := Value.int .i64) (intKey Try.underlying3) Try.underlying95 (zeroInt _) (b := md) rfl (l := mq) Hmq.out (k := h) rfl ?_; rw [He.out]; simp only [Option.getD_none, Option.isSome_none, if_true])
        refine Hg.out.mono ?_
        rintro e w1 ⟨rfl, rfl⟩
        simp only [gotV, encNd, Option.getD_some, Option.isSome_some]
        go_wp2_with fail
        have ti := Hkt.out; clear Hkt c0
        generalize (w.alloc (.cells #[.int .i64 u, .int .i64 lo, .int .i64 hi] 32)).alloc (.cells #[.int .i64 u, .int .i64 lo, .int .i64 hi] 32) = w2 at ti Hq1 ⊢
        refine Hq1.out.mono ?_
        rintro e w3 ⟨c1, x1, rfl, hs3, hd3, ho3, p1⟩
        have t3 := ti.step Hq.out ho3 hs3 hd3
        have d2 := t3.b2
        dsimp only at d2
        have hl1 := p1.ext.len; have hn1 := p1.cnt
        have hq2 := Hih.out hi w3 c1 t3.sp t3.tp t3.done p1.zok K2.out Hf2.out (by have := Hr.out; have := M1.out; have := M2.out; have := Hcs.out; omega)
        have Hq2 := Lib.hid hq2; have T3 := Lib.hid t3; have P1 := Lib.hid p1
        clear hq2 t3 p1 hs3 hd3 ho3 ti Hq1 hl1 hn1
        go_wp2_with fail
        refine Hq2.out.mono ?_
        rintro e w4 ⟨c2, x2, rfl, hs4, hd4, ho4, p2⟩
        have t4 := T3.out.step Hq.out ho4 hs4 hd4
        have d0 := t4.b0
        dsimp only at d0
        have h1c2 : hasM c2 x1 = true := p2.ext.has P1.out.good.has
        have u1 : u < topM c2 x1 := by rw [p2.ext.top P1.out.good.has]; have := P1.out.good.top; have := K3.out; omega
        have u2 : u < topM c2 x2 := by have := p2.good.top; have := K4.out; omega
        have hn := nodeZ_spec L p2.zok.ok p2.zok.red B1.out B2.out h1c2 p2.good.has u1 u2 (by
          have h5 := cnt_lows p2.zok hL; have h6 := Hr.out; have h7 := Hcs.out; have h8 := P1.out.ext.len; have h8' := p2.ext.len; have h9 := P1.out.cnt; have h9' := p2.cnt; have := M1.out; have := M2.out; omega)
        have mk := cpok_node Hot.out G.out P1.out p2 hn
        have hq := fnode_any u x1 x2 w4 s V c2 t4.sp (t4.sp.le h1c2) (t4.sp.le p2.good.has)
        have hnx := hn.ext; have hnok := hn.ok
        rw [hn.err] at hq
        simp only [errV, if_true] at hq
        generalize nodeZ c2 u x1 x2 = R at hq mk hnx hnok
        obtain ⟨c4, x4, n4⟩ := R
        dsimp only at hq mk hnx hnok
        have Hq4 := Lib.hid hq; have Hmk := Lib.hid mk; have T4 := Lib.hid t4; have Hnx := Lib.hid hnx; have Hnok := Lib.hid hnok; have P2 := Lib.hid p2
        clear hq mk t4 hnx hnok p2 hn h1c2 u1 u2 hs4 hd4 ho4 Hq2 d2 T3
        go_wp2_with fail
        refine Hq4.out.mono ?_
        rintro e w5 ⟨rfl, hs5, ho5⟩
        have t5 := T4.out.node Hq.out ho5 hs5 P2.out.zok.ok Hnok.out Hnx.out
        obtain ⟨mq5, hmq5, hm50, hm51, hmv5⟩ := t5.done
        have T5 := Lib.hid t5; have Hmq5 := Lib.hid hmq5; have Hm50 := Lib.hid hm50; have Hm51 := Lib.hid hm51; have Hmv5 := Lib.hid hmv5
        clear t5 hmq5 hm50 hm51 hmv5 hs5 ho5 d0 Hq4 T4
        go_wp2_with (at_mapUpdate; refine wpList_mapUpdate_of rfl (.tmp 68) (.tmp 69) (.tmp 70) 95 rfl (kt := 3) (et := 3) (enc := Value.int .i64) (intKey Try.underlying3) Try.underlying95 (b := md) rfl (l := mq5) Hmq5.out (k := h) rfl (.int .i64 x4) rfl ?_; intro ob hob; have hi8 := T5.out.put Hq.out Hm50.out Hm51.out Hmv5.out Hmk.out.good hob; have Hi8 := Lib.hid hi8; clear hi8 hob T5; generalize setObjW w5 md ob = w8 at Hi8 ⊢)
        go_ret2
        exact ⟨c4, x4, rfl, Hi8.out.sp, Hi8.out.done, Hi8.out.only, Hmk.out⟩
end Go.Proofs.Ytmlnfbageoabnaa
