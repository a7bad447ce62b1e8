/- Contracts: (*bdd.Space).set. -/
import Derived.Test.YtdeaficdfooegaaDoorIte
import Derived.Test.YtdeaficdfooegaaDoorSetM
namespace Go.Proofs.YtdeaficdfooegaaDoor
open Go.RowKit
set_option linter.unusedVariables false

/-- Block md holds what was done. -/
def DoneAt (w : World) (md : Nat) (d : Done) : Prop := ∃ mq : List (Int × Value), MapOf w md (Value.int .i64) mq ∧ ∀ k, assoc mq k = (d k).map (Value.int .i64)
theorem DoneAt.keep {w w' : World} {md : Nat} {d : Done} (h : DoneAt w md d) (hb : w'.heap[md]? = w.heap[md]?) : DoneAt w' md d := by
  obtain ⟨mq, h1, h2⟩ := h; exact ⟨mq, h1.block_eq hb, h2⟩
theorem DoneAt.lt {w : World} {md : Nat} {d : Done} (h : DoneAt w md d) : md < w.heap.size := by obtain ⟨mq, h1, _⟩ := h; exact h1.lt

def setMem (s : Sb) (md : Nat) (k : Nat) : Prop := s.b.mem k ∨ k = md

/-- set on its way: the node lies in a box. -/
structure TSt (w wr : World) (s : Sb) (V : Int) (st : Sp) (md : Nat) (d : Done) (n : Nd) : Prop where
  sp : IsSpace wr s V st
  done : DoneAt wr md d
  only : Only (setMem s md) w wr
  off : ∀ k, setMem s md k → k < w.heap.size
  off2 : ¬ s.mem md ∧ s.ps ≠ md
  lt : w.heap.size + 1 < wr.heap.size
  b0 : wr.cell? ⟨w.heap.size + 1, 0, none⟩ = some (.int .i64 n.1)
  b1 : wr.cell? ⟨w.heap.size + 1, 1, none⟩ = some (.int .i64 n.2.1)
  b2 : wr.cell? ⟨w.heap.size + 1, 2, none⟩ = some (.int .i64 n.2.2)

def SetPost (s : Sb) (V : Int) (md : Nat) (q : Int × Int × Int → Option Int) (r : Cells × Done × Int × Nat) (w : World) (e : Ending) (w' : World) : Prop :=
  e = .returned (.tuple #[.int .i64 r.2.2.1, errV r.2.2.2]) ∧ IsSpace w' s V ⟨r.1, q⟩ ∧ DoneAt w' md r.2.1 ∧ Only (setMem s md) w w'

theorem setM_go {V : Int} (hV : V ≤ 24) {v : Int} {is : Bool} {f : Nat} {c : Cells} {d : Done} {h : Int} {n : Nd} (co : COk V c) (dk : DOk c d v is) (hh : hasM c h = true) (hf : (24 - topM c h).toNat < f + 1) (hr : cnt c + 2 ^ (V - topM c h).toNat ≤ c.length + 1)
    (g : getM c h = some n) (hv : ¬ v < n.1) (hq : ¬ n.1 = v) (hd : d h = none) :
    ∃ R1 R2 R3, R1 = setM f c d n.2.1 v is ∧ R2 = setM f R1.1 R1.2.1 n.2.2 v is ∧ R3 = nodeM R2.1 n.1 R1.2.2.1 R2.2.2.1 ∧ setM (f + 1) c d h v is = (R3.1, putD R2.2.1 h R3.2.1, R3.2.1, 0) ∧
      SetOk V c n.2.1 v is R1 ∧ SetOk V R1.1 n.2.2 v is R2 ∧ R3.2.2 = 0 ∧ hasM c n.2.1 = true ∧ hasM c n.2.2 = true ∧ (24 - topM c n.2.1).toNat < f ∧ cnt c + 2 ^ (V - topM c n.2.1).toNat ≤ c.length + 1 ∧ (24 - topM R1.1 n.2.2).toNat < f ∧ cnt R1.1 + 2 ^ (V - topM R1.1 n.2.2).toNat ≤ R1.1.length + 1 := by
  obtain ⟨b1, b2, k1, k2, k3, k4⟩ := co.ok.kids g
  have ht := top_node g
  have hnV : n.1 < V := by obtain ⟨k, rfl, h3, _⟩ := getM_some g; exact co.vlt k n h3
  rw [ht] at hr hf
  have sp := two_pow_split hnV
  have p2 := two_pow_pos (V - (n.1 + 1)).toNat
  have w1 := two_pow_le (show (V - topM c n.2.1).toNat ≤ (V - (n.1 + 1)).toNat by omega)
  have r1 := setM_spec V hV v is f c d n.2.1 co dk k1 (by omega) (by omega)
  obtain ⟨R1, hR1⟩ : ∃ R, R = setM f c d n.2.1 v is := ⟨_, rfl⟩
  rw [← hR1] at r1
  have E1 := r1.ext
  have c1 := r1.cnt
  have L1 := E1.len
  have t2 : topM R1.1 n.2.2 = topM c n.2.2 := E1.top k2
  have w2 := two_pow_le (show (V - topM R1.1 n.2.2).toNat ≤ (V - (n.1 + 1)).toNat by omega)
  have r2 := setM_spec V hV v is f R1.1 R1.2.1 n.2.2 r1.cok r1.dok (E1.has k2) (by omega) (by omega)
  obtain ⟨R2, hR2⟩ : ∃ R, R = setM f R1.1 R1.2.1 n.2.2 v is := ⟨_, rfl⟩
  rw [← hR2] at r2
  have E2 := r2.ext
  have c2 := r2.cnt
  have L2 := E2.len
  have u1 : n.1 < topM R2.1 R1.2.2.1 := by rw [E2.top r1.has]; have := r1.top; omega
  have u2 : n.1 < topM R2.1 R2.2.2.1 := by have := r2.top; omega
  have r3 := nodeM_spec r2.cok.ok r2.cok.red b1 b2 (E2.has r1.has) r2.has u1 u2 (by omega)
  refine ⟨R1, R2, _, hR1, hR2, rfl, ?_, r1, r2, r3.err, k1, k2, by omega, by omega, by omega, by omega⟩
  rw [setM, g]
  simp only [if_neg hv, if_neg hq, hd]
  rw [← hR1, if_neg (by rw [r1.err]; simp), ← hR2, if_neg (by rw [r2.err]; simp), r3.err]

section
variable {w wr w2 : World} {s : Sb} {V : Int} {st st' : Sp} {md : Nat} {d d' : Done} {n : Nd}
theorem TSt.grow (h : TSt w wr s V st md d n) (hb : Below wr.heap.size wr w2) : TSt w w2 s V st md d n :=
  ⟨h.sp.below hb, h.done.keep (hb.block _ h.done.lt), h.only.trans (Only.of_below hb rfl), h.off, h.off2, Nat.lt_of_lt_of_le h.lt hb.size, (hb.cell h.lt).trans h.b0, (hb.cell h.lt).trans h.b1, (hb.cell h.lt).trans h.b2⟩
theorem TSt.step (h : TSt w wr s V st md d n) (ho : Only (setMem s md) wr w2) (hs : IsSpace w2 s V st') (hd : DoneAt w2 md d') : TSt w w2 s V st' md d' n := by
  have hn : ¬ setMem s md (w.heap.size + 1) := fun hk => by have := h.off _ hk; omega
  exact ⟨hs, hd, h.only.trans ho, h.off, h.off2, Nat.lt_of_lt_of_le h.lt ho.size, (ho.cell h.lt hn).trans h.b0, (ho.cell h.lt hn).trans h.b1, (ho.cell h.lt hn).trans h.b2⟩
theorem TSt.node (h : TSt w wr s V st md d n) (ho : Only s.b.mem wr w2) (hs : IsSpace w2 s V st') : TSt w w2 s V st' md d n :=
  h.step (ho.mono fun _ hk => .inl hk) hs (h.done.keep (ho.block _ h.done.lt (fun e => h.off2.1 (.inl e))))
theorem TSt.put (h : TSt w wr s V st md d n) {mq : List (Int × Value)} (hq : ∀ k, assoc mq k = (d k).map (Value.int .i64)) {a x : Int} {o : Obj} (hm : MapOf (setObjW wr md o) md (Value.int .i64) (putAssoc mq a (.int .i64 x))) :
    TSt w (setObjW wr md o) s V st md (putD d a x) n := by
  have ho : Only (· = md) wr (setObjW wr md o) := ⟨rfl, rfl, rfl, by simp [setObjW], fun k _ hk => setObjW_other o hk⟩
  refine h.step (ho.mono fun _ hk => .inr hk) (h.sp.only ho h.off2.2 (fun k hk e => h.off2.1 (e ▸ hk))) ⟨_, hm, fun k => ?_⟩
  rw [assoc_put]
  unfold putD
  split
  · rfl
  · exact hq k
theorem tst_start (h : IsSpace w s V st) (hd : DoneAt w md d) (ho : ¬ s.mem md ∧ s.ps ≠ md) (X : Obj) : TSt w ((w.alloc X).alloc (.cells #[.int .i64 n.1, .int .i64 n.2.1, .int .i64 n.2.2] 106)) s V st md d n := by
  have hb : Below w.heap.size w ((w.alloc X).alloc (.cells #[.int .i64 n.1, .int .i64 n.2.1, .int .i64 n.2.2] 106)) := ((Below.refl _ _).alloc (Nat.le_refl _) _).alloc (by simp) _
  have l := hd.lt
  exact ⟨h.below hb, hd.keep (hb.block _ hd.lt), Only.of_below hb rfl, fun k hk => (hk.elim (fun hk => h.lt (.inl hk)) (fun hk => hk ▸ l)), ho, by simp, by simp, by simp, by simp⟩
end

def setArgs (s : Sb) (h v : Int) (is : Bool) (md : Nat) : Array Value := #[.pointer (some ⟨s.ps, 0, none⟩), .int .i64 h, .int .i64 v, .bool is, .map (some md)]

set_option maxRecDepth 100000 in
set_option maxHeartbeats 8000000 in
theorem set_in (V : Int) (hV : V ≤ 24) (v : Int) (is : Bool) (md : Nat) (q : Int × Int × Int → Option Int) : ∀ (f : Nat) (h : Int) (w : World) (s : Sb) (c : Cells) (d : Done), IsSpace w s V ⟨c, q⟩ → DoneAt w md d → (¬ s.mem md ∧ s.ps ≠ md) → COk V c → DOk c d v is → hasM c h = true →
    (24 - topM c h).toNat < f → cnt c + 2 ^ (V - topM c h).toNat ≤ c.length + 1 →
    Calls Tryd.prog 113 #[.pointer (some ⟨s.ps, 0, none⟩), .int .i64 h, .int .i64 v, .bool is, .map (some md)] w (SetPost s V md q (setM f c d h v is) w)
  | 0, _, _, _, _, _, _, _, _, _, _, _, hf, _ => absurd hf (Nat.not_lt_zero _)
  | f + 1, h, w, s, c, d, hs, hd, hoff, co, dk, hh, hf, hr => by
    have Hih := Lib.hid (set_in V hV v is md q f)
    have Hs := Lib.hid hs; have Hd := Lib.hid hd; have Hoff := Lib.hid hoff; have Hco := Lib.hid co; have Hdk := Lib.hid dk; have Hhh := Lib.hid hh; have Hf := Lib.hid hf; have Hr := Lib.hid hr
    have hlen := hs.ar.len
    dsimp only at hlen
    have hR := hs.ar.room.2
    have lh : h ≤ 9223372036854775807 := by have := hasM_le hh; omega
    have c0 := hs.s0
    have hg := get_any h w s.b c hs.ar lh
    have Hlen := Lib.hid hlen
    clear hs hd hoff co dk hh hf hr hlen hR
    cases g : getM c h with
    | none =>
      have e : setM (f + 1) c d h v is = (c, d, h, 0) := by rw [setM, g]
      rw [e]
      clear e
      rw [g] at hg
      have Hg := Lib.hid hg; clear hg g
      go_enter Tryd.func113, Tryd.ntmps113
      go_wp2_with fail
      refine Hg.out.mono ?_
      rintro e w1 ⟨rfl, rfl⟩
      simp only [gotV, encNd, Option.getD_none, Option.isSome_none]
      go_wp2_with fail
      go_ret2
      have hb : Below w.heap.size w ((w.alloc (.cells #[.int .i64 0, .int .i64 0, .int .i64 0] 106)).alloc (.cells #[.int .i64 0, .int .i64 0, .int .i64 0] 106)) := ((Below.refl _ _).alloc (Nat.le_refl _) _).alloc (by simp) _
      exact ⟨rfl, Hs.out.below hb, Hd.out.keep (hb.block _ Hd.out.lt), Only.of_below hb rfl⟩
    | some n =>
      obtain ⟨u, lo, hi⟩ := n
      obtain ⟨b1, b2, k1, k2, k3, k4⟩ := Hco.out.ok.kids g
      have hts := tst_start (n := (u, lo, hi)) Hs.out Hd.out Hoff.out (.cells #[.int .i64 u, .int .i64 lo, .int .i64 hi] 106)
      rw [g] at hg
      have Hg := Lib.hid hg; have G := Lib.hid g; have Hts := Lib.hid hts; clear hg g hts
      by_cases hv : v < u
      · have e : setM (f + 1) c d h v is = (c, d, h, 0) := by rw [setM, G.out]; simp only [if_pos hv]
        rw [e]
        clear e
        go_enter Tryd.func113, Tryd.ntmps113
        go_wp2_with fail
        refine Hg.out.mono ?_
        rintro e w1 ⟨rfl, rfl⟩
        simp only [gotV, encNd, Option.getD_some, Option.isSome_some]
        have e1 : decide (v < u) = true := by simpa using hv
        go_wp2_with fail
        go_ret2
        exact ⟨rfl, Hts.out.sp, Hts.out.done, Hts.out.only⟩
      · have e1 : decide (v < u) = false := by simpa using hv
        by_cases hu : u = v
        · subst hu
          have e : setM (f + 1) c d h u is = (c, d, if is then hi else lo, 0) := by rw [setM, G.out]; simp only [if_neg hv, if_pos]
          rw [e]
          clear e
          cases is
          · go_enter Tryd.func113, Tryd.ntmps113
            go_wp2_with fail
            refine Hg.out.mono ?_
            rintro e w1 ⟨rfl, rfl⟩
            simp only [gotV, encNd, Option.getD_some, Option.isSome_some]
            go_wp2_with fail
            go_ret2
            exact ⟨rfl, Hts.out.sp, Hts.out.done, Hts.out.only⟩
          · go_enter Tryd.func113, Tryd.ntmps113
            go_wp2_with fail
            refine Hg.out.mono ?_
            rintro e w1 ⟨rfl, rfl⟩
            simp only [gotV, encNd, Option.getD_some, Option.isSome_some]
            go_wp2_with fail
            go_ret2
            exact ⟨rfl, Hts.out.sp, Hts.out.done, Hts.out.only⟩
        · have e2 : (u == v) = false := by simpa using hu
          cases hd : d h with
          | some x =>
            have e : setM (f + 1) c d h v is = (c, d, x, 0) := by rw [setM, G.out]; simp only [if_neg hv, if_neg hu, hd]
            rw [e]
            clear e
            go_enter Tryd.func113, Tryd.ntmps113
            go_wp2_with fail
            refine Hg.out.mono ?_
            rintro e w1 ⟨rfl, rfl⟩
            simp only [gotV, encNd, Option.getD_some, Option.isSome_some]
            obtain ⟨mq, hmq, hmv⟩ := Hts.out.done
            go_wp2_with (at_lookup; refine wpList_lookup_of rfl (.tmp 57) (.tmp 58) 179 true rfl (kt := 3) (et := 3) (enc := Value.int .i64) (intKey Tryd.underlying3) Tryd.underlying179 (zeroInt _) (b := md) rfl (l := mq) hmq (k := h) rfl ?_; rw [hmv, hd]; simp only [Option.map_some, Option.getD_some, Option.isSome_some, if_true])
            go_ret2
            exact ⟨rfl, Hts.out.sp, Hts.out.done, Hts.out.only⟩
          | none =>
            obtain ⟨R1, R2, R3, hR1, hR2, hR3, he, s1, s2, er3, hk1, hk2, f1, r1, f2, r2⟩ := setM_go hV Hco.out Hdk.out Hhh.out Hf.out Hr.out G.out hv hu hd
            rw [he]
            clear he
            dsimp only at hR1 hR2 hR3 s1 s2 hk1 hk2 f1 r1 f2 r2
            have len1 := s1.ext.len; have len2 := s2.ext.len
            have l1 : R1.2.2.1 ≤ 9223372036854775807 := by have := hasM_le s1.has; have := Hlen.out; have := Hs.out.ar.room.2; omega
            have l2 : R2.2.2.1 ≤ 9223372036854775807 := by have := hasM_le s2.has; have := Hlen.out; have := Hs.out.ar.room.2; omega
            have HR1 := Lib.hid hR1; have HR2 := Lib.hid hR2; have HR3 := Lib.hid hR3; have Hs1 := Lib.hid s1; have Hs2 := Lib.hid s2; have Her3 := Lib.hid er3; have Hk1 := Lib.hid hk1; have Hk2 := Lib.hid hk2
            have Hf1 := Lib.hid f1; have Hr1 := Lib.hid r1; have Hf2 := Lib.hid f2; have Hr2 := Lib.hid r2; have Hd0 := Lib.hid hd
            clear hR1 hR2 hR3 s1 s2 er3 hk1 hk2 f1 r1 f2 r2 len1 len2 hd hu hv
            go_enter Tryd.func113, Tryd.ntmps113
            go_wp2_with fail
            refine Hg.out.mono ?_
            rintro e w1 ⟨rfl, rfl⟩
            simp only [gotV, encNd, Option.getD_some, Option.isSome_some]
            obtain ⟨mq, hmq, hmv⟩ := Hts.out.done
            have hnone : assoc mq h = none := by rw [hmv, Hd0.out]; rfl
            have Hmq := Lib.hid hmq; have Hnone := Lib.hid hnone; clear hmq hmv hnone
            go_wp2_with (at_lookup; refine wpList_lookup_of rfl (.tmp 57) (.tmp 58) 179 true rfl (kt := 3) (et := 3) (enc := Value.int .i64) (intKey Tryd.underlying3) Tryd.underlying179 (zeroInt _) (b := md) rfl (l := mq) Hmq.out (k := h) rfl ?_; rw [Hnone.out]; simp only [Option.getD_none, Option.isSome_none, if_true])
            have ti := Hts.out; clear Hts
            generalize (w.alloc (.cells #[.int .i64 u, .int .i64 lo, .int .i64 hi] 106)).alloc (.cells #[.int .i64 u, .int .i64 lo, .int .i64 hi] 106) = w2 at ti ⊢
            have b0 := ti.b0
            have b1 := ti.b1
            have b2 := ti.b2
            have Hi2 := Lib.hid ti; clear ti
            dsimp only at b0 b1 b2
            have hr1 := Hih.out lo w2 s c d Hi2.out.sp Hi2.out.done Hi2.out.off2 Hco.out Hdk.out Hk1.out Hf1.out Hr1.out
            rw [← HR1.out] at hr1
            have Hq1 := Lib.hid hr1; clear hr1
            go_wp2_with fail
            refine Hq1.out.mono ?_
            rintro e w5 ⟨rfl, hs5, hd5, ho5⟩
            have ti := Hi2.out.step ho5 hs5 hd5; clear hs5 hd5 ho5 Hi2 Hq1 b0 b1 b2
            have b0 := ti.b0
            have b1 := ti.b1
            have b2 := ti.b2
            have Hi5 := Lib.hid ti; clear ti
            dsimp only at b0 b1 b2
            rw [Hs1.out.err]
            simp only [errV, if_true]
            have hr2 := Hih.out hi w5 s R1.1 R1.2.1 Hi5.out.sp Hi5.out.done Hi5.out.off2 Hs1.out.cok Hs1.out.dok (Hs1.out.ext.has Hk2.out) Hf2.out Hr2.out
            rw [← HR2.out] at hr2
            have Hq2 := Lib.hid hr2; clear hr2
            go_wp2_with fail
            refine Hq2.out.mono ?_
            rintro e w6 ⟨rfl, hs6, hd6, ho6⟩
            have ti := Hi5.out.step ho6 hs6 hd6; clear hs6 hd6 ho6 Hi5 Hq2 b0 b1 b2
            have b0 := ti.b0
            have b1 := ti.b1
            have b2 := ti.b2
            have Hi6 := Lib.hid ti; clear ti
            dsimp only at b0 b1 b2
            rw [Hs2.out.err]
            simp only [errV, if_true]
            have hn3 := node_any u R1.2.2.1 R2.2.2.1 w6 s V ⟨R2.1, q⟩ Hi6.out.sp l1 l2
            dsimp only at hn3
            rw [← HR3.out] at hn3
            have Hq3 := Lib.hid hn3; clear hn3
            go_wp2_with fail
            refine Hq3.out.mono ?_
            rintro e w7 ⟨rfl, hs7, ho7⟩
            have ti := Hi6.out.node ho7 hs7; clear hs7 ho7 Hi6 Hq3 b0 b1 b2
            rw [Her3.out]
            simp only [errV, if_true]
            obtain ⟨mq7, hmq7, hmv7⟩ := ti.done
            have Hi7 := Lib.hid ti; have Hmq7 := Lib.hid hmq7; have Hmv7 := Lib.hid hmv7; clear ti hmq7 hmv7
            go_wp2_with (at_mapUpdate; refine wpList_mapUpdate_of rfl (.tmp 99) (.tmp 100) (.tmp 101) 179 rfl (kt := 3) (et := 3) (enc := Value.int .i64) (intKey Tryd.underlying3) Tryd.underlying179 (b := md) rfl (l := mq7) Hmq7.out (k := h) rfl (.int .i64 R3.2.1) rfl ?_; intro ob hob; have hi8 := Hi7.out.put Hmv7.out hob; have Hi8 := Lib.hid hi8; clear hi8 hob Hi7; generalize setObjW w7 md ob = w8 at Hi8 ⊢)
            go_ret2
            exact ⟨rfl, Hi8.out.sp, Hi8.out.done, Hi8.out.only⟩
end Go.Proofs.YtdeaficdfooegaaDoor
