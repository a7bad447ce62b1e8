/- Some texts in one: Set, SetOps, Row, Own2, Holds, Stp, Steps, LitM, FunsM. -/
import Derived.Test.YthmflcmbaldflaaGreatDoorIpE
import Derived.Test.YthmflcmbaldflaaGreatDoorIpA
import Derived.Test.YthmflcmbaldflaaGreatDoorIpB
import Derived.ProofKit
import Derived.OpenShut
import Derived.SizedLaws
import Derived.Deep.Matrix
import Derived.Carry
import Derived.Test.YthmflcmbaldflaaGreatDoorIpD
import Derived.Deep.Slices
import Derived.Lib.SmallJoins
import Derived.Laws.Bits64b
namespace Go.Proofs.YthmflcmbaldflaaGreatDoor
open Go.RowKit
set_option linter.unusedVariables false

/-- Block md holds what was done. -/
def DoneAt (w : World) (md : Nat) (d : Done) : Prop := ∃ mq : List (Int × Value), MapOf w md (Value.int .i64) mq ∧ ∀ k, assoc mq k = (d k).map (Value.int .i64)
theorem DoneAt.keep {w w' : World} {md : Nat} {d : Done} (h : DoneAt w md d) (hb : w'.heap[md]? = w.heap[md]?) : DoneAt w' md d := by
  obtain ⟨mq, h1, h2⟩ := h; exact ⟨mq, h1.block_eq hb, h2⟩
theorem DoneAt.lt {w : World} {md : Nat} {d : Done} (h : DoneAt w md d) : md < w.heap.size := by obtain ⟨mq, h1, _⟩ := h; exact h1.lt

def setMem (s : Sb) (md : Nat) (k : Nat) : Prop := s.b.mem k ∨ k = md

/-- set on its way: the node lies in a box. -/
structure TSt (w wr : World) (s : Sb) (V : Int) (st : Sp) (md : Nat) (d : Done) (n : Nd) : Prop where
  sp : IsSpace wr s V st
  done : DoneAt wr md d
  only : Only (setMem s md) w wr
  off : ∀ k, setMem s md k → k < w.heap.size
  off2 : ¬ s.mem md ∧ s.ps ≠ md
  lt : w.heap.size + 1 < wr.heap.size
  b0 : wr.cell? ⟨w.heap.size + 1, 0, none⟩ = some (.int .i64 n.1)
  b1 : wr.cell? ⟨w.heap.size + 1, 1, none⟩ = some (.int .i64 n.2.1)
  b2 : wr.cell? ⟨w.heap.size + 1, 2, none⟩ = some (.int .i64 n.2.2)

def SetPostB (s : Sb) (V : Int) (md : Nat) (q : Int × Int × Int → Option Int) (r : Cells × Done × Int × Nat) (w : World) (e : Ending) (w' : World) : Prop :=
  e = .returned (.tuple #[.int .i64 r.2.2.1, errV r.2.2.2]) ∧ IsSpace w' s V ⟨r.1, q⟩ ∧ DoneAt w' md r.2.1 ∧ Only (setMem s md) w w'

theorem setM_go {V : Int} (hV : V ≤ 24) {v : Int} {is : Bool} {f : Nat} {c : Cells} {d : Done} {h : Int} {n : Nd} (co : COk V c) (dk : DOk c d v is) (hh : hasM c h = true) (hf : (24 - topM c h).toNat < f + 1) (hr : cnt c + 2 ^ (V - topM c h).toNat ≤ c.length + 1)
    (g : getM c h = some n) (hv : ¬ v < n.1) (hq : ¬ n.1 = v) (hd : d h = none) :
    ∃ R1 R2 R3, R1 = setM f c d n.2.1 v is ∧ R2 = setM f R1.1 R1.2.1 n.2.2 v is ∧ R3 = nodeM R2.1 n.1 R1.2.2.1 R2.2.2.1 ∧ setM (f + 1) c d h v is = (R3.1, putD R2.2.1 h R3.2.1, R3.2.1, 0) ∧
      SetOk V c n.2.1 v is R1 ∧ SetOk V R1.1 n.2.2 v is R2 ∧ R3.2.2 = 0 ∧ hasM c n.2.1 = true ∧ hasM c n.2.2 = true ∧ (24 - topM c n.2.1).toNat < f ∧ cnt c + 2 ^ (V - topM c n.2.1).toNat ≤ c.length + 1 ∧ (24 - topM R1.1 n.2.2).toNat < f ∧ cnt R1.1 + 2 ^ (V - topM R1.1 n.2.2).toNat ≤ R1.1.length + 1 := by
  obtain ⟨b1, b2, k1, k2, k3, k4⟩ := co.ok.kids g
  have ht := top_node g
  have hnV : n.1 < V := by obtain ⟨k, rfl, h3, _⟩ := getM_some g; exact co.vlt k n h3
  rw [ht] at hr hf
  have sp := two_pow_split hnV
  have p2 := two_pow_pos (V - (n.1 + 1)).toNat
  have w1 := two_pow_le (show (V - topM c n.2.1).toNat ≤ (V - (n.1 + 1)).toNat by omega)
  have r1 := setM_spec V hV v is f c d n.2.1 co dk k1 (by omega) (by omega)
  obtain ⟨R1, hR1⟩ : ∃ R, R = setM f c d n.2.1 v is := ⟨_, rfl⟩
  rw [← hR1] at r1
  have E1 := r1.ext
  have c1 := r1.cnt
  have L1 := E1.len
  have t2 : topM R1.1 n.2.2 = topM c n.2.2 := E1.top k2
  have w2 := two_pow_le (show (V - topM R1.1 n.2.2).toNat ≤ (V - (n.1 + 1)).toNat by omega)
  have r2 := setM_spec V hV v is f R1.1 R1.2.1 n.2.2 r1.cok r1.dok (E1.has k2) (by omega) (by omega)
  obtain ⟨R2, hR2⟩ : ∃ R, R = setM f R1.1 R1.2.1 n.2.2 v is := ⟨_, rfl⟩
  rw [← hR2] at r2
  have E2 := r2.ext
  have c2 := r2.cnt
  have L2 := E2.len
  have u1 : n.1 < topM R2.1 R1.2.2.1 := by rw [E2.top r1.has]; have := r1.top; omega
  have u2 : n.1 < topM R2.1 R2.2.2.1 := by have := r2.top; omega
  have r3 := nodeM_spec r2.cok.ok r2.cok.red b1 b2 (E2.has r1.has) r2.has u1 u2 (by omega)
  refine ⟨R1, R2, _, hR1, hR2, rfl, ?_, r1, r2, r3.err, k1, k2, by omega, by omega, by omega, by omega⟩
  rw [setM, g]
  simp only [if_neg hv, if_neg hq, hd]
  rw [← hR1, if_neg (by rw [r1.err]; simp), ← hR2, if_neg (by rw [r2.err]; simp), r3.err]

section
variable {w wr w2 : World} {s : Sb} {V : Int} {st st' : Sp} {md : Nat} {d d' : Done} {n : Nd}
theorem TSt.grow (h : TSt w wr s V st md d n) (hb : Below wr.heap.size wr w2) : TSt w w2 s V st md d n :=
  ⟨h.sp.below hb, h.done.keep (hb.block _ h.done.lt), h.only.trans (Only.of_below hb rfl), h.off, h.off2, Nat.lt_of_lt_of_le h.lt hb.size, (hb.cell h.lt).trans h.b0, (hb.cell h.lt).trans h.b1, (hb.cell h.lt).trans h.b2⟩
theorem TSt.step (h : TSt w wr s V st md d n) (ho : Only (setMem s md) wr w2) (hs : IsSpace w2 s V st') (hd : DoneAt w2 md d') : TSt w w2 s V st' md d' n := by
  have hn : ¬ setMem s md (w.heap.size + 1) := fun hk => by have := h.off _ hk; omega
  exact ⟨hs, hd, h.only.trans ho, h.off, h.off2, Nat.lt_of_lt_of_le h.lt ho.size, (ho.cell h.lt hn).trans h.b0, (ho.cell h.lt hn).trans h.b1, (ho.cell h.lt hn).trans h.b2⟩
theorem TSt.node (h : TSt w wr s V st md d n) (ho : Only s.b.mem wr w2) (hs : IsSpace w2 s V st') : TSt w w2 s V st' md d n :=
  h.step (ho.mono fun _ hk => .inl hk) hs (h.done.keep (ho.block _ h.done.lt (fun e => h.off2.1 (.inl e))))
theorem TSt.put (h : TSt w wr s V st md d n) {mq : List (Int × Value)} (hq : ∀ k, assoc mq k = (d k).map (Value.int .i64)) {a x : Int} {o : Obj} (hm : MapOf (setObjW wr md o) md (Value.int .i64) (putAssoc mq a (.int .i64 x))) :
    TSt w (setObjW wr md o) s V st md (putD d a x) n := by
  have ho : Only (· = md) wr (setObjW wr md o) := ⟨rfl, rfl, rfl, by simp [setObjW], fun k _ hk => setObjW_other o hk⟩
  refine h.step (ho.mono fun _ hk => .inr hk) (h.sp.only ho h.off2.2 (fun k hk e => h.off2.1 (e ▸ hk))) ⟨_, hm, fun k => ?_⟩
  rw [assoc_put]
  unfold putD
  split
  · rfl
  · exact hq k
theorem tst_start (h : IsSpace w s V st) (hd : DoneAt w md d) (ho : ¬ s.mem md ∧ s.ps ≠ md) (X : Obj) : TSt w ((w.alloc X).alloc (.cells #[.int .i64 n.1, .int .i64 n.2.1, .int .i64 n.2.2] 68)) s V st md d n := by
  have hb : Below w.heap.size w ((w.alloc X).alloc (.cells #[.int .i64 n.1, .int .i64 n.2.1, .int .i64 n.2.2] 68)) := ((Below.refl _ _).alloc (Nat.le_refl _) _).alloc (by simp) _
  have l := hd.lt
  exact ⟨h.below hb, hd.keep (hb.block _ hd.lt), Only.of_below hb rfl, fun k hk => (hk.elim (fun hk => h.lt (.inl hk)) (fun hk => hk ▸ l)), ho, by simp, by simp, by simp, by simp⟩
end

def setArgs (s : Sb) (h v : Int) (is : Bool) (md : Nat) : Array Value := #[.pointer (some ⟨s.ps, 0, none⟩), .int .i64 h, .int .i64 v, .bool is, .map (some md)]

set_option maxRecDepth 100000 in
set_option maxHeartbeats 8000000 in
theorem set_in (V : Int) (hV : V ≤ 24) (v : Int) (is : Bool) (md : Nat) (q : Int × Int × Int → Option Int) : ∀ (f : Nat) (h : Int) (w : World) (s : Sb) (c : Cells) (d : Done), IsSpace w s V ⟨c, q⟩ → DoneAt w md d → (¬ s.mem md ∧ s.ps ≠ md) → COk V c → DOk c d v is → hasM c h = true →
    (24 - topM c h).toNat < f → cnt c + 2 ^ (V - topM c h).toNat ≤ c.length + 1 →
    Calls Tryz.prog 64 #[.pointer (some ⟨s.ps, 0, none⟩), .int .i64 h, .int .i64 v, .bool is, .map (some md)] w (SetPostB s V md q (setM f c d h v is) w)
  | 0, _, _, _, _, _, _, _, _, _, _, _, hf, _ => absurd hf (Nat.not_lt_zero _)
  | f + 1, h, w, s, c, d, hs, hd, hoff, co, dk, hh, hf, hr => by
    have Hih := Lib.hid (set_in V hV v is md q f)
    have Hs := Lib.hid hs; have Hd := Lib.hid hd; have Hoff := Lib.hid hoff; have Hco := Lib.hid co; have Hdk := Lib.hid dk; have Hhh := Lib.hid hh; have Hf := Lib.hid hf; have Hr := Lib.hid hr
    have hlen := hs.ar.len
    dsimp only at hlen
    have hR := hs.ar.room.2
    have lh : h ≤ 9223372036854775807 := by have := hasM_le hh; omega
    have c0 := hs.s0
    have hg := get_any h w s.b c hs.ar lh
    have Hlen := Lib.hid hlen
    clear hs hd hoff co dk hh hf hr hlen hR
    cases g : getM c h with
    | none =>
      have e : setM (f + 1) c d h v is = (c, d, h, 0) := by rw [setM, g]
      rw [e]
      clear e
      rw [g] at hg
      have Hg := Lib.hid hg; clear hg g
      go_enter Tryz.func64, Tryz.ntmps64
      go_wp2_with fail
      refine Hg.out.mono ?_
      rintro e w1 ⟨rfl, rfl⟩
      simp only [gotV, encNd, Option.getD_none, Option.isSome_none]
      go_wp2_with fail
      go_ret2
      have hb : Below w.heap.size w ((w.alloc (.cells #[.int .i64 0, .int .i64 0, .int .i64 0] 68)).alloc (.cells #[.int .i64 0, .int .i64 0, .int .i64 0] 68)) := ((Below.refl _ _).alloc (Nat.le_refl _) _).alloc (by simp) _
      exact ⟨rfl, Hs.out.below hb, Hd.out.keep (hb.block _ Hd.out.lt), Only.of_below hb rfl⟩
    | some n =>
      obtain ⟨u, lo, hi⟩ := n
      obtain ⟨b1, b2, k1, k2, k3, k4⟩ := Hco.out.ok.kids g
      have hts := tst_start (n := (u, lo, hi)) Hs.out Hd.out Hoff.out (.cells #[.int .i64 u, .int .i64 lo, .int .i64 hi] 68)
      rw [g] at hg
      have Hg := Lib.hid hg; have G := Lib.hid g; have Hts := Lib.hid hts; clear hg g hts
      by_cases hv : v < u
      · have e : setM (f + 1) c d h v is = (c, d, h, 0) := by rw [setM, G.out]; simp only [if_pos hv]
        rw [e]
        clear e
        go_enter Tryz.func64, Tryz.ntmps64
        go_wp2_with fail
        refine Hg.out.mono ?_
        rintro e w1 ⟨rfl, rfl⟩
        simp only [gotV, encNd, Option.getD_some, Option.isSome_some]
        have e1 : decide (v < u) = true := by simpa using hv
        go_wp2_with fail
        go_ret2
        exact ⟨rfl, Hts.out.sp, Hts.out.done, Hts.out.only⟩
      · have e1 : decide (v < u) = false := by simpa using hv
        by_cases hu : u = v
        · subst hu
          have e : setM (f + 1) c d h u is = (c, d, if is then hi else lo, 0) := by rw [setM, G.out]; simp only [if_neg hv, if_pos]
          rw [e]
          clear e
          cases is
          · go_enter Tryz.func64, Tryz.ntmps64
            go_wp2_with fail
            refine Hg.out.mono ?_
            rintro e w1 ⟨rfl, rfl⟩
            simp only [gotV, encNd, Option.getD_some, Option.isSome_some]
            go_wp2_with fail
            go_ret2
            exact ⟨rfl, Hts.out.sp, Hts.out.done, Hts.out.only⟩
          · go_enter Tryz.func64, Tryz.ntmps64
            go_wp2_with fail
            refine Hg.out.mono ?_
            rintro e w1 ⟨rfl, rfl⟩
            simp only [gotV, encNd, Option.getD_some, Option.isSome_some]
            go_wp2_with fail
            go_ret2
            exact ⟨rfl, Hts.out.sp, Hts.out.done, Hts.out.only⟩
        · have e2 : (u == v) = false := by simpa using hu
          cases hd : d h with
          | some x =>
            have e : setM (f + 1) c d h v is = (c, d, x, 0) := by rw [setM, G.out]; simp only [if_neg hv, if_neg hu, hd]
            rw [e]
            clear e
            go_enter Tryz.func64, Tryz.ntmps64
            go_wp2_with fail
            refine Hg.out.mono ?_
            rintro e w1 ⟨rfl, rfl⟩
            simp only [gotV, encNd, Option.getD_some, Option.isSome_some]
            obtain ⟨mq, hmq, hmv⟩ := Hts.out.done
            go_wp2_with (at_lookup; refine wpList_lookup_of rfl (.tmp 57) (.tmp 58) 60 true rfl (kt := 3) (et := 3) (enc := Value.int .i64) (intKey Tryz.underlying3) Tryz.underlying60 (zeroInt _) (b := md) rfl (l := mq) hmq (k := h) rfl ?_; rw [hmv, hd]; simp only [Option.map_some, Option.getD_some, Option.isSome_some, if_true])
            go_ret2
            exact ⟨rfl, Hts.out.sp, Hts.out.done, Hts.out.only⟩
          | none =>
            obtain ⟨R1, R2, R3, hR1, hR2, hR3, he, s1, s2, er3, hk1, hk2, f1, r1, f2, r2⟩ := setM_go hV Hco.out Hdk.out Hhh.out Hf.out Hr.out G.out hv hu hd
            rw [he]
            clear he
            dsimp only at hR1 hR2 hR3 s1 s2 hk1 hk2 f1 r1 f2 r2
            have len1 := s1.ext.len; have len2 := s2.ext.len
            have l1 : R1.2.2.1 ≤ 9223372036854775807 := by have := hasM_le s1.has; have := Hlen.out; have := Hs.out.ar.room.2; omega
            have l2 : R2.2.2.1 ≤ 9223372036854775807 := by have := hasM_le s2.has; have := Hlen.out; have := Hs.out.ar.room.2; omega
            have HR1 := Lib.hid hR1; have HR2 := Lib.hid hR2; have HR3 := Lib.hid hR3; have Hs1 := Lib.hid s1; have Hs2 := Lib.hid s2; have Her3 := Lib.hid er3; have Hk1 := Lib.hid hk1; have Hk2 := Lib.hid hk2
            have Hf1 := Lib.hid f1; have Hr1 := Lib.hid r1; have Hf2 := Lib.hid f2; have Hr2 := Lib.hid r2; have Hd0 := Lib.hid hd
            clear hR1 hR2 hR3 s1 s2 er3 hk1 hk2 f1 r1 f2 r2 len1 len2 hd hu hv
            go_enter Tryz.func64, Tryz.ntmps64
            go_wp2_with fail
            refine Hg.out.mono ?_
            rintro e w1 ⟨rfl, rfl⟩
            simp only [gotV, encNd, Option.getD_some, Option.isSome_some]
            obtain ⟨mq, hmq, hmv⟩ := Hts.out.done
            have hnone : assoc mq h = none := by rw [hmv, Hd0.out]; rfl
            have Hmq := Lib.hid hmq; have Hnone := Lib.hid hnone; clear hmq hmv hnone
            go_wp2_with (at_lookup; refine wpList_lookup_of rfl (.tmp 57) (.tmp 58) 60 true rfl (kt := 3) (et := 3) (enc := Value.int .i64) (intKey Tryz.underlying3) Tryz.underlying60 (zeroInt _) (b := md) rfl (l := mq) Hmq.out (k := h) rfl ?_; rw [Hnone.out]; simp only [Option.getD_none, Option.isSome_none, if_true])
            have ti := Hts.out; clear Hts
            generalize (w.alloc (.cells #[.int .i64 u, .int .i64 lo, .int .i64 hi] 68)).alloc (.cells #[.int .i64 u, .int .i64 lo, .int .i64 hi] 68) = w2 at ti ⊢
            have b0 := ti.b0
            have b1 := ti.b1
            have b2 := ti.b2
            have Hi2 := Lib.hid ti; clear ti
            dsimp only at b0 b1 b2
            have hr1 := Hih.out lo w2 s c d Hi2.out.sp Hi2.out.done Hi2.out.off2 Hco.out Hdk.out Hk1.out Hf1.out Hr1.out
            rw [← HR1.out] at hr1
            have Hq1 := Lib.hid hr1; clear hr1
            go_wp2_with fail
            refine Hq1.out.mono ?_
            rintro e w5 ⟨rfl, hs5, hd5, ho5⟩
            have ti := Hi2.out.step ho5 hs5 hd5; clear hs5 hd5 ho5 Hi2 Hq1 b0 b1 b2
            have b0 := ti.b0
            have b1 := ti.b1
            have b2 := ti.b2
            have Hi5 := Lib.hid ti; clear ti
            dsimp only at b0 b1 b2
            rw [Hs1.out.err]
            simp only [errV, if_true]
            have hr2 := Hih.out hi w5 s R1.1 R1.2.1 Hi5.out.sp Hi5.out.done Hi5.out.off2 Hs1.out.cok Hs1.out.dok (Hs1.out.ext.has Hk2.out) Hf2.out Hr2.out
            rw [← HR2.out] at hr2
            have Hq2 := Lib.hid hr2; clear hr2
            go_wp2_with fail
            refine Hq2.out.mono ?_
            rintro e w6 ⟨rfl, hs6, hd6, ho6⟩
            have ti := Hi5.out.step ho6 hs6 hd6; clear hs6 hd6 ho6 Hi5 Hq2 b0 b1 b2
            have b0 := ti.b0
            have b1 := ti.b1
            have b2 := ti.b2
            have Hi6 := Lib.hid ti; clear ti
            dsimp only at b0 b1 b2
            rw [Hs2.out.err]
            simp only [errV, if_true]
            have hn3 := node_any u R1.2.2.1 R2.2.2.1 w6 s V ⟨R2.1, q⟩ Hi6.out.sp l1 l2
            dsimp only at hn3
            rw [← HR3.out] at hn3
            have Hq3 := Lib.hid hn3; clear hn3
            go_wp2_with fail
            refine Hq3.out.mono ?_
            rintro e w7 ⟨rfl, hs7, ho7⟩
            have ti := Hi6.out.node ho7 hs7; clear hs7 ho7 Hi6 Hq3 b0 b1 b2
            rw [Her3.out]
            simp only [errV, if_true]
            obtain ⟨mq7, hmq7, hmv7⟩ := ti.done
            have Hi7 := Lib.hid ti; have Hmq7 := Lib.hid hmq7; have Hmv7 := Lib.hid hmv7; clear ti hmq7 hmv7
            go_wp2_with (at_mapUpdate; refine wpList_mapUpdate_of rfl (.tmp 99) (.tmp 100) (.tmp 101) 60 rfl (kt := 3) (et := 3) (enc := Value.int .i64) (intKey Tryz.underlying3) Tryz.underlying60 (b := md) rfl (l := mq7) Hmq7.out (k := h) rfl (.int .i64 R3.2.1) rfl ?_; intro ob hob; have hi8 := Hi7.out.put Hmv7.out hob; have Hi8 := Lib.hid hi8; clear hi8 hob Hi7; generalize setObjW w7 md ob = w8 at Hi8 ⊢)
            go_ret2
            exact ⟨rfl, Hi8.out.sp, Hi8.out.done, Hi8.out.only⟩
end Go.Proofs.YthmflcmbaldflaaGreatDoor
namespace Go.Proofs.YthmflcmbaldflaaGreatDoor
open Go.RowKit
set_option linter.unusedVariables false

theorem Only.cut {S S' : Nat → Prop} {a w : World} (h : Only S a w) (hs : ∀ k, k < a.heap.size → S k → S' k) : Only S' a w := ⟨h.os, h.tape, h.output, h.size, fun k hk hn => h.block k hk (fun e => hn (hs k hk e))⟩

def noDone : Done := fun _ => none
def setX (st : Sp) (h v : Int) (is : Bool) : Sp × Int × Nat := let r := setM 25 st.c noDone h v is; (⟨r.1, st.q⟩, r.2.2.1, r.2.2.2)
def someX (st : Sp) (h v : Int) : Sp × Int × Nat := let l := setX st h v false; let u := setX l.1 h v true; iteX u.1 l.2.1 1 u.2.1
def eachX (st : Sp) (h v : Int) : Sp × Int × Nat := let l := setX st h v false; let u := setX l.1 h v true; iteX u.1 l.2.1 u.2.1 0

theorem noDone_ok (c : Cells) (v : Int) (is : Bool) : DOk c noDone v is := ⟨fun _ _ h => by cases h⟩
theorem setX_ok {V : Int} (hV : V ≤ 24) {st : Sp} {h v : Int} (is : Bool) (h0 : 0 ≤ v) (h1 : v < V) (so : SOk V st) (hh : hasM st.c h = true) (hr : cnt st.c + 2 ^ V.toNat ≤ st.c.length + 1) :
    ROk V st (setX st h v is) (fun val => den st.c h (setV val v is)) (2 ^ v.toNat) := by
  have t0 := so.ok.top_pos h
  have p1 := two_pow_le (show (V - topM st.c h).toNat ≤ V.toNat by omega)
  have p2 := two_pow_le (show (v - topM st.c h).toNat ≤ v.toNat by omega)
  have h := setM_spec V hV v is 25 st.c noDone h so.cells (noDone_ok _ _ _) hh (by omega) (by omega)
  have hc := h.cnt2 (by omega)
  exact ⟨h.err, so.more h.ext h.cok, h.ext, h.has, h.den, by unfold setX; dsimp only; omega⟩
theorem pow_half {V v : Int} (h0 : 0 ≤ v) (h1 : v < V) : 2 * 2 ^ v.toNat ≤ 2 ^ V.toNat := by
  obtain ⟨k, hk⟩ : ∃ k, V.toNat = v.toNat + 1 + k := ⟨V.toNat - (v.toNat + 1), by omega⟩
  rw [hk, Nat.pow_add, Nat.pow_succ, Nat.mul_comm 2]
  exact Nat.le_mul_of_pos_right _ (Nat.two_pow_pos _)
theorem ROk.hasOld {V : Int} {st : Sp} {r : Sp × Int × Nat} {D : (Int → Bool) → Bool} {k : Nat} (h : ROk V st r D k) {x : Int} (hx : hasM st.c x = true) : hasM r.1.c x = true := h.ext.has hx
theorem old_den {V : Int} {st : Sp} {r : Sp × Int × Nat} {D : (Int → Bool) → Bool} {k : Nat} (h : ROk V st r D k) (so : SOk V st) {x : Int} (hx : hasM st.c x = true) (val : Int → Bool) : den r.1.c x val = den st.c x val := den_ext so.ok h.sok.ok h.ext val x hx

/-- The ways of Some and Each. -/
structure BothWays (V : Int) (st : Sp) (h v : Int) (l u : Sp × Int × Nat) : Prop where
  ol : ROk V st l (fun val => den st.c h (setV val v false)) (2 ^ v.toNat)
  ou : ROk V l.1 u (fun val => den st.c h (setV val v true)) (2 ^ v.toNat)
  lu : hasM u.1.c l.2.1 = true
  room : cnt u.1.c + 2 ^ V.toNat ≤ u.1.c.length + 1
theorem bothWays {V : Int} (hV : V ≤ 24) {st : Sp} {h v : Int} (h0 : 0 ≤ v) (h1 : v < V) (so : SOk V st) (hh : hasM st.c h = true) (hr : cnt st.c + 2 * 2 ^ V.toNat ≤ st.c.length + 1) :
    BothWays V st h v (setX st h v false) (setX (setX st h v false).1 h v true) := by
  have p := pow_half h0 h1
  have l := setX_ok hV false h0 h1 so hh (by omega)
  have lc := l.cnt; have le := l.ext.len
  have u := setX_ok hV true h0 h1 l.sok (l.hasOld hh) (by omega)
  have uc := u.cnt; have ue := u.ext.len
  refine ⟨l, ⟨u.err, u.sok, u.ext, u.has, fun val => (u.den val).trans (old_den l so hh _), u.cnt⟩, u.hasOld l.has, by omega⟩

theorem someX_ok {V : Int} (hV : V ≤ 24) {st : Sp} {h v : Int} (h0 : 0 ≤ v) (h1 : v < V) (so : SOk V st) (hh : hasM st.c h = true) (hr : cnt st.c + 2 * 2 ^ V.toNat ≤ st.c.length + 1) :
    ROk V st (someX st h v) (fun val => den st.c h (setV val v false) || den st.c h (setV val v true)) (2 * 2 ^ V.toNat) := by
  have p := pow_half h0 h1
  have b := bothWays hV h0 h1 so hh hr
  have r := iteX_ok hV b.ou.sok b.lu (hasM_one _) b.ou.has b.room
  refine ⟨r.err, r.sok, (b.ol.ext.trans b.ou.ext).trans r.ext, r.has, fun val => ?_, ?_⟩
  · refine (r.den val).trans ?_
    rw [old_den b.ou b.ol.sok b.ol.has, b.ol.den, b.ou.den, den_one]
    cases den st.c h (setV val v false) <;> simp
  · have := r.cnt; have := b.ol.cnt; have := b.ou.cnt; unfold someX; dsimp only at *; omega
theorem eachX_ok {V : Int} (hV : V ≤ 24) {st : Sp} {h v : Int} (h0 : 0 ≤ v) (h1 : v < V) (so : SOk V st) (hh : hasM st.c h = true) (hr : cnt st.c + 2 * 2 ^ V.toNat ≤ st.c.length + 1) :
    ROk V st (eachX st h v) (fun val => den st.c h (setV val v false) && den st.c h (setV val v true)) (2 * 2 ^ V.toNat) := by
  have p := pow_half h0 h1
  have b := bothWays hV h0 h1 so hh hr
  have r := iteX_ok hV b.ou.sok b.lu b.ou.has (hasM_zero _) b.room
  refine ⟨r.err, r.sok, (b.ol.ext.trans b.ou.ext).trans r.ext, r.has, fun val => ?_, ?_⟩
  · refine (r.den val).trans ?_
    rw [old_den b.ou b.ol.sok b.ol.has, b.ol.den, b.ou.den, den_zero]
    cases den st.c h (setV val v false) <;> simp
  · have := r.cnt; have := b.ol.cnt; have := b.ou.cnt; unfold eachX; dsimp only at *; omega

set_option maxHeartbeats 2000000 in
theorem Set_any (V : Int) (hV : V ≤ 24) (h v : Int) (is : Bool) (w : World) (s : Sb) (st : Sp) (hs : IsSpace w s V st) (so : SOk V st) (h0 : 0 ≤ v) (h1 : v < V) (hh : hasM st.c h = true) (hr : cnt st.c + 2 ^ V.toNat ≤ st.c.length + 1) :
    Calls Tryz.prog 44 #[.pointer (some ⟨s.ps, 0, none⟩), .int .i64 h, .int .i64 v, .bool is] w (SpPost s V (setX st h v is) w) := by
  have hmm := @run_makeMap Tryz.prog
  have hlen := hs.ar.len
  have hR := hs.ar.room.2
  have lh : h ≤ 9223372036854775807 := by have := hasM_le hh; omega
  have c0 := hs.s0
  have c1 := hs.s1
  have hha := ahas_any h w s.b st.c hs.ar lh
  rw [hh] at hha
  have t0 := so.ok.top_pos h
  have p1 := two_pow_le (show (V - topM st.c h).toNat ≤ V.toNat by omega)
  have hb : Below w.heap.size w (w.alloc (.map #[] 0)) := (Below.refl _ _).alloc (Nat.le_refl _) _
  have hs1 := hs.below hb
  have hd : DoneAt (w.alloc (.map #[] 0)) w.heap.size noDone := ⟨[], mapOf_new w _, fun _ => rfl⟩
  have hset := set_in V hV v is w.heap.size st.q 25 h (w.alloc (.map #[] 0)) s st.c noDone hs1 hd ⟨fun hm => by have := hs.lt hm; omega, by have := hs.lps; omega⟩ so.cells (noDone_ok _ _ _) hh (by omega) (by omega)
  have hon : ∀ w2, Only (setMem s w.heap.size) (w.alloc (.map #[] 0)) w2 → Only s.mem w w2 := fun w2 ho => ((Only.of_below (S := setMem s w.heap.size) hb rfl).trans ho).cut (fun k hk hm => hm.elim (fun hm => .inl hm) (fun e => by omega))
  have e1 : decide (v < 0) = false := by simpa using h0
  have e2 : decide (V ≤ v) = false := by simpa using h1
  have hx : setX st h v is = (⟨(setM 25 st.c noDone h v is).1, st.q⟩, (setM 25 st.c noDone h v is).2.2.1, (setM 25 st.c noDone h v is).2.2.2) := rfl
  rw [hx]
  have Hha := Lib.hid hha; have Hset := Lib.hid hset; have Hon := Lib.hid hon
  clear hha hset hon hs1 hd hb hs so hh hr hlen hR t0 p1 hx h0 h1
  go_enter Tryz.func44, Tryz.ntmps44
  go_wp2_with fail
  refine Hha.out.mono ?_
  rintro e w' ⟨rfl, rfl⟩
  go_wp2_with fail
  refine Hset.out.mono ?_
  rintro e w1 ⟨rfl, hs1, _, ho1⟩
  have Hs1 := Lib.hid hs1; have Ho1 := Lib.hid (Hon.out _ ho1); clear hs1 ho1
  go_wp2_with fail
  go_ret2
  exact ⟨rfl, Hs1.out, Ho1.out⟩

set_option maxHeartbeats 2000000 in
theorem bothOr_any (V : Int) (hV : V ≤ 24) (h v : Int) (w : World) (s : Sb) (st : Sp) (hs : IsSpace w s V st) (so : SOk V st) (h0 : 0 ≤ v) (h1 : v < V) (hh : hasM st.c h = true) (hr : cnt st.c + 2 * 2 ^ V.toNat ≤ st.c.length + 1) :
    Calls Tryz.prog 65 #[.pointer (some ⟨s.ps, 0, none⟩), .int .i64 h, .int .i64 v, .func (.func 41) #[.pointer (some ⟨s.ps, 0, none⟩)] #[]] w (SpPost s V (someX st h v) w) := by
  have p := pow_half h0 h1
  have b := bothWays hV h0 h1 so hh hr
  have q1 := Set_any V hV h v false w s st hs so h0 h1 hh (by omega)
  have q2 := fun w1 hs1 => Set_any V hV h v true w1 s (setX st h v false).1 hs1 b.ol.sok h0 h1 (b.ol.hasOld hh) (by have := b.ol.cnt; have := b.ol.ext.len; omega)
  have hx : someX st h v = iteX (setX (setX st h v false).1 h v true).1 (setX st h v false).2.1 1 (setX (setX st h v false).1 h v true).2.1 := rfl
  rw [hx]
  generalize setX (setX st h v false).1 h v true = U at b q2 ⊢
  generalize setX st h v false = L at b q1 q2 ⊢
  have B := Lib.hid b; have Q1 := Lib.hid q1; have Q2 := Lib.hid q2
  clear b q1 q2 hs so hh hr hx p
  go_enter Tryz.func65, Tryz.ntmps65
  go_wp2_with fail
  refine Q1.out.mono ?_
  rintro e w1 ⟨rfl, hs1, ho1⟩
  have q := Q2.out w1 hs1
  rw [B.out.ol.err]
  simp only [errV, if_true]
  have Q := Lib.hid q; have Ho1 := Lib.hid ho1; clear q hs1 ho1 Q2
  go_wp2_with fail
  refine Q.out.mono ?_
  rintro e w2 ⟨rfl, hs2, ho2⟩
  rw [B.out.ou.err]
  simp only [errV, if_true]
  have q := Or_any V hV L.2.1 U.2.1 w2 s U.1 hs2 B.out.ou.sok B.out.lu B.out.ou.has B.out.room
  have Q3 := Lib.hid q; have Ho2 := Lib.hid ho2; clear q hs2 ho2 Q
  go_wp2_with fail
  refine Q3.out.mono ?_
  rintro e w3 ⟨rfl, hs3, ho3⟩
  have Hs3 := Lib.hid hs3; have Ho3 := Lib.hid ((Ho1.out.trans Ho2.out).trans ho3); clear hs3 ho3 Ho1 Ho2
  go_wp2_with fail
  go_ret2
  exact ⟨rfl, Hs3.out, Ho3.out⟩
set_option maxHeartbeats 2000000 in
theorem bothAnd_any (V : Int) (hV : V ≤ 24) (h v : Int) (w : World) (s : Sb) (st : Sp) (hs : IsSpace w s V st) (so : SOk V st) (h0 : 0 ≤ v) (h1 : v < V) (hh : hasM st.c h = true) (hr : cnt st.c + 2 * 2 ^ V.toNat ≤ st.c.length + 1) :
    Calls Tryz.prog 65 #[.pointer (some ⟨s.ps, 0, none⟩), .int .i64 h, .int .i64 v, .func (.func 40) #[.pointer (some ⟨s.ps, 0, none⟩)] #[]] w (SpPost s V (eachX st h v) w) := by
  have p := pow_half h0 h1
  have b := bothWays hV h0 h1 so hh hr
  have q1 := Set_any V hV h v false w s st hs so h0 h1 hh (by omega)
  have q2 := fun w1 hs1 => Set_any V hV h v true w1 s (setX st h v false).1 hs1 b.ol.sok h0 h1 (b.ol.hasOld hh) (by have := b.ol.cnt; have := b.ol.ext.len; omega)
  have hx : eachX st h v = iteX (setX (setX st h v false).1 h v true).1 (setX st h v false).2.1 (setX (setX st h v false).1 h v true).2.1 0 := rfl
  rw [hx]
  generalize setX (setX st h v false).1 h v true = U at b q2 ⊢
  generalize setX st h v false = L at b q1 q2 ⊢
  have B := Lib.hid b; have Q1 := Lib.hid q1; have Q2 := Lib.hid q2
  clear b q1 q2 hs so hh hr hx p
  go_enter Tryz.func65, Tryz.ntmps65
  go_wp2_with fail
  refine Q1.out.mono ?_
  rintro e w1 ⟨rfl, hs1, ho1⟩
  have q := Q2.out w1 hs1
  rw [B.out.ol.err]
  simp only [errV, if_true]
  have Q := Lib.hid q; have Ho1 := Lib.hid ho1; clear q hs1 ho1 Q2
  go_wp2_with fail
  refine Q.out.mono ?_
  rintro e w2 ⟨rfl, hs2, ho2⟩
  rw [B.out.ou.err]
  simp only [errV, if_true]
  have q := And_any V hV L.2.1 U.2.1 w2 s U.1 hs2 B.out.ou.sok B.out.lu B.out.ou.has B.out.room
  have Q3 := Lib.hid q; have Ho2 := Lib.hid ho2; clear q hs2 ho2 Q
  go_wp2_with fail
  refine Q3.out.mono ?_
  rintro e w3 ⟨rfl, hs3, ho3⟩
  have Hs3 := Lib.hid hs3; have Ho3 := Lib.hid ((Ho1.out.trans Ho2.out).trans ho3); clear hs3 ho3 Ho1 Ho2
  go_wp2_with fail
  go_ret2
  exact ⟨rfl, Hs3.out, Ho3.out⟩

set_option maxHeartbeats 1000000 in
theorem Some_any (V : Int) (hV : V ≤ 24) (h v : Int) (w : World) (s : Sb) (st : Sp) (hs : IsSpace w s V st) (so : SOk V st) (h0 : 0 ≤ v) (h1 : v < V) (hh : hasM st.c h = true) (hr : cnt st.c + 2 * 2 ^ V.toNat ≤ st.c.length + 1) :
    Calls Tryz.prog 45 #[.pointer (some ⟨s.ps, 0, none⟩), .int .i64 h, .int .i64 v] w (SpPost s V (someX st h v) w) := by
  have hmf : ∀ (fn : Fn) (first cap : Array Value) (w : World), (Instr.makeFunc fn first cap).run Tryz.prog w = .ok (.func fn first cap) w := fun _ _ _ _ => rfl
  have Q := Lib.hid (bothOr_any V hV h v w s st hs so h0 h1 hh hr)
  clear hs so h0 h1 hh hr
  go_enter Tryz.func45, Tryz.ntmps45
  go_wp2_with fail
  refine Q.out.mono ?_
  rintro e w1 ⟨rfl, hs1, ho1⟩
  have Hs1 := Lib.hid hs1; have Ho1 := Lib.hid ho1; clear hs1 ho1
  go_wp2_with fail
  go_ret2
  exact ⟨rfl, Hs1.out, Ho1.out⟩

set_option maxHeartbeats 1000000 in
theorem Each_any (V : Int) (hV : V ≤ 24) (h v : Int) (w : World) (s : Sb) (st : Sp) (hs : IsSpace w s V st) (so : SOk V st) (h0 : 0 ≤ v) (h1 : v < V) (hh : hasM st.c h = true) (hr : cnt st.c + 2 * 2 ^ V.toNat ≤ st.c.length + 1) :
    Calls Tryz.prog 46 #[.pointer (some ⟨s.ps, 0, none⟩), .int .i64 h, .int .i64 v] w (SpPost s V (eachX st h v) w) := by
  have hmf : ∀ (fn : Fn) (first cap : Array Value) (w : World), (Instr.makeFunc fn first cap).run Tryz.prog w = .ok (.func fn first cap) w := fun _ _ _ _ => rfl
  have Q := Lib.hid (bothAnd_any V hV h v w s st hs so h0 h1 hh hr)
  clear hs so h0 h1 hh hr
  go_enter Tryz.func46, Tryz.ntmps46
  go_wp2_with fail
  refine Q.out.mono ?_
  rintro e w1 ⟨rfl, hs1, ho1⟩
  have Hs1 := Lib.hid hs1; have Ho1 := Lib.hid ho1; clear hs1 ho1
  go_wp2_with fail
  go_ret2
  exact ⟨rfl, Hs1.out, Ho1.out⟩
end Go.Proofs.YthmflcmbaldflaaGreatDoor
namespace Go.Proofs.YthmflcmbaldflaaGreatDoor
open Go.ChangeShapes Go.WideShapes Go.ChangeAt Go.RowKit
set_option linter.unusedVariables false

section
variable {H : Type} {enc : TypeId × Value → H} {P : Program}

theorem trodAll_below (hl : laidOutB P = true) {W W' : World} (hb : Below W.heap.size W W') : ∀ {ts : List TypeId} {vs : List Value} {ds : List (DataW H)} {p : List MemPlace},
    DataW.TrodAll enc P W 0 (fun _ => true) true ts vs ds p → (∀ t ∈ ts, P.readableRec t = true ∧ t < P.types.size) → (∀ x ∈ p, x.block < W.heap.size) →
    DataW.TrodAll enc P W' 0 (fun b => decide (b < W.heap.size)) true ts vs ds p
  | [], vs, ds, p, h, _, _ => by obtain ⟨rfl, rfl, rfl⟩ := trodAll_nil h; exact trodAll_mk0
  | t :: ts, vs, ds, p, h, ht, hlt => by
    obtain ⟨v, vs', d, ds', p1, q, rfl, rfl, rfl, h1, h2⟩ := trodAll_cons h
    have h3 := ht t (by simp)
    exact trodAll_cons_mk (Below.trod hl h3.1 h3.2 h1 hb (fun x hx => hlt x (by simp [hx]))) (trodAll_below hl hb h2 (fun t' ht' => ht t' (by simp [ht'])) (fun x hx => hlt x (by simp [hx])))

/-- The law answers true and nothing that was there has turned: its 'post'. -/
theorem law_post {s : ChangeSpec} {f : Func} {W W' : World} {args : Array Value} {ds : List (DataW H)} {before : List MemPlace} {tb : TypeId} (hl : laidOutB P = true) (hvars : s.vars = []) (hres : f.resultTypes = #[tb]) (htb : P.underlying tb = some .bool)
    (hr : ∀ t ∈ f.params.toList, P.readableRec t = true ∧ t < P.types.size) (hW : DataW.Whole enc P f.params.toList s.vars false W args.toList ds [] before)
    (hfn : s.fn H (ds ++ []) = { results := [.lit (.bool true)], args := ds }) (hg : Below W.heap.size W W') : s.post enc P f false true false false W args (.bool true) W' := by
  have hW' := hW
  obtain ⟨p, q, hA, hV, rfl, _, _⟩ := hW
  have hlt : ∀ x ∈ p, x.block < W.heap.size := fun x hx => hW'.lt x (by simp [hx])
  refine ⟨ds, [], _, [] ++ [], p, [], hW', ?_, ?_, ?_, hg.frame _, fun h => by cases h⟩
  · rw [hfn, hres]
    exact trodAll_mk1 (shut_bool htb true)
  · rw [hfn]
    exact trodAll_below hl hg hA hr hlt
  · rw [hfn, hvars]
    exact rfl

theorem weights_slice_le {t e : TypeId} {elems spare : List (DataW H)} (hu : P.underlying t = some (.slice e)) (h : (DataW.weights P t (.slice elems spare)).all (· ≤ reachBytes) = true) : (elems.length + spare.length) * P.bytesOf e ≤ reachBytes := by
  simp only [DataW.weights, hu, List.all_cons, Bool.and_eq_true, decide_eq_true_eq] at h
  exact h.1
theorem weights_all_mem {e : TypeId} : ∀ {l : List (DataW H)}, (DataW.weightsAll P e l).all (· ≤ reachBytes) = true → ∀ d ∈ l, (DataW.weights P e d).all (· ≤ reachBytes) = true
  | [], _, d, hd => by cases hd
  | x :: l, h, d, hd => by
    simp only [DataW.weightsAll, List.all_append, Bool.and_eq_true] at h
    rcases List.mem_cons.1 hd with rfl | hd
    · exact h.1
    · exact weights_all_mem h.2 d hd
theorem weights_elem {t e : TypeId} {elems spare : List (DataW H)} (hu : P.underlying t = some (.slice e)) (h : (DataW.weights P t (.slice elems spare)).all (· ≤ reachBytes) = true) : ∀ d ∈ elems, (DataW.weights P e d).all (· ≤ reachBytes) = true := by
  simp only [DataW.weights, hu, List.all_cons, List.all_append, Bool.and_eq_true] at h
  exact weights_all_mem h.2.1
theorem weights_each {t : TypeId} {ts : List TypeId} {d : DataW H} {ds : List (DataW H)} (h : (DataW.weightsEach P (t :: ts) (d :: ds)).all (· ≤ reachBytes) = true) :
    (DataW.weights P t d).all (· ≤ reachBytes) = true ∧ (DataW.weightsEach P ts ds).all (· ≤ reachBytes) = true := by
  simpa only [DataW.weightsEach, List.all_append, Bool.and_eq_true] using h

theorem addr_add {a : Addr} {b o : Nat} (h : a = ⟨b, o, none⟩) (i : Nat) : a.add i = ⟨b, o + i, none⟩ := by
  subst h; unfold Addr.add; split
  · subst i; rfl
  · rfl
theorem addr_of_cell {W : World} {a : Addr} {v : Value} (h : W.cell? (a.add 0) = some v) : a = ⟨a.block, a.off, none⟩ ∧ a.block < W.heap.size := by
  have h0 : a.add 0 = a := by simp [Addr.add]
  rw [h0] at h
  refine ⟨?_, World.block_lt_of_cell? _ _ h⟩
  have := World.cell?_spot h
  cases a; simp at this; subst this; rfl

/-- An argument that is a slice of integers. -/
theorem isInts_trod {t e : TypeId} {W : World} {base : Nat} {v : Value} {d : DataW H} {p : List MemPlace} (ht : P.underlying t = some (.slice e)) (he : P.underlying e = some (.int .i64)) (ce : P.cellsOf e = 1) (be : P.bytesOf e = 8)
    (hok : Value.okWide P W .any base t v) (h : DataW.Trod enc P W 0 (fun _ => true) true t v d p) (hw : (DataW.weights P t d).all (· ≤ reachBytes) = true) : ∃ xs, IsInts W v xs := by
  obtain ⟨a0, len, cap, rfl⟩ := okWide_slice ht hok
  obtain ⟨fuel, hf⟩ := h
  rcases open_ints ht he ce hf with ⟨hcs, hx⟩ | ⟨a, len', cap', zs, hcs, hb, hl, hm, hz, hx, hcell, hwz⟩
  · simp [Value.cells] at hcs
    obtain ⟨rfl, rfl, rfl⟩ := hcs
    exact ⟨[], none, 0, 0, 0, rfl, fun h => absurd rfl h, Nat.le_refl _, Nat.zero_le _, fun i hi => absurd hi (by simp), fun h => absurd rfl h, Nat.zero_le _⟩
  · simp [Value.cells] at hcs
    obtain ⟨rfl, rfl, rfl⟩ := hcs
    simp only [Prod.mk.injEq] at hx
    obtain ⟨rfl, _⟩ := hx
    simp only [if_true] at hz
    have h1 := weights_slice_le ht hw
    rw [be] at h1
    simp only [lits, List.length_map, List.length_take, List.length_drop, reachBytes] at h1
    have hlen : (zs.take len).length = len := by rw [List.length_take]; omega
    refine ⟨zs.take len, some a, a.block, a.off, cap, by rw [hlen], fun hne => ?_, by rw [hlen]; exact hl, hm, fun i hi => ?_, fun hne => ?_, by rw [hlen]; omega⟩
    · have : 0 < zs.length := by rcases zs with _ | ⟨z, zs⟩; · simp at hne
                                 · simp
      rw [← (addr_of_cell (hcell 0 this)).1]
    · have hi' : i < zs.length := by rw [List.length_take] at hi; omega
      have h2 := hcell i hi'
      rw [addr_add (addr_of_cell (hcell 0 (by omega))).1] at h2
      rw [h2]
      have hi3 : i < len := by rw [List.length_take] at hi; omega
      simp [hi', hi3]
    · have : 0 < zs.length := by rcases zs with _ | ⟨z, zs⟩; · simp at hne
                                 · simp
      exact (addr_of_cell (hcell 0 this)).2

/-- An argument that is a slice of slices of integers. -/
theorem isRows_trod {t e q : TypeId} {W : World} {base : Nat} {v : Value} {d : DataW H} {p : List MemPlace} (ht : P.underlying t = some (.slice e)) (he : P.underlying e = some (.slice q)) (hq : P.underlying q = some (.int .i64)) (ce : P.cellsOf e = 1) (cq : P.cellsOf q = 1) (be : P.bytesOf e = 24) (bq : P.bytesOf q = 8)
    (hok : Value.okWide P W .any base t v) (h : DataW.Trod enc P W 0 (fun _ => true) true t v d p) (hw : (DataW.weights P t d).all (· ≤ reachBytes) = true) : ∃ ls, IsRows W v ls := by
  obtain ⟨a0, len, cap, rfl⟩ := okWide_slice ht hok
  obtain ⟨fuel, hf⟩ := h
  rcases Go.Deep.open_int_rows ht he hq ce cq hf with ⟨hcs, hx⟩ | ⟨a, len', cap', A, L, C, Z, hcs, _, hl, hm, hx, hrows⟩
  · simp [Value.cells] at hcs
    obtain ⟨rfl, rfl, rfl⟩ := hcs
    exact ⟨[], none, 0, 0, 0, rfl, fun h => absurd rfl h, Nat.le_refl _, Nat.zero_le _, fun h => absurd rfl h, Nat.zero_le _, fun i hi => absurd hi (by simp)⟩
  · simp [Value.cells] at hcs
    obtain ⟨rfl, rfl, rfl⟩ := hcs
    simp only [Prod.mk.injEq] at hx
    obtain ⟨rfl, _⟩ := hx
    have h1 := weights_slice_le ht hw
    rw [be] at h1
    simp only [List.length_map, List.length_range, reachBytes] at h1
    have hlen : ((List.range len).map fun r => (Z r).take (L r)).length = len := by simp
    refine ⟨(List.range len).map fun r => (Z r).take (L r), some a, a.block, a.off, cap, by rw [hlen], fun hne => ?_, by rw [hlen]; exact hl, hm, fun hne => ?_, by rw [hlen]; omega, fun i hi => ?_⟩
    · have h0 : 0 < cap := by
        rcases Nat.eq_zero_or_pos len with h | h
        · subst h; exact absurd rfl hne
        · omega
      rw [← (addr_of_cell (hrows 0 h0).1).1]
    · have h0 : 0 < cap := by
        rcases Nat.eq_zero_or_pos len with h | h
        · subst h; exact absurd rfl hne
        · omega
      exact (addr_of_cell (hrows 0 h0).1).2
    · rw [hlen] at hi
      obtain ⟨hc, hLC, hCm, hZ, hwf, hnone, hA⟩ := hrows i (by omega)
      rw [addr_add (addr_of_cell (hrows 0 (by omega)).1).1] at hc
      refine ⟨_, hc, ?_⟩
      have e1 : ((List.range len).map fun r => (Z r).take (L r)).getD i [] = (Z i).take (L i) := by simp [hi]
      rw [e1]
      have hl2 : ((Z i).take (L i)).length = L i := by rw [List.length_take]; omega
      cases hAi : A i with
      | none =>
        have hC0 := hnone hAi
        have hL0 : L i = 0 := by omega
        exact ⟨none, 0, 0, C i, by rw [hl2], fun h => absurd (by rw [hL0]; simp) h, by rw [hl2]; exact hLC, hCm, fun j hj => by rw [hl2] at hj; omega, fun h => absurd (by rw [hL0]; simp) h, by rw [hl2]; omega⟩
      | some a' =>
        obtain ⟨_, hcell⟩ := hA a' hAi
        have h2 : (DataW.weights P e (Go.Deep.intRow .i64 (A i) (L i) (Z i))).all (· ≤ reachBytes) = true := weights_elem ht hw _ (List.mem_map.2 ⟨i, List.mem_range.2 hi, rfl⟩)
        rw [hAi] at h2
        have h3 := weights_slice_le he h2
        rw [bq] at h3
        simp only [lits, List.length_map, List.length_take, List.length_drop, reachBytes] at h3
        have h0 : ∀ (hne : (Z i).take (L i) ≠ []), 0 < C i := fun hne => by
          rcases Nat.eq_zero_or_pos (C i) with h | h
          · have : L i = 0 := by omega
            rw [this] at hne; simp at hne
          · exact h
        refine ⟨some a', a'.block, a'.off, C i, by rw [hl2], fun hne => by rw [← (addr_of_cell (hcell 0 (h0 hne))).1], by rw [hl2]; exact hLC, hCm, fun j hj => ?_, fun hne => (addr_of_cell (hcell 0 (h0 hne))).2, by rw [hl2]; omega⟩
        rw [hl2] at hj
        have h4 := hcell j (by omega)
        rw [addr_add (addr_of_cell (hcell 0 (by omega))).1] at h4
        rw [h4]
        have hjz : j < (Z i).length := by omega
        simp [hjz, hj]
end
end Go.Proofs.YthmflcmbaldflaaGreatDoor
namespace Go.Proofs.YthmflcmbaldflaaGreatDoor
open Go.RowKit Go.ChangeShapes Go.WideShapes
set_option linter.unusedVariables false

/-- Bit v of a word. -/
def bitAt (x : Int) (v : Int) : Bool := bits .and .u64 (x / 2 ^ min v.toNat 64) 1 == 1
theorem rchC_of_mem {c : Cells} {s : List Int} {k : Nat} (g : hasM c ((k : Int) + 2) = true) (hm : ((k : Int) + 2) ∈ s) : RchC c s k := by
  rcases hasM_cases g with e | e | ⟨k', n, e, hn, _⟩
  · omega
  · omega
  · obtain rfl : k = k' := by omega
    exact RchC.start hn hm
theorem ownsRow_only {S : Nat → Prop} {w w2 : World} {base e size : Nat} {v : Value} {n : Nat} {xs : List Value} (h : w.ownsRow base e size v n xs) (ho : Only S w w2) (hs : ∀ k, S k → k < base) : w2.ownsRow base e size v n xs := by
  refine ⟨h.1, ?_⟩
  rcases h.2 with hn | ⟨g, cap, cur, rfl, h1, h2, r⟩
  · exact .inl hn
  · exact .inr ⟨g, cap, cur, rfl, h1, by rw [ho.block g (Array.getElem?_eq_some_iff.1 h2).1 (fun hk => by have := hs _ hk; omega)]; exact h2, r⟩
theorem owns_at {w : World} {base e : Nat} {v : Value} {xs : List Int} (h : w.ownsRow base e 1 v xs.length (xs.map (Value.int .i64))) (hp : 0 < xs.length) :
    ∃ g cap, v = .slice (some ⟨g, 0, none⟩) xs.length cap ∧ ∀ (i : Nat) (hi : i < xs.length), w.cell? ⟨g, i, none⟩ = some (.int .i64 xs[i]) := by
  have h' := h
  rcases h.2 with ⟨rfl, e⟩ | ⟨g, cap, cur, rfl, hg, hh, _⟩
  · omega
  · exact ⟨g, cap, rfl, fun i hi => by rw [h'.cellAt i (by omega)]; simp [hi]⟩
theorem ints_of_owns {w : World} {base e : Nat} {v : Value} {n : Nat} {xs : List Int} (h : w.ownsRow base e 1 v n (xs.map (Value.int .i64))) (hl : xs.length ≤ 17592186044416) : IsInts w v xs := by
  obtain ⟨h1, h2⟩ := h
  have hn : n = xs.length := by simp at h1; omega
  subst hn
  rcases h2 with ⟨rfl, h3⟩ | ⟨g, cap, cur, rfl, hg, hh, h3, h4, h5, h6⟩
  · have e : xs = [] := List.eq_nil_of_length_eq_zero h3
    subst e
    exact ⟨none, 0, 0, 0, rfl, fun h => absurd rfl h, Nat.le_refl _, Nat.zero_le _, fun i hi => absurd hi (by simp), fun h => absurd rfl h, Nat.zero_le _⟩
  · refine ⟨_, g, 0, cap, rfl, fun _ => rfl, h3, h4, fun i hi => ?_, fun _ => (Array.getElem?_eq_some_iff.1 hh).1, hl⟩
    rw [cell_of_row w g (0 + i) cur e (0, 0) hh, Nat.zero_add]
    have h7 : (cur.toList.take (xs.length * 1))[i]? = some (.int .i64 xs[i]) := by rw [h6]; simp [hi]
    rw [List.getElem?_take] at h7
    have e2 : xs.getD i 0 = xs[i] := by simp [hi]
    rw [e2]
    split at h7
    · simpa using h7
    · cases h7
theorem Only.drew0 {S : Nat → Prop} {w w' : World} (h : Only S w.drew w') : Only S w w' := ⟨h.os, h.tape, h.output, h.size, h.block⟩
theorem bitAt_nat (y : Nat) (hy : y < 18446744073709551616) (j : Nat) (hj : j < 64) : bitAt (y : Int) (j : Int) = y.testBit j := by
  unfold bitAt
  have e1 : min ((j : Int).toNat) 64 = j := by rw [Int.toNat_natCast]; omega
  have e2 : (y : Int) / 2 ^ j = ((y / 2 ^ j : Nat) : Int) := by simp
  rw [e1, e2, show (1 : Int) = ((1 : Nat) : Int) by rfl, bits_and_u64_nat _ _ (Nat.lt_of_le_of_lt (Nat.div_le_self _ _) hy) (by decide)]
  have h3 : y / 2 ^ j &&& 1 = (y / 2 ^ j) % 2 := Nat.and_one_is_mod _
  have h5 : y.testBit j = decide (y / 2 ^ j % 2 = 1) := Nat.testBit_eq_decide_div_mod_eq
  rw [h3, h5]
  rcases Nat.mod_two_eq_zero_or_one (y / 2 ^ j) with h4 | h4 <;> rw [h4] <;> rfl
end Go.Proofs.YthmflcmbaldflaaGreatDoor
namespace Go.Proofs.YthmflcmbaldflaaGreatDoor
open Go.RowKit
set_option linter.unusedVariables false

set_option maxHeartbeats 4000000 in
theorem Holds_any (V : Int) (h x : Int) (w : World) (s : Sb) (st : Sp) (hs : IsSpace w s V st) (so : SOk V st) (hh : hasM st.c h = true) :
    Calls Tryz.prog 11 #[.pointer (some ⟨s.ps, 0, none⟩), .int .i64 h, .int .u64 x] w fun e w' => e = .returned (.tuple #[.bool (den st.c h (bitAt x)), .nilIface]) ∧ Below w.heap.size w w' := by
  have hlen := hs.ar.len
  have hR := hs.ar.room.2
  have lh : ∀ k : Int, hasM st.c k = true → k ≤ 9223372036854775807 := fun k hk => by have := hasM_le hk; omega
  have c0 := hs.s0
  have hha := ahas_any h w s.b st.c hs.ar (lh h hh)
  rw [hh] at hha
  obtain ⟨D, hD⟩ : ∃ D, D = den st.c h (bitAt x) := ⟨_, rfl⟩
  rw [← hD]
  have Hha := Lib.hid hha; have Hs := Lib.hid hs; have Hso := Lib.hid so; have Hhh := Lib.hid hh; have HD := Lib.hid hD; have Lh := Lib.hid lh
  clear hha hs so hh hD lh hlen hR
  go_enter Tryz.func11, Tryz.ntmps11
  go_wp2_with fail
  refine Hha.out.mono ?_
  rintro e w1 ⟨rfl, rfl⟩
  go_wp2_with fail
  go_loopg [1] (24 - topM st.c h).toNat (fun gk i wr => Below w.heap.size w wr ∧ ∃ k : Int, i = .int .i64 k ∧ gk = (24 - topM st.c k).toNat ∧ hasM st.c k = true ∧ den st.c k (bitAt x) = D)
  case atStart => exact ⟨Below.refl _ _, h, rfl, rfl, Hhh.out, HD.out.symm⟩
  case round =>
    clear c0 Hha
    obtain ⟨hb, k, rfl, rfl, hk, hd⟩ := hrel
    have hsr := Hs.out.below hb
    have c0 := hsr.s0
    have hg := get_any k wr s.b st.c hsr.ar (Lh.out k hk)
    have Hb := Lib.hid hb; have Hk := Lib.hid hk; have Hd := Lib.hid hd; clear hsr hb hk hd
    cases g : getM st.c k with
    | none =>
      rw [g] at hg
      have hd2 := Hd.out
      rw [den_end g] at hd2
      have Hg := Lib.hid hg; clear hg g
      go_wp2_with fail
      refine Hg.out.mono ?_
      rintro e w2 ⟨rfl, rfl⟩
      simp only [gotV, encNd, Option.getD_none, Option.isSome_none]
      go_wp2_with fail
      go_ret2
      exact ⟨rfl, Hb.out.trans ((((Below.refl _ _).alloc (Nat.le_refl _) _).alloc (by simp) _).mono Hb.out.size)⟩
    | some n =>
      obtain ⟨u, lo, hi⟩ := n
      rw [g] at hg
      have hd2 := Hd.out
      rw [den_node Hso.out.ok g] at hd2
      obtain ⟨b1, b2, k1, k2, k3, k4⟩ := Hso.out.ok.kids g
      have ht := top_node g
      dsimp only at hd2 b1 b2 k1 k2 k3 k4 ht
      have hu : 0 ≤ u := b1
      have hm1 : (24 - topM st.c lo).toNat < (24 - topM st.c k).toNat := by omega
      have hm2 : (24 - topM st.c hi).toNat < (24 - topM st.c k).toNat := by omega
      have Hg := Lib.hid hg; have K1 := Lib.hid k1; have K2 := Lib.hid k2; have Hm1 := Lib.hid hm1; have Hm2 := Lib.hid hm2; have Hd2 := Lib.hid hd2; clear hg g k1 k2 k3 k4 ht b1 b2 hm1 hm2 hd2
      by_cases hbit : bitAt x u = true
      · have hbit2 : (bits .and .u64 (x / 2 ^ min u.toNat 64) 1 == 1) = true := hbit
        have Hbit := Lib.hid hbit; clear hbit
        go_wp2_with fail
        refine Hg.out.mono ?_
        rintro e w2 ⟨rfl, rfl⟩
        simp only [gotV, encNd, Option.getD_some, Option.isSome_some]
        go_wp2_with fail
        go_roundg ((24 - topM st.c hi).toNat)
        case measure => exact Hm2.out
        case rel => exact ⟨Hb.out.trans ((((Below.refl _ _).alloc (Nat.le_refl _) _).alloc (by simp) _).mono Hb.out.size), hi, rfl, rfl, K2.out, by have := Hd2.out; rw [Hbit.out] at this; exact this⟩
      · have hbit2 : (bits .and .u64 (x / 2 ^ min u.toNat 64) 1 == 1) = false := by simpa [bitAt] using hbit
        have hbf : bitAt x u = false := hbit2
        have Hbit := Lib.hid hbf; clear hbf hbit
        go_wp2_with fail
        refine Hg.out.mono ?_
        rintro e w2 ⟨rfl, rfl⟩
        simp only [gotV, encNd, Option.getD_some, Option.isSome_some]
        go_wp2_with fail
        go_roundg ((24 - topM st.c lo).toNat)
        case measure => exact Hm1.out
        case rel => exact ⟨Hb.out.trans ((((Below.refl _ _).alloc (Nat.le_refl _) _).alloc (by simp) _).mono Hb.out.size), lo, rfl, rfl, K1.out, by have := Hd2.out; rw [Hbit.out] at this; exact this⟩
end Go.Proofs.YthmflcmbaldflaaGreatDoor
namespace Go.Proofs.YthmflcmbaldflaaGreatDoor
open Go.RowKit Go.ChangeShapes Go.WideShapes
set_option linter.unusedVariables false


/-- What, A, B, C. -/
abbrev Stp := Int × Int × Int × Int
def IsSteps (w : World) (v : Value) (l : List Stp) : Prop :=
  ∃ a b o c, v = .slice a l.length c ∧ (l ≠ [] → a = some ⟨b, o, none⟩) ∧ l.length ≤ c ∧ c ≤ maxLen ∧ (l ≠ [] → b < w.heap.size) ∧
    ∀ i (h : i < l.length), w.cell? ⟨b, o + i * 4, none⟩ = some (.int .i64 l[i].1) ∧ w.cell? ⟨b, o + i * 4 + 1, none⟩ = some (.int .i64 l[i].2.1) ∧ w.cell? ⟨b, o + i * 4 + 2, none⟩ = some (.int .i64 l[i].2.2.1) ∧ w.cell? ⟨b, o + i * 4 + 3, none⟩ = some (.int .i64 l[i].2.2.2)
theorem IsSteps.below {w w' : World} {v : Value} {l : List Stp} (h : IsSteps w v l) (hb : Below w.heap.size w w') : IsSteps w' v l := by
  obtain ⟨a, b, o, c, h1, h2, h3, h4, h5, h6⟩ := h
  refine ⟨a, b, o, c, h1, h2, h3, h4, fun e => Nat.lt_of_lt_of_le (h5 e) hb.size, fun i hi => ?_⟩
  have hlt : b < w.heap.size := h5 (by intro e; subst e; simp at hi)
  obtain ⟨g0, g1, g2, g3⟩ := h6 i hi
  exact ⟨(hb.cell hlt).trans g0, (hb.cell hlt).trans g1, (hb.cell hlt).trans g2, (hb.cell hlt).trans g3⟩

section
variable {H : Type} {enc : TypeId × Value → H} {P : Program}
set_option maxHeartbeats 1000000 in
/-- An argument that is a slice of steps. -/
theorem isSteps_trod {t e : TypeId} {f0 f1 f2 f3 : Field} {W : World} {base : Nat} {v : Value} {d : DataW H} {p : List MemPlace} (ht : P.underlying t = some (.slice e)) (he : P.underlying e = some (.struct #[f0, f1, f2, f3])) (ce : P.cellsOf e = 4)
    (o : f0.offset = 0 ∧ f1.offset = 1 ∧ f2.offset = 2 ∧ f3.offset = 3) (i0 : P.underlying f0.type = some (.int .i64) ∧ P.cellsOf f0.type = 1) (i1 : P.underlying f1.type = some (.int .i64) ∧ P.cellsOf f1.type = 1) (i2 : P.underlying f2.type = some (.int .i64) ∧ P.cellsOf f2.type = 1) (i3 : P.underlying f3.type = some (.int .i64) ∧ P.cellsOf f3.type = 1)
    (hok : Value.okWide P W .any base t v) (h : DataW.Trod enc P W 0 (fun _ => true) true t v d p) : ∃ l, IsSteps W v l := by
  obtain ⟨a0, len, cap, rfl⟩ := okWide_slice ht hok
  obtain ⟨fuel, hf⟩ := h
  rcases Go.Deep.open_slice ht hf with ⟨hcs, hx⟩ | ⟨a, len', cap', m, n, D, Pl, hcs, _, hl, hm, hmm, hx, hel⟩
  · simp [Value.cells] at hcs
    obtain ⟨rfl, rfl, rfl⟩ := hcs
    exact ⟨[], none, 0, 0, 0, rfl, fun h => absurd rfl h, Nat.le_refl _, Nat.zero_le _, fun h => absurd rfl h, fun i hi => absurd hi (by simp)⟩
  · simp [Value.cells] at hcs
    obtain ⟨rfl, rfl, rfl⟩ := hcs
    have each : ∀ i, i < len → ∃ x : Stp, W.cell? (a.add (i * 4)) = some (.int .i64 x.1) ∧ W.cell? (a.add (i * 4 + 1)) = some (.int .i64 x.2.1) ∧ W.cell? (a.add (i * 4 + 2)) = some (.int .i64 x.2.2.1) ∧ W.cell? (a.add (i * 4 + 3)) = some (.int .i64 x.2.2.2) := by
      intro i hi
      obtain ⟨cs', h1, h2⟩ := hel i (by rw [hmm]; simp; omega)
      rw [ce] at h1
      obtain ⟨_, hlen, hcell⟩ := World.cells?_some h1
      obtain ⟨y0, y1, y2, y3, k, _, _, t0, t1, t2, t3⟩ := Go.Joins.trod_struct4 he h2
      match cs', hlen with
      | [v0, v1, v2, v3], _ =>
        simp [o.1, o.2.1, o.2.2.1, o.2.2.2, i0.2, i1.2, i2.2, i3.2] at t0 t1 t2 t3
        obtain ⟨x0, q0, _, _⟩ := DataW.trod_int i0.1 t0
        obtain ⟨x1, q1, _, _⟩ := DataW.trod_int i1.1 t1
        obtain ⟨x2, q2, _, _⟩ := DataW.trod_int i2.1 t2
        obtain ⟨x3, q3, _, _⟩ := DataW.trod_int i3.1 t3
        have e0 := hcell 0 (by omega)
        have e1 := hcell 1 (by omega)
        have e2 := hcell 2 (by omega)
        have e3 := hcell 3 (by omega)
        rw [Go.Deep.add_add] at e0 e1 e2 e3
        cases q0; cases q1; cases q2; cases q3
        exact ⟨(x0, x1, x2, x3), by simpa using e0, by simpa using e1, by simpa using e2, by simpa using e3⟩
    obtain ⟨q, hq⟩ := Go.Deep.choose_lt each
    refine ⟨(List.range len).map q, some a, a.block, a.off, cap, by simp, fun hne => ?_, by simpa using hl, hm, fun hne => ?_, fun i hi => ?_⟩
    · have h0 : 0 < len := by
        rcases Nat.eq_zero_or_pos len with h | h
        · subst h; exact absurd rfl hne
        · exact h
      have := (hq 0 h0).1
      rw [Nat.zero_mul] at this
      rw [← (addr_of_cell this).1]
    · have h0 : 0 < len := by
        rcases Nat.eq_zero_or_pos len with h | h
        · subst h; exact absurd rfl hne
        · exact h
      have := (hq 0 h0).1
      rw [Nat.zero_mul] at this
      exact (addr_of_cell this).2
    · have hi2 : i < len := by simpa using hi
      have h0 := (hq 0 (by omega)).1
      rw [Nat.zero_mul] at h0
      have ha := (addr_of_cell h0).1
      obtain ⟨g0, g1, g2, g3⟩ := hq i hi2
      rw [addr_add ha] at g0 g1 g2 g3
      have e : ((List.range len).map q)[i] = q i := by simp
      rw [e]
      exact ⟨g0, by rw [← g1]; rfl, by rw [← g2]; rfl, by rw [← g3]; rfl⟩
end

theorem At_any (a : Int) (n : Nat) (w : World) (h0 : 0 < n) (h1 : n ≤ 1000000) :
    Calls Tryz.prog 38 #[.int .i64 a, .int .i64 n] w fun e w' => e = .returned (.int .i64 (pickN a n)) ∧ w = w' := by
  have hp := pick_eq a n h0 h1
  have Hp := Lib.hid hp; clear hp
  go_enter Tryz.func38, Tryz.ntmps38
  go_wp2_with fail
  go_ret
  refine ⟨?_, rfl⟩
  rw [← Hp.out]
  rfl
def outAt (out : List Int) (a : Int) : Int := out.getD (pickN a out.length) 0


/-- A step's box. -/
structure FBx (w wr : World) (bx : Nat) (x : Stp) : Prop where
  lo : w.heap.size ≤ bx
  hi : bx < wr.heap.size
  b0 : wr.cell? ⟨bx, 0, none⟩ = some (.int .i64 x.1)
  b1 : wr.cell? ⟨bx, 1, none⟩ = some (.int .i64 x.2.1)
  b2 : wr.cell? ⟨bx, 2, none⟩ = some (.int .i64 x.2.2.1)
  b3 : wr.cell? ⟨bx, 3, none⟩ = some (.int .i64 x.2.2.2)
theorem FBx.only {S : Nat → Prop} {w wr w2 : World} {bx : Nat} {x : Stp} (h : FBx w wr bx x) (ho : Only S wr w2) (hs : ∀ k, S k → k < w.heap.size) : FBx w w2 bx x := by
  have hn : ¬ S bx := fun hk => by have := hs _ hk; have := h.lo; omega
  exact ⟨h.lo, Nat.lt_of_lt_of_le h.hi ho.size, (ho.cell h.hi hn).trans h.b0, (ho.cell h.hi hn).trans h.b1, (ho.cell h.hi hn).trans h.b2, (ho.cell h.hi hn).trans h.b3⟩

theorem IsSteps.shape {w : World} {v : Value} {xs : List Stp} (h : IsSteps w v xs) : ∃ a c, v = .slice a xs.length c ∧ xs.length ≤ c ∧ c ≤ 9223372036854775807 := by
  obtain ⟨a, b, o, c, rfl, _, h3, h4, _⟩ := h
  exact ⟨a, c, rfl, h3, by unfold maxLen at h4; omega⟩
theorem IsSteps.addr {w : World} {a : Option Addr} {n c : Nat} {xs : List Stp} (h : IsSteps w (.slice a n c) xs) {k : Nat} (hk : k < xs.length) : ∃ b o, a = some ⟨b, o, none⟩ ∧ b < w.heap.size := by
  obtain ⟨_, b, o, _, hh, h2, _, _, h6, _⟩ := h
  cases hh
  exact ⟨b, o, h2 (by intro e; subst e; simp at hk), h6 (by intro e; subst e; simp at hk)⟩
theorem IsSteps.get {w : World} {b o n c : Nat} {xs : List Stp} (h : IsSteps w (.slice (some ⟨b, o, none⟩) n c) xs) {k : Nat} (hk : k < xs.length) {x : Stp} (hx : x = xs[k]) :
    w.cell? ⟨b, o + k * 4, none⟩ = some (.int .i64 x.1) ∧ w.cell? ⟨b, o + k * 4 + 1, none⟩ = some (.int .i64 x.2.1) ∧ w.cell? ⟨b, o + k * 4 + 2, none⟩ = some (.int .i64 x.2.2.1) ∧ w.cell? ⟨b, o + k * 4 + 3, none⟩ = some (.int .i64 x.2.2.2) := by
  obtain ⟨_, b', o', _, hh, h2, _, _, _, h6⟩ := h
  cases hh
  cases h2 (by intro e; subst e; simp at hk)
  subst hx
  exact h6 k hk

end Go.Proofs.YthmflcmbaldflaaGreatDoor
namespace Go.Proofs.YthmflcmbaldflaaGreatDoor
open Go.RowKit Go.ChangeShapes Go.WideShapes
set_option linter.unusedVariables false

end Go.Proofs.YthmflcmbaldflaaGreatDoor
namespace Go.Proofs.YthmflcmbaldflaaGreatDoor
set_option linter.unusedVariables false

theorem ROk.le {V : Int} {st : Sp} {r : Sp × Int × Nat} {D : (Int → Bool) → Bool} {k k' : Nat} (h : ROk V st r D k) (hk : k ≤ k') : ROk V st r D k' := ⟨h.err, h.sok, h.ext, h.has, h.den, by have := h.cnt; omega⟩
theorem ROk.of {V : Int} {st : Sp} {r r' : Sp × Int × Nat} {D D' : (Int → Bool) → Bool} {k : Nat} (h : ROk V st r D k) (e : r' = r) (hD : ∀ val, D val = D' val) : ROk V st r' D' k := by subst e; exact ⟨h.err, h.sok, h.ext, h.has, fun val => (h.den val).trans (hD val), h.cnt⟩
theorem litX_ok {V : Int} (hV : V ≤ 24) {st : Sp} {v : Int} (is : Bool) (h0 : 0 ≤ v) (h1 : v < V) (so : SOk V st) (hr : cnt st.c < st.c.length) : ROk V st (litX st v is) (fun val => val v == is) 1 := by
  have t1 : topM st.c 1 = 24 := top_end (getM_end _ (.inr rfl))
  have t0 : topM st.c 0 = 24 := top_end (getM_end _ (.inl rfl))
  cases is
  · have n := nodeM_spec so.ok so.red h0 (by omega) (hasM_one st.c) (hasM_zero st.c) (by rw [t1]; omega) (by rw [t0]; omega) hr
    refine ⟨n.err, so.more n.ext ⟨n.ok, n.red, fun k m hk => ?_⟩, n.ext, n.has, fun val => (n.den val).trans ?_, n.cnt⟩
    · rcases n.old k m hk with h | rfl
      · exact so.vlt k m h
      · exact h1
    · rw [den_zero, den_one]; cases val v <;> rfl
  · have n := nodeM_spec so.ok so.red h0 (by omega) (hasM_zero st.c) (hasM_one st.c) (by rw [t0]; omega) (by rw [t1]; omega) hr
    refine ⟨n.err, so.more n.ext ⟨n.ok, n.red, fun k m hk => ?_⟩, n.ext, n.has, fun val => (n.den val).trans ?_, n.cnt⟩
    · rcases n.old k m hk with h | rfl
      · exact so.vlt k m h
      · exact h1
    · rw [den_zero, den_one]; cases val v <;> rfl
theorem cnt_sweep_le (c : Cells) (l : List Int) : cnt (sweepM c l) ≤ cnt c := by
  rw [cnt_range, cnt_range c, sweepM_len, ← List.countP_eq_length_filter, ← List.countP_eq_length_filter]
  refine List.countP_mono_left fun k hk h => ?_
  obtain ⟨n, hn⟩ := Option.isSome_iff_exists.1 h
  rw [(sweepM_some.1 hn).2]; rfl
theorem at_of_has {c : Cells} {k : Nat} (g : hasM c ((k : Int) + 2) = true) : ∃ n, c.at k = some n := by
  rcases hasM_cases g with h | h | ⟨k', n, e, hn, _⟩
  · omega
  · omega
  · obtain rfl : k = k' := by omega
    exact ⟨n, hn⟩
theorem getM_sweep {c : Cells} {s : List Int} {h : Int} (hk : ∀ k : Nat, h = (k : Int) + 2 → RchC c s k) : getM (sweepM c s) h = getM c h := by
  rcases Int.lt_or_le h 2 with h1 | h1
  · unfold getM; rw [if_pos h1, if_pos h1]
  · obtain ⟨k, rfl⟩ : ∃ k : Nat, h = (k : Int) + 2 := ⟨(h - 2).toNat, by omega⟩
    rw [getM_node, getM_node, sweepM_at, if_pos (hk k rfl)]
theorem den_sweep {c : Cells} (o : Ok c) {s : List Int} (val : Int → Bool) : ∀ h, (∀ k : Nat, h = (k : Int) + 2 → RchC c s k) → den (sweepM c s) h val = den c h val := by
  refine node_ind o (Q := fun h => (∀ k : Nat, h = (k : Int) + 2 → RchC c s k) → den (sweepM c s) h val = den c h val) (fun h g hk => by rw [den_end g, den_end ((getM_sweep hk).trans g)]) (fun h n g ih1 ih2 hk => ?_)
  obtain ⟨k, rfl, hk1, _⟩ := getM_some g
  obtain ⟨_, _, l1, l2, _, _⟩ := o.kids g
  rw [den_node o g, den_node (sweepM_ok o s) ((getM_sweep hk).trans g), ih1 (fun j e => ?_), ih2 (fun j e => ?_)]
  · rw [e] at l2
    obtain ⟨n', hn'⟩ := at_of_has l2
    exact (hk k rfl).high hk1 hn' e
  · rw [e] at l1
    obtain ⟨n', hn'⟩ := at_of_has l1
    exact (hk k rfl).low hk1 hn' e
theorem den_free_keep {V : Int} {st : Sp} (so : SOk V st) {keep : List Int} {h : Int} (hm : h ∈ keep) (hh : hasM st.c h = true) (val : Int → Bool) : den (freeX st keep).c h val = den st.c h val :=
  den_sweep so.ok val h (fun k e => by subst e; exact rchC_of_mem hh hm)
theorem freeX_len (st : Sp) (l : List Int) : (freeX st l).c.length = st.c.length := sweepM_len _ _
theorem freeX_cnt (st : Sp) (l : List Int) : cnt (freeX st l).c ≤ cnt st.c := cnt_sweep_le _ _
end Go.Proofs.YthmflcmbaldflaaGreatDoor
namespace Go.Proofs.YthmflcmbaldflaaGreatDoor
set_option linter.unusedVariables false

def odd (x : Int) : Bool := x.tmod 2 != 0
/-- One step. -/
def stepX (V : Nat) (st : Sp) (out : List Int) (x : Stp) : Sp × Int × Nat :=
  let a := outAt out x.2.1
  let b := outAt out x.2.2.1
  let c := outAt out x.2.2.2
  let v : Int := pickN x.2.2.1 V
  if pickN x.1 9 = 0 then litX st (pickN x.2.1 V) (odd x.2.2.1)
  else if pickN x.1 9 = 1 then iteX st a 0 1
  else if pickN x.1 9 = 2 then iteX st a b 0
  else if pickN x.1 9 = 3 then iteX st a 1 b
  else if pickN x.1 9 = 4 then xorX st a b
  else if pickN x.1 9 = 5 then iteX st a b c
  else if pickN x.1 9 = 6 then setX st a v (odd x.2.2.2)
  else if pickN x.1 9 = 7 then someX st a v
  else eachX st a v
noncomputable def funsX (V : Nat) : List Stp → Sp → List Int → Sp × List Int
  | [], st, out => (st, out)
  | x :: l, st, out => funsX V l (freeX (stepX V st out x).1 (out ++ [(stepX V st out x).2.1])) (out ++ [(stepX V st out x).2.1])

/-- A space and the handles that are kept. -/
structure FOk (V : Nat) (st : Sp) (out : List Int) : Prop where
  sok : SOk V st
  has : ∀ h ∈ out, hasM st.c h = true
  ne : 0 < out.length
theorem FOk.at_ {V : Nat} {st : Sp} {out : List Int} (h : FOk V st out) (a : Int) : hasM st.c (outAt out a) = true := by
  have hl := pickN_lt a h.ne
  refine h.has _ ?_
  unfold outAt
  rw [List.getD_eq_getElem?_getD, List.getElem?_eq_getElem hl]
  exact List.getElem_mem hl


theorem xorX_ok {V : Int} (hV : V ≤ 24) {st : Sp} {a b : Int} (so : SOk V st) (ha : hasM st.c a = true) (hb : hasM st.c b = true) (hr : cnt st.c + 2 * 2 ^ V.toNat ≤ st.c.length + 1) :
    ROk V st (xorX st a b) (fun val => den st.c a val != den st.c b val) (2 * 2 ^ V.toNat) := by
  have r1 := iteX_ok hV so hb (hasM_zero _) (hasM_one _) (by omega)
  have l1 := r1.ext.len; have c1 := r1.cnt
  have r2 := iteX_ok hV r1.sok (r1.hasOld ha) r1.has (r1.hasOld hb) (by omega)
  refine ⟨r2.err, r2.sok, r1.ext.trans r2.ext, r2.has, fun val => (r2.den val).trans ?_, by have := r2.cnt; unfold xorX; dsimp only; omega⟩
  rw [old_den r1 so ha, old_den r1 so hb, r1.den, den_zero, den_one]
  cases den st.c a val <;> cases den st.c b val <;> rfl

theorem stepX_ok {V : Nat} (h1 : 1 ≤ V) (hV : V ≤ 24) {st : Sp} {out : List Int} (f : FOk V st out) (x : Stp) (hr : cnt st.c + 2 * 2 ^ V ≤ st.c.length + 1) : ∃ D, ROk V st (stepX V st out x) D (2 * 2 ^ V) := by
  have hr2 : cnt st.c + 2 * 2 ^ (V : Int).toNat ≤ st.c.length + 1 := by simpa using hr
  have hp := Nat.two_pow_pos V
  have hpe : 2 ^ (V : Int).toNat = 2 ^ V := by simp
  have hV' : (V : Int) ≤ 24 := by omega
  have v1 := pickN_lt x.2.1 (show 0 < V by omega)
  have v2 := pickN_lt x.2.2.1 (show 0 < V by omega)
  have A := f.at_ x.2.1
  have B := f.at_ x.2.2.1
  have C := f.at_ x.2.2.2
  unfold stepX
  dsimp only
  rw [← hpe]
  repeat' split
  · exact ⟨_, (litX_ok hV' _ (by omega) (by omega) f.sok (by omega)).le (by omega)⟩
  · exact ⟨_, (iteX_ok hV' f.sok A (hasM_zero _) (hasM_one _) (by omega)).le (by omega)⟩
  · exact ⟨_, (iteX_ok hV' f.sok A B (hasM_zero _) (by omega)).le (by omega)⟩
  · exact ⟨_, (iteX_ok hV' f.sok A (hasM_one _) B (by omega)).le (by omega)⟩
  · exact ⟨_, xorX_ok hV' f.sok A B hr2⟩
  · exact ⟨_, (iteX_ok hV' f.sok A B C (by omega)).le (by omega)⟩
  · have ph := pow_half (V := V) (v := (pickN x.2.2.1 V : Int)) (by omega) (by omega)
    exact ⟨_, (setX_ok hV' _ (by omega) (by omega) f.sok A (by omega)).le (by omega)⟩
  · exact ⟨_, someX_ok hV' (by omega) (by omega) f.sok A hr2⟩
  · exact ⟨_, eachX_ok hV' (by omega) (by omega) f.sok A hr2⟩

/-- What is freed leaves the handles that are kept. -/
theorem FOk.free {V : Nat} {st : Sp} {keep : List Int} (so : SOk V st) (hk : ∀ h ∈ keep, hasM st.c h = true) (hn : 0 < keep.length) : FOk V (freeX st keep) keep := by
  refine ⟨SOk.none (so.cells.sweep keep), fun h hm => sweepM_has (hk h hm) (fun k e => ?_), hn⟩
  subst e
  exact rchC_of_mem (hk _ hm) hm
theorem FOk.next {V : Nat} {st : Sp} {out : List Int} {r : Sp × Int × Nat} {D : (Int → Bool) → Bool} {k : Nat} (f : FOk V st out) (h : ROk V st r D k) : FOk V (freeX r.1 (out ++ [r.2.1])) (out ++ [r.2.1]) := by
  refine FOk.free h.sok (fun y hy => ?_) (by simp)
  rcases List.mem_append.1 hy with hy | hy
  · exact h.hasOld (f.has y hy)
  · rw [List.mem_singleton.1 hy]; exact h.has
end Go.Proofs.YthmflcmbaldflaaGreatDoor
