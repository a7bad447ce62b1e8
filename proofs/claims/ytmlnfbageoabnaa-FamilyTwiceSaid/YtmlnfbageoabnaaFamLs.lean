/- Contract: the closure of (*family.Store).List. -/
import Derived.Test.YtmlnfbageoabnaaFamCt
import Derived.StillTailTactics
import Derived.Laws.Bits64b
namespace Go.Proofs.Ytmlnfbageoabnaa
open Go.RowKit
set_option linter.unusedVariables false

/-! ### The sets as words -/
def outMF : Nat → Cells → Int → Nat → List Nat
  | 0, _, _, _ => []
  | f + 1, c, h, x => match getM c h with
    | none => if h = 1 then [x] else []
    | some n => outMF f c n.2.1 x ++ outMF f c n.2.2 (x ||| 2 ^ n.1.toNat)
theorem outMF_none {f : Nat} {c : Cells} {h : Int} (e : getM c h = none) (x : Nat) : outMF (f + 1) c h x = if h = 1 then [x] else [] := by simp only [outMF, e]
theorem outMF_some {f : Nat} {c : Cells} {h : Int} {n : Nd} (e : getM c h = some n) (x : Nat) : outMF (f + 1) c h x = outMF f c n.2.1 x ++ outMF f c n.2.2 (x ||| 2 ^ n.1.toNat) := by simp only [outMF, e]
def outM (c : Cells) (h : Int) (x : Nat) : List Nat := outMF 25 c h x
theorem outMF_more {c : Cells} (o : Ok c) : ∀ (f g : Nat) (h : Int) (x : Nat), (24 - topM c h).toNat < f → f ≤ g → outMF f c h x = outMF g c h x
  | 0, _, _, _, h1, _ => absurd h1 (Nat.not_lt_zero _)
  | f + 1, 0, _, _, _, h2 => absurd h2 (by omega)
  | f + 1, g + 1, h, x, h1, h2 => by
    cases e : getM c h with
    | none => rw [outMF_none e, outMF_none e]
    | some n =>
      obtain ⟨k1, k2, _, _, k3, k4⟩ := o.kids e
      rw [top_node e] at h1
      rw [outMF_some e, outMF_some e, outMF_more o f g n.2.1 _ (by omega) (by omega), outMF_more o f g n.2.2 _ (by omega) (by omega)]
theorem outM_node {c : Cells} (o : Ok c) {h : Int} {n : Nd} (e : getM c h = some n) (x : Nat) : outM c h x = outM c n.2.1 x ++ outM c n.2.2 (x ||| 2 ^ n.1.toNat) := by
  obtain ⟨k1, k2, _, _, k3, k4⟩ := o.kids e
  show outMF (24 + 1) c h x = outMF 25 c n.2.1 x ++ outMF 25 c n.2.2 _
  rw [outMF_some e, outMF_more o 24 25 n.2.1 _ (by omega) (by omega), outMF_more o 24 25 n.2.2 _ (by omega) (by omega)]
theorem outM_end {c : Cells} {h : Int} (e : getM c h = none) (x : Nat) : outM c h x = if h = 1 then [x] else [] := outMF_none (f := 24) e x

/-- A word's set. -/
def smN (y : Nat) : St := fun u => decide (0 ≤ u) && y.testBit u.toNat
theorem mem_outM {c : Cells} (o : Ok c) : ∀ (h : Int) (x y : Nat), y ∈ outM c h x ↔ ∃ s, Z c h s ∧ ∀ j : Nat, y.testBit j = (x.testBit j || s (j : Int)) := by
  refine node_ind o (Q := fun h => ∀ (x y : Nat), y ∈ outM c h x ↔ ∃ s, Z c h s ∧ ∀ j : Nat, y.testBit j = (x.testBit j || s (j : Int))) (fun h g x y => ?_) (fun h n g ih1 ih2 x y => ?_)
  · rw [outM_end g]
    by_cases h1 : h = 1
    · rw [if_pos h1, List.mem_singleton]
      constructor
      · rintro rfl
        exact ⟨fun _ => false, (Z_end g _).2 ⟨h1, fun _ => rfl⟩, fun j => by simp⟩
      · rintro ⟨s, hs, hj⟩
        have h0 := ((Z_end g s).1 hs).2
        refine Nat.eq_of_testBit_eq fun j => ?_
        rw [hj, h0]; simp
    · rw [if_neg h1]
      constructor
      · intro h; cases h
      · rintro ⟨s, hs, _⟩; exact absurd ((Z_end g s).1 hs).1 h1
  · obtain ⟨b1, b2, k1, k2, k3, k4⟩ := o.kids g
    have en : ((n.1.toNat : Nat) : Int) = n.1 := by omega
    rw [outM_node o g, List.mem_append, ih1, ih2]
    constructor
    · rintro (⟨s, hs, hj⟩ | ⟨s, hs, hj⟩)
      · exact ⟨s, ((Z_low o g s).1 hs).2, hj⟩
      · refine ⟨setV s n.1 true, ((Z_high o g s).1 hs).2, fun j => ?_⟩
        rw [hj, Nat.testBit_or, Nat.testBit_two_pow]
        by_cases e : (j : Int) = n.1
        · have : n.1.toNat = j := by omega
          rw [e, setV_at, this]; simp
        · have : ¬ n.1.toNat = j := by omega
          rw [setV_ne _ _ e, decide_eq_false this]; simp
    · rintro ⟨s, hs, hj⟩
      cases e : s n.1
      · exact .inl ⟨s, (Z_low o g s).2 ⟨e, hs⟩, hj⟩
      · refine .inr ⟨setV s n.1 false, (Z_high o g _).2 ⟨setV_at _ _ _, by rw [setV_set, setV_back e]; exact hs⟩, fun j => ?_⟩
        rw [hj, Nat.testBit_or, Nat.testBit_two_pow]
        by_cases e2 : (j : Int) = n.1
        · have : n.1.toNat = j := by omega
          rw [e2, setV_at, this, e]; simp
        · have : ¬ n.1.toNat = j := by omega
          rw [setV_ne _ _ e2, decide_eq_false this]; simp
theorem mem_out {V : Int} (hV : V ≤ 24) {c : Cells} (o : ZOk V c) (h : Int) (y : Nat) : y ∈ outM c h 0 ↔ Z c h (smN y) := by
  rw [mem_outM o.ok]
  constructor
  · rintro ⟨s, hs, hj⟩
    have : s = smN y := by
      funext u
      unfold smN
      by_cases hu : 0 ≤ u
      · have := hj u.toNat
        rw [Nat.zero_testBit, show ((u.toNat : Nat) : Int) = u by omega] at this
        rw [this]; simp [hu]
      · rw [decide_eq_false hu]
        cases e : s u
        · rfl
        · exact absurd (Z_small hV o h s hs u e).1 hu
    rw [← this]; exact hs
  · intro hs
    refine ⟨_, hs, fun j => ?_⟩
    unfold smN; simp
theorem out_lt {V : Int} (hV : V ≤ 24) {c : Cells} (o : ZOk V c) (h : Int) (y : Nat) (hy : y ∈ outM c h 0) : y < 2 ^ V.toNat := by
  have hz := (mem_out hV o h y).1 hy
  refine Nat.lt_pow_two_of_testBit y fun j hj => ?_
  cases e : y.testBit j
  · rfl
  · have := Z_lt o.ok o.vlt h _ hz (j : Int) (by unfold smN; simp [e])
    omega
theorem or_bit {x n : Nat} (hx : x < 2 ^ 24) (hn : n < 24) : bits .or .u64 (x : Int) (IntKind.u64.wrap ((2 : Int) ^ n)) = ((x ||| 2 ^ n : Nat) : Int) := by
  have h1 : (2 : Nat) ^ n < 2 ^ 24 := Nat.pow_lt_pow_right (by decide) hn
  have h2 : IntKind.u64.wrap ((2 : Int) ^ n) = ((2 ^ n : Nat) : Int) := by
    have h3 : (2 : Int) ^ n = ((2 ^ n : Nat) : Int) := by simp
    rw [h3]
    generalize (2 : Nat) ^ n = k at h1
    rw [IntKind.wrap_u64]; omega
  rw [h2]
  exact bits_or_u64_nat x (2 ^ n) (by omega) (by omega)
theorem or_lt {x n : Nat} (hx : x < 2 ^ 24) (hn : n < 24) : x ||| 2 ^ n < 2 ^ 24 := Nat.or_lt_two_pow hx (Nat.pow_lt_pow_right (by decide) hn)

/-! ### In memory -/
def castL (ks : List Nat) : List Int := ks.map fun m : Nat => (m : Int)
def SMap (w : World) (md : Nat) (ks : List Nat) : Prop := ∃ mq : List (Int × Value), MapOf w md (Value.int .u64) mq ∧ ∀ y : Int, assoc mq y = if y ∈ castL ks then some (.bool true) else none
theorem SMap.lt {w : World} {md : Nat} {ks : List Nat} (h : SMap w md ks) : md < w.heap.size := by obtain ⟨mq, h1, _⟩ := h; exact h1.lt
theorem SMap.keep {w w' : World} {md : Nat} {ks : List Nat} (h : SMap w md ks) (hb : w'.heap[md]? = w.heap[md]?) : SMap w' md ks := by
  obtain ⟨mq, h1, h2⟩ := h; exact ⟨mq, h1.block_eq hb, h2⟩
theorem SMap.below {w w' : World} {md : Nat} {ks : List Nat} (h : SMap w md ks) (hb : Below w.heap.size w w') : SMap w' md ks := h.keep (hb.block _ h.lt)
theorem SMap.put {w : World} {md : Nat} {ks : List Nat} {mq : List (Int × Value)} (hq : ∀ y : Int, assoc mq y = if y ∈ castL ks then some (.bool true) else none) {x : Nat} {o : Obj} (hm : MapOf (setObjW w md o) md (Value.int .u64) (putAssoc mq (x : Int) (.bool true))) : SMap (setObjW w md o) md (ks ++ [x]) := by
  refine ⟨_, hm, fun y => ?_⟩
  rw [assoc_put, hq]
  unfold castL
  by_cases e : (x : Int) = y
  · rw [if_pos e, if_pos (by simp [← e])]
  · rw [if_neg e]
    have : (y ∈ (ks ++ [x]).map fun m : Nat => (m : Int)) ↔ y ∈ ks.map fun m : Nat => (m : Int) := by
      rw [List.map_append, List.mem_append]
      exact ⟨fun h => h.elim id (fun h => absurd (List.mem_singleton.1 h).symm e), .inl⟩
    by_cases h : y ∈ ks.map fun m : Nat => (m : Int)
    · rw [if_pos h, if_pos (this.2 h)]
    · rw [if_neg h, if_neg (fun h2 => h (this.1 h2))]

structure LEnv (w : World) (s : Fb) (md : Nat) (q : Cc) : Prop where
  hst : w.heap[q.s]? = some (.cells #[.pointer (some ⟨s.ps, 0, none⟩)] 77 (0, 0))
  hd : w.heap[q.d]? = some (.cells #[.map (some md)] 121 (0, 0))
  ha : w.heap[q.a]? = some (.cells #[.func (.func 98) #[] #[.pointer (some ⟨q.s, 0, none⟩), .pointer (some ⟨q.d, 0, none⟩), .pointer (some ⟨q.a, 0, none⟩)]] 120 (0, 0))
  off : q.s ≠ md ∧ q.d ≠ md ∧ q.a ≠ md ∧ ¬ s.b.mem md ∧ s.ps ≠ md
section
variable {w w2 : World} {s : Fb} {md : Nat} {q : Cc}
theorem LEnv.only (h : LEnv w s md q) (ho : Only (· = md) w w2) : LEnv w2 s md q :=
  ⟨(ho.block _ (lt_of_block h.hst) h.off.1).trans h.hst, (ho.block _ (lt_of_block h.hd) h.off.2.1).trans h.hd, (ho.block _ (lt_of_block h.ha) h.off.2.2.1).trans h.ha, h.off⟩
theorem LEnv.below (h : LEnv w s md q) (hb : Below w.heap.size w w2) : LEnv w2 s md q :=
  ⟨(hb.block _ (lt_of_block h.hst)).trans h.hst, (hb.block _ (lt_of_block h.hd)).trans h.hd, (hb.block _ (lt_of_block h.ha)).trans h.ha, h.off⟩
end
def LsPost (md : Nat) (ks : List Nat) (w : World) (e : Ending) (w' : World) : Prop := e = .returned (.tuple #[]) ∧ SMap w' md ks ∧ Only (· = md) w w'

set_option maxRecDepth 100000 in
set_option maxHeartbeats 8000000 in
theorem ls_in {V : Int} (hV : V ≤ 24) (md : Nat) (q : Cc) : ∀ (f : Nat) (v h : Int) (x : Nat) (ks : List Nat) (w : World) (s : Fb) (c : Cells), IsStore w s V c → SMap w md ks → LEnv w s md q → ZOk V c → hasM c h = true → (24 - topM c h).toNat < f → x < 2 ^ 24 →
    Calls Try.prog 98 #[.int .i64 v, .int .i64 h, .int .u64 x, .pointer (some ⟨q.s, 0, none⟩), .pointer (some ⟨q.d, 0, none⟩), .pointer (some ⟨q.a, 0, none⟩)] w (LsPost md (ks ++ outM c h x) w)
  | 0, _, _, _, _, _, _, _, _, _, _, _, _, hf, _ => absurd hf (Nat.not_lt_zero _)
  | f + 1, v, h, x, ks, w, s, c, hs, hd, he, zo, hh, hf, hx => by
    have Hih := Lib.hid (ls_in hV md q f)
    have lh := hs.le hh
    have c0 := hs.s0
    have lps := hs.lps
    have cs := cell_of_one he.hst
    have hg := get_any h w s.b c hs.ar lh
    have Hs := Lib.hid hs; have Hd := Lib.hid hd; have He := Lib.hid he; have Hz := Lib.hid zo; have Hhh := Lib.hid hh; have Hf := Lib.hid hf; have Hx := Lib.hid hx
    clear hs hd he zo hh hf hx
    cases g : getM c h with
    | none =>
      rw [g] at hg
      have hb : Below w.heap.size w ((w.alloc (.cells #[.int .i64 0, .int .i64 0, .int .i64 0] 32)).alloc (.cells #[.int .i64 0, .int .i64 0, .int .i64 0] 32)) := ((Below.refl _ _).alloc (Nat.le_refl _) _).alloc (by simp) _
      have hox := outM_end g x
      have cd2 := cell_of_one (He.out.below hb).hd
      have Hg := Lib.hid hg; have HB := Lib.hid hb; clear hg g hb
      by_cases h1 : h = 1
      · rw [if_pos h1] at hox
        rw [hox]
        clear hox
        subst h1
        obtain ⟨mq, hmq, hmv⟩ := Hd.out.below HB.out
        have Hmq := Lib.hid hmq; have Hmv := Lib.hid hmv; clear hmq hmv
        go_enter Try.func98, Try.ntmps98
        go_wp2_with fail
        refine Hg.out.mono ?_
        rintro e w1 ⟨rfl, rfl⟩
        simp only [gotV, encNd, Option.getD_none, Option.isSome_none]
        go_wp2_with (at_mapUpdate; refine wpList_mapUpdate_of rfl (.tmp 24) (.tmp 25) (.const (.bool true)) 121 rfl (kt := 54) (et := 4) (enc := Value.int .u64) (intKey Try.underlying54) Try.underlying121 (b := md) rfl (l := mq) Hmq.out (k := (x : Int)) rfl (.bool true) rfl ?_; intro ob hob; have hi11 := SMap.put Hmv.out hob; have Hi11 := Lib.hid hi11; have hon : Only (· = md) w (setObjW ((w.alloc (.cells #[.int .i64 0, .int .i64 0, .int .i64 0] 32)).alloc (.cells #[.int .i64 0, .int .i64 0, .int .i64 0] 32)) md ob) := (Only.of_below HB.out rfl).trans ⟨rfl, rfl, rfl, by simp [setObjW], fun k _ hk => setObjW_other ob hk⟩; have Hon := Lib.hid hon; clear hob hi11 hon; generalize setObjW ((w.alloc (.cells #[.int .i64 0, .int .i64 0, .int .i64 0] 32)).alloc (.cells #[.int .i64 0, .int .i64 0, .int .i64 0] 32)) md ob = w9 at Hi11 Hon ⊢)
        go_end0
        exact ⟨rfl, Hi11.out, Hon.out⟩
      · have e1 : (h == 1) = false := by simpa using h1
        rw [if_neg h1] at hox
        rw [hox, List.append_nil]
        clear hox h1
        go_enter Try.func98, Try.ntmps98
        go_wp2_with fail
        refine Hg.out.mono ?_
        rintro e w1 ⟨rfl, rfl⟩
        simp only [gotV, encNd, Option.getD_none, Option.isSome_none]
        go_wp2_with fail
        go_end0
        exact ⟨rfl, Hd.out.below HB.out, Only.of_below HB.out rfl⟩
    | some n =>
      obtain ⟨u, lo, hi⟩ := n
      rw [g] at hg
      obtain ⟨b1, b2, k1, k2, k3, k4⟩ := Hz.out.ok.kids g
      have hcx := outM_node Hz.out.ok g x
      have htop := top_node g
      dsimp only at b1 b2 k1 k2 k3 k4 hcx htop
      rw [hcx, ← List.append_assoc]
      have hb : Below w.heap.size w ((w.alloc (.cells #[.int .i64 u, .int .i64 lo, .int .i64 hi] 32)).alloc (.cells #[.int .i64 u, .int .i64 lo, .int .i64 hi] 32)) := ((Below.refl _ _).alloc (Nat.le_refl _) _).alloc (by simp) _
      have ca2 := cell_of_one (He.out.below hb).ha
      have hbx : ((w.alloc (.cells #[.int .i64 u, .int .i64 lo, .int .i64 hi] 32)).alloc (.cells #[.int .i64 u, .int .i64 lo, .int .i64 hi] 32)).heap[w.heap.size + 1]? = some (.cells #[.int .i64 u, .int .i64 lo, .int .i64 hi] 32 (0, 0)) := heap_at (by simp)
      have hq1 := Hih.out (u + 1) lo x ks _ s c (Hs.out.below hb) (Hd.out.below hb) (He.out.below hb) Hz.out k1 (by have := Hf.out; omega) Hx.out
      have Hg := Lib.hid hg; have Hq1 := Lib.hid hq1; have HB := Lib.hid hb; have Hbx := Lib.hid hbx; have Hk2 := Lib.hid k2; have Hf2 := Lib.hid (show (24 - topM c hi).toNat < f by have := Hf.out; omega)
      have lmd := Hd.out.lt
      have Lmd := Lib.hid lmd
      clear hg hq1 hb hbx g hcx htop k1 k2 k3 k4 lmd
      go_enter Try.func98, Try.ntmps98
      go_wp2_with fail
      refine Hg.out.mono ?_
      rintro e w1 ⟨rfl, rfl⟩
      simp only [gotV, encNd, Option.getD_some, Option.isSome_some]
      go_wp2_with fail
      refine Hq1.out.mono ?_
      rintro e w2 ⟨rfl, hm2, ho2⟩
      clear ca2
      have hb2 := (ho2.block _ (lt_of_block Hbx.out) (fun e => by have e2 : w.heap.size + 1 = md := e; have := Lmd.out; omega)).trans Hbx.out
      have he2 := (He.out.below HB.out).only ho2
      have hs2 := (Hs.out.below HB.out).only ho2 (fun e => He.out.off.2.2.2.2 e) (fun k hk e => He.out.off.2.2.2.1 (e ▸ hk))
      have ca2 := cell_of_one he2.ha
      have d0 : w2.cell? ⟨w.heap.size + 1, 0, none⟩ = some (.int .i64 u) := by rw [cell_of_row w2 _ _ _ _ _ hb2]; rfl
      have d2 : w2.cell? ⟨w.heap.size + 1, 2, none⟩ = some (.int .i64 hi) := by rw [cell_of_row w2 _ _ _ _ _ hb2]; rfl
      have Hm2 := Lib.hid hm2; have Ho2 := Lib.hid ho2; have He2 := Lib.hid he2; have Hs2 := Lib.hid hs2
      clear hm2 ho2 he2 hs2 hb2 Hq1 Hg
      go_wp2_with fail
      have hor := or_bit (n := u.toNat) Hx.out (by omega)
      have hwr : IntKind.i64.wrap (u + 1) = u + 1 := IntWalk.i64_in _ (by omega)
      have Hor := Lib.hid hor; have Hwr := Lib.hid hwr; clear hor hwr
      go_still_tail 11, (by kernel_rfl)
      rw [Hor.out, Hwr.out]
      have hs3 := Hs2.out.below (w2 := w2.drew) (Below.refl _ _).drew
      have he3 := He2.out.below (w2 := w2.drew) (Below.refl _ _).drew
      have hm3 := Hm2.out.below (w' := w2.drew) (Below.refl _ _).drew
      have hq2 := Hih.out (u + 1) hi (x ||| 2 ^ u.toNat) _ w2.drew s c hs3 hm3 he3 Hz.out Hk2.out Hf2.out (or_lt Hx.out (by omega))
      have Hq2 := Lib.hid hq2; clear hq2 hs3 he3 hm3
      change wpList _ _ _ _ _ w2.drew
      have ho3 : Only (· = md) w w2.drew := ((Only.of_below HB.out rfl).trans Ho2.out).drew
      have Ho3 := Lib.hid ho3; clear ho3
      generalize w2.drew = w3 at Hq2 Ho3 ⊢
      clear ca2 d0 d2
      go_wp2_with fail
      refine Hq2.out.mono ?_
      rintro e w4 ⟨rfl, hm4, ho4⟩
      have Hm4 := Lib.hid hm4; have Ho4 := Lib.hid ho4; clear hm4 ho4
      go_wp2_with fail
      go_end0
      exact ⟨rfl, Hm4.out, Ho3.out.trans Ho4.out⟩
end Go.Proofs.Ytmlnfbageoabnaa
