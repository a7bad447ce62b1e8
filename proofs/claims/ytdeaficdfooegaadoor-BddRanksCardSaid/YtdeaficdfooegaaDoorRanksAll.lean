/- Some texts in one: Kth, KthW, Ranks. (Merged by merge.py.) -/
import Derived.Test.YtdeaficdfooegaaDoorCount
import Derived.Test.YtdeaficdfooegaaDoorKthM
import Derived.Test.YtdeaficdfooegaaDoorNatCmp
import Derived.Test.YtdeaficdfooegaaDoorNatSub
import Derived.Laws.Bits64b
import Derived.Deep.RegionHeld3
import Derived.Deep.CutBlock
import Derived.Test.YtdeaficdfooegaaDoorFits
import Derived.Test.YtdeaficdfooegaaDoorSpaceF
import Derived.Test.YtdeaficdfooegaaDoorTell
import Derived.BigQuiet
import Derived.Deep.QuietTactic
namespace Go.Proofs.YtdeaficdfooegaaDoor
open Go.RowKit
set_option linter.unusedVariables false

theorem kpow_wrap : ∀ k < 24, IntKind.u64.wrap ((2 : Int) ^ k) = ((2 ^ k : Nat) : Int) ∧ 2 ^ k < 16777216 := by decide
theorem kor_bit {x u : Nat} (hx : x < 2 ^ u) (hu : u < 24) : bits .or .u64 (x : Int) (IntKind.u64.wrap ((2 : Int) ^ u)) = ((x + 2 ^ u : Nat) : Int) := by
  obtain ⟨h1, h2⟩ := kpow_wrap u hu
  rw [h1, bits_or_u64_nat _ _ (by omega) (by omega)]
  have := Nat.two_pow_add_eq_or_of_lt hx 1
  rw [Nat.mul_one] at this
  rw [Nat.or_comm, ← this, Nat.add_comm]

structure KHeld (w' : World) (s : Sb) (V : Int) : Prop where
  c0 : w'.cell? ⟨s.ps, 0, none⟩ = some (.pointer (some ⟨s.b.p, 0, none⟩))
  c1 : w'.cell? ⟨s.ps, 1, none⟩ = some (.int .i64 V)
theorem KHeld.alloc {w' : World} {s : Sb} {V : Int} (h : KHeld w' s V) (o : Obj) : KHeld (w'.alloc o) s V := by
  have k : ∀ {p : Addr} {v : Value}, w'.cell? p = some v → (w'.alloc o).cell? p = some v := fun {p v} e => (World.cell?_alloc_some _ _ _ (by rw [e]; rfl)).trans e
  exact ⟨k h.c0, k h.c1⟩
/-- Kth on its way. -/
structure KW (w wr : World) (s : Sb) (V : Int) (st : Sp) (md bk : Nat) (ak : Option Addr) (ck k : Nat) : Prop where
  sp : IsSpace wr s V st
  done : NMap wr md V st.c
  kb : NBox wr bk ak ck k
  below : Below w.heap.size w wr
  off : ¬ s.mem md ∧ s.ps ≠ md ∧ w.heap.size ≤ md ∧ w.heap.size ≤ bk
  old : s.ps < w.heap.size ∧ ∀ k, s.mem k → k < w.heap.size
structure KZ (w wr : World) (s : Sb) (V : Int) (st : Sp) (md bk : Nat) (ak : Option Addr) (ck k B : Nat) : Prop where
  k : KW w wr s V st md bk ak ck k
  zb : wr.heap[B]? = some (.cells #[.slice none 0 0] 24 (0, 0))
  ne : B ≠ bk ∧ w.heap.size ≤ B
theorem NMap.setBox {wr : World} {md : Nat} {V : Int} {c : Cells} {R : Nat} {a : Option Addr} {n cc : Nat} (h : NMap wr md V c) (hR : wr.heap[R]? = some (.cells #[.slice a n cc] 24 (0, 0))) (u : Value) : NMap (wr.setCell ⟨R, 0, none⟩ u) md V c := by
  obtain ⟨mq, h1, h2⟩ := h
  have hn : md ≠ R := fun e => by
    subst e
    obtain ⟨es, cl, hb, _⟩ := h1
    rw [hb] at hR; cases hR
  exact ⟨mq, h1.block_eq (Below.heap_setCell _ _ _ _ hn), fun k v e => (h2 k v e).setRes hR u⟩
section
variable {w wr w2 : World} {s : Sb} {V : Int} {st : Sp} {md bk : Nat} {ak : Option Addr} {ck k B : Nat}
theorem KW.grow (h : KW w wr s V st md bk ak ck k) (hb : Below wr.heap.size wr w2) : KW w w2 s V st md bk ak ck k :=
  ⟨h.sp.below hb, h.done.below hb, h.kb.below hb, h.below.trans (hb.mono h.below.size), h.off, h.old⟩
theorem KW.step (h : KW w wr s V st md bk ak ck k) (ho : Only (· = md) wr w2) (hd : NMap w2 md V st.c) : KW w w2 s V st md bk ak ck k :=
  ⟨h.sp.only ho h.off.2.1 (fun k hk e => h.off.1 (e ▸ hk)), hd, h.kb.nmap h.done ho, h.below.trans (ho.below h.below.size (fun k hk => by have e' : k = md := hk; have := h.off.2.2.1; omega)), h.off, h.old⟩
theorem KW.held (h : KW w wr s V st md bk ak ck k) : KHeld wr s V := ⟨h.sp.s0, h.sp.s1⟩
theorem KW.alloc (h : KW w wr s V st md bk ak ck k) : KZ w (wr.alloc (.cells #[.slice none 0 0] 24)) s V st md bk ak ck k wr.heap.size :=
  ⟨h.grow ((Below.refl _ _).alloc (Nat.le_refl _) _), heap_at rfl, by have := h.kb.lt; omega, h.below.size⟩
theorem KZ.grow (h : KZ w wr s V st md bk ak ck k B) (hb : Below wr.heap.size wr w2) : KZ w w2 s V st md bk ak ck k B :=
  ⟨h.k.grow hb, (hb.block _ (lt_of_block h.zb)).trans h.zb, h.ne⟩
theorem KZ.step (h : KZ w wr s V st md bk ak ck k B) (ho : Only (· = md) wr w2) (hd : NMap w2 md V st.c) : KZ w w2 s V st md bk ak ck k B := by
  refine ⟨h.k.step ho hd, (ho.block _ (lt_of_block h.zb) (fun e => ?_)).trans h.zb, h.ne⟩
  have e' : B = md := e
  obtain ⟨mq, ⟨es, cl, hb, _⟩, _⟩ := h.k.done
  have hz := h.zb
  rw [e', hb] at hz; cases hz
/-- A box that is none of the space's is written. -/
theorem KW.store {a : Option Addr} {n c R : Nat} (h : KW w wr s V st md bk ak ck k) (hR : wr.heap[R]? = some (.cells #[.slice a n c] 24 (0, 0))) (hw : w.heap.size ≤ R) (u : Value) : IsSpace (wr.setCell ⟨R, 0, none⟩ u) s V st ∧ NMap (wr.setCell ⟨R, 0, none⟩ u) md V st.c ∧ Below w.heap.size w (wr.setCell ⟨R, 0, none⟩ u) := by
  have hb : ∀ k, k ≠ R → (wr.setCell ⟨R, 0, none⟩ u).heap[k]? = wr.heap[k]? := fun k hk => Below.heap_setCell _ _ _ _ hk
  have ho : Only (· = R) wr (wr.setCell ⟨R, 0, none⟩ u) := ⟨rfl, rfl, rfl, by simp, fun k _ hk => hb k hk⟩
  have l1 := h.old
  exact ⟨h.sp.only ho (fun e => by have e' : s.ps = R := e; omega) (fun k hk e => by have := l1.2 k hk; have e' : k = R := e; omega), h.done.setBox hR u, h.below.setCell hw u⟩
theorem KZ.set (h : KZ w wr s V st md bk ak ck k B) (u : Value) : KW w (wr.setCell ⟨B, 0, none⟩ u) s V st md bk ak ck k := by
  obtain ⟨a, b, c⟩ := h.k.store h.zb h.ne.2 u
  exact ⟨a, b, ⟨(Below.heap_setCell _ _ _ _ h.ne.1.symm).trans h.k.kb.blk, h.k.kb.nat.setRes h.zb u⟩, c, h.k.off, h.k.old⟩
theorem KZ.put (h : KZ w wr s V st md bk ak ck k B) {a : Option Addr} {c j : Nat} (hn : IsNat wr (.agg #[.slice a (limbsOf j).length c]) j) : NBox (wr.setCell ⟨B, 0, none⟩ (.slice a (limbsOf j).length c)) B a c j := ⟨one_setCell h.zb, hn.setRes h.zb _⟩
theorem KW.put (h : KW w wr s V st md bk ak ck k) {a : Option Addr} {c j : Nat} (hn : IsNat wr (.agg #[.slice a (limbsOf j).length c]) j) : KW w (wr.setCell ⟨bk, 0, none⟩ (.slice a (limbsOf j).length c)) s V st md bk a c j := by
  obtain ⟨x, y, z⟩ := h.store h.kb.blk h.off.2.2.2 (.slice a (limbsOf j).length c)
  exact ⟨x, y, ⟨one_setCell h.kb.blk, hn.setRes h.kb.blk _⟩, z, h.off, h.old⟩
end

theorem cmp_lo {a b : Nat} (h : a < b) : cmpN a b = -1 := by unfold cmpN; rw [if_pos h]
theorem cmp_hi {a b : Nat} (h : ¬ a < b) : 0 ≤ cmpN a b := by unfold cmpN; rw [if_neg h]; split <;> omega
theorem short24' {n : Nat} (h : n < 2 ^ 24) : (limbsOf n).length ≤ 1000000 := short24 (Nat.le_of_lt h)

set_option maxRecDepth 100000 in
set_option maxHeartbeats 8000000 in
/-- There are not so many. -/
theorem Kth_none (V : Nat) (hV : V ≤ 24) (h : Int) (k : Nat) (vk : Value) (w : World) (s : Sb) (st : Sp) (hs : IsSpace w s V st) (co : COk V st.c) (hh : hasM st.c h = true) (hk : IsNat w vk k) (hlt : ¬ k < sumS V V (den st.c h) (fun _ => false)) :
    Calls Tryd.prog 23 #[.pointer (some ⟨s.ps, 0, none⟩), .int .i64 h, vk] w fun e w' => e = .returned (.tuple #[.int .u64 0, .iface 49 (.int .i64 8)]) ∧ Below w.heap.size w w' := by
  obtain ⟨ak, ck, rfl⟩ := hk.shape
  have hb0 : Below w.heap.size w (w.alloc (.cells #[.slice ak (limbsOf k).length ck] 24)) := (Below.refl _ _).alloc (Nat.le_refl _) _
  have hq := Count_any V hV h _ s st (hs.below hb0) co hh
  have hn0 := hk.below hb0
  have hz := cmp_hi hlt
  have HK := Lib.hid (NBox.mk' hk)
  have hcm := fun va vb w' => Cmp_any k (sumS V V (den st.c h) (fun _ => false)) va vb w'
  generalize cmpN k (sumS V V (den st.c h) (fun _ => false)) = z at hz hcm
  have Hcm := Lib.hid hcm; have Hq := Lib.hid hq; have Hb0 := Lib.hid hb0
  clear hs co hh hk hb0 hq hn0 hlt hcm
  go_enter Tryd.func23, Tryd.ntmps23
  go_wp2_with fail
  refine Hq.out.mono ?_
  rintro e w1 ⟨v, rfl, hn, hb1⟩
  obtain ⟨a8, c8, rfl⟩ := hn.shape
  have hk1 := (HK.out.below hb1).more (.cells #[.slice a8 (limbsOf (sumS V V (den st.c h) (fun _ => false))).length c8] 24)
  have hn1 := NBox.mk' hn
  have k1 := cell_of_one hk1.blk; have k2 := cell_of_one hn1.blk
  have Hr := Lib.hid (Hcm.out _ _ _ hk1.nat hn1.nat)
  have Hb := Lib.hid ((Hb0.out.trans (hb1.mono Hb0.out.size)).trans (((Below.refl _ _).alloc (Nat.le_refl _) (.cells #[.slice a8 (limbsOf (sumS V V (den st.c h) (fun _ => false))).length c8] 24)).mono (Hb0.out.trans (hb1.mono Hb0.out.size)).size))
  clear HK Hq Hcm hk1 hn1 hn hb1 Hb0
  go_wp2_with fail
  refine Hr.out.mono ?_
  rintro e w2 ⟨rfl, hb2⟩
  have Hb2 := Lib.hid hb2; clear hb2 Hr
  go_wp2_with fail
  go_ret2
  exact ⟨rfl, Hb.out.trans (Hb2.out.mono Hb.out.size)⟩
end Go.Proofs.YtdeaficdfooegaaDoor
namespace Go.Proofs.YtdeaficdfooegaaDoor
open Go.RowKit
set_option linter.unusedVariables false

set_option maxRecDepth 100000 in
set_option maxHeartbeats 16000000 in
theorem Kth_some (V : Nat) (hV : V ≤ 24) (h : Int) (k : Nat) (vk : Value) (w : World) (s : Sb) (st : Sp) (hs : IsSpace w s V st) (co : COk V st.c) (hh : hasM st.c h = true) (hk : IsNat w vk k) (hlt : k < sumS V V (den st.c h) (fun _ => false)) :
    Calls Tryd.prog 23 #[.pointer (some ⟨s.ps, 0, none⟩), .int .i64 h, vk] w fun e w' => ∃ x : Nat, e = .returned (.tuple #[.int .u64 x, .nilIface]) ∧ x < 2 ^ V ∧ bitsN x = kthN V V (den st.c h) k (fun _ => false) ∧ Below w.heap.size w w' := by
  have hmm := @run_makeMap Tryd.prog
  obtain ⟨ak, ck, rfl⟩ := hk.shape
  have hb0 : Below w.heap.size w (w.alloc (.cells #[.slice ak (limbsOf k).length ck] 24)) := (Below.refl _ _).alloc (Nat.le_refl _) _
  have hq := Count_any V hV h _ s st (hs.below hb0) co hh
  have hz := cmp_lo hlt
  have ka := KAt.first co.ok hh hlt
  have hcm := fun va vb w' => Cmp_any k (sumS V V (den st.c h) (fun _ => false)) va vb w'
  rw [hz] at hcm
  generalize kthN V V (den st.c h) k (fun _ => false) = F at ka ⊢
  generalize sumS V V (den st.c h) (fun _ => false) = N at hq hcm
  have HK := Lib.hid (NBox.mk' hk)
  have lps := hs.lps
  have hold : s.ps < w.heap.size ∧ ∀ k, s.mem k → k < w.heap.size := ⟨lps, fun k hk => hs.lt hk⟩
  have Hs := Lib.hid (hs.below hb0); have Hcm := Lib.hid hcm; have Hq := Lib.hid hq; have Hb0 := Lib.hid hb0; have Hold := Lib.hid hold; have Ka := Lib.hid ka; have Co := Lib.hid co
  clear hs co hh hk hb0 hq hlt hcm hz hold ka
  go_enter Tryd.func23, Tryd.ntmps23
  go_wp2_with fail
  refine Hq.out.mono ?_
  rintro e w1 ⟨v, rfl, hn, hb1⟩
  obtain ⟨a8, c8, rfl⟩ := hn.shape
  have hb2 : Below w1.heap.size w1 (w1.alloc (.cells #[.slice a8 (limbsOf N).length c8] 24)) := (Below.refl _ _).alloc (Nat.le_refl _) _
  have hk1 := (HK.out.below hb1).below hb2
  have hn1 := NBox.mk' hn
  have k1 := cell_of_one hk1.blk; have k2 := cell_of_one hn1.blk
  have Hr := Lib.hid (Hcm.out _ _ _ hk1.nat hn1.nat)
  have hbw := Hb0.out.trans (hb1.mono Hb0.out.size)
  have Hsp := Lib.hid ((Hs.out.below hb1).below hb2)
  have HKb := Lib.hid hk1
  have Hb := Lib.hid (hbw.trans (hb2.mono hbw.size))
  clear HK Hq Hcm hk1 hn1 hn hb1 hb2 Hb0 hbw Hs
  go_wp2_with fail
  refine Hr.out.mono ?_
  rintro e w2 ⟨rfl, hb2⟩
  have hmap : Below w2.heap.size w2 (w2.alloc (.map #[] 0)) := (Below.refl _ _).alloc (Nat.le_refl _) _
  have hm0 := mapOf_new w2 (Value.int .i64)
  have hbl := Hb.out.trans (hb2.mono Hb.out.size)
  have hkw : KW w (w2.alloc (.map #[] 0)) s V st w2.heap.size w.heap.size ak ck k :=
    ⟨(Hsp.out.below hb2).below hmap, ⟨[], hm0, fun k v e => by cases e⟩, (HKb.out.below hb2).below hmap, hbl.trans (hmap.mono hbl.size), ⟨fun hm => by have := Hold.out.2 _ hm; have := hbl.size; omega, by have := Hold.out.1; have := hbl.size; omega, hbl.size, Nat.le_refl _⟩, Hold.out⟩
  have c1 := hkw.sp.s1
  have Hkw := Lib.hid hkw
  clear hb2 Hr hmap hm0 hbl Hsp HKb Hb k1 k2 hkw
  go_wp2_with fail
  clear c1
  generalize w2.alloc (.map #[] 0) = wm at Hkw ⊢
  generalize w2.heap.size = md at Hkw ⊢
  generalize w1.heap.size = b8
  clear w1 w2 hmm
  go_loopg [1, 11, 35] V (fun gk hv ov iv wr => ∃ (u : Nat) (h' : Int) (k' x ck' : Nat) (ak' : Option Addr), u ≤ V ∧ gk = V - u ∧ iv = .int .i64 u ∧ hv = .int .i64 h' ∧ ov = .int .u64 x ∧ KW w wr s V st md w.heap.size ak' ck' k' ∧ KAt V st.c F u h' k' x)
  case atStart => exact ⟨0, h, k, 0, ck, ak, Nat.zero_le _, rfl, rfl, rfl, rfl, Hkw.out, Ka.out⟩
  case round =>
    clear Hkw Ka Hold
    obtain ⟨u, h', k', x, ck', ak', hu, rfl, rfl, rfl, rfl, hkw, hka⟩ := hrel
    obtain ⟨wo, rfl⟩ : ∃ y, y = wr := ⟨_, rfl⟩
    by_cases hlt : u < V
    · obtain ⟨s1, s2, s3, s4, s5, s6, s7⟩ := hka.step hV Co.out hlt
      have hx := hka.xlt
      have hor := kor_bit hx (by omega : u < 24)
      have hlen := hkw.sp.ar.len; have hRR := hkw.sp.ar.room.2
      have lh : h' ≤ 9223372036854775807 := by have := hasM_le hka.has; omega
      have hba := bat_any h' u wo s V st hkw.sp lh
      have hL : lowN V st.c u h' = cntX V st.c (atM st.c h' u).1 * 2 ^ (cutT V st.c (atM st.c h' u).1 - u - 1).toNat := rfl
      clear hka lh
      generalize (atM st.c h' u).1 = lo at hL hba s1 s3 s6
      generalize (atM st.c h' u).2 = hi at hba s2 s7
      generalize lowN V st.c u h' = L at hL s4 s6 s7
      obtain ⟨T1, hT1, eT1, hS1, hE1⟩ := exp_facts (h := lo) (u := (u : Int)) hV Co.out s1 (by omega) (by unfold cutT at s3; omega) (by omega)
      rw [eT1] at hL
      have hct := fun (wx : World) (h1 : IsSpace wx s V st) (h2 : NMap wx md V st.c) => counts_in V hV md 25 lo wx s st h1 h2 ⟨hkw.off.1, hkw.off.2.1⟩ Co.out s1 (by have := (Co.out.ok.top_pos lo).1; omega)
      have hTop := fun w' (ha : IsArena w' s.b st.c) => top_any lo w' s.b st.c ha (by have := hasM_le s1; omega)
      have g1 := (Co.out.ok.top_pos lo).2
      clear s3 eT1 hlen hRR
      generalize topM st.c lo = t1 at hE1 hTop g1
      have HL := Lib.hid hL; have HS := Lib.hid hS1; have HE := Lib.hid hE1; have Hct := Lib.hid hct; have HT := Lib.hid hTop; have S6 := Lib.hid s6; have S7 := Lib.hid s7; have Hba := Lib.hid hba; have Hor := Lib.hid hor; have Hkw := Lib.hid hkw; have Hx := Lib.hid hx; have S4 := Lib.hid s4; have S5 := Lib.hid s5
      have c1 := hkw.sp.s1
      clear hL hS1 hE1 hct hTop s6 s7 hba hor hkw hx s1 s2 s4 s5
      go_wp2_with fail
      refine Hba.out.mono ?_
      rintro e w3 ⟨rfl, hb3⟩
      have hkw := Hkw.out.grow hb3
      have Hkw := Lib.hid hkw
      clear hkw hb3 Hba c1
      go_upto_region 12 with fail
      go_cut [15] from 45 to 63 (fun p wx => ∃ (BN : Nat) (aN : Option Addr) (cN : Nat), p = .pointer (some ⟨BN, 0, none⟩) ∧ KW w wx s V st md w.heap.size ak' ck' k' ∧ NBox wx BN aN cN L)
      case first =>
        have hw0 := Hkw.out.grow (w2 := w3.drew) ((Below.refl _ _).drew)
        have HZ := Lib.hid (Hkw.out.alloc.grow (w2 := (w3.alloc (.cells #[.slice none 0 0] 24)).drew) ((Below.refl _ _).drew))
        have h90 := hw0.held
        have HI := Lib.hid hw0; clear hw0
        go_region_held3 (fun w' => w'.cell? ⟨s.ps, 0, none⟩ = some (.pointer (some ⟨s.b.p, 0, none⟩)) ∧ w'.cell? ⟨s.ps, 1, none⟩ = some (.int .i64 V))
          (first | exact ⟨h90.c0, h90.c1⟩ | exact ⟨(h90.alloc _).c0, (h90.alloc _).c1⟩ | exact ⟨(HZ.out.set _).held.c0, (HZ.out.set _).held.c1⟩ | go_keep)
          (first
            | (go_at_call 50; first | ((with_reducible refine (Hct.out _ HI.out.sp HI.out.done).mono ?_); rintro e w9 ⟨v9, rfl, hn9, hd9, ho9⟩; obtain ⟨a9, c9, rfl⟩ := hn9.shape; have hi9 := HI.out.step ho9 hd9; clear hd9 ho9 h90 HI HZ; have HI := Lib.hid hi9; have HN := Lib.hid hn9; have h90 := hi9.held; clear hn9 hi9) | ((with_reducible refine (Hct.out _ HZ.out.k.sp HZ.out.k.done).mono ?_); rintro e w9 ⟨v9, rfl, hn9, hd9, ho9⟩; obtain ⟨a9, c9, rfl⟩ := hn9.shape; have hi9 := HZ.out.step ho9 hd9; clear hd9 ho9 h90 HI HZ; have HZ := Lib.hid hi9; have HN := Lib.hid hn9; have h90 := hi9.k.held; have h91 := cell_of_one hi9.zb; have h92 := free_of_one hi9.zb; clear hn9 hi9))
            | (go_at_call 51; first | ((with_reducible refine (HT.out _ HI.out.sp.ar).mono ?_); rintro e w9 ⟨rfl, hb9⟩; have hi9 := HI.out.grow hb9; have hn9 := HN.out.below hb9; clear hb9 h90 HI HN; have HI := Lib.hid hi9; have HN := Lib.hid hn9; have h90 := hi9.held; clear hn9 hi9) | ((with_reducible refine (HT.out _ HZ.out.k.sp.ar).mono ?_); rintro e w9 ⟨rfl, hb9⟩; have hi9 := HZ.out.grow hb9; have hn9 := HN.out.below hb9; clear hb9 HZ HN; have HZ := Lib.hid hi9; have HN := Lib.hid hn9; have h90 := hi9.k.held; have h91 := cell_of_one hi9.zb; have h92 := free_of_one hi9.zb; clear hn9 hi9) | (have hi9 := HI.out.alloc; clear HI; have HZ := Lib.hid hi9; clear hi9; have hn9 := HN.out.below (w' := World.alloc _ (.cells #[.slice none 0 0] 24)) ((Below.refl _ _).alloc (Nat.le_refl _) _); clear HN; have HN := Lib.hid hn9; clear hn9; (with_reducible refine (HT.out _ HZ.out.k.sp.ar).mono ?_); rintro e w9 ⟨rfl, hb9⟩; have hi9 := HZ.out.grow hb9; have hn9 := HN.out.below hb9; clear hb9 HZ HN; have HZ := Lib.hid hi9; have HN := Lib.hid hn9; have h90 := hi9.k.held; have h91 := cell_of_one hi9.zb; have h92 := free_of_one hi9.zb; clear hn9 hi9))
            | (go_at_call 17; rw [HE.out]; generalize (if (V : Int) < t1 then (V : Int) else t1) = m1; first | ((with_reducible refine (Double_any (cntX V st.c lo) T1 _ _ HN.out (by omega) HS.out).mono ?_); rintro e w9 ⟨v9, rfl, hn9, hb9⟩; obtain ⟨a9, c9, rfl⟩ := hn9.shape; have hi9 := HI.out.grow hb9; clear hb9 h90 HI HN; have HI := Lib.hid hi9; have HN := Lib.hid hn9; have h90 := hi9.held; clear hn9 hi9; dsimp only) | ((with_reducible refine (Double_any (cntX V st.c lo) T1 _ _ HN.out (by omega) HS.out).mono ?_); rintro e w9 ⟨v9, rfl, hn9, hb9⟩; obtain ⟨a9, c9, rfl⟩ := hn9.shape; have hi9 := HZ.out.grow hb9; clear hb9 HZ HN; have HZ := Lib.hid hi9; have HN := Lib.hid hn9; have h90 := hi9.k.held; have h91 := cell_of_one hi9.zb; have h92 := free_of_one hi9.zb; clear hn9 hi9; dsimp only) | (have hi9 := HI.out.alloc; clear HI; have HZ := Lib.hid hi9; clear hi9; have hn9 := HN.out.below (w' := World.alloc _ (.cells #[.slice none 0 0] 24)) ((Below.refl _ _).alloc (Nat.le_refl _) _); clear HN; have HN := Lib.hid hn9; clear hn9; (with_reducible refine (Double_any (cntX V st.c lo) T1 _ _ HN.out (by omega) HS.out).mono ?_); rintro e w9 ⟨v9, rfl, hn9, hb9⟩; obtain ⟨a9, c9, rfl⟩ := hn9.shape; have hi9 := HZ.out.grow hb9; clear hb9 HZ HN; have HZ := Lib.hid hi9; have HN := Lib.hid hn9; have h90 := hi9.k.held; have h91 := cell_of_one hi9.zb; have h92 := free_of_one hi9.zb; clear hn9 hi9; dsimp only)))
        all_goals (go_wp2_with fail; go_meet)
        all_goals first
          | exact ⟨_, _, _, rfl, HI.out.grow ((Below.refl _ _).alloc (Nat.le_refl _) _), by rw [HL.out]; exact NBox.mk' HN.out⟩
          | exact ⟨_, _, _, rfl, HZ.out.set _, by rw [HL.out]; exact HZ.out.put HN.out⟩
      case rest =>
        clear Hkw
        obtain ⟨BN, aN, cN, rfl, hkw, hnb⟩ := hcut
        obtain ⟨w5, rfl⟩ : ∃ y, y = wc := ⟨_, rfl⟩
        have k1 := cell_of_one hkw.kb.blk; have k2 := cell_of_one hnb.blk
        by_cases hkl : k' < L
        · have hq := Cmp_any k' L _ _ w5 hkw.kb.nat hnb.nat
          rw [cmp_lo hkl] at hq
          have Ka := Lib.hid (S6.out hkl)
          have Hq := Lib.hid hq; have Hkw := Lib.hid hkw
          clear hq hkw hnb hkl S6 S7 HL HS HE Hct HT Hor
          go_wp2_with fail
          refine Hq.out.mono ?_
          rintro e w6 ⟨rfl, hb6⟩
          have Hkw6 := Lib.hid (Hkw.out.grow hb6)
          clear Hq hb6 Hkw k1 k2
          go_wp2_with fail
          go_roundg (V - (u + 1))
          case measure => omega
          case rel => exact ⟨u + 1, lo, k', x, ck', ak', by omega, rfl, by go_num, rfl, rfl, Hkw6.out, Ka.out⟩
        · have hq := Cmp_any k' L _ _ w5 hkw.kb.nat hnb.nat
          have hz := cmp_hi hkl
          generalize cmpN k' L = z at hq hz
          have Ka := Lib.hid (S7.out hkl)
          have Hsub := Lib.hid (fun va vb w' ha hb => Sub_any k' L va vb w' ha hb (by omega) (short24' S5.out))
          have Hq := Lib.hid hq; have Hkw := Lib.hid hkw; have Hnb := Lib.hid hnb
          clear hq hkw hnb hkl S6 S7 HL HS HE Hct HT
          go_wp2_with fail
          refine Hq.out.mono ?_
          rintro e w6 ⟨rfl, hb6⟩
          have hkw6 := Hkw.out.grow hb6
          have hnb6 := Hnb.out.below hb6
          clear k1 k2
          have k1 := cell_of_one hkw6.kb.blk; have k2 := cell_of_one hnb6.blk
          have Hs6 := Lib.hid (Hsub.out _ _ w6 hkw6.kb.nat hnb6.nat)
          have Hkw6 := Lib.hid hkw6
          clear Hq hb6 Hkw Hnb Hsub hkw6 hnb6
          go_wp2_with fail
          refine Hs6.out.mono ?_
          rintro e w7 ⟨v7, rfl, hv, hb7⟩
          obtain ⟨a9, c9, rfl⟩ := hv.shape
          have hkw7 := Hkw6.out.grow hb7
          clear k1 k2
          have k1 := cell_of_one hkw7.kb.blk; have k2 := free_of_one hkw7.kb.blk; have k3 := hkw7.kb.lt
          have Hkw8 := Lib.hid (hkw7.put hv)
          clear Hs6 hb7 Hkw6 hkw7 hv
          go_wp2_with fail
          go_roundg (V - (u + 1))
          case measure => omega
          case rel => exact ⟨u + 1, hi, k' - L, x + 2 ^ u, c9, a9, by omega, rfl, by go_num, rfl, by rw [Hor.out], Hkw8.out, Ka.out⟩
    · obtain rfl : u = V := by omega
      have c1 := hkw.sp.s1
      have Hka := Lib.hid hka; have Hkw := Lib.hid hkw; clear hka hkw
      go_wp2_with fail
      go_ret2
      exact ⟨x, rfl, Hka.out.xlt, by have := Hka.out.fin; rw [Nat.sub_self] at this; exact this, Hkw.out.below⟩
end Go.Proofs.YtdeaficdfooegaaDoor
namespace Go.Proofs.YtdeaficdfooegaaDoor
open Go.RowKit
set_option linter.unusedVariables false

theorem first_run4 (V : Nat) (l : List Stp) (h1 : 1 ≤ V) (h2 : V ≤ 6) (h3 : l.length ≤ 25) : FOk V (funsX V l ⟨List.replicate 4000 none, noQ⟩ [0, 1]).1 (funsX V l ⟨List.replicate 4000 none, noQ⟩ [0, 1]).2 ∧
    (funsX V l ⟨List.replicate 4000 none, noQ⟩ [0, 1]).1.c.length = 4000 ∧ cnt (funsX V l ⟨List.replicate 4000 none, noQ⟩ [0, 1]).1.c ≤ 3200 ∧ (funsX V l ⟨List.replicate 4000 none, noQ⟩ [0, 1]).2.length = l.length + 2 := by
  have f : FOk V ⟨List.replicate 4000 none, noQ⟩ [0, 1] := ⟨SOk.none (COk.empty V 4000), fun h hh => by
    rcases List.mem_cons.1 hh with rfl | hh
    · exact hasM_zero _
    · rw [List.mem_singleton.1 hh]; exact hasM_one _, by simp⟩
  have hc0 : cnt (List.replicate 4000 none : Cells) = 0 := by unfold cnt; rw [List.countP_replicate]; simp
  have hp : 2 ^ V ≤ 2 ^ 6 := Nat.pow_le_pow_right (by decide) h2
  have hm : l.length * (2 * 2 ^ V) ≤ 25 * (2 * 2 ^ 6) := Nat.mul_le_mul h3 (by omega)
  obtain ⟨_, a, b, c, d⟩ := run_ok h1 (by omega) l _ _ f (by dsimp only; rw [hc0, List.length_replicate]; omega)
  dsimp only at b c d
  rw [hc0] at c
  rw [List.length_replicate] at b
  exact ⟨a, b, by omega, by rw [d]; simp; omega⟩
theorem shr_andN (v k : Nat) (hv : v < 18446744073709551616) : bits BinOp.and IntKind.u64 ((v : Int) / 2 ^ min k 64) 1 = if v.testBit k then 1 else 0 := by
  have e : (v : Int) / 2 ^ min k 64 = ((v / 2 ^ min k 64 : Nat) : Int) := by simp
  have hle : v / 2 ^ min k 64 ≤ v := Nat.div_le_self _ _
  rw [e]
  generalize hq : v / 2 ^ min k 64 = q at hle
  rw [and_one_u64 _ (by omega) (by omega)]
  subst hq
  rcases Nat.lt_or_ge k 64 with h | h
  · rw [Nat.min_eq_left (by omega), Nat.testBit_eq_decide_div_mod_eq]
    generalize v / 2 ^ k = r
    by_cases h1 : r % 2 = 1 <;> simp [h1] <;> omega
  · rw [Nat.min_eq_right h, Nat.testBit_lt_two_pow (Nat.lt_of_lt_of_le hv (show 18446744073709551616 ≤ 2 ^ k from Nat.pow_le_pow_right (n := 2) (i := 64) (by decide) h))]
    have : v / 2 ^ 64 = 0 := Nat.div_eq_of_lt hv
    rw [this]; rfl
theorem bitAt_bits {x : Nat} (hx : x < 18446744073709551616) (u : Int) (h : 0 ≤ u) : bitAt (x : Int) u = bitsN x u := by
  obtain ⟨k, rfl⟩ := Int.eq_ofNat_of_zero_le h
  unfold bitAt bitsN
  rw [Int.toNat_natCast, shr_andN x k hx, decide_eq_true h]
  cases x.testBit k <;> rfl
/-- Two values, the one behind the other. -/
theorem next_bits {V : Nat} {D : FnB} {k x y : Nat} (h : k + 1 < sumS V V D (fun _ => false)) (hx : bitsN x = kthN V V D (k + 1) (fun _ => false)) (hy : bitsN y = kthN V V D k (fun _ => false)) :
    ∃ u : Nat, u < V ∧ (∀ t : Nat, t < u → x.testBit t = y.testBit t) ∧ x.testBit u = true ∧ y.testBit u = false := by
  obtain ⟨u, h1, h2, h3, h4, h5⟩ := kthN_next (V := V) D V k _ h
  have h0 : 0 ≤ u := by omega
  obtain ⟨n, rfl⟩ := Int.eq_ofNat_of_zero_le h0
  rw [← hx] at h3 h4; rw [← hy] at h3 h5
  refine ⟨n, by omega, fun t ht => ?_, by simpa [bitsN] using h4, by simpa [bitsN] using h5⟩
  have := h3 t (by omega)
  simpa [bitsN] using this
theorem bel_allocN {w : World} (o : Obj) : Below w.heap.size w (w.alloc o) := (Below.refl _ _).alloc (Nat.le_refl _) _
def TrueB (w : World) (e : Ending) (w' : World) : Prop := e = .returned (.bool true) ∧ Below w.heap.size w w'

set_option maxRecDepth 100000 in
set_option maxHeartbeats 16000000 in
theorem ranks_any (vars kv : Int) (vl : Value) (l : List Stp) (w : World) (hst : IsSteps w vl l) (hT : TypeLaid w) :
    Calls Tryd.prog 4 #[.int .i64 vars, vl, .int .i64 kv] w (TrueB w) := by
  by_cases hno : vars < 1 ∨ 6 < vars ∨ 25 < l.length
  · have Hn := Lib.hid (space_no vars vl l w hst hno)
    clear hno hst hT
    go_enter Tryd.func4, Tryd.ntmps4
    go_wp2_with fail
    refine Hn.out.mono ?_
    rintro e w1 ⟨rfl, rfl⟩
    go_wp2_with fail
    go_ret
    exact ⟨rfl, Below.refl _ _⟩
  obtain ⟨V, rfl⟩ : ∃ V : Nat, vars = V := ⟨vars.toNat, by omega⟩
  have h1 : 1 ≤ V := by omega
  have hV : V ≤ 6 := by omega
  have h3 : l.length ≤ 25 := by omega
  have Hsp := Lib.hid (space_ok V vl l w hst h1 hV h3)
  have HT := Lib.hid hT
  clear hno hst hT
  go_enter Tryd.func4, Tryd.ntmps4
  go_wp2_with fail
  refine Hsp.out.mono ?_
  rintro e w2 ⟨s, va, w1, rfl, hb1, hm, hp, hfs⟩
  obtain ⟨fo, fl, fc, fn⟩ := first_run4 V l h1 hV h3
  generalize (funsX V l ⟨List.replicate 4000 none, noQ⟩ [0, 1]).1 = st at hfs fo fl fc
  generalize (funsX V l ⟨List.replicate 4000 none, noQ⟩ [0, 1]).2 = out at hfs fo fn
  have hpos : out.length - 1 < out.length := by omega
  obtain ⟨g, cap, rfl, hrow⟩ := owns_at hfs.own (by omega)
  have hcell := hrow _ hpos
  have hf := fo.has _ (List.getElem_mem hpos)
  generalize out[out.length - 1] = f at hcell hf
  have hbel : Below w.heap.size w w2 := hb1.trans (hfs.only.below hb1.size hm)
  have hN : sumS V V (den st.c f) (fun _ => false) ≤ 64 := Nat.le_trans (sumS_le _ _ _) (Nat.pow_le_pow_right (n := 2) (by decide) hV)
  have Hsp2 := Lib.hid hfs.sp; have Hcell := Lib.hid hcell; have So := Lib.hid fo.sok; have Hf := Lib.hid hf; have Hbel := Lib.hid hbel; have HN := Lib.hid hN
  clear hfs hb1 hm hp hcell fo hrow hf hbel fl fc Hsp hN
  go_wp2_with fail
  refine (truth_any w2).mono ?_
  rintro e w3 ⟨rfl, hb3⟩
  have hcell3 : w3.cell? ⟨g, out.length - 1, none⟩ = some (.int .i64 f) := (hb3.cell (World.block_lt_of_cell? _ _ Hcell.out)).trans Hcell.out
  rw [show out.length - 1 = l.length + 1 by omega] at hcell3
  have hidx : wrap64 ((out.length : Int) - 1) = ((out.length - 1 : Nat) : Int) := by rw [IntWalk.wrap64_in _ ⟨by omega, by omega⟩]; omega
  have Hsp3 := Lib.hid (Hsp2.out.below hb3); have Hb3 := Lib.hid (Hbel.out.trans (hb3.mono Hbel.out.size))
  have Hct := Lib.hid (fun w' (h' : IsSpace w' s V st) => Count_any V (by omega) f w' s st h' So.out.cells Hf.out)
  have Hk := Lib.hid (fun k vk w' (h' : IsSpace w' s V st) (hk : IsNat w' vk k) (hl : k < sumS V V (den st.c f) (fun _ => false)) => Kth_some V (by omega) f k vk w' s st h' So.out.cells Hf.out hk hl)
  have Hk0 := Lib.hid (fun k vk w' (h' : IsSpace w' s V st) (hk : IsNat w' vk k) (hl : ¬ k < sumS V V (den st.c f) (fun _ => false)) => Kth_none V (by omega) f k vk w' s st h' So.out.cells Hf.out hk hl)
  have Hh := Lib.hid (fun (x : Nat) w' (h' : IsSpace w' s V st) => Holds_any V f x w' s st h' So.out Hf.out)
  have Htrue := Lib.hid (fun k val => kthN_true (V := V) (den st.c f) V k val)
  have Hnext := Lib.hid (fun k x y => next_bits (V := V) (D := den st.c f) (k := k) (x := x) (y := y))
  have Hnn := Lib.hid (fun (x y : Int → Bool) (h : ∀ u, 0 ≤ u → x u = y u) => den_nonneg So.out.ok h f)
  clear hb3 Hsp2 Hcell Hbel So Hf
  generalize den st.c f = D at Hct Hk Hk0 Hh Htrue Hnext HN Hnn
  obtain ⟨N, eN⟩ : ∃ N, N = sumS V V D (fun _ => false) := ⟨_, rfl⟩
  rw [← eN] at Hct HN
  have EN := Lib.hid eN; clear eN
  go_wp2_with fail
  refine (Hct.out _ Hsp3.out).mono ?_
  rintro e w4 ⟨v4, rfl, hn4, hb4⟩
  obtain ⟨a4, c4, rfl⟩ := hn4.shape
  have hb5 := bel_allocN (w := w4) (.cells #[.slice a4 (limbsOf N).length c4] 24)
  have hbx := NBox.mk' hn4
  have Hsp5 := Lib.hid ((Hsp3.out.below hb4).below hb5)
  have hB4 := Hb3.out.trans (hb4.mono Hb3.out.size)
  have Hb5 := Lib.hid (hB4.trans (hb5.mono hB4.size))
  have k1 := cell_of_one hbx.blk
  have Hq := Lib.hid (Fits_any N _ _ hbx.nat (by have := HN.out; unfold B32; omega))
  clear hn4 hb4 hb5 hB4 hbx Hsp3 Hb3 Hct hcell3 hidx
  go_wp2_with fail
  refine Hq.out.mono ?_
  rintro e w6 ⟨rfl, hb6⟩
  have Hsp6 := Lib.hid (Hsp5.out.below hb6)
  have Hb6 := Lib.hid (Hb5.out.trans (hb6.mono Hb5.out.size))
  clear hb6 Hsp5 Hb5 Hq k1
  by_cases h0 : N = 0
  · subst h0
    go_wp2_with fail
    refine (Hk0.out 0 _ w6 Hsp6.out (isNat_zero w6) (by rw [← EN.out]; omega)).mono ?_
    rintro e w7 ⟨rfl, hb7⟩
    have Hb7 := Lib.hid (Hb6.out.trans (hb7.mono Hb6.out.size))
    clear hb7 Hb6 Hsp6
    go_wp2_with fail
    refine (tell_errno 8 w7 (HT.out.below Hb7.out)).mono ?_
    rintro e w8 ⟨rfl, hb8⟩
    have Hb8 := Lib.hid (Hb7.out.trans (hb8.mono Hb7.out.size))
    clear hb8 Hb7
    go_wp2_with fail
    go_ret
    exact ⟨rfl, Hb8.out⟩
  have hn0 : ((N : Int) == 0) = false := by simpa using h0
  have hNle := HN.out
  obtain ⟨K, eK⟩ : ∃ K, K = pickN kv N := ⟨_, rfl⟩
  have hK : K < N := by rw [eK]; exact pickN_lt kv (by omega)
  have hpk : ∀ w' : World, Calls Tryd.prog 15 #[.int .i64 kv, .int .i64 N] w' fun e w2 => e = .returned (.int .i64 (K : Int)) ∧ w' = w2 := fun w' => by rw [eK]; exact pick_any kv N w' (by omega) (by omega)
  have Hpk := Lib.hid hpk; clear hpk eK
  go_wp2_with fail
  refine (Hpk.out _).mono ?_
  rintro e w7 ⟨rfl, rfl⟩
  go_wp2_with fail
  refine (Of_any K w6 (by omega)).mono ?_
  rintro e w7 ⟨v7, rfl, hn7, hb7⟩
  have Hsp7 := Lib.hid (Hsp6.out.below hb7)
  have Hb7 := Lib.hid (Hb6.out.trans (hb7.mono Hb6.out.size))
  have Hq := Lib.hid (Hk.out K v7 w7 Hsp7.out hn7 (by rw [← EN.out]; exact hK))
  clear hn7 hb7 Hsp6 Hb6 Hpk
  go_wp2_with fail
  refine Hq.out.mono ?_
  rintro e w8 ⟨x, rfl, hx, hxb, hb8⟩
  have hx24 : x < 18446744073709551616 := Nat.lt_of_lt_of_le hx (Nat.pow_le_pow_right (n := 2) (j := 64) (by decide) (by omega))
  have Hsp8 := Lib.hid (Hsp7.out.below hb8)
  have Hb8 := Lib.hid (Hb7.out.trans (hb8.mono Hb7.out.size))
  have hhx := Hh.out x w8 Hsp8.out
  rw [Hnn.out _ _ (bitAt_bits hx24), hxb, Htrue.out K _ (by rw [← EN.out]; exact hK)] at hhx
  have Hhx := Lib.hid hhx; have Hxb := Lib.hid hxb; have Hx := Lib.hid hx24
  clear hb8 Hsp7 Hb7 Hq hhx hxb hx hx24
  go_wp2_with fail
  refine Hhx.out.mono ?_
  rintro e w9 ⟨rfl, hb9⟩
  have Hsp9 := Lib.hid (Hsp8.out.below hb9)
  have Hb9 := Lib.hid (Hb8.out.trans (hb9.mono Hb8.out.size))
  clear hb9 Hsp8 Hb8 Hhx Hh Htrue Hnn
  by_cases hK0 : K = 0
  · subst hK0
    go_wp2_with fail
    go_ret
    exact ⟨rfl, Hb9.out⟩
  obtain ⟨J, rfl⟩ : ∃ J, K = J + 1 := ⟨K - 1, by omega⟩
  have hk0 : (((J + 1 : Nat) : Int) == 0) = false := by simp; omega
  clear hK0
  go_wp2_with fail
  refine (Of_any J w9 (by omega)).mono ?_
  rintro e w10 ⟨v10, rfl, hn10, hb10⟩
  have Hsp10 := Lib.hid (Hsp9.out.below hb10)
  have Hb10 := Lib.hid (Hb9.out.trans (hb10.mono Hb9.out.size))
  have Hq := Lib.hid (Hk.out J v10 w10 Hsp10.out hn10 (by rw [← EN.out]; omega))
  clear hn10 hb10 Hsp9 Hb9
  go_wp2_with fail
  refine Hq.out.mono ?_
  rintro e w11 ⟨y, rfl, hy, hyb, hb11⟩
  have hy24 : y < 18446744073709551616 := Nat.lt_of_lt_of_le hy (Nat.pow_le_pow_right (n := 2) (j := 64) (by decide) (by omega))
  have Hb11 := Lib.hid (Hb10.out.trans (hb11.mono Hb10.out.size))
  obtain ⟨d, hd, hsame, hxd, hyd⟩ := Hnext.out J x y (by rw [← EN.out]; exact hK) Hxb.out hyb
  have Hsame := Lib.hid hsame; have Hxd := Lib.hid hxd; have Hyd := Lib.hid hyd; have Hy := Lib.hid hy24
  clear hb11 Hsp10 Hb10 Hq hyb hy hsame hxd hyd hy24 Hnext Hxb Hk Hk0 EN HT
  go_wp2_with fail
  go_loopg [21] d (fun gk i wr => Below w.heap.size w wr ∧ ∃ u : Nat, u ≤ d ∧ gk = d - u ∧ i = .int .i64 u)
  case atStart => exact ⟨Hb11.out, 0, Nat.zero_le _, rfl, rfl⟩
  case round =>
    clear Hb11
    obtain ⟨hb, u, hu, rfl, rfl⟩ := hrel
    have Hb := Lib.hid hb; clear hb
    have ex := shr_andN x u Hx.out
    have ey := shr_andN y u Hy.out
    rw [Nat.min_eq_left (by omega)] at ex ey
    have huV : decide (u < V) = true := by simp; omega
    have huV2 : u < V := by omega
    by_cases hlt : u < d
    · rw [← Hsame.out u hlt] at ey
      rcases hbx : x.testBit u with _ | _
      all_goals rw [hbx] at ex ey
      all_goals simp only [if_true, if_false, Bool.false_eq_true] at ex ey
      all_goals clear hbx
      all_goals go_wp2_with fail
      all_goals go_quiet (fail)
      all_goals go_wp2_with fail
      all_goals go_roundg (d - (u + 1))
      case measure => omega
      case rel => exact ⟨below_drewN Hb.out _, u + 1, by omega, rfl, by go_num⟩
      case measure => omega
      case rel => exact ⟨below_drewN Hb.out _, u + 1, by omega, rfl, by go_num⟩
    · obtain rfl : u = d := by omega
      rw [Hxd.out] at ex; rw [Hyd.out] at ey
      simp only [if_true, if_false, Bool.false_eq_true] at ex ey
      go_wp2_with fail
      go_quiet (fail)
      go_wp2_with fail
      go_ret
      exact ⟨rfl, below_drewN Hb.out _⟩
end Go.Proofs.YtdeaficdfooegaaDoor
