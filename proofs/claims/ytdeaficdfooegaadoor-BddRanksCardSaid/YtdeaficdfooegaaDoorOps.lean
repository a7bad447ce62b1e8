/- Contracts: (*bdd.Space).Ite, Not, And, Or, Xor, Lit, Vars, Free. -/
import Derived.Test.YtdeaficdfooegaaDoorIte
import Derived.Test.YtdeaficdfooegaaDoorSetM
namespace Go.Proofs.YtdeaficdfooegaaDoor
open Go.RowKit
set_option linter.unusedVariables false

def iteX (st : Sp) (a b c : Int) : Sp × Int × Nat := iteM 25 st a b c
def xorX (st : Sp) (a b : Int) : Sp × Int × Nat := let r := iteX st b 0 1; iteX r.1 a r.2.1 b
def litX (st : Sp) (v : Int) (is : Bool) : Sp × Int × Nat := let r := if is then nodeM st.c v 0 1 else nodeM st.c v 1 0; (⟨r.1, st.q⟩, r.2.1, r.2.2)
noncomputable def freeX (st : Sp) (keep : List Int) : Sp := ⟨sweepM st.c keep, noQ⟩
noncomputable def freeN (st : Sp) (keep : List Int) : Int := (cnt st.c : Int) - (reachM st.c keep).length

/-- What a method makes: no error, a handle that means D; k nodes at most. -/
structure ROk (V : Int) (st : Sp) (r : Sp × Int × Nat) (D : (Int → Bool) → Bool) (k : Nat) : Prop where
  err : r.2.2 = 0
  sok : SOk V r.1
  ext : Ext st.c r.1.c
  has : hasM r.1.c r.2.1 = true
  den : ∀ val, den r.1.c r.2.1 val = D val
  cnt : cnt r.1.c ≤ cnt st.c + k

theorem min3_pos {c : Cells} (o : Ok c) (a b d : Int) : 0 ≤ min3 (topM c a) (topM c b) (topM c d) := by
  have := o.top_pos a; have := o.top_pos b; have := o.top_pos d; unfold min3; omega
theorem iteX_ok {V : Int} (hV : V ≤ 24) {st : Sp} {a b c : Int} (so : SOk V st) (ha : hasM st.c a = true) (hb : hasM st.c b = true) (hc : hasM st.c c = true) (hr : cnt st.c + 2 ^ V.toNat ≤ st.c.length + 1) :
    ROk V st (iteX st a b c) (fun val => if den st.c a val then den st.c b val else den st.c c val) (2 ^ V.toNat) := by
  have hp := min3_pos so.ok a b c
  have h1 := two_pow_le (show (V - min3 (topM st.c a) (topM st.c b) (topM st.c c)).toNat ≤ V.toNat by omega)
  have h := iteM_spec V hV 25 st a b c so ha hb hc (by omega) (by omega)
  exact ⟨h.err, h.sok, h.ext, h.has, h.den, by have := h.cnt; unfold iteX; omega⟩
theorem iteX_bound {V : Int} (hV : V ≤ 24) {st : Sp} {a b c : Int} (so : SOk V st) (hr : cnt st.c + 2 ^ V.toNat ≤ st.c.length + 1) :
    (24 - min3 (topM st.c a) (topM st.c b) (topM st.c c)).toNat < 25 ∧ cnt st.c + 2 ^ (V - min3 (topM st.c a) (topM st.c b) (topM st.c c)).toNat ≤ st.c.length + 1 := by
  have hp := min3_pos so.ok a b c
  have h1 := two_pow_le (show (V - min3 (topM st.c a) (topM st.c b) (topM st.c c)).toNat ≤ V.toNat by omega)
  exact ⟨by omega, by omega⟩

set_option maxHeartbeats 2000000 in
theorem Ite_any (V : Int) (hV : V ≤ 24) (a b c : Int) (w : World) (s : Sb) (st : Sp) (hs : IsSpace w s V st) (so : SOk V st) (ha : hasM st.c a = true) (hb : hasM st.c b = true) (hc : hasM st.c c = true) (hr : cnt st.c + 2 ^ V.toNat ≤ st.c.length + 1) :
    Calls Tryd.prog 91 #[.pointer (some ⟨s.ps, 0, none⟩), .int .i64 a, .int .i64 b, .int .i64 c] w (SpPost s V (iteX st a b c) w) := by
  have hlen := hs.ar.len
  have hR := hs.ar.room.2
  have la : a ≤ 9223372036854775807 := by have := hasM_le ha; omega
  have lb : b ≤ 9223372036854775807 := by have := hasM_le hb; omega
  have lc : c ≤ 9223372036854775807 := by have := hasM_le hc; omega
  have c0 := hs.s0
  have h1 := has_any a w s.b st.c hs.ar la
  have h2 := has_any b w s.b st.c hs.ar lb
  have h3 := has_any c w s.b st.c hs.ar lc
  rw [ha] at h1
  rw [hb] at h2
  rw [hc] at h3
  have hb2 := iteX_bound (a := a) (b := b) (c := c) hV so hr
  have hit := ite_in V hV 25 a b c w s st hs so ha hb hc hb2.1 hb2.2
  have H1 := Lib.hid h1; have H2 := Lib.hid h2; have H3 := Lib.hid h3; have Hit := Lib.hid hit
  clear h1 h2 h3 hit hb2 hs so ha hb hc hr hlen hR
  go_enter Tryd.func91, Tryd.ntmps91
  go_wp2_with fail
  refine H1.out.mono ?_
  rintro e w' ⟨rfl, rfl⟩
  go_wp2_with fail
  refine H2.out.mono ?_
  rintro e w' ⟨rfl, rfl⟩
  go_wp2_with fail
  refine H3.out.mono ?_
  rintro e w' ⟨rfl, rfl⟩
  go_wp2_with fail
  refine Hit.out.mono ?_
  rintro e w1 ⟨rfl, hs1, ho1⟩
  have Hs1 := Lib.hid hs1; have Ho1 := Lib.hid ho1; clear hs1 ho1
  go_wp2_with fail
  go_ret2
  exact ⟨rfl, Hs1.out, Ho1.out⟩

section
variable (V : Int) (hV : V ≤ 24) (a b : Int) (w : World) (s : Sb) (st : Sp) (hs : IsSpace w s V st) (so : SOk V st) (ha : hasM st.c a = true) (hb : hasM st.c b = true) (hr : cnt st.c + 2 ^ V.toNat ≤ st.c.length + 1)
include hV hs so ha hr
set_option maxHeartbeats 1000000 in
theorem Not_any : Calls Tryd.prog 87 #[.pointer (some ⟨s.ps, 0, none⟩), .int .i64 a] w (SpPost s V (iteX st a 0 1) w) := by
  have Hit := Lib.hid (Ite_any V hV a 0 1 w s st hs so ha (hasM_zero _) (hasM_one _) hr)
  clear hs so ha hr
  go_enter Tryd.func87, Tryd.ntmps87
  go_wp2_with fail
  refine Hit.out.mono ?_
  rintro e w1 ⟨rfl, hs1, ho1⟩
  have Hs1 := Lib.hid hs1; have Ho1 := Lib.hid ho1; clear hs1 ho1
  go_wp2_with fail
  go_ret2
  exact ⟨rfl, Hs1.out, Ho1.out⟩
include hb
set_option maxHeartbeats 1000000 in
theorem And_any : Calls Tryd.prog 88 #[.pointer (some ⟨s.ps, 0, none⟩), .int .i64 a, .int .i64 b] w (SpPost s V (iteX st a b 0) w) := by
  have Hit := Lib.hid (Ite_any V hV a b 0 w s st hs so ha hb (hasM_zero _) hr)
  clear hs so ha hb hr
  go_enter Tryd.func88, Tryd.ntmps88
  go_wp2_with fail
  refine Hit.out.mono ?_
  rintro e w1 ⟨rfl, hs1, ho1⟩
  have Hs1 := Lib.hid hs1; have Ho1 := Lib.hid ho1; clear hs1 ho1
  go_wp2_with fail
  go_ret2
  exact ⟨rfl, Hs1.out, Ho1.out⟩
set_option maxHeartbeats 1000000 in
theorem Or_any : Calls Tryd.prog 89 #[.pointer (some ⟨s.ps, 0, none⟩), .int .i64 a, .int .i64 b] w (SpPost s V (iteX st a 1 b) w) := by
  have Hit := Lib.hid (Ite_any V hV a 1 b w s st hs so ha (hasM_one _) hb hr)
  clear hs so ha hb hr
  go_enter Tryd.func89, Tryd.ntmps89
  go_wp2_with fail
  refine Hit.out.mono ?_
  rintro e w1 ⟨rfl, hs1, ho1⟩
  have Hs1 := Lib.hid hs1; have Ho1 := Lib.hid ho1; clear hs1 ho1
  go_wp2_with fail
  go_ret2
  exact ⟨rfl, Hs1.out, Ho1.out⟩
end

set_option maxHeartbeats 1000000 in
theorem Xor_any (V : Int) (hV : V ≤ 24) (a b : Int) (w : World) (s : Sb) (st : Sp) (hs : IsSpace w s V st) (so : SOk V st) (ha : hasM st.c a = true) (hb : hasM st.c b = true) (hr : cnt st.c + 2 * 2 ^ V.toNat ≤ st.c.length + 1) :
    Calls Tryd.prog 90 #[.pointer (some ⟨s.ps, 0, none⟩), .int .i64 a, .int .i64 b] w (SpPost s V (xorX st a b) w) := by
  have r1 := iteX_ok hV so hb (hasM_zero _) (hasM_one _) (by omega)
  have hn := Not_any V hV b w s st hs so hb (by omega)
  obtain ⟨R1, hR1⟩ : ∃ R, R = iteX st b 0 1 := ⟨_, rfl⟩
  have hx : xorX st a b = iteX R1.1 a R1.2.1 b := by unfold xorX; rw [hR1]
  rw [← hR1] at r1 hn
  rw [hx]
  have Hn := Lib.hid hn; have Hr1 := Lib.hid r1; have Ha := Lib.hid ha; have Hb := Lib.hid hb; have Hr := Lib.hid hr
  clear hn r1 hs so ha hb hr hR1 hx
  go_enter Tryd.func90, Tryd.ntmps90
  go_wp2_with fail
  refine Hn.out.mono ?_
  rintro e w1 ⟨rfl, hs1, ho1⟩
  rw [Hr1.out.err]
  simp only [errV, if_true]
  have hit := Ite_any V hV a R1.2.1 b w1 s R1.1 hs1 Hr1.out.sok (Hr1.out.ext.has Ha.out) Hr1.out.has (Hr1.out.ext.has Hb.out) (by have := Hr1.out.cnt; have := Hr1.out.ext.len; have := Hr.out; omega)
  have Hit := Lib.hid hit; have Ho1 := Lib.hid ho1; clear hit hs1 ho1
  go_wp2_with fail
  refine Hit.out.mono ?_
  rintro e w2 ⟨rfl, hs2, ho2⟩
  have Hs2 := Lib.hid hs2; have Ho2 := Lib.hid ho2; clear hs2 ho2
  go_wp2_with fail
  go_ret2
  exact ⟨rfl, Hs2.out, Ho1.out.trans Ho2.out⟩

set_option maxHeartbeats 1000000 in
theorem Lit_any (V : Int) (v : Int) (is : Bool) (w : World) (s : Sb) (st : Sp) (hs : IsSpace w s V st) (h0 : 0 ≤ v) (h1 : v < V) :
    Calls Tryd.prog 48 #[.pointer (some ⟨s.ps, 0, none⟩), .int .i64 v, .bool is] w (SpPost s V (litX st v is) w) := by
  have c1 := hs.s1
  cases is
  · have hn := node_any v 1 0 w s V st hs (by decide) (by decide)
    have hx : litX st v false = (⟨(nodeM st.c v 1 0).1, st.q⟩, (nodeM st.c v 1 0).2.1, (nodeM st.c v 1 0).2.2) := rfl
    rw [hx]
    have Hn := Lib.hid hn; clear hn hs hx
    go_enter Tryd.func48, Tryd.ntmps48
    go_wp2_with fail
    refine Hn.out.mono ?_
    rintro e w1 ⟨rfl, hs1, ho1⟩
    have Hs1 := Lib.hid hs1; have Ho1 := Lib.hid ho1; clear hs1 ho1
    go_wp2_with fail
    go_ret2
    exact ⟨rfl, Hs1.out, Ho1.out.mono s.sub⟩
  · have hn := node_any v 0 1 w s V st hs (by decide) (by decide)
    have hx : litX st v true = (⟨(nodeM st.c v 0 1).1, st.q⟩, (nodeM st.c v 0 1).2.1, (nodeM st.c v 0 1).2.2) := rfl
    rw [hx]
    have Hn := Lib.hid hn; clear hn hs hx
    go_enter Tryd.func48, Tryd.ntmps48
    go_wp2_with fail
    refine Hn.out.mono ?_
    rintro e w1 ⟨rfl, hs1, ho1⟩
    have Hs1 := Lib.hid hs1; have Ho1 := Lib.hid ho1; clear hs1 ho1
    go_wp2_with fail
    go_ret2
    exact ⟨rfl, Hs1.out, Ho1.out.mono s.sub⟩

theorem Vars_any (V : Int) (w : World) (s : Sb) (st : Sp) (hs : IsSpace w s V st) : Calls Tryd.prog 86 #[.pointer (some ⟨s.ps, 0, none⟩)] w fun e w' => e = .returned (.int .i64 V) ∧ w = w' := by
  have c1 := hs.s1
  clear hs
  go_enter Tryd.func86, Tryd.ntmps86
  go_wp2_with fail
  go_ret
  exact ⟨rfl, rfl⟩

theorem free_space {w w2 : World} {s : Sb} {V : Int} {c : Cells} {q : Int × Int × Int → Option Int} (h : IsSpace w s V ⟨c, q⟩) (ho : Only (· = s.mc) w w2) (hm : MapOf w2 s.mc enc4 ([] : List ((Int × Int × Int × Int) × Value))) : IsSpace w2 s V ⟨c, noQ⟩ :=
  ⟨by rw [ho.block _ h.lps (fun e => h.off (.inr e))]; exact h.blk, h.ar.only ho (fun k hk e => h.off2 (e ▸ hk)), ⟨[], hm, fun _ _ _ => rfl⟩, h.off, h.off2⟩

set_option maxHeartbeats 1000000 in
theorem Free_any (V : Int) (vs : Value) (keep : List Int) (w : World) (s : Sb) (st : Sp) (hs : IsSpace w s V st) (o : Ok st.c) (hv : IsInts w vs keep) (hl : keep.length ≤ 100000) (hm : ∀ x ∈ keep, x ≤ 9223372036854775807) :
    Calls Tryd.prog 95 #[.pointer (some ⟨s.ps, 0, none⟩), vs] w fun e w' => e = .returned (.int .i64 (freeN st keep)) ∧ IsSpace w' s V (freeX st keep) ∧ Only s.mem w w' := by
  have c0 := hs.s0
  have hsw := sweep_any vs keep w s.b st.c hs.ar o hv hl hm
  obtain ⟨z, hz⟩ : ∃ z, z = freeN st keep := ⟨_, rfl⟩
  have hz2 : (cnt st.c : Int) - (reachM st.c keep).length = z := by rw [hz]; rfl
  rw [hz2] at hsw
  rw [← hz]
  have Hsw := Lib.hid hsw; have Hs := Lib.hid hs; clear hsw hs hz hz2 o hv hm
  go_enter Tryd.func95, Tryd.ntmps95
  go_wp2_with fail
  refine Hsw.out.mono ?_
  rintro e w1 ⟨rfl, ha1, ho1⟩
  have hs1 := Hs.out.arena ho1 ha1
  obtain ⟨mq, hmq, _⟩ := hs1.map
  have c2 := hs1.s2
  have Hs1 := Lib.hid hs1; have Hmq := Lib.hid hmq; have Ho1 := Lib.hid ho1
  clear hs1 hmq ho1 ha1
  go_wp2_with (show wpList _ _ _ (Oper.mk none (.call { callee := .builtin .clear, args := _, argTypes := _ }) _ _ _ _ :: _) _ _; refine wpList_clear_map (o := ⟨none, .call { callee := .builtin .clear, args := #[.tmp 15], argTypes := #[95] }, _, _, _, _⟩) rfl (.tmp 15) 95 rfl (kt := 206) (et := 3) (b := s.mc) (enc := enc4) (m := mq) rfl Tryd.underlying95 Hmq.out ?_; intro ob hob; have hon : Only (· = s.mc) w1 (setObjW w1 s.mc ob) := ⟨rfl, rfl, rfl, (by simp [setObjW]), fun k _ hk => setObjW_other ob hk⟩; have hs2 := free_space Hs1.out hon hob; have Hs2 := Lib.hid hs2; have Hon := Lib.hid hon; clear hs2 hon hob; generalize setObjW w1 s.mc ob = w2 at Hs2 Hon ⊢)
  go_ret
  exact ⟨rfl, Hs2.out, (Ho1.out.mono s.sub).trans (Hon.out.mono (fun k hk => .inr hk))⟩
end Go.Proofs.YtdeaficdfooegaaDoor
