/- BddBoole on its way: what holds between its calls. -/
import Derived.Test.YtmlnfbageoabnaaAll
namespace Go.Proofs.Ytmlnfbageoabnaa
open Go.RowKit
set_option linter.unusedVariables false

structure BI (w1 wr : World) (s : Sb) (V : Nat) (st : Sp) (vh : Value) (h : List Int) (D0 : Int → Fn1) (bs bh bb bd n : Nat) : Prop where
  f : FSt w1 wr s V st vh h
  c : Cap wr s bs bh bb bd vh
  sok : SOk V st
  len : st.c.length = 4000
  cnt : Go.Proofs.Ytmlnfbageoabnaa.cnt st.c ≤ n
  m : ∀ y ∈ h, Means st y (D0 y)
  base : ∃ sb : Sp, SOk V sb ∧ Go.Proofs.Ytmlnfbageoabnaa.cnt sb.c ≤ 3200 ∧ Ext sb.c st.c ∧ ∀ y ∈ h, hasM sb.c y = true
  hl : 0 < h.length ∧ h.length ≤ 100000
section
variable {w1 wr w' : World} {s : Sb} {V : Nat} {st : Sp} {vh : Value} {h : List Int} {D0 : Int → Fn1} {bs bh bb bd n : Nat}
theorem BI.sp (b : BI w1 wr s V st vh h D0 bs bh bb bd n) : IsSpace wr s V st := b.f.sp
theorem BI.on (b : BI w1 wr s V st vh h D0 bs bh bb bd n) {st' : Sp} {k : Nat} (hs : IsSpace w' s V st') (ho : Only s.mem wr w') (u : Up V st st' k) (hk : k ≤ 192) : BI w1 w' s V st' vh h D0 bs bh bb bd (n + k) := by
  obtain ⟨sb, b1, b2, b3, b4⟩ := b.base
  exact ⟨b.f.step ho hs, b.c.only ho, u.sok, u.ext.len.trans b.len, by have := u.cnt; have := b.cnt; omega, fun y hy => u.means b.sok (b.m y hy), ⟨sb, b1, b2, b3.trans u.ext, b4⟩, b.hl⟩
theorem BI.more {m : Nat} (b : BI w1 wr s V st vh h D0 bs bh bb bd n) (hm : n ≤ m) : BI w1 wr s V st vh h D0 bs bh bb bd m :=
  ⟨b.f, b.c, b.sok, b.len, by have := b.cnt; omega, b.m, b.base, b.hl⟩
theorem BI.ints (b : BI w1 wr s V st vh h D0 bs bh bb bd n) : IsInts wr vh h := ints_of_owns b.f.own (by have := b.hl.2; omega)
theorem BI.free (b : BI w1 wr s V st vh h D0 bs bh bb bd n) (hs : IsSpace w' s V (freeX st h)) (ho : Only s.mem wr w') : BI w1 w' s V (freeX st h) vh h D0 bs bh bb bd 3200 := by
  obtain ⟨sb, b1, b2, b3, b4⟩ := b.base
  have c := cnt_free b1 (⟨b.sok, b3, Nat.le_add_left _ _⟩ : Up V sb st (Go.Proofs.Ytmlnfbageoabnaa.cnt st.c)) b4
  have fo : FOk V (freeX st h) h := FOk.free b.sok (fun y hy => (b.m y hy).has) b.hl.1
  exact ⟨b.f.step ho hs, b.c.only ho, fo.sok, (freeX_len _ _).trans b.len, by omega, fun y hy => ⟨fo.has y hy, fun val => (den_free_keep b.sok hy (b.m y hy).has val).trans ((b.m y hy).den val)⟩, ⟨_, fo.sok, by omega, Ext.refl _, fo.has⟩, b.hl⟩
/-- What was known is known still. -/
def Keeps (st st' : Sp) : Prop := ∀ (x : Int) (D : Fn1), Means st x D → Means st' x D
theorem Up.keeps {st' : Sp} {k : Nat} (u : Up V st st' k) (so : SOk V st) : Keeps st st' := fun _ _ m => u.means so m
theorem pow64 (hV : V ≤ 6) : 2 ^ (V : Int).toNat ≤ 64 := by
  have : 2 ^ V ≤ 2 ^ 6 := Nat.pow_le_pow_right (by decide) hV
  simpa using this
theorem BI.up (b : BI w1 wr s V st vh h D0 bs bh bb bd n) {r : Sp × Int × Nat} {D : Fn1} {k m : Nat} (ok : ROk V st r D k) (hk : k ≤ m) (hm : m ≤ 192) (hs : IsSpace w' s V r.1) (ho : Only s.mem wr w') :
    BI w1 w' s V r.1 vh h D0 bs bh bb bd (n + m) := (b.on hs ho ok.up (by omega)).more (by omega)

/-- What a maker leaves. -/
def KPost (w1 : World) (s : Sb) (V : Nat) (st : Sp) (vh : Value) (h : List Int) (D0 : Int → Fn1) (bs bh bb bd n : Nat) (D : Fn1) (e : Int → Ending) (e' : Ending) (w' : World) : Prop :=
  ∃ (st' : Sp) (x : Int), e' = e x ∧ BI w1 w' s V st' vh h D0 bs bh bb bd n ∧ Keeps st st' ∧ Means st' x D

theorem kNot (hV : V ≤ 6) {a : Int} {A : Fn1} (b : BI w1 wr s V st vh h D0 bs bh bb bd n) (hn : n ≤ 3900) (ma : Means st a A) :
    Calls Try.prog 37 #[.int .i64 a, .pointer (some ⟨bd, 0, none⟩), .pointer (some ⟨bs, 0, none⟩)] wr (KPost w1 s V st vh h D0 bs bh bb bd (n + 64) (fun val => !A val) (fun x => .returned (.int .i64 x))) := by
  have p := pow64 hV
  have hr : cnt st.c + 2 ^ (V : Int).toNat ≤ st.c.length + 1 := by have := b.len; have := b.cnt; omega
  have ok := iteX_ok (show (V : Int) ≤ 24 by omega) b.sok ma.has (hasM_zero _) (hasM_one _) hr
  refine (cNot_any V (by omega) a wr s st b.sp b.sok b.c ma.has hr).mono fun e w' h => ?_
  obtain ⟨rfl, hs, ho⟩ := h
  refine ⟨_, _, rfl, b.up ok (by omega) (by omega) hs ho, ok.up.keeps b.sok, ok.has, fun val => (ok.den val).trans ?_⟩
  rw [ma.den, den_zero, den_one]; cases A val <;> rfl
theorem kAnd (hV : V ≤ 6) {a c : Int} {A C : Fn1} (b : BI w1 wr s V st vh h D0 bs bh bb bd n) (hn : n ≤ 3900) (ma : Means st a A) (mc : Means st c C) :
    Calls Try.prog 35 #[.int .i64 a, .int .i64 c, .pointer (some ⟨bd, 0, none⟩), .pointer (some ⟨bs, 0, none⟩)] wr (KPost w1 s V st vh h D0 bs bh bb bd (n + 64) (fun val => A val && C val) (fun x => .returned (.int .i64 x))) := by
  have p := pow64 hV
  have hr : cnt st.c + 2 ^ (V : Int).toNat ≤ st.c.length + 1 := by have := b.len; have := b.cnt; omega
  have ok := iteX_ok (show (V : Int) ≤ 24 by omega) b.sok ma.has mc.has (hasM_zero _) hr
  refine (cAnd_any V (by omega) a c wr s st b.sp b.sok b.c ma.has mc.has hr).mono fun e w' h => ?_
  obtain ⟨rfl, hs, ho⟩ := h
  refine ⟨_, _, rfl, b.up ok (by omega) (by omega) hs ho, ok.up.keeps b.sok, ok.has, fun val => (ok.den val).trans ?_⟩
  rw [ma.den, mc.den, den_zero]; cases A val <;> simp
theorem kOr (hV : V ≤ 6) {a c : Int} {A C : Fn1} (b : BI w1 wr s V st vh h D0 bs bh bb bd n) (hn : n ≤ 3900) (ma : Means st a A) (mc : Means st c C) :
    Calls Try.prog 36 #[.int .i64 a, .int .i64 c, .pointer (some ⟨bd, 0, none⟩), .pointer (some ⟨bs, 0, none⟩)] wr (KPost w1 s V st vh h D0 bs bh bb bd (n + 64) (fun val => A val || C val) (fun x => .returned (.int .i64 x))) := by
  have p := pow64 hV
  have hr : cnt st.c + 2 ^ (V : Int).toNat ≤ st.c.length + 1 := by have := b.len; have := b.cnt; omega
  have ok := iteX_ok (show (V : Int) ≤ 24 by omega) b.sok ma.has (hasM_one _) mc.has hr
  refine (cOr_any V (by omega) a c wr s st b.sp b.sok b.c ma.has mc.has hr).mono fun e w' h => ?_
  obtain ⟨rfl, hs, ho⟩ := h
  refine ⟨_, _, rfl, b.up ok (by omega) (by omega) hs ho, ok.up.keeps b.sok, ok.has, fun val => (ok.den val).trans ?_⟩
  rw [ma.den, mc.den, den_one]; cases A val <;> simp
theorem kXor (hV : V ≤ 6) {a c : Int} {A C : Fn1} (b : BI w1 wr s V st vh h D0 bs bh bb bd n) (hn : n ≤ 3800) (ma : Means st a A) (mc : Means st c C) :
    Calls Try.prog 40 #[.pointer (some ⟨s.ps, 0, none⟩), .int .i64 a, .int .i64 c] wr (KPost w1 s V st vh h D0 bs bh bb bd (n + 128) (fun val => A val != C val) (fun x => .returned (.tuple #[.int .i64 x, .nilIface]))) := by
  have p := pow64 hV
  have hr : cnt st.c + 2 * 2 ^ (V : Int).toNat ≤ st.c.length + 1 := by have := b.len; have := b.cnt; omega
  have ok := xorX_ok (show (V : Int) ≤ 24 by omega) b.sok ma.has mc.has hr
  refine (Xor_any V (by omega) a c wr s st b.sp b.sok ma.has mc.has hr).mono fun e w' h => ?_
  obtain ⟨rfl, hs, ho⟩ := h
  refine ⟨_, _, by rw [ok.err]; simp only [errV, if_true], b.up ok (by omega) (by omega) hs ho, ok.up.keeps b.sok, ok.has, fun val => (ok.den val).trans ?_⟩
  rw [ma.den, mc.den]
theorem kAll (hV : V ≤ 6) {a c d : Int} {A C D : Fn1} {vs : Value} (b : BI w1 wr s V st vh h D0 bs bh bb bd n) (hn : n ≤ 3700) (ma : Means st a A) (mc : Means st c C) (md : Means st d D) (hv : ∀ w', Only s.mem wr w' → IsInts w' vs [a, c, d]) :
    Calls Try.prog 41 #[.pointer (some ⟨s.ps, 0, none⟩), vs] wr (KPost w1 s V st vh h D0 bs bh bb bd (n + 192) (fun val => A val && (C val && D val)) (fun x => .returned (.tuple #[.int .i64 x, .nilIface]))) := by
  have p := pow64 hV
  have hr : cnt st.c + [a, c, d].length * 2 ^ (V : Int).toNat ≤ st.c.length + 1 := by
    have := b.len; have := b.cnt
    show cnt st.c + 3 * _ ≤ _
    omega
  refine (All_any V (by omega) vs [a, c, d] wr s st b.sp b.sok hv (fun y hy => ?_) hr).mono fun e w' h => ?_
  · simp at hy; rcases hy with rfl | rfl | rfl
    · exact ma.has
    · exact mc.has
    · exact md.has
  · obtain ⟨st', x, rfl, hs, ho, u, m⟩ := h
    have u' : Up V st st' 192 := ⟨u.sok, u.ext, by have := u.cnt; have h3 : [a, c, d].length * 2 ^ (V : Int).toNat = 3 * 2 ^ (V : Int).toNat := rfl; omega⟩
    refine ⟨st', x, rfl, b.on hs ho u' (by omega), u.keeps b.sok, m.has, fun val => (m.den val).trans ?_⟩
    simp [ma.den, mc.den, md.den]
theorem kThen {x : Int} (b : BI w1 wr s V st vh h D0 bs bh bb bd n) :
    Calls Try.prog 39 #[.int .i64 x, .int .i64 x, .pointer (some ⟨bs, 0, none⟩), .pointer (some ⟨bh, 0, none⟩), .pointer (some ⟨bb, 0, none⟩)] wr fun e w' => e = .returned (.bool true) ∧ ∃ st', BI w1 w' s V st' vh h D0 bs bh bb bd 3200 := by
  refine (cThen_any V x wr s st b.sp b.sok b.c b.ints b.hl.2 (fun y hy => (b.m y hy).has)).mono fun e w' h => ?_
  obtain ⟨rfl, hs, ho⟩ := h
  exact ⟨rfl, _, b.free hs ho⟩
end
end Go.Proofs.Ytmlnfbageoabnaa
