import Derived.Test.YtmlfelbkgoplhaaGreatDoorZlLeaM
import Derived.Test.YtmlfelbkgoplhaaGreatDoorZlKey2
import Derived.Test.YtmlfelbkgoplhaaGreatDoorZlCanW
import Derived.Test.YtmlfelbkgoplhaaGreatDoorZlLaid
import Derived.Deep.RegionHeld3
import Derived.Deep.CutRange
import Derived.Deep.CutBlock
import Derived.StillTailTactics
import Derived.BigQuiet
set_option linter.unusedVariables false
set_option linter.unusedSimpArgs false
namespace Go.Proofs.YtmlfelbkgoplhaaGreatDoor
open Go.RowKit
inductive Cf where
 | least
 | near
 | cheap
def Cf.fn : Cf → Nat
 | .least => 53
 | .near => 54
 | .cheap => 55
@[go_sem] theorem call_cf (k : Cf) (args : Array Value) (w : World) : Sem.run Tryz.prog (callFunc k.fn args) w = .ok (.enter k.fn args) w := by
 cases k
 · exact Tryz.call53 args w
 · exact Tryz.call54 args w
 · exact Tryz.call55 args w
def zjf (m : zdn) : Value := .agg #[.int .i64 m.cost, .int .u64 m.vals, .bool m.ok]
theorem zjS (w : World) : (zeroValue 192).run Tryz.prog w = .ok (.agg #[.int .i64 0, .int .u64 0, .bool false]) w := by kernel_rfl
def zeC (w : World) (md V : Nat) (c : Cells) (cost : Int → Bool → Int) : Prop := ∃ mq : List ((Int × Int) × Value), MapOf w md enc2 mq ∧ ∀ h (f : Int) x, assoc mq (h, f) = some x → ∀ k : Nat, f + k = V → x = zjf (zC V c cost k h)
theorem zeC.lt {w : World} {md V : Nat} {c : Cells} {cost : Int → Bool → Int} (h : zeC w md V c cost) : md < w.heap.size := by obtain ⟨mq, h1, _⟩ := h; exact h1.lt
theorem zeC.below {w w' : World} {md V : Nat} {c : Cells} {cost : Int → Bool → Int} (h : zeC w md V c cost) (hb : Below w.heap.size w w') : zeC w' md V c cost := by
 obtain ⟨mq, h1, h2⟩ := h; exact ⟨mq, h1.yS (hb.block _ h1.lt), h2⟩
structure LeI (w : World) (s : Sb) (V : Nat) (st : Sp) (md : Nat) (cost : Int → Bool → Int) : Prop where
 sp : IsSpace w s V st
 mp : zeC w md V st.c cost
 off1 : ¬ s.mem md
 off2 : s.ps ≠ md
section
variable {w w2 : World} {s : Sb} {V : Nat} {st : Sp} {md : Nat} {cost : Int → Bool → Int}
theorem LeI.below (h : LeI w s V st md cost) (hb : Below w.heap.size w w2) : LeI w2 s V st md cost := ⟨h.sp.below hb, h.mp.below hb, h.off1, h.off2⟩
theorem LeI.step (h : LeI w s V st md cost) (ho : Only (· = md) w w2) (hm : zeC w2 md V st.c cost) : LeI w2 s V st md cost :=
 ⟨h.sp.only ho h.off2 (fun k hk e => h.off1 (e ▸ hk)), hm, h.off1, h.off2⟩
theorem LeI.put {mq : List ((Int × Int) × Value)} (hmv : ∀ h (f : Int) x, assoc mq (h, f) = some x → ∀ k : Nat, f + k = V → x = zjf (zC V st.c cost k h)) {h f : Int} {k : Nat} (hf : f + k = V) {x : Value} (hx : x = zjf (zC V st.c cost k h)) {o : Obj} (hm : MapOf (zA w md o) md enc2 (zS mq (h, f) x)) : zeC (zA w md o) md V st.c cost ∧ Only (· = md) w (zA w md o) := by
 refine ⟨⟨_, hm, fun h' f' x' hx' k' hk' => ?_⟩, ⟨rfl, rfl, rfl, by simp [zA], fun k _ hk => yH o hk⟩⟩
 rw [zax] at hx'
 split at hx'
 ·
  rename_i e
  obtain ⟨rfl, rfl⟩ := Prod.mk.inj e
  cases hx'
  obtain rfl : k' = k := by omega
  exact hx
 · exact hmv h' f' x' hx' k' hk'
end
structure LeS (w wr : World) (s : Sb) (V : Nat) (st : Sp) (md : Nat) (cost : Int → Bool → Int) (h f : Int) : Prop where
 i : LeI wr s V st md cost
 only : Only (· = md) w wr
 res : wr.heap[w.heap.size]? = some (.cells #[.int .i64 0, .int .u64 0, .bool false] 192 (0, 0))
 key : wr.heap[w.heap.size + 1]? = some (.cells #[.int .i64 h, .int .i64 f] 255 (0, 0))
 lmd : md < w.heap.size
 lps : s.ps < w.heap.size
 lmem : ∀ k, s.mem k → k < w.heap.size
section
variable {w wr w2 : World} {s : Sb} {V : Nat} {st : Sp} {md : Nat} {cost : Int → Bool → Int} {h f : Int}
theorem LeS.below (l : LeS w wr s V st md cost h f) (hb : Below wr.heap.size wr w2) : LeS w w2 s V st md cost h f :=
 ⟨l.i.below hb, l.only.trans (Only.of_below hb rfl), (hb.block _ (zlb l.res)).trans l.res, (hb.block _ (zlb l.key)).trans l.key, l.lmd, l.lps, l.lmem⟩
theorem LeS.step (l : LeS w wr s V st md cost h f) (ho : Only (· = md) wr w2) (hm : zeC w2 md V st.c cost) : LeS w w2 s V st md cost h f :=
 ⟨l.i.step ho hm, l.only.trans ho, (ho.block _ (zlb l.res) (by have := l.lmd; intro e; omega)).trans l.res, (ho.block _ (zlb l.key) (by have := l.lmd; intro e; omega)).trans l.key, l.lmd, l.lps, l.lmem⟩
end
theorem LeS.far {w wr w2 : World} {s : Sb} {V : Nat} {st : Sp} {md : Nat} {cost : Int → Bool → Int} {h f : Int} {p : Nat} (l : LeS w wr s V st md cost h f) (ho : Only (· = p) wr w2) (hp : w.heap.size + 1 < p) : LeS w w2 s V st md cost h f := by
 obtain ⟨mq, h1, h2⟩ := l.i.mp
 have hk : ∀ k, k < wr.heap.size → k ≠ p → w2.heap[k]? = wr.heap[k]? := fun k h1 h2 => ho.block k h1 h2
 exact ⟨⟨l.i.sp.only ho (by have := l.lps; intro e; omega) (fun k hk e => by have := l.lmem k hk; omega), ⟨mq, h1.yS (hk _ h1.lt (by have := l.lmd; omega)), h2⟩, l.i.off1, l.i.off2⟩,
  ⟨ho.os.trans l.only.os, ho.tape.trans l.only.tape, ho.output.trans l.only.output, Nat.le_trans l.only.size ho.size, fun k h1 h2 => (hk k (Nat.lt_of_lt_of_le h1 l.only.size) (by omega)).trans (l.only.block k h1 h2)⟩,
  (hk _ (zlb l.res) (by omega)).trans l.res, (hk _ (zlb l.key) (by omega)).trans l.key, l.lmd, l.lps, l.lmem⟩
structure LeT (w wr : World) (s : Sb) (V : Nat) (st : Sp) (md : Nat) (cost : Int → Bool → Int) (h f : Int) (pA pB : Nat) (ca va : Int) (oa : Bool) (cb vb : Int) (ob : Bool) : Prop where
 ls : LeS w wr s V st md cost h f
 a : wr.heap[pA]? = some (.cells #[.int .i64 ca, .int .u64 va, .bool oa] 192 (0, 0))
 b : wr.heap[pB]? = some (.cells #[.int .i64 cb, .int .u64 vb, .bool ob] 192 (0, 0))
 la : w.heap.size + 1 < pA
 lb : pA < pB
theorem zaO {W : World} {p j : Nat} (u : Value) : Only (· = p) W (W.setCell ⟨p, j, none⟩ u) := (Only.refl (fun x => x = p) W).setCell (p := ⟨p, j, none⟩) (.inl rfl) u
section
variable {w wr w2 : World} {s : Sb} {V : Nat} {st : Sp} {md : Nat} {cost : Int → Bool → Int} {h f : Int} {pA pB : Nat} {ca va : Int} {oa : Bool} {cb vb : Int} {ob : Bool}
theorem LeT.below (t : LeT w wr s V st md cost h f pA pB ca va oa cb vb ob) (hb : Below wr.heap.size wr w2) : LeT w w2 s V st md cost h f pA pB ca va oa cb vb ob :=
 ⟨t.ls.below hb, (hb.block _ (zlb t.a)).trans t.a, (hb.block _ (zlb t.b)).trans t.b, t.la, t.lb⟩
theorem LeT.a0 (t : LeT w wr s V st md cost h f pA pB ca va oa cb vb ob) (x : Int) : LeT w (wr.setCell ⟨pA, 0, none⟩ (.int .i64 x)) s V st md cost h f pA pB x va oa cb vb ob :=
 ⟨t.ls.far (zaO _) t.la, heap_set t.a 0 _, (zhc _ _ _ _ (by have := t.lb; show pB ≠ pA; omega)).trans t.b, t.la, t.lb⟩
theorem LeT.a1 (t : LeT w wr s V st md cost h f pA pB ca va oa cb vb ob) (x : Int) : LeT w (wr.setCell ⟨pA, 1, none⟩ (.int .u64 x)) s V st md cost h f pA pB ca x oa cb vb ob :=
 ⟨t.ls.far (zaO _) t.la, heap_set t.a 1 _, (zhc _ _ _ _ (by have := t.lb; show pB ≠ pA; omega)).trans t.b, t.la, t.lb⟩
theorem LeT.b0 (t : LeT w wr s V st md cost h f pA pB ca va oa cb vb ob) (x : Int) : LeT w (wr.setCell ⟨pB, 0, none⟩ (.int .i64 x)) s V st md cost h f pA pB ca va oa x vb ob :=
 ⟨t.ls.far (zaO _) (by have := t.la; have := t.lb; omega), (zhc _ _ _ _ (by have := t.lb; show pA ≠ pB; omega)).trans t.a, heap_set t.b 0 _, t.la, t.lb⟩
end
theorem LeS.fin {w wr wZ : World} {s : Sb} {V : Nat} {st : Sp} {md : Nat} {cost : Int → Bool → Int} {h f : Int} (l : LeS w wr s V st md cost h f) (hb : Below w.heap.size wr wZ) : zeC wZ md V st.c cost ∧ Only (· = md) w wZ := by
 obtain ⟨mq, h1, h2⟩ := l.i.mp
 exact ⟨⟨mq, h1.yS (hb.block _ l.lmd), h2⟩, ⟨hb.os.trans l.only.os, hb.tape.trans l.only.tape, hb.output.trans l.only.output, Nat.le_trans l.only.size hb.size, fun k hk hn => (hb.block k hk).trans (l.only.block k hk hn)⟩⟩
set_option maxRecDepth 100000 in
set_option maxHeartbeats 32000000 in
theorem zhB (cf : Cf) (cap : Array Value) (cost : Int → Bool → Int) (hfair : Fair cost) (s : Sb) (V : Nat) (hV : V ≤ 24) (st : Sp) (so : SOk V st) (md : Nat) (w0 : World)
 (hcost : ∀ W, Only (· = md) w0 W → ∀ (f : Nat) (is : Bool), f < V → Calls Tryz.prog cf.fn (#[.int .i64 f, .bool is] ++ cap) W fun e w' => e = .returned (.int .i64 (cost f is)) ∧ W = w') :
 ∀ (k f : Nat) (h : Int) (w : World), f + k = V → LeI w s V st md cost → Only (· = md) w0 w → zy st.c h = true → (f : Int) ≤ zi st.c h →
 Calls Tryz.prog 108 #[.pointer (some ⟨s.ps, 0, none⟩), .int .i64 h, .int .i64 f, .func (.func cf.fn) #[] cap, .map (some md)] w fun e w' => e = .returned (zjf (zC V st.c cost k h)) ∧ zeC w' md V st.c cost ∧ Only (· = md) w w'
 | 0, f, h, w, hf, hi, ho, hh, ht => by
  obtain ⟨wA, hwA⟩ : ∃ wA, wA = w.alloc (.cells #[.int .i64 0, .int .u64 0, .bool false] 192) := ⟨_, rfl⟩
  have hbA : Below w.heap.size w wA := by rw [hwA]; exact zba
  have hkA : wA.heap[w.heap.size]? = some (.cells #[.int .i64 0, .int .u64 0, .bool false] 192 (0, 0)) := by rw [hwA]; exact za rfl
  have HVr := hid (zhV (V : Int) wA s st (hi.sp.below hbA))
  have t0 : ((f : Int) == (V : Int)) = true := by rw [beq_iff_eq]; omega
  have Hi := hid hi; have HbA := hid hbA; have HkA := hid hkA
  clear hi ho hh ht hf hbA hkA
  rw [zbl]
  go_enter Tryz.func108, Tryz.ntmps108
  go_upto_region 1 with fail
  rw [← hwA]
  clear hwA
  go_wp2_with fail
  refine HVr.out.mono ?_
  rintro e w2 ⟨rfl, rfl⟩
  obtain ⟨r0, r1, r2⟩ := kJ HkA.out
  obtain ⟨z0, z1, z2⟩ := zL HkA.out
  have hlr := zlb HkA.out
  go_wp2_with fail
  have hk := zaN HkA.out (.int .i64 0) (.int .u64 0) (.bool (h == 1))
  have hbl := yc (w := wA) (znr w.heap.size) (.int .i64 0) (.int .u64 0) (.bool (h == 1))
  clear r0 r1 r2 z0 z1 z2 hlr
  generalize ((wA.setCell ⟨w.heap.size, 0, none⟩ (.int .i64 0)).setCell ⟨w.heap.size, 1, none⟩ (.int .u64 0)).setCell ⟨w.heap.size, 2, none⟩ (.bool (h == 1)) = wZ at hk hbl ⊢
  obtain ⟨q0, q1, q2⟩ := zL hk
  exact bodyPost_ret (v := .agg #[.int .i64 0, .int .u64 0, .bool (h == 1)]) (by simp [results, Tryz.results108, go_sem, q0, q1, q2]) rfl ⟨rfl, Hi.out.mp.below (HbA.out.trans hbl), Only.of_below (HbA.out.trans hbl) rfl⟩
 | k + 1, f, h, w, hf, hi, ho, hh, ht => by
  have Hih := hid (zhB cf cap cost hfair s V hV st so md w0 hcost k)
  have Hcost := hid hcost; have Hfair := hid hfair; have Hso := hid so
  have hfV : f < V := by omega
  have hf24 : f < 24 := by omega
  obtain ⟨wA, hwA⟩ : ∃ wA, wA = w.alloc (.cells #[.int .i64 0, .int .u64 0, .bool false] 192) := ⟨_, rfl⟩
  have hbA : Below w.heap.size w wA := by rw [hwA]; exact zba
  have hkA : wA.heap[w.heap.size]? = some (.cells #[.int .i64 0, .int .u64 0, .bool false] 192 (0, 0)) := by rw [hwA]; exact za rfl
  have hsA : wA.heap.size = w.heap.size + 1 := by rw [hwA, zq]
  have HVr := hid (zhV (V : Int) wA s st (hi.sp.below hbA))
  have t0 : ((f : Int) == (V : Int)) = false := by rw [beq_eq_false_iff_ne]; omega
  have lh : h ≤ 9223372036854775807 := by have := y9 hh; have := hi.sp.ar.len; have := hi.sp.ar.room.2; omega
  by_cases h0 : h = 0
  ·
   have t1 : (h == 0) = true := by rw [beq_iff_eq]; exact h0
   have Hi := hid hi; have HbA := hid hbA; have HkA := hid hkA
   have hno : zC V st.c cost (k + 1) h = ⟨0, 0, false⟩ := by rw [h0]; exact zgi V st.c cost k
   rw [hno]
   clear hi ho hh ht hf hbA hkA hsA h0 hno hcost so hfair Hih lh
   go_enter Tryz.func108, Tryz.ntmps108
   go_upto_region 1 with fail
   rw [← hwA]
   clear hwA
   go_wp2_with fail
   refine HVr.out.mono ?_
   rintro e w2 ⟨rfl, rfl⟩
   obtain ⟨r0, r1, r2⟩ := kJ HkA.out
   obtain ⟨z0, z1, z2⟩ := zL HkA.out
   have hlr := zlb HkA.out
   go_wp2_with fail
   have hk := zaN HkA.out (.int .i64 0) (.int .u64 0) (.bool false)
   have hbl := yc (w := wA) (znr w.heap.size) (.int .i64 0) (.int .u64 0) (.bool false)
   clear r0 r1 r2 z0 z1 z2 hlr
   generalize ((wA.setCell ⟨w.heap.size, 0, none⟩ (.int .i64 0)).setCell ⟨w.heap.size, 1, none⟩ (.int .u64 0)).setCell ⟨w.heap.size, 2, none⟩ (.bool false) = wZ at hk hbl ⊢
   obtain ⟨q0, q1, q2⟩ := zL hk
   exact bodyPost_ret (v := .agg #[.int .i64 0, .int .u64 0, .bool false]) (by simp [results, Tryz.results108, go_sem, q0, q1, q2]) rfl ⟨rfl, Hi.out.mp.below (HbA.out.trans hbl), Only.of_below (HbA.out.trans hbl) rfl⟩
  ·
   have t1 : (h == 0) = false := by rw [beq_eq_false_iff_ne]; exact h0
   have hstep := zed hf st.c cost h0
   obtain ⟨m, hm⟩ : ∃ m, m = zC V st.c cost (k + 1) h := ⟨_, rfl⟩
   rw [← hm] at hstep ⊢
   have Hm := hid hm
   clear hm
   have hat := jF so.ok hh ht (by omega)
   obtain ⟨wB, hwB⟩ : ∃ wB, wB = wA.alloc (.cells #[.int .i64 h, .int .i64 f] 255) := ⟨_, rfl⟩
   have hbB : Below wA.heap.size wA wB := by rw [hwB]; exact zba
   have hbAB : Below w.heap.size w wB := hbA.trans (hbB.mono hbA.size)
   have hls : LeS w wB s V st md cost h f := ⟨hi.below hbAB, Only.of_below hbAB rfl, (hbB.block _ (zlb hkA)).trans hkA, by rw [hwB]; exact za (by rw [hsA]), hi.mp.lt, hi.sp.lps, fun k hk => hi.sp.lt hk⟩
   obtain ⟨mq, hmq, hmv⟩ := hls.i.mp
   have Hmq := hid hmq; have Hmv := hid hmv; have Hls := hid hls; have Hat := hid hat; have Hstep := hid hstep; have Ho := hid ho; have Hh := hid hh; have Ht := hid ht; have HbAB := hid hbAB; have Hf := hid hf; have HwB := hid hwB; have HsA := hid hsA
   clear hi ho hh ht hf hbA hkA h0 hcost so hfair hmq hmv hls hat hstep hbB hbAB hwB hsA
   go_enter Tryz.func108, Tryz.ntmps108
   go_upto_region 1 with fail
   rw [← hwA]
   clear hwA
   go_wp2_with fail
   refine HVr.out.mono ?_
   rintro e w2 ⟨rfl, rfl⟩
   go_upto_region 6 with fail
   rw [HsA.out, ← HwB.out]
   obtain ⟨u0, u1⟩ := zcY Hls.out.key
   cases ha : assoc mq (h, (f : Int)) with
   | some x =>
    have hx := Hmv.out h f x ha (k + 1) (by have := Hf.out; omega)
    rw [← Hm.out] at hx
    rw [hx] at ha
    obtain ⟨cs, vs, ok⟩ := m
    unfold zjf at ha
    dsimp only at ha
    have Ha := hid ha; clear ha hx
    obtain ⟨wC, hwC⟩ : ∃ wC, wC = wB.alloc (.cells #[.int .i64 cs, .int .u64 vs, .bool ok] 192) := ⟨_, rfl⟩
    have hbC : Below wB.heap.size wB wC := by rw [hwC]; exact zba
    have hkC : wC.heap[wB.heap.size]? = some (.cells #[.int .i64 cs, .int .u64 vs, .bool ok] 192 (0, 0)) := by rw [hwC]; exact za rfl
    have hlC := Hls.out.below hbC
    obtain ⟨z0, z1, z2⟩ := zL hkC
    obtain ⟨y0, y1, y2⟩ := zL hlC.res
    obtain ⟨r0, r1, r2⟩ := kJ hlC.res
    have hlr := zlb hlC.res
    have HlC := hid hlC; have HwC := hid hwC
    clear hbC hkC hlC hwC
    go_upto_region 7 with (at_lookup; refine qD rfl (.tmp 35) (.tmp 36) 194 true rfl (kt := 255) (et := 192) (enc := enc2) key2 Tryz.underlying194 (zjS _) (b := md) rfl (l := mq) Hmq.out (k := (h, (f : Int))) rfl ?_; rw [Ha.out]; simp only [Option.getD_some, Option.isSome_some, if_true])
    rw [← HwC.out]
    go_wp2_with fail
    have hk := zaN HlC.out.res (.int .i64 cs) (.int .u64 vs) (.bool ok)
    have hbl := yc (w := wC) (B := w.heap.size) (znr w.heap.size) (.int .i64 cs) (.int .u64 vs) (.bool ok)
    clear r0 r1 r2 z0 z1 z2 y0 y1 y2 hlr u0 u1
    generalize ((wC.setCell ⟨w.heap.size, 0, none⟩ (.int .i64 cs)).setCell ⟨w.heap.size, 1, none⟩ (.int .u64 vs)).setCell ⟨w.heap.size, 2, none⟩ (.bool ok) = wZ at hk hbl ⊢
    obtain ⟨q0, q1, q2⟩ := zL hk
    exact bodyPost_ret (v := .agg #[.int .i64 cs, .int .u64 vs, .bool ok]) (by simp [results, Tryz.results108, go_sem, q0, q1, q2]) rfl ⟨rfl, HlC.out.fin hbl⟩
   | none =>
    have Ha := hid ha; clear ha
    obtain ⟨wC, hwC⟩ : ∃ wC, wC = wB.alloc (.cells #[.int .i64 0, .int .u64 0, .bool false] 192) := ⟨_, rfl⟩
    have hbC : Below wB.heap.size wB wC := by rw [hwC]; exact zba
    have hlC := Hls.out.below hbC
    have HlC := hid hlC; have HwC := hid hwC
    clear hbC hlC hwC
    go_upto_region 9 with (at_lookup; refine qD rfl (.tmp 35) (.tmp 36) 194 true rfl (kt := 255) (et := 192) (enc := enc2) key2 Tryz.underlying194 (zjS _) (b := md) rfl (l := mq) Hmq.out (k := (h, (f : Int))) rfl ?_; rw [Ha.out]; simp only [Option.getD_none, Option.isSome_none, if_true])
    rw [← HwC.out]
    repeat ((fail_if_success (show Code.wp _ (Code.seq (Code.seq (Code.region 10 _ _) _) _) _ _ _)); first | go_values | go_skip | go_guarded | go_step | go_upon | go_back)
    go_step
    clear u0 u1 Hmq Hmv Ha
    obtain ⟨lo, hlo⟩ : ∃ lo, lo = (atM st.c h f).1 := ⟨_, rfl⟩
    obtain ⟨hi, hhi⟩ : ∃ hi, hi = (atM st.c h f).2 := ⟨_, rfl⟩
    have hat := Hat.out
    have hst := Hstep.out
    have a1 := hat.zb1; have a2 := hat.jJ; have a3 := hat.zfT; have a4 := hat.zfX
    rw [← hlo] at a1 a3 hst
    rw [← hhi] at a2 a4 hst
    have A1 := hid a1; have A2 := hid a2; have A3 := hid a3; have A4 := hid a4; have Hst := hid hst; have Hlo := hid hlo; have Hhi := hid hhi
    clear hat hst a1 a2 a3 a4 hlo hhi Hat Hstep
    go_cut [14, 15, 16, 17] from 44 to 64 (fun x14 x15 x16 x17 wx => x14 = .int .i64 lo ∧ x15 = .int .i64 hi ∧ LeS w wx s V st md cost h f)
    case first =>
     have hg := zbP h wC s.b st.c HlC.out.i.sp.ar lh
     have c0 := HlC.out.i.sp.s0
     have Hg := hid hg; clear hg
     cases g : getM st.c h with
     | none =>
      rw [g] at Hg
      have e1 : lo = h := by rw [Hlo.out]; unfold atM; rw [g]
      have e2 : hi = h := by rw [Hhi.out]; unfold atM; rw [g]
      have E1 := hid e1; have E2 := hid e2; clear e1 e2 g
      go_wp2_with fail
      refine Hg.out.mono ?_
      rintro e w1 ⟨rfl, rfl⟩
      simp only [kN, xO, Option.getD_none, Option.isSome_none]
      go_wp2_with fail
      go_meet
      exact ⟨by rw [E1.out], by rw [E2.out], HlC.out.below ((zba).alloc (by simp) _)⟩
     | some n =>
      obtain ⟨u, l1, h1⟩ := n
      rw [g] at Hg
      by_cases hu : u = f
      ·
       have tu : (u == (f : Int)) = true := by rw [beq_iff_eq]; exact hu
       have e1 : lo = l1 := by rw [Hlo.out]; unfold atM; rw [g]; simp only [if_pos hu]
       have e2 : hi = h1 := by rw [Hhi.out]; unfold atM; rw [g]; simp only [if_pos hu]
       have E1 := hid e1; have E2 := hid e2; clear e1 e2 g hu
       go_wp2_with fail
       refine Hg.out.mono ?_
       rintro e w1 ⟨rfl, rfl⟩
       simp only [kN, xO, Option.getD_some, Option.isSome_some]
       obtain ⟨wD, hwD⟩ : ∃ wD, wD = (wC.alloc (.cells #[.int .i64 u, .int .i64 l1, .int .i64 h1] 117)).alloc (.cells #[.int .i64 u, .int .i64 l1, .int .i64 h1] 117) := ⟨_, rfl⟩
       have hbD : Below wC.heap.size wC wD := by rw [hwD]; exact (zba).alloc (by simp) _
       have hnD : zeW wD (wC.heap.size + 1) u l1 h1 := ⟨by rw [hwD]; exact za (by simp)⟩
       obtain ⟨d0, d1, d2⟩ := hnD.cells
       have HwD := hid hwD; have HbD := hid hbD
       clear hwD hbD hnD
       go_upto_region 11 with fail
       rw [← HwD.out]
       go_wp2_with fail
       go_quiet (fail)
       go_wp2_with fail
       go_meet
       exact ⟨by rw [E1.out], by rw [E2.out], HlC.out.below (below_drewN HbD.out _)⟩
      ·
       have tu : (u == (f : Int)) = false := by rw [beq_eq_false_iff_ne]; exact hu
       have e1 : lo = h := by rw [Hlo.out]; unfold atM; rw [g]; simp only [if_neg hu]
       have e2 : hi = h := by rw [Hhi.out]; unfold atM; rw [g]; simp only [if_neg hu]
       have E1 := hid e1; have E2 := hid e2; clear e1 e2 g hu
       go_wp2_with fail
       refine Hg.out.mono ?_
       rintro e w1 ⟨rfl, rfl⟩
       simp only [kN, xO, Option.getD_some, Option.isSome_some]
       obtain ⟨wD, hwD⟩ : ∃ wD, wD = (wC.alloc (.cells #[.int .i64 u, .int .i64 l1, .int .i64 h1] 117)).alloc (.cells #[.int .i64 u, .int .i64 l1, .int .i64 h1] 117) := ⟨_, rfl⟩
       have hbD : Below wC.heap.size wC wD := by rw [hwD]; exact (zba).alloc (by simp) _
       have hnD : zeW wD (wC.heap.size + 1) u l1 h1 := ⟨by rw [hwD]; exact za (by simp)⟩
       obtain ⟨d0, d1, d2⟩ := hnD.cells
       have HwD := hid hwD; have HbD := hid hbD
       clear hwD hbD hnD
       go_upto_region 11 with fail
       rw [← HwD.out]
       go_wp2_with fail
       go_meet
       exact ⟨by rw [E1.out], by rw [E2.out], HlC.out.below HbD.out⟩
    case rest =>
     obtain ⟨rfl, rfl, hl2⟩ := hcut
     have hc1 := Hih.out (f + 1) hi wc (by have := Hf.out; omega) hl2.i (Ho.out.trans hl2.only) A2.out (by have := A4.out; omega)
     have hc2 := fun (W : World) (hW : LeI W s V st md cost) (ho : Only (· = md) w0 W) => Hih.out (f + 1) lo W (by have := Hf.out; omega) hW ho A1.out (by have := A3.out; omega)
     have ecast : ((f + 1 : Nat) : Int) = (f : Int) + 1 := by omega
     rw [ecast] at hc1 hc2
     have hba := qy hV (c := st.c) Hfair.out k hi (by have := Hf.out; omega)
     have hbb := qy hV (c := st.c) Hfair.out k lo (by have := Hf.out; omega)
     have hst := Hst.out
     generalize zC V st.c cost k hi = am at hc1 hba hst
     generalize zC V st.c cost k lo = bm at hc2 hbb hst
     obtain ⟨ca, va, oa⟩ := am
     obtain ⟨cb, vb, ob⟩ := bm
     unfold zjf at hc1 hc2
     dsimp only at hc1 hc2 hba hbb
     have HC1 := hid hc1; have HC2 := hid hc2; have Hl2 := hid hl2; have Hba := hid hba; have Hbb := hid hbb; have Hst2 := hid hst
     clear hc1 hc2 hl2 hba hbb hst ecast Hst Hih Hlo Hhi
     go_wp2_with fail
     refine HC1.out.mono ?_
     rintro e w5 ⟨rfl, hm5, ho5⟩
     have hl5 := Hl2.out.step ho5 hm5
     have HC2 := hid (HC2.out w5 hl5.i (Ho.out.trans hl5.only))
     have Hl5 := hid hl5
     clear hm5 ho5 hl5 HC1
     go_wp2_with fail
     refine HC2.out.mono ?_
     rintro e w6 ⟨rfl, hm6, ho6⟩
     have hl6 := Hl5.out.step ho6 hm6
     have Hl6 := hid hl6
     clear hm6 ho6 hl6
     go_upto_region 14 with fail
     obtain ⟨pA, hpA⟩ : ∃ pA, pA = w6.heap.size := ⟨_, rfl⟩
     have hT0 : LeT w ((w6.alloc (.cells #[.int .i64 ca, .int .u64 va, .bool oa] 192)).alloc (.cells #[.int .i64 cb, .int .u64 vb, .bool ob] 192)) s V st md cost h f pA (pA + 1) ca va oa cb vb ob :=
      ⟨Hl6.out.below ((zba).alloc (by simp) _), zh (za hpA), za (by rw [zq, hpA]), by rw [hpA]; have := zlb Hl6.out.key; omega, by omega⟩
     rw [← hpA]
     clear hpA
     generalize (w6.alloc (.cells #[.int .i64 ca, .int .u64 va, .bool oa] 192)).alloc (.cells #[.int .i64 cb, .int .u64 vb, .bool ob] 192) = w7 at hT0 ⊢
     have HT7 := hid (hT0.below (w2 := w7.drew) ((Below.refl _ _).drew))
     clear hT0
     have hmx : Tryz.prog.follows .mixedOrders = true := by kernel_rfl
     have Hwr := hid (show IntKind.i64.wrap (ca + cost f true) = ca + cost f true from IntWalk.i64_in _ (by have := Hba.out; have := Hfair.out.lo f true; have := Hfair.out.hi f true; have := Hf.out; omega))
     have Hwf := hid (show IntKind.i64.wrap (cb + cost f false) = cb + cost f false from IntWalk.i64_in _ (by have := Hbb.out; have := Hfair.out.lo f false; have := Hfair.out.hi f false; have := Hf.out; omega))
     have Hor := hid (orW (x := va) (M := f) (Nat.lt_of_lt_of_le Hba.out.2.2 (Nat.pow_le_pow_right (n := 2) (by decide) hV)) hf24)
     refine wp_region_noPanic ?_
     refine zah (fun w' => w'.cell? ⟨pA, 0, none⟩ = some (.int .i64 (ca))) (fun i => i == 7) hmx (zL HT7.out.a).1 (fun hS => ?_)
     refine zTk 0 (.pointer (some ⟨pA, 0, none⟩)) rfl (by kernel_rfl) (fun _ _ _ h => h) (Or.inl ⟨by rfl, fun w99 hS9 => by (have x1 := hS9; go_simp)⟩) hS ?_
     try simp only [Act.put, List.getElem_toArray, List.getElem_cons_zero, List.setIfInBounds_toArray, List.set_cons_zero, List.set_cons_succ]
     refine zTk 1 (.int .i64 (ca)) rfl (by kernel_rfl) (fun _ _ _ h => h) (Or.inl ⟨by rfl, fun w99 hS9 => by (have x1 := hS9; go_simp)⟩) hS ?_
     try simp only [Act.put, zs1, zs2, zs3, zs4, zs5, zs6]
     refine zTk 2 (.func (.func cf.fn) #[] cap) rfl (by kernel_rfl) (fun _ _ _ h => h) (Or.inl ⟨by rfl, fun w99 hS9 => by (have x1 := hS9; go_simp)⟩) hS ?_
     try simp only [Act.put, zs1, zs2, zs3, zs4, zs5, zs6]
     refine zTk 3 (.int .i64 f) rfl (by kernel_rfl) (fun _ _ _ h => h) (Or.inl ⟨by rfl, fun w99 hS9 => by (have x1 := hS9; go_simp)⟩) hS ?_
     try simp only [Act.put, zs1, zs2, zs3, zs4, zs5, zs6]
     refine zl (rs := [4]) (by kernel_rfl) (by simp) ?_
     refine ze.cons rfl (fun K hK => ?_) ze.nil
     have HCo := hid (Hcost.out _ (Ho.out.trans HT7.out.ls.only) f true hfV)
     go_simp
     refine HCo.out.mono ?_
     rintro e w' ⟨rfl, rfl⟩
     refine hK.out _ _ (.inr hS) ?_
     clear hK K HCo
     try simp only [Act.put, zs1, zs2, zs3, zs4, zs5, zs6]
     refine zTk 5 (.int .i64 (ca + cost f true)) rfl (by kernel_rfl) (fun _ _ _ h => h) (Or.inl ⟨by rfl, fun w99 hS9 => by (have x1 := hS9; have hw9 := Hwr.out; go_simp)⟩) hS ?_
     try simp only [Act.put, zs1, zs2, zs3, zs4, zs5, zs6]
     refine zTk 6 (.pointer (some ⟨pA, 0, none⟩)) rfl (by kernel_rfl) (fun _ _ _ h => h) (Or.inl ⟨by rfl, fun w99 hS9 => by (have x1 := hS9; go_simp)⟩) hS ?_
     try simp only [Act.put, zs1, zs2, zs3, zs4, zs5, zs6]
     refine zl (rs := [7]) (by kernel_rfl) (by simp) ?_
     refine ze.cons rfl (fun K hK => ?_) ze.nil
     have f9 : w7.drew.frozen? ⟨pA, 0, none⟩ = false := (kJ HT7.out.a).1
     have l9 := zlb HT7.out.a
     have z9 : w7.drew.cell? ⟨pA, 0, none⟩ = some (.int .i64 (ca)) := (zL HT7.out.a).1
     go_simp
     refine hK.out _ _ (.inl rfl) ?_
     clear hK K f9 l9 z9 hS
     try simp only [Act.put, zs1, zs2, zs3, zs4, zs5, zs6]
     refine yK (by kernel_rfl) (NoPanic.normal ?_) _
     have hT8 : LeT w (w7.setCell ⟨pA, 0, none⟩ (.int .i64 (ca + cost f true))).drew s V st md cost h f pA (pA + 1) (ca + cost f true) va oa cb vb ob := HT7.out.a0 _
     generalize (w7.setCell ⟨pA, 0, none⟩ (.int .i64 (ca + cost f true))).drew = w8 at hT8 ⊢
     clear HT7
     have HT8 := hid (hT8.below (w2 := w8.drew) ((Below.refl _ _).drew))
     clear hT8
     go_upto_region 15 with fail
     refine wp_region_noPanic ?_
     refine zah (fun w' => w'.cell? ⟨pA, 1, none⟩ = some (.int .u64 ((va : Int)))) (fun i => i == 6) hmx (zL HT8.out.a).2.1 (fun hS => ?_)
     refine zTk 0 (.pointer (some ⟨pA, 1, none⟩)) rfl (by kernel_rfl) (fun _ _ _ h => h) (Or.inl ⟨by rfl, fun w99 hS9 => by (have x1 := hS9; go_simp)⟩) hS ?_
     try simp only [Act.put, List.getElem_toArray, List.getElem_cons_zero, List.setIfInBounds_toArray, List.set_cons_zero, List.set_cons_succ]
     refine zTk 1 (.int .u64 ((va : Int))) rfl (by kernel_rfl) (fun _ _ _ h => h) (Or.inl ⟨by rfl, fun w99 hS9 => by (have x1 := hS9; go_simp)⟩) hS ?_
     try simp only [Act.put, zs1, zs2, zs3, zs4, zs5, zs6]
     refine zTk 2 (.int .i64 f) rfl (by kernel_rfl) (fun _ _ _ h => h) (Or.inl ⟨by rfl, fun w99 hS9 => by (have x1 := hS9; go_simp)⟩) hS ?_
     try simp only [Act.put, zs1, zs2, zs3, zs4, zs5, zs6]
     refine zTk 3 (.int .u64 (IntKind.u64.wrap ((2 : Int) ^ f))) rfl (by kernel_rfl) (fun _ _ _ h => h) (Or.inl ⟨by rfl, fun w99 hS9 => by (have x1 := hS9; go_simp)⟩) hS ?_
     try simp only [Act.put, zs1, zs2, zs3, zs4, zs5, zs6]
     refine zTk 4 (.int .u64 (((va ||| 2 ^ f : Nat) : Int))) rfl (by kernel_rfl) (fun _ _ _ h => h) (Or.inl ⟨by rfl, fun w99 hS9 => by (have x1 := hS9; have hw9 := Hor.out; go_simp)⟩) hS ?_
     try simp only [Act.put, zs1, zs2, zs3, zs4, zs5, zs6]
     refine zTk 5 (.pointer (some ⟨pA, 1, none⟩)) rfl (by kernel_rfl) (fun _ _ _ h => h) (Or.inl ⟨by rfl, fun w99 hS9 => by (have x1 := hS9; go_simp)⟩) hS ?_
     try simp only [Act.put, zs1, zs2, zs3, zs4, zs5, zs6]
     refine zl (rs := [6]) (by kernel_rfl) (by simp) ?_
     refine ze.cons rfl (fun K hK => ?_) ze.nil
     have f9 : w8.drew.frozen? ⟨pA, 1, none⟩ = false := (kJ HT8.out.a).2.1
     have l9 := zlb HT8.out.a
     have z9 : w8.drew.cell? ⟨pA, 1, none⟩ = some (.int .u64 ((va : Int))) := (zL HT8.out.a).2.1
     go_simp
     refine hK.out _ _ (.inl rfl) ?_
     clear hK K f9 l9 z9 hS
     try simp only [Act.put, zs1, zs2, zs3, zs4, zs5, zs6]
     refine yK (by kernel_rfl) (NoPanic.normal ?_) _
     have hT9 : LeT w (w8.setCell ⟨pA, 1, none⟩ (.int .u64 (((va ||| 2 ^ f : Nat) : Int)))).drew s V st md cost h f pA (pA + 1) (ca + cost f true) ((va ||| 2 ^ f : Nat) : Int) oa cb vb ob := HT8.out.a1 _
     generalize (w8.setCell ⟨pA, 1, none⟩ (.int .u64 (((va ||| 2 ^ f : Nat) : Int)))).drew = w9 at hT9 ⊢
     clear HT8
     have HT9 := hid (hT9.below (w2 := w9.drew) ((Below.refl _ _).drew))
     clear hT9
     go_upto_region 16 with fail
     refine wp_region_noPanic ?_
     refine zah (fun w' => w'.cell? ⟨pA + 1, 0, none⟩ = some (.int .i64 (cb))) (fun i => i == 7) hmx (zL HT9.out.b).1 (fun hS => ?_)
     refine zTk 0 (.pointer (some ⟨pA + 1, 0, none⟩)) rfl (by kernel_rfl) (fun _ _ _ h => h) (Or.inl ⟨by rfl, fun w99 hS9 => by (have x1 := hS9; go_simp)⟩) hS ?_
     try simp only [Act.put, List.getElem_toArray, List.getElem_cons_zero, List.setIfInBounds_toArray, List.set_cons_zero, List.set_cons_succ]
     refine zTk 1 (.int .i64 (cb)) rfl (by kernel_rfl) (fun _ _ _ h => h) (Or.inl ⟨by rfl, fun w99 hS9 => by (have x1 := hS9; go_simp)⟩) hS ?_
     try simp only [Act.put, zs1, zs2, zs3, zs4, zs5, zs6]
     refine zTk 2 (.func (.func cf.fn) #[] cap) rfl (by kernel_rfl) (fun _ _ _ h => h) (Or.inl ⟨by rfl, fun w99 hS9 => by (have x1 := hS9; go_simp)⟩) hS ?_
     try simp only [Act.put, zs1, zs2, zs3, zs4, zs5, zs6]
     refine zTk 3 (.int .i64 f) rfl (by kernel_rfl) (fun _ _ _ h => h) (Or.inl ⟨by rfl, fun w99 hS9 => by (have x1 := hS9; go_simp)⟩) hS ?_
     try simp only [Act.put, zs1, zs2, zs3, zs4, zs5, zs6]
     refine zl (rs := [4]) (by kernel_rfl) (by simp) ?_
     refine ze.cons rfl (fun K hK => ?_) ze.nil
     have HCo := hid (Hcost.out _ (Ho.out.trans HT9.out.ls.only) f false hfV)
     go_simp
     refine HCo.out.mono ?_
     rintro e w' ⟨rfl, rfl⟩
     refine hK.out _ _ (.inr hS) ?_
     clear hK K HCo
     try simp only [Act.put, zs1, zs2, zs3, zs4, zs5, zs6]
     refine zTk 5 (.int .i64 (cb + cost f false)) rfl (by kernel_rfl) (fun _ _ _ h => h) (Or.inl ⟨by rfl, fun w99 hS9 => by (have x1 := hS9; have hw9 := Hwf.out; go_simp)⟩) hS ?_
     try simp only [Act.put, zs1, zs2, zs3, zs4, zs5, zs6]
     refine zTk 6 (.pointer (some ⟨pA + 1, 0, none⟩)) rfl (by kernel_rfl) (fun _ _ _ h => h) (Or.inl ⟨by rfl, fun w99 hS9 => by (have x1 := hS9; go_simp)⟩) hS ?_
     try simp only [Act.put, zs1, zs2, zs3, zs4, zs5, zs6]
     refine zl (rs := [7]) (by kernel_rfl) (by simp) ?_
     refine ze.cons rfl (fun K hK => ?_) ze.nil
     have f9 : w9.drew.frozen? ⟨pA + 1, 0, none⟩ = false := (kJ HT9.out.b).1
     have l9 := zlb HT9.out.b
     have z9 : w9.drew.cell? ⟨pA + 1, 0, none⟩ = some (.int .i64 (cb)) := (zL HT9.out.b).1
     go_simp
     refine hK.out _ _ (.inl rfl) ?_
     clear hK K f9 l9 z9 hS
     try simp only [Act.put, zs1, zs2, zs3, zs4, zs5, zs6]
     refine yK (by kernel_rfl) (NoPanic.normal ?_) _
     have hT10 : LeT w (w9.setCell ⟨pA + 1, 0, none⟩ (.int .i64 (cb + cost f false))).drew s V st md cost h f pA (pA + 1) (ca + cost f true) ((va ||| 2 ^ f : Nat) : Int) oa (cb + cost f false) vb ob := HT9.out.b0 _
     generalize (w9.setCell ⟨pA + 1, 0, none⟩ (.int .i64 (cb + cost f false))).drew = w10 at hT10 ⊢
     clear HT9
     have HT10 := hid (hT10)
     clear hT10
     go_upto_region 17 with fail
     obtain ⟨wE, hwE⟩ : ∃ wE, wE = w10.alloc (.cells #[.int .i64 (ca + cost f true), .int .u64 ((va ||| 2 ^ f : Nat) : Int), .bool oa] 192) := ⟨_, rfl⟩
     have hbE : Below w10.heap.size w10 wE := by rw [hwE]; exact zba
     have hkE : wE.heap[w10.heap.size]? = some (.cells #[.int .i64 (ca + cost f true), .int .u64 ((va ||| 2 ^ f : Nat) : Int), .bool oa] 192 (0, 0)) := by rw [hwE]; exact za rfl
     have hlE : w.heap.size + 1 < w10.heap.size := by have := HT10.out.la; have := zlb HT10.out.a; omega
     obtain ⟨z0, z1, z2⟩ := zL HT10.out.a
     have HTE := hid (HT10.out.below hbE); have HkE := hid hkE; have HwE := hid hwE; have HlE := hid hlE
     have hnE : pA + 1 < w10.heap.size := zlb HT10.out.b
     have HnE := hid hnE
     clear hbE hkE hwE hlE hnE HT10
     repeat ((fail_if_success (show Code.wp _ (Code.seq (Code.seq (Code.region 18 _ _) _) _) _ _ _)); first | go_values | go_skip | go_guarded | go_step | go_upon | go_back)
     rw [← HwE.out]
     obtain ⟨pE, hpE⟩ : ∃ pE, pE = w10.heap.size := ⟨_, rfl⟩
     rw [← hpE] at HkE HlE HnE ⊢
     clear HwE hpE z0 z1 z2
     go_step
     go_cut [] from 99 to 114 (fun wx => LeS w wx s V st md cost h f ∧ wx.heap[pE]? = some (.cells #[.int .i64 m.cost, .int .u64 m.vals, .bool m.ok] 192 (0, 0)))
     case first =>
      obtain ⟨z0, z1, z2⟩ := zL HTE.out.a
      obtain ⟨y0, y1, y2⟩ := zL HTE.out.b
      obtain ⟨x0, x1, x2⟩ := zL HkE.out
      obtain ⟨r0, r1, r2⟩ := kJ HkE.out
      have hlr := zlb HkE.out
      have hst := Hst2.out
      have hfar := ((HTE.out.ls.far (zaO (W := wE) (p := pE) (j := 0) (.int .i64 (cb + cost f false))) HlE.out).far (zaO (p := pE) (j := 1) (.int .u64 vb)) HlE.out).far (zaO (p := pE) (j := 2) (.bool ob)) HlE.out
      have hset := zaN HkE.out (.int .i64 (cb + cost f false)) (.int .u64 vb) (.bool ob)
      have Hfar := hid hfar; have Hset := hid hset
      clear hfar hset
      cases oa with
      | false =>
       have hm2 : m = ⟨cb + cost f false, vb, ob⟩ := by rw [hst]; rfl
       clear hst
       have Hm2 := hid hm2; clear hm2
       go_wp2_with fail
       go_meet
       rw [Hm2.out]
       exact ⟨Hfar.out, Hset.out⟩
      | true =>
       cases ob with
       | false =>
        have hm2 : m = ⟨ca + cost f true, va ||| 2 ^ f, true⟩ := by rw [hst]; rfl
        clear hst
        have Hm2 := hid hm2; clear hm2
        go_wp2_with fail
        go_meet
        rw [Hm2.out]
        exact ⟨HTE.out.ls, HkE.out⟩
       | true =>
        by_cases hlt : cb + cost f false < ca + cost f true
        ·
         have hm2 : m = ⟨cb + cost f false, vb, true⟩ := by rw [hst]; unfold zew; rw [if_pos]; simp [hlt]
         have tl : decide (cb + cost f false < ca + cost f true) = true := decide_eq_true hlt
         clear hst hlt
         have Hm2 := hid hm2; clear hm2
         go_wp2_with fail
         go_meet
         rw [Hm2.out]
         exact ⟨Hfar.out, Hset.out⟩
        ·
         have hm2 : m = ⟨ca + cost f true, va ||| 2 ^ f, true⟩ := by rw [hst]; unfold zew; rw [if_neg]; simp [hlt]
         have tl : decide (cb + cost f false < ca + cost f true) = false := decide_eq_false hlt
         clear hst hlt
         have Hm2 := hid hm2; clear hm2
         go_wp2_with fail
         go_meet
         rw [Hm2.out]
         exact ⟨HTE.out.ls, HkE.out⟩
     case rest =>
      obtain ⟨hl3, hk3⟩ := hcut
      obtain ⟨mq2, hmq2, hmv2⟩ := hl3.i.mp
      have Hmq2 := hid hmq2; have Hmv2 := hid hmv2; have Hl3 := hid hl3; have Hk3 := hid hk3
      obtain ⟨u0, u1⟩ := zcY hl3.key
      obtain ⟨x0, x1, x2⟩ := zL hk3
      clear hmq2 hmv2 hl3 hk3 HkE HTE
      go_upto_region 21 with (at_mapUpdate; refine qH rfl (.tmp 114) (.tmp 115) (.tmp 116) 194 rfl (kt := 255) (et := 192) (enc := enc2) key2 Tryz.underlying194 (b := md) rfl (l := mq2) Hmq2.out (k := (h, (f : Int))) rfl (zjf m) rfl ?_; intro ob2 hob; have hput := LeI.put (k := k + 1) Hmv2.out (by have := Hf.out; omega) (by rw [← Hm.out]) hob; have Hput := hid hput; clear hob hput; generalize zA _ md ob2 = w11 at Hput ⊢)
      have hl4 := Hl3.out.step Hput.out.2 Hput.out.1
      have hk4 := (Hput.out.2.block pE (zlb Hk3.out) (by have := Hl3.out.lmd; have := HlE.out; intro e; omega)).trans Hk3.out
      have Hl4 := hid hl4
      obtain ⟨x0, x1, x2⟩ := zL hk4
      obtain ⟨y0, y1, y2⟩ := zL hl4.res
      obtain ⟨r0, r1, r2⟩ := kJ hl4.res
      have hlr := zlb hl4.res
      clear hl4 hk4 Hput Hl3 Hk3
      go_wp2_with fail
      have hk := zaN Hl4.out.res (.int .i64 m.cost) (.int .u64 m.vals) (.bool m.ok)
      have hbl := yc (w := w11) (B := w.heap.size) (znr w.heap.size) (.int .i64 m.cost) (.int .u64 m.vals) (.bool m.ok)
      clear r0 r1 r2 x0 x1 x2 y0 y1 y2 hlr
      generalize ((w11.setCell ⟨w.heap.size, 0, none⟩ (.int .i64 m.cost)).setCell ⟨w.heap.size, 1, none⟩ (.int .u64 m.vals)).setCell ⟨w.heap.size, 2, none⟩ (.bool m.ok) = wZ at hk hbl ⊢
      obtain ⟨q0, q1, q2⟩ := zL hk
      exact bodyPost_ret (v := .agg #[.int .i64 m.cost, .int .u64 m.vals, .bool m.ok]) (by simp [results, Tryz.results108, go_sem, q0, q1, q2]) rfl ⟨rfl, Hl4.out.fin hbl⟩
