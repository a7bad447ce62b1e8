/- mix is right where again is; walk; the private functions or, less, free. (Printed by gen_famx.py.) -/
import Derived.Test.YtmlnfbageoabnaaFamA
namespace Go.Proofs.Ytmlnfbageoabnaa
open Go.RowKit
set_option linter.unusedVariables false

section
variable {V L : Int} {k : Kd} {c c1 c2 : Cells} {v a0 a1 b0 b1 x1 x2 : Int}
theorem hgt_kid {c : Cells} {p r v : Int} {f : Nat} (h1 : v < topM c p) (h2 : v < topM c r) (hv : v < 24) (hf : (24 - v).toNat < f + 1) : (24 - min (topM c p) (topM c r)).toNat < f := by omega
theorem cost_two {c : Cells} {p r v : Int} (k : Kd) (L : Int) (h1 : v < topM c p) (h2 : v < topM c r) : k.cost (L - min (topM c p) (topM c r)).toNat ≤ k.cost (L - (v + 1)).toNat := cost_kid k L v (by omega)
/-- What a step leaves at a lower thing. -/
theorem WOk.low {a b x : Int} (h : WOk V L k c c1 a b x) (ha : v < topM c a) (hb : v < topM c b) : v < topM c1 x ∧ lows L c1 ≤ lows L c + k.cost (L - (v + 1)).toNat := by
  have h1 := h.top
  have h2 := h.cnt
  have h3 := cost_two k L ha hb
  exact ⟨by omega, by omega⟩
theorem WOk.zz {a b x : Int} (h : WOk V L k c c1 a b x) (s : St) : Z c1 x s ↔ k.sem (Z c a) (Z c b) s := h.z s
theorem WOk.old {a b x y : Int} (h : WOk V L k c c1 a b x) (o : ZOk V c) (hy : hasM c y = true) (s : St) : Z c1 y s ↔ Z c y s := Z_ext o.ok h.zok.ok h.ext y hy s
theorem zok_node {r : Cells × Int × Nat} (o : ZOk V c) (hv : v < V) (n : NodeZ L c v x1 x2 r) : ZOk V r.1 := ⟨n.ok, n.red, fun j m hm => by
  rcases n.old j m hm with h | rfl
  · exact o.vlt j m h
  · exact hv⟩

/-- Two steps and a node: or, and, less. -/
theorem mok_two {r : Cells × Int × Nat} (hk : ∀ v A0 A1 B0 B1, k.mix v A0 A1 B0 B1 = mixF v (k.sem A0 B0) (k.sem A1 B1)) (hc : k.cost = costO) (o : ZOk V c) (hvV : v < V) (ha0 : hasM c a0 = true) (ha1 : hasM c a1 = true) (hb0 : hasM c b0 = true) (hb1 : hasM c b1 = true)
    (t0 : v < topM c a0) (t1 : v < topM c a1) (t2 : v < topM c b0) (t3 : v < topM c b1) (W1 : WOk V L k c c1 a0 b0 x1) (W2 : WOk V L k c1 c2 a1 b1 x2) (n : NodeZ L c2 v x1 x2 r) : MOk V L k c r.1 v a0 a1 b0 b1 r.2.1 := by
  have l1 := (W1.low t0 t2).2
  have l2 := (W2.low (v := v) (by rw [W1.ext.top ha1]; exact t1) (by rw [W1.ext.top hb1]; exact t3)).2
  have l3 := n.cnt
  have cs := costO_step L v
  rw [hc] at l1 l2
  refine ⟨zok_node W2.zok hvV n, (W1.ext.trans W2.ext).trans n.ext, n.has, fun s => (n.z s).trans ?_, n.top, by rw [hc]; omega⟩
  rw [hk]
  refine mixF_congr (fun s => ?_) (fun s => ?_) s
  · rw [W2.old W1.zok W1.has]; exact W1.z s
  · rw [W2.z]; exact k.sem_congr (fun s => W1.old o ha1 s) (fun s => W1.old o hb1 s) s
/-- Three steps and a node: free. -/
theorem mok_free {c3 : Cells} {x3 : Int} {r : Cells × Int × Nat} (o : ZOk V c) (hvV : v < V) (ha0 : hasM c a0 = true) (ha1 : hasM c a1 = true) (hb0 : hasM c b0 = true) (hb1 : hasM c b1 = true)
    (t0 : v < topM c a0) (t1 : v < topM c a1) (t2 : v < topM c b0) (t3 : v < topM c b1) (W1 : WOk V L .free c c1 a0 b0 x1) (W2 : WOk V L .free c1 c2 a1 b0 x2) (W3 : WOk V L .free c2 c3 x2 b1 x3) (n : NodeZ L c3 v x1 x3 r) : MOk V L .free c r.1 v a0 a1 b0 b1 r.2.1 := by
  have l1 := (W1.low t0 t2).2
  have q2 := W2.low (v := v) (by rw [W1.ext.top ha1]; exact t1) (by rw [W1.ext.top hb0]; exact t2)
  have l2 := q2.2
  have l3 := (W3.low (v := v) q2.1 (by rw [W2.ext.top (W1.ext.has hb1), W1.ext.top hb1]; exact t3)).2
  have l4 := n.cnt
  have cs := costF_step L v
  have hc : Kd.free.cost = costF := rfl
  rw [hc] at l1 l2 l3
  refine ⟨zok_node W3.zok hvV n, ((W1.ext.trans W2.ext).trans W3.ext).trans n.ext, n.has, fun s => (n.z s).trans ?_, n.top, by rw [hc]; omega⟩
  refine mixF_congr (fun s => ?_) (fun s => ?_) s
  · rw [W3.old W2.zok (W2.ext.has W1.has), W2.old W1.zok W1.has]; exact W1.z s
  · rw [W3.z]
    refine Kd.free.sem_congr (fun s => ?_) (fun s => ?_) s
    · rw [W2.z]; exact Kd.free.sem_congr (fun s => W1.old o ha1 s) (fun s => W1.old o hb0 s) s
    · rw [W2.old W1.zok (W1.ext.has hb1)]; exact W1.old o hb1 s
end

set_option maxRecDepth 100000 in
set_option maxHeartbeats 4000000 in
theorem mixok_or {V L : Int} (hV : V ≤ 24) (hL : V ≤ L + 3) {s : Fb} {md : Nat} {q : Cb} {f : Nat} (hag : AgainOk V L .or s md q f) : MixOk V L .or s md q f := by
  intro v a0 a1 b0 b1 w c hs hm he zo h1 h2 h3 h4 t1 t2 t3 t4 v0 vV hf hr
  have cs := costO_step L v
  have hc : Kd.or.cost = costO := rfl
  have Hag := Lib.hid hag; have Hcs := Lib.hid cs; have Hc := Lib.hid hc; have Hs := Lib.hid hs; have Hm := Lib.hid hm; have He := Lib.hid he; have Hz := Lib.hid zo; have H1 := Lib.hid h1; have H2 := Lib.hid h2; have H3 := Lib.hid h3; have H4 := Lib.hid h4
  have T1 := Lib.hid t1; have T2 := Lib.hid t2; have T3 := Lib.hid t3; have T4 := Lib.hid t4; have Hv0 := Lib.hid v0; have HvV := Lib.hid vV; have Hf := Lib.hid hf; have Hr := Lib.hid hr
  have hq := hag a0 b0 w c hs hm he zo h1 h3 (hgt_kid t1 t3 (by omega) hf) (by have := cost_two Kd.or L t1 t3; rw [hc] at this hr; rw [hc]; omega)
  unfold argsW at hq
  have Hq := Lib.hid hq
  clear hag cs hc hs hm he zo h1 h2 h3 h4 t1 t2 t3 t4 v0 vV hf hr hq
  unfold argsM againV
  show Calls Try.prog 108 _ _ _
  go_enter Try.func108, Try.ntmps108
  go_wp2_with fail
  refine Hq.out.mono ?_
  rintro e w1 ⟨c1, x1, rfl, hs1, hm1, ho1, W1⟩
  have l1 := W1.low T1.out T3.out
  have he1 := He.out.only ho1
  have t2' : v < topM c1 a1 := by rw [W1.ext.top H2.out]; exact T2.out
  have t4' : v < topM c1 b1 := by rw [W1.ext.top H4.out]; exact T4.out
  have hq := Hag.out a1 b1 w1 c1 hs1 hm1 he1 W1.zok (W1.ext.has H2.out) (W1.ext.has H4.out) (hgt_kid t2' t4' (by have := HvV.out; omega) Hf.out) (by
    have h5 := cost_two Kd.or L t2' t4'; have h6 := Hr.out; have h7 := Hcs.out; have h8 := W1.ext.len; have h9 := l1.2; have h10 := Hc.out
    rw [h10] at h5 h6 h9; rw [h10]; omega)
  unfold argsW at hq
  have Hq2 := Lib.hid hq; have HW1 := Lib.hid W1; have Ho1 := Lib.hid ho1; have L1 := Lib.hid l1; have He1 := Lib.hid he1
  clear hq W1 ho1 l1 he1 t2' t4' hs1 hm1 Hq Hs Hm
  go_wp2_with fail
  refine Hq2.out.mono ?_
  rintro e w2 ⟨c2, x2, rfl, hs2, hm2, ho2, W2⟩
  have l2 := W2.low (v := v) (by rw [HW1.out.ext.top H2.out]; exact T2.out) (by rw [HW1.out.ext.top H4.out]; exact T4.out)
  have he2 := He1.out.only ho2
  have cs2 := he2.cs2
  have t5 : v < topM c2 x1 := by rw [W2.ext.top HW1.out.has]; exact L1.out.1
  have hn := nodeZ_spec L W2.zok.ok W2.zok.red Hv0.out (by have := HvV.out; omega) (W2.ext.has HW1.out.has) W2.has t5 l2.1 (by
    have h5 := cnt_lows W2.zok hL; have h6 := Hr.out; have h7 := Hcs.out; have h8 := HW1.out.ext.len; have h8' := W2.ext.len; have h9 := l2.2; have h9' := L1.out.2; have h10 := Hc.out
    rw [h10] at h6 h9 h9'; omega)
  have mk := mok_two (k := .or) (fun _ _ _ _ _ => rfl) Hc.out Hz.out HvV.out H1.out H2.out H3.out H4.out T1.out T2.out T3.out T4.out HW1.out W2 hn
  have hq := fnode_any v x1 x2 w2 s V c2 hs2 (hs2.le (W2.ext.has HW1.out.has)) (hs2.le W2.has)
  rw [hn.err] at hq
  simp only [errV, if_true] at hq
  have hmem := hm2.ext W2.zok.ok mk.zok.ok hn.ext
  generalize nodeZ c2 v x1 x2 = R at hq mk hmem
  obtain ⟨c3, x3, n3⟩ := R
  dsimp only at hq mk hmem
  have Hq3 := Lib.hid hq; have Hmk := Lib.hid mk; have Hmem := Lib.hid hmem; have Ho2 := Lib.hid ho2; have He2 := Lib.hid he2
  clear hq mk hmem ho2 he2 hn W2 l2 t5 hs2 hm2 Hq2
  go_wp2_with fail
  refine Hq3.out.mono ?_
  rintro e w3 ⟨rfl, hs3, ho3⟩
  have Hs3 := Lib.hid hs3; have Ho3 := Lib.hid ho3; clear hs3 ho3 cs2
  go_wp2_with fail
  go_ret2
  exact ⟨c3, x3, rfl, Hs3.out, Hmem.out.keep (Ho3.out.block _ Hmem.out.lt He2.out.md.1), (Ho1.out.trans Ho2.out).trans (Ho3.out.mono (famMem_sub s md)), Hmk.out⟩

set_option maxRecDepth 100000 in
set_option maxHeartbeats 4000000 in
theorem mixok_and {V L : Int} (hV : V ≤ 24) (hL : V ≤ L + 3) {s : Fb} {md : Nat} {q : Cb} {f : Nat} (hag : AgainOk V L .and s md q f) : MixOk V L .and s md q f := by
  intro v a0 a1 b0 b1 w c hs hm he zo h1 h2 h3 h4 t1 t2 t3 t4 v0 vV hf hr
  have cs := costO_step L v
  have hc : Kd.and.cost = costO := rfl
  have Hag := Lib.hid hag; have Hcs := Lib.hid cs; have Hc := Lib.hid hc; have Hs := Lib.hid hs; have Hm := Lib.hid hm; have He := Lib.hid he; have Hz := Lib.hid zo; have H1 := Lib.hid h1; have H2 := Lib.hid h2; have H3 := Lib.hid h3; have H4 := Lib.hid h4
  have T1 := Lib.hid t1; have T2 := Lib.hid t2; have T3 := Lib.hid t3; have T4 := Lib.hid t4; have Hv0 := Lib.hid v0; have HvV := Lib.hid vV; have Hf := Lib.hid hf; have Hr := Lib.hid hr
  have hq := hag a0 b0 w c hs hm he zo h1 h3 (hgt_kid t1 t3 (by omega) hf) (by have := cost_two Kd.and L t1 t3; rw [hc] at this hr; rw [hc]; omega)
  unfold argsW at hq
  have Hq := Lib.hid hq
  clear hag cs hc hs hm he zo h1 h2 h3 h4 t1 t2 t3 t4 v0 vV hf hr hq
  unfold argsM againV
  show Calls Try.prog 89 _ _ _
  go_enter Try.func89, Try.ntmps89
  go_wp2_with fail
  refine Hq.out.mono ?_
  rintro e w1 ⟨c1, x1, rfl, hs1, hm1, ho1, W1⟩
  have l1 := W1.low T1.out T3.out
  have he1 := He.out.only ho1
  have t2' : v < topM c1 a1 := by rw [W1.ext.top H2.out]; exact T2.out
  have t4' : v < topM c1 b1 := by rw [W1.ext.top H4.out]; exact T4.out
  have hq := Hag.out a1 b1 w1 c1 hs1 hm1 he1 W1.zok (W1.ext.has H2.out) (W1.ext.has H4.out) (hgt_kid t2' t4' (by have := HvV.out; omega) Hf.out) (by
    have h5 := cost_two Kd.and L t2' t4'; have h6 := Hr.out; have h7 := Hcs.out; have h8 := W1.ext.len; have h9 := l1.2; have h10 := Hc.out
    rw [h10] at h5 h6 h9; rw [h10]; omega)
  unfold argsW at hq
  have Hq2 := Lib.hid hq; have HW1 := Lib.hid W1; have Ho1 := Lib.hid ho1; have L1 := Lib.hid l1; have He1 := Lib.hid he1
  clear hq W1 ho1 l1 he1 t2' t4' hs1 hm1 Hq Hs Hm
  go_wp2_with fail
  refine Hq2.out.mono ?_
  rintro e w2 ⟨c2, x2, rfl, hs2, hm2, ho2, W2⟩
  have l2 := W2.low (v := v) (by rw [HW1.out.ext.top H2.out]; exact T2.out) (by rw [HW1.out.ext.top H4.out]; exact T4.out)
  have he2 := He1.out.only ho2
  have cs2 := he2.cs2
  have t5 : v < topM c2 x1 := by rw [W2.ext.top HW1.out.has]; exact L1.out.1
  have hn := nodeZ_spec L W2.zok.ok W2.zok.red Hv0.out (by have := HvV.out; omega) (W2.ext.has HW1.out.has) W2.has t5 l2.1 (by
    have h5 := cnt_lows W2.zok hL; have h6 := Hr.out; have h7 := Hcs.out; have h8 := HW1.out.ext.len; have h8' := W2.ext.len; have h9 := l2.2; have h9' := L1.out.2; have h10 := Hc.out
    rw [h10] at h6 h9 h9'; omega)
  have mk := mok_two (k := .and) (fun _ _ _ _ _ => rfl) Hc.out Hz.out HvV.out H1.out H2.out H3.out H4.out T1.out T2.out T3.out T4.out HW1.out W2 hn
  have hq := fnode_any v x1 x2 w2 s V c2 hs2 (hs2.le (W2.ext.has HW1.out.has)) (hs2.le W2.has)
  rw [hn.err] at hq
  simp only [errV, if_true] at hq
  have hmem := hm2.ext W2.zok.ok mk.zok.ok hn.ext
  generalize nodeZ c2 v x1 x2 = R at hq mk hmem
  obtain ⟨c3, x3, n3⟩ := R
  dsimp only at hq mk hmem
  have Hq3 := Lib.hid hq; have Hmk := Lib.hid mk; have Hmem := Lib.hid hmem; have Ho2 := Lib.hid ho2; have He2 := Lib.hid he2
  clear hq mk hmem ho2 he2 hn W2 l2 t5 hs2 hm2 Hq2
  go_wp2_with fail
  refine Hq3.out.mono ?_
  rintro e w3 ⟨rfl, hs3, ho3⟩
  have Hs3 := Lib.hid hs3; have Ho3 := Lib.hid ho3; clear hs3 ho3 cs2
  go_wp2_with fail
  go_ret2
  exact ⟨c3, x3, rfl, Hs3.out, Hmem.out.keep (Ho3.out.block _ Hmem.out.lt He2.out.md.1), (Ho1.out.trans Ho2.out).trans (Ho3.out.mono (famMem_sub s md)), Hmk.out⟩

set_option maxRecDepth 100000 in
set_option maxHeartbeats 4000000 in
theorem mixok_less {V L : Int} (hV : V ≤ 24) (hL : V ≤ L + 3) {s : Fb} {md : Nat} {q : Cb} {f : Nat} (hag : AgainOk V L .less s md q f) : MixOk V L .less s md q f := by
  intro v a0 a1 b0 b1 w c hs hm he zo h1 h2 h3 h4 t1 t2 t3 t4 v0 vV hf hr
  have cs := costO_step L v
  have hc : Kd.less.cost = costO := rfl
  have Hag := Lib.hid hag; have Hcs := Lib.hid cs; have Hc := Lib.hid hc; have Hs := Lib.hid hs; have Hm := Lib.hid hm; have He := Lib.hid he; have Hz := Lib.hid zo; have H1 := Lib.hid h1; have H2 := Lib.hid h2; have H3 := Lib.hid h3; have H4 := Lib.hid h4
  have T1 := Lib.hid t1; have T2 := Lib.hid t2; have T3 := Lib.hid t3; have T4 := Lib.hid t4; have Hv0 := Lib.hid v0; have HvV := Lib.hid vV; have Hf := Lib.hid hf; have Hr := Lib.hid hr
  have hq := hag a0 b0 w c hs hm he zo h1 h3 (hgt_kid t1 t3 (by omega) hf) (by have := cost_two Kd.less L t1 t3; rw [hc] at this hr; rw [hc]; omega)
  unfold argsW at hq
  have Hq := Lib.hid hq
  clear hag cs hc hs hm he zo h1 h2 h3 h4 t1 t2 t3 t4 v0 vV hf hr hq
  unfold argsM againV
  show Calls Try.prog 110 _ _ _
  go_enter Try.func110, Try.ntmps110
  go_wp2_with fail
  refine Hq.out.mono ?_
  rintro e w1 ⟨c1, x1, rfl, hs1, hm1, ho1, W1⟩
  have l1 := W1.low T1.out T3.out
  have he1 := He.out.only ho1
  have t2' : v < topM c1 a1 := by rw [W1.ext.top H2.out]; exact T2.out
  have t4' : v < topM c1 b1 := by rw [W1.ext.top H4.out]; exact T4.out
  have hq := Hag.out a1 b1 w1 c1 hs1 hm1 he1 W1.zok (W1.ext.has H2.out) (W1.ext.has H4.out) (hgt_kid t2' t4' (by have := HvV.out; omega) Hf.out) (by
    have h5 := cost_two Kd.less L t2' t4'; have h6 := Hr.out; have h7 := Hcs.out; have h8 := W1.ext.len; have h9 := l1.2; have h10 := Hc.out
    rw [h10] at h5 h6 h9; rw [h10]; omega)
  unfold argsW at hq
  have Hq2 := Lib.hid hq; have HW1 := Lib.hid W1; have Ho1 := Lib.hid ho1; have L1 := Lib.hid l1; have He1 := Lib.hid he1
  clear hq W1 ho1 l1 he1 t2' t4' hs1 hm1 Hq Hs Hm
  go_wp2_with fail
  refine Hq2.out.mono ?_
  rintro e w2 ⟨c2, x2, rfl, hs2, hm2, ho2, W2⟩
  have l2 := W2.low (v := v) (by rw [HW1.out.ext.top H2.out]; exact T2.out) (by rw [HW1.out.ext.top H4.out]; exact T4.out)
  have he2 := He1.out.only ho2
  have cs2 := he2.cs2
  have t5 : v < topM c2 x1 := by rw [W2.ext.top HW1.out.has]; exact L1.out.1
  have hn := nodeZ_spec L W2.zok.ok W2.zok.red Hv0.out (by have := HvV.out; omega) (W2.ext.has HW1.out.has) W2.has t5 l2.1 (by
    have h5 := cnt_lows W2.zok hL; have h6 := Hr.out; have h7 := Hcs.out; have h8 := HW1.out.ext.len; have h8' := W2.ext.len; have h9 := l2.2; have h9' := L1.out.2; have h10 := Hc.out
    rw [h10] at h6 h9 h9'; omega)
  have mk := mok_two (k := .less) (fun _ _ _ _ _ => rfl) Hc.out Hz.out HvV.out H1.out H2.out H3.out H4.out T1.out T2.out T3.out T4.out HW1.out W2 hn
  have hq := fnode_any v x1 x2 w2 s V c2 hs2 (hs2.le (W2.ext.has HW1.out.has)) (hs2.le W2.has)
  rw [hn.err] at hq
  simp only [errV, if_true] at hq
  have hmem := hm2.ext W2.zok.ok mk.zok.ok hn.ext
  generalize nodeZ c2 v x1 x2 = R at hq mk hmem
  obtain ⟨c3, x3, n3⟩ := R
  dsimp only at hq mk hmem
  have Hq3 := Lib.hid hq; have Hmk := Lib.hid mk; have Hmem := Lib.hid hmem; have Ho2 := Lib.hid ho2; have He2 := Lib.hid he2
  clear hq mk hmem ho2 he2 hn W2 l2 t5 hs2 hm2 Hq2
  go_wp2_with fail
  refine Hq3.out.mono ?_
  rintro e w3 ⟨rfl, hs3, ho3⟩
  have Hs3 := Lib.hid hs3; have Ho3 := Lib.hid ho3; clear hs3 ho3 cs2
  go_wp2_with fail
  go_ret2
  exact ⟨c3, x3, rfl, Hs3.out, Hmem.out.keep (Ho3.out.block _ Hmem.out.lt He2.out.md.1), (Ho1.out.trans Ho2.out).trans (Ho3.out.mono (famMem_sub s md)), Hmk.out⟩

set_option maxRecDepth 100000 in
set_option maxHeartbeats 4000000 in
theorem mixok_free {V L : Int} (hV : V ≤ 24) (hL : V ≤ L + 3) {s : Fb} {md : Nat} {q : Cb} {f : Nat} (hag : AgainOk V L .free s md q f) : MixOk V L .free s md q f := by
  intro v a0 a1 b0 b1 w c hs hm he zo h1 h2 h3 h4 t1 t2 t3 t4 v0 vV hf hr
  have cs := costF_step L v
  have hc : Kd.free.cost = costF := rfl
  have Hag := Lib.hid hag; have Hcs := Lib.hid cs; have Hc := Lib.hid hc; have Hs := Lib.hid hs; have Hm := Lib.hid hm; have He := Lib.hid he; have Hz := Lib.hid zo; have H1 := Lib.hid h1; have H2 := Lib.hid h2; have H3 := Lib.hid h3; have H4 := Lib.hid h4
  have T1 := Lib.hid t1; have T2 := Lib.hid t2; have T3 := Lib.hid t3; have T4 := Lib.hid t4; have Hv0 := Lib.hid v0; have HvV := Lib.hid vV; have Hf := Lib.hid hf; have Hr := Lib.hid hr
  have hq := hag a0 b0 w c hs hm he zo h1 h3 (hgt_kid t1 t3 (by omega) hf) (by have := cost_two Kd.free L t1 t3; rw [hc] at this hr; rw [hc]; omega)
  unfold argsW at hq
  have Hq := Lib.hid hq
  clear hag cs hc hs hm he zo h1 h2 h3 h4 t1 t2 t3 t4 v0 vV hf hr hq
  unfold argsM againV
  show Calls Try.prog 112 _ _ _
  go_enter Try.func112, Try.ntmps112
  go_wp2_with fail
  refine Hq.out.mono ?_
  rintro e w1 ⟨c1, x1, rfl, hs1, hm1, ho1, W1⟩
  have l1 := W1.low T1.out T3.out
  have he1 := He.out.only ho1
  have t2' : v < topM c1 a1 := by rw [W1.ext.top H2.out]; exact T2.out
  have t3' : v < topM c1 b0 := by rw [W1.ext.top H3.out]; exact T3.out
  have hq := Hag.out a1 b0 w1 c1 hs1 hm1 he1 W1.zok (W1.ext.has H2.out) (W1.ext.has H3.out) (hgt_kid t2' t3' (by have := HvV.out; omega) Hf.out) (by
    have h5 := cost_two Kd.free L t2' t3'; have h6 := Hr.out; have h7 := Hcs.out; have h8 := W1.ext.len; have h9 := l1.2; have h10 := Hc.out
    rw [h10] at h5 h6 h9; rw [h10]; omega)
  unfold argsW at hq
  have Hq2 := Lib.hid hq; have HW1 := Lib.hid W1; have Ho1 := Lib.hid ho1; have L1 := Lib.hid l1; have He1 := Lib.hid he1
  clear hq W1 ho1 l1 he1 t2' t3' hs1 hm1 Hq Hs Hm
  go_wp2_with fail
  refine Hq2.out.mono ?_
  rintro e w2 ⟨c2, x2, rfl, hs2, hm2, ho2, W2⟩
  have l2 := W2.low (v := v) (by rw [HW1.out.ext.top H2.out]; exact T2.out) (by rw [HW1.out.ext.top H3.out]; exact T3.out)
  have he2 := He1.out.only ho2
  have t4' : v < topM c2 b1 := by rw [W2.ext.top (HW1.out.ext.has H4.out), HW1.out.ext.top H4.out]; exact T4.out
  have hq := Hag.out x2 b1 w2 c2 hs2 hm2 he2 W2.zok W2.has (W2.ext.has (HW1.out.ext.has H4.out)) (hgt_kid l2.1 t4' (by have := HvV.out; omega) Hf.out) (by
    have h5 := cost_two Kd.free L l2.1 t4'; have h6 := Hr.out; have h7 := Hcs.out; have h8 := HW1.out.ext.len; have h8' := W2.ext.len; have h9 := L1.out.2; have h9' := l2.2; have h10 := Hc.out
    rw [h10] at h5 h6 h9 h9'; rw [h10]; omega)
  unfold argsW at hq
  have Hq2b := Lib.hid hq; have HW2 := Lib.hid W2; have Ho2 := Lib.hid ho2; have L2 := Lib.hid l2; have He2 := Lib.hid he2
  clear hq W2 ho2 l2 he2 t4' hs2 hm2 Hq2
  go_wp2_with fail
  refine Hq2b.out.mono ?_
  rintro e w3 ⟨c3, x3, rfl, hs3, hm3, ho3, W3⟩
  have l3 := W3.low (v := v) L2.out.1 (by rw [HW2.out.ext.top (HW1.out.ext.has H4.out), HW1.out.ext.top H4.out]; exact T4.out)
  have he3 := He2.out.only ho3
  have cs2 := he3.cs2
  have h13 : hasM c3 x1 = true := W3.ext.has (HW2.out.ext.has HW1.out.has)
  have t5 : v < topM c3 x1 := by rw [W3.ext.top (HW2.out.ext.has HW1.out.has), HW2.out.ext.top HW1.out.has]; exact L1.out.1
  have hn := nodeZ_spec L W3.zok.ok W3.zok.red Hv0.out (by have := HvV.out; omega) h13 W3.has t5 l3.1 (by
    have h5 := cnt_lows W3.zok hL; have h6 := Hr.out; have h7 := Hcs.out; have h8 := HW1.out.ext.len; have h8' := HW2.out.ext.len; have h8'' := W3.ext.len; have h9 := l3.2; have h9' := L1.out.2; have h9'' := L2.out.2; have h10 := Hc.out
    rw [h10] at h6 h9 h9' h9''; omega)
  have mk := mok_free Hz.out HvV.out H1.out H2.out H3.out H4.out T1.out T2.out T3.out T4.out HW1.out HW2.out W3 hn
  have hq := fnode_any v x1 x3 w3 s V c3 hs3 (hs3.le h13) (hs3.le W3.has)
  rw [hn.err] at hq
  simp only [errV, if_true] at hq
  have hmem := hm3.ext W3.zok.ok mk.zok.ok hn.ext
  generalize nodeZ c3 v x1 x3 = R at hq mk hmem
  obtain ⟨c4, x4, n4⟩ := R
  dsimp only at hq mk hmem
  have Hq3 := Lib.hid hq; have Hmk := Lib.hid mk; have Hmem := Lib.hid hmem; have Ho3 := Lib.hid ho3; have He3 := Lib.hid he3
  clear hq mk hmem ho3 he3 hn W3 l3 t5 h13 hs3 hm3 Hq2b
  go_wp2_with fail
  refine Hq3.out.mono ?_
  rintro e w4 ⟨rfl, hs4, ho4⟩
  have Hs4 := Lib.hid hs4; have Ho4 := Lib.hid ho4; clear hs4 ho4 cs2
  go_wp2_with fail
  go_ret2
  exact ⟨c4, x4, rfl, Hs4.out, Hmem.out.keep (Ho4.out.block _ Hmem.out.lt He3.out.md.1), ((Ho1.out.trans Ho2.out).trans Ho3.out).trans (Ho4.out.mono (famMem_sub s md)), Hmk.out⟩

theorem again_or {V L : Int} (hV : V ≤ 24) (hL : V ≤ L + 3) (s : Fb) (md : Nat) (q : Cb) : ∀ f, AgainOk V L .or s md q f
  | 0 => fun a b w c _ _ _ _ _ _ hf _ => absurd hf (Nat.not_lt_zero _)
  | f + 1 => again_step hV (mixok_or hV hL (again_or hV hL s md q f))
theorem again_and {V L : Int} (hV : V ≤ 24) (hL : V ≤ L + 3) (s : Fb) (md : Nat) (q : Cb) : ∀ f, AgainOk V L .and s md q f
  | 0 => fun a b w c _ _ _ _ _ _ hf _ => absurd hf (Nat.not_lt_zero _)
  | f + 1 => again_step hV (mixok_and hV hL (again_and hV hL s md q f))
theorem again_less {V L : Int} (hV : V ≤ 24) (hL : V ≤ L + 3) (s : Fb) (md : Nat) (q : Cb) : ∀ f, AgainOk V L .less s md q f
  | 0 => fun a b w c _ _ _ _ _ _ hf _ => absurd hf (Nat.not_lt_zero _)
  | f + 1 => again_step hV (mixok_less hV hL (again_less hV hL s md q f))
theorem again_free {V L : Int} (hV : V ≤ 24) (hL : V ≤ L + 3) (s : Fb) (md : Nat) (q : Cb) : ∀ f, AgainOk V L .free s md q f
  | 0 => fun a b w c _ _ _ _ _ _ hf _ => absurd hf (Nat.not_lt_zero _)
  | f + 1 => again_step hV (mixok_free hV hL (again_free hV hL s md q f))
end Go.Proofs.Ytmlnfbageoabnaa
