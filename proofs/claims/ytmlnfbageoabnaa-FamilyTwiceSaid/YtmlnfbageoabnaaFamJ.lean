/- mix of join. -/
import Derived.Test.YtmlnfbageoabnaaFamWk
namespace Go.Proofs.Ytmlnfbageoabnaa
open Go.RowKit
set_option linter.unusedVariables false

def pr (a0 a1 b0 b1 : Int) : Nat → Int × Int
  | 0 => (a1, b1)
  | 1 => (a1, b0)
  | _ => (a0, b1)
def accF (c : Cells) (a0 a1 b0 b1 : Int) : Nat → Fam
  | 0 => fun _ => False
  | k + 1 => Kd.or.sem (accF c a0 a1 b0 b1 k) (Kd.join.sem (Z c (pr a0 a1 b0 b1 k).1) (Z c (pr a0 a1 b0 b1 k).2))

/-- join's mix on its way: behind k of the three pairs. -/
structure JSt (w wr : World) (s : Fb) (V L : Int) (c1 : Cells) (md : Nat) (q : Cb) (g : Nat) (v a0 a1 b0 b1 : Int) (k : Nat) (c' : Cells) (h : Int) : Prop where
  st : IsStore wr s V c'
  memo : MemoAt wr md .join c'
  env : Env wr .join s md q
  only : Only (famMem s md) w wr
  zok : ZOk V c'
  ext : Ext c1 c'
  has : hasM c' h = true
  top : v < topM c' h
  z : ∀ s, Z c' h s ↔ accF c1 a0 a1 b0 b1 k s
  cnt : lows L c' ≤ lows L c1 + k * (costJ (L - (v + 1)).toNat + costO (L - (v + 1)).toNat)
  row : wr.heap[g]? = some (.cells #[.int .i64 a1, .int .i64 b1, .int .i64 a1, .int .i64 b0, .int .i64 a0, .int .i64 b1] 115 (0, 0))
  off : ¬ famMem s md g
section
variable {w wr w2 w3 : World} {s : Fb} {V L : Int} {c1 c' c2 c3 : Cells} {md : Nat} {q : Cb} {g : Nat} {v a0 a1 b0 b1 : Int} {k : Nat} {h x y : Int}
theorem JSt.grow (j : JSt w wr s V L c1 md q g v a0 a1 b0 b1 k c' h) (hb : Below wr.heap.size wr w2) : JSt w w2 s V L c1 md q g v a0 a1 b0 b1 k c' h :=
  ⟨j.st.below hb, j.memo.below hb, j.env.below hb, j.only.trans (Only.of_below hb rfl), j.zok, j.ext, j.has, j.top, j.z, j.cnt, (hb.block _ (lt_of_block j.row)).trans j.row, j.off⟩
theorem JSt.cells (j : JSt w wr s V L c1 md q g v a0 a1 b0 b1 k c' h) (hk : k < 3) : wr.cell? ⟨g, k * 2, none⟩ = some (.int .i64 (pr a0 a1 b0 b1 k).1) ∧ wr.cell? ⟨g, k * 2 + 1, none⟩ = some (.int .i64 (pr a0 a1 b0 b1 k).2) := by
  have hc : k = 0 ∨ k = 1 ∨ k = 2 := by omega
  rcases hc with rfl | rfl | rfl <;> exact ⟨by rw [cell_of_row wr _ _ _ _ _ j.row]; rfl, by rw [cell_of_row wr _ _ _ _ _ j.row]; rfl⟩
theorem pr_all {P : Int → Prop} (h0 : P a0) (h1 : P a1) (h2 : P b0) (h3 : P b1) (k : Nat) : P (pr a0 a1 b0 b1 k).1 ∧ P (pr a0 a1 b0 b1 k).2 := by
  unfold pr; split
  · exact ⟨h1, h3⟩
  · exact ⟨h1, h2⟩
  · exact ⟨h0, h3⟩
theorem JSt.next (j : JSt w wr s V L c1 md q g v a0 a1 b0 b1 k c' h) (zo : ZOk V c1) (hp : hasM c1 (pr a0 a1 b0 b1 k).1 = true) (hr : hasM c1 (pr a0 a1 b0 b1 k).2 = true) (tp : v < topM c1 (pr a0 a1 b0 b1 k).1) (tr : v < topM c1 (pr a0 a1 b0 b1 k).2)
    (W : WOk V L .join c' c2 (pr a0 a1 b0 b1 k).1 (pr a0 a1 b0 b1 k).2 x) (U : WOk V L .or c2 c3 h x y) (hst : IsStore w3 s V c3) (hm : MemoAt w2 md .join c2) (ho : Only (famMem s md) wr w2) (ho3 : Only s.b.mem w2 w3) : JSt w w3 s V L c1 md q g v a0 a1 b0 b1 (k + 1) c3 y := by
  have l1 := W.low (v := v) (by rw [j.ext.top hp]; exact tp) (by rw [j.ext.top hr]; exact tr)
  have l2 := U.low (v := v) (by rw [W.ext.top j.has]; exact j.top) l1.1
  have he := j.env.only ho
  have oo := ho.trans (ho3.mono (famMem_sub s md))
  refine ⟨hst, (hm.ext W.zok.ok U.zok.ok U.ext).keep (ho3.block _ hm.lt he.md.1), he.only (ho3.mono (famMem_sub s md)), j.only.trans oo, U.zok, (j.ext.trans W.ext).trans U.ext, U.has, l2.1, fun s => ?_, ?_, (oo.block _ (lt_of_block j.row) j.off).trans j.row, j.off⟩
  · rw [U.z, accF]
    refine Kd.or.sem_congr (fun s => ?_) (fun s => ?_) s
    · rw [W.old j.zok j.has]; exact j.z s
    · rw [W.z]; exact Kd.join.sem_congr (fun s => Z_ext zo.ok j.zok.ok j.ext _ hp s) (fun s => Z_ext zo.ok j.zok.ok j.ext _ hr s) s
  · have h1 := j.cnt
    have h2 : lows L c2 ≤ lows L c' + costJ (L - (v + 1)).toNat := l1.2
    have h3 : lows L c3 ≤ lows L c2 + costO (L - (v + 1)).toNat := l2.2
    rw [Nat.succ_mul]; omega
theorem mul_small {k A : Nat} (h : k ≤ 2) : k * A ≤ 2 * A := Nat.mul_le_mul_right A h
/-- The steps and a node: join. -/
theorem mok_join {c4 : Cells} {x1 : Int} {r : Cells × Int × Nat} {c : Cells} (o : ZOk V c) (hvV : v < V) (ha0 : hasM c a0 = true) (ha1 : hasM c a1 = true) (hb0 : hasM c b0 = true) (hb1 : hasM c b1 = true)
    (t0 : v < topM c a0) (t2 : v < topM c b0) (W1 : WOk V L .join c c1 a0 b0 x1) (j : JSt w wr s V L c1 md q g v a0 a1 b0 b1 3 c4 y) (n : NodeZ L c4 v x1 y r) : MOk V L .join c r.1 v a0 a1 b0 b1 r.2.1 := by
  have l1 : lows L c1 ≤ lows L c + costJ (L - (v + 1)).toNat := (W1.low t0 t2).2
  have l2 := j.cnt
  have l3 := n.cnt
  have cs := costJ_step L v
  refine ⟨zok_node j.zok hvV n, (W1.ext.trans j.ext).trans n.ext, n.has, fun s => (n.z s).trans ?_, n.top, by show _ ≤ _ + costJ _; omega⟩
  refine mixF_congr (fun s => ?_) (fun s => ?_) s
  · rw [Z_ext W1.zok.ok j.zok.ok j.ext x1 W1.has]; exact W1.z s
  · rw [j.z]
    have e : ∀ z, hasM c z = true → Z c1 z = Z c z := fun z hz => funext fun s => propext (W1.old o hz s)
    simp only [accF, pr, e a0 ha0, e a1 ha1, e b0 hb0, e b1 hb1]
end

set_option maxRecDepth 100000 in
set_option maxHeartbeats 4000000 in
theorem mixok_join {V L : Int} (hV : V ≤ 24) (hL : V ≤ L + 3) {s : Fb} {md : Nat} {q : Cb} {f : Nat} (hag : AgainOk V L .join s md q f) : MixOk V L .join s md q f := by
  intro v a0 a1 b0 b1 w c hs hm he zo h1 h2 h3 h4 t1 t2 t3 t4 v0 vV hf hr
  have cs := costJ_step L v
  have hc : Kd.join.cost = costJ := rfl
  have Hag := Lib.hid hag; have Hcs := Lib.hid cs; have Hc := Lib.hid hc; have Hs := Lib.hid hs; have Hm := Lib.hid hm; have He := Lib.hid he; have Hz := Lib.hid zo; have H1 := Lib.hid h1; have H2 := Lib.hid h2; have H3 := Lib.hid h3; have H4 := Lib.hid h4
  have T1 := Lib.hid t1; have T2 := Lib.hid t2; have T3 := Lib.hid t3; have T4 := Lib.hid t4; have Hv0 := Lib.hid v0; have HvV := Lib.hid vV; have Hf := Lib.hid hf; have Hr := Lib.hid hr
  have hq := hag a0 b0 w c hs hm he zo h1 h3 (hgt_kid t1 t3 (by omega) hf) (by have := cost_two Kd.join L t1 t3; rw [hc] at this hr; rw [hc]; omega)
  unfold argsW at hq
  have Hq := Lib.hid hq
  clear hag cs hc hs hm he zo h1 h2 h3 h4 t1 t2 t3 t4 v0 vV hf hr hq
  unfold argsM againV
  show Calls Try.prog 94 _ _ _
  go_enter Try.func94, Try.ntmps94
  go_wp2_with fail
  refine Hq.out.mono ?_
  rintro e w1 ⟨c1, x1, rfl, hs1, hm1, ho1, W1⟩
  have l1 := W1.low T1.out T3.out
  have he1 := He.out.only ho1
  have HW1 := Lib.hid W1; have Ho1 := Lib.hid ho1; have L1 := Lib.hid l1; have He1 := Lib.hid he1; have Hs1 := Lib.hid hs1; have Hm1 := Lib.hid hm1
  clear W1 ho1 l1 he1 hs1 hm1 Hq Hs Hm
  go_wp2_with fail
  have j0 : JSt w1 (w1.alloc (.cells #[.int .i64 a1, .int .i64 b1, .int .i64 a1, .int .i64 b0, .int .i64 a0, .int .i64 b1] 115)) s V L c1 md q w1.heap.size v a0 a1 b0 b1 0 c1 0 := by
    have hb : Below w1.heap.size w1 (w1.alloc (.cells #[.int .i64 a1, .int .i64 b1, .int .i64 a1, .int .i64 b0, .int .i64 a0, .int .i64 b1] 115)) := (Below.refl _ _).alloc (Nat.le_refl _) _
    refine ⟨Hs1.out.below hb, Hm1.out.below hb, He1.out.below hb, Only.of_below hb rfl, HW1.out.zok, Ext.refl _, hasM_zero _, ?_, fun s => ⟨fun h => absurd h (Z_zero _ _), fun h => h.elim⟩, by omega, heap_at rfl, fun h => ?_⟩
    · rw [top_end (getM_end c1 (.inl rfl))]; have := HvV.out; omega
    · exact h.elim (fun h => by have := Hs1.out.lt h; omega) (fun e => by have := Hm1.out.lt; omega)
  obtain ⟨g, hg⟩ : ∃ g, g = w1.heap.size := ⟨_, rfl⟩
  have J0 := Lib.hid j0; clear j0
  rw [← hg] at J0 ⊢
  clear hg
  generalize w1.alloc (.cells #[.int .i64 a1, .int .i64 b1, .int .i64 a1, .int .i64 b0, .int .i64 a0, .int .i64 b1] 115) = wj at J0 ⊢
  go_loopg [17, 43] 3 (fun gk x i wr => ∃ (k : Nat) (c' : Cells) (h : Int), k ≤ 3 ∧ gk = 3 - k ∧ x = .int .i64 h ∧ i = .int .i64 k ∧ JSt w1 wr s V L c1 md q g v a0 a1 b0 b1 k c' h)
  case atStart => exact ⟨0, c1, 0, by omega, rfl, rfl, rfl, J0.out⟩
  case round =>
    clear J0
    obtain ⟨k, c', h, hk3, rfl, rfl, rfl, hj⟩ := hrel
    have Hj := Lib.hid hj; clear hj
    by_cases hk : k < 3
    · obtain ⟨g0, g1⟩ := Hj.out.cells hk
      have hp := pr_all (P := fun z => hasM c1 z = true) (HW1.out.ext.has H1.out) (HW1.out.ext.has H2.out) (HW1.out.ext.has H3.out) (HW1.out.ext.has H4.out) k
      have tp := pr_all (P := fun z => v < topM c1 z) (by rw [HW1.out.ext.top H1.out]; exact T1.out) (by rw [HW1.out.ext.top H2.out]; exact T2.out) (by rw [HW1.out.ext.top H3.out]; exact T3.out) (by rw [HW1.out.ext.top H4.out]; exact T4.out) k
      obtain ⟨p1, hp1⟩ : ∃ z, z = (pr a0 a1 b0 b1 k).1 := ⟨_, rfl⟩
      obtain ⟨p2, hp2⟩ : ∃ z, z = (pr a0 a1 b0 b1 k).2 := ⟨_, rfl⟩
      have q1 := hp.1; have q2 := hp.2; have q3 := tp.1; have q4 := tp.2
      rw [← hp1] at g0 q1 q3
      rw [← hp2] at g1 q2 q4
      have hj2 := Hj.out.grow (w2 := wr.alloc (.cells #[.int .i64 p1, .int .i64 p2] 115)) ((Below.refl _ _).alloc (Nat.le_refl _) _)
      have ja := hj2.ext.top q1; have jb := hj2.ext.top q2
      have hq := Hag.out p1 p2 _ c' hj2.st hj2.memo hj2.env hj2.zok (hj2.ext.has q1) (hj2.ext.has q2) (hgt_kid (by rw [ja]; exact q3) (by rw [jb]; exact q4) (by have := HvV.out; omega) Hf.out) (by
        have h5 : Kd.join.cost (L - min (topM c' p1) (topM c' p2)).toNat ≤ costJ (L - (v + 1)).toNat := cost_two Kd.join L (by rw [ja]; exact q3) (by rw [jb]; exact q4)
        have h6 : lows L c + costJ (L - v).toNat + hiB V L < c.length := Hr.out
        have h7 := Hcs.out; have h8 := HW1.out.ext.len; have h8' := hj2.ext.len
        have h9 : lows L c1 ≤ lows L c + costJ (L - (v + 1)).toNat := L1.out.2
        have h9' := hj2.cnt
        have h10 := mul_small (A := costJ (L - (v + 1)).toNat + costO (L - (v + 1)).toNat) (show k ≤ 2 by omega)
        omega)
      unfold argsW at hq
      have Hq := Lib.hid hq; have Hj2 := Lib.hid hj2; have Q1 := Lib.hid q1; have Q2 := Lib.hid q2; have Q3 := Lib.hid q3; have Q4 := Lib.hid q4; have Hp1 := Lib.hid hp1; have Hp2 := Lib.hid hp2
      clear hq hj2 ja jb q1 q2 q3 q4 hp tp hp1 hp2 Hj
      go_wp2_with fail
      refine Hq.out.mono ?_
      rintro e w2 ⟨c2, x2, rfl, hs2, hm2, ho2, W2⟩
      have l2 := W2.low (v := v) (by rw [Hj2.out.ext.top Q1.out]; exact Q3.out) (by rw [Hj2.out.ext.top Q2.out]; exact Q4.out)
      have cs2 := (Hj2.out.env.only ho2).cs2
      have th : v < topM c2 h := by rw [W2.ext.top Hj2.out.has]; exact Hj2.out.top
      have hq2 := for_any hV hL h x2 w2 c2 hs2 W2.zok (W2.ext.has Hj2.out.has) W2.has (by
        have h5 : Kd.or.cost (L - min (topM c2 h) (topM c2 x2)).toNat ≤ costO (L - (v + 1)).toNat := cost_two Kd.or L th l2.1
        have h6 : lows L c + costJ (L - v).toNat + hiB V L < c.length := Hr.out
        have h7 := Hcs.out; have h8 := HW1.out.ext.len; have h8' := Hj2.out.ext.len; have h8'' := W2.ext.len
        have h9 : lows L c1 ≤ lows L c + costJ (L - (v + 1)).toNat := L1.out.2
        have h9' := Hj2.out.cnt
        have h9'' : lows L c2 ≤ lows L c' + costJ (L - (v + 1)).toNat := l2.2
        have h10 := mul_small (A := costJ (L - (v + 1)).toNat + costO (L - (v + 1)).toNat) (show k ≤ 2 by omega)
        omega)
      have Hq2 := Lib.hid hq2; have HW2 := Lib.hid W2; have Hm2 := Lib.hid hm2; have Ho2 := Lib.hid ho2
      clear hq2 W2 hm2 ho2 hs2 l2 th Hq g0 g1
      go_wp2_with fail
      refine Hq2.out.mono ?_
      rintro e w3 ⟨c3, y, rfl, hs3, ho3, U⟩
      have W2' := HW2.out
      have Q1' := Q1.out; have Q2' := Q2.out; have Q3' := Q3.out; have Q4' := Q4.out
      rw [Hp1.out] at W2' Q1' Q3'
      rw [Hp2.out] at W2' Q2' Q4'
      have jn := Hj2.out.next HW1.out.zok Q1' Q2' Q3' Q4' W2' U hs3 Hm2.out Ho2.out ho3
      have Jn := Lib.hid jn
      clear jn W2' Q1' Q2' Q3' Q4' hs3 ho3 U Hq2 cs2
      go_wp2_with fail
      go_roundg (3 - (k + 1))
      case measure => omega
      case rel => exact ⟨k + 1, c3, y, by omega, rfl, rfl, by go_num, Jn.out⟩
    · obtain rfl : k = 3 := by omega
      have hj := Hj.out
      have l3 := hj.top
      have cs2 := hj.env.cs2
      have h13 : hasM c' x1 = true := hj.ext.has HW1.out.has
      have t5 : v < topM c' x1 := by rw [hj.ext.top HW1.out.has]; exact L1.out.1
      have hn := nodeZ_spec L hj.zok.ok hj.zok.red Hv0.out (by have := HvV.out; omega) h13 hj.has t5 l3 (by
        have h5 := cnt_lows hj.zok hL
        have h6 : lows L c + costJ (L - v).toNat + hiB V L < c.length := Hr.out
        have h7 := Hcs.out; have h8 := HW1.out.ext.len; have h8' := hj.ext.len
        have h9 : lows L c1 ≤ lows L c + costJ (L - (v + 1)).toNat := L1.out.2
        have h9' := hj.cnt
        omega)
      have mk := mok_join Hz.out HvV.out H1.out H2.out H3.out H4.out T1.out T3.out HW1.out hj hn
      have hq := fnode_any v x1 h wr s V c' hj.st (hj.st.le h13) (hj.st.le hj.has)
      rw [hn.err] at hq
      simp only [errV, if_true] at hq
      have hmem := hj.memo.ext hj.zok.ok mk.zok.ok hn.ext
      have ho := Ho1.out.trans hj.only
      have hmd := hj.env.md.1
      generalize nodeZ c' v x1 h = R at hq mk hmem
      obtain ⟨c4, x4, n4⟩ := R
      dsimp only at hq mk hmem
      have Hq3 := Lib.hid hq; have Hmk := Lib.hid mk; have Hmem := Lib.hid hmem; have Ho := Lib.hid ho; have Hmd := Lib.hid hmd
      clear hq mk hmem ho hmd hn hj l3 t5 h13 Hj hk
      go_wp2_with fail
      refine Hq3.out.mono ?_
      rintro e w4 ⟨rfl, hs4, ho4⟩
      have Hs4 := Lib.hid hs4; have Ho4 := Lib.hid ho4; clear hs4 ho4 cs2
      go_wp2_with fail
      go_ret2
      exact ⟨c4, x4, rfl, Hs4.out, Hmem.out.keep (Ho4.out.block _ Hmem.out.lt Hmd.out), Ho.out.trans (Ho4.out.mono (famMem_sub s md)), Hmk.out⟩

theorem again_join {V L : Int} (hV : V ≤ 24) (hL : V ≤ L + 3) (s : Fb) (md : Nat) (q : Cb) : ∀ f, AgainOk V L .join s md q f
  | 0 => fun a b w c _ _ _ _ _ _ hf _ => absurd hf (Nat.not_lt_zero _)
  | f + 1 => again_step hV (mixok_join hV hL (again_join hV hL s md q f))
end Go.Proofs.Ytmlnfbageoabnaa
