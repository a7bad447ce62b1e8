/- The least sets of a family; contract: (*family.Store).Least. -/
import Derived.Test.YtmlnfbageoabnaaFamPub
namespace Go.Proofs.Ytmlnfbageoabnaa
open Go.RowKit
set_option linter.unusedVariables false

def leastP (F : Fam) : Fam := fun s => F s ∧ ∀ t, F t → Sub t s → t = s
/-- How many things a set has. -/
def sizeS (s : St) : Nat := (List.range 24).countP fun k : Nat => s (k : Int)
def Small (F : Fam) : Prop := ∀ s, F s → ∀ u, s u = true → 0 ≤ u ∧ u < 24
theorem Sub.refl (s : St) : Sub s s := fun _ h => h
theorem Sub.trans {a b c : St} (h : Sub a b) (g : Sub b c) : Sub a c := fun u hu => g u (h u hu)
theorem Sub.antisymm {a b : St} (h : Sub a b) (g : Sub b a) : a = b := by
  funext u
  cases ha : a u <;> cases hb : b u
  · rfl
  · rw [g u hb] at ha; cases ha
  · rw [h u ha] at hb; cases hb
  · rfl
theorem countP_lt {α : Type} (p q : α → Bool) : ∀ (l : List α), (∀ x ∈ l, p x = true → q x = true) → ∀ y ∈ l, q y = true → p y = false → l.countP p < l.countP q
  | [], _, _, hy, _, _ => by cases hy
  | x :: l, h, y, hy, h1, h2 => by
    rcases List.mem_cons.1 hy with rfl | hy
    · have := List.countP_mono_left (l := l) (p := p) (q := q) (fun x hx => h x (List.mem_cons_of_mem _ hx))
      simp only [List.countP_cons, h1, h2, if_true, Bool.false_eq_true, if_false]; omega
    · have h3 := countP_lt p q l (fun x hx => h x (List.mem_cons_of_mem _ hx)) y hy h1 h2
      have h4 := h x (by simp)
      simp only [List.countP_cons]
      cases hp : p x
      · simp only [Bool.false_eq_true, if_false]; split <;> omega
      · rw [h4 hp]; simp only [if_true]; omega
theorem size_lt {t s : St} (h : Sub t s) (hne : t ≠ s) (hs : ∀ u, s u = true → 0 ≤ u ∧ u < 24) : sizeS t < sizeS s := by
  have : ∃ u, s u = true ∧ t u = false := by
    apply Classical.byContradiction
    intro hn
    exact hne (h.antisymm fun u hu => by
      cases ht : t u
      · exact absurd ⟨u, hu, ht⟩ hn
      · rfl)
  obtain ⟨u, h1, h2⟩ := this
  obtain ⟨h3, h4⟩ := hs u h1
  have e : ((u.toNat : Nat) : Int) = u := by omega
  exact countP_lt _ _ _ (fun k _ hk => h _ hk) u.toNat (List.mem_range.2 (by omega)) (by rw [e]; exact h1) (by rw [e]; exact h2)
/-- Each set has a least one as a part. -/
theorem least_below {F : Fam} (hF : Small F) : ∀ (n : Nat) (s : St), sizeS s < n → F s → ∃ t, leastP F t ∧ Sub t s
  | 0, _, h, _ => absurd h (Nat.not_lt_zero _)
  | n + 1, s, h, hs => by
    by_cases hl : leastP F s
    · exact ⟨s, hl, Sub.refl s⟩
    · have : ∃ t, F t ∧ Sub t s ∧ t ≠ s := by
        apply Classical.byContradiction
        intro hn
        exact hl ⟨hs, fun t ht hsub => Classical.byContradiction fun hne => hn ⟨t, ht, hsub, hne⟩⟩
      obtain ⟨t, h1, h2, h3⟩ := this
      obtain ⟨m, h4, h5⟩ := least_below hF n t (by have := size_lt h2 h3 (hF s hs); omega) h1
      exact ⟨m, h4, h5.trans h2⟩
theorem least_ex {F : Fam} (hF : Small F) {s : St} (hs : F s) : ∃ t, leastP F t ∧ Sub t s := least_below hF _ s (Nat.lt_succ_self _) hs
theorem least_congr {F G : Fam} (h : ∀ s, F s ↔ G s) (s : St) : leastP F s ↔ leastP G s := by
  have : F = G := funext fun s => propext (h s)
  rw [this]
theorem least_twice {F : Fam} (s : St) : leastP (leastP F) s ↔ leastP F s := ⟨fun h => h.1, fun h => ⟨h, fun t ht hs => h.2 t ht.1 hs⟩⟩

theorem mix_least {v : Int} {F : Fam} (hF : Small F) (s : St) : mixF v (leastP (without v F)) (Kd.free.sem (leastP (withV v F)) (leastP (without v F))) s ↔ leastP F s := by
  unfold mixF
  split
  · rename_i h
    constructor
    · rintro ⟨⟨⟨_, h1⟩, h2⟩, h3⟩
      rw [setV_set, setV_back h] at h1
      refine ⟨h1, fun t ht hs => ?_⟩
      cases hv : t v
      · exfalso
        obtain ⟨m, hm, hms⟩ := least_ex (F := without v F) (fun s hs => hF s hs.2) ⟨hv, ht⟩
        refine h3 m hm ((sub_off hm.1.1).1 ?_)
        rw [setV_back h]; exact hms.trans hs
      · have h4 := h2 (setV t v false) ⟨setV_at _ _ _, by rw [setV_set, setV_back hv]; exact ht⟩ (by rw [← sub_set, setV_back hv, setV_back h]; exact hs)
        have h5 := congrArg (fun x => setV x v true) h4
        simpa only [setV_set, setV_back hv, setV_back h] using h5
    · rintro ⟨h1, h2⟩
      refine ⟨⟨⟨setV_at _ _ _, by rw [setV_set, setV_back h]; exact h1⟩, fun t ht hs => ?_⟩, fun t ht hs => ?_⟩
      · have h3 : Sub (setV t v true) s := by
          have := sub_set.2 (by rw [setV_back ht.1]; exact hs : Sub (setV t v false) (setV s v false))
          rwa [setV_back h] at this
        have h4 := h2 _ ht.2 h3
        have h5 := congrArg (fun x => setV x v false) h4
        simpa only [setV_set, setV_back ht.1] using h5
      · have h3 := (sub_off ht.1.1).2 hs
        rw [setV_back h] at h3
        have h4 := h2 t ht.1.2 h3
        have := ht.1.1
        rw [h4, h] at this; cases this
  · rename_i h
    have h' : s v = false := by simpa using h
    constructor
    · rintro ⟨h1, h2⟩
      refine ⟨h1.2, fun t ht hs => ?_⟩
      cases hv : t v
      · exact h2 t ⟨hv, ht⟩ hs
      · have := hs v hv; rw [h'] at this; cases this
    · rintro ⟨h1, h2⟩
      exact ⟨⟨h', h1⟩, fun t ht hs => h2 t ht.2 hs⟩

def costL : Nat → Nat
  | 0 => 0
  | d + 1 => 2 * costL d + costF d + 1
theorem costL_mono : ∀ {a b : Nat}, a ≤ b → costL a ≤ costL b
  | 0, _, _ => by simp [costL]
  | a + 1, 0, h => absurd h (by omega)
  | a + 1, b + 1, h => by have := @costL_mono a b (by omega); have := @costF_mono a b (by omega); simp only [costL]; omega
theorem costL_le {a : Nat} (h : a ≤ 3) : costL a ≤ 42 := Nat.le_trans (costL_mono h) (by decide)
theorem costL_step (L v : Int) : 2 * costL (L - (v + 1)).toNat + costF (L - (v + 1)).toNat + (if v < L then 1 else 0) = costL (L - v).toNat := by
  by_cases e : v < L
  · rw [if_pos e, show (L - v).toNat = (L - (v + 1)).toNat + 1 by omega]; rfl
  · rw [if_neg e, show (L - v).toNat = 0 by omega, show (L - (v + 1)).toNat = 0 by omega]; rfl
theorem costL_kid (L v : Int) {m : Int} (h : v < m) : costL (L - m).toNat ≤ costL (L - (v + 1)).toNat := costL_mono (by omega)
theorem Z_small {V : Int} (hV : V ≤ 24) {c : Cells} (o : ZOk V c) (h : Int) : Small (Z c h) := fun s hs u hu => by
  have h1 := Z_supp o.ok h s hs u hu
  have h2 := Z_lt o.ok o.vlt h s hs u hu
  have h3 := topM_le o.ok h
  omega

structure LOk (V L : Int) (c c' : Cells) (h x : Int) : Prop where
  zok : ZOk V c'
  ext : Ext c c'
  has : hasM c' x = true
  z : ∀ s, Z c' x s ↔ leastP (Z c h) s
  top : topM c h ≤ topM c' x
  cnt : lows L c' ≤ lows L c + costL (L - topM c h).toNat
def LPost (V L : Int) (s : Fb) (c : Cells) (h : Int) (w : World) (e : Ending) (w' : World) : Prop :=
  ∃ c' x, e = .returned (.tuple #[.int .i64 x, .nilIface]) ∧ IsStore w' s V c' ∧ Only s.b.mem w w' ∧ LOk V L c c' h x
theorem least_end {c : Cells} {h : Int} (g : getM c h = none) (s : St) : Z c h s ↔ leastP (Z c h) s := by
  constructor
  · intro hz
    refine ⟨hz, fun t ht _ => ?_⟩
    have h1 := ((Z_end g s).1 hz).2
    have h2 := ((Z_end g t).1 ht).2
    funext u; rw [h1, h2]
  · exact fun h => h.1
theorem LOk.low {V L : Int} {c c1 : Cells} {h x v : Int} (k : LOk V L c c1 h x) (hv : v < topM c h) : v < topM c1 x ∧ lows L c1 ≤ lows L c + costL (L - (v + 1)).toNat := by
  have h1 := k.top; have h2 := k.cnt; have h3 := costL_kid L v hv
  exact ⟨by omega, by omega⟩
theorem lok_node {V L : Int} (hV : V ≤ 24) {c c1 c2 c3 : Cells} {h x1 x2 x3 : Int} {n : Nd} {r : Cells × Int × Nat} (o : ZOk V c) (g : getM c h = some n) (K1 : LOk V L c c1 n.2.1 x1) (K2 : LOk V L c1 c2 n.2.2 x2) (W : WOk V L .free c2 c3 x2 x1 x3) (N : NodeZ L c3 n.1 x1 x3 r) : LOk V L c r.1 h r.2.1 := by
  obtain ⟨b1, b2, k1, k2, k3, k4⟩ := o.ok.kids g
  have hvV : n.1 < V := by obtain ⟨k, _, h1, _⟩ := getM_some g; exact o.vlt k n h1
  have l1 := K1.low k3
  have l2 := K2.low (v := n.1) (by rw [K1.ext.top k2]; exact k4)
  have l3 := (W.low (v := n.1) l2.1 (by rw [K2.ext.top K1.has]; exact l1.1)).2
  have l4 := N.cnt
  have cs := costL_step L n.1
  have hc : Kd.free.cost = costF := rfl
  rw [hc] at l3
  refine ⟨zok_node W.zok hvV N, ((K1.ext.trans K2.ext).trans W.ext).trans N.ext, N.has, fun s => (N.z s).trans ?_, by rw [top_node g]; exact N.top, by rw [top_node g]; omega⟩
  rw [← mix_least (v := n.1) (Z_small hV o h) s]
  have e0 : ∀ s, Z c n.2.1 s ↔ without n.1 (Z c h) s := fun s => Z_low o.ok g s
  have e1 : ∀ s, Z c n.2.2 s ↔ withV n.1 (Z c h) s := fun s => Z_high o.ok g s
  have q1 : ∀ s, Z c2 x1 s ↔ leastP (without n.1 (Z c h)) s := fun s => (Z_ext K1.zok.ok K2.zok.ok K2.ext x1 K1.has s).trans ((K1.z s).trans (least_congr e0 s))
  refine mixF_congr (fun s => ?_) (fun s => ?_) s
  · rw [W.old K2.zok (K2.ext.has K1.has)]; exact q1 s
  · rw [W.z]
    refine Kd.free.sem_congr (fun s => ?_) q1 s
    rw [K2.z]
    exact least_congr (fun s => (Z_ext o.ok K1.zok.ok K1.ext _ k2 s).trans (e1 s)) s

set_option maxRecDepth 100000 in
set_option maxHeartbeats 4000000 in
theorem Least_in {V L : Int} (hV : V ≤ 24) (hL : V ≤ L + 3) {s : Fb} : ∀ (f : Nat) (h : Int) (w : World) (c : Cells), IsStore w s V c → ZOk V c → hasM c h = true → (24 - topM c h).toNat < f → lows L c + costL (L - topM c h).toNat + hiB V L < c.length →
    Calls Try.prog 61 #[.pointer (some ⟨s.ps, 0, none⟩), .int .i64 h] w (LPost V L s c h w)
  | 0, _, _, _, _, _, _, hf, _ => absurd hf (Nat.not_lt_zero _)
  | f + 1, h, w, c, hs, zo, hh, hf, hr => by
    have Hih := Lib.hid (Least_in hV hL (s := s) f)
    have c0 := hs.s0
    have lps := hs.lps
    have hg := get_any h w s.b c hs.ar (hs.le hh)
    have hhas := fun w' (ha : IsArena w' s.b c) => has_any h w' s.b c ha (hs.le hh)
    have Hhas := Lib.hid hhas; have Hs := Lib.hid hs; have Hz := Lib.hid zo; have Hh := Lib.hid hh; have Hf := Lib.hid hf; have Hr := Lib.hid hr
    clear hs zo hh hf hr hhas
    cases g : getM c h with
    | none =>
      rw [g] at hg
      have Hg := Lib.hid hg; have G := Lib.hid g; clear hg g
      have hb : Below w.heap.size w ((w.alloc (.cells #[.int .i64 0, .int .i64 0, .int .i64 0] 32)).alloc (.cells #[.int .i64 0, .int .i64 0, .int .i64 0] 32)) := ((Below.refl _ _).alloc (Nat.le_refl _) _).alloc (by simp) _
      have hha := Hhas.out _ (Hs.out.ar.below hb)
      rw [Hh.out] at hha
      have Hha := Lib.hid hha; have HB := Lib.hid hb; clear hha hb Hhas
      go_enter Try.func61, Try.ntmps61
      go_wp2_with fail
      refine Hg.out.mono ?_
      rintro e w1 ⟨rfl, rfl⟩
      simp only [gotV, encNd, Option.getD_none, Option.isSome_none]
      go_wp2_with fail
      refine Hha.out.mono ?_
      rintro e w1 ⟨rfl, rfl⟩
      go_wp2_with fail
      go_ret2
      exact ⟨c, h, rfl, Hs.out.below HB.out, Only.of_below HB.out rfl, Hz.out, Ext.refl _, Hh.out, least_end G.out, Int.le_refl _, Nat.le_add_right _ _⟩
    | some n =>
      obtain ⟨u, lo, hi⟩ := n
      rw [g] at hg
      obtain ⟨b1, b2, k1, k2, k3, k4⟩ := Hz.out.ok.kids g
      have ht := top_node g
      have huV : u < V := by obtain ⟨k, _, h1, _⟩ := getM_some g; exact Hz.out.vlt k _ h1
      dsimp only at b1 b2 k1 k2 k3 k4 ht
      have hf2 := Hf.out; have hr2 := Hr.out
      rw [ht] at hf2 hr2
      have cs := costL_step L u
      have hb : Below w.heap.size w ((w.alloc (.cells #[.int .i64 u, .int .i64 lo, .int .i64 hi] 32)).alloc (.cells #[.int .i64 u, .int .i64 lo, .int .i64 hi] 32)) := ((Below.refl _ _).alloc (Nat.le_refl _) _).alloc (by simp) _
      have hkc := costL_kid L u k3
      have hq1 := Hih.out lo _ c (Hs.out.below hb) Hz.out k1 (by omega) (by omega)
      have Hq1 := Lib.hid hq1; have HB := Lib.hid hb; have Hg := Lib.hid hg; have G := Lib.hid g; have B1 := Lib.hid b1; have B2 := Lib.hid b2; have K1 := Lib.hid k1; have K2 := Lib.hid k2; have K3 := Lib.hid k3; have K4 := Lib.hid k4
      have HuV := Lib.hid huV; have Hf2 := Lib.hid hf2; have Hr2 := Lib.hid hr2; have Hcs := Lib.hid cs
      have hbx : ∀ j, s.b.mem j → j < w.heap.size := fun j hj => Hs.out.lt hj
      have Hbx := Lib.hid hbx
      clear hq1 hb hg g b1 b2 k1 k2 k3 k4 ht huV hf2 hr2 cs hkc hbx Hhas Hr Hf
      go_enter Try.func61, Try.ntmps61
      go_wp2_with fail
      refine Hg.out.mono ?_
      rintro e w1 ⟨rfl, rfl⟩
      simp only [gotV, encNd, Option.getD_some, Option.isSome_some]
      go_wp2_with fail
      have bx0 : ((w.alloc (.cells #[.int .i64 u, .int .i64 lo, .int .i64 hi] 32)).alloc (.cells #[.int .i64 u, .int .i64 lo, .int .i64 hi] 32)).heap[w.heap.size + 1]? = some (.cells #[.int .i64 u, .int .i64 lo, .int .i64 hi] 32 (0, 0)) := heap_at (by simp)
      have Hbx0 := Lib.hid bx0; clear bx0
      generalize (w.alloc (.cells #[.int .i64 u, .int .i64 lo, .int .i64 hi] 32)).alloc (.cells #[.int .i64 u, .int .i64 lo, .int .i64 hi] 32) = w0 at Hq1 HB Hbx0 ⊢
      refine Hq1.out.mono ?_
      rintro e w2 ⟨c1, x1, rfl, hs2, ho2, L1⟩
      have nb : ¬ s.b.mem (w.heap.size + 1) := fun hm => by have := Hbx.out _ hm; omega
      have bx2 := (ho2.block _ (lt_of_block Hbx0.out) nb).trans Hbx0.out
      have l1 := L1.low K3.out
      have t2 : topM c1 hi = topM c hi := L1.ext.top K2.out
      have hq2 := Hih.out hi w2 c1 hs2 L1.zok (L1.ext.has K2.out) (by have := Hf2.out; have := K4.out; have := B2.out; omega) (by
        have h5 := costL_kid L u K4.out; have h6 := Hr2.out; have h7 := Hcs.out; have h8 := L1.ext.len; have h9 := l1.2; rw [t2]; omega)
      have d2 : w2.cell? ⟨w.heap.size + 1, 2, none⟩ = some (.int .i64 hi) := by rw [cell_of_row w2 _ _ _ _ _ bx2]; rfl
      have Hq2 := Lib.hid hq2; have HL1 := Lib.hid L1; have Ho2 := Lib.hid ho2; have Hl1 := Lib.hid l1; have Hbx2 := Lib.hid bx2; have Nb := Lib.hid nb
      clear hq2 L1 ho2 l1 bx2 nb hs2 t2 Hq1 Hbx0
      go_wp2_with fail
      refine Hq2.out.mono ?_
      rintro e w3 ⟨c2, x2, rfl, hs3, ho3, L2⟩
      clear d2
      have bx3 := (ho3.block _ (lt_of_block Hbx2.out) Nb.out).trans Hbx2.out
      have l2 := L2.low (v := u) (by rw [HL1.out.ext.top K2.out]; exact K4.out)
      have t1 : u < topM c2 x1 := by rw [L2.ext.top HL1.out.has]; exact Hl1.out.1
      have hq3 := ffree_any hV hL x2 x1 w3 c2 hs3 L2.zok L2.has (L2.ext.has HL1.out.has) (by
        have h5 := cost_two Kd.free L l2.1 t1; have h6 := Hr2.out; have h7 := Hcs.out; have h8 := HL1.out.ext.len; have h8' := L2.ext.len; have h9 := Hl1.out.2; have h9' := l2.2
        have h10 : Kd.free.cost = costF := rfl
        rw [h10] at h5; rw [h10]; omega)
      have Hq3 := Lib.hid hq3; have HL2 := Lib.hid L2; have Ho3 := Lib.hid ho3; have Hl2 := Lib.hid l2; have Hbx3 := Lib.hid bx3; have T1 := Lib.hid t1
      clear hq3 L2 ho3 l2 bx3 t1 hs3 Hq2 Hbx2
      go_wp2_with fail
      refine Hq3.out.mono ?_
      rintro e w4 ⟨c3, x3, rfl, hs4, ho4, W⟩
      have bx4 := (ho4.block _ (lt_of_block Hbx3.out) Nb.out).trans Hbx3.out
      have l3 := W.low (v := u) Hl2.out.1 T1.out
      have h1c3 : hasM c3 x1 = true := W.ext.has (HL2.out.ext.has HL1.out.has)
      have hn := nodeZ_spec L W.zok.ok W.zok.red B1.out B2.out h1c3 W.has (by rw [W.ext.top (HL2.out.ext.has HL1.out.has)]; exact T1.out) l3.1 (by
        have h5 := cnt_lows W.zok hL; have h6 := Hr2.out; have h7 := Hcs.out; have h8 := HL1.out.ext.len; have h8' := HL2.out.ext.len; have h8'' := W.ext.len; have h9 := Hl1.out.2; have h9' := Hl2.out.2; have h9'' := l3.2
        have h10 : Kd.free.cost = costF := rfl
        rw [h10] at h9''; omega)
      have mk := lok_node hV Hz.out G.out HL1.out HL2.out W hn
      have hq := fnode_any u x1 x3 w4 s V c3 hs4 (hs4.le h1c3) (hs4.le W.has)
      rw [hn.err] at hq
      simp only [errV, if_true] at hq
      generalize nodeZ c3 u x1 x3 = R at hq mk
      obtain ⟨c4, x4, n4⟩ := R
      dsimp only at hq mk
      have d0 : w4.cell? ⟨w.heap.size + 1, 0, none⟩ = some (.int .i64 u) := by rw [cell_of_row w4 _ _ _ _ _ bx4]; rfl
      have Hq4 := Lib.hid hq; have Hmk := Lib.hid mk; have Ho4 := Lib.hid ho4
      clear hq mk ho4 hn W l3 h1c3 hs4 bx4 Hq3
      go_wp2_with fail
      refine Hq4.out.mono ?_
      rintro e w5 ⟨rfl, hs5, ho5⟩
      have Hs5 := Lib.hid hs5; have Ho5 := Lib.hid ho5; clear hs5 ho5 d0
      go_wp2_with fail
      go_ret2
      exact ⟨c4, x4, rfl, Hs5.out, ((((Only.of_below HB.out rfl).trans Ho2.out).trans Ho3.out).trans Ho4.out).trans Ho5.out, Hmk.out⟩
theorem Least_any {V L : Int} (hV : V ≤ 24) (hL : V ≤ L + 3) {s : Fb} (h : Int) (w : World) (c : Cells) (hs : IsStore w s V c) (zo : ZOk V c) (hh : hasM c h = true) (hr : lows L c + costL (L - topM c h).toNat + hiB V L < c.length) :
    Calls Try.prog 61 #[.pointer (some ⟨s.ps, 0, none⟩), .int .i64 h] w (LPost V L s c h w) := Least_in hV hL 25 h w c hs zo hh (by have := topM_le zo.ok h; omega) hr
end Go.Proofs.Ytmlnfbageoabnaa
