/- The walk of again: right up to one height more, where mix is right. -/
import Derived.Test.YtmlnfbageoabnaaFamE
import Derived.Test.YtmlnfbageoabnaaQuiet
namespace Go.Proofs.Ytmlnfbageoabnaa
open Go.RowKit
set_option linter.unusedVariables false

/-- again on its way: the key lies in a box. -/
structure ASt (w wr : World) (s : Fb) (V : Int) (c : Cells) (md : Nat) (k : Kd) (q : Cb) (a b : Int) : Prop where
  st : IsStore wr s V c
  memo : MemoAt wr md k c
  env : Env wr k s md q
  only : Only (famMem s md) w wr
  lt : w.heap.size < wr.heap.size
  off : ∀ j, famMem s md j → j < w.heap.size
  b0 : wr.cell? ⟨w.heap.size, 0, none⟩ = some (.int .i64 a)
  b1 : wr.cell? ⟨w.heap.size, 1, none⟩ = some (.int .i64 b)
section
variable {w wr w2 : World} {s : Fb} {V : Int} {c c' : Cells} {md : Nat} {k : Kd} {q : Cb} {a b : Int}
theorem ASt.grow (h : ASt w wr s V c md k q a b) (hb : Below wr.heap.size wr w2) : ASt w w2 s V c md k q a b :=
  ⟨h.st.below hb, h.memo.below hb, h.env.below hb, h.only.trans (Only.of_below hb rfl), Nat.lt_of_lt_of_le h.lt hb.size, h.off, (hb.cell h.lt).trans h.b0, (hb.cell h.lt).trans h.b1⟩
theorem ASt.step (h : ASt w wr s V c md k q a b) (hs : IsStore w2 s V c') (hm : MemoAt w2 md k c') (ho : Only (famMem s md) wr w2) : ASt w w2 s V c' md k q a b := by
  have hn : ¬ famMem s md w.heap.size := fun hk => by have := h.off _ hk; omega
  exact ⟨hs, hm, h.env.only ho, h.only.trans ho, Nat.lt_of_lt_of_le h.lt ho.size, h.off, (ho.cell h.lt hn).trans h.b0, (ho.cell h.lt hn).trans h.b1⟩
theorem ast_start (hs : IsStore w s V c) (hm : MemoAt w md k c) (he : Env w k s md q) : ASt w (w.alloc (.cells #[.int .i64 a, .int .i64 b] 115)) s V c md k q a b := by
  have hb : Below w.heap.size w (w.alloc (.cells #[.int .i64 a, .int .i64 b] 115)) := (Below.refl _ _).alloc (Nat.le_refl _) _
  exact ⟨hs.below hb, hm.below hb, he.below hb, Only.of_below hb rfl, by simp, fun j hj => hj.elim (fun h => hs.lt h) (fun h => h ▸ hm.lt), by simp, by simp⟩
theorem ASt.put (h : ASt w wr s V c md k q a b) {mq : List ((Int × Int) × Value)} (hg : ∀ x y v, assoc mq (x, y) = some v → ∃ z, v = .int .i64 z ∧ FGood k c x y z) {x : Int} (g : FGood k c a b x) {o : Obj} (hm : MapOf (setObjW wr md o) md enc2 (putAssoc mq (a, b) (.int .i64 x))) :
    IsStore (setObjW wr md o) s V c ∧ MemoAt (setObjW wr md o) md k c ∧ Only (famMem s md) w (setObjW wr md o) := by
  have ho : Only (· = md) wr (setObjW wr md o) := ⟨rfl, rfl, rfl, by simp [setObjW], fun k _ hk => setObjW_other o hk⟩
  refine ⟨h.st.only ho (fun e => h.env.md.2 e) (fun j hj e => h.env.md.1 (e ▸ hj)), ⟨_, hm, fun x' y' v hv => ?_⟩, h.only.trans (ho.mono fun j hj => .inr hj)⟩
  rw [assoc_put] at hv
  split at hv
  · rename_i e
    simp only [Prod.mk.injEq] at e
    obtain ⟨rfl, rfl⟩ := e
    cases hv
    exact ⟨x, rfl, g⟩
  · exact hg x' y' v hv
end

theorem wok_known {V L : Int} {k : Kd} {c : Cells} {a b x : Int} (o : ZOk V c) (g : FGood k c a b x) : WOk V L k c c a b x :=
  ⟨o, Ext.refl _, g.hx, g.z, g.top, Nat.le_add_right _ _⟩
theorem good_ends {V : Int} {k : Kd} {c : Cells} {a b x : Int} (o : ZOk V c) (ha : hasM c a = true) (hb : hasM c b = true) (e : k.ends a b = some x) : FGood k c a b x := by
  obtain ⟨h1, h2, h3⟩ := ends_sound o.ok k ha hb e
  exact ⟨ha, hb, h1, h2, h3⟩

theorem wok_mix {V L : Int} {k : Kd} {c c' : Cells} {a b v x : Int} (hv : v = min (topM c a) (topM c b)) (A : AtZ c a v (atZ c a v)) (B : AtZ c b v (atZ c b v)) (m : MOk V L k c c' v (atZ c a v).1 (atZ c a v).2 (atZ c b v).1 (atZ c b v).2 x) : WOk V L k c c' a b x :=
  ⟨m.zok, m.ext, m.has, fun s => (m.z s).trans ((k.mix_congr v A.z1 A.z2 B.z1 B.z2 s).trans (k.mix_sem v _ _ s)), by rw [← hv]; exact m.top, by rw [← hv]; exact m.cnt⟩
theorem wok_good {V L : Int} {k : Kd} {c c' : Cells} {a b x : Int} (o : ZOk V c) (ha : hasM c a = true) (hb : hasM c b = true) (h : WOk V L k c c' a b x) : FGood k c' a b x :=
  ⟨h.ext.has ha, h.ext.has hb, h.has, fun s => (h.z s).trans (k.sem_congr (fun s => (Z_ext o.ok h.zok.ok h.ext a ha s).symm) (fun s => (Z_ext o.ok h.zok.ok h.ext b hb s).symm) s), by rw [h.ext.top ha, h.ext.top hb]; exact h.top⟩

set_option maxRecDepth 100000 in
set_option maxHeartbeats 8000000 in
theorem again_step {V L : Int} (hV : V ≤ 24) {k : Kd} {s : Fb} {md : Nat} {q : Cb} {f : Nat} (hmix : MixOk V L k s md q f) : AgainOk V L k s md q (f + 1) := by
  intro a b w c hs hm he zo ha hb hf hr
  have Hmix := Lib.hid hmix
  have la := hs.le ha
  have lb := hs.le hb
  have ce := he.ce
  have Hs := Lib.hid hs; have Hm := Lib.hid hm; have He := Lib.hid he; have Hz := Lib.hid zo; have Hha := Lib.hid ha; have Hhb := Lib.hid hb; have Hf := Lib.hid hf; have Hr := Lib.hid hr
  have Hen := Lib.hid (ends_any k a b w)
  clear hmix hs hm he zo ha hb hf hr
  unfold argsW
  cases hE : k.ends a b with
  | some x =>
    have HE := Lib.hid hE; clear hE
    go_enter Try.func106, Try.ntmps106
    go_wp2_with fail
    refine Hen.out.mono ?_
    rintro e w1 ⟨rfl, rfl⟩
    rw [HE.out]
    simp only [Option.getD_some, Option.isSome_some]
    go_wp2_with fail
    go_ret2
    exact ⟨c, x, rfl, Hs.out, Hm.out, Only.refl _ _, wok_known Hz.out (good_ends Hz.out Hha.out Hhb.out HE.out)⟩
  | none =>
    have HE := Lib.hid hE; clear hE
    go_enter Try.func106, Try.ntmps106
    go_wp2_with fail
    refine Hen.out.mono ?_
    rintro e w1 ⟨rfl, rfl⟩
    rw [HE.out]
    simp only [Option.getD_none, Option.isSome_none]
    have hi0 := ast_start (a := a) (b := b) Hs.out Hm.out He.out
    have cd := hi0.env.cd
    have b0 := hi0.b0
    have b1 := hi0.b1
    obtain ⟨mq, hmq, hg⟩ := hi0.memo
    have Hi0 := Lib.hid hi0; have Hmq := Lib.hid hmq; have Hg := Lib.hid hg; clear hi0 hmq hg
    cases hv : assoc mq (a, b) with
    | some v =>
      obtain ⟨x, rfl, g⟩ := Hg.out a b v hv
      have G := Lib.hid g; have Hv := Lib.hid hv; clear g hv
      go_wp2_with (at_lookup; refine wpList_lookup_of rfl (.tmp 36) (.tmp 37) 130 true rfl (kt := 115) (et := 3) (enc := enc2) key2 Try.underlying130 (zeroInt _) (b := md) rfl (l := mq) Hmq.out (k := (a, b)) rfl ?_; rw [Hv.out]; simp only [Option.getD_some, Option.isSome_some, if_true])
      go_ret2
      exact ⟨c, x, rfl, Hi0.out.st, Hi0.out.memo, Hi0.out.only, wok_known Hz.out G.out⟩
    | none =>
      have Hv := Lib.hid hv; clear hv
      go_wp2_with (at_lookup; refine wpList_lookup_of rfl (.tmp 36) (.tmp 37) 130 true rfl (kt := 115) (et := 3) (enc := enc2) key2 Try.underlying130 (zeroInt _) (b := md) rfl (l := mq) Hmq.out (k := (a, b)) rfl ?_; rw [Hv.out]; simp only [Option.getD_none, Option.isSome_none, if_true])
      clear cd b0 b1 ce Hmq Hg Hv Hen
      obtain ⟨hvV, hv0⟩ := ends_none Hz.out k Hha.out Hhb.out HE.out
      obtain ⟨v, hv⟩ : ∃ v, v = min (topM c a) (topM c b) := ⟨_, rfl⟩
      have hva : v ≤ topM c a := by omega
      have hvb : v ≤ topM c b := by omega
      rw [← hv] at hvV hv0
      have A := atZ_spec Hz.out.ok Hha.out hva (by omega)
      have B := atZ_spec Hz.out.ok Hhb.out hvb (by omega)
      have hf2 := Hf.out
      have hr2 := Hr.out
      rw [← hv] at hf2 hr2
      obtain ⟨ta, hta⟩ : ∃ t, t = topM c a := ⟨_, rfl⟩
      obtain ⟨tb, htb⟩ : ∃ t, t = topM c b := ⟨_, rfl⟩
      have hmin : (if tb < ta then tb else ta) = v := by rw [hv, ← hta, ← htb]; split <;> omega
      have Hta := Lib.hid hta.symm; have Htb := Lib.hid htb.symm; have Hmin := Lib.hid hmin; have HA := Lib.hid A; have HB := Lib.hid B; have HvV := Lib.hid hvV; have Hv0 := Lib.hid hv0; have Hv := Lib.hid hv; have Hf2 := Lib.hid hf2; have Hr2 := Lib.hid hr2
      clear hta htb hmin A B hvV hv0 hv hf2 hr2 hva hvb
      generalize w.alloc (.cells #[.int .i64 a, .int .i64 b] 115) = w0 at Hi0 ⊢
      refine wp_region_class (fun w' => ASt w w' s V c md k q a b) (by kernel_rfl) (by kernel_rfl) (Hi0.out.grow (Below.refl _ _).drew) ?_
      go_big_quiet_want
      refine quiet_run (.pointer (some ⟨s.ps, 0, none⟩)) (fun w' hc => by have c4 := hc.env.cs; go_simp) ?_
      simp [Act.put]
      go_big_quiet_on
      go_big_quiet_want
      refine quiet_run (.pointer (some ⟨s.ps, 0, none⟩)) (fun w' hc => by go_simp) ?_
      simp [Act.put]
      go_big_quiet_on
      go_big_quiet_want
      refine quiet_run (.pointer (some ⟨s.ps, 0, none⟩)) (fun w' hc => by go_simp) ?_
      simp [Act.put]
      go_big_quiet_on
      go_big_quiet_want
      refine quiet_run (.pointer (some ⟨s.b.p, 0, none⟩)) (fun w' hc => by have c0 := hc.st.s0; go_simp) ?_
      simp [Act.put]
      go_big_quiet_on
      go_big_quiet_want
      go_big_quiet_op
      go_big_quiet_on
      go_big_quiet_want
      refine quiet_call (.int .i64 ta) 65 #[.pointer (some ⟨s.b.p, 0, none⟩), .int .i64 a] (fun w' => by go_simp) (fun w' hc => (top_any a w' s.b c hc.st.ar la).mono fun e w2 he => ⟨by rw [← Hta.out]; exact he.1, hc.grow he.2⟩) ?_
      simp [Act.put]
      go_big_quiet_on
      go_big_quiet_want
      refine quiet_run (.pointer (some ⟨s.ps, 0, none⟩)) (fun w' hc => by have c4 := hc.env.cs; go_simp) ?_
      simp [Act.put]
      go_big_quiet_on
      go_big_quiet_want
      refine quiet_run (.pointer (some ⟨s.ps, 0, none⟩)) (fun w' hc => by go_simp) ?_
      simp [Act.put]
      go_big_quiet_on
      go_big_quiet_want
      refine quiet_run (.pointer (some ⟨s.ps, 0, none⟩)) (fun w' hc => by go_simp) ?_
      simp [Act.put]
      go_big_quiet_on
      go_big_quiet_want
      refine quiet_run (.pointer (some ⟨s.b.p, 0, none⟩)) (fun w' hc => by have c0 := hc.st.s0; go_simp) ?_
      simp [Act.put]
      go_big_quiet_on
      go_big_quiet_want
      go_big_quiet_op
      go_big_quiet_on
      go_big_quiet_want
      refine quiet_call (.int .i64 tb) 65 #[.pointer (some ⟨s.b.p, 0, none⟩), .int .i64 b] (fun w' => by go_simp) (fun w' hc => (top_any b w' s.b c hc.st.ar lb).mono fun e w2 he => ⟨by rw [← Htb.out]; exact he.1, hc.grow he.2⟩) ?_
      simp [Act.put]
      go_big_quiet_on
      go_big_quiet_want
      refine quiet_run (.int .i64 v) (fun w' hc => by have hm := Hmin.out; go_simp) ?_
      simp [Act.put]
      go_big_quiet_on
      go_big_quiet_want
      go_big_quiet_op
      go_big_quiet_on
      refine wpQuiet_nil ?_
      intro w1 hi1
      have c4 := hi1.env.cs
      have Hi1 := Lib.hid hi1; clear hi1 Hi0
      go_wp2_with fail
      refine (fat_any a v w1 s V c Hi1.out.st la).mono ?_
      rintro e w2 ⟨rfl, hb2⟩
      have Hi2 := Lib.hid (Hi1.out.grow hb2); clear hb2 Hi1 c4
      have c4 := Hi2.out.env.cs
      go_wp2_with fail
      refine (fat_any b v w2 s V c Hi2.out.st lb).mono ?_
      rintro e w3 ⟨rfl, hb3⟩
      have Hi3 := Lib.hid (Hi2.out.grow hb3); clear hb3 Hi2 c4
      have c5 := Hi3.out.env.cm
      have c6 := Hi3.out.env.ca
      unfold againV at c6
      have hq := Hmix.out v _ _ _ _ w3 c Hi3.out.st Hi3.out.memo Hi3.out.env Hz.out HA.out.has1 HA.out.has2 HB.out.has1 HB.out.has2 HA.out.top1 HA.out.top2 HB.out.top1 HB.out.top2 Hv0.out HvV.out Hf2.out Hr2.out
      unfold argsM againV at hq
      have Hq := Lib.hid hq; clear hq
      go_wp2_with fail
      refine Hq.out.mono ?_
      rintro e w4 ⟨c', x, rfl, hs4, hm4, ho4, hok4⟩
      have hwo := wok_mix Hv.out HA.out HB.out hok4
      have hi4 := Hi3.out.step hs4 hm4 ho4
      obtain ⟨mq4, hmq4, hg4⟩ := hm4
      have cd := hi4.env.cd
      have b0 := hi4.b0
      have b1 := hi4.b1
      have Hi4 := Lib.hid hi4; have Hmq4 := Lib.hid hmq4; have Hg4 := Lib.hid hg4; have Hwo := Lib.hid hwo
      clear hi4 hmq4 hg4 hwo hs4 ho4 hok4 Hi3 Hq c5 c6
      go_wp2_with (at_mapUpdate; refine wpList_mapUpdate_of rfl (.tmp 83) (.tmp 84) (.tmp 85) 130 rfl (kt := 115) (et := 3) (enc := enc2) key2 Try.underlying130 (b := md) rfl (l := mq4) Hmq4.out (k := (a, b)) rfl (.int .i64 x) rfl ?_; intro ob hob; have hi8 := Hi4.out.put Hg4.out (wok_good Hz.out Hha.out Hhb.out Hwo.out) hob; have Hi8 := Lib.hid hi8; clear hi8 hob Hi4; generalize setObjW w4 md ob = w8 at Hi8 ⊢)
      go_ret2
      exact ⟨c', x, rfl, Hi8.out.1, Hi8.out.2.1, Hi8.out.2.2, Hwo.out⟩
end Go.Proofs.Ytmlnfbageoabnaa
