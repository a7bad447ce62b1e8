/- Contract: Save's walk (2): the walk itself. -/
import Derived.Test.YthmflcmbaldflaaGreatDoorSavR
namespace Go.Proofs.YthmflcmbaldflaaGreatDoor
open Go.RowKit
set_option linter.unusedVariables false

/-- Rows and boxes that are no bytes, but the buffer, are as they were. -/
def KeepW (bb : Nat) (w w' : World) : Prop := w.heap.size ≤ w'.heap.size ∧ ∀ k cs T f, w.heap[k]? = some (.cells cs T f) → T ≠ 5 → k ≠ bb → w'.heap[k]? = some (.cells cs T f)
theorem KeepW.refl (bb : Nat) (w : World) : KeepW bb w w := ⟨Nat.le_refl _, fun _ _ _ _ h _ _ => h⟩
theorem KeepW.trans {bb : Nat} {a b c : World} (h : KeepW bb a b) (g : KeepW bb b c) : KeepW bb a c := ⟨Nat.le_trans h.1 g.1, fun k cs T f e h1 h2 => g.2 k cs T f (h.2 k cs T f e h1 h2) h1 h2⟩
theorem KeepW.of_below {bb : Nat} {w w' : World} (h : Below w.heap.size w w') : KeepW bb w w' := ⟨h.size, fun k cs T f e _ _ => (h.block k (Array.getElem?_eq_some_iff.1 e).1).trans e⟩
theorem KeepW.put {bb mb : Nat} {w : World} {o : Obj} (h : ∃ es cl, w.heap[mb]? = some (.map es cl)) : KeepW bb w (setObjW w mb o) := by
  obtain ⟨es, cl, hz⟩ := h
  exact ⟨by simp [setObjW], fun k cs T f e _ _ => (setObjW_other o (fun q => by subst q; rw [hz] at e; cases e)).trans e⟩
theorem SavI.nb0 {w0 w : World} {s : Sb} {nb mb sb kb bb : Nat} {c : Cells} {ks : List Int} (h : SavI w0 s nb mb sb kb bb c ks w) : w.cell? ⟨nb, 0, none⟩ = some (.map (some mb)) ∧ w.cell? ⟨sb, 0, none⟩ = some (.pointer (some ⟨s.ps, 0, none⟩)) ∧ w.cell? ⟨kb, 0, none⟩ = some (cloW nb sb kb bb) := by
  refine ⟨?_, ?_, ?_⟩
  · rw [cell_of_row w _ _ _ _ _ h.hn]; rfl
  · rw [cell_of_row w _ _ _ _ _ h.hs]; rfl
  · rw [cell_of_row w _ _ _ _ _ h.hk]; rfl
theorem cellsN {w : World} {p : Nat} {a b c : Value} {T : TypeId} (h : w.heap[p]? = some (.cells #[a, b, c] T (0, 0))) : w.cell? ⟨p, 0, none⟩ = some a ∧ w.cell? ⟨p, 1, none⟩ = some b ∧ w.cell? ⟨p, 2, none⟩ = some c := by
  refine ⟨?_, ?_, ?_⟩
  all_goals (rw [cell_of_row w p _ _ _ _ h]; rfl)
theorem dec_le {n : Nat} (h : n < 10000) : (dec n).length ≤ 20 := by have := dec_len h; omega
/-- The buffer takes a line more. -/
theorem wline_any {w0 W : World} {s : Sb} {nb mb sb kb bb : Nat} {c : Cells} {ks : List Int} {h : Int} {n : Nd} (hok : Ok c) (ko : KOk c ks) (hlen : c.length ≤ 4000) (hn : getM c h = some n) (h1 : n.2.1 ∈ ks) (h2 : n.2.2 ∈ ks)
    (hp : Below w0.heap.size w0 W ∧ W.heap[nb]? = some (.cells #[.map (some mb)] 60 (0, 0)) ∧ W.heap[sb]? = some (.cells #[.pointer (some ⟨s.ps, 0, none⟩)] 23 (0, 0)) ∧ W.heap[kb]? = some (.cells #[cloW nb sb kb bb] 65 (0, 0)) ∧
      NumOf W mb (ks ++ [h]) ∧ Lib.IsBuffer 64 5 w0.heap.size bb (Lib.byteCells (bodyM c ks)) W) (hge : w0.heap.size ≤ nb ∧ w0.heap.size ≤ mb ∧ w0.heap.size ≤ sb ∧ w0.heap.size ≤ kb) :
    Calls Tryz.prog 22 #[.pointer (some ⟨bb, 0, none⟩), .string (bytB (((((dec n.1.toNat ++ [32]) ++ dec (numM (ks ++ [h]) n.2.1)) ++ [32]) ++ dec (numM (ks ++ [h]) n.2.2)) ++ [10]))] W fun e w' => ∃ v, e = .returned v ∧ SavI w0 s nb mb sb kb bb c (ks ++ [h]) w' ∧ KeepW bb W w' := by
  obtain ⟨p1, p2, p3, p4, p5, p6⟩ := hp
  have hline : (((((dec n.1.toNat ++ [32]) ++ dec (numM (ks ++ [h]) n.2.1)) ++ [32]) ++ dec (numM (ks ++ [h]) n.2.2)) ++ [10]) = lineM c ks h := by
    unfold lineM
    rw [hn, numM_app h1, numM_app h2]
    simp
  rw [hline]
  have hkl := ko.le
  have hl1 := bodyM_len hok (show ks.length < 10000 by omega)
  have hl2 := lineM_len hok (show ks.length < 10000 by omega) h
  have hsz : (bytB (lineM c ks h)).size = (lineM c ks h).length := rfl
  refine Calls.mono (Any.Buffer_WriteString_kept Tryz.lays178 w0.heap.size bb _ _ W p6 p1.size (fun v hv => ?_) (by rw [Lib.byteCells_length, hsz]; omega)) ?_
  · unfold Lib.byteCells at hv
    obtain ⟨x, _, rfl⟩ := List.mem_map.1 hv
    rfl
  · rintro e w' ⟨rfl, hbuf, hbel, hoth⟩
    have nc : ∀ (o : Obj), (∃ cs T f, o = .cells cs T f ∧ T ≠ 5) → ∀ c fz, o ≠ .cells c 5 fz := by
      rintro o ⟨cs, T, f, rfl, hT⟩ c fz e
      injection e with _ e2 _
      exact hT e2
    have hbb : W.heap[bb]? ≠ none := by
      have := p6.lt
      rw [Array.getElem?_eq_getElem this]; simp
    obtain ⟨hB, vv, lr, hbk, _, _⟩ := id p6
    have ne : ∀ {k : Nat} {cs : Array Value} {T : TypeId}, W.heap[k]? = some (.cells cs T (0, 0)) → T ≠ 64 → some k ≠ some bb := by
      intro k cs T hk hT e
      injection e with e
      subst e
      rw [hbk] at hk
      injection hk with hk
      injection hk with _ e2 _
      exact hT e2.symm
    refine ⟨_, rfl, ⟨p1.trans hbel, hoth _ _ p2 (ne p2 (by decide)) (nc _ ⟨_, _, _, rfl, by decide⟩), hoth _ _ p3 (ne p3 (by decide)) (nc _ ⟨_, _, _, rfl, by decide⟩), hoth _ _ p4 (ne p4 (by decide)) (nc _ ⟨_, _, _, rfl, by decide⟩), ?_, ?_, hge⟩, ⟨?_, fun k cs T f hk hT hkb => hoth _ _ hk (fun e => by injection e with e; exact hkb e) (nc _ ⟨_, _, _, rfl, hT⟩)⟩⟩
    · obtain ⟨es, cl, hz⟩ := p5.isMap
      refine p5.keep ?_
      rw [hz]
      exact hoth _ _ hz (fun e => by injection e with e; subst e; rw [hbk] at hz; cases hz) (fun c fz e => by cases e)
    · rw [bodyM_snoc ko hn h1 h2]
      have : Lib.byteCells (bodyM c ks ++ lineM c ks h) = Lib.byteCells (bodyM c ks) ++ Lib.byteCells (lineM c ks h) := by unfold Lib.byteCells; exact List.map_append
      rw [this]
      exact hbuf
    · exact hbel.size
set_option maxRecDepth 100000 in
set_option maxHeartbeats 8000000 in
theorem walk_in {w0 : World} {s : Sb} {V : Int} {st : Sp} {nb mb sb kb bb : Nat} {c : Cells} (hs0 : IsSpace w0 s V st) (hc : st.c = c) (hok : Ok c) (hlaid : LaidR w0) (hlen : c.length ≤ 4000) : ∀ (f : Nat) (h : Int) (ks : List Int) (w : World), SavI w0 s nb mb sb kb bb c ks w → KOk c ks → hasM c h = true → (24 - topM c h).toNat < f →
    Calls Tryz.prog 20 #[.int .i64 h, .pointer (some ⟨nb, 0, none⟩), .pointer (some ⟨sb, 0, none⟩), .pointer (some ⟨kb, 0, none⟩), .pointer (some ⟨bb, 0, none⟩)] w fun e w' => e = .returned (.tuple #[]) ∧ SavI w0 s nb mb sb kb bb c (walkM f c h ks) w' ∧ KeepW bb w w'
  | 0, _, _, _, _, _, _, hf => absurd hf (Nat.not_lt_zero _)
  | f + 1, h, ks, w, hI, hk, hh, hf => by
    have Hih := Lib.hid (walk_in (nb := nb) (mb := mb) (sb := sb) (kb := kb) (bb := bb) hs0 hc hok hlaid hlen f)
    have lh : h ≤ 9223372036854775807 := by have := hasM_le hh; omega
    obtain ⟨c1, c2, c3⟩ := hI.nb0
    obtain ⟨mq, hmq, hml, hmv⟩ := hI.num
    have l1 : nb < w.heap.size := (Array.getElem?_eq_some_iff.1 hI.hn).1
    have l2 : sb < w.heap.size := (Array.getElem?_eq_some_iff.1 hI.hs).1
    have l3 : kb < w.heap.size := (Array.getElem?_eq_some_iff.1 hI.hk).1
    unfold cloW at c3
    have HI := Lib.hid hI; have Hk := Lib.hid hk; have Hh := Lib.hid hh; have Hf := Lib.hid hf; have Hs0 := Lib.hid hs0; have Hc := Lib.hid hc; have Hok := Lib.hid hok; have Hl := Lib.hid hlaid; have Hlen := Lib.hid hlen; have Hmq := Lib.hid hmq; have Hml := Lib.hid hml
    clear hI hk hh hf hs0 hc hok hlaid hlen hmq hml
    have hx := hmv h
    have Hmv := Lib.hid hmv; clear hmv
    by_cases hm : h ∈ ks
    · rw [if_pos hm] at hx
      have Hx := Lib.hid hx; clear hx
      have e : walkM (f + 1) c h ks = ks := by unfold walkM; rw [if_pos hm]
      rw [e]
      have Hm := Lib.hid hm; clear hm e
      go_enter Tryz.func20, Tryz.ntmps20
      go_wp2_with (at_lookup; refine wpList_lookup_of rfl (.tmp 11) (.tmp 12) 60 true rfl (kt := 3) (et := 3) (enc := Value.int .i64) (intKey Tryz.underlying3) Tryz.underlying60 (zeroInt _) (b := mb) rfl (l := mq) Hmq.out (k := h) rfl ?_; rw [Hx.out]; simp only [Option.getD_some, Option.isSome_some, if_true])
      refine bodyPost_ret (results_none rfl _ _ _) rfl ?_
      exact ⟨rfl, HI.out, KeepW.refl _ _⟩
    · rw [if_neg hm] at hx
      have Hx := Lib.hid hx; clear hx
      cases g : getM c h with
      | none =>
        rcases getM_none_of_has Hh.out g with rfl | rfl
        · exact absurd Hk.out.zero hm
        · exact absurd Hk.out.one hm
      | some n =>
        obtain ⟨u, lo, hi⟩ := n
        have e : walkM (f + 1) c h ks = walkM f c hi (walkM f c lo ks) ++ [h] := by rw [walkM, if_neg hm, g]
        rw [e]
        clear e
        obtain ⟨b1, b2, k1, k2, k3, k4⟩ := Hok.out.kids g
        dsimp only at b1 b2 k1 k2 k3 k4
        have ht := top_node g
        dsimp only at ht
        obtain ⟨a1, a2, a3⟩ := walkM_ok Hok.out f lo ks (by have := Hf.out; omega) k1 Hk.out
        obtain ⟨d1, d2, d3⟩ := walkM_ok Hok.out f hi _ (by have := Hf.out; omega) k2 a1
        have hni : h ∉ walkM f c hi (walkM f c lo ks) := by
          intro hin
          rcases walkM_top Hok.out f _ _ h hin with h2 | h2
          · rcases walkM_top Hok.out f _ _ h h2 with h3 | h3
            · exact hm h3
            · omega
          · omega
        have hsW := Hs0.out.below HI.out.bel
        have hsp0 := hsW.s0
        have hget := get_any h w s.b st.c hsW.ar lh
        rw [Hc.out, g] at hget
        have Hg := Lib.hid hget; have G := Lib.hid g; have HsW := Lib.hid hsW; have Hk1 := Lib.hid k1; have Hk2 := Lib.hid k2; have Ha1 := Lib.hid a1; have Ha2 := Lib.hid a2; have Hd1 := Lib.hid d1; have Hd2 := Lib.hid d2; have Hd3 := Lib.hid d3; have Hni := Lib.hid hni
        have Hf1 := Lib.hid (show (24 - topM c lo).toNat < f by have := Hf.out; omega)
        have Hf2 := Lib.hid (show (24 - topM c hi).toNat < f by have := Hf.out; omega)
        have Hb := Lib.hid (And.intro b1 b2)
        clear hget g hsW k1 k2 k3 k4 a1 a2 a3 d1 d2 d3 hni b1 b2 ht hm
        go_enter Tryz.func20, Tryz.ntmps20
        go_wp2_with (at_lookup; refine wpList_lookup_of rfl (.tmp 11) (.tmp 12) 60 true rfl (kt := 3) (et := 3) (enc := Value.int .i64) (intKey Tryz.underlying3) Tryz.underlying60 (zeroInt _) (b := mb) rfl (l := mq) Hmq.out (k := h) rfl ?_; rw [Hx.out]; simp only [Option.getD_none, Option.isSome_none, if_true])
        refine Hg.out.mono ?_
        rintro e w1 ⟨rfl, rfl⟩
        simp only [gotV, encNd, Option.getD_some, Option.isSome_some]
        go_wp2_with fail
        have hb2 : Below w.heap.size w ((w.alloc (.cells #[.int .i64 u, .int .i64 lo, .int .i64 hi] 68)).alloc (.cells #[.int .i64 u, .int .i64 lo, .int .i64 hi] 68)) := ((Below.refl _ _).alloc (Nat.le_refl _) _).alloc (by simp) _
        have hI2 := HI.out.grow hb2
        have hkp2 : KeepW bb w _ := KeepW.of_below hb2
        have hnd2 : ((w.alloc (.cells #[.int .i64 u, .int .i64 lo, .int .i64 hi] 68)).alloc (.cells #[.int .i64 u, .int .i64 lo, .int .i64 hi] 68)).heap[w.heap.size + 1]? = some (.cells #[.int .i64 u, .int .i64 lo, .int .i64 hi] 68 (0, 0)) := heap_at (by simp)
        have hne : w.heap.size + 1 ≠ bb := by have := HI.out.buf.lt; omega
        have Hne := Lib.hid hne; clear hne hb2
        generalize (w.alloc (.cells #[.int .i64 u, .int .i64 lo, .int .i64 hi] 68)).alloc (.cells #[.int .i64 u, .int .i64 lo, .int .i64 hi] 68) = w2 at hI2 hkp2 hnd2 ⊢
        have Hi2 := Lib.hid hI2; have Hkp2 := Lib.hid hkp2; have Hnd2 := Lib.hid hnd2; clear hI2 hkp2 hnd2
        have q := Hih.out lo ks w2 Hi2.out Hk.out Hk1.out Hf1.out
        refine q.mono ?_
        clear q c1 c2 c3 l1 l2 l3
        rintro e w3 ⟨rfl, hI3, hkp3⟩
        have hnd3 := hkp3.2 _ _ _ _ Hnd2.out (by decide) Hne.out
        obtain ⟨c1, c2, c3⟩ := hI3.nb0
        unfold cloW at c3
        obtain ⟨b0, b1, b2⟩ := cellsN hnd3
        have Hi3 := Lib.hid hI3; have Hkp3 := Lib.hid (Hkp2.out.trans hkp3); have Hnd3 := Lib.hid hnd3; clear hI3 hkp3 hnd3 Hkp2 Hnd2 Hi2
        go_wp2_with fail
        have q := Hih.out hi _ w3 Hi3.out Ha1.out Hk2.out Hf2.out
        refine q.mono ?_
        clear q c1 c2 c3 b0 b1 b2
        rintro e w4 ⟨rfl, hI4, hkp4⟩
        have hnd4 := hkp4.2 _ _ _ _ Hnd3.out (by decide) Hne.out
        obtain ⟨c1, c2, c3⟩ := hI4.nb0
        unfold cloW at c3
        have Hi4 := Lib.hid hI4; have Hkp4 := Lib.hid (Hkp3.out.trans hkp4); have Hnd4 := Lib.hid hnd4; clear hI4 hkp4 hnd4 Hkp3 Hnd3 Hi3
        obtain ⟨mq4, hmq4, hml4, hmv4⟩ := Hi4.out.num
        have Hmq4 := Lib.hid hmq4; have Hml4 := Lib.hid hml4; have Hmv4 := Lib.hid hmv4; clear hmq4 hml4 hmv4
        go_wp2_with (first
          | (at_len; refine wpList_len_of rfl (.tmp 36) 60 rfl (kt := 3) (et := 3) (enc := Value.int .i64) Tryz.underlying60 (b := mb) rfl (l := mq4) Hmq4.out ?_; rw [Hml4.out])
          | (at_mapUpdate; refine wpList_mapUpdate_of rfl (.tmp 34) (.tmp 35) (.tmp 37) 60 rfl (kt := 3) (et := 3) (enc := Value.int .i64) (intKey Tryz.underlying3) Tryz.underlying60 (b := mb) rfl (l := mq4) Hmq4.out (k := h) rfl (.int .i64 ((walkM f c hi (walkM f c lo ks)).length : Int)) rfl ?_; intro ob hob; have hp5 := Hi4.out.put Hd1.out Hni.out G.out Hml4.out Hmv4.out hob; have hkp5 := (KeepW.put (bb := bb) Hi4.out.num.isMap : KeepW bb w4 (setObjW w4 mb ob)); have Hp5 := Lib.hid hp5; have Hkp5 := Lib.hid (Hkp4.out.trans hkp5); have Hnd5 := Lib.hid (hkp5.2 _ _ _ _ Hnd4.out (by decide) Hne.out); clear hp5 hkp5 hob; generalize setObjW w4 mb ob = w5 at Hp5 Hkp5 Hnd5 ⊢))
        have hlo : lo ∈ walkM f c hi (walkM f c lo ks) ++ [h] := List.mem_append_left _ (Hd3.out.subset Ha2.out)
        have hhi : hi ∈ walkM f c hi (walkM f c lo ks) ++ [h] := List.mem_append_left _ Hd2.out
        have hkl := Hd1.out.le
        have hKl : (walkM f c hi (walkM f c lo ks) ++ [h]).length ≤ 5000 := by rw [List.length_append, List.length_singleton]; have := Hlen.out; omega
        have hD : (dec u.toNat).length ≤ 20 ∧ (dec (numM (walkM f c hi (walkM f c lo ks) ++ [h]) lo)).length ≤ 20 ∧ (dec (numM (walkM f c hi (walkM f c lo ks) ++ [h]) hi)).length ≤ 20 := by
          refine ⟨dec_le (by have := Hb.out; omega), dec_le ?_, dec_le ?_⟩
          · have := numM_lt hlo; omega
          · have := numM_lt hhi; omega
        have HlK := Lib.hid hKl; have HDK := Lib.hid hD; have Hlo := Lib.hid hlo; have Hhi := Lib.hid hhi
        clear hKl hD hlo hhi hkl
        refine walkR_any (R := fun w' => SavI w0 s nb mb sb kb bb c (walkM f c hi (walkM f c lo ks) ++ [h]) w' ∧ KeepW bb w w') (nb := nb) (mb := mb) (bb := bb) (nd := w.heap.size + 1) (n := (u, lo, hi)) (ks := walkM f c hi (walkM f c lo ks) ++ [h]) rfl rfl rfl rfl (fun W hW => cellsN ((hW.block _ (Array.getElem?_eq_some_iff.1 Hnd5.out).1).trans Hnd5.out))
          (fun W hW => by rw [cell_of_row W _ _ _ _ _ ((hW.block _ (Array.getElem?_eq_some_iff.1 Hp5.out.2.1).1).trans Hp5.out.2.1)]; rfl) (fun W hW => Hp5.out.2.2.2.2.1.keep (hW.block _ Hp5.out.2.2.2.2.1.lt)) (fun W hW => Hl.out.below (Hp5.out.1.trans (hW.mono Hp5.out.1.size)))
          Hlo.out Hhi.out ⟨Hb.out.2, Hb.out.1⟩ HlK.out HDK.out (fun W hW => ?_) (fun a w' ha hdf hR => ?_)
        · have kk : ∀ {b : Nat} {o : Obj}, w5.heap[b]? = some o → W.heap[b]? = some o := fun {b o} e => (hW.block b (Array.getElem?_eq_some_iff.1 e).1).trans e
          refine (wline_any Hok.out Hd1.out Hlen.out G.out (Hd3.out.subset Ha2.out) Hd2.out ⟨Hp5.out.1.trans (hW.mono Hp5.out.1.size), kk Hp5.out.2.1, kk Hp5.out.2.2.1, kk Hp5.out.2.2.2.1, Hp5.out.2.2.2.2.1.keep (hW.block _ Hp5.out.2.2.2.2.1.lt), isBuffer_below Hp5.out.2.2.2.2.2 hW⟩ HI.out.ge).mono ?_
          rintro e w' ⟨v, rfl, h1, h2⟩
          exact ⟨v, rfl, h1, (Hkp5.out.trans (KeepW.of_below hW)).trans h2⟩
        · (try simp only [Exit.inBlock, Exit.then])
          refine bodyPost_end (results_none rfl _ _ _) hdf ?_
          exact ⟨rfl, hR.1, hR.2⟩
end Go.Proofs.YthmflcmbaldflaaGreatDoor
