/- Contract: image.Save. -/
import Derived.Test.YthmflcmbaldflaaGreatDoorSavH
import Derived.Test.YthmflcmbaldflaaGreatDoorAppZ
namespace Go.Proofs.YthmflcmbaldflaaGreatDoor
open Go.RowKit
set_option linter.unusedVariables false

theorem wpList_insI {P : Program} {α : Type} [DecidableEq α] {w : World} {ops : Array Oper} {rest : List Oper} {o : Oper} {a : Act} {Q : Exit → Act → World → Prop}
    (hg : o.guard = none) (m x v : Operand) (t : TypeId) (hop : o.op = Op.insert t m x v) {kt et : TypeId} {enc : α → Value} (K : KeyTy P kt enc) (ht : P.underlying t = some (.map kt et))
    {b : Nat} (hm : a.eval m = .map (some b)) {l : List (α × Value)} (h : MapOf w b enc l) {k : α} (hx : a.eval x = enc k) (u : Value) (hv : a.eval v = u)
    (hK : ∀ ob, MapOf (setObjW w b ob) b enc (putAssoc l k u) → wpList P ops Q rest (a.put o.dst undef) (setObjW w b ob)) :
    wpList P ops Q (o :: rest) a w := by
  refine wpList_plain hg fun K' hK' => ?_
  obtain ⟨ob, hrun, h2⟩ := h.update K ht k u
  unfold Oper.wp
  simp only [execOp, hop, hm, hx, hv, hrun, Sem.run_bind, Result.andThen_ok, Sem.run_pure]
  exact hK' _ _ (hK ob h2)
theorem numOf_start {w : World} {mb : Nat} (h : MapOf w mb (Value.int .i64) (putAssoc (putAssoc [] (0 : Int) (.int .i64 0)) 1 (.int .i64 1))) : NumOf w mb startK := by
  refine ⟨_, h, rfl, fun x => ?_⟩
  rw [assoc_put, assoc_put, assoc_nil]
  unfold startK
  by_cases c1 : x = 1
  · subst c1; rfl
  · rw [if_neg (Ne.symm c1)]
    by_cases c0 : x = 0
    · subst c0; rfl
    · rw [if_neg (Ne.symm c0), if_neg (by simp [c0, c1])]
/-- Appends at the operation. -/
theorem wpList_appendZ {P : Program} {w : World} {base T : Nat} {ops : Array Oper} {rest : List Oper} {o : Oper} {a : Act} {Q : Exit → Act → World → Prop} (hgd : o.guard = none) (sl x : Operand) (t : TypeId) (ho : o.op = .call { callee := .builtin .append, args := #[sl, x], argTypes := #[t, t] })
    (i : TypeInfo) (z : Value) (ht : P.underlying t = some (.slice T)) (hi : P.info? T = some i) (hz : i.zero = some z) (hs1 : i.size = 1) (hby : i.bytes = 1) (hz1 : z.cells.size = 1)
    (v : Value) (xs : List Value) (hs : a.eval sl = v) (hown : OwnZ w base T v xs) (src : Option Addr) (m c : Nat) (hx : a.eval x = .slice src m c) (news : List Value) (hl : news.length = m) (hsrc : (src = none ∧ m = 0) ∨ ∃ a, src = some a ∧ ∀ j u, news[j]? = some u → w.cell? (a.add j) = some u) (h1 : ∀ u ∈ news, u.oneCell' = true)
    (hn : xs.length + m ≤ 1000000) (hbase : base ≤ w.heap.size) (h : ∀ v' w', OwnZ w' base T v' (xs ++ news) → Below base w w' → wpList P ops Q rest (a.put o.dst v') w') : wpList P ops Q (o :: rest) a w := by
  refine wpList_plain hgd fun K hK => ?_
  obtain ⟨v', w', hr, h2, h3⟩ := run_appendZ (P := P) t o.type i z ht hi hz hs1 hby hz1 v xs hown src m c news hl hsrc h1 hn hbase
  unfold Oper.wp execOp
  simp only [ho, resolve, invoke, builtin, Sem.run_bind, Sem.run_pure, Result.andThen_ok, List.map_toArray, List.map_cons, List.map_nil, hs, hx, hr]
  exact hK _ _ (h v' w' h2 h3)
theorem wpList_appendZ_str {P : Program} {w : World} {base T : Nat} {ops : Array Oper} {rest : List Oper} {o : Oper} {a : Act} {Q : Exit → Act → World → Prop} (hgd : o.guard = none) (sl x : Operand) (t u : TypeId) (ho : o.op = .call { callee := .builtin .append, args := #[sl, x], argTypes := #[t, u] })
    (i : TypeInfo) (ht : P.underlying t = some (.slice T)) (hu : P.underlying u = some .string) (hi : P.info? T = some i) (hz : i.zero = some (.int .u8 0)) (hs1 : i.size = 1) (hby : i.bytes = 1)
    (v : Value) (xs : List Value) (hs : a.eval sl = v) (hown : OwnZ w base T v xs) (s : ByteArray) (hx : a.eval x = .string s) (hn : xs.length + s.size ≤ 1000000) (hbase : base ≤ w.heap.size)
    (h : ∀ v' w', OwnZ w' base T v' (xs ++ Lib.strCells s) → Below base w w' → wpList P ops Q rest (a.put o.dst v') w') : wpList P ops Q (o :: rest) a w := by
  refine wpList_plain hgd fun K hK => ?_
  obtain ⟨v', w', hr, h2, h3⟩ := run_appendZ_str (P := P) t u o.type i ht hu hi hz hs1 hby v xs hown s hn hbase
  unfold Oper.wp execOp
  simp only [ho, resolve, invoke, builtin, Sem.run_bind, Sem.run_pure, Result.andThen_ok, List.map_toArray, List.map_cons, List.map_nil, hs, hx, hr]
  exact hK _ _ (h v' w' h2 h3)
theorem OwnZ.less {w : World} {base base' : Nat} {T : TypeId} {v : Value} {xs : List Value} (h : OwnZ w base T v xs) (hb : base' ≤ base) : OwnZ w base' T v xs := by
  obtain ⟨g, cap, cur, fz, rfl, h1, h2⟩ := h
  exact ⟨g, cap, cur, fz, rfl, Nat.le_trans hb h1, h2⟩
theorem vars_any {V : Int} {w : World} {s : Sb} {st : Sp} (hs : IsSpace w s V st) : Calls Tryz.prog 10 #[.pointer (some ⟨s.ps, 0, none⟩)] w fun e w' => e = .returned (.int .i64 V) ∧ w' = w := by
  have c1 := hs.s1
  go_enter Tryz.func10, Tryz.ntmps10
  go_wp2_with fail
  go_ret
  exact ⟨rfl, rfl⟩
theorem owns_src {w : World} {base e n : Nat} {v : Value} {xs : List Value} (h : w.ownsRow base e 1 v n xs) : ∃ src c, v = .slice src n c ∧ ((src = none ∧ n = 0) ∨ ∃ a, src = some a ∧ ∀ j u, xs[j]? = some u → w.cell? (a.add j) = some u) := by
  have hc := fun g => World.ownsRow.cells h (g := g)
  rcases h.2 with ⟨rfl, rfl⟩ | ⟨g, cap, cur, rfl, _⟩
  · exact ⟨none, 0, rfl, .inl ⟨rfl, rfl⟩⟩
  · exact ⟨_, cap, rfl, .inr ⟨_, rfl, hc g rfl⟩⟩
theorem byteCells_one (l : List UInt8) : ∀ u ∈ Lib.byteCells l, u.oneCell' = true := by
  intro u hu
  unfold Lib.byteCells at hu
  obtain ⟨x, _, rfl⟩ := List.mem_map.1 hu
  rfl
theorem byteCells_app (l m : List UInt8) : Lib.byteCells (l ++ m) = Lib.byteCells l ++ Lib.byteCells m := by unfold Lib.byteCells; exact List.map_append
theorem strCells_bytB (l : List UInt8) : Lib.strCells (bytB l) = Lib.byteCells l := rfl
/-- A row of bytes, as a value and as what is read. -/
theorem OwnZ.by {w : World} {base T : Nat} {v : Value} {l : List UInt8} (h : OwnZ w base T v (Lib.byteCells l)) : ∃ g cap, v = .slice (some ⟨g, 0, none⟩) l.length cap ∧ IsBy w g l := by
  obtain ⟨g, cap, rfl, _, _, _, _, hc⟩ := h.cells
  refine ⟨g, cap, by rw [Lib.byteCells_length], fun i hi => (hc i _ ?_).2⟩
  unfold Lib.byteCells
  simp [hi]
theorem infoU8 : ∃ i, Tryz.prog.info? 5 = some i ∧ i.zero = some (.int .u8 0) ∧ i.size = 1 ∧ i.bytes = 1 := by
  have h : (Tryz.prog.info? 5).map (fun i => (i.zero, i.size, i.bytes)) = some (some (.int .u8 0), 1, 1) := by kernel_rfl
  cases e : Tryz.prog.info? 5 with
  | none => rw [e] at h; cases h
  | some i =>
    rw [e] at h
    simp only [Option.map_some, Option.some.injEq, Prod.mk.injEq] at h
    exact ⟨i, rfl, h.1, h.2.1, h.2.2⟩
theorem store_fn (P : Program) (w : World) (a b : Obj) (T : TypeId) (u v : Value) (hv : v.oneCell' = true) : (store ⟨w.heap.size + 1 + 1, 0, none⟩ v).run P (((w.alloc a).alloc b).alloc (.cells #[u] T)) = .ok () ((((w.alloc a).alloc b).alloc (.cells #[u] T)).setCell ⟨w.heap.size + 1 + 1, 0, none⟩ v) := by
  have hh : (((w.alloc a).alloc b).alloc (.cells #[u] T)).heap[w.heap.size + 1 + 1]? = some (.cells #[u] T (0, 0)) := heap_at (by simp)
  have hc : (((w.alloc a).alloc b).alloc (.cells #[u] T)).cell? ⟨w.heap.size + 1 + 1, 0, none⟩ = some u := by rw [cell_of_row _ _ _ _ _ _ hh]; rfl
  rw [run_store P _ _ v _ hv, hc, not_frozen hh]
  rfl
set_option maxRecDepth 100000 in
set_option maxHeartbeats 8000000 in
theorem save_any (V : Nat) (hV : V ≤ 24) (h : Int) (w : World) (s : Sb) (st : Sp) (hs : IsSpace w s V st) (ok : Ok st.c) (hh : hasM st.c h = true) (hlaid : LaidR w) :
    Calls Tryz.prog 7 #[.pointer (some ⟨s.ps, 0, none⟩), .int .i64 h] w fun e w' => (∃ v, e = .returned (.tuple #[v, .nilIface]) ∧ OwnZ w' w.heap.size 5 v (Lib.byteCells (saveM V st.c h))) ∧ Below w.heap.size w w' := by
  have hmm := @run_makeMap Tryz.prog
  have hlen : st.c.length ≤ 4000 := by rw [hs.ar.len]; exact hs.ar.room.2
  have lh : h ≤ 9223372036854775807 := by have := hasM_le hh; omega
  have hs1 : IsSpace (w.alloc (.cells #[.pointer (some ⟨s.ps, 0, none⟩)] 23)) s V st := hs.below ((Below.refl _ _).alloc (Nat.le_refl _) _)
  have c0 := hs.s0
  have lps := hs.lps
  have hha := ahas_any h _ s.b st.c hs1.ar lh
  rw [hh] at hha
  have Hh := Lib.hid hh; have Hs := Lib.hid hs; have Hok := Lib.hid ok; have Hl := Lib.hid hlaid; have Hlen := Lib.hid hlen; have Hha := Lib.hid hha; have HV := Lib.hid hV
  clear hh hs ok hlaid hlen hha hs1 hV
  go_enter Tryz.func7, Tryz.ntmps7
  go_wp2_with fail
  refine Hha.out.mono ?_
  rintro e w1 ⟨rfl, rfl⟩
  have hm0 : MapOf ((w.alloc (.cells #[.pointer (some ⟨s.ps, 0, none⟩)] 23)).alloc (.map #[] 0)) (w.heap.size + 1) (Value.int .i64) [] := by
    have := mapOf_new (w.alloc (.cells #[.pointer (some ⟨s.ps, 0, none⟩)] 23)) (Value.int .i64)
    rwa [alloc_size] at this
  have hbx : Below w.heap.size w ((w.alloc (.cells #[.pointer (some ⟨s.ps, 0, none⟩)] 23)).alloc (.map #[] 0)) := ((Below.refl _ _).alloc (Nat.le_refl _) _).alloc (by simp) _
  have hsb : ((w.alloc (.cells #[.pointer (some ⟨s.ps, 0, none⟩)] 23)).alloc (.map #[] 0)).heap[w.heap.size]? = some (.cells #[.pointer (some ⟨s.ps, 0, none⟩)] 23 (0, 0)) := heap_up (heap_at rfl)
  have Hm0 := Lib.hid hm0; have Hbx := Lib.hid hbx; have Hsb := Lib.hid hsb; clear hm0 hbx hsb
  go_wp2_with (first
    | (show wpList _ _ _ (Oper.mk none (.insert _ _ (.const (.int .i64 0)) _) _ _ _ _ :: _) _ _; refine wpList_insI rfl (.tmp 23) (.const (.int .i64 0)) (.const (.int .i64 0)) 60 rfl (kt := 3) (et := 3) (enc := Value.int .i64) (intKey Tryz.underlying3) Tryz.underlying60 (b := w.heap.size + 1) rfl (l := []) Hm0.out (k := 0) rfl (.int .i64 0) rfl ?_; intro ob0 hob0; have hb0 := Hbx.out.trans (setObjW_below (B := w.heap.size) (b := w.heap.size + 1) (w := (w.alloc (.cells #[.pointer (some ⟨s.ps, 0, none⟩)] 23)).alloc (.map #[] 0)) ob0 (by omega)); have hs0 := (setObjW_other (w := (w.alloc (.cells #[.pointer (some ⟨s.ps, 0, none⟩)] 23)).alloc (.map #[] 0)) (b := w.heap.size + 1) (k := w.heap.size) ob0 (by omega)).trans Hsb.out; have Hob0 := Lib.hid hob0; have Hb0 := Lib.hid hb0; have Hs0 := Lib.hid hs0; clear hob0 hb0 hs0; generalize setObjW ((w.alloc (.cells #[.pointer (some ⟨s.ps, 0, none⟩)] 23)).alloc (.map #[] 0)) (w.heap.size + 1) ob0 = wa at Hob0 Hb0 Hs0 ⊢)
    | (show wpList _ _ _ (Oper.mk none (.insert _ _ (.const (.int .i64 1)) _) _ _ _ _ :: _) _ _; refine wpList_insI rfl (.tmp 23) (.const (.int .i64 1)) (.const (.int .i64 1)) 60 rfl (kt := 3) (et := 3) (enc := Value.int .i64) (intKey Tryz.underlying3) Tryz.underlying60 (b := w.heap.size + 1) rfl (l := putAssoc [] (0 : Int) (.int .i64 0)) Hob0.out (k := 1) rfl (.int .i64 1) rfl ?_; intro ob1 hob1; have hb1 := Hb0.out.trans (setObjW_below (B := w.heap.size) (b := w.heap.size + 1) (w := wa) ob1 (by omega)); have hs1 := (setObjW_other (w := wa) (b := w.heap.size + 1) (k := w.heap.size) ob1 (by omega)).trans Hs0.out; have Hob1 := Lib.hid (numOf_start hob1); have Hb1 := Lib.hid hb1; have Hs1 := Lib.hid hs1; clear hob1 hb1 hs1; generalize setObjW wa (w.heap.size + 1) ob1 = w2 at Hob1 Hb1 Hs1 ⊢; have hst := store_fn Tryz.prog w2 (.cells #[.map (some (w.heap.size + 1))] 60) (.cells #[.slice none 0 0, .int .i64 0, .int .i8 0] 64) 65 .nilFunc (cloW w2.heap.size w.heap.size (w2.heap.size + 1 + 1) (w2.heap.size + 1)) rfl; unfold cloW at hst))
  have hI0 : SavI w s w2.heap.size (w.heap.size + 1) w.heap.size (w2.heap.size + 1 + 1) (w2.heap.size + 1) st.c startK (((w2.alloc (.cells #[.map (some (w.heap.size + 1))] 60)).alloc (.cells #[.slice none 0 0, .int .i64 0, .int .i8 0] 64)).alloc (.cells #[cloW w2.heap.size w.heap.size (w2.heap.size + 1 + 1) (w2.heap.size + 1)] 65)) := by
    have hb3 : Below w2.heap.size w2 (((w2.alloc (.cells #[.map (some (w.heap.size + 1))] 60)).alloc (.cells #[.slice none 0 0, .int .i64 0, .int .i8 0] 64)).alloc (.cells #[cloW w2.heap.size w.heap.size (w2.heap.size + 1 + 1) (w2.heap.size + 1)] 65)) := (((Below.refl _ _).alloc (Nat.le_refl _) _).alloc (by simp) _).alloc (by simp; omega) _
    have hsz := Hb1.out.size
    refine ⟨Hb1.out.trans (hb3.mono hsz), heap_up (heap_up (heap_at rfl)), (hb3.block _ (Array.getElem?_eq_some_iff.1 Hs1.out).1).trans Hs1.out, heap_at (by simp), Hob1.out.keep (hb3.block _ Hob1.out.lt), ⟨by omega, .slice none 0 0, 0, heap_up (heap_at (by simp)), ?_, by simp [Value.ownBlock]⟩, ⟨hsz, by omega, Nat.le_refl _, by omega⟩⟩
    exact World.ownsRow_nil _ _ _ _
  unfold cloW at hI0
  generalize (((w2.alloc (.cells #[.map (some (w.heap.size + 1))] 60)).alloc (.cells #[.slice none 0 0, .int .i64 0, .int .i8 0] 64)).alloc (.cells #[.func (.func 20) #[] #[.pointer (some ⟨w2.heap.size, 0, none⟩), .pointer (some ⟨w.heap.size, 0, none⟩), .pointer (some ⟨w2.heap.size + 1 + 1, 0, none⟩), .pointer (some ⟨w2.heap.size + 1, 0, none⟩)]] 65)) = w3 at hI0 ⊢
  have hord := orderM_ok Hok.out Hh.out
  have hq := walk_in Hs.out rfl Hok.out Hl.out Hlen.out 25 h startK w3 hI0 (kok_start _) Hh.out (by have := topM_le Hok.out h; omega)
  have Hord := Lib.hid hord; clear hord hI0 hst
  refine hq.mono ?_
  clear hq
  rintro e w4 ⟨rfl, hI4, hkp4⟩
  rw [show walkM 25 st.c h startK = orderM st.c h from rfl] at hI4
  have Hi4 := Lib.hid hI4; clear hI4 hkp4
  go_wp2_with fail
  have hkl := Hord.out.1.le
  have hk2 := Hord.out.1.len
  refine headR_any (sb := w.heap.size) (nb := w2.heap.size) (ps := s.ps) (mb := w.heap.size + 1) (V := V) (h := h) (ks := orderM st.c h) (W5 := w4)
    (fun W hW => (Hi4.out.grow hW).nb0.2.1) (fun W hW => (Hi4.out.grow hW).nb0.1) (fun W hW => (Hi4.out.grow hW).num) (fun W hW => Hl.out.below (Hi4.out.grow hW).bel) (fun W hW => vars_any (Hs.out.below (Hi4.out.grow hW).bel)) HV.out ⟨hk2, by have := Hlen.out; omega⟩ Hord.out.2 ?_
  intro x29 x30 x31 x32 x33 x34 x35 x36 x37 x38 x39 x40 x41 x42 x43 x44 x45 w5 hb5
  have hI5 := Hi4.out.grow hb5
  have hhl : (headM V ((orderM st.c h).length - 2) (numM (orderM st.c h) h)).length ≤ 100 := by
    have h1 := dec_le (n := V) (by have := HV.out; omega)
    have h2 := dec_le (n := (orderM st.c h).length - 2) (by have := Hlen.out; omega)
    have h3 := dec_le (n := numM (orderM st.c h) h) (by have := numM_lt Hord.out.2; have := Hlen.out; omega)
    unfold headM
    simp; omega
  have hbl := bodyM_len Hok.out (ks := orderM st.c h) (by have := Hlen.out; omega)
  have hcv := Lib.run_convert_string_bytes (P := Tryz.prog) w5 9 28 5 (bytB (headM V ((orderM st.c h).length - 2) (numM (orderM st.c h) h))) Tryz.underlying9 Tryz.underlying28 Tryz.underlying5
  have hz6 := ownZ_conv w5 5 (bytB (headM V ((orderM st.c h).length - 2) (numM (orderM st.c h) h))) (by show _ ≤ 1000000; rw [bytB_size]; omega)
  have hb6 : Below w5.heap.size w5 (Lib.bytesWorld w5 5 (bytB (headM V ((orderM st.c h).length - 2) (numM (orderM st.c h) h)))) := Lib.bytesWorld_below _ _ _
  have Hi5 := Lib.hid hI5; have Hhl := Lib.hid hhl; have Hbl := Lib.hid hbl; have Hz6 := Lib.hid hz6; have Hb6 := Lib.hid hb6
  clear hI5 hhl hbl hz6 hb6 hkl hk2 hb5
  go_wp2_with fail
  refine (Any.Buffer_Bytes Tryz.lays183 w.heap.size (w2.heap.size + 1) _ _ (isBuffer_below Hi5.out.buf Hb6.out)).mono ?_
  rintro e w7 ⟨v7, rfl, hown7, n7, rfl⟩
  rw [Lib.byteCells_length] at hown7
  obtain ⟨src, c7, rfl, hsrc⟩ := owns_src hown7
  have hz7 : OwnZ ((Lib.bytesWorld w5 5 (bytB (headM V ((orderM st.c h).length - 2) (numM (orderM st.c h) h)))).drewN n7) w.heap.size 5 _ _ := (Hz6.out.less Hi5.out.bel.size).below (below_drewA (Below.refl _ _) _)
  have hb7 : Below w.heap.size w ((Lib.bytesWorld w5 5 (bytB (headM V ((orderM st.c h).length - 2) (numM (orderM st.c h) h)))).drewN n7) := below_drewA (Hi5.out.bel.trans (Hb6.out.mono Hi5.out.bel.size)) _
  rw [strCells_bytB] at hz7
  have Hz7 := Lib.hid hz7; have Hb7 := Lib.hid hb7; have Hsrc := Lib.hid hsrc; clear hz7 hb7 hsrc hown7 Hz6 Hb6 Hi5 hcv
  generalize grownCap w5 (bytB (headM V ((orderM st.c h).length - 2) (numM (orderM st.c h) h))).size 0 5 = c6 at Hz7 ⊢
  generalize (Lib.bytesWorld w5 5 (bytB (headM V ((orderM st.c h).length - 2) (numM (orderM st.c h) h)))).drewN n7 = w7 at Hz7 Hb7 Hsrc ⊢
  obtain ⟨i8, ih8, iz8, is8, ib8⟩ := infoU8
  go_wp2_with (at_builtin; refine wpList_appendZ rfl (.tmp 47) (.tmp 48) 28 rfl i8 _ Tryz.underlying28 ih8 iz8 is8 ib8 rfl _ _ rfl Hz7.out src _ c7 rfl (Lib.byteCells (bodyM st.c (orderM st.c h))) (Lib.byteCells_length _) Hsrc.out (byteCells_one _) (by rw [Lib.byteCells_length]; have := Hhl.out; have := Hbl.out; have := Hord.out.1.le; have := Hlen.out; omega) Hb7.out.size ?_; intro v8 w8 hz8 hb8; rw [← byteCells_app] at hz8; have hz8' : OwnZ w8 w.heap.size 5 v8 (Lib.byteCells (outM V st.c h)) := hz8; obtain ⟨g8, cap8, rfl, hby8⟩ := hz8'.by; have Hz8 := Lib.hid hz8'; have Hb8 := Lib.hid (Hb7.out.trans hb8); have Hby8 := Lib.hid hby8; clear hz8 hz8' hb8 hby8 Hz7 Hb7 Hsrc)
  have hol : (outM V st.c h).length ≤ 100000 := by
    have := Hhl.out; have := Hbl.out; have := Hord.out.1.le; have := Hlen.out
    unfold outM
    rw [List.length_append]; omega
  have hdl := dec_sum (outM V st.c h)
  have hsl := sumM_lt (outM V st.c h)
  have Hol := Lib.hid hol; have Hdl := Lib.hid hdl; clear hol hdl
  refine (sum_any g8 cap8 _ w8 Hby8.out (by have := Hol.out; omega)).mono ?_
  rintro e w9 ⟨rfl, rfl⟩
  have hit := itoa_any (sumM (outM V st.c h) : Int) w9 (by omega) (by omega) (Hl.out.below Hb8.out)
  rw [itoa_dec] at hit
  have hs9 : ((⟨(dec (sumM (outM V st.c h))).toArray⟩ : ByteArray)).size ≤ 4 := by show (dec (sumM (outM V st.c h))).toArray.size ≤ 4; simpa using Hdl.out.2
  have hcat : ((⟨#[115, 117, 109, 32]⟩ : ByteArray) ++ ⟨(dec (sumM (outM V st.c h))).toArray⟩) ++ ⟨#[10]⟩ = bytB (sumT ++ (dec (sumM (outM V st.c h)) ++ [10])) := by
    have h1 := bytB_cat (sumT) (dec (sumM (outM V st.c h)))
    have h2 := bytB_cat (sumT ++ dec (sumM (outM V st.c h))) [10]
    rw [← List.append_assoc, ← h2, ← h1]
    rfl
  have Hit := Lib.hid hit; clear hit hsl
  generalize (⟨(dec (sumM (outM V st.c h))).toArray⟩ : ByteArray) = sd at Hit hs9 hcat
  have Hcat := Lib.hid hcat; clear hcat
  go_wp2_with fail
  refine Hit.out.mono ?_
  rintro e w10 ⟨rfl, hb10⟩
  have Hb10 := Lib.hid hb10; clear hb10
  have hz10 := Hz8.out.below Hb10.out
  have Hz10 := Lib.hid hz10; have Hb11 := Lib.hid (Hb8.out.trans (Hb10.out.mono Hb8.out.size)); clear hz10 Hz8 Hby8
  go_wp2_with (at_builtin; refine wpList_appendZ_str rfl (.tmp 50) (.tmp 55) 28 9 rfl i8 Tryz.underlying28 Tryz.underlying9 ih8 iz8 is8 ib8 _ _ rfl Hz10.out (((⟨#[115, 117, 109, 32]⟩ : ByteArray) ++ sd) ++ ⟨#[10]⟩) rfl (by rw [Lib.byteCells_length, Hcat.out, bytB_size]; have := Hol.out; have := Hdl.out.2; simp [sumT]; omega) Hb11.out.size ?_; intro v11 w11 hz11 hb11; rw [Hcat.out, strCells_bytB, ← byteCells_app] at hz11; have Hz11 := Lib.hid hz11; have Hb12 := Lib.hid (Hb11.out.trans hb11); clear hz11 hb11; (obtain ⟨g11, cap11, rfl, _⟩ := Hz11.out.by))
  go_ret2
  have q := Hz11.out
  simp only [List.length_append, List.length_cons, List.length_nil, Nat.zero_add] at q
  exact ⟨⟨_, rfl, q⟩, Hb12.out⟩
end Go.Proofs.YthmflcmbaldflaaGreatDoor
