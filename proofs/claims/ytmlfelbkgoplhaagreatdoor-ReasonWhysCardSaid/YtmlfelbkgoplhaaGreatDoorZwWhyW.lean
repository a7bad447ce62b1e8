import Derived.Test.YtmlfelbkgoplhaaGreatDoorZwWhyM
import Derived.Test.YtmlfelbkgoplhaaGreatDoorZwLaid
import Derived.Deep.RegionHeld3
set_option linter.unusedVariables false
set_option linter.unusedSimpArgs false
namespace Go.Proofs.YtmlfelbkgoplhaaGreatDoor
open Go.RowKit
def WhyP (ls : List zi) (items : List zq) (k : Nat) (w : World) (e : Ending) (w' : World) : Prop :=
 ((∃ a c out, e = .returned (.tuple #[.slice a out.length c, .nilIface]) ∧ yP w' w.heap.size (.slice a out.length c) (out.map fun k : Nat => (k : Int)) ∧ zcW (zx ls items ++ [((ls.length : Int), [(k : Int) + 1])]) out) ∨
  (e = .returned (.tuple #[.slice none 0 0, .iface 45 (.int .i64 8)]) ∧ zfB (zR (zx ls items ++ [((ls.length : Int), [(k : Int) + 1])])))) ∧ Below w.heap.size w w'
theorem WhyP.open {ls : List zi} {items : List zq} {k : Nat} {w : World} {e : Ending} {w' : World} (h : WhyP ls items k w e w') : ∃ v9 e9, e = .returned (.tuple #[v9, e9]) ∧ ((∃ a c out, v9 = .slice a (List.length out) c ∧ e9 = .nilIface ∧ yP w' w.heap.size (.slice a out.length c) (out.map fun k : Nat => (k : Int)) ∧ zcW (zx ls items ++ [((ls.length : Int), [(k : Int) + 1])]) out) ∨ (v9 = .slice none 0 0 ∧ e9 = .iface 45 (.int .i64 8) ∧ zfB (zR (zx ls items ++ [((ls.length : Int), [(k : Int) + 1])])))) ∧ Below w.heap.size w w' := by
 obtain ⟨⟨a, c, out, rfl, h1, h2⟩ | ⟨rfl, h1⟩, hb⟩ := h
 · exact ⟨_, _, rfl, .inl ⟨a, c, out, rfl, rfl, h1, h2⟩, hb⟩
 · exact ⟨_, _, rfl, .inr ⟨rfl, rfl, h1⟩, hb⟩
theorem zjv (n : Int) : kD [(n, n + 1)] = vT n := by
 unfold kD
 rw [if_neg (by simp)]
 simp only [List.map_cons, List.map_nil]
 rw [Lib.join_one]
 unfold jo zbs
 rw [if_pos rfl, Lib.join_one]
theorem zmg {a b c : Int} (h : jf a b c) : vT (yE a b c) = qE a b c := by
 have h1 := h.a; have h2 := h.b; have h3 := h.c
 have hw := (jC (n := yE a b c) (by unfold yE zO; omega)).2
 have hv := (jC (n := yE a b c) (by unfold yE zO; omega)).1
 obtain ⟨e1, e2, e3⟩ := ziD hv h hw
 unfold vT
 rw [e1, e2, e3]
theorem yK.snoc {W w' : World} {base : Nat} {v v' : Value} {ls : List zi} {x : zi} (h : yK W base v ls) (hx : jU W x) (hr : zk w' base 77 7 zJ v' (ls ++ [x])) (hk : ∀ k, k < W.heap.size → v.ownBlock ≠ some k → w'.heap[k]? = W.heap[k]?) : yK w' base v' (ls ++ [x]) := by
 have hT : yt 226 W w' := yt.grow hk (zk.ty h.row) (by decide)
 refine ⟨hr, fun y hy => ?_⟩
 rcases List.mem_append.1 hy with q | q
 · exact (h.ins y q).yB hT
 · rw [List.mem_singleton.1 q]; exact hx.yB hT
set_option maxRecDepth 100000 in
set_option maxHeartbeats 16000000 in
theorem zjr (p : Nat) (vl vi : Value) (ls : List zi) (items : List zq) (k : Nat) (nm : ByteArray) (a b c : Int) (w : World) (hat : zal w p vl vi ls items) (ho : jK ls items) (hit : items[k]? = some (nm, a, b, c)) (hl : ls.length < 100) (h200 : (zx ls items).length < 200) (h12 : items.length ≤ 12) (hsz : nm.size ≤ 9223372036854775807) (hL : yT w) (hT : zM w) :
 Calls Tryz.prog 40 #[.pointer (some ⟨p, 0, none⟩), .string nm, .agg #[.int .i64 a, .int .i64 b, .int .i64 c]] w (WhyP ls items k w) := by
 obtain ⟨hk, hik⟩ := List.getElem?_eq_some_iff.1 hit
 have hmem : (nm, a, b, c) ∈ zC ls := by rw [← hik]; exact ho.perm.mem_iff.1 (List.getElem_mem hk)
 obtain ⟨hnm, hv⟩ := zeJ ho.toNewOk hmem
 dsimp only at hnm hv
 have hnd : items.Nodup := ho.perm.nodup_iff.2 ho.twice
 have hnum := zmO hnd hk
 rw [hik] at hnum
 obtain ⟨n, hn⟩ : ∃ n, n = yE a b c := ⟨_, rfl⟩
 have hwide : kz (n, n + 1) := by rw [hn]; exact zk0 hv
 have htxt : jr (zK (qE a b c)) [(n, n + 1)] := by
  have h := zeu (zaZ hwide)
  rw [zjv, hn, zmg hv, ← hn] at h
  exact h
 have hlenT : (zK (qE a b c)).size ≤ 1000 := by
  have h := zmc hwide
  have e : jo (n, n + 1) = qE a b c := by
   unfold jo zbs
   rw [if_pos rfl, Lib.join_one]
   show vT n = _
   rw [hn, zmg hv]
  rw [e] at h
  show (qE a b c).toArray.size ≤ 1000
  rw [List.size_toArray]; omega
 obtain ⟨wA, hwA⟩ : ∃ wA, wA = w.alloc (.cells #[.int .i64 a, .int .i64 b, .int .i64 c] 72) := ⟨_, rfl⟩
 have hbA : Below w.heap.size w wA := by rw [hwA]; exact zba
 have hkA : wA.heap[w.heap.size]? = some (.cells #[.int .i64 a, .int .i64 b, .int .i64 c] 72 (0, 0)) := by rw [hwA]; exact za rfl
 have hNum := zci p 0 vl vi items nm a b c wA ((hbA.block _ (zlb hat.box)).trans hat.box) (hat.its.below hbA)
 rw [hnum] at hNum
 have HNum := hid hNum
 have HW := hid (show ∀ W, Below wA.heap.size wA W → yT W ∧ zM W ∧ zal W p vl vi ls items ∧ W.heap[w.heap.size]? = some (.cells #[.int .i64 a, .int .i64 b, .int .i64 c] 72 (0, 0)) ∧ Below w.heap.size w W from fun W hW => by
  have h1 := hbA.trans (hW.mono hbA.size)
  exact ⟨hL.below h1, hT.below h1, hat.below h1, (hW.block _ (zlb hkA)).trans hkA, h1⟩)
 have Hok := hid ho; have Hit := hid hit; have Hl := hid hl; have H200 := hid h200; have H12 := hid h12; have Hsz := hid hsz; have Hv := hid hv; have Htxt := hid htxt; have Hwd := hid hwide; have HlT := hid hlenT; have Hmem := hid hmem; have Hn := hid hn
 obtain ⟨y0, y1, y2⟩ := yA hkA
 clear hik
 clear hat ho hk hit hl h200 h12 hsz hL hT hmem hnm hv hnd hnum hwide htxt hlenT hbA hkA hNum hn
 go_enter Tryz.func40, Tryz.ntmps40
 go_upto_region 1 with fail
 rw [← hwA]
 clear hwA
 go_wp2_with fail
 refine HNum.out.mono ?_
 rintro e w2 ⟨rfl, hb2⟩
 obtain ⟨hL2, hT2, hat2, hk2, hB2⟩ := HW.out w2 hb2
 have d1 : decide ((k : Int) < 0) = false := by simp
 clear y0 y1 y2
 obtain ⟨y0, y1, y2⟩ := yA hk2
 have HT2 := hid (znv a b c w2 Hv.out hL2)
 have Hb2 := hid hb2
 clear hL2 hT2 hat2 hk2 hB2 hb2 HNum
 go_wp2_with fail
 refine HT2.out.mono ?_
 rintro e w3 ⟨rfl, hb3⟩
 have hb3' := Hb2.out.trans (hb3.mono Hb2.out.size)
 obtain ⟨hL3, hT3, _, _, _⟩ := HW.out w3 hb3'
 have HR3 := hid (zcp (zK (qE a b c)) w3 (by have := HlT.out; omega) hL3 hT3)
 have Hb3 := hid hb3'
 clear hb3 hb3' hL3 hT3 y0 y1 y2 HT2 d1
 go_wp2_with fail
 refine HR3.out.mono ?_
 rintro e w4 ⟨v, r, er, rfl, hsp, hown, hr7, hb4, ⟨rfl, _, htr⟩ | ⟨_, _, hno⟩⟩
 ·
  obtain rfl := htr.one Htxt.out
  obtain ⟨ar, cr, rfl, _⟩ := hsp.shape
  simp only [List.length_cons, List.length_nil, Nat.zero_add] at hsp ⊢
  obtain ⟨wB, hwB⟩ : ∃ wB, wB = w4.alloc (.cells #[.slice ar 1 cr] 75) := ⟨_, rfl⟩
  have hbB : Below w4.heap.size w4 wB := by rw [hwB]; exact zba
  have hkB : wB.heap[w4.heap.size]? = some (.cells #[.slice ar 1 cr] 75 (0, 0)) := by rw [hwB]; exact za rfl
  have hB4 : Below wA.heap.size wA w4 := Hb3.out.trans (hb4.mono Hb3.out.size)
  have HX := hid (show ∀ W, Below wB.heap.size wB W → W.cell? ⟨w4.heap.size, 0, none⟩ = some (.slice ar 1 cr) ∧ yg W (.slice ar 1 cr) [(n, n + 1)] ∧ zal W p vl vi ls items ∧ Below w.heap.size w W from fun W hW => by
   have h1 := hbB.trans (hW.mono hbB.size)
   have h2 := hB4.trans (h1.mono hB4.size)
   obtain ⟨_, _, h3, _, h4⟩ := HW.out W h2
   exact ⟨zco ((hW.block _ (zlb hkB)).trans hkB), hsp.below h1, h3, h4⟩)
  obtain ⟨x, hx⟩ : ∃ x, x = zcy (nm, a, b, c) (.slice ar 1 cr) := ⟨_, rfl⟩
  have henc : zJ x = [.int .i64 4, .string nm, .int .i64 0, .int .i64 0, .int .i64 0, .string ⟨#[]⟩, .slice ar 1 cr] := by rw [hx]; rfl
  have Hin := hid (show ∀ W, Below wB.heap.size wB W → jU W x from fun W hW => by
   rw [hx]
   refine ⟨?_, by simp [zcy], ?_, Hsz.out, by show ByteArray.size ⟨#[]⟩ ≤ _; decide⟩
   ·
    show yg W (.slice ar 1 cr) [(yE a b c, yE a b c + 1)]
    rw [← Hn.out]; exact (HX.out W hW).2.1
   ·
    show Canon [(yE a b c, yE a b c + 1)]
    rw [← Hn.out]; exact zaZ Hwd.out)
  have hok2 : NewOk (ls ++ [x]) := by rw [hx]; exact zmo Hok.out.toNewOk Hmem.out Hl.out _
  have HLi := hid (fun (W : World) (hW : Below wB.heap.size wB W) => zcq p vl vi ls items W (HX.out W hW).2.2.1 (by have := Hl.out; omega))
  have HNew := hid (show ∀ W v base, yK W base v (ls ++ [x]) → Calls Tryz.prog 73 #[v] W fun e w' => (∃ p', e = .returned (.tuple #[.pointer (some ⟨p', 0, none⟩), .nilIface]) ∧ zbt w' p' (ls ++ [x]) items) ∧ Below W.heap.size W w' from fun W v base hI => by
   refine (zkh base v (ls ++ [x]) W hI).mono ?_
   rintro e w' ⟨⟨p', items', rfl, hcat, _⟩ | ⟨er, rfl, hno, _⟩, hb⟩
   ·
    have e2 : items' = items := hcat.1.one Hok.out (by rw [hx, kN])
    rw [e2] at hcat
    exact ⟨⟨p', rfl, hcat⟩, hb⟩
   · exact absurd hok2 hno)
  obtain ⟨iL, hiL, hzL0, hzL1, hzL2⟩ := info_parts zeZ
  have HiL := hid hiL; have HzL0 := hid hzL0; have HzL1 := hid hzL1; have HzL2 := hid hzL2
  have hRr : zx (ls ++ [x]) items = zx ls items ++ [((ls.length : Int), [(k : Int) + 1])] := by
   obtain ⟨hk, hik⟩ := List.getElem?_eq_some_iff.1 Hit.out
   have h := zjW Hok.out hk (.slice ar 1 cr)
   rw [hik, ← hx] at h
   exact h
  have HRr := hid hRr
  clear hRr
  have hone : ∀ u ∈ zJ x, u.oneCell' = true := by rw [henc]; intro u hu; simp at hu; rcases hu with rfl | rfl | rfl | rfl | rfl <;> rfl
  have Hone := hid hone; have Henc := hid henc; have Hx := hid hx
  have HB := hid ((Below.refl wB.heap.size wB).drew)
  have HBd := hid (fun o => Below.alD (w := wB) o)
  have KS := (HX.out _ HB.out).1
  have Hl2 := hid (show ls.length + 1 ≤ 1000000 by have := Hl.out; omega)
  clear hiL hzL0 hzL1 hzL2 hone henc hok2 hbB hkB hB4 hsp hown hr7 hb4 hx HR3 htr
  go_upto_region 4 with fail
  rw [← hwB]
  clear hwB
  go_upto_region 6 with fail
  go_region_held3 (fun w' => w'.cell? ⟨w4.heap.size, 0, none⟩ = some (.slice ar 1 cr)) (first | (with_reducible exact KS) | (with_reducible exact (HX.out _ (HBd.out _)).1) | (with_reducible exact (HX.out _ (HB.out.alloc HB.out.size _)).1) | go_keep)
   (first
    | (go_at_call 28; (refine (HLi.out _ (by first | (with_reducible exact HB.out) | (with_reducible exact HBd.out _))).mono ?_); rintro e w7 ⟨⟨v7, rfl, hl7⟩, hb7⟩; obtain ⟨x7, y7, rfl, _, _⟩ := hl7.row.shape; have H7 := hid (hl7.less (base' := wB.heap.size) (by simp)); (try (have hq7 : w7.heap[wB.heap.size]? = some (.cells #[.int .i64 4, .string nm, .int .i64 0, .int .i64 0, .int .i64 0, .string ⟨#[]⟩, .slice ar 1 cr] 77 (0, 0)) := (hb7.block _ (by simp)).trans (za (by simp)); have HQ7 := hid hq7; clear hq7)); have hB7 : Below wB.heap.size wB w7 := (by first | (with_reducible exact HB.out.trans (hb7.mono HB.out.size)) | (with_reducible exact (HBd.out _).trans (hb7.mono (HBd.out _).size))); clear hl7 hb7 KS HB; have HB := hid hB7; clear hB7; have KS := (HX.out _ HB.out).1)
    | (refine yX (W := w7) (by rfl) (.tmp 28) (.tmp 32) 77 69 7 88 zJ yG x Hone.out (by rfl) iL _ qI HiL.out HzL0.out HzL1.out HzL2.out rfl (by decide) (by decide) wB.heap.size (.slice x7 ls.length y7) ls rfl H7.out.row #[.int .i64 4, .string nm, .int .i64 0, .int .i64 0, .int .i64 0, .string ⟨#[]⟩, .slice ar 1 cr] (by rw [Henc.out]) wB.heap.size HQ7.out (by rfl) Hl2.out HB.out.size (fun g9 c9 w9 hr9 hB9 hk9 => ?_); have H9 := hid (H7.out.snoc (Hin.out _ HB.out) hr9 hk9); have hB99 := HB.out.trans hB9; clear hr9 hB9 hk9 KS HB; have HB := hid hB99; clear hB99; have KS := (HX.out _ HB.out).1)
    | (refine yX (W := w7.alloc (.cells #[.int .i64 4, .string nm, .int .i64 0, .int .i64 0, .int .i64 0, .string ⟨#[]⟩, .slice ar 1 cr] 77)) (by rfl) (.tmp 28) (.tmp 32) 77 69 7 88 zJ yG x Hone.out (by rfl) iL _ qI HiL.out HzL0.out HzL1.out HzL2.out rfl (by decide) (by decide) wB.heap.size (.slice x7 ls.length y7) ls rfl (H7.out.row.below (zba)) #[.int .i64 4, .string nm, .int .i64 0, .int .i64 0, .int .i64 0, .string ⟨#[]⟩, .slice ar 1 cr] (by rw [Henc.out]) w7.heap.size (za rfl) (by rfl) Hl2.out (HB.out.alloc HB.out.size _).size (fun g9 c9 w9 hr9 hB9 hk9 => ?_); have H9 := hid ((H7.out.below (zba)).snoc (Hin.out _ (HB.out.alloc HB.out.size _)) hr9 hk9); have hB99 := (HB.out.alloc HB.out.size (.cells #[.int .i64 4, .string nm, .int .i64 0, .int .i64 0, .int .i64 0, .string ⟨#[]⟩, .slice ar 1 cr] 77)).trans hB9; clear hr9 hB9 hk9 KS HB; have HB := hid hB99; clear hB99; have KS := (HX.out _ HB.out).1)
    | (go_at_call 73; (refine (HNew.out _ _ _ H9.out).mono ?_); rintro e w10 ⟨⟨p', rfl, hcat⟩, hb10⟩; have HCat := hid hcat; have hB10 := HB.out.trans (hb10.mono HB.out.size); clear hcat hb10 KS HB; have HB := hid hB10; clear hB10; have KS := (HX.out _ HB.out).1))
  all_goals
   obtain ⟨hok', vl', vi', hat'⟩ := HCat.out
   have hC := ziB p' vl' vi' (ls ++ [x]) items w10 hat' hok' H12.out
   unfold znP at hC
   rw [HRr.out] at hC
   have HC := hid hC
   have Hbw := hid ((HX.out _ HB.out).2.2.2)
   clear hC hok' hat' KS
   go_wp2_with fail
   refine HC.out.mono ?_
   rintro e w11 ⟨⟨a9, c9, out, rfl, hout, hcore⟩ | ⟨rfl, hsat⟩ | ⟨rfl, h⟩, hb11⟩
   ·
    have Ho := hid (zk.less hout Hbw.out.size); have Hcore := hid hcore; have Hb11 := hid (Hbw.out.trans (hb11.mono Hbw.out.size))
    clear hout hcore hb11 HC
    go_wp2_with fail
    go_ret2
    exact ⟨.inl ⟨a9, c9, out, rfl, Ho.out, Hcore.out⟩, Hb11.out⟩
   ·
    have Hsat := hid hsat; have Hb11 := hid (Hbw.out.trans (hb11.mono Hbw.out.size))
    clear hsat hb11 HC
    go_wp2_with fail
    go_ret2
    exact ⟨.inr ⟨rfl, Hsat.out⟩, Hb11.out⟩
   ·
    rw [List.length_append] at h
    simp at h
    exact absurd H200.out (by omega)
 · exact absurd Htxt.out (hno _ HlT.out)
