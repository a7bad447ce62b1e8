import Derived.Test.YtmlfelbkgoplhaaGreatDoorZlPkR
import Derived.Test.YtmlfelbkgoplhaaGreatDoorZlPkL
import Derived.Test.YtmlfelbkgoplhaaGreatDoorZlAppend
import Derived.BigQuiet
import Derived.BigRegion
import Derived.Laws.Bits64b
set_option linter.unusedVariables false
set_option linter.unusedSimpArgs false
namespace Go.Proofs.YtmlfelbkgoplhaaGreatDoor
open Go.RowKit
structure yT (w : World) (p : Nat) (f : Int → Int) (tr : List Int) (v : Value) : Prop where
 blk : ∃ cur : Array Value, w.heap[p]? = some (.cells cur 132 (0, 0)) ∧ cur.size = 25 ∧ (∀ i : Nat, i < 24 → cur[i]? = some (.int .i64 (f ((i : Int) + 1)))) ∧ cur[24]? = some v
 own : w.ownsRow 0 3 1 v tr.length (tr.map (Value.int .i64))
 apart : v.ownBlock ≠ some p
theorem yT.cell {w : World} {p : Nat} {f : Int → Int} {tr : List Int} {v : Value} (h : yT w p f tr v) {k : Int} (h1 : 1 ≤ k) (h2 : k ≤ 24) : w.cell? ⟨p, k.toNat - 1, none⟩ = some (.int .i64 (f k)) := by
 obtain ⟨cur, h3, h4, h5, h6⟩ := h.blk
 rw [cell_of_row w p _ cur _ (0, 0) h3, h5 _ (by omega)]
 rw [show ((k.toNat - 1 : Nat) : Int) + 1 = k by omega]
theorem yT.trail {w : World} {p : Nat} {f : Int → Int} {tr : List Int} {v : Value} (h : yT w p f tr v) : w.cell? ⟨p, 24, none⟩ = some v := by
 obtain ⟨cur, h3, h4, h5, h6⟩ := h.blk
 rw [cell_of_row w p _ cur _ (0, 0) h3, h6]
theorem yT.free {w : World} {p : Nat} {f : Int → Int} {tr : List Int} {v : Value} (h : yT w p f tr v) (i : Nat) : w.frozen? ⟨p, i, none⟩ = false := by
 obtain ⟨cur, h3, _⟩ := h.blk
 simp [World.frozen?, h3]
theorem yT.lt {w : World} {p : Nat} {f : Int → Int} {tr : List Int} {v : Value} (h : yT w p f tr v) : p < w.heap.size := by
 obtain ⟨cur, h3, _⟩ := h.blk
 exact (Array.getElem?_eq_some_iff.1 h3).1
structure Mod (p : Nat) (ov : Option Nat) (w w' : World) : Prop where
 os : w'.os = w.os
 tape : w'.tape = w.tape
 output : w'.output = w.output
 size : w.heap.size ≤ w'.heap.size
 block : ∀ k, k < w.heap.size → k ≠ p → some k ≠ ov → w'.heap[k]? = w.heap[k]?
theorem Mod.refl (p : Nat) (ov : Option Nat) (w : World) : Mod p ov w w := ⟨rfl, rfl, rfl, znr _, fun _ _ _ _ => rfl⟩
theorem Mod.trans {p : Nat} {ov ov' : Option Nat} {a b c : World} (h : Mod p ov a b) (k : Mod p ov' b c) (ho : ov' = ov ∨ ∃ g, ov' = some g ∧ a.heap.size ≤ g) : Mod p ov a c :=
 ⟨k.os.trans h.os, k.tape.trans h.tape, k.output.trans h.output, Nat.le_trans h.size k.size, fun i h1 h2 h3 => (k.block i (Nat.lt_of_lt_of_le h1 h.size) h2 (by
  rcases ho with rfl | ⟨g, rfl, hg⟩
  · exact h3
  · intro e; cases e; omega)).trans (h.block i h1 h2 h3)⟩
theorem Mod.of_below {p : Nat} {ov : Option Nat} {w w' : World} (h : Below w.heap.size w w') : Mod p ov w w' := ⟨h.os, h.tape, h.output, h.size, fun k h1 _ _ => h.block k h1⟩
theorem Mod.below {p B : Nat} {ov : Option Nat} {w w' : World} (h : Mod p ov w w') (hp : B ≤ p) (ho : ∀ g, ov = some g → B ≤ g) (hB : B ≤ w.heap.size) : Below B w w' :=
 ⟨h.os, h.tape, h.output, h.size, fun k hk => h.block k (by omega) (by omega) (fun e => by have := ho k e.symm; omega)⟩
theorem zfZ {w : World} {p : Nat} {cur : Array Value} {e : TypeId} {fz : Nat × Nat} (h : w.heap[p]? = some (.cells cur e fz)) (i : Nat) (u : Value) : (w.setCell ⟨p, i, none⟩ u).heap[p]? = some (.cells (cur.setIfInBounds i u) e fz) := by
 simp only [World.setCell]
 rw [Array.getElem?_modify, if_pos rfl, h]
 rfl
theorem yT.store {w : World} {p : Nat} {f : Int → Int} {tr : List Int} {v : Value} (h : yT w p f tr v) {k n : Int} (h1 : 1 ≤ k) (h2 : k ≤ 24) : yT (w.setCell ⟨p, k.toNat - 1, none⟩ (.int .i64 n)) p (upd f k n) tr v := by
 obtain ⟨cur, h3, h4, h5, h6⟩ := h.blk
 refine ⟨⟨cur.setIfInBounds (k.toNat - 1) (.int .i64 n), ?_, by simp [h4], fun i hi => ?_, ?_⟩, ?_, h.apart⟩
 · exact zfZ h3 _ _
 ·
  rw [Array.getElem?_setIfInBounds]
  unfold upd
  by_cases e : k.toNat - 1 = i
  · rw [if_pos e, if_pos (by omega), if_pos (by omega)]
  · rw [if_neg e, if_neg (by omega), h5 i hi]
 · rw [Array.getElem?_setIfInBounds, if_neg (by omega), h6]
 ·
  refine ⟨h.own.1, ?_⟩
  rcases h.own.2 with hn | ⟨g, cap, cur', hv, hg, hh, r⟩
  · exact .inl hn
  ·
   refine .inr ⟨g, cap, cur', hv, hg, ?_, r⟩
   rw [zhc _ _ _ _ (by intro e; have := h.apart; rw [hv] at this; exact this (by simp [Value.ownBlock]; exact e))]
   exact hh
theorem Mod.store {w : World} {p : Nat} {ov : Option Nat} {i : Nat} {u : Value} : Mod p ov w (w.setCell ⟨p, i, none⟩ u) :=
 ⟨rfl, rfl, rfl, by simp [World.setCell], fun k hk h1 _ => zhc _ _ _ _ h1⟩
def Next (w : World) (v v' : Value) : Prop := v'.ownBlock = v.ownBlock ∨ ∃ g, v'.ownBlock = some g ∧ w.heap.size ≤ g
structure Chg (tg : Nat → Nat) (T : Nat → Bool) (w w' : World) : Prop where
 os : w'.os = w.os
 tape : w'.tape = w.tape
 output : w'.output = w.output
 size : w.heap.size ≤ w'.heap.size
 block : ∀ k, k < w.heap.size → T (tg k) = false → w'.heap[k]? = w.heap[k]?
def retag (n : Nat) (tg : Nat → Nat) (t : Nat) : Nat → Nat := fun k => if k < n then tg k else t
theorem yF {n k : Nat} {tg : Nat → Nat} {t : Nat} (h : k < n) : retag n tg t k = tg k := if_pos h
theorem zku {n k : Nat} {tg : Nat → Nat} {t : Nat} (h : n ≤ k) : retag n tg t k = t := if_neg (by omega)
theorem Chg.of_below {tg : Nat → Nat} {T : Nat → Bool} {w w' : World} (h : Below w.heap.size w w') : Chg tg T w w' := ⟨h.os, h.tape, h.output, h.size, fun k hk _ => h.block k hk⟩
theorem Chg.zmC {tg : Nat → Nat} {T : Nat → Bool} {p : Nat} {ov : Option Nat} {w w' : World} (h : Mod p ov w w') (hp : T (tg p) = true) (ho : ∀ b, ov = some b → T (tg b) = true) : Chg tg T w w' :=
 ⟨h.os, h.tape, h.output, h.size, fun k hk ht => h.block k hk (by intro e; subst e; rw [hp] at ht; cases ht) (by intro e; rw [ho k e.symm] at ht; cases ht)⟩
theorem Chg.zfp {tg : Nat → Nat} {T : Nat → Bool} {w w' : World} {row : Option Nat} (h : w.grownBy w' row) (ho : ∀ b, row = some b → T (tg b) = true) : Chg tg T w w' :=
 ⟨h.os, h.tape, h.output, h.size, fun k hk ht => h.block k hk (by intro e; rw [ho k e.symm] at ht; cases ht)⟩
theorem Chg.trans {tg : Nat → Nat} {T : Nat → Bool} {t : Nat} {a b c : World} (h : Chg tg T a b) (k : Chg (retag a.heap.size tg t) T b c) : Chg tg T a c :=
 ⟨k.os.trans h.os, k.tape.trans h.tape, k.output.trans h.output, Nat.le_trans h.size k.size, fun i hi ht => (k.block i (Nat.lt_of_lt_of_le hi h.size) (by rw [yF hi]; exact ht)).trans (h.block i hi ht)⟩
theorem Chg.below {tg : Nat → Nat} {T : Nat → Bool} {w w' : World} (h : Chg tg T w w') {B : Nat} (hB : B ≤ w.heap.size) (hl : ∀ k, k < B → T (tg k) = false) : Below B w w' :=
 ⟨h.os, h.tape, h.output, h.size, fun k hk => h.block k (by omega) (hl k hk)⟩
theorem Chg.own {tg : Nat → Nat} {T : Nat → Bool} {w w' : World} (h : Chg tg T w w') {base e size : Nat} {v : Value} {n : Nat} {xs : List Value} (ho : w.ownsRow base e size v n xs) (ht : ∀ b, v.ownBlock = some b → T (tg b) = false) : w'.ownsRow base e size v n xs := by
 refine ⟨ho.1, ?_⟩
 rcases ho.2 with hn | ⟨g, cap, cur, rfl, h1, h2, r⟩
 · exact .inl hn
 · exact .inr ⟨g, cap, cur, rfl, h1, by rw [h.block g (Array.getElem?_eq_some_iff.1 h2).1 (ht g rfl)]; exact h2, r⟩
theorem Chg.state {tg : Nat → Nat} {T : Nat → Bool} {w w' : World} (h : Chg tg T w w') {p : Nat} {f : Int → Int} {tr : List Int} {v : Value} (hs : yT w p f tr v) (hp : T (tg p) = false) (ht : ∀ b, v.ownBlock = some b → T (tg b) = false) : yT w' p f tr v := by
 obtain ⟨cur, h3, h4⟩ := hs.blk
 exact ⟨⟨cur, by rw [h.block p hs.lt hp]; exact h3, h4⟩, h.own hs.own ht, hs.apart⟩
theorem zD.own {w : World} {v : Value} {xs : List Int} (h : zD w v xs) : xs ≠ [] → ∃ b, v.ownBlock = some b ∧ b < w.heap.size := by
 intro hne
 obtain ⟨a, b, o, c, rfl, h2, _, _, _, h6, _⟩ := h
 rw [h2 hne]
 exact ⟨b, rfl, h6 hne⟩
theorem zD.same {w w' : World} {v : Value} {xs : List Int} (h : zD w v xs) (hb : ∀ b, v.ownBlock = some b → b < w.heap.size → w'.heap[b]? = w.heap[b]?) (hs : w.heap.size ≤ w'.heap.size) : zD w' v xs := by
 obtain ⟨a, b, o, c, rfl, h2, h3, h4, h5, h6, h7⟩ := h
 refine ⟨a, b, o, c, rfl, h2, h3, h4, fun i hi => ?_, fun e => Nat.lt_of_lt_of_le (h6 e) hs, h7⟩
 have hne : xs ≠ [] := by intro e; subst e; simp at hi
 have e := hb b (by rw [h2 hne]; rfl) (h6 hne)
 rw [World.cell?_of_block (w := w) e]
 exact h5 i hi
theorem Chg.ints {tg : Nat → Nat} {T : Nat → Bool} {w w' : World} (h : Chg tg T w w') {v : Value} {xs : List Int} (hi : zD w v xs) (ht : ∀ b, v.ownBlock = some b → T (tg b) = false) : zD w' v xs :=
 hi.same (fun b hb hlt => h.block b hlt (ht b hb)) h.size
theorem Chg.vals {tg : Nat → Nat} {T : Nat → Bool} {w w' : World} (h : Chg tg T w w') {rs : List Value} {ls : List (List Int)} (hr : q8 w rs ls) (ht : ∀ r ∈ rs, ∀ b, r.ownBlock = some b → T (tg b) = false) : q8 w' rs ls :=
 ⟨hr.1, fun i h1 h2 => h.ints (hr.2 i h1 h2) (ht _ (List.getElem_mem h1))⟩
theorem zfv {w : World} {base e : Nat} {v : Value} {n : Nat} {xs : List Int} (h : w.ownsRow base e 1 v n (xs.map (Value.int .i64))) (hl : xs.length ≤ 17592186044416) : zD w v xs := by
 obtain ⟨h1, h2⟩ := h
 have hn : n = xs.length := by simp at h1; omega
 subst hn
 rcases h2 with ⟨rfl, h3⟩ | ⟨g, cap, cur, rfl, hg, hh, h3, h4, h5, h6⟩
 ·
  have e : xs = [] := List.eq_nil_of_length_eq_zero h3
  subst e
  exact ⟨none, 0, 0, 0, rfl, fun h => absurd rfl h, znr _, znz _, fun i hi => absurd hi (by simp), fun h => absurd rfl h, znz _⟩
 ·
  refine ⟨_, g, 0, cap, rfl, fun _ => rfl, h3, h4, fun i hi => ?_, fun _ => (Array.getElem?_eq_some_iff.1 hh).1, hl⟩
  rw [cell_of_row w g (0 + i) cur e (0, 0) hh, Nat.zero_add]
  have h7 : (cur.toList.take (xs.length * 1))[i]? = some (.int .i64 xs[i]) := by rw [h6]; simp [hi]
  rw [List.getElem?_take] at h7
  have e2 : xs.getD i 0 = xs[i] := by simp [hi]
  rw [e2]
  split at h7
  · simpa using h7
  · cases h7
def zm8 (f : Int → Int) (l : List Int) : Int → Int := l.foldl (fun f x => upd f (vr x) 0) f
theorem zjJ (l : List Int) : ∀ (f : Int → Int) (u : Int), zm8 f l u = if ∃ x ∈ l, vr x = u then 0 else f u := by
 induction l with
 | nil => intro f u; simp [zm8]
 | cons y l ih =>
  intro f u
  show zm8 (upd f (vr y) 0) l u = _
  rw [ih]
  by_cases h : ∃ x ∈ l, vr x = u
  · rw [if_pos h, if_pos (by obtain ⟨x, hx, e⟩ := h; exact ⟨x, by simp [hx], e⟩)]
  ·
   rw [if_neg h]
   unfold upd
   by_cases e : vr y = u
   · rw [if_pos e, if_pos ⟨y, by simp, e⟩]
   · rw [if_neg e, if_neg (by rintro ⟨x, hx, e2⟩; rcases List.mem_cons.1 hx with rfl | hx; exact e e2; exact h ⟨x, hx, e2⟩)]
theorem qN.take {m : Int} {f : Int → Int} {tr : List Int} (h : qN m f tr) (n : Nat) : qN m (zm8 f (tr.drop n)) (tr.take n) := by
 refine ⟨fun u => ?_, fun y hy => ?_, fun x hx => h.rng x (List.mem_of_mem_take hx), h.nodup.sublist (List.take_sublist _ _)⟩
 · rw [zjJ]; have := h.tri u; split <;> omega
 ·
  have hlv : lv (zm8 f (tr.drop n)) y = if ∃ x ∈ tr.drop n, vr x = vr y then 0 else lv f y := by
   unfold lv
   rw [zjJ]
   split <;> split <;> first | rfl | simp
  rw [hlv]
  have hsp : y ∈ tr ↔ y ∈ tr.take n ∨ y ∈ tr.drop n := by rw [← List.mem_append, List.take_append_drop]
  constructor
  ·
   intro h1
   split at h1
   · omega
   ·
    rename_i hno
    rcases hsp.1 ((h.iff y hy).1 h1) with h2 | h2
    · exact h2
    · exact absurd ⟨y, h2, rfl⟩ hno
  ·
   intro h1
   have h2 := hsp.2 (.inl h1)
   have h3 := (h.iff y hy).2 h2
   rw [if_neg]
   · exact h3
   ·
    rintro ⟨x, hx, e⟩
    have hxt : x ∈ tr := List.mem_of_mem_drop hx
    have hx0 := (h.rng x hxt).1
    have h4 := (h.iff x hx0).2 hxt
    have h5 : x = y ∨ x = -y := by unfold vr at e; omega
    rcases h5 with rfl | rfl
    ·
     have hnd := h.nodup
     rw [← List.take_append_drop n tr, List.nodup_append] at hnd
     exact hnd.2.2 x h1 x hx rfl
    · rw [zas hy] at h4; omega
theorem yT.ints {w : World} {p : Nat} {f : Int → Int} {tr : List Int} {v : Value} (h : yT w p f tr v) (hl : tr.length ≤ 17592186044416) : zD w v tr := zfv h.own hl
theorem zD.same' {w w' : World} {v : Value} {xs : List Int} (h : zD w v xs) (hb : xs ≠ [] → ∀ b, v.ownBlock = some b → b < w.heap.size → w'.heap[b]? = w.heap[b]?) (hs : w.heap.size ≤ w'.heap.size) : zD w' v xs := by
 obtain ⟨a, b, o, c, rfl, h2, h3, h4, h5, h6, h7⟩ := h
 refine ⟨a, b, o, c, rfl, h2, h3, h4, fun i hi => ?_, fun e => Nat.lt_of_lt_of_le (h6 e) hs, h7⟩
 have hne : xs ≠ [] := by intro e; subst e; simp at hi
 have e := hb hne b (by rw [h2 hne]; rfl) (h6 hne)
 rw [World.cell?_of_block (w := w) e]
 exact h5 i hi
structure zd6 (tg : Nat → Nat) (w : World) (rs : List Value) (ls : List (List Int)) : Prop where
 vals : q8 w rs ls
 tags : ∀ i (h1 : i < rs.length) (h2 : i < ls.length), ls[i] ≠ [] → ∀ b, rs[i].ownBlock = some b → tg b = 5
theorem zd6.chg {tg : Nat → Nat} {T : Nat → Bool} {w w' : World} {rs : List Value} {ls : List (List Int)} (h : zd6 tg w rs ls) (hc : Chg tg T w w') (h5 : T 5 = false) (t : Nat) : zd6 (retag w.heap.size tg t) w' rs ls := by
 refine ⟨⟨h.vals.1, fun i h1 h2 => (h.vals.2 i h1 h2).same' (fun hne b hb hlt => hc.block b hlt (by rw [h.tags i h1 h2 hne b hb]; exact h5)) hc.size⟩, fun i h1 h2 hne b hb => ?_⟩
 obtain ⟨b', hb', hlt⟩ := (h.vals.2 i h1 h2).own hne
 rw [hb] at hb'; cases hb'
 rw [yF hlt]
 exact h.tags i h1 h2 hne b hb
theorem zd6.snoc {tg : Nat → Nat} {w : World} {rs : List Value} {ls : List (List Int)} {r : Value} {xs : List Int} (h : zd6 tg w rs ls) (hr : zD w r xs) (ht : xs ≠ [] → ∀ b, r.ownBlock = some b → tg b = 5) : zd6 tg w (rs ++ [r]) (ls ++ [xs]) := by
 refine ⟨h.vals.snoc hr, fun i h1 h2 => ?_⟩
 by_cases e : i < rs.length
 · rw [List.getElem_append_left e, List.getElem_append_left (by rw [← h.vals.1]; exact e)]; exact h.tags i e _
 ·
  have e1 : i = rs.length := by simp at h1; omega
  subst e1
  have e2 : (ls ++ [xs])[rs.length]'h2 = xs := by
   rw [List.getElem_append_right (by rw [h.vals.1]; exact znr _)]; simp [h.vals.1]
  rw [List.getElem_append_right (znr _), e2]
  simpa using ht
theorem zda {tg : Nat → Nat} {w : World} {base e size : Nat} {v v' : Value} {n : Nat} {xs : List Value} {t : Nat} (ho : w.ownsRow base e size v n xs) (ht : ∀ b, v.ownBlock = some b → tg b = t) (hn : Next w v v') : ∀ b, v'.ownBlock = some b → retag w.heap.size tg t b = t := by
 intro b hb
 rcases hn with e | ⟨g, e, hg⟩
 ·
  rw [e] at hb
  rw [yF (ho.lt b hb).2]; exact ht b hb
 ·
  rw [e] at hb; cases hb
  exact zku hg
theorem yQ {tg : Nat → Nat} {w : World} {base e size : Nat} {v : Value} {n : Nat} {xs : List Value} {t t' : Nat} (ho : w.ownsRow base e size v n xs) (ht : ∀ b, v.ownBlock = some b → tg b = t') : ∀ b, v.ownBlock = some b → retag w.heap.size tg t b = t' := by
 intro b hb
 rw [yF (ho.lt b hb).2]; exact ht b hb
structure kW (B p : Nat) (w : World) (all pf : List (List Int)) (f : Int → Int) (tr : List Int) (dl : List Nat) (vl vd vp v : Value) (tg : Nat → Nat) (rl rp : List Value) : Prop where
 st : yT w p f tr v
 tp : tg p = 0
 tv : ∀ b, v.ownBlock = some b → tg b = 1
 ol : w.ownsRow 0 64 1 vl rl.length rl
 tl : ∀ b, vl.ownBlock = some b → tg b = 2
 cl : zd6 tg w rl all
 od : w.ownsRow 0 3 1 vd dl.length (dl.map fun n : Nat => .int .i64 n)
 td : ∀ b, vd.ownBlock = some b → tg b = 3
 op : w.ownsRow 0 64 1 vp rp.length rp
 tpp : ∀ b, vp.ownBlock = some b → tg b = 4
 cp : zd6 tg w rp pf
 res : w.heap[B]? = some (.cells #[.bool false, .int .u64 0, .slice none 0 0] 56 (0, 0))
 tB : tg B = 6
 low : ∀ k, k < B → tg k = 5
section
variable {B p : Nat} {w : World} {all pf : List (List Int)} {f : Int → Int} {tr : List Int} {dl : List Nat} {vl vd vp v : Value} {tg : Nat → Nat} {rl rp : List Value}
theorem kW.lt (h : kW B p w all pf f tr dl vl vd vp v tg rl rp) : B < w.heap.size := (Array.getElem?_eq_some_iff.1 h.res).1
theorem kW.below (h : kW B p w all pf f tr dl vl vd vp v tg rl rp) {T : Nat → Bool} {w' : World} (hc : Chg tg T w w') (h5 : T 5 = false) : Below B w w' :=
 hc.below (Nat.le_of_lt h.lt) (fun k hk => by rw [h.low k hk]; exact h5)
theorem kW.znp (h : kW B p w all pf f tr dl vl vd vp v tg rl rp) (t : Nat) : ∀ k, k < B → retag w.heap.size tg t k = 5 := fun k hk => by
 rw [yF (by have := h.lt; omega)]; exact h.low k hk
theorem kW.rows (h : kW B p w all pf f tr dl vl vd vp v tg rl rp) (hl : all.length ≤ 17592186044416) {w' : World} (hm : Mod p v.ownBlock w w') : qG w' vl all := by
 have hc : Chg tg (fun t => t == 0 || t == 1) w w' := Chg.zmC hm (by rw [h.tp]; rfl) (fun b hb => by rw [h.tv b hb]; rfl)
 exact zeF (hc.own h.ol (fun b hb => by rw [h.tl b hb]; rfl)) (h.cl.chg hc rfl 0).vals hl
theorem kW.state (h : kW B p w all pf f tr dl vl vd vp v tg rl rp) {w' : World} {g : Int → Int} {tr' : List Int} {v' : Value} (hm : Mod p v.ownBlock w w') (hs : yT w' p g tr' v') (hn : Next w v v') :
 kW B p w' all pf g tr' dl vl vd vp v' (retag w.heap.size tg 1) rl rp ∧ Below B w w' := by
 have hc : Chg tg (fun t => t == 0 || t == 1) w w' := Chg.zmC hm (by rw [h.tp]; rfl) (fun b hb => by rw [h.tv b hb]; rfl)
 refine ⟨⟨hs, by rw [yF h.st.lt]; exact h.tp, zda h.st.own h.tv hn, hc.own h.ol (fun b hb => by rw [h.tl b hb]; rfl), yQ h.ol h.tl, h.cl.chg hc rfl _,
  hc.own h.od (fun b hb => by rw [h.td b hb]; rfl), yQ h.od h.td, hc.own h.op (fun b hb => by rw [h.tpp b hb]; rfl), yQ h.op h.tpp, h.cp.chg hc rfl _, ?_, by rw [yF h.lt]; exact h.tB, h.znp _⟩, h.below hc rfl⟩
 rw [hc.block B h.lt (by rw [h.tB]; rfl)]; exact h.res
theorem kW.fresh (h : kW B p w all pf f tr dl vl vd vp v tg rl rp) {w' : World} (hb : Below w.heap.size w w') :
 kW B p w' all pf f tr dl vl vd vp v (retag w.heap.size tg 5) rl rp := by
 have hc : Chg tg (fun _ => false) w w' := Chg.of_below hb
 refine ⟨hc.state h.st rfl (fun _ _ => rfl), by rw [yF h.st.lt]; exact h.tp, yQ h.st.own h.tv, hc.own h.ol (fun _ _ => rfl), yQ h.ol h.tl, h.cl.chg hc rfl _,
  hc.own h.od (fun _ _ => rfl), yQ h.od h.td, hc.own h.op (fun _ _ => rfl), yQ h.op h.tpp, h.cp.chg hc rfl _, ?_, by rw [yF h.lt]; exact h.tB, h.znp _⟩
 rw [hc.block B h.lt rfl]; exact h.res
theorem kW.proof (h : kW B p w all pf f tr dl vl vd vp v tg rl rp) {w' : World} {vp' r : Value} {xs : List Int} (hg : w.grownBy w' vp.ownBlock) (ho : w'.ownsRow 0 64 1 vp' (rp.length + 1) (rp ++ [r])) (hn : Next w vp vp')
 (hr : zD w r xs) (ht : xs ≠ [] → ∀ b, r.ownBlock = some b → tg b = 5) :
 kW B p w' all (pf ++ [xs]) f tr dl vl vd vp' v (retag w.heap.size tg 4) rl (rp ++ [r]) ∧ Below B w w' := by
 have hc : Chg tg (fun t => t == 4) w w' := Chg.zfp hg (fun b hb => by rw [h.tpp b hb]; rfl)
 refine ⟨⟨hc.state h.st (by rw [h.tp]; rfl) (fun b hb => by rw [h.tv b hb]; rfl), by rw [yF h.st.lt]; exact h.tp, yQ h.st.own h.tv, hc.own h.ol (fun b hb => by rw [h.tl b hb]; rfl), yQ h.ol h.tl, h.cl.chg hc rfl _,
  hc.own h.od (fun b hb => by rw [h.td b hb]; rfl), yQ h.od h.td, by rw [List.length_append]; exact ho, zda h.op h.tpp hn, (h.cp.snoc hr ht).chg hc rfl _, ?_, by rw [yF h.lt]; exact h.tB, h.znp _⟩, h.below hc rfl⟩
 rw [hc.block B h.lt (by rw [h.tB]; rfl)]; exact h.res
theorem kW.clauses (h : kW B p w all pf f tr dl vl vd vp v tg rl rp) {w' : World} {vl' r : Value} {xs : List Int} (hg : w.grownBy w' vl.ownBlock) (ho : w'.ownsRow 0 64 1 vl' (rl.length + 1) (rl ++ [r])) (hn : Next w vl vl')
 (hr : zD w r xs) (ht : xs ≠ [] → ∀ b, r.ownBlock = some b → tg b = 5) :
 kW B p w' (all ++ [xs]) pf f tr dl vl' vd vp v (retag w.heap.size tg 2) (rl ++ [r]) rp ∧ Below B w w' := by
 have hc : Chg tg (fun t => t == 2) w w' := Chg.zfp hg (fun b hb => by rw [h.tl b hb]; rfl)
 refine ⟨⟨hc.state h.st (by rw [h.tp]; rfl) (fun b hb => by rw [h.tv b hb]; rfl), by rw [yF h.st.lt]; exact h.tp, yQ h.st.own h.tv, by rw [List.length_append]; exact ho, zda h.ol h.tl hn, (h.cl.snoc hr ht).chg hc rfl _,
  hc.own h.od (fun b hb => by rw [h.td b hb]; rfl), yQ h.od h.td, hc.own h.op (fun b hb => by rw [h.tpp b hb]; rfl), yQ h.op h.tpp, h.cp.chg hc rfl _, ?_, by rw [yF h.lt]; exact h.tB, h.znp _⟩, h.below hc rfl⟩
 rw [hc.block B h.lt (by rw [h.tB]; rfl)]; exact h.res
theorem kW.decided (h : kW B p w all pf f tr dl vl vd vp v tg rl rp) {w' : World} {vd' : Value} {n : Nat} (hg : w.grownBy w' vd.ownBlock) (ho : w'.ownsRow 0 3 1 vd' (dl.length + 1) ((dl.map fun n : Nat => Value.int .i64 n) ++ [.int .i64 n])) (hn : Next w vd vd') :
 kW B p w' all pf f tr (dl ++ [n]) vl vd' vp v (retag w.heap.size tg 3) rl rp ∧ Below B w w' := by
 have hc : Chg tg (fun t => t == 3) w w' := Chg.zfp hg (fun b hb => by rw [h.td b hb]; rfl)
 refine ⟨⟨hc.state h.st (by rw [h.tp]; rfl) (fun b hb => by rw [h.tv b hb]; rfl), by rw [yF h.st.lt]; exact h.tp, yQ h.st.own h.tv, hc.own h.ol (fun b hb => by rw [h.tl b hb]; rfl), yQ h.ol h.tl, h.cl.chg hc rfl _,
  by rw [List.length_append, List.map_append]; exact ho, zda h.od h.td hn, hc.own h.op (fun b hb => by rw [h.tpp b hb]; rfl), yQ h.op h.tpp, h.cp.chg hc rfl _, ?_, by rw [yF h.lt]; exact h.tB, h.znp _⟩, h.below hc rfl⟩
 rw [hc.block B h.lt (by rw [h.tB]; rfl)]; exact h.res
end
theorem Next.trans {a b : World} {v v' v'' : Value} (h : Next a v v') (h' : Next b v' v'') (hs : a.heap.size ≤ b.heap.size) : Next a v v'' := by
 rcases h' with e | ⟨g, e, hg⟩
 ·
  rcases h with e2 | ⟨g, e2, hg⟩
  · exact .inl (e.trans e2)
  · exact .inr ⟨g, e.trans e2, hg⟩
 · exact .inr ⟨g, e, by omega⟩
theorem zD.cap {w : World} {a : Option Addr} {n c : Nat} {xs : List Int} (h : zD w (.slice a n c) xs) : xs.length ≤ c ∧ c ≤ 9223372036854775807 := by
 obtain ⟨_, _, e, h1, h2, _⟩ := h.shape
 cases e
 exact ⟨h1, h2⟩
theorem yT.vars {w : World} {p : Nat} {f : Int → Int} {tr : List Int} {v : Value} (h : yT w p f tr v) {M : Nat} (hM : M ≤ 24) : zD w (.slice (some ⟨p, 0, none⟩) M 24) ((List.range M).map fun i : Nat => f ((i : Int) + 1)) := by
 refine ⟨some ⟨p, 0, none⟩, p, 0, 24, by simp, fun _ => rfl, by simpa using hM, by decide, fun i hi => ?_, fun _ => h.lt, by simp; omega⟩
 have hi' : i < M := by simpa using hi
 have hc := h.cell (k := (i : Int) + 1) (by omega) (by omega)
 rw [show ((i : Int) + 1).toNat - 1 = i by omega] at hc
 rw [Nat.zero_add, hc, List.getD_eq_getElem?_getD, List.getElem?_map, List.getElem?_range hi']
 rfl
