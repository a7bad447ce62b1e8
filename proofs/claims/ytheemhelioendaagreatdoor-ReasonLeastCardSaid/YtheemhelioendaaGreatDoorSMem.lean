/- The search's memory, in parts. -/
import Derived.Test.YtheemhelioendaaGreatDoorBack
namespace Go.Proofs.YtheemhelioendaaGreatDoor
open Go.RowKit
set_option linter.unusedVariables false

theorem IsInts.same' {w w' : World} {v : Value} {xs : List Int} (h : IsInts w v xs) (hb : xs ≠ [] → ∀ b, v.ownBlock = some b → b < w.heap.size → w'.heap[b]? = w.heap[b]?) (hs : w.heap.size ≤ w'.heap.size) : IsInts w' v xs := by
  obtain ⟨a, b, o, c, rfl, h2, h3, h4, h5, h6, h7⟩ := h
  refine ⟨a, b, o, c, rfl, h2, h3, h4, fun i hi => ?_, fun e => Nat.lt_of_lt_of_le (h6 e) hs, h7⟩
  have hne : xs ≠ [] := by intro e; subst e; simp at hi
  have e := hb hne b (by rw [h2 hne]; rfl) (h6 hne)
  rw [World.cell?_of_block (w := w) e]
  exact h5 i hi

/-- The values rs are slices of the integers ls, and lie in blocks of tag 5. -/
structure Vals5 (tg : Nat → Nat) (w : World) (rs : List Value) (ls : List (List Int)) : Prop where
  vals : RowVals w rs ls
  tags : ∀ i (h1 : i < rs.length) (h2 : i < ls.length), ls[i] ≠ [] → ∀ b, rs[i].ownBlock = some b → tg b = 5

theorem Vals5.chg {tg : Nat → Nat} {T : Nat → Bool} {w w' : World} {rs : List Value} {ls : List (List Int)} (h : Vals5 tg w rs ls) (hc : Chg tg T w w') (h5 : T 5 = false) (t : Nat) : Vals5 (retag w.heap.size tg t) w' rs ls := by
  refine ⟨⟨h.vals.1, fun i h1 h2 => (h.vals.2 i h1 h2).same' (fun hne b hb hlt => hc.block b hlt (by rw [h.tags i h1 h2 hne b hb]; exact h5)) hc.size⟩, fun i h1 h2 hne b hb => ?_⟩
  obtain ⟨b', hb', hlt⟩ := (h.vals.2 i h1 h2).own hne
  rw [hb] at hb'; cases hb'
  rw [retag_old hlt]
  exact h.tags i h1 h2 hne b hb
theorem Vals5.snoc {tg : Nat → Nat} {w : World} {rs : List Value} {ls : List (List Int)} {r : Value} {xs : List Int} (h : Vals5 tg w rs ls) (hr : IsInts w r xs) (ht : xs ≠ [] → ∀ b, r.ownBlock = some b → tg b = 5) : Vals5 tg w (rs ++ [r]) (ls ++ [xs]) := by
  refine ⟨h.vals.snoc hr, fun i h1 h2 => ?_⟩
  by_cases e : i < rs.length
  · rw [List.getElem_append_left e, List.getElem_append_left (by rw [← h.vals.1]; exact e)]; exact h.tags i e _
  · have e1 : i = rs.length := by simp at h1; omega
    subst e1
    have e2 : (ls ++ [xs])[rs.length]'h2 = xs := by
      rw [List.getElem_append_right (by rw [h.vals.1]; exact Nat.le_refl _)]; simp [h.vals.1]
    rw [List.getElem_append_right (Nat.le_refl _), e2]
    simpa using ht

/-- An owned row's block keeps its tag; what comes anew has the tag t. -/
theorem tag_next {tg : Nat → Nat} {w : World} {base e size : Nat} {v v' : Value} {n : Nat} {xs : List Value} {t : Nat} (ho : w.ownsRow base e size v n xs) (ht : ∀ b, v.ownBlock = some b → tg b = t) (hn : Next w v v') : ∀ b, v'.ownBlock = some b → retag w.heap.size tg t b = t := by
  intro b hb
  rcases hn with e | ⟨g, e, hg⟩
  · rw [e] at hb
    rw [retag_old (ho.lt b hb).2]; exact ht b hb
  · rw [e] at hb; cases hb
    exact retag_new hg
theorem tag_same {tg : Nat → Nat} {w : World} {base e size : Nat} {v : Value} {n : Nat} {xs : List Value} {t t' : Nat} (ho : w.ownsRow base e size v n xs) (ht : ∀ b, v.ownBlock = some b → tg b = t') : ∀ b, v.ownBlock = some b → retag w.heap.size tg t b = t' := by
  intro b hb
  rw [retag_old (ho.lt b hb).2]; exact ht b hb

/-- The memory of the search: B the heap's size when the call began; p the state; the clauses vl; the decisions vd; the proof vp. -/
structure SMem (B p : Nat) (w : World) (all pf : List (List Int)) (f : Int → Int) (tr : List Int) (dl : List Nat) (vl vd vp v : Value) (tg : Nat → Nat) (rl rp : List Value) : Prop where
  st : StateAt w p f tr v
  tp : tg p = 0
  tv : ∀ b, v.ownBlock = some b → tg b = 1
  ol : w.ownsRow 0 80 1 vl rl.length rl
  tl : ∀ b, vl.ownBlock = some b → tg b = 2
  cl : Vals5 tg w rl all
  od : w.ownsRow 0 3 1 vd dl.length (dl.map fun n : Nat => .int .i64 n)
  td : ∀ b, vd.ownBlock = some b → tg b = 3
  op : w.ownsRow 0 80 1 vp rp.length rp
  tpp : ∀ b, vp.ownBlock = some b → tg b = 4
  cp : Vals5 tg w rp pf
  res : w.heap[B]? = some (.cells #[.bool false, .int .u64 0, .slice none 0 0] 72 (0, 0))
  tB : tg B = 6
  low : ∀ k, k < B → tg k = 5

section
variable {B p : Nat} {w : World} {all pf : List (List Int)} {f : Int → Int} {tr : List Int} {dl : List Nat} {vl vd vp v : Value} {tg : Nat → Nat} {rl rp : List Value}

theorem SMem.lt (h : SMem B p w all pf f tr dl vl vd vp v tg rl rp) : B < w.heap.size := (Array.getElem?_eq_some_iff.1 h.res).1
theorem SMem.below (h : SMem B p w all pf f tr dl vl vd vp v tg rl rp) {T : Nat → Bool} {w' : World} (hc : Chg tg T w w') (h5 : T 5 = false) : Below B w w' :=
  hc.below (Nat.le_of_lt h.lt) (fun k hk => by rw [h.low k hk]; exact h5)
theorem SMem.low' (h : SMem B p w all pf f tr dl vl vd vp v tg rl rp) (t : Nat) : ∀ k, k < B → retag w.heap.size tg t k = 5 := fun k hk => by
  rw [retag_old (by have := h.lt; omega)]; exact h.low k hk

theorem SMem.rows (h : SMem B p w all pf f tr dl vl vd vp v tg rl rp) (hl : all.length ≤ 17592186044416) {w' : World} (hm : Mod p v.ownBlock w w') : IsRows w' vl all := by
  have hc : Chg tg (fun t => t == 0 || t == 1) w w' := Chg.of_mod hm (by rw [h.tp]; rfl) (fun b hb => by rw [h.tv b hb]; rfl)
  exact isRows_of_owns (hc.own h.ol (fun b hb => by rw [h.tl b hb]; rfl)) (h.cl.chg hc rfl 0).vals hl

/-- The state has turned. -/
theorem SMem.state (h : SMem B p w all pf f tr dl vl vd vp v tg rl rp) {w' : World} {g : Int → Int} {tr' : List Int} {v' : Value} (hm : Mod p v.ownBlock w w') (hs : StateAt w' p g tr' v') (hn : Next w v v') :
    SMem B p w' all pf g tr' dl vl vd vp v' (retag w.heap.size tg 1) rl rp ∧ Below B w w' := by
  have hc : Chg tg (fun t => t == 0 || t == 1) w w' := Chg.of_mod hm (by rw [h.tp]; rfl) (fun b hb => by rw [h.tv b hb]; rfl)
  refine ⟨⟨hs, by rw [retag_old h.st.lt]; exact h.tp, tag_next h.st.own h.tv hn, hc.own h.ol (fun b hb => by rw [h.tl b hb]; rfl), tag_same h.ol h.tl, h.cl.chg hc rfl _,
    hc.own h.od (fun b hb => by rw [h.td b hb]; rfl), tag_same h.od h.td, hc.own h.op (fun b hb => by rw [h.tpp b hb]; rfl), tag_same h.op h.tpp, h.cp.chg hc rfl _, ?_, by rw [retag_old h.lt]; exact h.tB, h.low' _⟩, h.below hc rfl⟩
  rw [hc.block B h.lt (by rw [h.tB]; rfl)]; exact h.res

/-- Something new has come (a clause). -/
theorem SMem.fresh (h : SMem B p w all pf f tr dl vl vd vp v tg rl rp) {w' : World} (hb : Below w.heap.size w w') :
    SMem B p w' all pf f tr dl vl vd vp v (retag w.heap.size tg 5) rl rp := by
  have hc : Chg tg (fun _ => false) w w' := Chg.of_below hb
  refine ⟨hc.state h.st rfl (fun _ _ => rfl), by rw [retag_old h.st.lt]; exact h.tp, tag_same h.st.own h.tv, hc.own h.ol (fun _ _ => rfl), tag_same h.ol h.tl, h.cl.chg hc rfl _,
    hc.own h.od (fun _ _ => rfl), tag_same h.od h.td, hc.own h.op (fun _ _ => rfl), tag_same h.op h.tpp, h.cp.chg hc rfl _, ?_, by rw [retag_old h.lt]; exact h.tB, h.low' _⟩
  rw [hc.block B h.lt rfl]; exact h.res

/-- The proof has grown by a clause. -/
theorem SMem.proof (h : SMem B p w all pf f tr dl vl vd vp v tg rl rp) {w' : World} {vp' r : Value} {xs : List Int} (hg : w.grownBy w' vp.ownBlock) (ho : w'.ownsRow 0 80 1 vp' (rp.length + 1) (rp ++ [r])) (hn : Next w vp vp')
    (hr : IsInts w r xs) (ht : xs ≠ [] → ∀ b, r.ownBlock = some b → tg b = 5) :
    SMem B p w' all (pf ++ [xs]) f tr dl vl vd vp' v (retag w.heap.size tg 4) rl (rp ++ [r]) ∧ Below B w w' := by
  have hc : Chg tg (fun t => t == 4) w w' := Chg.of_grown hg (fun b hb => by rw [h.tpp b hb]; rfl)
  refine ⟨⟨hc.state h.st (by rw [h.tp]; rfl) (fun b hb => by rw [h.tv b hb]; rfl), by rw [retag_old h.st.lt]; exact h.tp, tag_same h.st.own h.tv, hc.own h.ol (fun b hb => by rw [h.tl b hb]; rfl), tag_same h.ol h.tl, h.cl.chg hc rfl _,
    hc.own h.od (fun b hb => by rw [h.td b hb]; rfl), tag_same h.od h.td, by rw [List.length_append]; exact ho, tag_next h.op h.tpp hn, (h.cp.snoc hr ht).chg hc rfl _, ?_, by rw [retag_old h.lt]; exact h.tB, h.low' _⟩, h.below hc rfl⟩
  rw [hc.block B h.lt (by rw [h.tB]; rfl)]; exact h.res

/-- The clauses have grown by a clause. -/
theorem SMem.clauses (h : SMem B p w all pf f tr dl vl vd vp v tg rl rp) {w' : World} {vl' r : Value} {xs : List Int} (hg : w.grownBy w' vl.ownBlock) (ho : w'.ownsRow 0 80 1 vl' (rl.length + 1) (rl ++ [r])) (hn : Next w vl vl')
    (hr : IsInts w r xs) (ht : xs ≠ [] → ∀ b, r.ownBlock = some b → tg b = 5) :
    SMem B p w' (all ++ [xs]) pf f tr dl vl' vd vp v (retag w.heap.size tg 2) (rl ++ [r]) rp ∧ Below B w w' := by
  have hc : Chg tg (fun t => t == 2) w w' := Chg.of_grown hg (fun b hb => by rw [h.tl b hb]; rfl)
  refine ⟨⟨hc.state h.st (by rw [h.tp]; rfl) (fun b hb => by rw [h.tv b hb]; rfl), by rw [retag_old h.st.lt]; exact h.tp, tag_same h.st.own h.tv, by rw [List.length_append]; exact ho, tag_next h.ol h.tl hn, (h.cl.snoc hr ht).chg hc rfl _,
    hc.own h.od (fun b hb => by rw [h.td b hb]; rfl), tag_same h.od h.td, hc.own h.op (fun b hb => by rw [h.tpp b hb]; rfl), tag_same h.op h.tpp, h.cp.chg hc rfl _, ?_, by rw [retag_old h.lt]; exact h.tB, h.low' _⟩, h.below hc rfl⟩
  rw [hc.block B h.lt (by rw [h.tB]; rfl)]; exact h.res

/-- A decision more. -/
theorem SMem.decided (h : SMem B p w all pf f tr dl vl vd vp v tg rl rp) {w' : World} {vd' : Value} {n : Nat} (hg : w.grownBy w' vd.ownBlock) (ho : w'.ownsRow 0 3 1 vd' (dl.length + 1) ((dl.map fun n : Nat => Value.int .i64 n) ++ [.int .i64 n])) (hn : Next w vd vd') :
    SMem B p w' all pf f tr (dl ++ [n]) vl vd' vp v (retag w.heap.size tg 3) rl rp ∧ Below B w w' := by
  have hc : Chg tg (fun t => t == 3) w w' := Chg.of_grown hg (fun b hb => by rw [h.td b hb]; rfl)
  refine ⟨⟨hc.state h.st (by rw [h.tp]; rfl) (fun b hb => by rw [h.tv b hb]; rfl), by rw [retag_old h.st.lt]; exact h.tp, tag_same h.st.own h.tv, hc.own h.ol (fun b hb => by rw [h.tl b hb]; rfl), tag_same h.ol h.tl, h.cl.chg hc rfl _,
    by rw [List.length_append, List.map_append]; exact ho, tag_next h.od h.td hn, hc.own h.op (fun b hb => by rw [h.tpp b hb]; rfl), tag_same h.op h.tpp, h.cp.chg hc rfl _, ?_, by rw [retag_old h.lt]; exact h.tB, h.low' _⟩, h.below hc rfl⟩
  rw [hc.block B h.lt (by rw [h.tB]; rfl)]; exact h.res

/-- The last decision is taken off. -/
theorem SMem.undecide {a : Option Addr} {c n : Nat} (h : SMem B p w all pf f tr (dl ++ [n]) vl (.slice a (dl.length + 1) c) vp v tg rl rp) : SMem B p w all pf f tr dl vl (.slice a dl.length c) vp v tg rl rp := by
  refine ⟨h.st, h.tp, h.tv, h.ol, h.tl, h.cl, ?_, ?_, h.op, h.tpp, h.cp, h.res, h.tB, h.low⟩
  · have h1 := h.od
    rw [List.length_append] at h1
    have h2 := owns_take h1 (k := dl.length) (by simp)
    have e : ((dl ++ [n]).map fun n : Nat => Value.int .i64 n).take dl.length = dl.map fun n : Nat => Value.int .i64 n := by
      rw [List.map_append, List.take_append_of_le_length (by simp), List.take_of_length_le (by simp)]
    rw [e] at h2
    exact h2
  · intro b hb
    exact h.td b (by cases a <;> exact hb)
end
end Go.Proofs.YtheemhelioendaaGreatDoor
