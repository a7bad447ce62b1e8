/- ArenaOnce: its plain part, and its memory. -/
import Derived.Test.YtmlnfbageoabnaaPick
import Derived.Test.YtmlnfbageoabnaaRange
namespace Go.Proofs.Ytmlnfbageoabnaa
open Go.RowKit
set_option linter.unusedVariables false

theorem mk_cases {c : Cells} {n : Nd} (h : (mkM c n).2.2 = 0) :
    (∃ k : Nat, c.at k = some n ∧ mkM c n = (c, (k : Int) + 2, 0)) ∨ ∃ k : Nat, k < c.length ∧ c.at k = none ∧ (∀ j, c.at j ≠ some n) ∧ mkM c n = (c.set k (some n), (k : Int) + 2, 0) := by
  unfold mkM at h ⊢
  split
  · rename_i hb; rw [if_pos hb] at h; exact absurd h hb
  · rename_i hb
    split
    · rename_i k hk; exact .inl ⟨k, findM_some hk, rfl⟩
    · rename_i hf
      split
      · rename_i k hk; exact .inr ⟨k, (freeM_some hk).1, (freeM_some hk).2.1, findM_none hf, rfl⟩
      · rename_i hk; rw [if_neg hb, hf] at h; simp [hk] at h

/-- What the map and the list of ArenaOnce's first loop say of the arena. -/
structure OInv (c : Cells) (mp : List (Nd × Value)) (all : List Int) (k : Nat) : Prop where
  ok : Ok c
  len : c.length = 100
  has : ∀ x ∈ all, hasM c x = true
  pos : 0 < all.length
  few : all.length ≤ k + 2
  many : mp.length = cnt c
  maps : ∀ n, assoc mp n = (findM c n).map fun j : Nat => Value.int .i64 ((j : Int) + 2)

theorem findM_iff {c : Cells} (o : Ok c) {n : Nd} {k : Nat} : findM c n = some k ↔ c.at k = some n :=
  ⟨findM_some, fun h => findM_at (fun j hj => o.uniq j k n hj h) h⟩
theorem oinv_start : OInv (List.replicate 100 none) [] [0, 1] 0 := by
  refine ⟨ok_empty 100, by simp, fun x hx => ?_, by simp, by simp, by decide, fun n => ?_⟩
  · simp at hx
    rcases hx with rfl | rfl
    · exact hasM_zero _
    · exact hasM_one _
  · have : findM (List.replicate 100 none) n = none := by
      unfold findM
      rw [List.findIdx?_eq_none_iff]
      intro x hx
      rw [List.eq_of_mem_replicate hx]; rfl
    rw [this]; rfl
theorem OInv.skip {c : Cells} {mp : List (Nd × Value)} {all : List Int} {k : Nat} {n : Nd} (h : OInv c mp all k) (he : (mkM c n).2.2 ≠ 0) : OInv (mkM c n).1 mp all (k + 1) := by
  have : (mkM c n).1 = c := by
    unfold mkM at he ⊢
    split
    · rfl
    · rename_i hb
      rw [if_neg hb] at he
      split
      · rfl
      · rename_i hf
        rw [hf] at he
        split
        · rename_i k hk; simp [hk] at he
        · rfl
  rw [this]
  exact ⟨h.ok, h.len, h.has, h.pos, by have := h.few; omega, h.many, h.maps⟩
theorem OInv.make {c : Cells} {mp : List (Nd × Value)} {all : List Int} {k : Nat} {n : Nd} (h : OInv c mp all k) (he : (mkM c n).2.2 = 0) :
    OInv (mkM c n).1 (putAssoc mp n (.int .i64 (mkM c n).2.1)) (all ++ [(mkM c n).2.1]) (k + 1) ∧ ((assoc mp n = none) ∨ assoc mp n = some (.int .i64 (mkM c n).2.1)) := by
  have hok := mkM_ok h.ok n
  have hext := mkM_ext c n
  have hget := mkM_get he
  have hhas : hasM (mkM c n).1 (mkM c n).2.1 = true := by unfold hasM; rw [hget]; simp
  have hmem : ∀ x ∈ all ++ [(mkM c n).2.1], hasM (mkM c n).1 x = true := fun x hx => (List.mem_append.1 hx).elim (fun h1 => hext.has (h.has x h1)) (fun h1 => by rw [List.mem_singleton] at h1; rw [h1]; exact hhas)
  have hpl : ∀ v, (putAssoc mp n v).length = if (assoc mp n).isSome then mp.length else mp.length + 1 := by
    intro v
    unfold putAssoc assoc
    cases assocIdx n mp with
    | none => simp
    | some r => simp
  have hfew := h.few
  rcases mk_cases he with ⟨j, hj, e⟩ | ⟨j, hlt, hj, hno, e⟩
  · rw [e] at hok hmem ⊢
    have hf : findM c n = some j := (findM_iff h.ok).2 hj
    have ha : assoc mp n = some (.int .i64 ((j : Int) + 2)) := by rw [h.maps, hf]; rfl
    refine ⟨⟨hok, h.len, hmem, by simp, by simp; omega, by rw [hpl, ha]; exact h.many, fun n' => ?_⟩, .inr ha⟩
    rw [assoc_put]
    split
    · rename_i e2; subst e2; rw [hf]; rfl
    · exact h.maps n'
  · rw [e] at hok hmem ⊢
    have hf : findM c n = none := by
      cases e2 : findM c n with
      | none => rfl
      | some i => exact absurd (findM_some e2) (hno i)
    have ha : assoc mp n = none := by rw [h.maps, hf]; rfl
    refine ⟨⟨hok, by simpa using h.len, hmem, by simp, by simp; omega, by rw [hpl, ha, cnt_set hlt hj]; simpa using h.many, fun n' => ?_⟩, .inl ha⟩
    rw [assoc_put]
    split
    · rename_i e2; subst e2
      have : findM (c.set j (some n)) n = some j := (findM_iff hok).2 (by rw [at_set _ hlt]; simp)
      rw [this]; rfl
    · rename_i e2
      rw [h.maps]
      congr 1
      cases e3 : findM c n' with
      | none =>
        cases e4 : findM (c.set j (some n)) n' with
        | none => rfl
        | some i =>
          have h5 := findM_some e4
          rw [at_set _ hlt] at h5
          split at h5
          · cases h5; exact absurd rfl e2
          · exact absurd h5 (findM_none e3 i)
      | some i =>
        have h5 := findM_some e3
        have : Cells.at (c.set j (some n)) i = some n' := by
          rw [at_set _ hlt]
          split
          · rename_i e6; subst e6; rw [hj] at h5; cases h5
          · exact h5
        exact ((findM_iff hok).2 this).symm
/-- What lies in the map, lies in the arena. -/
theorem OInv.entry {c : Cells} {mp : List (Nd × Value)} {all : List Int} {k : Nat} (h : OInv c mp all k) (hn : (mp.map (·.1)).Nodup) {p : Nd × Value} (hp : p ∈ mp) : ∃ j : Nat, c.at j = some p.1 ∧ p.2 = .int .i64 ((j : Int) + 2) := by
  have key : ∀ (l : List (Nd × Value)), (l.map (·.1)).Nodup → p ∈ l → assoc l p.1 = some p.2 := by
    intro l
    induction l with
    | nil => intro _ h; cases h
    | cons q l ih =>
      intro hn hp
      simp only [List.map_cons, List.nodup_cons] at hn
      simp only [assoc, assocIdx]
      rcases List.mem_cons.1 hp with rfl | hp
      · simp
      · have : ¬ q.1 = p.1 := fun e => hn.1 (by rw [e]; exact List.mem_map.2 ⟨p, hp, rfl⟩)
        rw [if_neg this]
        have h2 := ih hn.2 hp
        simp only [assoc] at h2
        simp only [Option.map_map]
        exact h2
  have h1 := key mp hn hp
  rw [h.maps] at h1
  obtain ⟨j, hj, hv⟩ := Option.map_eq_some_iff.1 h1
  exact ⟨j, findM_some hj, hv.symm⟩

/-- What 'before' holds: the nodes of the first j handles. -/
def BInv (c : Cells) (L : List Int) (j : Nat) (mq : List (Int × Value)) : Prop := ∀ x, assoc mq x = if x ∈ L.take j then (getM c x).map encNd else none
theorem binv_start (c : Cells) (L : List Int) : BInv c L 0 [] := fun x => by simp [assoc, assocIdx]
theorem BInv.next {c : Cells} {L : List Int} {j : Nat} {mq : List (Int × Value)} {n : Nd} (h : BInv c L j mq) (hj : j < L.length) (hn : getM c L[j] = some n) : BInv c L (j + 1) (putAssoc mq L[j] (encNd n)) := by
  intro x
  rw [assoc_put, take_next hj]
  by_cases e : L[j] = x
  · rw [if_pos e, if_pos (List.mem_append.2 (.inr (List.mem_singleton.2 e.symm))), ← e, hn]; rfl
  · rw [if_neg e, h x]
    by_cases e2 : x ∈ L.take j
    · rw [if_pos e2, if_pos (List.mem_append.2 (.inl e2))]
    · rw [if_neg e2, if_neg (fun e3 => (List.mem_append.1 e3).elim e2 (fun e4 => e (List.mem_singleton.1 e4).symm))]
theorem IsInts.same2 {w w' : World} {v : Value} {xs : List Int} (h : IsInts w v xs) (hb : xs ≠ [] → ∀ b, v.ownBlock = some b → b < w.heap.size → w'.heap[b]? = w.heap[b]?) (hs : w.heap.size ≤ w'.heap.size) : IsInts w' v xs := by
  obtain ⟨a, b, o, c, rfl, h2, h3, h4, h5, h6, h7⟩ := h
  refine ⟨a, b, o, c, rfl, h2, h3, h4, fun i hi => ?_, fun e => Nat.lt_of_lt_of_le (h6 e) hs, h7⟩
  have hne : xs ≠ [] := by intro e; subst e; simp at hi
  have e := hb hne b (by rw [h2 hne]; rfl) (h6 hne)
  rw [World.cell?_of_block (w := w) e]
  exact h5 i hi
theorem ints_own {w : World} {v : Value} {xs : List Int} (h : IsInts w v xs) (hne : xs ≠ []) : ∃ g, v.ownBlock = some g ∧ g < w.heap.size := by
  obtain ⟨a, b, o, c, rfl, h2, _, _, _, h6, _⟩ := h
  rw [h2 hne]
  exact ⟨b, rfl, h6 hne⟩

/-- Memory in ArenaOnce's first loop. -/
structure OSt (w wr : World) (b : Bk) (mb : Nat) (c : Cells) (mp : List (Nd × Value)) (all : List Int) (va : Value) : Prop where
  below : Below w.heap.size w wr
  ar : IsArena wr b c
  map : MapOf wr mb encNd mp
  own : wr.ownsRow (mb + 1) 3 1 va all.length (all.map (Value.int .i64))
  new : ∀ k, b.mem k → w.heap.size ≤ k ∧ k < mb
  low : w.heap.size ≤ mb

section
variable {w wr w2 : World} {b : Bk} {mb : Nat} {c c' : Cells} {mp mp' : List (Nd × Value)} {all : List Int} {va : Value}
theorem OSt.grow (h : OSt w wr b mb c mp all va) (hb : Below wr.heap.size wr w2) : OSt w w2 b mb c mp all va :=
  ⟨h.below.trans (hb.mono h.below.size), h.ar.below hb, h.map.block_eq (hb.block _ h.map.lt), ownsRow_below h.own hb, h.new, h.low⟩
theorem OSt.arena (h : OSt w wr b mb c mp all va) (ho : Only b.mem wr w2) (ha : IsArena w2 b c') : OSt w w2 b mb c' mp all va := by
  refine ⟨h.below.trans (ho.below h.below.size (fun k hk => (h.new k hk).1)), ha, h.map.block_eq (ho.block _ h.map.lt (fun hk => by have := (h.new _ hk).2; omega)), ?_, h.new, h.low⟩
  refine ⟨h.own.1, ?_⟩
  rcases h.own.2 with hn | ⟨g, cap, cur, rfl, h1, h2, r⟩
  · exact .inl hn
  · exact .inr ⟨g, cap, cur, rfl, h1, by rw [ho.block g (Array.getElem?_eq_some_iff.1 h2).1 (fun hk => by have := (h.new _ hk).2; omega)]; exact h2, r⟩
theorem setObjW_only (w : World) (mb : Nat) (o : Obj) : Only (· = mb) w (setObjW w mb o) := ⟨rfl, rfl, rfl, by simp [setObjW], fun k _ hk => setObjW_other o hk⟩
theorem OSt.put (h : OSt w wr b mb c mp all va) (o : Obj) (hm : MapOf (setObjW wr mb o) mb encNd mp') : OSt w (setObjW wr mb o) b mb c mp' all va := by
  have ho := setObjW_only wr mb o
  refine ⟨h.below.trans (ho.below h.below.size (fun k hk => by rw [hk]; exact h.low)), h.ar.only ho (fun k hk e => by have := (h.new k hk).2; omega), hm, ?_, h.new, h.low⟩
  refine ⟨h.own.1, ?_⟩
  rcases h.own.2 with hn | ⟨g, cap, cur, rfl, h1, h2, r⟩
  · exact .inl hn
  · exact .inr ⟨g, cap, cur, rfl, h1, by rw [ho.block g (Array.getElem?_eq_some_iff.1 h2).1 (fun e => by omega)]; exact h2, r⟩
theorem OSt.push (h : OSt w wr b mb c mp all va) {x : Int} {v' : Value} (ho : w2.ownsRow (mb + 1) 3 1 v' (all.length + 1) (all.map (Value.int .i64) ++ [.int .i64 x])) (hg : (wr.alloc (.cells #[.int .i64 x] 3)).grownBy w2 va.ownBlock) : OSt w w2 b mb c mp (all ++ [x]) v' := by
  have h1 := h.grow (w2 := wr.alloc (.cells #[.int .i64 x] 3)) ((Below.refl _ _).alloc (Nat.le_refl _) _)
  have hlt := h1.map.lt
  have hv : ∀ k, va.ownBlock = some k → mb + 1 ≤ k := fun k hk => (h.own.lt k hk).1
  have hb : Below (mb + 1) (wr.alloc (.cells #[.int .i64 x] 3)) w2 := (Below.refl _ _).grown hg (by omega) hv
  have hlow := h.low
  refine ⟨h1.below.trans (hb.mono (by omega)), ?_, h1.map.block_eq (hb.block _ (by omega)), by simpa using ho, h.new, h.low⟩
  exact h1.ar.only (S := fun k => mb + 1 ≤ k) ⟨hb.os, hb.tape, hb.output, hb.size, fun k hk hn => hb.block k (by omega)⟩ (fun k hk e => by have := (h.new k hk).2; omega)
end

/-- Memory in ArenaOnce behind its second loop. -/
structure S8 (w wr : World) (b : Bk) (mb m2 : Nat) (c : Cells) (mp : List (Nd × Value)) (mq : List (Int × Value)) (vl : Value) (L : List Int) : Prop where
  below : Below w.heap.size w wr
  ar : IsArena wr b c
  map : MapOf wr mb encNd mp
  map2 : MapOf wr m2 (Value.int .i64) mq
  ints : IsInts wr vl L
  new : ∀ k, b.mem k → w.heap.size ≤ k ∧ k < mb
  low : w.heap.size ≤ mb
  mm : mb < m2
  vnew : ∀ g, vl.ownBlock = some g → mb < g
  vlt : L ≠ [] → ∀ g, vl.ownBlock = some g → g < m2
section
variable {w wr w2 : World} {b : Bk} {mb m2 : Nat} {c c' : Cells} {mp : List (Nd × Value)} {mq : List (Int × Value)} {vl : Value} {L : List Int}
theorem S8.grow (h : S8 w wr b mb m2 c mp mq vl L) (hb : Below wr.heap.size wr w2) : S8 w w2 b mb m2 c mp mq vl L :=
  ⟨h.below.trans (hb.mono h.below.size), h.ar.below hb, h.map.block_eq (hb.block _ h.map.lt), h.map2.block_eq (hb.block _ h.map2.lt), h.ints.below hb, h.new, h.low, h.mm, h.vnew, h.vlt⟩
theorem S8.iter (h : S8 w wr b mb m2 c mp mq vl L) {r : Nat} (ho : Only (· = r) wr w2) (hr : m2 < r) : S8 w w2 b mb m2 c mp mq vl L :=
  ⟨h.below.trans (ho.below h.below.size (fun k hk => by have := h.low; have := h.mm; omega)), h.ar.only ho (fun k hk e => by have := (h.new k hk).2; have := h.mm; omega), h.map.block_eq (ho.block _ h.map.lt (by have := h.mm; omega)), h.map2.block_eq (ho.block _ h.map2.lt (by omega)),
    h.ints.same2 (fun hne g hg hlt => ho.block g hlt (by have := h.vlt hne g hg; omega)) ho.size, h.new, h.low, h.mm, h.vnew, h.vlt⟩
theorem MapOf.nodup {α : Type} {w : World} {b : Nat} {enc : α → Value} {m : List (α × Value)} (h : MapOf w b enc m) : (m.map (·.1)).Nodup := by
  obtain ⟨_, _, _, _, h3, _⟩ := h; exact h3
theorem S8.arena (h : S8 w wr b mb m2 c mp mq vl L) (ho : Only b.mem wr w2) (ha : IsArena w2 b c') : S8 w w2 b mb m2 c' mp mq vl L :=
  ⟨h.below.trans (ho.below h.below.size (fun k hk => (h.new k hk).1)), ha, h.map.block_eq (ho.block _ h.map.lt (fun hk => by have := (h.new _ hk).2; omega)), h.map2.block_eq (ho.block _ h.map2.lt (fun hk => by have := (h.new _ hk).2; have := h.mm; omega)),
    h.ints.same2 (fun _ g hg hlt => ho.block g hlt (fun hk => by have := (h.new _ hk).2; have := h.vnew g hg; omega)) ho.size, h.new, h.low, h.mm, h.vnew, h.vlt⟩
end
end Go.Proofs.Ytmlnfbageoabnaa
