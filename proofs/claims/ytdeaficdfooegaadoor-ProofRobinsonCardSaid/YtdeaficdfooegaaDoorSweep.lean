/- Contracts: the arena's Sweep. -/
import Derived.Test.YtdeaficdfooegaaDoorReachW
import Derived.Test.YtdeaficdfooegaaDoorClear
namespace Go.Proofs.YtdeaficdfooegaaDoor
open Go.RowKit
set_option linter.unusedVariables false

theorem IsInts.same {w w' : World} {v : Value} {xs : List Int} (h : IsInts w v xs) (hb : ∀ b, v.ownBlock = some b → b < w.heap.size → w'.heap[b]? = w.heap[b]?) (hs : w.heap.size ≤ w'.heap.size) : IsInts w' v xs := by
  obtain ⟨a, b, o, c, rfl, h2, h3, h4, h5, h6, h7⟩ := h
  refine ⟨a, b, o, c, rfl, h2, h3, h4, fun i hi => ?_, fun e => Nat.lt_of_lt_of_le (h6 e) hs, h7⟩
  have hne : xs ≠ [] := by intro e; subst e; simp at hi
  have e := hb b (by rw [h2 hne]; rfl) (h6 hne)
  rw [World.cell?_of_block (w := w) e]
  exact h5 i hi

/-- Sweep on its way. -/
structure SwSt (w wr : World) (b : Bk) (nodes : Nat → Nd) (used : Nat → Bool) (tab : List Int) (many : Int) (v : Value) (L : List Int) : Prop where
  mem : ArAt wr b.p b.bn b.bu b.bt b.R nodes used tab many
  only : Only b.mem w wr
  ints : IsInts wr v L
  off : ∀ k, b.mem k → k < w.heap.size
  new : ∀ g, v.ownBlock = some g → w.heap.size ≤ g

section
variable {w wr w2 : World} {b : Bk} {nodes : Nat → Nd} {used : Nat → Bool} {tab : List Int} {many : Int} {v : Value} {L : List Int}
theorem SwSt.grow (h : SwSt w wr b nodes used tab many v L) (hb : Below wr.heap.size wr w2) : SwSt w w2 b nodes used tab many v L :=
  ⟨h.mem.below hb, h.only.trans (Only.of_below hb rfl), h.ints.below hb, h.off, h.new⟩
theorem SwSt.set (h : SwSt w wr b nodes used tab many v L) {p : Addr} (hp : b.mem p.block) (u : Value) {used' : Nat → Bool} {tab' : List Int} {many' : Int} (ha : ArAt (wr.setCell p u) b.p b.bn b.bu b.bt b.R nodes used' tab' many') : SwSt w (wr.setCell p u) b nodes used' tab' many' v L :=
  ⟨ha, h.only.setCell (.inl hp) _, h.ints.same (fun g hg _ => Below.heap_setCell _ _ _ _ (fun e => by have := h.new g hg; have := h.off _ hp; omega)) (by simp), h.off, h.new⟩
theorem SwSt.used_congr (h : SwSt w wr b nodes used tab many v L) {used' : Nat → Bool} (hu : ∀ k, k < b.R → used' k = used k) : SwSt w wr b nodes used' tab many v L := by
  obtain ⟨cu, g1, g2, g3⟩ := h.mem.use
  exact ⟨⟨h.mem.blk, h.mem.nod, ⟨cu, g1, g2, fun k hk => by rw [hu k hk]; exact g3 k hk⟩, h.mem.tbl⟩, h.only, h.ints, h.off, h.new⟩
theorem SwSt.clear (h : SwSt w wr b nodes used tab many v L) (ap : b.Apart) (h0 : 0 < tab.length) : SwSt w (wr.setRow b.bt (List.replicate tab.length (Value.int .i64 0)).toArray) b nodes used (List.replicate tab.length 0) many v L := by
  have ho : ∀ k, k ≠ b.bt → (wr.setRow b.bt (List.replicate tab.length (Value.int .i64 0)).toArray).heap[k]? = wr.heap[k]? := fun k hk => setRow_other _ _ _ _ hk
  have hsz : (wr.setRow b.bt (List.replicate tab.length (Value.int .i64 0)).toArray).heap.size = wr.heap.size := by simp [World.setRow]
  obtain ⟨cn, g1, g2⟩ := h.mem.nod
  obtain ⟨cu, g3, g4⟩ := h.mem.use
  refine ⟨⟨?_, ⟨cn, by rw [ho _ ap.n5]; exact g1, g2⟩, ⟨cu, by rw [ho _ ap.n6]; exact g3, g4⟩, ?_⟩, ?_, ?_, h.off, h.new⟩
  · rw [ho _ ap.n3, List.length_replicate]; exact h.mem.blk
  · rw [setRow_heap _ _ _ _ _ _ h.mem.tbl]; simp
  · exact ⟨h.only.os, h.only.tape, h.only.output, by rw [hsz]; exact h.only.size, fun k hk hn => by rw [ho k (fun e => hn (e ▸ .inr (.inr (.inr rfl))))]; exact h.only.block k hk hn⟩
  · exact h.ints.same (fun g hg _ => ho g (fun e => by have := h.new g hg; have := h.off b.bt (.inr (.inr (.inr rfl))); omega)) (by rw [hsz]; exact Nat.le_refl _)
end

theorem reachM_nodup (c : Cells) (s : List Int) : (reachM c s).Nodup := by
  classical
  unfold reachM
  rw [List.Nodup, List.pairwise_map]
  refine List.Pairwise.imp ?_ (List.Nodup.sublist List.filter_sublist (List.nodup_range (n := c.length)))
  intro a b hab h
  omega
theorem take_next {L : List Int} {j : Nat} (h : j < L.length) : L.take (j + 1) = L.take j ++ [L[j]] := List.take_succ_eq_append_getElem h
theorem not_in_take {L : List Int} (hn : L.Nodup) {j : Nat} (h : j < L.length) : L[j] ∉ L.take j := by
  intro hm
  obtain ⟨i, hi, he⟩ := List.getElem_of_mem hm
  rw [List.getElem_take] at he
  have h1 : i < j := by rw [List.length_take] at hi; omega
  exact (List.pairwise_iff_getElem.1 hn) i j (by omega) h h1 he

theorem zeroInt (w : World) : (zeroValue 3).run Tryd.prog w = .ok (.int .i64 0) w := by kernel_rfl

theorem cell_set_ne {w : World} {a p : Addr} {u v : Value} (h : w.cell? p = some v) (hne : a.block ≠ p.block) : (w.setCell a u).cell? p = some v := by
  rw [World.cell?_setCell_other _ _ _ _ (fun e => hne (by rw [e]))]; exact h

theorem sweep_used (c : Cells) (s : List Int) (k : Nat) : ((sweepM c s).at k).isSome = (reachM c s).contains ((k : Int) + 2) := by
  rw [Bool.eq_iff_iff, Option.isSome_iff_exists, List.contains_iff_mem, mem_reachM]
  constructor
  · rintro ⟨n, hn⟩; exact ⟨k, rfl, (sweepM_some.1 hn).1⟩
  · rintro ⟨k', e, h⟩
    obtain rfl : k' = k := by omega
    obtain ⟨n, hn⟩ := h.used
    exact ⟨n, sweepM_some.2 ⟨h, hn⟩⟩

def usedL (L : List Int) (j : Nat) : Nat → Bool := fun k => (L.take j).contains ((k : Int) + 2)
theorem usedL_next {L : List Int} {j k : Nat} (h : j < L.length) (hk : L[j] = (k : Int) + 2) (i : Nat) : usedL L (j + 1) i = if i = k then true else usedL L j i := by
  unfold usedL
  rw [take_next h, hk]
  by_cases e : i = k
  · subst e; simp
  · rw [if_neg e]
    have : ¬ ((i : Int) + 2 = (k : Int) + 2) := by omega
    simp [this]
/-- The table on its way. -/
structure TabJ (R : Nat) (nodes : Nat → Nd) (L : List Int) (j : Nat) (tab : List Int) : Prop where
  len : tab.length = 2 * R + 1
  ok : TabOK (hsh (2 * R + 1)) nodes (fun k => ((k : Int) + 2) ∈ L.take j) tab
theorem tabJ_start (R : Nat) (nodes : Nat → Nd) (L : List Int) : TabJ R nodes L 0 (List.replicate (2 * R + 1) 0) :=
  ⟨by simp, (tabOK_empty _ nodes _).congr (fun k => by simp) (fun k h => h.elim)⟩
theorem TabJ.next {R : Nat} {nodes : Nat → Nd} {L : List Int} {j : Nat} {tab : List Int} (t : TabJ R nodes L j tab) (hn : L.Nodup) (hj : j < L.length) {k i : Nat} (hk : L[j] = (k : Int) + 2) (hu : ∀ k' : Nat, ((k' : Int) + 2) ∈ L → nodes k' = nodes k → k' = k)
    (p : Placed (hsh (2 * R + 1)) nodes tab (nodes k) i) : TabJ R nodes L (j + 1) (tab.set i ((k : Int) + 2)) := by
  have hnk : ¬ ((k : Int) + 2) ∈ L.take j := by rw [← hk]; exact not_in_take hn hj
  have h0 : tab.getD i 0 = 0 := by
    refine Classical.byContradiction fun h0 => ?_
    obtain ⟨k', h1, h2, _⟩ := p.found t.ok h0
    exact hnk (hu k' (List.mem_of_mem_take h1) h2 ▸ h1)
  refine ⟨by simpa using t.len, (t.ok.insert p h0 hnk (nodes' := nodes) (fun _ _ => rfl) rfl).congr (fun i => ?_) (fun _ _ => rfl)⟩
  rw [take_next hj, hk, List.mem_append, List.mem_singleton]
  constructor
  · rintro (h | rfl)
    · exact .inl h
    · exact .inr rfl
  · rintro (h | h)
    · exact .inl h
    · exact .inr (by omega)

set_option maxRecDepth 100000 in
set_option maxHeartbeats 4000000 in
theorem sweep_any (vs : Value) (start : List Int) (w : World) (b : Bk) (c : Cells) (ha : IsArena w b c) (hok : Ok c) (hv : IsInts w vs start) (hlen : start.length ≤ 100000) (hmax : ∀ x ∈ start, x ≤ 9223372036854775807) :
    Calls Tryd.prog 115 #[.pointer (some ⟨b.p, 0, none⟩), vs] w fun e w' => e = .returned (.int .i64 ((cnt c : Int) - (reachM c start).length)) ∧ IsArena w' b (sweepM c start) ∧ Only b.mem w w' := by
  have hR := ha.room.2
  have hR1 := ha.room.1
  have hap := ha.apart
  have hlenc := ha.len
  obtain ⟨nodes, tab, hat, htl, hto, hag⟩ := ha.mem
  have f3 := hat.f3
  have Hre := Lib.hid (reach_any vs start w b c ha hok hv hlen hmax)
  have hcn : cnt c ≤ 4000 := Nat.le_trans (cnt_le c) (by rw [hlenc]; exact hR)
  have hLl : (reachM c start).length ≤ 4000 := Nat.le_trans (reachM_len_le c start) (by rw [hlenc]; exact hR)
  have Hat := Lib.hid hat; have Htl := Lib.hid htl; have Hto := Lib.hid hto; have Hag := Lib.hid hag; have Ha := Lib.hid ha; have Hlenc := Lib.hid hlenc
  clear hat htl hto hag hok hv hmax ha hlenc
  obtain ⟨L, hL⟩ : ∃ L, L = reachM c start := ⟨_, rfl⟩
  rw [← hL] at Hre hLl ⊢
  have HL := Lib.hid hL; clear hL
  go_enter Tryd.func115, Tryd.ntmps115
  go_wp2_with fail
  refine Hre.out.mono ?_
  rintro e w1 ⟨⟨v1, rfl, hints, hnew⟩, hb1⟩
  have hst : SwSt w w1 b nodes (fun k => (c.at k).isSome) tab (cnt c) v1 L := ⟨Hat.out.below hb1, Only.of_below hb1 rfl, hints, fun k hk => Ha.out.lt hk, hnew⟩
  obtain ⟨a1, c1, rfl, hl1, hc1, _⟩ := hints.shape
  have g1 := hst.mem.f1
  have lp1 := hst.mem.lp
  have Hst := Lib.hid hst
  clear hst hints hnew hb1 f3
  go_wp2_with fail
  go_loopg [24] b.R (fun gk i wr => ∃ k : Nat, k ≤ b.R ∧ gk = b.R - k ∧ i = .int .i64 k ∧ SwSt w wr b nodes (fun j => if j < k then false else (c.at j).isSome) tab (cnt c) (.slice a1 L.length c1) L)
  case atStart => exact ⟨0, Nat.zero_le _, rfl, rfl, by simpa using Hst.out⟩
  case round =>
    clear Hst g1 lp1
    obtain ⟨k, hk, rfl, rfl, hst⟩ := hrel
    have lp1 := hst.mem.lp
    have g0 := hst.mem.f0
    have g1 := hst.mem.f1
    have g2 := hst.mem.f2
    rw [Htl.out] at g2
    have g3 := hst.mem.f3
    have z1 := hst.mem.zu k
    have z3 := hst.mem.zp 3
    by_cases hlt : k < b.R
    · have gu := hst.mem.u hlt
      have hst2 := (hst.set (.inr (.inr (.inl rfl))) _ (hst.mem.setUsed hap hlt false)).used_congr (used' := fun j => if j < k + 1 then false else (c.at j).isSome) (fun j hj => by
        by_cases e : j = k
        · subst e; simp
        · simp only [if_neg e]
          by_cases e2 : j < k
          · rw [if_pos e2, if_pos (by omega)]
          · rw [if_neg e2, if_neg (by omega)])
      have Hst2 := Lib.hid hst2; clear hst hst2
      go_wp2_with fail
      go_roundg (b.R - (k + 1))
      case measure => omega
      case rel => exact ⟨k + 1, by omega, rfl, by go_num, Hst2.out⟩
    · obtain rfl : k = b.R := by omega
      have htbl := hst.mem.tbl
      have hst2 := (hst.clear hap (by rw [Htl.out]; omega))
      rw [Htl.out] at hst2
      have Hst := Lib.hid hst2; have Htbl := Lib.hid htbl; clear hst hst2 htbl hlt
      go_wp2_with (refine wpList_clear_row (o := ⟨none, .call { callee := .builtin .clear, args := #[.tmp 37], argTypes := #[40] }, _, _, _, _⟩) rfl (.tmp 37) 40 rfl (e := 3) (z := .int .i64 0) (g := b.bt) (n := 2 * b.R + 1) (c := 2 * b.R + 1) rfl Tryd.underlying40 zeroInt rfl rfl Htbl.out (by simp [Htl.out]) (by omega) ?_; intro w2 hw2; have hst3 := hw2.symm ▸ Hst.out; clear hw2 Hst; have lp2 := hst3.mem.lp; have k3 := hst3.mem.f3; have y3 := hst3.mem.zp 3; have Hst := Lib.hid hst3; clear hst3)
      have hst4 := (Hst.out.set (.inl rfl) _ (Hst.out.mem.setMany hap (L.length : Int))).used_congr (used' := usedL L 0) (fun k hk => by simp [usedL, hk])
      have lp4 := hst4.mem.lp
      clear lp1 lp2 k3 y3 z1 z3 g0 g1 g2 g3 Hst
      generalize w2.setCell ⟨b.p, 3, none⟩ (.int .i64 (L.length : Int)) = w4 at hst4 lp4 ⊢
      have Hst := Lib.hid hst4; clear hst4 lp4
      have hLx : ∀ x ∈ L, ∃ k : Nat, x = (k : Int) + 2 ∧ k < b.R ∧ (c.at k).isSome = true := fun x h1 => by
        rw [HL.out] at h1
        obtain ⟨k, h2, h3⟩ := mem_reachM.1 h1
        obtain ⟨n, hn⟩ := h3.used
        exact ⟨k, h2, by rw [← Hlenc.out]; exact at_lt hn, by rw [hn]; rfl⟩
      have hLk : ∀ j (h : j < L.length), ∃ k : Nat, L[j] = (k : Int) + 2 ∧ k < b.R ∧ (c.at k).isSome = true := fun j h => hLx _ (List.getElem_mem h)
      have HLx := Lib.hid hLx; have HLk := Lib.hid hLk; clear hLk hLx
      go_loopg [45] L.length (fun gk i wr => ∃ k : Nat, k ≤ L.length ∧ gk = L.length - k ∧ i = .int .i64 k ∧ SwSt w wr b nodes (usedL L k) (List.replicate (2 * b.R + 1) 0) L.length (.slice a1 L.length c1) L)
      case atStart => exact ⟨0, Nat.zero_le _, rfl, rfl, Hst.out⟩
      case round =>
        clear Hst
        obtain ⟨j, hj, rfl, rfl, hst⟩ := hrel
        have lp1 := hst.mem.lp
        have g0 := hst.mem.f0
        have g1 := hst.mem.f1
        by_cases hlt : j < L.length
        · obtain ⟨k, hk, hkR, _⟩ := HLk.out j hlt
          obtain ⟨b0, o0, rfl, _⟩ := hst.ints.addr hlt
          have hcell := hst.ints.get hlt
          rw [hk] at hcell
          have gu := hst.mem.u hkR
          have z1 := hst.mem.zu k
          have hst2 := (hst.set (.inr (.inr (.inl rfl))) _ (hst.mem.setUsed hap hkR true)).used_congr (used' := usedL L (j + 1)) (fun i _ => usedL_next hlt hk i)
          have Hst2 := Lib.hid hst2; clear hst hst2 hk
          go_wp2_with fail
          go_roundg (L.length - (j + 1))
          case measure => omega
          case rel => exact ⟨j + 1, by omega, rfl, by go_num, Hst2.out⟩
        · obtain rfl : j = L.length := by omega
          have Hst := Lib.hid hst; clear hst
          go_wp2_with fail
          go_loopg [59] L.length (fun gk i wr => ∃ (j : Nat) (tab' : List Int), j ≤ L.length ∧ gk = L.length - j ∧ i = .int .i64 j ∧ SwSt w wr b nodes (usedL L L.length) tab' L.length (.slice a1 L.length c1) L ∧ TabJ b.R nodes L j tab')
          case atStart => exact ⟨0, _, Nat.zero_le _, rfl, rfl, Hst.out, tabJ_start _ _ _⟩
          case round =>
            clear Hst
            obtain ⟨j, tab', hj, rfl, rfl, hst, htj⟩ := hrel
            have Htj := Lib.hid htj; clear htj
            by_cases hlt2 : j < L.length
            · obtain ⟨k, hk, hkR, hks⟩ := HLk.out j hlt2
              obtain ⟨b0, o0, rfl, _⟩ := hst.ints.addr hlt2
              have hcell := hst.ints.get hlt2
              obtain ⟨x, hx⟩ : ∃ x, x = L[j] := ⟨_, rfl⟩
              rw [← hx] at hcell hk
              have g0 := hst.mem.f0
              have g2 := hst.mem.f2
              rw [Htj.out.len] at g2
              have n0 := hst.mem.n0 hkR
              have n1 := hst.mem.n1 hkR
              have n2 := hst.mem.n2 hkR
              obtain ⟨⟨a', l', h'⟩, hnd⟩ : ∃ n', n' = nodes k := ⟨_, rfl⟩
              rw [← hnd] at n0 n1 n2
              have hpl := place_any (a', l', h') wr.drew b nodes _ tab' _ _ (hst.mem.below (Below.refl _ _).drew) hR Htj.out.len Htj.out.ok (fun i hi => by
                obtain ⟨i', h1, h2, _⟩ := HLx.out _ (List.mem_of_mem_take hi)
                omega)
              unfold encNd at hpl
              dsimp only at hpl
              have Hpl := Lib.hid hpl
              have hw : IntKind.i64.wrap (x - 2) = (k : Int) := by rw [hk]; exact (IntWalk.i64_in _ (by omega)).trans (by omega)
              have hk1 : (k : Int) < (b.R : Int) := by omega
              have Hst := Lib.hid hst; have Hx := Lib.hid hx; have Hk := Lib.hid hk; have Hnd := Lib.hid hnd; have Hks := Lib.hid hks
              clear hst hx hk hnd hks hpl
              go_wp2_with fail
              go_region_held3 (fun w' => w'.cell? ⟨b.p, 0, none⟩ = some (.slice (some ⟨b.bn, 0, none⟩) b.R b.R) ∧ w'.cell? ⟨b.p, 2, none⟩ = some (.slice (some ⟨b.bt, 0, none⟩) (2 * b.R + 1) (2 * b.R + 1)) ∧
                  w'.cell? ⟨b.bn, k * 3, none⟩ = some (.int .i64 a') ∧ w'.cell? ⟨b.bn, k * 3 + 1, none⟩ = some (.int .i64 l') ∧ w'.cell? ⟨b.bn, k * 3 + 2, none⟩ = some (.int .i64 h'))
                (first | exact ⟨g0, g2, n0, n1, n2⟩ | exact ⟨(hb9.cell lp9).trans g0, (hb9.cell lp9).trans g2, (hb9.cell ln9).trans n0, (hb9.cell ln9).trans n1, (hb9.cell ln9).trans n2⟩ | exact ⟨cell_set_ne ((hb9.cell lp9).trans g0) hap.n3.symm, cell_set_ne ((hb9.cell lp9).trans g2) hap.n3.symm, cell_set_ne ((hb9.cell ln9).trans n0) hap.n5.symm, cell_set_ne ((hb9.cell ln9).trans n1) hap.n5.symm, cell_set_ne ((hb9.cell ln9).trans n2) hap.n5.symm⟩)
                (first | (go_at_call 136; refine Hpl.out.mono ?_; rintro e w9 ⟨⟨i, rfl, hp⟩, hb9⟩; have hst9 := (Hst.out.grow (Below.refl _ _).drew).grow hb9; have hi1 := hp.lt; have gt := hst9.mem.t hi1; have zt := hst9.mem.zt i; rw [Htj.out.len] at hi1; have hi2 : (i : Int) < 2 * (b.R : Int) + 1 := (by omega); have lp9 := Hst.out.mem.lp; have ln9 := Hst.out.mem.ln))
              have hst10 := hst9.set (.inr (.inr (.inr rfl))) (.int .i64 x) (hst9.mem.setTab hap i x)
              have hu : ∀ k' : Nat, ((k' : Int) + 2) ∈ L → nodes k' = nodes k → k' = k := fun k' h1 h2 => by
                obtain ⟨k2, h3, _, h4⟩ := HLx.out _ h1
                obtain rfl : k2 = k' := by omega
                exact Hto.out.uniq _ _ h4 Hks.out h2
              have htj2 := Htj.out.next (by rw [HL.out]; exact reachM_nodup c start) hlt2 (Hx.out.symm.trans Hk.out) hu (by rw [← Hnd.out]; exact hp)
              rw [← Hk.out] at htj2
              have Hst10 := Lib.hid hst10; have Htj2 := Lib.hid htj2
              clear hst10 htj2 hu
              try go_wp2_with fail
              go_roundg (L.length - (j + 1))
              case measure => omega
              case rel => exact ⟨j + 1, _, by omega, rfl, by go_num, Hst10.out, Htj2.out⟩
            · obtain rfl : j = L.length := by omega
              have g3 := hst.mem.f3
              have lp1 := hst.mem.lp
              have Hst := Lib.hid hst; clear hst
              go_wp2_with fail
              go_ret
              refine ⟨rfl, ⟨by rw [sweepM_len]; exact Hlenc.out, ⟨hR1, hR⟩, hap, nodes, tab', ?_, Htj.out.len, ?_, fun k n h => Hag.out k n (sweepM_some.1 h).2⟩, Hst.out.only⟩
              · rw [cnt_sweepM, ← HL.out]
                refine (Hst.out.used_congr (fun k hk => ?_)).mem
                unfold usedL
                rw [List.take_length, HL.out]
                exact sweep_used c start k
              · refine Htj.out.ok.congr (fun k => ?_) (fun _ _ => rfl)
                rw [List.take_length, HL.out, sweep_used, List.contains_iff_mem]
end Go.Proofs.YtdeaficdfooegaaDoor
