/- Contract: (*family.Store).List. -/
import Derived.Test.YtmlnfbageoabnaaFamLs
import Derived.Test.YtmlnfbageoabnaaSortUp
import Derived.Test.YtmlnfbageoabnaaFits
import Derived.Test.YtmlnfbageoabnaaRange
import Derived.Test.YtmlnfbageoabnaaAppend
namespace Go.Proofs.Ytmlnfbageoabnaa
open Go.RowKit
set_option linter.unusedVariables false

/-- A value is a slice of the words ys. -/
def IsU (w : World) (v : Value) (ys : List Nat) : Prop :=
  ∃ a b c, v = .slice a ys.length c ∧ (ys ≠ [] → a = some ⟨b, 0, none⟩) ∧ ys.length ≤ c ∧ c ≤ maxLen ∧ (ys ≠ [] → b < w.heap.size) ∧ ∀ i (h : i < ys.length), w.cell? ⟨b, i, none⟩ = some (.int .u64 (ys[i] : Nat))
theorem IsU.below {w w' : World} {v : Value} {ys : List Nat} (h : IsU w v ys) (hb : Below w.heap.size w w') : IsU w' v ys := by
  obtain ⟨a, b, c, h1, h2, h3, h4, h5, h6⟩ := h
  refine ⟨a, b, c, h1, h2, h3, h4, fun e => Nat.lt_of_lt_of_le (h5 e) hb.size, fun i hi => ?_⟩
  rw [hb.cell (h5 (by intro e; subst e; simp at hi))]; exact h6 i hi
theorem IsU.shape {w : World} {v : Value} {ys : List Nat} (h : IsU w v ys) : ∃ a c, v = .slice a ys.length c ∧ ys.length ≤ c ∧ c ≤ 9223372036854775807 := by
  obtain ⟨a, b, c, rfl, _, h3, h4, _⟩ := h
  exact ⟨a, c, rfl, h3, by unfold maxLen at h4; omega⟩
theorem IsU.addr {w : World} {a : Option Addr} {n c : Nat} {ys : List Nat} (h : IsU w (.slice a n c) ys) {k : Nat} (hk : k < ys.length) : ∃ b, a = some ⟨b, 0, none⟩ ∧ b < w.heap.size ∧ ∀ i (h : i < ys.length), w.cell? ⟨b, i, none⟩ = some (.int .u64 (ys[i] : Nat)) := by
  obtain ⟨_, b, _, hh, h2, _, _, h5, h6⟩ := h
  cases hh
  have hne : ys ≠ [] := by intro e; subst e; simp at hk
  exact ⟨b, h2 hne, h5 hne, h6⟩
theorem isU_nil (w : World) : IsU w (.slice none 0 0) [] := ⟨none, 0, 0, rfl, fun h => absurd rfl h, Nat.le_refl _, Nat.zero_le _, fun h => absurd rfl h, fun i hi => absurd hi (by simp)⟩

theorem smap_keys {ks : List Nat} {mq : List (Int × Value)} (hq : ∀ y : Int, assoc mq y = if y ∈ castL ks then some (.bool true) else none) (y : Int) : y ∈ mq.map (·.1) ↔ y ∈ castL ks := by
  constructor
  · intro h
    obtain ⟨p, hp, rfl⟩ := List.mem_map.1 h
    apply Classical.byContradiction
    intro hn
    have := hq p.1
    rw [if_neg hn] at this
    unfold assoc at this
    exact assocIdx_none (by simpa using this) p hp rfl
  · intro h
    have := hq y
    rw [if_pos h] at this
    unfold assoc at this
    obtain ⟨⟨i, v⟩, h1, h2⟩ := Option.map_eq_some_iff.1 this
    exact List.mem_map.2 ⟨_, List.mem_of_getElem? (assocIdx_some h1), rfl⟩
theorem castL_nat {ks : List Nat} {y : Int} (h : y ∈ castL ks) : ∃ m ∈ ks, y = (m : Nat) := by
  obtain ⟨m, hm, rfl⟩ := List.mem_map.1 h; exact ⟨m, hm, rfl⟩
theorem keys_len {ks : List Nat} {xs : List Int} (hn : xs.Nodup) (hk : ∀ y ∈ xs, y ∈ castL ks) {B : Nat} (hB : ∀ m ∈ ks, m < B) : xs.length ≤ B := by
  have h1 := nodup_map_on Int.toNat xs (fun x hx y hy e => by
    obtain ⟨m, _, rfl⟩ := castL_nat (hk x hx)
    obtain ⟨m', _, rfl⟩ := castL_nat (hk y hy)
    omega) hn
  have h2 := pigeon B _ h1 (fun x hx => by
    obtain ⟨y, hy, rfl⟩ := List.mem_map.1 hx
    obtain ⟨m, hm, rfl⟩ := castL_nat (hk y hy)
    have := hB m hm
    omega)
  rwa [List.length_map] at h2

/-- What the sort leaves, as a list. -/
theorem sorted_list {n : Nat} {f0 f : Nat → Nat} (hs : Same n f0 f) (hi : ∀ a b, a < n → b < n → f0 a = f0 b → a = b) (ho : ∀ a b, a < b → b < n → f a ≤ f b) :
    ((List.range n).map f).length = n ∧ ((List.range n).map f).Pairwise (· < ·) ∧ ∀ y, y ∈ (List.range n).map f ↔ ∃ k, k < n ∧ f0 k = y := by
  refine ⟨by simp, ?_, fun y => ?_⟩
  · rw [List.pairwise_iff_getElem]
    intro i j h1 h2 h3
    simp at h1 h2
    simp only [List.getElem_map, List.getElem_range]
    have h4 := ho i j h3 h2
    have h5 : f i ≠ f j := fun e => by have := hs.inj hi i j h1 h2 e; omega
    omega
  · rw [← hs.mem]
    simp only [List.mem_map, List.mem_range]

theorem infoUint : (Try.prog.info? 54).map (fun i => (i.zero, i.size, i.bytes)) = some (some (.int .u64 0), 1, 8) := by kernel_rfl
set_option maxHeartbeats 1000000 in
theorem sortUp_nil (w : World) : Calls Try.prog 99 #[.slice none 0 0] w fun en w' => en = .returned (.tuple #[]) ∧ w = w' := by
  go_enter Try.func99, Try.ntmps99
  go_wp2_with fail
  go_loopg [2] 0 (fun gk i wr => gk = 0 ∧ i = .int .i64 1 ∧ wr = w)
  case atStart => exact ⟨rfl, rfl, rfl⟩
  case round =>
    obtain ⟨rfl, rfl, rfl⟩ := hrel
    go_wp2_with fail
    go_end0
    exact ⟨rfl, rfl⟩
/-- The sort of an owned row. -/
theorem sortUp_row {w : World} {base : Nat} {a : Option Addr} {c : Nat} {xs : List Int} {ks : List Nat} (ho : w.ownsRow base 54 1 (.slice a xs.length c) xs.length (xs.map (Value.int .u64))) (hx : ∀ y, y ∈ xs ↔ y ∈ castL ks) (hn : xs.Nodup) (hlen : xs.length ≤ 20000000) :
    Calls Try.prog 99 #[.slice a xs.length c] w fun en w' => en = .returned (.tuple #[]) ∧ (∃ ys : List Nat, ys.length = xs.length ∧ IsU w' (.slice a xs.length c) ys ∧ ys.Pairwise (· < ·) ∧ ∀ y, y ∈ ys ↔ y ∈ ks) ∧ Below base w w' := by
  have hks : ∀ y : Nat, (y : Int) ∈ xs ↔ y ∈ ks := fun y => by
    rw [hx]
    constructor
    · intro h; obtain ⟨m, hm, e⟩ := castL_nat h
      have : y = m := by omega
      subst this; exact hm
    · intro h; exact List.mem_map.2 ⟨y, h, rfl⟩
  rcases ho.2 with ⟨e, h0⟩ | ⟨g, cap, cur, e, hg, hh, h3, h4, h5, h6⟩
  · have e0 : xs = [] := List.eq_nil_of_length_eq_zero h0
    subst e0
    cases e
    refine (sortUp_nil w).mono ?_
    rintro en w' ⟨rfl, rfl⟩
    exact ⟨rfl, ⟨[], rfl, isU_nil w, List.Pairwise.nil, fun y => by rw [← hks]; simp⟩, Below.refl _ _⟩
  · cases e
    have hrow : URow w g 54 c xs.length (fun k => (xs.getD k 0).toNat) := by
      refine ⟨cur, hh, by omega, fun k hk => ?_⟩
      have h7 : (cur.toList.take (xs.length * 1))[k]? = some (.int .u64 xs[k]) := by rw [h6]; simp [hk]
      rw [List.getElem?_take] at h7
      have e2 : xs.getD k 0 = xs[k] := by simp [hk]
      obtain ⟨m, hm, e3⟩ := castL_nat ((hx _).1 (List.getElem_mem hk))
      dsimp only
      rw [e2, e3]
      rw [e3] at h7
      split at h7
      · simpa using h7
      · cases h7
    have hinj : ∀ i j, i < xs.length → j < xs.length → (xs.getD i 0).toNat = (xs.getD j 0).toNat → i = j := fun i j hi hj e => by
      have ei : xs.getD i 0 = xs[i] := by simp [hi]
      have ej : xs.getD j 0 = xs[j] := by simp [hj]
      rw [ei, ej] at e
      obtain ⟨m, _, e3⟩ := castL_nat ((hx _).1 (List.getElem_mem hi))
      obtain ⟨m', _, e4⟩ := castL_nat ((hx _).1 (List.getElem_mem hj))
      have : xs[i] = xs[j] := by rw [e3, e4] at e ⊢; omega
      exact (List.getElem_inj hn).1 this
    refine (sortUp_any g 54 c xs.length _ w hrow h3 hlen).mono ?_
    rintro en w' ⟨rfl, ⟨f, hr, hs, hso⟩, hon⟩
    obtain ⟨s1, s2, s3⟩ := sorted_list hs hinj hso
    refine ⟨rfl, ⟨_, s1, ⟨some ⟨g, 0, none⟩, g, c, by rw [s1], fun _ => rfl, by rw [s1]; exact h3, h4, fun _ => hr.lt, fun i hi => ?_⟩, s2, fun y => ?_⟩, ⟨hon.os, hon.tape, hon.output, hon.size, fun k hk => hon.block k (by have := (Array.getElem?_eq_some_iff.1 hh).1; omega) (fun e => by have e2 : k = g := e; omega)⟩⟩
    · rw [hr.cell (by simpa using hi)]; simp
    · rw [s3, ← hks]
      constructor
      · rintro ⟨k, hk, rfl⟩
        have e2 : xs.getD k 0 = xs[k] := by simp [hk]
        obtain ⟨m, hm, e3⟩ := castL_nat ((hx _).1 (List.getElem_mem hk))
        have : ((xs.getD k 0).toNat : Int) = xs[k] := by rw [e2, e3]; omega
        rw [this]; exact List.getElem_mem hk
      · intro h
        obtain ⟨k, hk, e⟩ := List.getElem_of_mem h
        exact ⟨k, hk, by simp [hk, e]⟩

def lsW (w2 : World) (b : Nat) : World :=
  ((w2.alloc (.cells #[.func (.func 98) #[] #[.pointer (some ⟨b, 0, none⟩), .pointer (some ⟨w2.heap.size + 1 + 1, 0, none⟩), .pointer (some ⟨w2.heap.size, 0, none⟩)]] 120)).alloc (.map #[] 0)).alloc (.cells #[.map (some (w2.heap.size + 1))] 121)
theorem ls_start {V : Int} {s : Fb} {w2 : World} {c : Cells} {b : Nat} (hs : IsStore w2 s V c) (hb : w2.heap[b]? = some (.cells #[.pointer (some ⟨s.ps, 0, none⟩)] 77 (0, 0))) :
    IsStore (lsW w2 b) s V c ∧ SMap (lsW w2 b) (w2.heap.size + 1) [] ∧ LEnv (lsW w2 b) s (w2.heap.size + 1) ⟨b, w2.heap.size + 1 + 1, w2.heap.size⟩ ∧ Below w2.heap.size w2 (lsW w2 b) := by
  have hbb : Below w2.heap.size w2 (lsW w2 b) := below3 w2 _ _ _
  have lps := hs.lps
  have lb := lt_of_block hb
  refine ⟨hs.below hbb, ⟨[], ?_, fun y => rfl⟩, ⟨(hbb.block _ lb).trans hb, ?_, ?_, by dsimp only; omega, by dsimp only; omega, by dsimp only; omega, fun hm => by have := hs.lt hm; omega, by omega⟩, hbb⟩
  · have h1 := mapOf_new (w2.alloc (.cells #[.func (.func 98) #[] #[.pointer (some ⟨b, 0, none⟩), .pointer (some ⟨w2.heap.size + 1 + 1, 0, none⟩), .pointer (some ⟨w2.heap.size, 0, none⟩)]] 120)) (Value.int .u64)
    simp only [alloc_size] at h1
    exact h1.block_eq (((Below.refl _ _).alloc (Nat.le_refl _) _).block _ (by simp))
  · exact heap_at (by simp only [alloc_size])
  · exact heap_up (heap_up (heap_at rfl))
theorem perm_erase {α : Type} : ∀ (l : List α) (i : Nat) (h : i < l.length), (l[i] :: l.eraseIdx i).Perm l
  | x :: l, 0, _ => by simp
  | x :: l, i + 1, h => by
    have h1 := perm_erase l i (by simpa using h)
    simp only [List.getElem_cons_succ, List.eraseIdx_cons_succ]
    exact (List.Perm.swap x _ _).trans (h1.cons x)
/-- The range on its way. -/
structure LR (w wr : World) (r md : Nat) (mq left : List (Int × Value)) (vo : Value) (xs : List Int) : Prop where
  it : IterOf wr r md (Value.int .u64) mq left
  own : wr.ownsRow (r + 1) 54 1 vo xs.length (xs.map (Value.int .u64))
  below : Below w.heap.size w wr
  perm : (xs ++ left.map (·.1)).Perm (mq.map (·.1))
  lt : w.heap.size ≤ md ∧ md < r ∧ r < wr.heap.size
theorem LR.step {w wr w1 w3 : World} {r md i : Nat} {mq left : List (Int × Value)} {vo v3 : Value} {xs : List Int} {p : Int × Value} (h : LR w wr r md mq left vo xs) (hp : left[i]? = some p) (hi : IterOf w1 r md (Value.int .u64) mq (left.eraseIdx i)) (ho : Only (· = r) wr w1)
    (hown : w3.ownsRow (r + 1) 54 1 v3 (xs.length + 1) (xs.map (Value.int .u64) ++ [.int .u64 p.1])) (hg : (w1.alloc (.cells #[.int .u64 p.1] 54)).grownBy w3 vo.ownBlock) :
    LR w w3 r md mq (left.eraseIdx i) v3 (xs ++ [p.1]) := by
  have hne : ∀ k, k < r + 1 → some k ≠ vo.ownBlock := fun k hk e => by
    rcases h.own.2 with ⟨e2, _⟩ | ⟨g, cap, cur, e2, hg, _⟩
    · rw [e2] at e; cases e
    · rw [e2] at e; simp [Value.ownBlock] at e; omega
  have l1 := h.lt
  have sz1 := ho.size
  have key : ∀ k, k < r + 1 → w3.heap[k]? = w1.heap[k]? := fun k hk => by
    rw [hg.block k (by simp; omega) (hne k hk), alloc_get, if_neg (by omega)]
  obtain ⟨hil, hpe⟩ := List.getElem?_eq_some_iff.1 hp
  refine ⟨hi.keep (key _ (by omega)) (key _ (by omega)), by simpa using hown, ?_, ?_, l1.1, l1.2.1, by have := hg.size; simp at this; omega⟩
  · refine h.below.trans ⟨hg.os.trans ho.os, hg.tape.trans ho.tape, hg.output.trans ho.output, by have := hg.size; simp at this; omega, fun k hk => ?_⟩
    rw [key k (by omega), ho.block k (by omega) (fun e => by have e2 : k = r := e; omega)]
  · refine List.Perm.trans ?_ h.perm
    rw [List.append_assoc]
    refine List.Perm.append_left _ ?_
    have h1 := (perm_erase left i hil).map (·.1)
    rw [hpe] at h1
    simpa using h1
/-- What List leaves. -/
def ListPost (V : Int) (c : Cells) (h : Int) (w : World) (e : Ending) (w' : World) : Prop :=
  ∃ (v : Value) (ys : List Nat), e = .returned (.tuple #[v, .nilIface]) ∧ IsU w' v ys ∧ ys.Pairwise (· < ·) ∧ (∀ y, y ∈ ys ↔ Z c h (smN y)) ∧ (∀ y ∈ ys, y < 2 ^ V.toNat) ∧ Below w.heap.size w w'

set_option maxRecDepth 100000 in
set_option maxHeartbeats 8000000 in
theorem FList_any {V : Int} (hV0 : 0 ≤ V) (hV : V ≤ 24) (h most : Int) (w : World) (s : Fb) (c : Cells) (hs : IsStore w s V c) (zo : ZOk V c) (hh : hasM c h = true) (hm : ((2 ^ V.toNat : Nat) : Int) ≤ most) :
    Calls Try.prog 62 #[.pointer (some ⟨s.ps, 0, none⟩), .int .i64 h, .int .i64 most] w (ListPost V c h w) := by
  have hmm := @run_makeMap Try.prog
  have hmf : ∀ (fn : Fn) (first cap : Array Value) (w : World), (Instr.makeFunc fn first cap).run Try.prog w = .ok (.func fn first cap) w := fun _ _ _ _ => rfl
  have hcz := cntZ_all hV zo hh
  have hb1 : Below w.heap.size w (w.alloc (.cells #[.pointer (some ⟨s.ps, 0, none⟩)] 77)) := (Below.refl _ _).alloc (Nat.le_refl _) _
  have hct := FCount_any hV h _ s c (hs.below hb1) zo hh
  have Hct := Lib.hid hct; have Hs := Lib.hid hs; have Hz := Lib.hid zo; have Hh := Lib.hid hh; have Hm := Lib.hid hm; have Hcz := Lib.hid hcz; have HB1 := Lib.hid hb1
  clear hct hs zo hh hm hcz hb1
  go_enter Try.func62, Try.ntmps62
  go_wp2_with fail
  refine Hct.out.mono ?_
  rintro e w1 ⟨v1, rfl, hn1, hb2⟩
  obtain ⟨a1, c1, rfl⟩ := hn1.shape
  have hn2 := hn1.below (w' := w1.alloc (.cells #[.slice a1 (limbsOf (cntZ c h)).length c1] 70)) ((Below.refl _ _).alloc (Nat.le_refl _) _)
  have hft := Fits_any (cntZ c h) _ _ hn2 (by have := Hcz.out.2; unfold B32; omega)
  have hst1 := (hb2.block _ (by simp)).trans (heap_at (w := w) (o := .cells #[.pointer (some ⟨s.ps, 0, none⟩)] 77) rfl)
  have hbw := HB1.out.trans (hb2.mono HB1.out.size)
  have Hft := Lib.hid hft; have Hst1 := Lib.hid hst1; have Hbw := Lib.hid hbw
  clear hn1 hb2 hn2 hft hst1 hbw Hct
  go_wp2_with fail
  refine Hft.out.mono ?_
  rintro e w2 ⟨rfl, hb3⟩
  have hle : decide (most < ((cntZ c h : Nat) : Int)) = false := by have := Hcz.out.1; have := Hm.out; simp; omega
  have hst2 := (hb3.block _ (by have := lt_of_block Hst1.out; simp; omega)).trans (heap_up Hst1.out)
  have hbw := (Hbw.out.alloc Hbw.out.size (.cells #[.slice a1 (limbsOf (cntZ c h)).length c1] 70)).trans (hb3.mono (by have := Hbw.out.size; simp; omega))
  have Hst2 := Lib.hid hst2; have Hbw2 := Lib.hid hbw
  clear hst2 hb3 hbw Hst1 Hbw Hft
  go_wp2_with fail
  have hs2 := Hs.out.below Hbw2.out
  obtain ⟨q1, q2, q3, q4⟩ := ls_start hs2 Hst2.out
  have hq := ls_in hV _ _ 25 0 h 0 [] _ s c q1 q2 q3 Hz.out Hh.out (by have := topM_le Hz.out.ok h; omega) (by decide)
  unfold LsPost lsW at hq
  unfold lsW at q4
  have Hq := Lib.hid hq; have Q4 := Lib.hid q4
  clear hs2 q1 q2 q3 q4 hq hle Hst2
  refine Hq.out.mono ?_
  rintro e w3 ⟨rfl, hm3, ho3⟩
  have hb3 := Hbw2.out.trans ((Q4.out.trans (ho3.below Q4.out.size (fun k hk => by have e' : k = w2.heap.size + 1 := hk; omega))).mono Hbw2.out.size)
  have hd3 := (ho3.block (w2.heap.size + 1 + 1) (by simp) (fun e => by have e' : w2.heap.size + 1 + 1 = w2.heap.size + 1 := e; omega)).trans (heap_at (by simp only [alloc_size]))
  have cd := cell_of_one hd3
  rw [List.nil_append] at hm3
  have hlt3 := hm3.lt
  obtain ⟨mq, hmq, hmv⟩ := hm3
  have hmd : w.heap.size ≤ w2.heap.size + 1 := by have := Hbw2.out.size; omega
  have Hb3 := Lib.hid hb3; have Hmq := Lib.hid hmq; have Hmv := Lib.hid hmv; have Hmd := Lib.hid hmd; have Hlt3 := Lib.hid hlt3
  clear hb3 hd3 hmq hmv hmd hlt3 ho3 Hq Q4 Hbw2
  generalize w2.heap.size + 1 = md at *
  go_wp2_with (at_range; refine wpList_range_of rfl (.tmp 43) 121 rfl (kt := 54) (et := 4) Try.underlying121 (b := md) (enc := Value.int .u64) (l := mq) rfl Hmq.out ?_; intro w4 hit hb4 hsz; have Hit := Lib.hid hit; have Hb4 := Lib.hid hb4; have Hsz := Lib.hid hsz; clear hit hb4 hsz)
  go_frame
  obtain ⟨r, hr⟩ : ∃ r, r = w3.heap.size := ⟨_, rfl⟩
  have hlr : LR w w4 r md mq mq (.slice none 0 0) [] := by
    rw [hr]
    exact ⟨Hit.out, ⟨rfl, .inl ⟨rfl, rfl⟩⟩, Hb3.out.trans (Hb4.out.mono Hb3.out.size), by simp, Hmd.out, Hlt3.out, by have := Hsz.out; omega⟩
  have Hlr := Lib.hid hlr; clear hlr
  rw [← hr]
  clear hr cd Hit Hb4 Hsz Hb3 Hlt3 Hmd
  have hkeys := smap_keys Hmv.out
  have hnd : (mq.map (·.1)).Nodup := by obtain ⟨_, _, _, _, h3, _⟩ := Hmq.out; exact h3
  have hkl := keys_len hnd (fun y hy => (hkeys y).1 hy) (fun m hm => Nat.lt_of_lt_of_le (out_lt hV Hz.out h m hm) (two_pow_le (show V.toNat ≤ 24 by omega)))
  rw [List.length_map] at hkl
  obtain ⟨i0, hi, hz0, hz1, hz2⟩ := info_parts infoUint
  have Hkeys := Lib.hid hkeys; have Hnd := Lib.hid hnd; have Hkl := Lib.hid hkl
  clear hkeys hnd hkl Hmq Hmv
  go_loopg [12] mq.length (fun gk vo wr => ∃ (left : List (Int × Value)) (xs : List Int), gk = left.length ∧ LR w wr r md mq left vo xs)
  case atStart => exact ⟨mq, [], rfl, Hlr.out⟩
  case round =>
    clear Hlr
    obtain ⟨left, xs, rfl, hlr⟩ := hrel
    obtain ⟨ao, co, rfl⟩ := owns_shape hlr.own
    have hxl : xs.length + left.length = mq.length := by have := hlr.perm.length_eq; simpa using this
    have Hlr := Lib.hid hlr; have Hxl := Lib.hid hxl; clear hlr hxl
    go_wp2_with (at_next; refine wpList_next_of rfl (.tmp 44) rfl (r := r) (b := md) (enc := Value.int .u64) (m := mq) (left := left) rfl Hlr.out.it ?_ ?_)
    · intro h0
      subst h0
      have hp := Hlr.out.perm
      rw [List.map_nil, List.append_nil] at hp
      have hx : ∀ y, y ∈ xs ↔ y ∈ castL (outM c h 0) := fun y => hp.mem_iff.trans (Hkeys.out y)
      have hso := sortUp_row Hlr.out.own hx (hp.nodup_iff.2 Hnd.out) (by have h1 := Hkl.out; have h2 := Hxl.out; rw [List.length_nil] at h2; omega)
      have Hso := Lib.hid hso; clear hso hp hx
      go_wp2_with fail
      refine Hso.out.mono ?_
      rintro e w5 ⟨rfl, ⟨ys, hy1, hy2, hy3, hy4⟩, hb5⟩
      have Hy2 := Lib.hid hy2; have Hy3 := Lib.hid hy3; have Hy4 := Lib.hid hy4; have Hb5 := Lib.hid hb5
      clear hy1 hy2 hy3 hy4 hb5
      go_wp2_with fail
      go_ret2
      exact ⟨_, ys, rfl, Hy2.out, Hy3.out, fun y => (Hy4.out y).trans (mem_out hV Hz.out h y), fun y hy => out_lt hV Hz.out h y ((Hy4.out y).1 hy), Hlr.out.below.trans (Hb5.out.mono (by have := Hlr.out.lt; omega))⟩
    · intro i y pv w5 hp hpm hit5 ho5 hsz5 hen
      have hll : (left.eraseIdx i).length + 1 = left.length := by
        obtain ⟨hi, _⟩ := List.getElem?_eq_some_iff.1 hp
        rw [List.length_eraseIdx, if_pos hi]; omega
      have hown := (Hlr.out.own)
      have hown5 : w5.ownsRow (r + 1) 54 1 (.slice ao xs.length co) xs.length (xs.map (Value.int .u64)) := by
        refine ⟨hown.1, ?_⟩
        rcases hown.2 with h1 | ⟨g, cap, cur, e, hg, hh, r1⟩
        · exact .inl h1
        · exact .inr ⟨g, cap, cur, e, hg, (ho5.block g (Array.getElem?_eq_some_iff.1 hh).1 (fun e => by have e2 : g = r := e; omega)).trans hh, r1⟩
      have hown6 := hown5.alloc (.cells #[.int .u64 y] 54)
      have hlt := Hlr.out.lt
      have hrb : r + 1 ≤ (w5.alloc (.cells #[.int .u64 y] 54)).heap.size := by simp; omega
      have hbd : xs.length + 1 ≤ 20000000 := by have h1 := Hkl.out; have h2 := Hxl.out; omega
      have Hll := Lib.hid hll; have Hp := Lib.hid hp; have Hit5 := Lib.hid hit5; have Ho5 := Lib.hid ho5; have Hown6 := Lib.hid hown6; have Hrb := Lib.hid hrb; have Hbd := Lib.hid hbd
      clear hll hp hpm hit5 ho5 hsz5 hown hown5 hown6 hlt hrb hbd
      go_wp2_with (at_builtin; go_loud (refine wpList_append_at _ rfl _ _ 80 rfl (r + 1) 54 i0 (.int .u64 0) 1 8 Try.underlying80 hi hz0 hz1 hz2 rfl (by decide) _ _ _ rfl Hown6.out _ 1 1 [.int .u64 y] rfl rfl (cell_new_at _ _ _ _ rfl) (by intro u hu; simp at hu; subst hu; rfl) (by have := Hbd.out; simp only [maxLen]; omega) (by have := Hbd.out; omega) Hrb.out ?_); intro v3 w6 hown3 hgrow3 hor3; have hn := Hlr.out.step Hp.out Hit5.out Ho5.out hown3 hgrow3; obtain ⟨a3, c3, rfl⟩ := owns_shape hown3; have Hn := Lib.hid hn; clear hown3 hgrow3 hor3 hn)
      go_roundg (left.eraseIdx i).length
      case measure => have := Hll.out; omega
      case rel => exact ⟨_, _, rfl, Hn.out⟩
end Go.Proofs.Ytmlnfbageoabnaa
