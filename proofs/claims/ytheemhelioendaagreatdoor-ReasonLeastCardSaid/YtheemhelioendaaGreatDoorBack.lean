/- Contracts: state.back; slices.Index of integers. -/
import Derived.Test.YtheemhelioendaaGreatDoorTags
import Derived.Test.YtheemhelioendaaGreatDoorDpll
namespace Go.Proofs.YtheemhelioendaaGreatDoor
open Go.RowKit
set_option linter.unusedVariables false

/-- Some literals' variables are told no more. -/
def wipe (f : Int → Int) (l : List Int) : Int → Int := l.foldl (fun f x => upd f (vr x) 0) f
theorem wipe_eq (l : List Int) : ∀ (f : Int → Int) (u : Int), wipe f l u = if ∃ x ∈ l, vr x = u then 0 else f u := by
  induction l with
  | nil => intro f u; simp [wipe]
  | cons y l ih =>
    intro f u
    show wipe (upd f (vr y) 0) l u = _
    rw [ih]
    by_cases h : ∃ x ∈ l, vr x = u
    · rw [if_pos h, if_pos (by obtain ⟨x, hx, e⟩ := h; exact ⟨x, by simp [hx], e⟩)]
    · rw [if_neg h]
      unfold upd
      by_cases e : vr y = u
      · rw [if_pos e, if_pos ⟨y, by simp, e⟩]
      · rw [if_neg e, if_neg (by rintro ⟨x, hx, e2⟩; rcases List.mem_cons.1 hx with rfl | hx; exact e e2; exact h ⟨x, hx, e2⟩)]
theorem wipe_snoc (f : Int → Int) (l : List Int) (x : Int) : wipe f (l ++ [x]) = upd (wipe f l) (vr x) 0 := by simp [wipe]
theorem TrailOK.take {m : Int} {f : Int → Int} {tr : List Int} (h : TrailOK m f tr) (n : Nat) : TrailOK m (wipe f (tr.drop n)) (tr.take n) := by
  refine ⟨fun u => ?_, fun y hy => ?_, fun x hx => h.rng x (List.mem_of_mem_take hx), h.nodup.sublist (List.take_sublist _ _)⟩
  · rw [wipe_eq]; have := h.tri u; split <;> omega
  · have hlv : lv (wipe f (tr.drop n)) y = if ∃ x ∈ tr.drop n, vr x = vr y then 0 else lv f y := by
      unfold lv
      rw [wipe_eq]
      split <;> split <;> first | rfl | simp
    rw [hlv]
    have hsp : y ∈ tr ↔ y ∈ tr.take n ∨ y ∈ tr.drop n := by rw [← List.mem_append, List.take_append_drop]
    constructor
    · intro h1
      split at h1
      · omega
      · rename_i hno
        rcases hsp.1 ((h.iff y hy).1 h1) with h2 | h2
        · exact h2
        · exact absurd ⟨y, h2, rfl⟩ hno
    · intro h1
      have h2 := hsp.2 (.inl h1)
      have h3 := (h.iff y hy).2 h2
      rw [if_neg]
      · exact h3
      · rintro ⟨x, hx, e⟩
        have hxt : x ∈ tr := List.mem_of_mem_drop hx
        have hx0 := (h.rng x hxt).1
        have h4 := (h.iff x hx0).2 hxt
        have h5 : x = y ∨ x = -y := by unfold vr at e; omega
        rcases h5 with rfl | rfl
        · have hnd := h.nodup
          rw [← List.take_append_drop n tr, List.nodup_append] at hnd
          exact hnd.2.2 x h1 x hx rfl
        · rw [lv_neg hy] at h4; omega

/-- What state.back leaves. -/
def BackPost (m : Int) (n p : Nat) (tr : List Int) (v : Value) (w : World) (e : Ending) (w' : World) : Prop :=
  e = .returned (.tuple #[]) ∧ (∃ g v', StateAt w' p g (tr.take n) v' ∧ TrailOK m g (tr.take n) ∧ v'.ownBlock = v.ownBlock) ∧ Mod p v.ownBlock w w'

theorem StateAt.ints {w : World} {p : Nat} {f : Int → Int} {tr : List Int} {v : Value} (h : StateAt w p f tr v) (hl : tr.length ≤ 17592186044416) : IsInts w v tr := isInts_of_owns h.own hl

set_option maxHeartbeats 1000000 in
theorem back_any (m : Int) (n p : Nat) (f : Int → Int) (tr : List Int) (v : Value) (w : World) (hm : m ≤ 24) (hs : StateAt w p f tr v) (ht : TrailOK m f tr) (hn : n < tr.length) :
    Calls Tryz.prog 63 #[.pointer (some ⟨p, 0, none⟩), .int .i64 n] w (BackPost m n p tr v w) := by
  have hlen := ht.len hm
  have htk := ht.take n
  have hct := hs.trail
  have hrng := ht.rng
  obtain ⟨a, c, rfl⟩ := owns_shape hs.own
  obtain ⟨b, o, rfl, hblk⟩ := (hs.ints (by omega)).addr hn
  have hc0 : tr.length ≤ c := by obtain ⟨_, _, e, h, _⟩ := (hs.ints (by omega)).shape; cases e; exact h
  have hcm : c ≤ 9223372036854775807 := by obtain ⟨_, _, e, _, h, _⟩ := (hs.ints (by omega)).shape; cases e; exact h
  have hnc : n < c := by omega
  have Hs := Lib.hid hs; have Htk := Lib.hid htk; have Hrng := Lib.hid hrng
  clear hs ht htk hrng
  go_enter Tryz.func63, Tryz.ntmps63
  go_wp2_with fail
  go_loopg [13] (tr.length - n) (fun gk i wr => ∃ k : Nat, k ≤ tr.length - n ∧ gk = tr.length - n - k ∧ i = .int .i64 k ∧ StateAt wr p (wipe f ((tr.drop n).take k)) tr (.slice (some ⟨b, o, none⟩) tr.length c) ∧ Mod p (some b) w wr)
  case atStart => exact ⟨0, Nat.zero_le _, rfl, rfl, Hs.out, Mod.refl _ _ _⟩
  case round =>
    obtain ⟨k, hk, rfl, rfl, hs2, hmod⟩ := hrel
    have Hs2 := Lib.hid hs2; have Hmod := Lib.hid hmod; clear hs2 hmod
    by_cases hlt : k < tr.length - n
    · have hnk : n + k < tr.length := by omega
      have hcell := (Hs2.out.ints (by omega)).get hnk
      obtain ⟨hx0, hx1, hx2⟩ := Hrng.out _ (List.getElem_mem hnk)
      have htk : (tr.drop n).take (k + 1) = (tr.drop n).take k ++ [tr[n + k]] := by
        rw [List.take_succ_eq_append_getElem (by rw [List.length_drop]; omega), List.getElem_drop]
      have Htk2 := Lib.hid htk; clear htk
      generalize hx : tr[n + k] = x at hcell hx0 hx1 hx2
      have Hx := Lib.hid hx; clear hx
      rw [← Nat.add_assoc] at hcell
      by_cases hneg : x < 0
      · have h3 : 1 ≤ -x := by omega
        have hmx : max x (-x) = -x := by omega
        have hc2 := Hs2.out.cell (k := -x) (by omega) (by omega)
        have hfz := Hs2.out.free ((-x).toNat - 1)
        go_wp2
        go_roundg (tr.length - n - (k + 1))
        case measure => omega
        case rel =>
          refine ⟨k + 1, by omega, rfl, by go_num, ?_, Hmod.out.trans Mod.store (.inl rfl)⟩
          rw [Htk2.out, Hx.out, wipe_snoc, vr_neg hneg]
          exact Hs2.out.store h3 (by omega)
      · have h3 : 1 ≤ x := by omega
        have hmx : max x (-x) = x := by omega
        have hc2 := Hs2.out.cell (k := x) (by omega) (by omega)
        have hfz := Hs2.out.free (x.toNat - 1)
        go_wp2
        go_roundg (tr.length - n - (k + 1))
        case measure => omega
        case rel =>
          refine ⟨k + 1, by omega, rfl, by go_num, ?_, Hmod.out.trans Mod.store (.inl rfl)⟩
          rw [Htk2.out, Hx.out, wipe_snoc, vr_pos h3]
          exact Hs2.out.store h3 (by omega)
    · have hct2 := Hs2.out.trail
      have hfz := Hs2.out.free 24
      have hown := owns_take Hs2.out.own (k := n) (by omega)
      rw [← List.map_take] at hown
      have Hown := Lib.hid hown; clear hown
      obtain rfl : k = tr.length - n := by omega
      go_wp2
      go_end0
      have e : (tr.drop n).take (tr.length - n) = tr.drop n := List.take_of_length_le (by rw [List.length_drop]; exact Nat.le_refl _)
      have hs3 := Hs2.out
      rw [e] at hs3
      have hl3 : (tr.take n).length = n := by rw [List.length_take]; omega
      exact ⟨rfl, ⟨wipe f (tr.drop n), _, hs3.storeTrail rfl (by rw [hl3]; exact Hown.out) (by have := hs3.apart; exact this), Htk.out, rfl⟩, Hmod.out.trans Mod.store (.inl rfl)⟩

def IndexPost (x : Int) (xs : List Int) (w : World) (e : Ending) (w' : World) : Prop :=
  (∃ n : Int, e = .returned (.int .i64 n) ∧ ((n = -1 ∧ x ∉ xs) ∨ ∃ k, n = (k : Nat) ∧ ∃ h : k < xs.length, xs[k] = x ∧ x ∉ xs.take k)) ∧ w = w'

set_option maxHeartbeats 400000 in
theorem index_any (x : Int) (v : Value) (xs : List Int) (w : World) (hv : IsInts w v xs) :
    Calls Tryz.prog 64 #[v, .int .i64 x] w (IndexPost x xs w) := by
  obtain ⟨a, c, rfl, hl, hm, hlen⟩ := hv.shape
  have Hv := Lib.hid hv; clear hv
  go_enter Tryz.func64, Tryz.ntmps64
  go_wp2
  go_loopg [8] xs.length (fun gk i wr => w = wr ∧ ∃ k : Nat, k ≤ xs.length ∧ gk = xs.length - k ∧ i = .int .i64 k ∧ x ∉ xs.take k)
  case atStart => exact ⟨rfl, 0, Nat.zero_le _, rfl, rfl, by simp⟩
  case round =>
    obtain ⟨rfl, k, hk, rfl, rfl, hno⟩ := hrel
    have Hno := Lib.hid hno; clear hno
    by_cases hlt : k < xs.length
    · obtain ⟨b, o, rfl, hblk⟩ := Hv.out.addr hlt
      have hc := Hv.out.get hlt
      generalize hy : xs[k] = y at hc
      have Hy := Lib.hid hy; clear hy
      by_cases he : x = y
      · have he' : (x == y) = true := by simpa using he
        have He := Lib.hid he; clear he
        go_wp2
        go_ret
        exact ⟨⟨k, rfl, .inr ⟨k, rfl, hlt, by rw [Hy.out, He.out], Hno.out⟩⟩, rfl⟩
      · have he' : (x == y) = false := by simpa using he
        have He := Lib.hid he; clear he
        go_wp2
        go_roundg (xs.length - (k + 1))
        case measure => omega
        case rel => exact ⟨rfl, k + 1, by omega, rfl, by go_num, fun h => ((mem_take_succ hlt).1 h).elim Hno.out (fun e => He.out (by rw [e, Hy.out]))⟩
    · go_wp2
      go_ret
      refine ⟨⟨-1, rfl, .inl ⟨rfl, ?_⟩⟩, rfl⟩
      have := Hno.out
      rw [List.take_of_length_le (by omega)] at this
      exact this
end Go.Proofs.YtheemhelioendaaGreatDoor
