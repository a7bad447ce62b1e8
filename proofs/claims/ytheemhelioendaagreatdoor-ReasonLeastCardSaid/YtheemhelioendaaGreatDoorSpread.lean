/- Contracts: state.unit, state.spread. -/
import Derived.Test.YtheemhelioendaaGreatDoorState
import Derived.Test.YtheemhelioendaaGreatDoorTrail
import Derived.Test.YtheemhelioendaaGreatDoorCheck
namespace Go.Proofs.YtheemhelioendaaGreatDoor
open Go.RowKit
set_option linter.unusedVariables false

def UnitPost (f : Int → Int) (c : List Int) (w : World) (e : Ending) (w' : World) : Prop := (∃ x ok, e = .returned (.tuple #[.int .i64 x, .bool ok]) ∧ UnitSay f c x ok) ∧ w = w'

set_option maxHeartbeats 1000000 in
theorem unit_any (p : Nat) (f : Int → Int) (tr c : List Int) (v vc : Value) (w : World) (hs : StateAt w p f tr v) (hc : IsInts w vc c) (hg : ∀ x ∈ c, x ≠ 0 ∧ -24 ≤ x ∧ x ≤ 24) (ht : Tri f) :
    Calls Tryz.prog 91 #[.pointer (some ⟨p, 0, none⟩), vc] w (UnitPost f c w) := by
  obtain ⟨ac, cc, rfl, hcl, hcm, hclen⟩ := hc.shape
  have Hc := Lib.hid hc; clear hc
  have Hs := Lib.hid hs; clear hs
  have Hg := Lib.hid hg; clear hg
  have Ht := Lib.hid ht; clear ht
  go_enter Tryz.func91, Tryz.ntmps91
  go_wp2
  go_loopg [6, 11] c.length (fun gk l i wr => w = wr ∧ ∃ (k : Nat) (left : Int), k ≤ c.length ∧ gk = c.length - k ∧ i = .int .i64 k ∧ l = .int .i64 left ∧ UScan f c k left)
  case atStart => exact ⟨rfl, 0, 0, Nat.zero_le _, rfl, rfl, rfl, uscan_start _ _⟩
  case round =>
    obtain ⟨rfl, k, left, hk, rfl, rfl, rfl, hsc⟩ := hrel
    have Hsc := Lib.hid hsc; clear hsc
    by_cases hlt : k < c.length
    · obtain ⟨b, o, rfl, hblk⟩ := Hc.out.addr hlt
      have hcell := Hc.out.get hlt
      have hmem : c[k] ∈ c := List.getElem_mem hlt
      obtain ⟨hx0, hx1, hx2⟩ := Hg.out _ hmem
      generalize hx : c[k] = x at hcell hx0 hx1 hx2 hmem
      have Hx := Lib.hid hx; clear hx
      have hcall := is_any x p f tr v w Hs.out hx0 hx1 hx2 Ht.out
      have h3 : lv f x = 1 ∨ lv f x = -1 ∨ lv f x = 0 := by have := Ht.out.lv x; omega
      rcases h3 with h3 | h3 | h3
      · rw [h3] at hcall
        have H3 := Lib.hid h3; have Hcall := Lib.hid hcall; clear h3 hcall
        go_wp2_with (go_at_call 113; refine Hcall.out.mono ?_; rintro e w' ⟨rfl, rfl⟩)
        go_ret2
        exact ⟨⟨_, _, rfl, say_true hmem H3.out⟩, rfl⟩
      · rw [h3] at hcall
        have H3 := Lib.hid h3; have Hcall := Lib.hid hcall; clear h3 hcall
        go_wp2_with (go_at_call 113; refine Hcall.out.mono ?_; rintro e w' ⟨rfl, rfl⟩)
        go_roundg (c.length - (k + 1))
        case measure => omega
        case rel => exact ⟨rfl, k + 1, left, by omega, rfl, by go_num, rfl, Hsc.out.stepm hlt (by rw [Hx.out]; exact H3.out)⟩
      · rw [h3] at hcall
        have H3 := Lib.hid h3; have Hcall := Lib.hid hcall; clear h3 hcall
        by_cases hl0 : left = 0
        · subst hl0
          go_wp2_with (go_at_call 113; refine Hcall.out.mono ?_; rintro e w' ⟨rfl, rfl⟩)
          go_roundg (c.length - (k + 1))
          case measure => omega
          case rel => exact ⟨rfl, k + 1, x, by omega, rfl, by go_num, rfl, by have := Hsc.out.step0 hlt (fun y hy => (Hg.out y hy).1) (by rw [Hx.out]; exact H3.out) (.inl rfl); rw [Hx.out] at this; exact this⟩
        · have hl0' : (left != 0) = true := by simpa using hl0
          by_cases hlx : left = x
          · subst hlx
            have hlx' : (left != left) = false := by simp
            clear hl0
            go_wp2_with (go_at_call 113; refine Hcall.out.mono ?_; rintro e w' ⟨rfl, rfl⟩)
            go_roundg (c.length - (k + 1))
            case measure => omega
            case rel => exact ⟨rfl, k + 1, left, by omega, rfl, by go_num, rfl, by have := Hsc.out.step0 hlt (fun y hy => (Hg.out y hy).1) (by rw [Hx.out]; exact H3.out) (.inr (by rw [Hx.out])); rw [Hx.out] at this; exact this⟩
          · have hlx' : (left != x) = true := by simpa using hlx
            have Hl0 := Lib.hid hl0; have Hlx := Lib.hid hlx; clear hl0 hlx
            go_wp2_with (go_at_call 113; refine Hcall.out.mono ?_; rintro e w' ⟨rfl, rfl⟩)
            go_ret2
            exact ⟨⟨_, _, rfl, say_two Hsc.out hmem H3.out Hl0.out Hlx.out⟩, rfl⟩
    · obtain rfl : k = c.length := by omega
      have hsay := Hsc.out.say (fun y hy => (Hg.out y hy).1)
      have Hsay := Lib.hid hsay; clear hsay
      go_wp2
      go_ret2
      exact ⟨⟨_, _, rfl, Hsay.out⟩, rfl⟩

/-- What state.spread leaves. -/
def SpreadPost (m : Int) (l : List (List Int)) (p : Nat) (f : Int → Int) (tr : List Int) (v : Value) (w : World) (e : Ending) (w' : World) : Prop :=
  ∃ (n : Int) (g : Int → Int) (ext : List Int) (v' : Value), e = .returned (.int .i64 n) ∧ StateAt w' p g (tr ++ ext) v' ∧ Next w v v' ∧ Mod p v.ownBlock w w' ∧ TrailOK m g (tr ++ ext) ∧ Justs l tr ext ∧
    ((n = -1 ∧ ∀ d ∈ l, Stuck g d) ∨ ∃ k, n = (k : Nat) ∧ ∃ h : k < l.length, ∀ y ∈ l[k], lv g y = -1)

theorem Next.trans {a b : World} {v v' v'' : Value} (h : Next a v v') (h' : Next b v' v'') (hs : a.heap.size ≤ b.heap.size) : Next a v v'' := by
  rcases h' with e | ⟨g, e, hg⟩
  · rcases h with e2 | ⟨g, e2, hg⟩
    · exact .inl (e.trans e2)
    · exact .inr ⟨g, e.trans e2, hg⟩
  · exact .inr ⟨g, e, by omega⟩

set_option maxHeartbeats 1000000 in
theorem spread_any (m : Int) (p : Nat) (f : Int → Int) (tr : List Int) (l : List (List Int)) (v vl : Value) (w : World) (hm : m ≤ 24) (hs : StateAt w p f tr v) (ht : TrailOK m f tr)
    (hl : ∀ w', Mod p v.ownBlock w w' → IsRows w' vl l) (hg : ∀ d ∈ l, ∀ x ∈ d, x ≠ 0 ∧ -m ≤ x ∧ x ≤ m) (hll : l.length ≤ 100000) :
    Calls Tryz.prog 62 #[.pointer (some ⟨p, 0, none⟩), vl] w (SpreadPost m l p f tr v w) := by
  obtain ⟨al, cl, rfl, hlc, hlm, _⟩ := (hl w (Mod.refl _ _ _)).shape
  have Hl := Lib.hid hl; clear hl
  have Hg := Lib.hid hg; clear hg
  have Hs := Lib.hid hs; clear hs
  have Ht := Lib.hid ht; clear ht
  go_enter Tryz.func62, Tryz.ntmps62
  go_wp2
  go_loopg [5] (unset f * 200000 + l.length) (fun gk i wr => ∃ (k : Nat) (g : Int → Int) (ext : List Int) (v' : Value), i = .int .i64 k ∧ k ≤ l.length ∧ gk = unset g * 200000 + (l.length - k) ∧ StateAt wr p g (tr ++ ext) v' ∧ Next w v v' ∧ Mod p v.ownBlock w wr ∧ TrailOK m g (tr ++ ext) ∧ Justs l tr ext ∧ ∀ d ∈ l.take k, Stuck g d)
  case atStart => exact ⟨0, f, [], v, rfl, Nat.zero_le _, rfl, by rw [List.append_nil]; exact Hs.out, .inl rfl, Mod.refl _ _ _, by rw [List.append_nil]; exact Ht.out, justs_nil _ _, by simp⟩
  case round =>
    obtain ⟨k, g, ext, v', rfl, hk, rfl, hs, hnx, hmod, ht, hj, hst⟩ := hrel
    have Hs2 := Lib.hid hs; clear hs
    have Hnx := Lib.hid hnx; clear hnx
    have Hmod := Lib.hid hmod; clear hmod
    have Ht2 := Lib.hid ht; clear ht
    have Hj := Lib.hid hj; clear hj
    have Hst := Lib.hid hst; clear hst
    by_cases hlt : k < l.length
    · obtain ⟨b, o, rfl, hblk⟩ := (Hl.out _ Hmod.out).addr hlt
      obtain ⟨a2, n2, c2, hcell, hr⟩ := (Hl.out _ Hmod.out).get hlt
      have hd : l[k] ∈ l := List.getElem_mem hlt
      generalize hdd : l[k] = d at hr hd
      have Hdd := Lib.hid hdd; clear hdd
      have hu := unit_any p g (tr ++ ext) d v' _ wr Hs2.out hr (fun x hx => by have := Hg.out d hd x hx; omega) Ht2.out.tri
      have Hu := Lib.hid hu; clear hu hr
      go_wp2_with (go_at_call 91; refine Hu.out.mono ?_; rintro e w' ⟨⟨x, ok, rfl, hsay⟩, rfl⟩; have Hsay := Lib.hid hsay; clear hsay)
      · have hok : ok = false := by simpa using (show (!ok) = true by assumption)
        subst hok
        go_ret
        refine ⟨k, g, ext, v', rfl, Hs2.out, Hnx.out, Hmod.out, Ht2.out, Hj.out, .inr ⟨k, rfl, hlt, ?_⟩⟩
        rw [Hdd.out]
        exact (Hsay.out.1 rfl).2
      · have hok : ok = true := by simpa using (show (!ok) = false by assumption)
        have hx0 : x ≠ 0 := by simpa using (show (x != 0) = true by assumption)
        obtain ⟨hxd, hx1, hx2⟩ := Hsay.out.2.1 hok hx0
        obtain ⟨_, hx3, hx4⟩ := Hg.out d hd x hxd
        have ht3 := Ht2.out.snoc hx0 hx3 hx4 hx1
        have hcnt := unset_lt (f := g) (x := x) (by unfold vr; omega) (by unfold vr; omega) (lv_zero.1 hx1)
        have hj3 : Justs l tr (ext ++ [x]) := Hj.out.snoc ⟨d, hd, hxd, fun y hy hne => (Ht2.out.neg (Hg.out d hd y hy).1).1 (hx2 y hy hne)⟩
        have Ht3 := Lib.hid ht3; have Hcnt := Lib.hid hcnt; have Hj3 := Lib.hid hj3
        clear ht3 hcnt hj3 hx2 hxd
        refine (set_any x p g (tr ++ ext) v' wr Hs2.out hx0 (by omega) (by omega) (by have := Ht2.out.len hm; omega)).mono ?_
        rintro e w2 ⟨rfl, ⟨v2, hs3, hnx3⟩, hmod3⟩
        have Hs3 := Lib.hid hs3; have Hnx3 := Lib.hid hnx3; have Hmod3 := Lib.hid hmod3
        clear hs3 hnx3 hmod3
        go_wp2_with fail
        go_roundg (unset (upd g (vr x) (sgn x)) * 200000 + l.length)
        case measure => have := Hcnt.out; omega
        case rel =>
          refine ⟨0, _, ext ++ [x], v2, rfl, Nat.zero_le _, rfl, ?_, Hnx.out.trans Hnx3.out Hmod.out.size, Hmod.out.trans Hmod3.out Hnx.out, ?_, Hj3.out, by simp⟩
          · rw [← List.append_assoc]; exact Hs3.out
          · rw [← List.append_assoc]; exact Ht3.out
      · have hok : ok = true := by simpa using (show (!ok) = false by assumption)
        have hx0 : x = 0 := by simpa using (show (x != 0) = false by assumption)
        have hstk := Hsay.out.2.2 hok hx0
        have Hstk := Lib.hid hstk; clear hstk
        go_roundg (unset g * 200000 + (l.length - (k + 1)))
        case measure => omega
        case rel => exact ⟨k + 1, g, ext, v', by go_num, by omega, rfl, Hs2.out, Hnx.out, Hmod.out, Ht2.out, Hj.out, fun y hy => ((mem_take_succ hlt).1 hy).elim (Hst.out y) (fun e => by rw [e, Hdd.out]; exact Hstk.out)⟩
    · obtain rfl : k = l.length := by omega
      go_wp2
      go_ret
      refine ⟨-1, g, ext, v', rfl, Hs2.out, Hnx.out, Hmod.out, Ht2.out, Hj.out, .inl ⟨rfl, ?_⟩⟩
      have := Hst.out
      rw [List.take_length] at this
      exact this
end Go.Proofs.YtheemhelioendaaGreatDoor
