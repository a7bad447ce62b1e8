/- Contracts: (*family.Store).One, Free. -/
import Derived.Test.YtmlnfbageoabnaaFamL
import Derived.Test.YtmlnfbageoabnaaStp
namespace Go.Proofs.Ytmlnfbageoabnaa
open Go.RowKit
set_option linter.unusedVariables false

/-- The set of a word's bits, of the things from k up to V. -/
def bitsFrom (V k x : Int) : St := fun u => decide (k ≤ u) && decide (u < V) && bitAt x u
theorem bitsFrom_at (V k x u : Int) (h1 : k ≤ u) (h2 : u < V) : bitsFrom V k x u = bitAt x u := by unfold bitsFrom; rw [decide_eq_true h1, decide_eq_true h2]; simp
theorem bitsFrom_below (V k x u : Int) (h1 : u < k) : bitsFrom V k x u = false := by unfold bitsFrom; rw [decide_eq_false (by omega)]; simp
theorem bitsFrom_end (V x : Int) (s : St) : s = bitsFrom V V x ↔ ∀ u, s u = false := by
  have : ∀ u, bitsFrom V V x u = false := fun u => by
    unfold bitsFrom
    by_cases h : V ≤ u
    · rw [decide_eq_false (show ¬ u < V by omega)]; simp
    · rw [decide_eq_false h]; simp
  constructor
  · rintro rfl; exact this
  · intro h; funext u; rw [h, this]
theorem bitsFrom_yes {V k x : Int} (hk : k < V) (hb : bitAt x k = true) (s : St) : mixF k (fun _ => False) (fun s => s = bitsFrom V (k + 1) x) s ↔ s = bitsFrom V k x := by
  have h0 : bitsFrom V (k + 1) x = setV (bitsFrom V k x) k false := by
    funext u; unfold setV; split
    · rename_i e; subst e; exact bitsFrom_below _ _ _ _ (by omega)
    · unfold bitsFrom
      have : decide (k + 1 ≤ u) = decide (k ≤ u) := by by_cases h : k + 1 ≤ u <;> simp <;> omega
      rw [this]
  have h1 : bitsFrom V k x k = true := by rw [bitsFrom_at _ _ _ _ (Int.le_refl _) hk]; exact hb
  unfold mixF
  split
  · rename_i h
    constructor
    · intro e
      rw [h0] at e
      have := congrArg (fun y => setV y k true) e
      simpa only [setV_set, setV_back h, setV_back h1] using this
    · rintro rfl; exact h0.symm
  · rename_i h
    refine ⟨fun e => e.elim, fun e => h ?_⟩
    rw [e]; exact h1
theorem bitsFrom_no {V k x : Int} (hb : bitAt x k = false) : bitsFrom V k x = bitsFrom V (k + 1) x := by
  funext u; unfold bitsFrom
  by_cases e : u = k
  · subst e; rw [hb]; simp
  · have : decide (k + 1 ≤ u) = decide (k ≤ u) := by by_cases h : k + 1 ≤ u <;> simp <;> omega
    rw [this]

structure OneOk (V L : Int) (c c' : Cells) (k x h : Int) : Prop where
  zok : ZOk V c'
  ext : Ext c c'
  has : hasM c' h = true
  z : ∀ s, Z c' h s ↔ s = bitsFrom V k x
  top : k ≤ topM c' h
  cnt : lows L c' ≤ lows L c + (L - k).toNat
theorem oneok_start {V L : Int} (hV : V ≤ 24) {c : Cells} (o : ZOk V c) (x : Int) : OneOk V L c c V x 1 :=
  ⟨o, Ext.refl _, hasM_one _, fun s => (Z_one c s).trans (bitsFrom_end V x s).symm, by rw [top_end (getM_end c (.inr rfl))]; exact hV, Nat.le_add_right _ _⟩
theorem oneok_no {V L : Int} {c c' : Cells} {k x h : Int} (o : OneOk V L c c' (k + 1) x h) (hb : bitAt x k = false) : OneOk V L c c' k x h :=
  ⟨o.zok, o.ext, o.has, fun s => by rw [bitsFrom_no hb]; exact o.z s, by have := o.top; omega, by have := o.cnt; omega⟩
theorem oneok_yes {V L : Int} {c c' : Cells} {k x h : Int} {r : Cells × Int × Nat} (o : OneOk V L c c' (k + 1) x h) (hb : bitAt x k = true) (hk : k < V) (n : NodeZ L c' k 0 h r) : OneOk V L c r.1 k x r.2.1 := by
  refine ⟨zok_node o.zok hk n, o.ext.trans n.ext, n.has, fun s => (n.z s).trans ((mixF_congr (fun s => ⟨fun h => absurd h (Z_zero _ _), fun h => h.elim⟩) o.z s).trans (bitsFrom_yes hk hb s)), n.top, ?_⟩
  have h1 := n.cnt; have h2 := o.cnt
  by_cases e : k < L
  · rw [if_pos e] at h1; omega
  · rw [if_neg e] at h1; omega

def OnePost (V L : Int) (s : Fb) (c : Cells) (x : Int) (w : World) (e : Ending) (w' : World) : Prop :=
  ∃ c' h, e = .returned (.tuple #[.int .i64 h, .nilIface]) ∧ IsStore w' s V c' ∧ Only s.b.mem w w' ∧ OneOk V L c c' 0 x h
set_option maxHeartbeats 4000000 in
theorem One_any {V L : Int} (hV0 : 0 ≤ V) (hV : V ≤ 24) (hL : V ≤ L + 3) {s : Fb} (x : Int) (w : World) (c : Cells) (hs : IsStore w s V c) (zo : ZOk V c) (hx : x / 2 ^ V.toNat = 0) (hr : lows L c + L.toNat + hiB V L < c.length) :
    Calls Try.prog 84 #[.pointer (some ⟨s.ps, 0, none⟩), .int .u64 x] w (OnePost V L s c x w) := by
  have c1 := hs.s1
  have hx0 : (x / 2 ^ V.toNat != 0) = false := by rw [hx]; rfl
  have ho := oneok_start (L := L) hV zo x
  have Hs := Lib.hid hs; have Hz := Lib.hid zo; have Hr := Lib.hid hr; have Ho := Lib.hid ho
  clear hs zo hr ho hx
  go_enter Try.func84, Try.ntmps84
  go_wp2_with fail
  clear hx0
  go_loopg [6, 7] V.toNat (fun gk h i wr => ∃ (k y : Int) (c' : Cells), -1 ≤ k ∧ k < V ∧ gk = (k + 1).toNat ∧ h = .int .i64 y ∧ i = .int .i64 k ∧ IsStore wr s V c' ∧ Only s.b.mem w wr ∧ OneOk V L c c' (k + 1) x y)
  case atStart => exact ⟨V - 1, 1, c, by omega, by omega, by rw [Int.sub_add_cancel], rfl, rfl, Hs.out, Only.refl _ _, by rw [Int.sub_add_cancel]; exact Ho.out⟩
  case round =>
    clear c1
    obtain ⟨k, y, c', hk0, hkV, rfl, rfl, rfl, hs, ho, hok⟩ := hrel
    have c1 := hs.s1
    have Hs2 := Lib.hid hs; have Ho2 := Lib.hid ho; have Hok := Lib.hid hok; clear hs ho hok
    by_cases hk : 0 ≤ k
    · by_cases hb : bitAt x k = true
      · have hb2 : (bits .and .u64 (x / 2 ^ min k.toNat 64) 1 == 1) = true := hb
        have hb3 : (bits .and .u64 (x / 2 ^ k.toNat) 1 == 1) = true := by rw [Nat.min_eq_left (by omega)] at hb2; exact hb2
        have tz : topM c' 0 = 24 := top_end (getM_end c' (.inl rfl))
        have hn := nodeZ_spec L Hok.out.zok.ok Hok.out.zok.red hk (by omega) (hasM_zero c') Hok.out.has (by rw [tz]; omega) (by have := Hok.out.top; omega) (by
          have h5 := cnt_lows Hok.out.zok hL; have h6 := Hr.out; have h7 := Hok.out.cnt; have h8 := Hok.out.ext.len; omega)
        have mk := oneok_yes Hok.out hb hkV hn
        have hq := fnode_any k 0 y _ s V c' Hs2.out (by decide) (Hs2.out.le Hok.out.has)
        rw [hn.err] at hq
        simp only [errV, if_true] at hq
        generalize nodeZ c' k 0 y = R at hq mk
        obtain ⟨c4, x4, n4⟩ := R
        dsimp only at hq mk
        have Hq := Lib.hid hq; have Hmk := Lib.hid mk; have Hb := Lib.hid hb
        clear hq mk hn tz hb
        go_wp2_with fail
        refine Hq.out.mono ?_
        rintro e w3 ⟨rfl, hs3, ho3⟩
        have Hs3 := Lib.hid hs3; have Ho3 := Lib.hid ho3; clear hs3 ho3 c1
        go_wp2_with fail
        go_roundg k.toNat
        case measure => omega
        case rel => exact ⟨k - 1, x4, c4, by omega, by omega, by rw [Int.sub_add_cancel], rfl, rfl, Hs3.out, Ho2.out.trans Ho3.out, by rw [Int.sub_add_cancel]; exact Hmk.out⟩
      · have hbf : bitAt x k = false := by simpa using hb
        have hb2 : (bits .and .u64 (x / 2 ^ min k.toNat 64) 1 == 1) = false := hbf
        have hb3 : (bits .and .u64 (x / 2 ^ k.toNat) 1 == 1) = false := by rw [Nat.min_eq_left (by omega)] at hb2; exact hb2
        have Hmk := Lib.hid (oneok_no Hok.out hbf)
        clear hb hbf
        go_wp2_with fail
        go_roundg k.toNat
        case measure => omega
        case rel => exact ⟨k - 1, y, c', by omega, by omega, by rw [Int.sub_add_cancel], rfl, rfl, Hs2.out, Ho2.out, by rw [Int.sub_add_cancel]; exact Hmk.out⟩
    · obtain rfl : k = -1 := by omega
      have Hmk : Hid (OneOk V L c c' 0 x y) := Lib.hid Hok.out
      go_wp2_with fail
      go_ret2
      exact ⟨c', y, rfl, Hs2.out, Ho2.out, Hmk.out⟩

set_option maxHeartbeats 1000000 in
theorem FFree_any (V : Int) (vs : Value) (keep : List Int) (w : World) (s : Fb) (c : Cells) (hs : IsStore w s V c) (o : Ok c) (hv : IsInts w vs keep) (hl : keep.length ≤ 100000) (hm : ∀ x ∈ keep, x ≤ 9223372036854775807) :
    Calls Try.prog 60 #[.pointer (some ⟨s.ps, 0, none⟩), vs] w fun e w' => (∃ z, e = .returned (.int .i64 z)) ∧ IsStore w' s V (sweepM c keep) ∧ Only s.b.mem w w' := by
  have c0 := hs.s0
  have hsw := sweep_any vs keep w s.b c hs.ar o hv hl hm
  obtain ⟨z, hz⟩ : ∃ z : Int, (cnt c : Int) - (reachM c keep).length = z := ⟨_, rfl⟩
  rw [hz] at hsw
  have Hsw := Lib.hid hsw; have Hs := Lib.hid hs; clear hsw hs hz o hv hm
  go_enter Try.func60, Try.ntmps60
  go_wp2_with fail
  refine Hsw.out.mono ?_
  rintro e w1 ⟨rfl, ha1, ho1⟩
  have Ha := Lib.hid ha1; have Ho := Lib.hid ho1; clear ha1 ho1
  go_wp2_with fail
  go_ret
  exact ⟨⟨_, rfl⟩, Hs.out.arena Ho.out Ha.out, Ho.out⟩
end Go.Proofs.Ytmlnfbageoabnaa
