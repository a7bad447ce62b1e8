/- Contract: plain.Families. (Printed by gen_famf.py.) -/
import Derived.Test.YtmlnfbageoabnaaFamO
import Derived.Test.YtmlnfbageoabnaaStp
import Derived.Deep.CutRange
import Derived.Deep.CutBlock
import Derived.BigQuiet
import Derived.Deep.RegionHeld3
namespace Go.Proofs.Ytmlnfbageoabnaa
open Go.RowKit
set_option linter.unusedVariables false

/-- What one step leaves. -/
structure SZ (V : Nat) (c c' : Cells) (x : Int) : Prop where
  zok : ZOk V c'
  ext : Ext c c'
  has : hasM c' x = true
  cnt : lows ((V : Int) - 3) c' ≤ lows ((V : Int) - 3) c + 42
def SPost (s : Fb) (V : Nat) (c : Cells) (w : World) (e : Ending) (w' : World) : Prop :=
  ∃ c' x, e = .returned (.tuple #[.int .i64 x, .nilIface]) ∧ IsStore w' s V c' ∧ Only s.b.mem w w' ∧ SZ V c c' x
section
variable {V : Nat} {c c' : Cells} {a b x : Int} {k : Kd} {s : Fb} {w w' : World} {e : Ending}
theorem WOk.sz (hV : V ≤ 6) (o : ZOk V c) (h : WOk V ((V : Int) - 3) k c c' a b x) : SZ V c c' x := by
  have h1 := h.cnt
  have h2 := topM_le o.ok a; have h3 := topM_le o.ok b
  have h4 := k.cost_le (a := ((V : Int) - 3 - min (topM c a) (topM c b)).toNat) (by omega)
  exact ⟨h.zok, h.ext, h.has, by omega⟩
theorem LOk.sz (hV : V ≤ 6) (o : ZOk V c) (h : LOk V ((V : Int) - 3) c c' a x) : SZ V c c' x := by
  have h1 := h.cnt
  have h2 := topM_le o.ok a
  have h4 := costL_le (a := ((V : Int) - 3 - topM c a).toNat) (by omega)
  exact ⟨h.zok, h.ext, h.has, by omega⟩
theorem OneOk.sz (hV : V ≤ 6) {y : Int} (h : OneOk V ((V : Int) - 3) c c' 0 y x) : SZ V c c' x := by
  have h1 := h.cnt
  exact ⟨h.zok, h.ext, h.has, by omega⟩
theorem hiB_V (V : Nat) : hiB (V : Int) ((V : Int) - 3) = 256 := by unfold hiB; rw [if_neg (by omega)]
theorem room_k (hV : V ≤ 6) (o : ZOk V c) (k : Kd) (hr : lows ((V : Int) - 3) c + 42 + 256 < c.length) (a b : Int) : lows ((V : Int) - 3) c + k.cost ((V : Int) - 3 - min (topM c a) (topM c b)).toNat + hiB (V : Int) ((V : Int) - 3) < c.length := by
  rw [hiB_V]
  have h2 := topM_le o.ok a; have h3 := topM_le o.ok b
  have h4 := k.cost_le (a := ((V : Int) - 3 - min (topM c a) (topM c b)).toNat) (by omega)
  omega
theorem room_l (hV : V ≤ 6) (o : ZOk V c) (hr : lows ((V : Int) - 3) c + 42 + 256 < c.length) (a : Int) : lows ((V : Int) - 3) c + costL ((V : Int) - 3 - topM c a).toNat + hiB (V : Int) ((V : Int) - 3) < c.length := by
  rw [hiB_V]
  have h2 := topM_le o.ok a
  have h4 := costL_le (a := ((V : Int) - 3 - topM c a).toNat) (by omega)
  omega
theorem FPost.sz (hV : V ≤ 6) (o : ZOk V c) (h : FPost V ((V : Int) - 3) k s c a b w e w') : SPost s V c w e w' := by
  obtain ⟨c1, y, h1, h2, h3, h4⟩ := h; exact ⟨c1, y, h1, h2, h3, h4.sz hV o⟩
theorem LPost.sz (hV : V ≤ 6) (o : ZOk V c) (h : LPost V ((V : Int) - 3) s c a w e w') : SPost s V c w e w' := by
  obtain ⟨c1, y, h1, h2, h3, h4⟩ := h; exact ⟨c1, y, h1, h2, h3, h4.sz hV o⟩
theorem OnePost.sz (hV : V ≤ 6) {y : Int} (h : OnePost V ((V : Int) - 3) s c y w e w') : SPost s V c w e w' := by
  obtain ⟨c1, y, h1, h2, h3, h4⟩ := h; exact ⟨c1, y, h1, h2, h3, h4.sz hV⟩
end

/-- A word under a mask. -/
theorem and_mask (A : Int) {V : Nat} (hV : V ≤ 6) : bits .and .u64 A (IntKind.u64.wrap (IntKind.u64.wrap (2 ^ V) - 1)) / 2 ^ (V : Int).toNat = 0 := by
  have key : ∀ (m : Nat), m < 64 → bits .and .u64 A (m : Int) / ((m + 1 : Nat) : Int) = 0 := fun m hm => by
    have h2 : (BitVec.ofInt 64 (m : Int)).toNat = m := by
      rw [BitVec.ofInt_natCast, BitVec.toNat_ofNat]; exact Nat.mod_eq_of_lt (by omega)
    have h3 : bits .and .u64 A (m : Int) = IntKind.u64.wrap ((BitVec.ofInt 64 A &&& BitVec.ofInt 64 (m : Int)).toNat : Int) := rfl
    have h4 : (BitVec.ofInt 64 A &&& BitVec.ofInt 64 (m : Int)).toNat ≤ m := by
      rw [BitVec.toNat_and, h2]; exact Nat.and_le_right
    rw [h3]
    generalize (BitVec.ofInt 64 A &&& BitVec.ofInt 64 (m : Int)).toNat = k at h4
    have h5 : IntKind.u64.wrap (k : Int) = (k : Int) := by rw [IntKind.wrap_u64]; omega
    rw [h5]
    exact Int.ediv_eq_zero_of_lt (by omega) (by omega)
  have hc : V = 0 ∨ V = 1 ∨ V = 2 ∨ V = 3 ∨ V = 4 ∨ V = 5 ∨ V = 6 := by omega
  rcases hc with rfl | rfl | rfl | rfl | rfl | rfl | rfl
  · exact key 0 (by decide)
  · exact key 1 (by decide)
  · exact key 3 (by decide)
  · exact key 7 (by decide)
  · exact key 15 (by decide)
  · exact key 31 (by decide)
  · exact key 63 (by decide)
/-- plain.Families on its way. -/
structure ZSt (w wr : World) (s : Fb) (V : Nat) (c : Cells) (va : Value) (out : List Int) : Prop where
  sp : IsStore wr s V c
  only : Only s.b.mem w wr
  own : wr.ownsRow w.heap.size 3 1 va out.length (out.map (Value.int .i64))
  off : ∀ k, s.b.mem k → k < w.heap.size
section
variable {w wr w2 : World} {s : Fb} {V : Nat} {c c' : Cells} {va : Value} {out : List Int}
theorem ZSt.grow (h : ZSt w wr s V c va out) (hb : Below wr.heap.size wr w2) : ZSt w w2 s V c va out :=
  ⟨h.sp.below hb, h.only.trans (Only.of_below hb rfl), ownsRow_below h.own hb, h.off⟩
theorem ZSt.step (h : ZSt w wr s V c va out) (ho : Only s.b.mem wr w2) (hs : IsStore w2 s V c') : ZSt w w2 s V c' va out :=
  ⟨hs, h.only.trans ho, ownsRow_only h.own ho h.off, h.off⟩
theorem ZSt.push (h : ZSt w wr s V c va out) {x : Int} {v' : Value} (hlt : s.ps < w.heap.size) (ho : w2.ownsRow w.heap.size 3 1 v' (out.length + 1) (out.map (Value.int .i64) ++ [.int .i64 x])) (hg : (wr.alloc (.cells #[.int .i64 x] 3)).grownBy w2 va.ownBlock) : ZSt w w2 s V c v' (out ++ [x]) := by
  have h1 := h.grow (w2 := wr.alloc (.cells #[.int .i64 x] 3)) ((Below.refl _ _).alloc (Nat.le_refl _) _)
  have hv : ∀ k, va.ownBlock = some k → w.heap.size ≤ k := fun k hk => (h.own.lt k hk).1
  have hsz := h.only.size
  have hb : Below w.heap.size (wr.alloc (.cells #[.int .i64 x] 3)) w2 := (Below.refl _ _).grown hg (by simp; omega) hv
  have hon : Only (fun k => w.heap.size ≤ k) (wr.alloc (.cells #[.int .i64 x] 3)) w2 := ⟨hb.os, hb.tape, hb.output, hb.size, fun k hk hn => hb.block k (by omega)⟩
  refine ⟨h1.sp.only hon (by omega) (fun k hk => by have := h.off k hk; omega), ?_, by simpa using ho, h.off⟩
  exact ⟨hb.os.trans h1.only.os, hb.tape.trans h1.only.tape, hb.output.trans h1.only.output, Nat.le_trans h1.only.size hb.size, fun k hk hn => (hb.block k hk).trans (h1.only.block k hk hn)⟩
end
/-- A store and the handles that are kept. -/
structure ZFOk (V : Nat) (c : Cells) (out : List Int) : Prop where
  zok : ZOk V c
  has : ∀ h ∈ out, hasM c h = true
  ne : 0 < out.length
theorem ZFOk.at_ {V : Nat} {c : Cells} {out : List Int} (h : ZFOk V c out) (a : Int) : hasM c (outAt out a) = true := by
  have hl := pickN_lt a h.ne
  refine h.has _ ?_
  unfold outAt
  rw [List.getD_eq_getElem?_getD, List.getElem?_eq_getElem hl]
  exact List.getElem_mem hl
theorem ZFOk.free {V : Nat} {c : Cells} {keep : List Int} (zo : ZOk V c) (hk : ∀ h ∈ keep, hasM c h = true) (hn : 0 < keep.length) : ZFOk V (sweepM c keep) keep :=
  ⟨zo.sweep keep, fun h hm => sweepM_has (hk h hm) (fun k e => by subst e; exact rchC_of_mem (hk _ hm) hm), hn⟩
theorem ZFOk.next {V : Nat} {c c' : Cells} {out : List Int} {x : Int} (f : ZFOk V c out) (h : SZ V c c' x) : ZFOk V (sweepM c' (out ++ [x])) (out ++ [x]) := by
  refine ZFOk.free h.zok (fun y hy => ?_) (by simp)
  rcases List.mem_append.1 hy with hy | hy
  · exact h.ext.has (f.has y hy)
  · rw [List.mem_singleton.1 hy]; exact h.has

set_option maxRecDepth 100000 in
set_option maxHeartbeats 8000000 in
theorem Families_any (V : Nat) (hV : V ≤ 6) (vl : Value) (l : List Stp) (w : World) (s : Fb) (c0 : Cells) (hs : IsStore w s V c0) (f : ZFOk V c0 [0, 1]) (hst : ∀ w', Only s.b.mem w w' → IsSteps w' vl l) (hl : l.length ≤ 20) (hr : lows ((V : Int) - 3) c0 + 42 * l.length + 256 < c0.length) :
    Calls Try.prog 83 #[.pointer (some ⟨s.ps, 0, none⟩), .int .i64 V, vl] w fun e w' => ∃ va c out, e = .returned va ∧ ZSt w w' s V c va out ∧ ZFOk V c out ∧ out.length = l.length + 2 ∧ c.length = c0.length ∧ lows ((V : Int) - 3) c ≤ lows ((V : Int) - 3) c0 + 42 * l.length := by
  obtain ⟨al, cl, rfl, hl1, hl2⟩ := (hst w (Only.refl _ _)).shape
  obtain ⟨i0, hi, hz0, hz1, hz2⟩ := info_parts infoInt
  have hlps := hs.lps
  have hfst : ZSt w (w.alloc (.cells #[.int .i64 0, .int .i64 1] 3)) s V c0 (.slice (some ⟨w.heap.size, 0, none⟩) 2 2) [0, 1] := by
    have hb : Below w.heap.size w (w.alloc (.cells #[.int .i64 0, .int .i64 1] 3)) := (Below.refl _ _).alloc (Nat.le_refl _) _
    refine ⟨hs.below hb, Only.of_below hb rfl, ?_, fun k hk => hs.lt hk⟩
    have := World.ownsRow_lit (base := w.heap.size) (e := 3) (size := 1) w #[.int .i64 0, .int .i64 1] 2 (by simp) (by decide) rfl
    simpa using this
  have Hfst := Lib.hid hfst; have Hf := Lib.hid f; have Hst := Lib.hid hst; have Hr := Lib.hid hr; have Hlps := Lib.hid hlps
  clear hs hfst f hst hr hlps
  go_enter Try.func83, Try.ntmps83
  go_wp2_with fail
  go_loopg [7, 18] l.length (fun gk va i wr => ∃ (k : Nat) (c : Cells) (out : List Int), k ≤ l.length ∧ gk = l.length - k ∧ i = .int .i64 k ∧ ZSt w wr s V c va out ∧ ZFOk V c out ∧ out.length = k + 2 ∧ c.length = c0.length ∧ lows ((V : Int) - 3) c ≤ lows ((V : Int) - 3) c0 + 42 * k)
  case atStart => exact ⟨0, c0, [0, 1], Nat.zero_le _, rfl, rfl, Hfst.out, Hf.out, rfl, rfl, Nat.le_refl _⟩
  case round =>
    clear Hfst Hf
    obtain ⟨k, c, out, hk, rfl, rfl, hfs, hfo, hlen, hcl, hlow⟩ := hrel
    obtain ⟨g, cap, rfl, hrow⟩ := owns_at hfs.own (by omega)
    by_cases hlt : k < l.length
    · obtain ⟨bl, ol, rfl, lbl⟩ := (Hst.out _ hfs.only).addr hlt
      obtain ⟨x, hx⟩ : ∃ x, x = l[k] := ⟨_, rfl⟩
      obtain ⟨c0', c1, c2, c3⟩ := (Hst.out _ hfs.only).get hlt hx
      have hroom : lows ((V : Int) - 3) c + 42 + 256 < c.length := by have := Hr.out; omega
      obtain ⟨x0, x1, x2, x3⟩ := x
      dsimp only at c0' c1 c2 c3
      have Hfs := Lib.hid hfs; have Hfo := Lib.hid hfo; have Hroom := Lib.hid hroom; have Hlt := Lib.hid hlt; have Hlow := Lib.hid hlow; have Hcl := Lib.hid hcl
      have hbx : FBx w (wr.alloc (.cells #[.int .i64 x0, .int .i64 x1, .int .i64 x2, .int .i64 x3] 98)) wr.heap.size (x0, x1, x2, x3) := ⟨hfs.only.size, by simp, by simp, by simp, by simp, by simp⟩
      have hfs1 := hfs.grow (w2 := wr.alloc (.cells #[.int .i64 x0, .int .i64 x1, .int .i64 x2, .int .i64 x3] 98)) ((Below.refl _ _).alloc (Nat.le_refl _) _)
      obtain ⟨bx, hbxe⟩ : ∃ b, b = wr.heap.size := ⟨_, rfl⟩
      have hno : out.length ≤ 1000000 := by omega
      have hn0 := hfo.ne
      have l1 := pickN_lt x1 hn0
      have l2 := pickN_lt x2 hn0
      have r1 := hrow _ l1
      rw [show out[pickN x1 out.length] = outAt out x1 by unfold outAt; rw [List.getD_eq_getElem?_getD, List.getElem?_eq_getElem l1]; rfl] at r1
      have r2 := hrow _ l2
      rw [show out[pickN x2 out.length] = outAt out x2 by unfold outAt; rw [List.getD_eq_getElem?_getD, List.getElem?_eq_getElem l2]; rfl] at r2
      obtain ⟨va, hva⟩ : ∃ v, v = outAt out x1 := ⟨_, rfl⟩
      obtain ⟨vb, hvb⟩ : ∃ v, v = outAt out x2 := ⟨_, rfl⟩
      have ha := hfo.at_ x1; have hb := hfo.at_ x2
      rw [← hva] at r1 ha
      rw [← hvb] at r2 hb
      have g0 := pickN_lt x0 (show 0 < 7 by omega)
      have p0 := fun w' => (At_any x0 7 w' (by omega) (by omega)).mono fun e w'' h => And.intro h.1 h.2.symm
      have p1 := fun w' => (At_any x1 out.length w' hn0 hno).mono fun e w'' h => And.intro h.1 h.2.symm
      have p2 := fun w' => (At_any x2 out.length w' hn0 hno).mono fun e w'' h => And.intro h.1 h.2.symm
      obtain ⟨kk, hkk⟩ : ∃ u, u = pickN x0 7 := ⟨_, rfl⟩
      rw [← hkk] at g0 p0
      have Hlen := Lib.hid hlen; have Ha := Lib.hid ha; have Hb := Lib.hid hb; have G0 := Lib.hid g0; have Hz := Lib.hid hfo.zok; have Hbx := Lib.hid hbx; have Hfs1 := Lib.hid hfs1; have L1 := Lib.hid l1; have L2 := Lib.hid l2; have R1 := Lib.hid r1; have R2 := Lib.hid r2
      have P0 := Lib.hid p0; have P1 := Lib.hid p1; have P2 := Lib.hid p2
      clear hva hvb ha hb g0 hkk hfs hfo hroom hrow hx hlen hbx hfs1 hno hn0 l1 l2 r1 r2 p0 p1 p2 hlow hcl
      go_upto_region 6 with fail
      have hbx := Hbx.out; have hfs1 := Hfs1.out
      have hal : ∀ j v, wr.cell? ⟨g, j, none⟩ = some v → (wr.alloc (.cells #[.int .i64 x0, .int .i64 x1, .int .i64 x2, .int .i64 x3] 98)).cell? ⟨g, j, none⟩ = some v := fun j v h => by rw [World.cell?_alloc_past _ _ _ (World.block_lt_of_cell? _ _ h)]; exact h
      have r1 := hal _ _ R1.out
      have r2 := hal _ _ R2.out
      rw [← hbxe] at hbx ⊢
      clear Hbx Hfs1 R1 R2 hal hbxe c0' c1 c2 c3
      generalize wr.alloc (.cells #[.int .i64 x0, .int .i64 x1, .int .i64 x2, .int .i64 x3] 98) = w1 at hbx hfs1 r1 r2 ⊢
      have b0 := hbx.b0; have b1 := hbx.b1; have b2 := hbx.b2
      dsimp only at b0 b1 b2
      have Hbx := Lib.hid hbx; have Hfs1 := Lib.hid hfs1; clear hbx hfs1
      have l1 : ((pickN x1 out.length : Nat) : Int) < out.length := by exact_mod_cast L1.out
      have l2 : ((pickN x2 out.length : Nat) : Int) < out.length := by exact_mod_cast L2.out
      generalize pickN x1 out.length = q1 at r1 l1 L1 P1 ⊢
      generalize pickN x2 out.length = q2 at r2 l2 L2 P2 ⊢
      go_quiet (first
        | (go_at_call_of 74 (Value.int IntKind.i64 x1); exact Calls.quiet_of_same (P1.out _))
        | (go_at_call_of 74 (Value.int IntKind.i64 x2); exact Calls.quiet_of_same (P2.out _)))
      have hfs2 := Hfs1.out.grow (below_drewN (Below.refl _ _) nq)
      have hbx2 := Hbx.out.only (S := fun _ => False) ((Only.refl _ _).drewN nq) (fun k h => h.elim)
      clear Hbx Hfs1 r1 r2 b0 b1 b2 l1 l2 L1 L2 P1 P2
      generalize w1.drewN nq = w2 at hfs2 hbx2 ⊢
      clear w1 nq
      have b0 := hbx2.b0; have b1 := hbx2.b1
      dsimp only at b0 b1
      have Hbx := Lib.hid hbx2; have Hfs := Lib.hid hfs2; clear hbx2 hfs2
      go_upto_block 2 with fail
      refine (P0.out _).mono ?_
      rintro e w4 ⟨rfl, rfl⟩
      go_upto_block 2 with fail
      go_cut [13, 14, 18] from 18 to 115 (fun hh ee ii wx => ii = .int .i64 k ∧ ∃ c' x, hh = .int .i64 x ∧ ee = .nilIface ∧ IsStore wx s V c' ∧ Only s.b.mem w4 wx ∧ SZ V c c' x)
      case first =>
        have G0' := G0.out
        clear P0
        obtain ⟨kz, hkz⟩ : ∃ z : Int, z = (kk : Int) := ⟨_, rfl⟩
        rw [← hkz]
        have hk9 : kk = 0 ∨ kk = 1 ∨ kk = 2 ∨ kk = 3 ∨ kk = 4 ∨ kk = 5 ∨ kk = 6 := by omega
        clear G0'
        have hone := fun (y : Int) (w' : World) (h : IsStore w' s V c) (hy : y / 2 ^ (V : Int).toNat = 0) => (One_any (L := (V : Int) - 3) (by omega) (by omega) (by omega) y w' c h Hz.out hy (by have := Hroom.out; rw [hiB_V]; omega)).mono fun e w'' h => h.sz hV
        have Hone := Lib.hid hone; clear hone
        rcases hk9 with rfl | rfl | rfl | rfl | rfl | rfl | rfl
        · obtain rfl : kz = 0 := hkz
          have hsd := (Hfs.out.grow (Below.refl _ _).drew).sp
          have Hsd := Lib.hid hsd; clear hsd
          go_upto_region 11 with fail
          go_region_held3 (fun w' => w'.cell? ⟨bx, 1, none⟩ = some (.int .i64 x1))
            (first | exact b1 | exact h91 | go_keep)
            (first | (go_at_call 84; refine (Hone.out _ _ Hsd.out (and_mask _ hV)).mono ?_; rintro e w9 ⟨c9, y9, rfl, hs9, ho9, hz9⟩; have h91 := (Hbx.out.only (ho9.drew0) Hfs.out.off).b1; dsimp only at h91))
          all_goals (go_wp2_with fail; go_meet)
          all_goals exact ⟨rfl, _, _, rfl, rfl, by assumption, Only.drew0 (by assumption), by assumption⟩
        · obtain rfl : kz = 1 := hkz
          have q := (FOr_any (V := V) (L := (V : Int) - 3) (by omega) (by omega) va vb w4 c Hfs.out.sp Hz.out Ha.out Hb.out (room_k hV Hz.out _ Hroom.out va vb)).mono fun e w'' h => h.sz hV Hz.out
          have Q := Lib.hid q; clear q
          go_wp2_with fail
          refine Q.out.mono ?_
          rintro e w5 ⟨c5, y5, rfl, hs5, ho5, hz5⟩
          have Hs5 := Lib.hid hs5; have Ho5 := Lib.hid ho5; have Hz5 := Lib.hid hz5; clear hs5 ho5 hz5
          go_wp2_with fail
          go_meet
          exact ⟨rfl, c5, y5, rfl, rfl, Hs5.out, Ho5.out, Hz5.out⟩
        · obtain rfl : kz = 2 := hkz
          have q := (FAnd_any (V := V) (L := (V : Int) - 3) (by omega) (by omega) va vb w4 c Hfs.out.sp Hz.out Ha.out Hb.out (room_k hV Hz.out _ Hroom.out va vb)).mono fun e w'' h => h.sz hV Hz.out
          have Q := Lib.hid q; clear q
          go_wp2_with fail
          refine Q.out.mono ?_
          rintro e w5 ⟨c5, y5, rfl, hs5, ho5, hz5⟩
          have Hs5 := Lib.hid hs5; have Ho5 := Lib.hid ho5; have Hz5 := Lib.hid hz5; clear hs5 ho5 hz5
          go_wp2_with fail
          go_meet
          exact ⟨rfl, c5, y5, rfl, rfl, Hs5.out, Ho5.out, Hz5.out⟩
        · obtain rfl : kz = 3 := hkz
          have q := (FLess_any (V := V) (L := (V : Int) - 3) (by omega) (by omega) va vb w4 c Hfs.out.sp Hz.out Ha.out Hb.out (room_k hV Hz.out _ Hroom.out va vb)).mono fun e w'' h => h.sz hV Hz.out
          have Q := Lib.hid q; clear q
          go_wp2_with fail
          refine Q.out.mono ?_
          rintro e w5 ⟨c5, y5, rfl, hs5, ho5, hz5⟩
          have Hs5 := Lib.hid hs5; have Ho5 := Lib.hid ho5; have Hz5 := Lib.hid hz5; clear hs5 ho5 hz5
          go_wp2_with fail
          go_meet
          exact ⟨rfl, c5, y5, rfl, rfl, Hs5.out, Ho5.out, Hz5.out⟩
        · obtain rfl : kz = 4 := hkz
          have q := (FJoin_any (V := V) (L := (V : Int) - 3) (by omega) (by omega) va vb w4 c Hfs.out.sp Hz.out Ha.out Hb.out (room_k hV Hz.out _ Hroom.out va vb)).mono fun e w'' h => h.sz hV Hz.out
          have Q := Lib.hid q; clear q
          go_wp2_with fail
          refine Q.out.mono ?_
          rintro e w5 ⟨c5, y5, rfl, hs5, ho5, hz5⟩
          have Hs5 := Lib.hid hs5; have Ho5 := Lib.hid ho5; have Hz5 := Lib.hid hz5; clear hs5 ho5 hz5
          go_wp2_with fail
          go_meet
          exact ⟨rfl, c5, y5, rfl, rfl, Hs5.out, Ho5.out, Hz5.out⟩
        · obtain rfl : kz = 5 := hkz
          have q := (FWithout_any (V := V) (L := (V : Int) - 3) (by omega) (by omega) va vb w4 c Hfs.out.sp Hz.out Ha.out Hb.out (room_k hV Hz.out _ Hroom.out va vb)).mono fun e w'' h => h.sz hV Hz.out
          have Q := Lib.hid q; clear q
          go_wp2_with fail
          refine Q.out.mono ?_
          rintro e w5 ⟨c5, y5, rfl, hs5, ho5, hz5⟩
          have Hs5 := Lib.hid hs5; have Ho5 := Lib.hid ho5; have Hz5 := Lib.hid hz5; clear hs5 ho5 hz5
          go_wp2_with fail
          go_meet
          exact ⟨rfl, c5, y5, rfl, rfl, Hs5.out, Ho5.out, Hz5.out⟩
        · obtain rfl : kz = 6 := hkz
          have q := (Least_any (V := V) (L := (V : Int) - 3) (by omega) (by omega) va w4 c Hfs.out.sp Hz.out Ha.out (room_l hV Hz.out Hroom.out va)).mono fun e w'' h => h.sz hV Hz.out
          have Q := Lib.hid q; clear q
          go_wp2_with fail
          refine Q.out.mono ?_
          rintro e w5 ⟨c5, y5, rfl, hs5, ho5, hz5⟩
          have Hs5 := Lib.hid hs5; have Ho5 := Lib.hid ho5; have Hz5 := Lib.hid hz5; clear hs5 ho5 hz5
          go_wp2_with fail
          go_meet
          exact ⟨rfl, c5, y5, rfl, rfl, Hs5.out, Ho5.out, Hz5.out⟩
      case rest =>
        obtain ⟨rfl, c5, y5, rfl, rfl, hsc, hoc, hz5⟩ := hcut
        have hfc := Hfs.out.step hoc hsc
        have hown := hfc.own.alloc (.cells #[.int .i64 y5] 3)
        have hsz := hfc.only.size
        have Hfc := Lib.hid hfc; have Hown := Lib.hid hown; have Hz5 := Lib.hid hz5
        have hlen5 : out.length ≤ 27 := by rw [Hlen.out]; omega
        clear hfc hown hsc hoc hz5 Hfs Hbx b0 b1
        go_wp2_with (at_builtin; refine wpList_append_own _ rfl (.tmp 108) (.tmp 110) 22 rfl w.heap.size 3 i0 (.int .i64 0) 1 8 Try.underlying22 hi hz0 hz1 hz2 rfl (by decide) _ _ _ rfl Hown.out ⟨wc.heap.size, 0, none⟩ 1 1 [.int .i64 y5] rfl rfl (cell_one_new _ _ _) (ints_oneCell _ [y5]) (by simp only [maxLen]; omega) (by omega) (by simp; omega) ?_; intro v' w7 hown7 hgrow7 _; have Hf7 := Lib.hid (Hfc.out.push Hlps.out hown7 hgrow7); clear hown7 hgrow7)
        have hk2 : ∀ h ∈ out ++ [y5], hasM c5 h = true := fun y hy => by
          rcases List.mem_append.1 hy with hy | hy
          · exact Hz5.out.ext.has (Hfo.out.has y hy)
          · rw [List.mem_singleton.1 hy]; exact Hz5.out.has
        have hints : IsInts w7 v' (out ++ [y5]) := ints_of_owns (n := (out ++ [y5]).length) Hf7.out.own (by simp; omega)
        have hfree := FFree_any V v' (out ++ [y5]) w7 s c5 Hf7.out.sp Hz5.out.zok.ok hints (by simp; omega) (fun y hy => Hf7.out.sp.le (hk2 y hy))
        have Hfree := Lib.hid hfree; have Hlen5 := Lib.hid hlen5; clear hk2 hints hfree hlen5
        go_wp2_with fail
        refine Hfree.out.mono ?_
        rintro e w8 ⟨⟨zf, rfl⟩, hs8, ho8⟩
        have Hf8 := Lib.hid (Hf7.out.step ho8 hs8); clear hs8 ho8
        have hkl : (k : Int) + 1 ≤ 25 := by omega
        go_wp2_with fail
        go_roundg (l.length - (k + 1))
        case measure => omega
        case rel => exact ⟨k + 1, _, _, by omega, rfl, by go_num, Hf8.out, Hfo.out.next Hz5.out, by simp [Hlen.out], by rw [sweepM_len, Hz5.out.ext.len, Hcl.out], by have h1 := lows_sweep ((V : Int) - 3) c5 (out ++ [y5]); have h2 := Hz5.out.cnt; have h3 := Hlow.out; omega⟩
    · obtain rfl : k = l.length := by omega
      have Hfs := Lib.hid hfs; have Hfo := Lib.hid hfo; have Hlen := Lib.hid hlen; have Hcl := Lib.hid hcl; have Hlow := Lib.hid hlow; clear hfs hfo hlen hcl hlow
      go_wp2_with fail
      go_ret
      exact ⟨_, c, out, rfl, Hfs.out, Hfo.out, Hlen.out, Hcl.out, Hlow.out⟩
end Go.Proofs.Ytmlnfbageoabnaa
