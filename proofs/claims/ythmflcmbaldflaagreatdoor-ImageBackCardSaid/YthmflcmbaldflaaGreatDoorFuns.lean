/- Contract: plain.Functions. -/
import Derived.Test.YthmflcmbaldflaaGreatDoorIpF
import Derived.Test.YthmflcmbaldflaaGreatDoorIpE
import Derived.Test.YthmflcmbaldflaaGreatDoorIpD
import Derived.StillTailTactics
import Derived.Deep.CutRange
import Derived.Deep.CutBlock
import Derived.BigQuiet
import Derived.Deep.RegionHeld3
namespace Go.Proofs.YthmflcmbaldflaaGreatDoor
open Go.RowKit
set_option linter.unusedVariables false

/-- plain.Functions on its way. -/
structure FSt (w wr : World) (s : Sb) (V : Int) (st : Sp) (va : Value) (out : List Int) : Prop where
  sp : IsSpace wr s V st
  only : Only s.mem w wr
  own : wr.ownsRow w.heap.size 3 1 va out.length (out.map (Value.int .i64))
  off : ∀ k, s.mem k → k < w.heap.size
section
variable {w wr w2 : World} {s : Sb} {V : Int} {st st' : Sp} {va : Value} {out : List Int}
theorem FSt.grow (h : FSt w wr s V st va out) (hb : Below wr.heap.size wr w2) : FSt w w2 s V st va out :=
  ⟨h.sp.below hb, h.only.trans (Only.of_below hb rfl), ownsRow_below h.own hb, h.off⟩
theorem FSt.step (h : FSt w wr s V st va out) (ho : Only s.mem wr w2) (hs : IsSpace w2 s V st') : FSt w w2 s V st' va out :=
  ⟨hs, h.only.trans ho, ownsRow_only h.own ho h.off, h.off⟩
theorem FSt.push (h : FSt w wr s V st va out) {x : Int} {v' : Value} (hlt : s.ps < w.heap.size) (ho : w2.ownsRow w.heap.size 3 1 v' (out.length + 1) (out.map (Value.int .i64) ++ [.int .i64 x])) (hg : (wr.alloc (.cells #[.int .i64 x] 3)).grownBy w2 va.ownBlock) : FSt w w2 s V st v' (out ++ [x]) := by
  have h1 := h.grow (w2 := wr.alloc (.cells #[.int .i64 x] 3)) ((Below.refl _ _).alloc (Nat.le_refl _) _)
  have hv : ∀ k, va.ownBlock = some k → w.heap.size ≤ k := fun k hk => (h.own.lt k hk).1
  have hsz := h.only.size
  have hb : Below w.heap.size (wr.alloc (.cells #[.int .i64 x] 3)) w2 := (Below.refl _ _).grown hg (by simp; omega) hv
  have hon : Only (fun k => w.heap.size ≤ k) (wr.alloc (.cells #[.int .i64 x] 3)) w2 := ⟨hb.os, hb.tape, hb.output, hb.size, fun k hk hn => hb.block k (by omega)⟩
  refine ⟨h1.sp.only hon (by omega) (fun k hk => by have := h.off k hk; omega), ?_, by simpa using ho, h.off⟩
  exact ⟨hb.os.trans h1.only.os, hb.tape.trans h1.only.tape, hb.output.trans h1.only.output, Nat.le_trans h1.only.size hb.size, fun k hk hn => (hb.block k hk).trans (h1.only.block k hk hn)⟩
end

/-- There is room at each step. -/
def RoomX (V : Nat) : List Stp → Sp → List Int → Prop
  | [], _, _ => True
  | x :: l, st, out => cnt st.c + 2 * 2 ^ V ≤ st.c.length + 1 ∧ RoomX V l (freeX (stepX V st out x).1 (out ++ [(stepX V st out x).2.1])) (out ++ [(stepX V st out x).2.1])

set_option maxRecDepth 100000 in
set_option maxHeartbeats 8000000 in
theorem Functions_any (V : Nat) (h1 : 1 ≤ V) (hV : V ≤ 6) (vl : Value) (l : List Stp) (w : World) (s : Sb) (st : Sp) (hs : IsSpace w s V st) (f : FOk V st [0, 1]) (hst : ∀ w', Only s.mem w w' → IsSteps w' vl l) (hl : l.length ≤ 25) (hr : RoomX V l st [0, 1]) :
    Calls Tryz.prog 17 #[.pointer (some ⟨s.ps, 0, none⟩), vl] w fun e w' => ∃ va, e = .returned va ∧ FSt w w' s V (funsX V l st [0, 1]).1 va (funsX V l st [0, 1]).2 := by
  obtain ⟨al, cl, rfl, hl1, hl2⟩ := (hst w (Only.refl _ _)).shape
  obtain ⟨i0, hi, hz0, hz1, hz2⟩ := info_parts infoIntA
  obtain ⟨F, hF⟩ : ∃ F, F = funsX V l st [0, 1] := ⟨_, rfl⟩
  rw [← hF]
  have hlps := hs.lps
  have hfst : FSt w (w.alloc (.cells #[.int .i64 0, .int .i64 1] 3)) s V st (.slice (some ⟨w.heap.size, 0, none⟩) 2 2) [0, 1] := by
    have hb : Below w.heap.size w (w.alloc (.cells #[.int .i64 0, .int .i64 1] 3)) := (Below.refl _ _).alloc (Nat.le_refl _) _
    refine ⟨hs.below hb, Only.of_below hb rfl, ?_, fun k hk => hs.lt hk⟩
    have := World.ownsRow_lit (base := w.heap.size) (e := 3) (size := 1) w #[.int .i64 0, .int .i64 1] 2 (by simp) (by decide) rfl
    simpa using this
  have Hfst := Lib.hid hfst; have Hf := Lib.hid f; have Hst := Lib.hid hst; have Hr := Lib.hid hr; have HF := Lib.hid hF; have Hlps := Lib.hid hlps
  clear hs hfst f hst hr hF hlps
  go_enter Tryz.func17, Tryz.ntmps17
  go_wp2_with fail
  go_loopg [5, 18] l.length (fun gk va i wr => ∃ (k : Nat) (st' : Sp) (out : List Int), k ≤ l.length ∧ gk = l.length - k ∧ i = .int .i64 k ∧ FSt w wr s V st' va out ∧ FOk V st' out ∧ out.length = k + 2 ∧ RoomX V (l.drop k) st' out ∧ funsX V (l.drop k) st' out = F)
  case atStart => exact ⟨0, st, [0, 1], Nat.zero_le _, rfl, rfl, Hfst.out, Hf.out, rfl, Hr.out, HF.out.symm⟩
  case round =>
    clear Hfst Hf Hr HF
    obtain ⟨k, st, out, hk, rfl, rfl, hfs, hfo, hlen, hroom, hfun⟩ := hrel
    obtain ⟨g, cap, rfl, hrow⟩ := owns_at hfs.own (by omega)
    by_cases hlt : k < l.length
    · obtain ⟨bl, ol, rfl, lbl⟩ := (Hst.out _ hfs.only).addr hlt
      obtain ⟨x, hx⟩ : ∃ x, x = l[k] := ⟨_, rfl⟩
      obtain ⟨c0, c1, c2, c3⟩ := (Hst.out _ hfs.only).get hlt hx
      have hd : l.drop k = x :: l.drop (k + 1) := by rw [hx]; exact List.drop_eq_getElem_cons hlt
      rw [hd] at hroom hfun
      obtain ⟨hroom1, hroom2⟩ := hroom
      obtain ⟨D, hok⟩ := stepX_ok h1 (by omega) hfo x hroom1
      rw [funsX] at hfun
      obtain ⟨x0, x1, x2, x3⟩ := x
      dsimp only at c0 c1 c2 c3
      obtain ⟨R, hR⟩ : ∃ R, R = stepX V st out (x0, x1, x2, x3) := ⟨_, rfl⟩
      rw [← hR] at hok hfun hroom2
      have Hfs := Lib.hid hfs; have Hfo := Lib.hid hfo; have Hroom1 := Lib.hid hroom1; have Hroom2 := Lib.hid hroom2; have Hok := Lib.hid hok; have Hfun := Lib.hid hfun; have Hlt := Lib.hid hlt
      have hbx : FBx w (wr.alloc (.cells #[.int .i64 x0, .int .i64 x1, .int .i64 x2, .int .i64 x3] 96)) wr.heap.size (x0, x1, x2, x3) := ⟨hfs.only.size, by simp, by simp, by simp, by simp, by simp⟩
      have hfs1 := hfs.grow (w2 := wr.alloc (.cells #[.int .i64 x0, .int .i64 x1, .int .i64 x2, .int .i64 x3] 96)) ((Below.refl _ _).alloc (Nat.le_refl _) _)
      obtain ⟨bx, hbxe⟩ : ∃ b, b = wr.heap.size := ⟨_, rfl⟩
      have hno : out.length ≤ 1000000 := by omega
      have hn0 := hfo.ne
      have l1 := pickN_lt x1 hn0
      have l2 := pickN_lt x2 hn0
      have l3 := pickN_lt x3 hn0
      have r1 := hrow _ l1
      rw [show out[pickN x1 out.length] = outAt out x1 by unfold outAt; rw [List.getD_eq_getElem?_getD, List.getElem?_eq_getElem l1]; rfl] at r1
      have r2 := hrow _ l2
      rw [show out[pickN x2 out.length] = outAt out x2 by unfold outAt; rw [List.getD_eq_getElem?_getD, List.getElem?_eq_getElem l2]; rfl] at r2
      have r3 := hrow _ l3
      rw [show out[pickN x3 out.length] = outAt out x3 by unfold outAt; rw [List.getD_eq_getElem?_getD, List.getElem?_eq_getElem l3]; rfl] at r3
      unfold stepX at hR
      dsimp only at hR
      obtain ⟨va, hva⟩ : ∃ v, v = outAt out x1 := ⟨_, rfl⟩
      obtain ⟨vb, hvb⟩ : ∃ v, v = outAt out x2 := ⟨_, rfl⟩
      obtain ⟨vc, hvc⟩ : ∃ v, v = outAt out x3 := ⟨_, rfl⟩
      have ha := hfo.at_ x1; have hb := hfo.at_ x2; have hc := hfo.at_ x3
      rw [← hva] at hR r1 ha
      rw [← hvb] at hR r2 hb
      rw [← hvc] at hR r3 hc
      have g1 := pickN_lt x1 (show 0 < V by omega)
      have g2 := pickN_lt x2 (show 0 < V by omega)
      have g0 := pickN_lt x0 (show 0 < 9 by omega)
      have p0 := fun w' => (At_any x0 9 w' (by omega) (by omega)).mono fun e w'' h => And.intro h.1 h.2.symm
      have p1 := fun w' => (At_any x1 out.length w' hn0 hno).mono fun e w'' h => And.intro h.1 h.2.symm
      have p2 := fun w' => (At_any x2 out.length w' hn0 hno).mono fun e w'' h => And.intro h.1 h.2.symm
      have p3 := fun w' => (At_any x3 out.length w' hn0 hno).mono fun e w'' h => And.intro h.1 h.2.symm
      have pv1 := fun w' => (At_any x1 V w' (by omega) (by omega)).mono fun e w'' h => And.intro h.1 h.2.symm
      have pv2 := fun w' => (At_any x2 V w' (by omega) (by omega)).mono fun e w'' h => And.intro h.1 h.2.symm
      obtain ⟨ul, hul⟩ : ∃ u, u = pickN x1 V := ⟨_, rfl⟩
      obtain ⟨uv, huv⟩ : ∃ u, u = pickN x2 V := ⟨_, rfl⟩
      obtain ⟨kk, hkk⟩ : ∃ u, u = pickN x0 9 := ⟨_, rfl⟩
      rw [← hul] at hR g1 pv1
      rw [← huv] at hR g2 pv2
      rw [← hkk] at hR g0 p0
      have pV : ∀ w' st', IsSpace w' s V st' → Calls Tryz.prog 10 #[.pointer (some ⟨s.ps, 0, none⟩)] w' fun e w'' => e = .returned (.int .i64 V) ∧ w'' = w' := fun w' st' h => (Vars_any V w' s st' h).mono fun e w'' h => And.intro h.1 h.2.symm
      have Hlen := Lib.hid hlen; have HR := Lib.hid hR; have Ha := Lib.hid ha; have Hb := Lib.hid hb; have Hc := Lib.hid hc; have G0 := Lib.hid g0; have G1 := Lib.hid g1; have G2 := Lib.hid g2; have Hsok := Lib.hid hfo.sok; have Hbx := Lib.hid hbx; have Hfs1 := Lib.hid hfs1; have L1 := Lib.hid l1; have L2 := Lib.hid l2; have L3 := Lib.hid l3; have R1 := Lib.hid r1; have R2 := Lib.hid r2; have R3 := Lib.hid r3
      have P0 := Lib.hid p0; have P1 := Lib.hid p1; have P2 := Lib.hid p2; have P3 := Lib.hid p3; have PV1 := Lib.hid pv1; have PV2 := Lib.hid pv2; have PV := Lib.hid pV
      clear hR hva hvb hvc ha hb hc g0 g1 g2 hul huv hkk hfs hfo hroom1 hroom2 hok hfun hrow hx hd hlen hbx hfs1 hno hn0 l1 l2 l3 r1 r2 r3 p0 p1 p2 p3 pv1 pv2 pV
      go_upto_region 6 with fail
      have hbx := Hbx.out; have hfs1 := Hfs1.out
      have hal : ∀ j v, wr.cell? ⟨g, j, none⟩ = some v → (wr.alloc (.cells #[.int .i64 x0, .int .i64 x1, .int .i64 x2, .int .i64 x3] 96)).cell? ⟨g, j, none⟩ = some v := fun j v h => by rw [World.cell?_alloc_past _ _ _ (World.block_lt_of_cell? _ _ h)]; exact h
      have r1 := hal _ _ R1.out
      have r2 := hal _ _ R2.out
      have r3 := hal _ _ R3.out
      rw [← hbxe] at hbx ⊢
      clear Hbx Hfs1 R1 R2 R3 hal hbxe c0 c1 c2 c3
      generalize wr.alloc (.cells #[.int .i64 x0, .int .i64 x1, .int .i64 x2, .int .i64 x3] 96) = w1 at hbx hfs1 r1 r2 r3 ⊢
      have b0 := hbx.b0; have b1 := hbx.b1; have b2 := hbx.b2; have b3 := hbx.b3
      dsimp only at b0 b1 b2 b3
      have Hbx := Lib.hid hbx; have Hfs1 := Lib.hid hfs1; clear hbx hfs1
      have l1 : ((pickN x1 out.length : Nat) : Int) < out.length := by exact_mod_cast L1.out
      have l2 : ((pickN x2 out.length : Nat) : Int) < out.length := by exact_mod_cast L2.out
      have l3 : ((pickN x3 out.length : Nat) : Int) < out.length := by exact_mod_cast L3.out
      generalize pickN x1 out.length = q1 at r1 l1 L1 P1 ⊢
      generalize pickN x2 out.length = q2 at r2 l2 L2 P2 ⊢
      generalize pickN x3 out.length = q3 at r3 l3 L3 P3 ⊢
      go_quiet (first
        | (go_at_call_of 38 (Value.int IntKind.i64 x1); exact Calls.quiet_of_same (P1.out _))
        | (go_at_call_of 38 (Value.int IntKind.i64 x2); exact Calls.quiet_of_same (P2.out _))
        | (go_at_call_of 38 (Value.int IntKind.i64 x3); exact Calls.quiet_of_same (P3.out _)))
      have hfs2 := Hfs1.out.grow (below_drewA (Below.refl _ _) nq)
      have hbx2 := Hbx.out.only (S := fun _ => False) ((Only.refl _ _).drewN nq) (fun k h => h.elim)
      clear Hbx Hfs1 r1 r2 r3 b0 b1 b2 b3 l1 l2 l3 L1 L2 L3 P1 P2 P3
      generalize w1.drewN nq = w2 at hfs2 hbx2 ⊢
      clear w1 nq
      have b2 := hbx2.b2
      dsimp only at b2
      have Hbx := Lib.hid hbx2; have Hfs := Lib.hid hfs2; clear hbx2 hfs2
      go_upto_region 7 with fail
      go_quiet (first
        | (go_at_call_of 38 (Value.int IntKind.i64 x2); exact Calls.quiet_of_same (PV2.out _))
        | (go_at_call 10; exact Calls.quiet_of_same (PV.out _ st (Hfs.out.sp.below (below_drewA (Below.refl _ _) _)))))
      have hfs2 := Hfs.out.grow (below_drewA (Below.refl _ _) nq)
      have hbx2 := Hbx.out.only (S := fun _ => False) ((Only.refl _ _).drewN nq) (fun k h => h.elim)
      clear Hbx Hfs b2
      generalize w2.drewN nq = w3 at hfs2 hbx2 ⊢
      clear w2 nq
      have b0 := hbx2.b0; have b1 := hbx2.b1; have b2 := hbx2.b2; have b3 := hbx2.b3
      dsimp only at b0 b1 b2 b3
      have Hbx := Lib.hid hbx2; have Hfs := Lib.hid hfs2; clear hbx2 hfs2
      go_upto_block 2 with fail
      refine (P0.out _).mono ?_
      rintro e w4 ⟨rfl, rfl⟩
      go_upto_block 2 with fail
      go_cut [13, 14, 18] from 18 to 152 (fun hh ee ii wx => ii = .int .i64 k ∧ hh = .int .i64 R.2.1 ∧ ee = .nilIface ∧ IsSpace wx s V R.1 ∧ Only s.mem w4 wx)
      case first =>
        have HR0 := HR.out
        have G0' := G0.out
        clear HR G0 P0
        obtain ⟨kz, hkz⟩ : ∃ z : Int, z = (kk : Int) := ⟨_, rfl⟩
        rw [← hkz]
        have hk9 : kk = 0 ∨ kk = 1 ∨ kk = 2 ∨ kk = 3 ∨ kk = 4 ∨ kk = 5 ∨ kk = 6 ∨ kk = 7 ∨ kk = 8 := by omega
        clear G0'
        rcases hk9 with rfl | rfl | rfl | rfl | rfl | rfl | rfl | rfl | rfl
        · obtain rfl : kz = 0 := hkz
          rw [if_pos rfl] at HR0
          have q := fun w' hs' => Lit_any V ul (odd x2) w' s st hs' (by omega) (by have := G1.out; omega)
          rw [← HR0] at q
          have Q := Lib.hid q; clear q HR0
          have hod : (x2.tmod 2 != 0) = odd x2 := rfl
          have hsd := (Hfs.out.grow (Below.refl _ _).drew).sp
          have Hsd := Lib.hid hsd; clear hsd
          go_upto_region 12 with fail
          go_region_held3 (fun w' => w'.cell? ⟨bx, 1, none⟩ = some (.int .i64 x1) ∧ w'.cell? ⟨bx, 2, none⟩ = some (.int .i64 x2))
            (first | exact ⟨b1, b2⟩ | exact ⟨h91, h92⟩ | go_keep)
            (first | (go_at_call 10; refine (PV.out _ st Hsd.out).mono ?_; rintro e w9 ⟨rfl, rfl⟩) | (go_at_call 38; refine (PV1.out _).mono ?_; rintro e w9 ⟨rfl, rfl⟩) | (go_at_call 18; refine (Q.out _ Hsd.out).mono ?_; rintro e w9 ⟨rfl, hs9, ho9⟩; have h91 := (Hbx.out.only (ho9.drew0) Hfs.out.off).b1; have h92 := (Hbx.out.only (ho9.drew0) Hfs.out.off).b2; dsimp only at h91 h92; rw [Hok.out.err]; simp only [errV, if_true]))
          all_goals (go_wp2_with fail; go_meet)
          all_goals exact ⟨rfl, rfl, rfl, by assumption, Only.drew0 (by assumption)⟩
        · obtain rfl : kz = 1 := hkz
          rw [if_neg (by decide), if_pos rfl] at HR0
          have q := Not_any V (by omega) va w4 s st Hfs.out.sp Hsok.out Ha.out (by have := Hroom1.out; have := Nat.two_pow_pos V; simp; omega)
          rw [← HR0] at q
          have Q := Lib.hid q; clear q HR0
          go_wp2_with fail
          refine Q.out.mono ?_
          rintro e w5 ⟨rfl, hs5, ho5⟩
          rw [Hok.out.err]
          simp only [errV, if_true]
          have Hs5 := Lib.hid hs5; have Ho5 := Lib.hid ho5; clear hs5 ho5
          go_wp2_with fail
          go_meet
          exact ⟨rfl, rfl, rfl, Hs5.out, Ho5.out⟩
        · obtain rfl : kz = 2 := hkz
          rw [if_neg (by decide), if_neg (by decide), if_pos rfl] at HR0
          have q := And_any V (by omega) va vb w4 s st Hfs.out.sp Hsok.out Ha.out Hb.out (by have := Hroom1.out; have := Nat.two_pow_pos V; simp; omega)
          rw [← HR0] at q
          have Q := Lib.hid q; clear q HR0
          go_wp2_with fail
          refine Q.out.mono ?_
          rintro e w5 ⟨rfl, hs5, ho5⟩
          rw [Hok.out.err]
          simp only [errV, if_true]
          have Hs5 := Lib.hid hs5; have Ho5 := Lib.hid ho5; clear hs5 ho5
          go_wp2_with fail
          go_meet
          exact ⟨rfl, rfl, rfl, Hs5.out, Ho5.out⟩
        · obtain rfl : kz = 3 := hkz
          rw [if_neg (by decide), if_neg (by decide), if_neg (by decide), if_pos rfl] at HR0
          have q := Or_any V (by omega) va vb w4 s st Hfs.out.sp Hsok.out Ha.out Hb.out (by have := Hroom1.out; have := Nat.two_pow_pos V; simp; omega)
          rw [← HR0] at q
          have Q := Lib.hid q; clear q HR0
          go_wp2_with fail
          refine Q.out.mono ?_
          rintro e w5 ⟨rfl, hs5, ho5⟩
          rw [Hok.out.err]
          simp only [errV, if_true]
          have Hs5 := Lib.hid hs5; have Ho5 := Lib.hid ho5; clear hs5 ho5
          go_wp2_with fail
          go_meet
          exact ⟨rfl, rfl, rfl, Hs5.out, Ho5.out⟩
        · obtain rfl : kz = 4 := hkz
          rw [if_neg (by decide), if_neg (by decide), if_neg (by decide), if_neg (by decide), if_pos rfl] at HR0
          have q := Xor_any V (by omega) va vb w4 s st Hfs.out.sp Hsok.out Ha.out Hb.out (by have := Hroom1.out; have := Nat.two_pow_pos V; simp; omega)
          rw [← HR0] at q
          have Q := Lib.hid q; clear q HR0
          go_wp2_with fail
          refine Q.out.mono ?_
          rintro e w5 ⟨rfl, hs5, ho5⟩
          rw [Hok.out.err]
          simp only [errV, if_true]
          have Hs5 := Lib.hid hs5; have Ho5 := Lib.hid ho5; clear hs5 ho5
          go_wp2_with fail
          go_meet
          exact ⟨rfl, rfl, rfl, Hs5.out, Ho5.out⟩
        · obtain rfl : kz = 5 := hkz
          rw [if_neg (by decide), if_neg (by decide), if_neg (by decide), if_neg (by decide), if_neg (by decide), if_pos rfl] at HR0
          have q := Ite_any V (by omega) va vb vc w4 s st Hfs.out.sp Hsok.out Ha.out Hb.out Hc.out (by have := Hroom1.out; have := Nat.two_pow_pos V; simp; omega)
          rw [← HR0] at q
          have Q := Lib.hid q; clear q HR0
          go_wp2_with fail
          refine Q.out.mono ?_
          rintro e w5 ⟨rfl, hs5, ho5⟩
          rw [Hok.out.err]
          simp only [errV, if_true]
          have Hs5 := Lib.hid hs5; have Ho5 := Lib.hid ho5; clear hs5 ho5
          go_wp2_with fail
          go_meet
          exact ⟨rfl, rfl, rfl, Hs5.out, Ho5.out⟩
        · obtain rfl : kz = 6 := hkz
          rw [if_neg (by decide), if_neg (by decide), if_neg (by decide), if_neg (by decide), if_neg (by decide), if_neg (by decide), if_pos rfl] at HR0
          have q := Set_any V (by omega) va uv (odd x3) w4 s st Hfs.out.sp Hsok.out (by omega) (by have := G2.out; omega) Ha.out (by have := Hroom1.out; have := Nat.two_pow_pos V; simp; omega)
          rw [← HR0] at q
          have Q := Lib.hid q; clear q HR0
          have hod : (x3.tmod 2 != 0) = odd x3 := rfl
          go_wp2_with fail
          refine Q.out.mono ?_
          rintro e w5 ⟨rfl, hs5, ho5⟩
          rw [Hok.out.err]
          simp only [errV, if_true]
          have Hs5 := Lib.hid hs5; have Ho5 := Lib.hid ho5; clear hs5 ho5
          go_wp2_with fail
          go_meet
          exact ⟨rfl, rfl, rfl, Hs5.out, Ho5.out⟩
        · obtain rfl : kz = 7 := hkz
          rw [if_neg (by decide), if_neg (by decide), if_neg (by decide), if_neg (by decide), if_neg (by decide), if_neg (by decide), if_neg (by decide), if_pos rfl] at HR0
          have q := Some_any V (by omega) va uv w4 s st Hfs.out.sp Hsok.out (by omega) (by have := G2.out; omega) Ha.out (by have := Hroom1.out; have := Nat.two_pow_pos V; simp; omega)
          rw [← HR0] at q
          have Q := Lib.hid q; clear q HR0
          go_wp2_with fail
          refine Q.out.mono ?_
          rintro e w5 ⟨rfl, hs5, ho5⟩
          rw [Hok.out.err]
          simp only [errV, if_true]
          have Hs5 := Lib.hid hs5; have Ho5 := Lib.hid ho5; clear hs5 ho5
          go_wp2_with fail
          go_meet
          exact ⟨rfl, rfl, rfl, Hs5.out, Ho5.out⟩
        · obtain rfl : kz = 8 := hkz
          rw [if_neg (by decide), if_neg (by decide), if_neg (by decide), if_neg (by decide), if_neg (by decide), if_neg (by decide), if_neg (by decide), if_neg (by decide)] at HR0
          have q := Each_any V (by omega) va uv w4 s st Hfs.out.sp Hsok.out (by omega) (by have := G2.out; omega) Ha.out (by have := Hroom1.out; have := Nat.two_pow_pos V; simp; omega)
          rw [← HR0] at q
          have Q := Lib.hid q; clear q HR0
          go_wp2_with fail
          refine Q.out.mono ?_
          rintro e w5 ⟨rfl, hs5, ho5⟩
          rw [Hok.out.err]
          simp only [errV, if_true]
          have Hs5 := Lib.hid hs5; have Ho5 := Lib.hid ho5; clear hs5 ho5
          go_wp2_with fail
          go_meet
          exact ⟨rfl, rfl, rfl, Hs5.out, Ho5.out⟩
      case rest =>
        obtain ⟨rfl, rfl, rfl, hsc, hoc⟩ := hcut
        have hfc := Hfs.out.step hoc hsc
        have hown := hfc.own.alloc (.cells #[.int .i64 R.2.1] 3)
        have hsz := hfc.only.size
        have Hfc := Lib.hid hfc; have Hown := Lib.hid hown
        have hlen5 : out.length ≤ 27 := by rw [Hlen.out]; omega
        clear hfc hown hsc hoc Hfs Hbx b0 b1 b2 b3 HR
        go_wp2_with (at_builtin; refine wpList_append_own _ rfl (.tmp 145) (.tmp 147) 24 rfl w.heap.size 3 i0 (.int .i64 0) 1 8 Tryz.underlying24 hi hz0 hz1 hz2 rfl (by decide) _ _ _ rfl Hown.out ⟨wc.heap.size, 0, none⟩ 1 1 [.int .i64 R.2.1] rfl rfl (cell_one_new _ _ _) (ints_oneCell _ [R.2.1]) (by simp only [maxLen]; omega) (by omega) (by simp; omega) ?_; intro v' w7 hown7 hgrow7 _; have Hf7 := Lib.hid (Hfc.out.push Hlps.out hown7 hgrow7); clear hown7 hgrow7)
        have hk2 : ∀ h ∈ out ++ [R.2.1], hasM R.1.c h = true := fun y hy => by
          rcases List.mem_append.1 hy with hy | hy
          · exact Hok.out.hasOld (Hfo.out.has y hy)
          · rw [List.mem_singleton.1 hy]; exact Hok.out.has
        have hints : IsInts w7 v' (out ++ [R.2.1]) := ints_of_owns (n := (out ++ [R.2.1]).length) Hf7.out.own (by simp; omega)
        have hfree := Free_any V v' (out ++ [R.2.1]) w7 s R.1 Hf7.out.sp Hok.out.sok.ok hints (by simp; omega) (fun y hy => by have := hasM_le (hk2 y hy); have := Hf7.out.sp.ar.len; have := Hf7.out.sp.ar.room.2; omega)
        have Hfree := Lib.hid hfree; have Hlen5 := Lib.hid hlen5; clear hk2 hints hfree hlen5
        go_wp2_with fail
        refine Hfree.out.mono ?_
        rintro e w8 ⟨rfl, hs8, ho8⟩
        have Hf8 := Lib.hid (Hf7.out.step ho8 hs8); clear hs8 ho8
        have hkl : (k : Int) + 1 ≤ 25 := by omega
        go_wp2_with fail
        go_roundg (l.length - (k + 1))
        case measure => omega
        case rel => exact ⟨k + 1, _, _, by omega, rfl, by go_num, Hf8.out, Hfo.out.next Hok.out, by simp [Hlen.out], Hroom2.out, Hfun.out⟩
    · obtain rfl : k = l.length := by omega
      rw [List.drop_length, funsX] at hfun
      subst hfun
      have Hfs := Lib.hid hfs; clear hfs hlen
      go_wp2_with fail
      go_ret
      exact ⟨_, rfl, Hfs.out⟩
end Go.Proofs.YthmflcmbaldflaaGreatDoor
