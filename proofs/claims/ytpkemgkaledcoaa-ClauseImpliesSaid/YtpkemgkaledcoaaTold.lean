/- Contracts: clause.Follows. -/
import Derived.Test.YtpkemgkaledcoaaSolves
namespace Go.Proofs.Ytpkemgkaledcoaa
open Go.RowKit
set_option linter.unusedVariables false

theorem litB_opp (v : Nat) {y : Int} (hy : y ≠ 0) : litB v (-y) = !litB v y := by
  have h1 := lv_full v hy
  have h2 := lv_full v (x := -y) (by omega)
  rw [lv_neg hy, h1] at h2
  cases e1 : litB v y <;> cases e2 : litB v (-y) <;> simp [e1, e2] at h2 ⊢

/-- What follows from the trail holds. -/
theorem justs_hold {l : List (List Int)} {t ext : List Int} {v : Nat} (hz : ∀ d ∈ l, NoZero d) (h : Justs l t ext) (hv : allB v l = true) (ht : ∀ x ∈ t, litB v x = true) : ∀ x ∈ t ++ ext, litB v x = true := by
  have key : ∀ j, j ≤ ext.length → ∀ x ∈ t ++ ext.take j, litB v x = true := by
    intro j
    induction j with
    | zero => intro _; simpa using ht
    | succ j ih =>
      intro hj x hx
      have h1 := ih (by omega)
      rw [List.take_succ_eq_append_getElem (by omega), ← List.append_assoc] at hx
      rcases List.mem_append.1 hx with h2 | h2
      · exact h1 x h2
      · obtain rfl : x = ext[j] := by simpa using h2
        obtain ⟨d, hd, hxd, hrest⟩ := h j (by omega)
        obtain ⟨y, hy, hl⟩ := List.any_eq_true.1 (List.all_eq_true.1 hv d hd)
        by_cases e : y = ext[j]
        · rw [← e]; exact hl
        · have h3 := h1 _ (hrest y hy e)
          rw [litB_opp v (hz d hd y hy), hl] at h3
          cases h3
  have := key ext.length (Nat.le_refl _)
  rwa [List.take_length] at this

theorem none_false {m : Int} {l : List (List Int)} {g : Int → Int} {t : List Int} {v : Nat} (hz : ∀ d ∈ l, NoZero d) (ht : TrailOK m g t) (hv : allB v l = true) (hh : ∀ x ∈ t, litB v x = true) {d : List Int} (hd : d ∈ l) (hc : ∀ y ∈ d, lv g y = -1) : False := by
  obtain ⟨y, hy, hl⟩ := List.any_eq_true.1 (List.all_eq_true.1 hv d hd)
  have h1 := hh _ ((ht.neg (hz d hd y hy)).1 (hc y hy))
  rw [litB_opp v (hz d hd y hy), hl] at h1
  cases h1

def Near (aq : List Int) : Prop := ∀ x ∈ aq, -1000 ≤ x ∧ x ≤ 1000

/-- What clause.Follows says. -/
def ToldSay (m : Int) (l : List (List Int)) (aq : List Int) (vt : Value) (n : Int) (err : Value) (w' : World) : Prop :=
  (vt = .slice none 0 0 ∧ ∃ t v, err = .iface t v) ∨
  (err = .nilIface ∧ Good m l ∧ Near aq ∧ ∃ tr, IsInts w' vt tr ∧ Near tr ∧ ∀ v : Nat, allB v l = true → (∀ x ∈ aq, litB v x = true) → n < 0 ∧ ∀ x ∈ tr, litB v x = true)
def ToldPost (m : Int) (l : List (List Int)) (aq : List Int) (w : World) (e : Ending) (w' : World) : Prop :=
  (∃ vt n err, e = .returned (.tuple #[vt, .int .i64 n, err]) ∧ ToldSay m l aq vt n err w') ∧ Below w.heap.size w w'

theorem state_start (w : World) (cs : Array Value) (hcs : cs = ((List.replicate 24 (Value.int .i64 0)) ++ [Value.slice none 0 0]).toArray) : StateAt (w.alloc (.cells cs 53)) w.heap.size (fun _ => 0) [] (.slice none 0 0) := by
  refine ⟨⟨cs, heap_at rfl, by subst hcs; rfl, fun i hi => ?_, by subst hcs; rfl⟩, World.ownsRow_nil _ _ _ _, by simp [Value.ownBlock]⟩
  subst hcs
  rw [List.getElem?_toArray, List.getElem?_append_left (by rw [List.length_replicate]; exact hi), List.getElem?_replicate, if_pos hi]

/-- What the loop over the assumptions keeps. -/
structure Assumed (m : Int) (aq : List Int) (B p k : Nat) (f : Int → Int) (tr : List Int) (v : Value) (w : World) : Prop where
  st : StateAt w p f tr v
  tok : TrailOK m f tr
  new : ∀ b, v.ownBlock = some b → B ≤ b
  of : ∀ x ∈ tr, x ∈ aq.take k
  near : ∀ x ∈ aq.take k, -24 ≤ x ∧ x ≤ 24

set_option maxHeartbeats 2000000 in
theorem told_any (m : Int) (vl va : Value) (l : List (List Int)) (aq : List Int) (w : World) (hl : IsRows w vl l) (ha : IsInts w va aq) :
    Calls Try.prog 14 #[.int .i64 m, vl, va] w (ToldPost m l aq w) := by
  obtain ⟨aa, ca, rfl, hal, ham, halen⟩ := ha.shape
  have Hl := Lib.hid hl; have Ha := Lib.hid ha; clear hl ha
  go_enter Try.func14, Try.ntmps14
  go_wp2_with fail
  refine (check_any m _ l _ Hl.out).mono ?_
  rintro e w1 ⟨⟨ev, rfl, hgood, hbad⟩, hb⟩
  have Hb := Lib.hid hb; clear hb
  by_cases hg : Good m l
  · obtain rfl := hgood hg
    have Hg := Lib.hid hg
    have hm0 : 0 ≤ m := hg.1
    have hm24 : m ≤ 24 := by have := hg.2.1; omega
    clear hgood hbad hg
    go_wp2_with fail
    go_loopg [12, 22] aq.length (fun gk x i wr => Below w.heap.size w wr ∧ w1.heap.size < wr.heap.size ∧ ∃ k f tr v, k ≤ aq.length ∧ gk = aq.length - k ∧ i = .int .i64 (k : Nat) ∧ Assumed m aq w.heap.size w1.heap.size k f tr v wr)
    case atStart => exact ⟨Hb.out.alloc Hb.out.size _, by simp, 0, _, _, _, Nat.zero_le _, rfl, rfl, ⟨state_start _ _ rfl, trailOK_nil m, by simp [Value.ownBlock], by simp, by simp⟩⟩
    case round =>
      obtain ⟨hbr, hszr, k, f, tr, v, hk, rfl, rfl, hasm⟩ := hrel
      have Hbr := Lib.hid hbr; have Has := Lib.hid hasm; clear hbr hasm
      by_cases hlt : k < aq.length
      · obtain ⟨b, o, rfl, hblk⟩ := Ha.out.addr hlt
        have hcell := (Ha.out.below Hbr.out).get hlt
        have hmem : aq[k] ∈ aq := List.getElem_mem hlt
        generalize hx : aq[k] = x at hcell hmem
        have Hx := Lib.hid hx; clear hx
        by_cases h0 : x = 0
        · have h0' : (x == 0) = true := by simpa using h0
          clear h0
          go_wp2_with fail
          go_ret3
          exact ⟨⟨_, _, _, rfl, .inl ⟨rfl, _, _, rfl⟩⟩, Hbr.out⟩
        · have h0' : (x == 0) = false := by simpa using h0
          have H0 := Lib.hid h0; clear h0
          by_cases h1 : m < x
          · go_wp2_with fail
            go_ret3
            exact ⟨⟨_, _, _, rfl, .inl ⟨rfl, _, _, rfl⟩⟩, Hbr.out⟩
          · by_cases h2 : x < -m
            · go_wp2_with fail
              go_ret3
              exact ⟨⟨_, _, _, rfl, .inl ⟨rfl, _, _, rfl⟩⟩, Hbr.out⟩
            · have htake : ∀ y ∈ aq.take (k + 1), y ∈ aq.take k ∨ y = x := fun y hy => ((mem_take_succ hlt).1 hy).imp id (fun e => by rw [e, Hx.out])
              have Htake := Lib.hid htake; clear htake
              have hcall := is_any x _ f tr v wr Has.out.st H0.out (by omega) (by omega) Has.out.tok.tri
              have h3 : lv f x = 1 ∨ lv f x = -1 ∨ lv f x = 0 := by have := Has.out.tok.tri.lv x; omega
              rcases h3 with h3 | h3 | h3
              · rw [h3] at hcall
                have Hcall := Lib.hid hcall; clear hcall h3
                go_wp2_with (go_at_call 25; refine Hcall.out.mono ?_; rintro e w' ⟨rfl, rfl⟩)
                go_roundg (aq.length - (k + 1))
                case measure => omega
                case rel => exact ⟨Hbr.out, hszr, k + 1, f, tr, v, by omega, rfl, by go_num, Has.out.st, Has.out.tok, Has.out.new, fun y hy => List.mem_of_mem_take (i := k) (by rw [List.take_take, Nat.min_eq_left (by omega)]; exact Has.out.of y hy), fun y hy => (Htake.out y hy).elim (Has.out.near y) (fun e => by omega)⟩
              · rw [h3] at hcall
                have Hcall := Lib.hid hcall; clear hcall h3
                go_wp2_with (go_at_call 25; refine Hcall.out.mono ?_; rintro e w' ⟨rfl, rfl⟩)
                go_ret3
                exact ⟨⟨_, _, _, rfl, .inl ⟨rfl, _, _, rfl⟩⟩, Hbr.out⟩
              · rw [h3] at hcall
                have H3 := Lib.hid h3
                have Hcall := Lib.hid hcall; clear hcall h3
                have hlen := Has.out.tok.len hm24
                go_wp2_with (go_at_call 25; refine Hcall.out.mono ?_; rintro e w' ⟨rfl, rfl⟩)
                refine (set_any x w1.heap.size f tr v _ Has.out.st H0.out (by omega) (by omega) (by omega)).mono ?_
                rintro e w6 ⟨rfl, ⟨v6, hst6, hnx6⟩, hmod6⟩
                have hb6 := hmod6.below (B := w.heap.size) Hb.out.size Has.out.new Hbr.out.size
                have Hb6 := Lib.hid hb6; have Hst6 := Lib.hid hst6; have Hnx6 := Lib.hid hnx6; clear hb6 hst6 hnx6 hmod6
                go_wp2_with fail
                go_roundg (aq.length - (k + 1))
                case measure => omega
                case rel =>
                  refine ⟨Hbr.out.trans Hb6.out, Nat.lt_of_lt_of_le hszr Hb6.out.size, k + 1, _, _, v6, by omega, rfl, by go_num, Hst6.out, Has.out.tok.snoc H0.out (by omega) (by omega) H3.out, fun b hb => ?_, fun y hy => ?_, fun y hy => (Htake.out y hy).elim (Has.out.near y) (fun e => by omega)⟩
                  · rcases Hnx6.out with e | ⟨g, e, hg⟩
                    · exact Has.out.new b (by rw [← e]; exact hb)
                    · rw [e] at hb; cases hb; exact Nat.le_trans Hbr.out.size hg
                  · rcases List.mem_append.1 hy with h5 | h5
                    · exact List.mem_of_mem_take (i := k) (by rw [List.take_take, Nat.min_eq_left (by omega)]; exact Has.out.of y h5)
                    · obtain rfl : y = x := by simpa using h5
                      rw [← Hx.out]
                      exact (mem_take_succ hlt).2 (.inr rfl)
      · obtain rfl : k = aq.length := by omega
        clear hlt hk
        have hz := Lib.hid (fun d hd => fun y hy => (lit_of_good (Hg.out.2.2.2 d hd).2 hy).1 : ∀ d ∈ l, NoZero d)
        go_wp2_with fail
        refine (spread_any m w1.heap.size f tr l v _ wr hm24 Has.out.st Has.out.tok (fun w' h => Hl.out.below (Hbr.out.trans (h.below Hb.out.size Has.out.new Hbr.out.size))) (fun d hd x hx => lit_of_good (Hg.out.2.2.2 d hd).2 hx) (by have := Hg.out.2.2.1; omega)).mono ?_
        rintro e w3 ⟨n, g, ext, v3, rfl, hst, hnx, hmod, htk, hj, hn⟩
        have hb3 := Hbr.out.trans (hmod.below Hb.out.size Has.out.new Hbr.out.size)
        obtain ⟨a3, c3, rfl⟩ := owns_shape hst.own
        have hct := hst.trail
        have Hb3 := Lib.hid hb3; have Hst := Lib.hid hst; have Htk := Lib.hid htk; have Hj := Lib.hid hj; have Hn := Lib.hid hn
        clear hb3 hst hnx hmod htk hj hn
        go_wp2_with fail
        go_ret3
        have hof := Has.out.of
        have hnear := Has.out.near
        rw [List.take_length] at hof hnear
        have hints := Hst.out.ints (by have := Htk.out.len hm24; omega)
        rw [List.length_append] at hints
        refine ⟨⟨_, _, _, rfl, .inr ⟨rfl, Hg.out, fun x hx => by have := hnear x hx; omega, _, hints, fun x hx => by have := Htk.out.rng x hx; omega, fun u hu has => ?_⟩⟩, Hb3.out⟩
        have hall := justs_hold hz.out Hj.out hu (fun x hx => has x (hof x hx))
        refine ⟨?_, hall⟩
        rcases Hn.out with ⟨rfl, _⟩ | ⟨kk, rfl, hkk, hc⟩
        · decide
        · exact (none_false hz.out Htk.out hu hall (List.getElem_mem hkk) hc).elim
  · obtain ⟨t, v, rfl⟩ := hbad hg
    clear hgood hbad hg
    go_wp2_with fail
    go_ret3
    exact ⟨⟨_, _, _, rfl, .inl ⟨rfl, _, _, rfl⟩⟩, Hb.out⟩
end Go.Proofs.Ytpkemgkaledcoaa
