/- Contracts: the closures of semver.made; slices.IndexFunc and DeleteFunc at spans. -/
import Derived.Test.YtheemhelioendaaGreatDoorSpanD
import Derived.Outline
namespace Go.Proofs.YtheemhelioendaaGreatDoor
open Go.RowKit
set_option linter.unusedVariables false

def spV (s : Spn) : Value := .agg #[.int .i64 s.1, .int .i64 s.2]
def pS (s : Spn) : Bool := decide (s.2 ≤ s.1)
set_option maxHeartbeats 1000000 in
theorem made1_any (a b : Int) (w : World) : Calls Tryz.prog 173 #[.agg #[.int .i64 a, .int .i64 b]] w fun e w' => e = .returned (.bool (pS (a, b))) ∧ Below w.heap.size w w' := by
  have hb : Below w.heap.size w (w.alloc (.cells #[.int .i64 a, .int .i64 b] 115)) := (Below.refl _ _).alloc (Nat.le_refl _) _
  have Hb := Lib.hid hb; clear hb
  go_enter Tryz.func173, Tryz.ntmps173
  go_wp2_with fail
  go_ret
  exact ⟨rfl, Hb.out⟩

set_option maxRecDepth 100000 in
set_option maxHeartbeats 4000000 in
theorem indexS_any (g cap n : Nat) (f : Nat → Spn) (w : World) (h : SRow w g cap n f) (hn : n ≤ 1000000) :
    Calls Tryz.prog 96 #[.slice (some ⟨g, 0, none⟩) n cap, .func (.func 173) #[] #[]] w fun e w' =>
      (∃ r : Int, e = .returned (.int .i64 r) ∧ ((r = -1 ∧ ∀ k, k < n → pS (f k) = false) ∨ ∃ k : Nat, k < n ∧ r = k ∧ pS (f k) = true ∧ ∀ j, j < k → pS (f j) = false)) ∧ Below w.heap.size w w' := by
  have H := Lib.hid h; clear h
  go_enter Tryz.func96, Tryz.ntmps96
  go_wp2_with fail
  go_loopg [8] n (fun gk i wr => ∃ k : Nat, k ≤ n ∧ gk = n - k ∧ i = .int .i64 k ∧ Below w.heap.size w wr ∧ ∀ j, j < k → pS (f j) = false)
  case atStart => exact ⟨0, Nat.zero_le _, rfl, rfl, Below.refl _ _, fun j h => absurd h (Nat.not_lt_zero _)⟩
  case round =>
    obtain ⟨k, hk, rfl, rfl, hb, hno⟩ := hrel
    have Hb := Lib.hid hb; have Hno := Lib.hid hno; clear hb hno
    have hr := H.out.keep (Hb.out.block g H.out.lt)
    by_cases hlt : k < n
    · have c1 := hr.cell1 hlt; have c2 := hr.cell2 hlt
      have hp := made1_any (f k).1 (f k).2 wr
      obtain ⟨a, b⟩ : ∃ s, s = f k := ⟨_, rfl⟩
      generalize hs : f k = s at c1 c2 hp
      have Hp := Lib.hid hp; have Hs := Lib.hid hs
      clear hr hp hs
      go_wp2_with fail
      refine Hp.out.mono ?_
      rintro e w9 ⟨rfl, hb9⟩
      have Hb9 := Lib.hid (Hb.out.trans (hb9.mono Hb.out.size))
      clear hb9 Hp
      cases hps : pS (s.1, s.2) with
      | true =>
        have Hps := Lib.hid hps; clear hps
        go_wp2_with fail
        go_ret
        exact ⟨⟨_, rfl, .inr ⟨k, hlt, rfl, by rw [Hs.out]; exact Hps.out, Hno.out⟩⟩, Hb9.out⟩
      | false =>
        have Hps := Lib.hid hps; clear hps
        go_wp2_with fail
        go_roundg (n - (k + 1))
        case measure => omega
        case rel => exact ⟨k + 1, by omega, rfl, by go_num, Hb9.out, fun j hj => by
          by_cases e : j = k
          · subst e; rw [Hs.out]; exact Hps.out
          · exact Hno.out j (by omega)⟩
    · obtain rfl : k = n := by omega
      clear hr
      go_wp2_with fail
      go_ret
      exact ⟨⟨_, rfl, .inl ⟨rfl, Hno.out⟩⟩, Hb.out⟩

set_option maxRecDepth 100000 in
set_option maxHeartbeats 8000000 in
theorem deleteS_any (g cap n : Nat) (f : Nat → Spn) (w : World) (h : SRow w g cap n f) (hn : n ≤ 1000000) (hcap : cap ≤ 9223372036854775807) :
    Calls Tryz.prog 172 #[.slice (some ⟨g, 0, none⟩) n cap, .func (.func 173) #[] #[]] w fun e w' =>
      ∃ (i : Nat) (f' : Nat → Spn), e = .returned (.slice (some ⟨g, 0, none⟩) i cap) ∧ i ≤ n ∧ SRow w' g cap i f' ∧ spL i f' = (spL n f).filter (fun s => !pS s) ∧ Only1 g w w' := by
  have hi := indexS_any g cap n f w h hn
  have hnc := h.cap
  have H := Lib.hid h; have Hi := Lib.hid hi; clear h hi
  go_enter Tryz.func172, Tryz.ntmps172
  go_wp2_with fail
  refine Hi.out.mono ?_
  rintro e w1 ⟨⟨r, rfl, hr⟩, hb1⟩
  have Hb1 := Lib.hid hb1; clear hb1 Hi
  rcases hr with ⟨rfl, hall⟩ | ⟨k0, hk0, rfl, hp0, hbef⟩
  · have Hall := Lib.hid hall; clear hall
    go_wp2_with fail
    go_ret
    exact ⟨n, f, rfl, Nat.le_refl _, H.out.keep (Hb1.out.block g H.out.lt), (KeptI.start n (Nat.le_refl _) Hall.out).kept, Only1.of_below Hb1.out⟩
  · have hne : ((k0 : Int) == -1) = false := by rw [beq_eq_false_iff_ne]; omega
    have Hp0 := Lib.hid hp0
    have Hst := Lib.hid ((KeptI.start k0 (Nat.le_of_lt hk0) hbef).drop hk0 hp0)
    clear hp0 hbef
    go_wp2_with fail
    go_loopg [5, 6] (n - (k0 + 1)) (fun gk i j wr => ∃ (i' j' : Nat) (fr : Nat → Spn), gk = n - j' ∧ i = .int .i64 i' ∧ j = .int .i64 j' ∧ k0 < j' ∧ KeptI pS f n i' j' fr ∧ SRow wr g cap n fr ∧ Only1 g w wr)
    case atStart => exact ⟨k0, k0 + 1, f, rfl, rfl, by go_num, Nat.lt_succ_self _, Hst.out, H.out.keep (Hb1.out.block g H.out.lt), Only1.of_below Hb1.out⟩
    case round =>
      clear Hst Hb1
      obtain ⟨i, j, fr, rfl, rfl, rfl, hkj, hki, hrow, hon⟩ := hrel
      obtain ⟨wo, rfl⟩ : ∃ y, y = wr := ⟨_, rfl⟩
      have hij := hki.lt hkj Hp0.out
      have hjn := hki.lj
      by_cases hlt : j < n
      · have c1 := hrow.cell1 hlt; have c2 := hrow.cell2 hlt
        have hfj := hki.rest j (Nat.le_refl _) hlt
        have hkeep := hki.keep hlt; have hdrop := hki.drop hlt
        rw [hfj] at c1 c2
        generalize hs : f j = s at c1 c2 hkeep hdrop
        have hal : Below wo.heap.size wo (wo.alloc (.cells #[.int .i64 s.1, .int .i64 s.2] 115)) := (Below.refl _ _).alloc (Nat.le_refl _) _
        have hblk : (wo.alloc (.cells #[.int .i64 s.1, .int .i64 s.2] 115)).heap[wo.heap.size]? = some (.cells #[.int .i64 s.1, .int .i64 s.2] 115 (0, 0)) := heap_at rfl
        have Hp := Lib.hid (made1_any s.1 s.2 (wo.alloc (.cells #[.int .i64 s.1, .int .i64 s.2] 115)))
        have Hrow := Lib.hid hrow; have Hon := Lib.hid hon; have Hkeep := Lib.hid hkeep; have Hdrop := Lib.hid hdrop; have Hal := Lib.hid hal; have Hblk := Lib.hid hblk
        clear hrow hon hkeep hdrop hal hblk hki hfj hs
        go_wp2_with fail
        refine Hp.out.mono ?_
        rintro e w9 ⟨rfl, hb9⟩
        have hblk9 := (hb9.block _ (by simp)).trans Hblk.out
        have hb9' := Hal.out.trans (hb9.mono Hal.out.size)
        have hr9 := Hrow.out.keep (hb9'.block g Hrow.out.lt)
        have hon9 := Hon.out.trans (Only1.of_below hb9')
        have d1 : w9.cell? ⟨wo.heap.size, 0, none⟩ = some (.int .i64 s.1) := by rw [cell_of_row _ _ _ _ _ _ hblk9]; rfl
        have d2 : w9.cell? ⟨wo.heap.size, 1, none⟩ = some (.int .i64 s.2) := by rw [cell_of_row _ _ _ _ _ _ hblk9]; rfl
        have Hr9 := Lib.hid hr9; have Hon9 := Lib.hid hon9
        clear hb9 hblk9 hb9' hr9 hon9 Hp Hal Hblk Hrow Hon
        cases hps : pS (s.1, s.2) with
        | true =>
          have Hnx := Lib.hid (Hdrop.out hps)
          clear hps Hkeep Hdrop
          go_wp2_with fail
          go_roundg (n - (j + 1))
          case measure => omega
          case rel => exact ⟨i, j + 1, fr, rfl, rfl, by go_num, by omega, Hnx.out, Hr9.out, Hon9.out⟩
        | false =>
          have Hnx := Lib.hid (Hkeep.out hps)
          have e1 := Hr9.out.cell1 (show i < n by omega); have e2 := Hr9.out.cell2 (show i < n by omega)
          have e3 := Hr9.out.free (i * 2); have e4 := Hr9.out.free (i * 2 + 1)
          have hset := Hr9.out.set i s
          have Hset := Lib.hid hset
          clear hps Hkeep Hdrop hset
          go_wp2_with fail
          go_roundg (n - (j + 1))
          case measure => omega
          case rel => exact ⟨i + 1, j + 1, _, rfl, by go_num, by go_num, by omega, Hnx.out, Hset.out, (Hon9.out.set _ _).set _ _⟩
      · obtain rfl : j = n := by omega
        have Hki := Lib.hid hki; have Hrow := Lib.hid hrow; have Hon := Lib.hid hon
        clear hki hrow hon
        go_wp2_with (show wpList _ _ _ (Oper.mk none (.call { callee := .builtin .clear, .. }) _ _ _ _ :: _) _ _; refine wpList_clear_spans rfl (.tmp 38) rfl (g := g) (i := i) (m := j - i) rfl Hrow.out rfl hij ?_)
        intro w9 hr9 ho9
        have Hr9 := Lib.hid hr9; have Ho9 := Lib.hid ho9
        clear hr9 ho9
        go_wp2_with fail
        go_ret
        exact ⟨i, fr, rfl, by omega, Hr9.out, Hki.out.kept, Hon.out.trans Ho9.out⟩
end Go.Proofs.YtheemhelioendaaGreatDoor
