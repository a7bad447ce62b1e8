/- Contract: (*family.Store).Count. -/
import Derived.Test.YtmlnfbageoabnaaFamN
namespace Go.Proofs.Ytmlnfbageoabnaa
open Go.RowKit
set_option linter.unusedVariables false

def cntW (w : World) (s : Fb) : World :=
  ((((w.alloc (.cells #[.pointer (some ⟨s.ps, 0, none⟩)] 77)).alloc (.cells #[.slice none 0 0] 70)).alloc (.map #[] 0)).alloc (.cells #[.map (some (w.heap.size + 1 + 1))] 100)).alloc
    (.cells #[.func (.func 113) #[] #[.pointer (some ⟨w.heap.size, 0, none⟩), .pointer (some ⟨w.heap.size + 1 + 1 + 1, 0, none⟩), .pointer (some ⟨w.heap.size + 1 + 1 + 1 + 1, 0, none⟩)]] 73)
theorem cnt_start {V : Int} {s : Fb} {w : World} {c : Cells} (hs : IsStore w s V c) :
    IsStore (cntW w s) s V c ∧ ZMap (cntW w s) (w.heap.size + 1 + 1) c ∧ CEnv (cntW w s) s (w.heap.size + 1 + 1) ⟨w.heap.size, w.heap.size + 1 + 1 + 1, w.heap.size + 1 + 1 + 1 + 1⟩ ∧ Below w.heap.size w (cntW w s) ∧ (¬ s.b.mem (w.heap.size + 1 + 1) ∧ s.ps ≠ w.heap.size + 1 + 1) ∧ (cntW w s).heap[w.heap.size + 1]? = some (.cells #[.slice none 0 0] 70 (0, 0)) := by
  have hb : Below w.heap.size w (cntW w s) := (below4 w _ _ _ _).alloc (by simp; omega) _
  have lps := hs.lps
  refine ⟨hs.below hb, ⟨[], ?_, fun k v e => by cases e⟩, ⟨?_, ?_, ?_, by dsimp only; omega, by dsimp only; omega, by dsimp only; omega⟩, hb, ⟨fun hm => by have := hs.lt hm; omega, by omega⟩, ?_⟩
  · have h1 := mapOf_new ((w.alloc (.cells #[.pointer (some ⟨s.ps, 0, none⟩)] 77)).alloc (.cells #[.slice none 0 0] 70)) (Value.int .i64)
    simp only [alloc_size] at h1
    exact h1.block_eq (((((Below.refl _ _).alloc (Nat.le_refl _) _).alloc (by simp) _).block _ (by simp)))
  · exact heap_up (heap_up (heap_up (heap_up (heap_at rfl))))
  · exact heap_up (heap_at (by simp only [alloc_size]))
  · exact heap_at (by simp only [alloc_size])
  · exact heap_up (heap_up (heap_up (heap_at (by simp only [alloc_size]))))

set_option maxRecDepth 100000 in
set_option maxHeartbeats 8000000 in
theorem FCount_any {V : Int} (hV : V ≤ 24) (h : Int) (w : World) (s : Fb) (c : Cells) (hs : IsStore w s V c) (zo : ZOk V c) (hh : hasM c h = true) :
    Calls Try.prog 96 #[.pointer (some ⟨s.ps, 0, none⟩), .int .i64 h] w fun e w' => ∃ v, e = .returned (.tuple #[v, .nilIface]) ∧ IsNat w' v (cntZ c h) ∧ Below w.heap.size w w' := by
  have hmm := @run_makeMap Try.prog
  have hmf : ∀ (fn : Fn) (first cap : Array Value) (w : World), (Instr.makeFunc fn first cap).run Try.prog w = .ok (.func fn first cap) w := fun _ _ _ _ => rfl
  have lh := hs.le hh
  have c0 := hs.s0
  have lps := hs.lps
  obtain ⟨s1, s2, s3, s4, s5, s6⟩ := cnt_start hs
  have hb2 : Below w.heap.size w ((w.alloc (.cells #[.pointer (some ⟨s.ps, 0, none⟩)] 77)).alloc (.cells #[.slice none 0 0] 70)) := ((Below.refl _ _).alloc (Nat.le_refl _) _).alloc (by simp) _
  have hha := has_any h _ s.b c (hs.ar.below hb2) lh
  rw [hh] at hha
  have hct := fcnt_in hV _ _ 25 h _ s c s1 s2 s3 s5 zo hh (by have := topM_le zo.ok h; omega)
  dsimp only at hct
  unfold cntW at hct s4 s6
  have Hha := Lib.hid hha; have Hct := Lib.hid hct; have S4 := Lib.hid s4; have S6 := Lib.hid s6
  clear hha hct hs zo hh s1 s2 s3 s4 s5 s6 hb2
  go_enter Try.func96, Try.ntmps96
  go_wp2_with fail
  refine Hha.out.mono ?_
  rintro e w' ⟨rfl, rfl⟩
  go_wp2_with fail
  refine Hct.out.mono ?_
  rintro e w1 ⟨v1, rfl, hn1, hdd, ho1⟩
  clear hdd
  obtain ⟨a1, c1, rfl⟩ := hn1.shape
  have hbw : Below w.heap.size w w1 := S4.out.trans (ho1.below S4.out.size (fun k hk => by have e' : k = w.heap.size + 1 + 1 := hk; omega))
  have hres := (ho1.block _ (lt_of_block S6.out) (fun e => by have e' : w.heap.size + 1 = w.heap.size + 1 + 1 := e; omega)).trans S6.out
  have k1 := cell_of_one hres; have k2 := free_of_one hres; have k3 := lt_of_block hres
  have Hn := Lib.hid hn1; have Hb := Lib.hid hbw; have Hres := Lib.hid hres
  clear hn1 ho1 hbw hres Hct Hha S4 S6 c0
  go_wp2_with fail
  exact bodyPost_ret (v := .tuple #[.agg #[.slice a1 (limbsOf (cntZ c h)).length c1], .nilIface]) (by simp [results, Try.results96, go_sem, k1]) rfl ⟨_, rfl, Hn.out.setRes Hres.out _, Hb.out.setCell (by simp) _⟩
end Go.Proofs.Ytmlnfbageoabnaa
