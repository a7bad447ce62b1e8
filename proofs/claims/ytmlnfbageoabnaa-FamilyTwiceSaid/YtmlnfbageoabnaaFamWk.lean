/- walk; the private functions or, less, free. -/
import Derived.Test.YtmlnfbageoabnaaFamX
namespace Go.Proofs.Ytmlnfbageoabnaa
open Go.RowKit
set_option linter.unusedVariables false

theorem memo_new (w : World) (k : Kd) (c : Cells) : MemoAt (w.alloc (.map #[] 0)) w.heap.size k c := ⟨[], mapOf_new w enc2, fun a b v h => by cases h⟩

theorem Only.cut2 {S S' : Nat → Prop} {a w : World} (h : Only S a w) (hs : ∀ k, k < a.heap.size → S k → S' k) : Only S' a w := ⟨h.os, h.tape, h.output, h.size, fun k hk hn => h.block k hk (fun e => hn (hs k hk e))⟩
def walkW (w : World) (k : Kd) (s : Fb) (b2 : Nat) : World :=
  ((((((w.alloc (.cells #[.pointer (some ⟨s.ps, 0, none⟩)] 77)).alloc (.cells #[.func (.func k.efn) #[] #[]] 113)).alloc (.cells #[.func (.func k.mfn) #[] #[.pointer (some ⟨b2, 0, none⟩)]] 114)).alloc (.map #[] 0)).alloc (.cells #[.map (some (w.heap.size + 1 + 1 + 1))] 130)).alloc
    (.cells #[.func (.func 106) #[] #[.pointer (some ⟨w.heap.size + 1, 0, none⟩), .pointer (some ⟨w.heap.size + 1 + 1 + 1 + 1, 0, none⟩), .pointer (some ⟨w.heap.size, 0, none⟩), .pointer (some ⟨w.heap.size + 1 + 1, 0, none⟩), .pointer (some ⟨w.heap.size + 1 + 1 + 1 + 1 + 1, 0, none⟩)]] 52))
def walkQ (w : World) (b2 : Nat) : Cb := ⟨w.heap.size + 1, w.heap.size + 1 + 1 + 1 + 1, w.heap.size, w.heap.size + 1 + 1, w.heap.size + 1 + 1 + 1 + 1 + 1, b2⟩
theorem walk_start {V : Int} {k : Kd} {s : Fb} {b2 : Nat} {w : World} {c : Cells} (hs : IsStore w s V c) (hb2 : w.heap[b2]? = some (.cells #[.pointer (some ⟨s.ps, 0, none⟩)] 77 (0, 0))) (hn2 : ¬ s.b.mem b2) :
    IsStore (walkW w k s b2) s V c ∧ MemoAt (walkW w k s b2) (w.heap.size + 1 + 1 + 1) k c ∧ Env (walkW w k s b2) k s (w.heap.size + 1 + 1 + 1) (walkQ w b2) ∧ Below w.heap.size w (walkW w k s b2) := by
  have hb : Below w.heap.size w (walkW w k s b2) := ((((((Below.refl _ _).alloc (Nat.le_refl _) _).alloc (by simp) _).alloc (by simp; omega) _).alloc (by simp; omega) _).alloc (by simp; omega) _).alloc (by simp; omega) _
  have hsz : ∀ j, w.heap.size ≤ j → ¬ s.b.mem j := fun j hj hm => by have := hs.lt hm; omega
  have lt2 := lt_of_block hb2
  have lps := hs.lps
  have nf : ∀ j, w.heap.size ≤ j → j ≠ w.heap.size + 1 + 1 + 1 → ¬ famMem s (w.heap.size + 1 + 1 + 1) j := fun j h1 h2 h3 => h3.elim (hsz j h1) h2
  refine ⟨hs.below hb, ?_, ⟨?_, ?_, ?_, ?_, ?_, (hb.block _ lt2).trans hb2, ⟨nf _ (by dsimp only [walkQ]; omega) (by dsimp only [walkQ]; omega), nf _ (by dsimp only [walkQ]; omega) (by dsimp only [walkQ]; omega), nf _ (by dsimp only [walkQ]; omega) (by dsimp only [walkQ]; omega), nf _ (by dsimp only [walkQ]; omega) (by dsimp only [walkQ]; omega), nf _ (by dsimp only [walkQ]; omega) (by dsimp only [walkQ]; omega), fun h => h.elim hn2 (fun e => by dsimp only [walkQ] at e; omega)⟩, ⟨hsz _ (by omega), by omega⟩⟩, hb⟩
  · refine MemoAt.below (w := (((w.alloc (.cells #[.pointer (some ⟨s.ps, 0, none⟩)] 77)).alloc (.cells #[.func (.func k.efn) #[] #[]] 113)).alloc (.cells #[.func (.func k.mfn) #[] #[.pointer (some ⟨b2, 0, none⟩)]] 114)).alloc (.map #[] 0)) ?_ (((Below.refl _ _).alloc (Nat.le_refl _) _).alloc (by simp) _)
    have := memo_new ((((w.alloc (.cells #[.pointer (some ⟨s.ps, 0, none⟩)] 77)).alloc (.cells #[.func (.func k.efn) #[] #[]] 113)).alloc (.cells #[.func (.func k.mfn) #[] #[.pointer (some ⟨b2, 0, none⟩)]] 114))) k c
    simpa only [alloc_size] using this
  · exact heap_up (heap_up (heap_up (heap_up (heap_at (by simp only [alloc_size]; rfl)))))
  · exact heap_up (heap_at (by simp only [alloc_size]; rfl))
  · exact heap_up (heap_up (heap_up (heap_up (heap_up (heap_at rfl)))))
  · exact heap_up (heap_up (heap_up (heap_at (by simp only [alloc_size]; rfl))))
  · exact heap_at (by simp only [alloc_size]; rfl)

set_option maxRecDepth 100000 in
set_option maxHeartbeats 4000000 in
theorem walk_any {V L : Int} (hV : V ≤ 24) (hL : V ≤ L + 3) {k : Kd} {s : Fb} (hag : ∀ md q f, AgainOk V L k s md q f) (a b : Int) (b2 : Nat) (w : World) (c : Cells) (hs : IsStore w s V c) (zo : ZOk V c) (hb2 : w.heap[b2]? = some (.cells #[.pointer (some ⟨s.ps, 0, none⟩)] 77 (0, 0))) (hn2 : ¬ s.b.mem b2)
    (ha : hasM c a = true) (hb : hasM c b = true) (hr : lows L c + k.cost (L - min (topM c a) (topM c b)).toNat + hiB V L < c.length) :
    Calls Try.prog 87 #[.pointer (some ⟨s.ps, 0, none⟩), .int .i64 a, .int .i64 b, .func (.func k.efn) #[] #[], .func (.func k.mfn) #[] #[.pointer (some ⟨b2, 0, none⟩)]] w (FPost V L k s c a b w) := by
  have hmm := @run_makeMap Try.prog
  have hmf : ∀ (fn : Fn) (first cap : Array Value) (w : World), (Instr.makeFunc fn first cap).run Try.prog w = .ok (.func fn first cap) w := fun _ _ _ _ => rfl
  obtain ⟨s1, s2, s3, s4⟩ := walk_start (k := k) hs hb2 hn2
  have hq := hag _ _ 25 a b _ c s1 s2 s3 zo ha hb (by have := topM_le zo.ok a; have := topM_le zo.ok b; omega) hr
  unfold argsW walkQ walkW at hq
  have Hq := Lib.hid hq; have S4 := Lib.hid s4
  clear hag hs zo hb2 hn2 ha hb hr s1 s2 s3 s4 hq
  go_enter Try.func87, Try.ntmps87
  go_wp2_with fail
  with_reducible refine Hq.out.mono ?_
  rintro e w1 ⟨c1, x, rfl, h1, h2, h3, h4⟩
  have h5 : Only s.b.mem w w1 := ((Only.of_below S4.out rfl).trans h3).cut2 (fun j hj hm => hm.elim id (fun e => by omega))
  have H1 := Lib.hid h1; have H4 := Lib.hid h4; have H5 := Lib.hid h5
  clear h1 h2 h3 h4 h5 Hq S4
  go_wp2_with fail
  go_ret2
  exact ⟨c1, x, rfl, H1.out, H5.out, H4.out⟩

set_option maxHeartbeats 2000000 in
theorem for_any {V L : Int} (hV : V ≤ 24) (hL : V ≤ L + 3) {s : Fb} (a b : Int) (w : World) (c : Cells) (hs : IsStore w s V c) (zo : ZOk V c) (ha : hasM c a = true) (hb : hasM c b = true) (hr : lows L c + Kd.or.cost (L - min (topM c a) (topM c b)).toNat + hiB V L < c.length) :
    Calls Try.prog 91 #[.pointer (some ⟨s.ps, 0, none⟩), .int .i64 a, .int .i64 b] w (FPost V L .or s c a b w) := by
  have hmf : ∀ (fn : Fn) (first cap : Array Value) (w : World), (Instr.makeFunc fn first cap).run Try.prog w = .ok (.func fn first cap) w := fun _ _ _ _ => rfl
  have hb1 : Below w.heap.size w (w.alloc (.cells #[.pointer (some ⟨s.ps, 0, none⟩)] 77)) := (Below.refl _ _).alloc (Nat.le_refl _) _
  have hq := walk_any hV hL (fun md q f => again_or hV hL s md q f) a b w.heap.size (w.alloc (.cells #[.pointer (some ⟨s.ps, 0, none⟩)] 77)) c (hs.below hb1) zo (heap_at rfl) (fun hm => by have := hs.lt hm; omega) ha hb hr
  have Hq := Lib.hid hq; have HB := Lib.hid hb1
  clear hq hs zo ha hb hr hb1
  go_enter Try.func91, Try.ntmps91
  go_wp2_with fail
  refine Hq.out.mono ?_
  rintro e w1 ⟨c1, x, rfl, h1, h2, h3⟩
  have H1 := Lib.hid h1; have H2 := Lib.hid h2; have H3 := Lib.hid h3
  clear h1 h2 h3 Hq
  go_wp2_with fail
  go_ret2
  exact ⟨c1, x, rfl, H1.out, (Only.of_below HB.out rfl).trans H2.out, H3.out⟩

set_option maxHeartbeats 2000000 in
theorem fless_any {V L : Int} (hV : V ≤ 24) (hL : V ≤ L + 3) {s : Fb} (a b : Int) (w : World) (c : Cells) (hs : IsStore w s V c) (zo : ZOk V c) (ha : hasM c a = true) (hb : hasM c b = true) (hr : lows L c + Kd.less.cost (L - min (topM c a) (topM c b)).toNat + hiB V L < c.length) :
    Calls Try.prog 92 #[.pointer (some ⟨s.ps, 0, none⟩), .int .i64 a, .int .i64 b] w (FPost V L .less s c a b w) := by
  have hmf : ∀ (fn : Fn) (first cap : Array Value) (w : World), (Instr.makeFunc fn first cap).run Try.prog w = .ok (.func fn first cap) w := fun _ _ _ _ => rfl
  have hb1 : Below w.heap.size w (w.alloc (.cells #[.pointer (some ⟨s.ps, 0, none⟩)] 77)) := (Below.refl _ _).alloc (Nat.le_refl _) _
  have hq := walk_any hV hL (fun md q f => again_less hV hL s md q f) a b w.heap.size (w.alloc (.cells #[.pointer (some ⟨s.ps, 0, none⟩)] 77)) c (hs.below hb1) zo (heap_at rfl) (fun hm => by have := hs.lt hm; omega) ha hb hr
  have Hq := Lib.hid hq; have HB := Lib.hid hb1
  clear hq hs zo ha hb hr hb1
  go_enter Try.func92, Try.ntmps92
  go_wp2_with fail
  refine Hq.out.mono ?_
  rintro e w1 ⟨c1, x, rfl, h1, h2, h3⟩
  have H1 := Lib.hid h1; have H2 := Lib.hid h2; have H3 := Lib.hid h3
  clear h1 h2 h3 Hq
  go_wp2_with fail
  go_ret2
  exact ⟨c1, x, rfl, H1.out, (Only.of_below HB.out rfl).trans H2.out, H3.out⟩

set_option maxHeartbeats 2000000 in
theorem ffree_any {V L : Int} (hV : V ≤ 24) (hL : V ≤ L + 3) {s : Fb} (a b : Int) (w : World) (c : Cells) (hs : IsStore w s V c) (zo : ZOk V c) (ha : hasM c a = true) (hb : hasM c b = true) (hr : lows L c + Kd.free.cost (L - min (topM c a) (topM c b)).toNat + hiB V L < c.length) :
    Calls Try.prog 95 #[.pointer (some ⟨s.ps, 0, none⟩), .int .i64 a, .int .i64 b] w (FPost V L .free s c a b w) := by
  have hmf : ∀ (fn : Fn) (first cap : Array Value) (w : World), (Instr.makeFunc fn first cap).run Try.prog w = .ok (.func fn first cap) w := fun _ _ _ _ => rfl
  have hb1 : Below w.heap.size w (w.alloc (.cells #[.pointer (some ⟨s.ps, 0, none⟩)] 77)) := (Below.refl _ _).alloc (Nat.le_refl _) _
  have hq := walk_any hV hL (fun md q f => again_free hV hL s md q f) a b w.heap.size (w.alloc (.cells #[.pointer (some ⟨s.ps, 0, none⟩)] 77)) c (hs.below hb1) zo (heap_at rfl) (fun hm => by have := hs.lt hm; omega) ha hb hr
  have Hq := Lib.hid hq; have HB := Lib.hid hb1
  clear hq hs zo ha hb hr hb1
  go_enter Try.func95, Try.ntmps95
  go_wp2_with fail
  refine Hq.out.mono ?_
  rintro e w1 ⟨c1, x, rfl, h1, h2, h3⟩
  have H1 := Lib.hid h1; have H2 := Lib.hid h2; have H3 := Lib.hid h3
  clear h1 h2 h3 Hq
  go_wp2_with fail
  go_ret2
  exact ⟨c1, x, rfl, H1.out, (Only.of_below HB.out rfl).trans H2.out, H3.out⟩
end Go.Proofs.Ytmlnfbageoabnaa
