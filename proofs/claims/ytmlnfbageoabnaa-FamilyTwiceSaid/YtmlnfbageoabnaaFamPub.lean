/- Contracts: (*family.Store).Or, And, Less, Join, Without, Least. (Printed by gen_fampub.py.) -/
import Derived.Test.YtmlnfbageoabnaaFamJ
namespace Go.Proofs.Ytmlnfbageoabnaa
open Go.RowKit
set_option linter.unusedVariables false

set_option maxHeartbeats 2000000 in
theorem FOr_any {V L : Int} (hV : V ≤ 24) (hL : V ≤ L + 3) {s : Fb} (a b : Int) (w : World) (c : Cells) (hs : IsStore w s V c) (zo : ZOk V c) (ha : hasM c a = true) (hb : hasM c b = true) (hr : lows L c + Kd.or.cost (L - min (topM c a) (topM c b)).toNat + hiB V L < c.length) :
    Calls Try.prog 54 #[.pointer (some ⟨s.ps, 0, none⟩), .int .i64 a, .int .i64 b] w (FPost V L .or s c a b w) := by
  have hbo := fboth_any a b w s V c hs ha hb
  have hq := for_any hV hL a b w c hs zo ha hb hr
  have Hbo := Lib.hid hbo; have Hq := Lib.hid hq
  clear hbo hq hs zo ha hb hr
  go_enter Try.func54, Try.ntmps54
  go_wp2_with fail
  refine Hbo.out.mono ?_
  rintro e w1 ⟨rfl, rfl⟩
  go_wp2_with fail
  refine Hq.out.mono ?_
  rintro e w1 ⟨c1, x, rfl, h1, h2, h3⟩
  have H1 := Lib.hid h1; have H2 := Lib.hid h2; have H3 := Lib.hid h3
  clear h1 h2 h3 Hq Hbo
  go_wp2_with fail
  go_ret2
  exact ⟨c1, x, rfl, H1.out, H2.out, H3.out⟩

set_option maxHeartbeats 2000000 in
theorem FLess_any {V L : Int} (hV : V ≤ 24) (hL : V ≤ L + 3) {s : Fb} (a b : Int) (w : World) (c : Cells) (hs : IsStore w s V c) (zo : ZOk V c) (ha : hasM c a = true) (hb : hasM c b = true) (hr : lows L c + Kd.less.cost (L - min (topM c a) (topM c b)).toNat + hiB V L < c.length) :
    Calls Try.prog 56 #[.pointer (some ⟨s.ps, 0, none⟩), .int .i64 a, .int .i64 b] w (FPost V L .less s c a b w) := by
  have hbo := fboth_any a b w s V c hs ha hb
  have hq := fless_any hV hL a b w c hs zo ha hb hr
  have Hbo := Lib.hid hbo; have Hq := Lib.hid hq
  clear hbo hq hs zo ha hb hr
  go_enter Try.func56, Try.ntmps56
  go_wp2_with fail
  refine Hbo.out.mono ?_
  rintro e w1 ⟨rfl, rfl⟩
  go_wp2_with fail
  refine Hq.out.mono ?_
  rintro e w1 ⟨c1, x, rfl, h1, h2, h3⟩
  have H1 := Lib.hid h1; have H2 := Lib.hid h2; have H3 := Lib.hid h3
  clear h1 h2 h3 Hq Hbo
  go_wp2_with fail
  go_ret2
  exact ⟨c1, x, rfl, H1.out, H2.out, H3.out⟩

set_option maxHeartbeats 2000000 in
theorem FWithout_any {V L : Int} (hV : V ≤ 24) (hL : V ≤ L + 3) {s : Fb} (a b : Int) (w : World) (c : Cells) (hs : IsStore w s V c) (zo : ZOk V c) (ha : hasM c a = true) (hb : hasM c b = true) (hr : lows L c + Kd.free.cost (L - min (topM c a) (topM c b)).toNat + hiB V L < c.length) :
    Calls Try.prog 105 #[.pointer (some ⟨s.ps, 0, none⟩), .int .i64 a, .int .i64 b] w (FPost V L .free s c a b w) := by
  have hbo := fboth_any a b w s V c hs ha hb
  have hq := ffree_any hV hL a b w c hs zo ha hb hr
  have Hbo := Lib.hid hbo; have Hq := Lib.hid hq
  clear hbo hq hs zo ha hb hr
  go_enter Try.func105, Try.ntmps105
  go_wp2_with fail
  refine Hbo.out.mono ?_
  rintro e w1 ⟨rfl, rfl⟩
  go_wp2_with fail
  refine Hq.out.mono ?_
  rintro e w1 ⟨c1, x, rfl, h1, h2, h3⟩
  have H1 := Lib.hid h1; have H2 := Lib.hid h2; have H3 := Lib.hid h3
  clear h1 h2 h3 Hq Hbo
  go_wp2_with fail
  go_ret2
  exact ⟨c1, x, rfl, H1.out, H2.out, H3.out⟩

set_option maxHeartbeats 2000000 in
theorem FAnd_any {V L : Int} (hV : V ≤ 24) (hL : V ≤ L + 3) {s : Fb} (a b : Int) (w : World) (c : Cells) (hs : IsStore w s V c) (zo : ZOk V c) (ha : hasM c a = true) (hb : hasM c b = true) (hr : lows L c + Kd.and.cost (L - min (topM c a) (topM c b)).toNat + hiB V L < c.length) :
    Calls Try.prog 52 #[.pointer (some ⟨s.ps, 0, none⟩), .int .i64 a, .int .i64 b] w (FPost V L .and s c a b w) := by
  have hmf : ∀ (fn : Fn) (first cap : Array Value) (w : World), (Instr.makeFunc fn first cap).run Try.prog w = .ok (.func fn first cap) w := fun _ _ _ _ => rfl
  have hb1 : Below w.heap.size w (w.alloc (.cells #[.pointer (some ⟨s.ps, 0, none⟩)] 77)) := (Below.refl _ _).alloc (Nat.le_refl _) _
  have hbo := fboth_any a b _ s V c (hs.below hb1) ha hb
  have hq := walk_any hV hL (fun md q f => again_and hV hL s md q f) a b w.heap.size (w.alloc (.cells #[.pointer (some ⟨s.ps, 0, none⟩)] 77)) c (hs.below hb1) zo (heap_at rfl) (fun hm => by have := hs.lt hm; omega) ha hb hr
  have Hbo := Lib.hid hbo; have Hq := Lib.hid hq; have HB := Lib.hid hb1
  clear hq hs zo ha hb hr hb1 hbo
  go_enter Try.func52, Try.ntmps52
  go_wp2_with fail
  refine Hbo.out.mono ?_
  rintro e w1 ⟨rfl, rfl⟩
  go_wp2_with fail
  refine Hq.out.mono ?_
  rintro e w1 ⟨c1, x, rfl, h1, h2, h3⟩
  have H1 := Lib.hid h1; have H2 := Lib.hid h2; have H3 := Lib.hid h3
  clear h1 h2 h3 Hq Hbo
  go_wp2_with fail
  go_ret2
  exact ⟨c1, x, rfl, H1.out, (Only.of_below HB.out rfl).trans H2.out, H3.out⟩

set_option maxHeartbeats 2000000 in
theorem FJoin_any {V L : Int} (hV : V ≤ 24) (hL : V ≤ L + 3) {s : Fb} (a b : Int) (w : World) (c : Cells) (hs : IsStore w s V c) (zo : ZOk V c) (ha : hasM c a = true) (hb : hasM c b = true) (hr : lows L c + Kd.join.cost (L - min (topM c a) (topM c b)).toNat + hiB V L < c.length) :
    Calls Try.prog 58 #[.pointer (some ⟨s.ps, 0, none⟩), .int .i64 a, .int .i64 b] w (FPost V L .join s c a b w) := by
  have hmf : ∀ (fn : Fn) (first cap : Array Value) (w : World), (Instr.makeFunc fn first cap).run Try.prog w = .ok (.func fn first cap) w := fun _ _ _ _ => rfl
  have hb1 : Below w.heap.size w (w.alloc (.cells #[.pointer (some ⟨s.ps, 0, none⟩)] 77)) := (Below.refl _ _).alloc (Nat.le_refl _) _
  have hbo := fboth_any a b _ s V c (hs.below hb1) ha hb
  have hq := walk_any hV hL (fun md q f => again_join hV hL s md q f) a b w.heap.size (w.alloc (.cells #[.pointer (some ⟨s.ps, 0, none⟩)] 77)) c (hs.below hb1) zo (heap_at rfl) (fun hm => by have := hs.lt hm; omega) ha hb hr
  have Hbo := Lib.hid hbo; have Hq := Lib.hid hq; have HB := Lib.hid hb1
  clear hq hs zo ha hb hr hb1 hbo
  go_enter Try.func58, Try.ntmps58
  go_wp2_with fail
  refine Hbo.out.mono ?_
  rintro e w1 ⟨rfl, rfl⟩
  go_wp2_with fail
  refine Hq.out.mono ?_
  rintro e w1 ⟨c1, x, rfl, h1, h2, h3⟩
  have H1 := Lib.hid h1; have H2 := Lib.hid h2; have H3 := Lib.hid h3
  clear h1 h2 h3 Hq Hbo
  go_wp2_with fail
  go_ret2
  exact ⟨c1, x, rfl, H1.out, (Only.of_below HB.out rfl).trans H2.out, H3.out⟩

end Go.Proofs.Ytmlnfbageoabnaa
