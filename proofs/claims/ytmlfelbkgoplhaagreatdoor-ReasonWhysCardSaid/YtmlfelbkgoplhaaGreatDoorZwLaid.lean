import Derived.Test.YtmlfelbkgoplhaaGreatDoorZwPkZ
import Derived.Test.YtmlfelbkgoplhaaGreatDoorZwListB
import Derived.Test.YtmlfelbkgoplhaaGreatDoorZwPkV
import Derived.Deep.RegionHeld3
set_option linter.unusedVariables false
set_option linter.unusedSimpArgs false
namespace Go.Proofs.YtmlfelbkgoplhaaGreatDoor
open Go.RowKit
theorem zkD {w : World} {q : Nat} {a b : Value} {T : TypeId} (h : w.heap[q]? = some (.cells #[a, b] T (0, 0))) : w.cell? ⟨q, 0, none⟩ = some a ∧ w.cell? ⟨q, 1, none⟩ = some b :=
 ⟨(zbm h).1, (zbm h).2.1⟩
structure zhj (B : Nat) (w0 wz : World) (bx : Nat) (a : Option Addr) (c n : Nat) : Prop where
 box : je wz bx a c n
 bel : Below B w0 wz
theorem zhj.behind {w0 w7 : World} {a : Option Addr} {c n : Nat} (h : zW w7 (.agg #[.slice a (zf n).length c]) n) (hb : Below w0.heap.size w0 w7) : zhj w0.heap.size w0 (w7.alloc (.cells #[.slice a (zf n).length c] 52)) w7.heap.size a c n := ⟨je.mk' h, hb.alloc hb.size _⟩
theorem zhj.ahead {w0 w7 : World} {a : Option Addr} {c n : Nat} (h : zW w7 (.agg #[.slice a (zf n).length c]) n) (hb : Below w0.heap.size w0 w7) (hz : w7.heap[w0.heap.size]? = some (.cells #[.slice none 0 0] 52 (0, 0))) : zhj w0.heap.size w0 (w7.setCell ⟨w0.heap.size, 0, none⟩ (.slice a (zf n).length c)) w0.heap.size a c n :=
 ⟨⟨one_setCell hz, h.xW hz _⟩, hb.setCell (znr _) _⟩
theorem Below.alD {w : World} (o : Obj) : Below w.heap.size w (w.alloc o).drew := ((Below.refl _ _).alloc (znr _) o).drew
