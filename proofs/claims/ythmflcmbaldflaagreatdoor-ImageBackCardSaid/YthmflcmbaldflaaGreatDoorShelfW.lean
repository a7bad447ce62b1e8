/-
  DERIVED: THE SHELF's CONTRACTS AT THIS DUMP, IN PLAIN WORDS (tools/lay-plain.mjs out of 'TryzScratchShelf.lean', which tools/lay-shelf.mjs wrote): THE SAME DECLARATIONS UNDER THE SAME NAMES: 'import', 'namespace', 'open', 'def', 'theorem' AND NOTHING ELSE: no command of the shelf's: FOR A HAND-IN. Each laying: the table of numbers ('.._ren') and one theorem, a field a fact of the dump's own or the kernel's comparison; each contract: ONE APPLICATION.
-/
import Derived.Shelf.SlGeneric
import Derived.Shelf.Bytes.WriteStringKept
import Derived.Shelf.Bytes.Bytes
import Derived.Test.YthmflcmbaldflaaGreatDoorProg
namespace Go.Proofs
open Go.Shelf
def Tryz.lays178_ren : Go.Shelf.Ren := ⟨fun | 178 => 22 | 251 => 49 | 252 => 50 | 181 => 67 | 184 => 68 | 290 => 69 | 324 => 83 | n => n, fun | 130 => 101 | 9 => 9 | 3 => 3 | 75 => 30 | 0 => 0 | 93 => 64 | 91 => 62 | 131 => 66 | 4 => 4 | 37 => 28 | 20 => 20 | 80 => 191 | 5 => 5 | n => n, fun | 14 => 0 | n => n⟩
theorem Tryz.lays178 : Go.Proofs.LaysM.n178 Tryz.prog Tryz.lays178_ren := {
  mixed := by kernel_rfl
  f178 := Tryz.func22.trans (congrArg some (by kernel_rfl))
  f181 := Tryz.func67.trans (congrArg some (by kernel_rfl))
  f184 := Tryz.func68.trans (congrArg some (by kernel_rfl))
  f251 := Tryz.func49.trans (congrArg some (by kernel_rfl))
  f252 := Tryz.func50.trans (congrArg some (by kernel_rfl))
  f290 := Tryz.func69.trans (congrArg some (by kernel_rfl))
  f324 := Tryz.func83.trans (congrArg some (by kernel_rfl))
  t0 := Tryz.underlying0
  a0 := Tryz.isAgg0
  z0 := Tryz.sizeOf0
  v0 := Tryz.zeroValue0
  t3 := Tryz.underlying3
  a3 := Tryz.isAgg3
  z3 := Tryz.sizeOf3
  v3 := Tryz.zeroValue3
  t4 := Tryz.underlying4
  a4 := Tryz.isAgg4
  z4 := Tryz.sizeOf4
  v4 := Tryz.zeroValue4
  t9 := Tryz.underlying9
  a9 := Tryz.isAgg9
  z9 := Tryz.sizeOf9
  v9 := Tryz.zeroValue9
  t20 := Tryz.underlying20
  a20 := Tryz.isAgg20
  z20 := Tryz.sizeOf20
  v20 := Tryz.zeroValue20
  t37 := Tryz.underlying28
  a37 := Tryz.isAgg28
  z37 := Tryz.sizeOf28
  v37 := Tryz.zeroValue28
  t75 := Tryz.underlying30
  a75 := Tryz.isAgg30
  z75 := Tryz.sizeOf30
  v75 := Tryz.zeroValue30
  t91 := Tryz.underlying62
  a91 := Tryz.isAgg62
  z91 := Tryz.sizeOf62
  v91 := Tryz.zeroValue62
  t93 := Tryz.underlying64
  a93 := Tryz.isAgg64
  z93 := Tryz.sizeOf64
  v93 := Tryz.zeroValue64
  t130 := Tryz.underlying101
  a130 := Tryz.isAgg101
  z130 := Tryz.sizeOf101
  v130 := Tryz.zeroValue101
  t131 := Tryz.underlying66
  a131 := Tryz.isAgg66
  z131 := Tryz.sizeOf66
  v131 := Tryz.zeroValue66
  g14 := by kernel_rfl
  t5 := Tryz.underlying5
  a5 := Tryz.isAgg5
  z5 := Tryz.sizeOf5
  v5 := Tryz.zeroValue5
  t80 := Tryz.underlying191
  a80 := Tryz.isAgg191
  z80 := Tryz.sizeOf191
  v80 := Tryz.zeroValue191
  i0 := by kernel_rfl
  i3 := by kernel_rfl
  i4 := by kernel_rfl
  i5 := by kernel_rfl
  i9 := by kernel_rfl
  i20 := by kernel_rfl
  i37 := by kernel_rfl
  i75 := by kernel_rfl
  i80 := by kernel_rfl
  i91 := by kernel_rfl
  i93 := by kernel_rfl
  i130 := by kernel_rfl
  i131 := by kernel_rfl
  m14 := by kernel_rfl }
def Tryz.lays183_ren : Go.Shelf.Ren := ⟨fun | 183 => 24 | n => n, fun | 130 => 101 | 37 => 28 | 0 => 0 | 93 => 64 | 3 => 3 | 5 => 5 | 91 => 62 | n => n, fun | n => n⟩
theorem Tryz.lays183 : Go.Proofs.LaysM.n183 Tryz.prog Tryz.lays183_ren := {
  mixed := by kernel_rfl
  f183 := Tryz.func24.trans (congrArg some (by kernel_rfl))
  t0 := Tryz.underlying0
  a0 := Tryz.isAgg0
  z0 := Tryz.sizeOf0
  v0 := Tryz.zeroValue0
  t3 := Tryz.underlying3
  a3 := Tryz.isAgg3
  z3 := Tryz.sizeOf3
  v3 := Tryz.zeroValue3
  t37 := Tryz.underlying28
  a37 := Tryz.isAgg28
  z37 := Tryz.sizeOf28
  v37 := Tryz.zeroValue28
  t93 := Tryz.underlying64
  a93 := Tryz.isAgg64
  z93 := Tryz.sizeOf64
  v93 := Tryz.zeroValue64
  t130 := Tryz.underlying101
  a130 := Tryz.isAgg101
  z130 := Tryz.sizeOf101
  v130 := Tryz.zeroValue101
  t5 := Tryz.underlying5
  a5 := Tryz.isAgg5
  z5 := Tryz.sizeOf5
  v5 := Tryz.zeroValue5
  t91 := Tryz.underlying62
  a91 := Tryz.isAgg62
  z91 := Tryz.sizeOf62
  v91 := Tryz.zeroValue62
  i0 := by kernel_rfl
  i3 := by kernel_rfl
  i5 := by kernel_rfl
  i37 := by kernel_rfl
  i91 := by kernel_rfl
  i93 := by kernel_rfl
  i130 := by kernel_rfl }
end Go.Proofs
