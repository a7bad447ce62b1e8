/- The last region of solspacekeep.RangeOrders, in one order. (Printed by gen_rolast.py.) -/
import Derived.Test.YtpnchjbdjcihfaaGreatDoorTxtO
import Derived.Test.YtpnchjbdjcihfaaGreatDoorROPlain
import Derived.Test.YtpnchjbdjcihfaaGreatDoorROSchA
import Derived.Test.YtpnchjbdjcihfaaGreatDoorROSchB
import Derived.Test.YtpnchjbdjcihfaaGreatDoorROSchC
namespace Go.Proofs.YtpnchjbdjcihfaaGreatDoor
open Go.RowKit Go.Lib
set_option linter.unusedVariables false

/-- What the loads look at. -/
def roS (n p : Nat) (a b c x y z : Int) (v1 v2 v3 v4 : Value) (w : World) : Prop :=
  w.cell? ⟨n, 0, none⟩ = some (.int .i64 a) ∧ w.cell? ⟨n, 1, none⟩ = some (.int .i64 b) ∧ w.cell? ⟨n, 2, none⟩ = some (.int .i64 c) ∧
    w.cell? ⟨n + 1, 0, none⟩ = some (.int .i64 x) ∧ w.cell? ⟨n + 1, 1, none⟩ = some (.int .i64 y) ∧ w.cell? ⟨n + 1, 2, none⟩ = some (.int .i64 z) ∧
    w.cell? ⟨p, 0, none⟩ = some v1 ∧ w.cell? ⟨p + 1, 0, none⟩ = some v2 ∧ w.cell? ⟨p + 1 + 1, 0, none⟩ = some v3 ∧ w.cell? ⟨p + 1 + 1 + 1, 0, none⟩ = some v4
/-- The boxes and the four ranges. -/
structure SO (n q p : Nat) (a b c x y z : Int) (sv : ByteArray) (lL lF lC lT : List Spn) (aL aF aC aT : Option Addr) (cL cF cC cT : Nat) (w0 w : World) : Prop where
  ob : OB n q p a b c x y z sv (.slice aL lL.length cL) (.slice aF lF.length cF) (.slice aC lC.length cC) (.slice aT lT.length cT) w
  sL : IsSp w (.slice aL lL.length cL) lL
  sF : IsSp w (.slice aF lF.length cF) lF
  sC : IsSp w (.slice aC lC.length cC) lC
  sT : IsSp w (.slice aT lT.length cT) lT
  hn : n ≤ w0.heap.size
  hb : Below n w0 w
/-- What is known of the ranges, and the calls. -/
structure RO (n q : Nat) (a b c x y z C : Int) (sv : ByteArray) (lL lF lC lT : List Spn) (w0 : World) : Prop where
  hv : VerOk a b c
  hw : VerOk x y z
  hC : C = cmp3 x y z a b c
  rL : OpR 2 a b c lL
  rF : OpR 5 a b c lF
  rC : OpR 6 a b c lC
  rT : OpR 7 a b c lT
  nL : lL.length ≤ 7000
  nF : lF.length ≤ 7000
  nC : lC.length ≤ 7000
  nT : lT.length ≤ 7000
  get : ∀ (o : List UInt8) (k : Nat) (w' : World), (o, k) ∈ opsT → Below n w0 w' → w'.cell? ⟨q, 0, none⟩ = some (.string sv) → Calls Tryz.prog 16 #[.string (wordB o), .pointer (some ⟨q, 0, none⟩)] w' (GetP k a b c w')
/-- The frame's boxes. -/
structure FrO (n q p : Nat) (a : Act) : Prop where
  s2 : a.tmps[2]? = some (.pointer (some ⟨n, 0, none⟩))
  s3 : a.tmps[3]? = some (.pointer (some ⟨n + 1, 0, none⟩))
  s6 : a.tmps[6]? = some (.func (.func 16) #[] #[.pointer (some ⟨q, 0, none⟩)])
  s7 : a.tmps[7]? = some (.pointer (some ⟨p, 0, none⟩))
  s8 : a.tmps[8]? = some (.pointer (some ⟨p + 1, 0, none⟩))
  s9 : a.tmps[9]? = some (.pointer (some ⟨p + 1 + 1, 0, none⟩))
  s10 : a.tmps[10]? = some (.pointer (some ⟨p + 1 + 1 + 1, 0, none⟩))
  sz : a.tmps.size = 162
  df : a.defers = []
theorem FrO.upd {n q p d : Nat} {a a' : Act} {v : Value} (h : FrO n q p a) (u : Upd a a' d v) (hd : 10 < d) : FrO n q p a' :=
  ⟨u.keep (by omega) h.s2, u.keep (by omega) h.s3, u.keep (by omega) h.s6, u.keep (by omega) h.s7, u.keep (by omega) h.s8, u.keep (by omega) h.s9, u.keep (by omega) h.s10, u.size.trans h.sz, u.df.trans h.df⟩
section
variable {n q p : Nat} {a b c x y z C : Int} {sv : ByteArray} {lL lF lC lT : List Spn} {aL aF aC aT : Option Addr} {cL cF cC cT : Nat} {w0 w : World}
theorem SO.below {w' : World} (h : SO n q p a b c x y z sv lL lF lC lT aL aF aC aT cL cF cC cT w0 w) (hb : Below w.heap.size w w') : SO n q p a b c x y z sv lL lF lC lT aL aF aC aT cL cF cC cT w0 w' :=
  ⟨h.ob.below hb, h.sL.below hb, h.sF.below hb, h.sC.below hb, h.sT.below hb, h.hn, h.hb.trans (hb.mono (Nat.le_trans h.hn h.hb.size))⟩
theorem SO.S (h : SO n q p a b c x y z sv lL lF lC lT aL aF aC aT cL cF cC cT w0 w) : roS n p a b c x y z (.slice aL lL.length cL) (.slice aF lF.length cF) (.slice aC lC.length cC) (.slice aT lT.length cT) w := h.ob.S
end

theorem roo0 : (roOps[0]?).map (fun o => (o.op, o.dst, o.guard)) = some (.load 24 (.tmp 7), some 37, none) := by kernel_rfl
theorem roo1 : (roOps[1]?).map (fun o => (o.op, o.dst, o.guard)) = some (.load 35 (.tmp 3), some 38, none) := by kernel_rfl
theorem roo2 : (roOps[2]?).map (fun o => (o.op, o.dst, o.guard)) = some (.call { callee := .value (.func 14), args := #[.tmp 37, .tmp 38], argTypes := #[24, 35] }, some 39, none) := by kernel_rfl
theorem roo3 : (roOps[3]?).map (fun o => (o.op, o.dst, o.guard)) = some (.load 35 (.tmp 3), some 40, none) := by kernel_rfl
theorem roo4 : (roOps[4]?).map (fun o => (o.op, o.dst, o.guard)) = some (.load 35 (.tmp 2), some 41, none) := by kernel_rfl
theorem roo5 : (roOps[5]?).map (fun o => (o.op, o.dst, o.guard)) = some (.call { callee := .value (.func 17), args := #[.tmp 40, .tmp 41], argTypes := #[35, 35] }, some 42, none) := by kernel_rfl
theorem roo6 : (roOps[6]?).map (fun o => (o.op, o.dst, o.guard)) = some (.binOp .lss 3 (.tmp 42) (.const (.int .i64 0)) 3, some 43, none) := by kernel_rfl
theorem roo7 : (roOps[7]?).map (fun o => (o.op, o.dst, o.guard)) = some (.binOp .eql 4 (.tmp 39) (.tmp 43) 4, some 44, none) := by kernel_rfl
theorem roo8 : (roOps[8]?).map (fun o => (o.op, o.dst, o.guard)) = some (.move (.tmp 44), some 45, none) := by kernel_rfl
theorem roo9 : (roOps[9]?).map (fun o => (o.op, o.dst, o.guard)) = some (.load 24 (.tmp 8), some 46, some (8, true)) := by kernel_rfl
theorem roo10 : (roOps[10]?).map (fun o => (o.op, o.dst, o.guard)) = some (.load 35 (.tmp 3), some 47, some (8, true)) := by kernel_rfl
theorem roo11 : (roOps[11]?).map (fun o => (o.op, o.dst, o.guard)) = some (.call { callee := .value (.func 14), args := #[.tmp 46, .tmp 47], argTypes := #[24, 35] }, some 48, some (8, true)) := by kernel_rfl
theorem roo12 : (roOps[12]?).map (fun o => (o.op, o.dst, o.guard)) = some (.load 35 (.tmp 3), some 49, some (8, true)) := by kernel_rfl
theorem roo13 : (roOps[13]?).map (fun o => (o.op, o.dst, o.guard)) = some (.load 35 (.tmp 2), some 50, some (8, true)) := by kernel_rfl
theorem roo14 : (roOps[14]?).map (fun o => (o.op, o.dst, o.guard)) = some (.call { callee := .value (.func 17), args := #[.tmp 49, .tmp 50], argTypes := #[35, 35] }, some 51, some (8, true)) := by kernel_rfl
theorem roo15 : (roOps[15]?).map (fun o => (o.op, o.dst, o.guard)) = some (.binOp .geq 3 (.tmp 51) (.const (.int .i64 0)) 3, some 52, some (8, true)) := by kernel_rfl
theorem roo16 : (roOps[16]?).map (fun o => (o.op, o.dst, o.guard)) = some (.binOp .eql 4 (.tmp 48) (.tmp 52) 4, some 53, some (8, true)) := by kernel_rfl
theorem roo17 : (roOps[17]?).map (fun o => (o.op, o.dst, o.guard)) = some (.pick (.tmp 45) (.tmp 53) (.const (.bool false)), some 54, none) := by kernel_rfl
theorem roo18 : (roOps[18]?).map (fun o => (o.op, o.dst, o.guard)) = some (.move (.tmp 54), some 55, none) := by kernel_rfl
theorem roo19 : (roOps[19]?).map (fun o => (o.op, o.dst, o.guard)) = some (.move (.tmp 6), some 56, some (18, true)) := by kernel_rfl
theorem roo20 : (roOps[20]?).map (fun o => (o.op, o.dst, o.guard)) = some (.call { callee := .value (.tmp 56), args := #[.const (.string { data := #[60, 61] })], argTypes := #[9] }, some 57, some (18, true)) := by kernel_rfl
theorem roo21 : (roOps[21]?).map (fun o => (o.op, o.dst, o.guard)) = some (.load 35 (.tmp 3), some 58, some (18, true)) := by kernel_rfl
theorem roo22 : (roOps[22]?).map (fun o => (o.op, o.dst, o.guard)) = some (.call { callee := .value (.func 14), args := #[.tmp 57, .tmp 58], argTypes := #[24, 35] }, some 59, some (18, true)) := by kernel_rfl
theorem roo23 : (roOps[23]?).map (fun o => (o.op, o.dst, o.guard)) = some (.load 35 (.tmp 3), some 60, some (18, true)) := by kernel_rfl
theorem roo24 : (roOps[24]?).map (fun o => (o.op, o.dst, o.guard)) = some (.load 35 (.tmp 2), some 61, some (18, true)) := by kernel_rfl
theorem roo25 : (roOps[25]?).map (fun o => (o.op, o.dst, o.guard)) = some (.call { callee := .value (.func 17), args := #[.tmp 60, .tmp 61], argTypes := #[35, 35] }, some 62, some (18, true)) := by kernel_rfl
theorem roo26 : (roOps[26]?).map (fun o => (o.op, o.dst, o.guard)) = some (.binOp .leq 3 (.tmp 62) (.const (.int .i64 0)) 3, some 63, some (18, true)) := by kernel_rfl
theorem roo27 : (roOps[27]?).map (fun o => (o.op, o.dst, o.guard)) = some (.binOp .eql 4 (.tmp 59) (.tmp 63) 4, some 64, some (18, true)) := by kernel_rfl
theorem roo28 : (roOps[28]?).map (fun o => (o.op, o.dst, o.guard)) = some (.pick (.tmp 55) (.tmp 64) (.const (.bool false)), some 65, none) := by kernel_rfl
theorem roo29 : (roOps[29]?).map (fun o => (o.op, o.dst, o.guard)) = some (.move (.tmp 65), some 66, none) := by kernel_rfl
theorem roo30 : (roOps[30]?).map (fun o => (o.op, o.dst, o.guard)) = some (.move (.tmp 6), some 67, some (29, true)) := by kernel_rfl
theorem roo31 : (roOps[31]?).map (fun o => (o.op, o.dst, o.guard)) = some (.call { callee := .value (.tmp 67), args := #[.const (.string { data := #[62] })], argTypes := #[9] }, some 68, some (29, true)) := by kernel_rfl
theorem roo32 : (roOps[32]?).map (fun o => (o.op, o.dst, o.guard)) = some (.load 35 (.tmp 3), some 69, some (29, true)) := by kernel_rfl
theorem roo33 : (roOps[33]?).map (fun o => (o.op, o.dst, o.guard)) = some (.call { callee := .value (.func 14), args := #[.tmp 68, .tmp 69], argTypes := #[24, 35] }, some 70, some (29, true)) := by kernel_rfl
theorem roo34 : (roOps[34]?).map (fun o => (o.op, o.dst, o.guard)) = some (.load 35 (.tmp 3), some 71, some (29, true)) := by kernel_rfl
theorem roo35 : (roOps[35]?).map (fun o => (o.op, o.dst, o.guard)) = some (.load 35 (.tmp 2), some 72, some (29, true)) := by kernel_rfl
theorem roo36 : (roOps[36]?).map (fun o => (o.op, o.dst, o.guard)) = some (.call { callee := .value (.func 17), args := #[.tmp 71, .tmp 72], argTypes := #[35, 35] }, some 73, some (29, true)) := by kernel_rfl
theorem roo37 : (roOps[37]?).map (fun o => (o.op, o.dst, o.guard)) = some (.binOp .gtr 3 (.tmp 73) (.const (.int .i64 0)) 3, some 74, some (29, true)) := by kernel_rfl
theorem roo38 : (roOps[38]?).map (fun o => (o.op, o.dst, o.guard)) = some (.binOp .eql 4 (.tmp 70) (.tmp 74) 4, some 75, some (29, true)) := by kernel_rfl
theorem roo39 : (roOps[39]?).map (fun o => (o.op, o.dst, o.guard)) = some (.pick (.tmp 66) (.tmp 75) (.const (.bool false)), some 76, none) := by kernel_rfl
theorem roo40 : (roOps[40]?).map (fun o => (o.op, o.dst, o.guard)) = some (.move (.tmp 76), some 77, none) := by kernel_rfl
theorem roo41 : (roOps[41]?).map (fun o => (o.op, o.dst, o.guard)) = some (.move (.tmp 6), some 78, some (40, true)) := by kernel_rfl
theorem roo42 : (roOps[42]?).map (fun o => (o.op, o.dst, o.guard)) = some (.call { callee := .value (.tmp 78), args := #[.const (.string { data := #[] })], argTypes := #[9] }, some 79, some (40, true)) := by kernel_rfl
theorem roo43 : (roOps[43]?).map (fun o => (o.op, o.dst, o.guard)) = some (.load 35 (.tmp 3), some 80, some (40, true)) := by kernel_rfl
theorem roo44 : (roOps[44]?).map (fun o => (o.op, o.dst, o.guard)) = some (.call { callee := .value (.func 14), args := #[.tmp 79, .tmp 80], argTypes := #[24, 35] }, some 81, some (40, true)) := by kernel_rfl
theorem roo45 : (roOps[45]?).map (fun o => (o.op, o.dst, o.guard)) = some (.load 35 (.tmp 3), some 82, some (40, true)) := by kernel_rfl
theorem roo46 : (roOps[46]?).map (fun o => (o.op, o.dst, o.guard)) = some (.load 35 (.tmp 2), some 83, some (40, true)) := by kernel_rfl
theorem roo47 : (roOps[47]?).map (fun o => (o.op, o.dst, o.guard)) = some (.call { callee := .value (.func 17), args := #[.tmp 82, .tmp 83], argTypes := #[35, 35] }, some 84, some (40, true)) := by kernel_rfl
theorem roo48 : (roOps[48]?).map (fun o => (o.op, o.dst, o.guard)) = some (.binOp .eql 3 (.tmp 84) (.const (.int .i64 0)) 3, some 85, some (40, true)) := by kernel_rfl
theorem roo49 : (roOps[49]?).map (fun o => (o.op, o.dst, o.guard)) = some (.binOp .eql 4 (.tmp 81) (.tmp 85) 4, some 86, some (40, true)) := by kernel_rfl
theorem roo50 : (roOps[50]?).map (fun o => (o.op, o.dst, o.guard)) = some (.pick (.tmp 77) (.tmp 86) (.const (.bool false)), some 87, none) := by kernel_rfl
theorem roo51 : (roOps[51]?).map (fun o => (o.op, o.dst, o.guard)) = some (.move (.tmp 87), some 88, none) := by kernel_rfl
theorem roo52 : (roOps[52]?).map (fun o => (o.op, o.dst, o.guard)) = some (.move (.tmp 6), some 89, some (51, true)) := by kernel_rfl
theorem roo53 : (roOps[53]?).map (fun o => (o.op, o.dst, o.guard)) = some (.call { callee := .value (.tmp 89), args := #[.const (.string { data := #[33] })], argTypes := #[9] }, some 90, some (51, true)) := by kernel_rfl
theorem roo54 : (roOps[54]?).map (fun o => (o.op, o.dst, o.guard)) = some (.move (.tmp 6), some 91, some (51, true)) := by kernel_rfl
theorem roo55 : (roOps[55]?).map (fun o => (o.op, o.dst, o.guard)) = some (.call { callee := .value (.tmp 91), args := #[.const (.string { data := #[61] })], argTypes := #[9] }, some 92, some (51, true)) := by kernel_rfl
theorem roo56 : (roOps[56]?).map (fun o => (o.op, o.dst, o.guard)) = some (.call { callee := .value (.func 9), args := #[.tmp 92], argTypes := #[24] }, some 93, some (51, true)) := by kernel_rfl
theorem roo57 : (roOps[57]?).map (fun o => (o.op, o.dst, o.guard)) = some (.call { callee := .value (.func 10), args := #[.tmp 90, .tmp 93], argTypes := #[24, 24] }, some 94, some (51, true)) := by kernel_rfl
theorem roo58 : (roOps[58]?).map (fun o => (o.op, o.dst, o.guard)) = some (.pick (.tmp 88) (.tmp 94) (.const (.bool false)), some 95, none) := by kernel_rfl
theorem roo59 : (roOps[59]?).map (fun o => (o.op, o.dst, o.guard)) = some (.move (.tmp 95), some 96, none) := by kernel_rfl
theorem roo60 : (roOps[60]?).map (fun o => (o.op, o.dst, o.guard)) = some (.load 24 (.tmp 7), some 97, some (59, true)) := by kernel_rfl
theorem roo61 : (roOps[61]?).map (fun o => (o.op, o.dst, o.guard)) = some (.call { callee := .value (.func 9), args := #[.tmp 97], argTypes := #[24] }, some 98, some (59, true)) := by kernel_rfl
theorem roo62 : (roOps[62]?).map (fun o => (o.op, o.dst, o.guard)) = some (.load 24 (.tmp 8), some 99, some (59, true)) := by kernel_rfl
theorem roo63 : (roOps[63]?).map (fun o => (o.op, o.dst, o.guard)) = some (.call { callee := .value (.func 10), args := #[.tmp 98, .tmp 99], argTypes := #[24, 24] }, some 100, some (59, true)) := by kernel_rfl
theorem roo64 : (roOps[64]?).map (fun o => (o.op, o.dst, o.guard)) = some (.pick (.tmp 96) (.tmp 100) (.const (.bool false)), some 101, none) := by kernel_rfl
theorem roo65 : (roOps[65]?).map (fun o => (o.op, o.dst, o.guard)) = some (.move (.tmp 101), some 102, none) := by kernel_rfl
theorem roo66 : (roOps[66]?).map (fun o => (o.op, o.dst, o.guard)) = some (.load 24 (.tmp 9), some 103, some (65, true)) := by kernel_rfl
theorem roo67 : (roOps[67]?).map (fun o => (o.op, o.dst, o.guard)) = some (.load 35 (.tmp 2), some 104, some (65, true)) := by kernel_rfl
theorem roo68 : (roOps[68]?).map (fun o => (o.op, o.dst, o.guard)) = some (.call { callee := .value (.func 14), args := #[.tmp 103, .tmp 104], argTypes := #[24, 35] }, some 105, some (65, true)) := by kernel_rfl
theorem roo69 : (roOps[69]?).map (fun o => (o.op, o.dst, o.guard)) = some (.pick (.tmp 102) (.tmp 105) (.const (.bool false)), some 106, none) := by kernel_rfl
theorem roo70 : (roOps[70]?).map (fun o => (o.op, o.dst, o.guard)) = some (.move (.tmp 106), some 107, none) := by kernel_rfl
theorem roo71 : (roOps[71]?).map (fun o => (o.op, o.dst, o.guard)) = some (.load 24 (.tmp 10), some 108, some (70, true)) := by kernel_rfl
theorem roo72 : (roOps[72]?).map (fun o => (o.op, o.dst, o.guard)) = some (.load 35 (.tmp 2), some 109, some (70, true)) := by kernel_rfl
theorem roo73 : (roOps[73]?).map (fun o => (o.op, o.dst, o.guard)) = some (.call { callee := .value (.func 14), args := #[.tmp 108, .tmp 109], argTypes := #[24, 35] }, some 110, some (70, true)) := by kernel_rfl
theorem roo74 : (roOps[74]?).map (fun o => (o.op, o.dst, o.guard)) = some (.pick (.tmp 107) (.tmp 110) (.const (.bool false)), some 111, none) := by kernel_rfl
theorem roo75 : (roOps[75]?).map (fun o => (o.op, o.dst, o.guard)) = some (.move (.tmp 111), some 112, none) := by kernel_rfl
theorem roo76 : (roOps[76]?).map (fun o => (o.op, o.dst, o.guard)) = some (.load 24 (.tmp 9), some 113, some (75, true)) := by kernel_rfl
theorem roo77 : (roOps[77]?).map (fun o => (o.op, o.dst, o.guard)) = some (.load 24 (.tmp 7), some 114, some (75, true)) := by kernel_rfl
theorem roo78 : (roOps[78]?).map (fun o => (o.op, o.dst, o.guard)) = some (.call { callee := .value (.func 8), args := #[.tmp 113, .tmp 114], argTypes := #[24, 24] }, some 115, some (75, true)) := by kernel_rfl
theorem roo79 : (roOps[79]?).map (fun o => (o.op, o.dst, o.guard)) = some (.call { callee := .value (.func 13), args := #[.tmp 115], argTypes := #[24] }, some 116, some (75, true)) := by kernel_rfl
theorem roo80 : (roOps[80]?).map (fun o => (o.op, o.dst, o.guard)) = some (.pick (.tmp 112) (.tmp 116) (.const (.bool false)), some 117, none) := by kernel_rfl
theorem roo81 : (roOps[81]?).map (fun o => (o.op, o.dst, o.guard)) = some (.move (.tmp 117), some 118, none) := by kernel_rfl
theorem roo82 : (roOps[82]?).map (fun o => (o.op, o.dst, o.guard)) = some (.load 24 (.tmp 10), some 119, some (81, true)) := by kernel_rfl
theorem roo83 : (roOps[83]?).map (fun o => (o.op, o.dst, o.guard)) = some (.load 24 (.tmp 7), some 120, some (81, true)) := by kernel_rfl
theorem roo84 : (roOps[84]?).map (fun o => (o.op, o.dst, o.guard)) = some (.call { callee := .value (.func 8), args := #[.tmp 119, .tmp 120], argTypes := #[24, 24] }, some 121, some (81, true)) := by kernel_rfl
theorem roo85 : (roOps[85]?).map (fun o => (o.op, o.dst, o.guard)) = some (.call { callee := .value (.func 13), args := #[.tmp 121], argTypes := #[24] }, some 122, some (81, true)) := by kernel_rfl
theorem roo86 : (roOps[86]?).map (fun o => (o.op, o.dst, o.guard)) = some (.pick (.tmp 118) (.tmp 122) (.const (.bool false)), some 123, none) := by kernel_rfl
theorem roo87 : (roOps[87]?).map (fun o => (o.op, o.dst, o.guard)) = some (.move (.tmp 123), some 124, none) := by kernel_rfl
theorem roo88 : (roOps[88]?).map (fun o => (o.op, o.dst, o.guard)) = some (.load 24 (.tmp 9), some 125, some (87, true)) := by kernel_rfl
theorem roo89 : (roOps[89]?).map (fun o => (o.op, o.dst, o.guard)) = some (.load 35 (.tmp 3), some 126, some (87, true)) := by kernel_rfl
theorem roo90 : (roOps[90]?).map (fun o => (o.op, o.dst, o.guard)) = some (.call { callee := .value (.func 14), args := #[.tmp 125, .tmp 126], argTypes := #[24, 35] }, some 127, some (87, true)) := by kernel_rfl
theorem roo91 : (roOps[91]?).map (fun o => (o.op, o.dst, o.guard)) = some (.unOp .not 4 (.tmp 127), some 128, some (87, true)) := by kernel_rfl
theorem roo92 : (roOps[92]?).map (fun o => (o.op, o.dst, o.guard)) = some (.move (.tmp 128), some 129, some (87, true)) := by kernel_rfl
theorem roo93 : (roOps[93]?).map (fun o => (o.op, o.dst, o.guard)) = some (.indexAddr 35 (.tmp 3) (.const (.int .i64 0)), some 130, some (92, false)) := by kernel_rfl
theorem roo94 : (roOps[94]?).map (fun o => (o.op, o.dst, o.guard)) = some (.load 3 (.tmp 130), some 131, some (92, false)) := by kernel_rfl
theorem roo95 : (roOps[95]?).map (fun o => (o.op, o.dst, o.guard)) = some (.indexAddr 35 (.tmp 2) (.const (.int .i64 0)), some 132, some (92, false)) := by kernel_rfl
theorem roo96 : (roOps[96]?).map (fun o => (o.op, o.dst, o.guard)) = some (.load 3 (.tmp 132), some 133, some (92, false)) := by kernel_rfl
theorem roo97 : (roOps[97]?).map (fun o => (o.op, o.dst, o.guard)) = some (.binOp .eql 3 (.tmp 131) (.tmp 133) 3, some 134, some (92, false)) := by kernel_rfl
theorem roo98 : (roOps[98]?).map (fun o => (o.op, o.dst, o.guard)) = some (.pick (.tmp 129) (.const (.bool true)) (.tmp 134), some 135, some (87, true)) := by kernel_rfl
theorem roo99 : (roOps[99]?).map (fun o => (o.op, o.dst, o.guard)) = some (.move (.tmp 135), some 136, some (87, true)) := by kernel_rfl
theorem roo100 : (roOps[100]?).map (fun o => (o.op, o.dst, o.guard)) = some (.indexAddr 35 (.tmp 2) (.const (.int .i64 0)), some 137, some (99, false)) := by kernel_rfl
theorem roo101 : (roOps[101]?).map (fun o => (o.op, o.dst, o.guard)) = some (.load 3 (.tmp 137), some 138, some (99, false)) := by kernel_rfl
theorem roo102 : (roOps[102]?).map (fun o => (o.op, o.dst, o.guard)) = some (.binOp .eql 3 (.tmp 138) (.const (.int .i64 999)) 3, some 139, some (99, false)) := by kernel_rfl
theorem roo103 : (roOps[103]?).map (fun o => (o.op, o.dst, o.guard)) = some (.pick (.tmp 136) (.const (.bool true)) (.tmp 139), some 140, some (87, true)) := by kernel_rfl
theorem roo104 : (roOps[104]?).map (fun o => (o.op, o.dst, o.guard)) = some (.pick (.tmp 124) (.tmp 140) (.const (.bool false)), some 141, none) := by kernel_rfl
theorem roo105 : (roOps[105]?).map (fun o => (o.op, o.dst, o.guard)) = some (.move (.tmp 141), some 142, none) := by kernel_rfl
theorem roo106 : (roOps[106]?).map (fun o => (o.op, o.dst, o.guard)) = some (.load 24 (.tmp 10), some 143, some (105, true)) := by kernel_rfl
theorem roo107 : (roOps[107]?).map (fun o => (o.op, o.dst, o.guard)) = some (.load 35 (.tmp 3), some 144, some (105, true)) := by kernel_rfl
theorem roo108 : (roOps[108]?).map (fun o => (o.op, o.dst, o.guard)) = some (.call { callee := .value (.func 14), args := #[.tmp 143, .tmp 144], argTypes := #[24, 35] }, some 145, some (105, true)) := by kernel_rfl
theorem roo109 : (roOps[109]?).map (fun o => (o.op, o.dst, o.guard)) = some (.unOp .not 4 (.tmp 145), some 146, some (105, true)) := by kernel_rfl
theorem roo110 : (roOps[110]?).map (fun o => (o.op, o.dst, o.guard)) = some (.move (.tmp 146), some 147, some (105, true)) := by kernel_rfl
theorem roo111 : (roOps[111]?).map (fun o => (o.op, o.dst, o.guard)) = some (.indexAddr 35 (.tmp 3) (.const (.int .i64 1)), some 148, some (110, false)) := by kernel_rfl
theorem roo112 : (roOps[112]?).map (fun o => (o.op, o.dst, o.guard)) = some (.load 3 (.tmp 148), some 149, some (110, false)) := by kernel_rfl
theorem roo113 : (roOps[113]?).map (fun o => (o.op, o.dst, o.guard)) = some (.indexAddr 35 (.tmp 2) (.const (.int .i64 1)), some 150, some (110, false)) := by kernel_rfl
theorem roo114 : (roOps[114]?).map (fun o => (o.op, o.dst, o.guard)) = some (.load 3 (.tmp 150), some 151, some (110, false)) := by kernel_rfl
theorem roo115 : (roOps[115]?).map (fun o => (o.op, o.dst, o.guard)) = some (.binOp .eql 3 (.tmp 149) (.tmp 151) 3, some 152, some (110, false)) := by kernel_rfl
theorem roo116 : (roOps[116]?).map (fun o => (o.op, o.dst, o.guard)) = some (.move (.tmp 152), some 153, some (110, false)) := by kernel_rfl
theorem roo117 : (roOps[117]?).map (fun o => (o.op, o.dst, o.guard)) = some (.indexAddr 35 (.tmp 3) (.const (.int .i64 0)), some 154, some (116, true)) := by kernel_rfl
theorem roo118 : (roOps[118]?).map (fun o => (o.op, o.dst, o.guard)) = some (.load 3 (.tmp 154), some 155, some (116, true)) := by kernel_rfl
theorem roo119 : (roOps[119]?).map (fun o => (o.op, o.dst, o.guard)) = some (.indexAddr 35 (.tmp 2) (.const (.int .i64 0)), some 156, some (116, true)) := by kernel_rfl
theorem roo120 : (roOps[120]?).map (fun o => (o.op, o.dst, o.guard)) = some (.load 3 (.tmp 156), some 157, some (116, true)) := by kernel_rfl
theorem roo121 : (roOps[121]?).map (fun o => (o.op, o.dst, o.guard)) = some (.binOp .eql 3 (.tmp 155) (.tmp 157) 3, some 158, some (116, true)) := by kernel_rfl
theorem roo122 : (roOps[122]?).map (fun o => (o.op, o.dst, o.guard)) = some (.pick (.tmp 153) (.tmp 158) (.const (.bool false)), some 159, some (110, false)) := by kernel_rfl
theorem roo123 : (roOps[123]?).map (fun o => (o.op, o.dst, o.guard)) = some (.pick (.tmp 147) (.const (.bool true)) (.tmp 159), some 160, some (105, true)) := by kernel_rfl
theorem roo124 : (roOps[124]?).map (fun o => (o.op, o.dst, o.guard)) = some (.pick (.tmp 142) (.tmp 160) (.const (.bool false)), some 161, none) := by kernel_rfl
theorem roo125 : (roOps[125]?).map (fun o => (o.op, o.dst, o.guard)) = some (.assign (.tmp 161), some 4, none) := by kernel_rfl
noncomputable def roL : List (Nat × Bool) := [(0, true), (1, true), (3, true), (4, true), (2, false), (5, false), (6, true), (7, true), (8, true), (9, true), (10, true), (12, true), (13, true), (11, false), (14, false), (15, true), (16, true), (17, true), (18, true), (19, true), (21, true), (23, true), (24, true), (20, false), (22, false), (25, false), (26, true), (27, true), (28, true), (29, true), (30, true), (32, true), (34, true), (35, true), (31, false), (33, false), (36, false), (37, true), (38, true), (39, true), (40, true), (41, true), (43, true), (45, true), (46, true), (42, false), (44, false), (47, false), (48, true), (49, true), (50, true), (51, true), (52, true), (54, true), (53, false), (55, false), (56, false), (57, false), (58, true), (59, true), (60, true), (62, true), (61, false), (63, false), (64, true), (65, true), (66, true), (67, true), (68, false), (69, true), (70, true), (71, true), (72, true), (73, false), (74, true), (75, true), (76, true), (77, true), (78, false), (79, false), (80, true), (81, true), (82, true), (83, true), (84, false), (85, false), (86, true), (87, true), (88, true), (89, true), (90, false), (91, true), (92, true), (93, true), (94, true), (95, true), (96, true), (97, true), (98, true), (99, true), (100, true), (101, true), (102, true), (103, true), (104, true), (105, true), (106, true), (107, true), (108, false), (109, true), (110, true), (111, true), (112, true), (113, true), (114, true), (115, true), (116, true), (117, true), (118, true), (119, true), (120, true), (121, true), (122, true), (123, true), (124, true), (125, true)]
theorem cmpT {a b c x y z C : Int} (w : World) (hC : C = cmp3 x y z a b c) : Calls Tryz.prog 17 #[.agg #[.int .i64 x, .int .i64 y, .int .i64 z], .agg #[.int .i64 a, .int .i64 b, .int .i64 c]] w fun e w'' => e = .returned (.int .i64 C) ∧ Below w.heap.size w w'' := by
  rw [hC]; exact cmp_any x y z a b c w

set_option maxRecDepth 100000 in
set_option maxHeartbeats 16000000 in
theorem ro_b0 {n q p : Nat} {a b c x y z C : Int} {sv : ByteArray} {lL lF lC lT : List Spn} {aL aF aC aT : Option Addr} {cL cF cC cT : Nat} {w0 : World} {w : World} {a0 : Act} {Q : Exit → Act → World → Prop} {rest : List (Nat × Bool)} (H : RO n q a b c x y z C sv lL lF lC lT w0) (HO : SO n q p a b c x y z sv lL lF lC lT aL aF aC aT cL cF cC cT w0 w) (HF : FrO n q p a0)
    (k : ∀ a' w', SO n q p a b c x y z sv lL lF lC lT aL aF aC aT cL cF cC cT w0 w' → FrO n q p a' → a'.tmps[45]? = some (.bool true) → wpTxt Tryz.prog roOps Q (roS n p a b c x y z (.slice aL lL.length cL) (.slice aF lF.length cF) (.slice aC lC.length cC) (.slice aT lT.length cT)) rest a' w') :
    wpTxt Tryz.prog roOps Q (roS n p a b c x y z (.slice aL lL.length cL) (.slice aF lF.length cF) (.slice aC lC.length cC) (.slice aT lT.length cT)) ((0, true) :: (1, true) :: (3, true) :: (4, true) :: (2, false) :: (5, false) :: (6, true) :: (7, true) :: (8, true) :: rest) a0 w := by
  obtain ⟨hv, hw, hC, rL, rF, rC, rT, nL, nF, nC, nT, hget⟩ := H
  -- 0
  obtain ⟨o, ho, hop, hd, hg⟩ := op_fact roo0
  refine txt_take ho hd (want_none hg) (fun w' hS => run_loadR hop HF.s7 hS.2.2.2.2.2.2.1) (fun a1 u => ?_)
  have t37 : a1.tmps[37]? = some (.agg #[.slice aL lL.length cL]) := u.eq (by rw [HF.sz]; decide)
  replace HF := HF.upd u (by decide)
  clear u ho hop hd hg
  -- 1
  obtain ⟨o, ho, hop, hd, hg⟩ := op_fact roo1
  refine txt_take ho hd (want_none hg) (fun w' hS => run_loadV hop HF.s3 hS.2.2.2.1 hS.2.2.2.2.1 hS.2.2.2.2.2.1) (fun a2 u => ?_)
  have t38 : a2.tmps[38]? = some (.agg #[.int .i64 x, .int .i64 y, .int .i64 z]) := u.eq (by rw [HF.sz]; decide)
  replace HF := HF.upd u (by decide)
  replace t37 := u.keep (by decide) t37
  clear u ho hop hd hg
  -- 3
  obtain ⟨o, ho, hop, hd, hg⟩ := op_fact roo3
  refine txt_take ho hd (want_none hg) (fun w' hS => run_loadV hop HF.s3 hS.2.2.2.1 hS.2.2.2.2.1 hS.2.2.2.2.2.1) (fun a3 u => ?_)
  have t40 : a3.tmps[40]? = some (.agg #[.int .i64 x, .int .i64 y, .int .i64 z]) := u.eq (by rw [HF.sz]; decide)
  replace HF := HF.upd u (by decide)
  replace t37 := u.keep (by decide) t37
  replace t38 := u.keep (by decide) t38
  clear u ho hop hd hg
  -- 4
  obtain ⟨o, ho, hop, hd, hg⟩ := op_fact roo4
  refine txt_take ho hd (want_none hg) (fun w' hS => run_loadV hop HF.s2 hS.1 hS.2.1 hS.2.2.1) (fun a4 u => ?_)
  have t41 : a4.tmps[41]? = some (.agg #[.int .i64 a, .int .i64 b, .int .i64 c]) := u.eq (by rw [HF.sz]; decide)
  replace HF := HF.upd u (by decide)
  replace t37 := u.keep (by decide) t37
  replace t38 := u.keep (by decide) t38
  replace t40 := u.keep (by decide) t40
  clear u ho hop hd hg
  -- 2
  obtain ⟨o, ho, hop, hd, hg⟩ := op_fact roo2
  refine txt_call ho hd (want_none hg) (run_call2 hop rfl t37 t38 (fun w => enters_of Tryz.func14 (by kernel_rfl) rfl _ w)) ?_
  refine (hasT _ lL _ _ _ _ _ HO.sL hw (ord_lt rL hv hw hC)).mono ?_
  rintro e w1 ⟨rfl, hb⟩
  replace HO := HO.below hb
  refine ⟨_, rfl, HO.S, fun a5 u => ?_⟩
  have t39 : a5.tmps[39]? = some (.bool (decide (C < 0))) := u.eq (by rw [HF.sz]; decide)
  replace HF := HF.upd u (by decide)
  clear t37
  clear t38
  replace t40 := u.keep (by decide) t40
  replace t41 := u.keep (by decide) t41
  clear u ho hop hd hg
  -- 5
  obtain ⟨o, ho, hop, hd, hg⟩ := op_fact roo5
  refine txt_call ho hd (want_none hg) (run_call2 hop rfl t40 t41 (fun w => enters_of Tryz.func17 (by kernel_rfl) rfl _ w)) ?_
  refine (cmpT w1 hC).mono ?_
  rintro e w2 ⟨rfl, hb⟩
  replace HO := HO.below hb
  refine ⟨_, rfl, HO.S, fun a6 u => ?_⟩
  have t42 : a6.tmps[42]? = some (.int .i64 C) := u.eq (by rw [HF.sz]; decide)
  replace HF := HF.upd u (by decide)
  replace t39 := u.keep (by decide) t39
  clear t40
  clear t41
  clear u ho hop hd hg
  -- 6
  obtain ⟨o, ho, hop, hd, hg⟩ := op_fact roo6
  refine txt_take ho hd (want_none hg) (fun w' hS => run_lss0 hop t42) (fun a7 u => ?_)
  have t43 : a7.tmps[43]? = some (.bool (decide (C < 0))) := u.eq (by rw [HF.sz]; decide)
  replace HF := HF.upd u (by decide)
  replace t39 := u.keep (by decide) t39
  clear t42
  clear u ho hop hd hg
  -- 7
  obtain ⟨o, ho, hop, hd, hg⟩ := op_fact roo7
  refine txt_take ho hd (want_none hg) (fun w' hS => run_eqB hop t39 t43) (fun a8 u => ?_)
  have t44 : a8.tmps[44]? = some (.bool true) := u.eq (by rw [HF.sz]; decide)
  replace HF := HF.upd u (by decide)
  clear t39
  clear t43
  clear u ho hop hd hg
  -- 8
  obtain ⟨o, ho, hop, hd, hg⟩ := op_fact roo8
  refine txt_move ho hop hd (want_none hg) t44 (fun a9 u => ?_)
  have t45 : a9.tmps[45]? = some (.bool true) := u.eq (by rw [HF.sz]; decide)
  replace HF := HF.upd u (by decide)
  clear t44
  clear u ho hop hd hg
  exact k _ _ HO HF t45
set_option maxRecDepth 100000 in
set_option maxHeartbeats 16000000 in
theorem ro_b1 {n q p : Nat} {a b c x y z C : Int} {sv : ByteArray} {lL lF lC lT : List Spn} {aL aF aC aT : Option Addr} {cL cF cC cT : Nat} {w0 : World} {w : World} {a0 : Act} {Q : Exit → Act → World → Prop} {rest : List (Nat × Bool)} (H : RO n q a b c x y z C sv lL lF lC lT w0) (HO : SO n q p a b c x y z sv lL lF lC lT aL aF aC aT cL cF cC cT w0 w) (HF : FrO n q p a0) (t45 : a0.tmps[45]? = some (.bool true))
    (k : ∀ a' w', SO n q p a b c x y z sv lL lF lC lT aL aF aC aT cL cF cC cT w0 w' → FrO n q p a' → a'.tmps[55]? = some (.bool true) → wpTxt Tryz.prog roOps Q (roS n p a b c x y z (.slice aL lL.length cL) (.slice aF lF.length cF) (.slice aC lC.length cC) (.slice aT lT.length cT)) rest a' w') :
    wpTxt Tryz.prog roOps Q (roS n p a b c x y z (.slice aL lL.length cL) (.slice aF lF.length cF) (.slice aC lC.length cC) (.slice aT lT.length cT)) ((9, true) :: (10, true) :: (12, true) :: (13, true) :: (11, false) :: (14, false) :: (15, true) :: (16, true) :: (17, true) :: (18, true) :: rest) a0 w := by
  obtain ⟨hv, hw, hC, rL, rF, rC, rT, nL, nF, nC, nT, hget⟩ := H
  -- 9
  obtain ⟨o, ho, hop, hd, hg⟩ := op_fact roo9
  obtain ⟨og, hog, hopg, hdg, hgg⟩ := op_fact roo8
  refine txt_take ho hd (want_some hg hog hdg t45) (fun w' hS => run_loadR hop HF.s8 hS.2.2.2.2.2.2.2.1) (fun a10 u => ?_)
  have t46 : a10.tmps[46]? = some (.agg #[.slice aF lF.length cF]) := u.eq (by rw [HF.sz]; decide)
  replace HF := HF.upd u (by decide)
  replace t45 := u.keep (by decide) t45
  clear u ho hop hd hg hog hopg hdg hgg
  -- 10
  obtain ⟨o, ho, hop, hd, hg⟩ := op_fact roo10
  obtain ⟨og, hog, hopg, hdg, hgg⟩ := op_fact roo8
  refine txt_take ho hd (want_some hg hog hdg t45) (fun w' hS => run_loadV hop HF.s3 hS.2.2.2.1 hS.2.2.2.2.1 hS.2.2.2.2.2.1) (fun a11 u => ?_)
  have t47 : a11.tmps[47]? = some (.agg #[.int .i64 x, .int .i64 y, .int .i64 z]) := u.eq (by rw [HF.sz]; decide)
  replace HF := HF.upd u (by decide)
  replace t45 := u.keep (by decide) t45
  replace t46 := u.keep (by decide) t46
  clear u ho hop hd hg hog hopg hdg hgg
  -- 12
  obtain ⟨o, ho, hop, hd, hg⟩ := op_fact roo12
  obtain ⟨og, hog, hopg, hdg, hgg⟩ := op_fact roo8
  refine txt_take ho hd (want_some hg hog hdg t45) (fun w' hS => run_loadV hop HF.s3 hS.2.2.2.1 hS.2.2.2.2.1 hS.2.2.2.2.2.1) (fun a12 u => ?_)
  have t49 : a12.tmps[49]? = some (.agg #[.int .i64 x, .int .i64 y, .int .i64 z]) := u.eq (by rw [HF.sz]; decide)
  replace HF := HF.upd u (by decide)
  replace t45 := u.keep (by decide) t45
  replace t46 := u.keep (by decide) t46
  replace t47 := u.keep (by decide) t47
  clear u ho hop hd hg hog hopg hdg hgg
  -- 13
  obtain ⟨o, ho, hop, hd, hg⟩ := op_fact roo13
  obtain ⟨og, hog, hopg, hdg, hgg⟩ := op_fact roo8
  refine txt_take ho hd (want_some hg hog hdg t45) (fun w' hS => run_loadV hop HF.s2 hS.1 hS.2.1 hS.2.2.1) (fun a13 u => ?_)
  have t50 : a13.tmps[50]? = some (.agg #[.int .i64 a, .int .i64 b, .int .i64 c]) := u.eq (by rw [HF.sz]; decide)
  replace HF := HF.upd u (by decide)
  replace t45 := u.keep (by decide) t45
  replace t46 := u.keep (by decide) t46
  replace t47 := u.keep (by decide) t47
  replace t49 := u.keep (by decide) t49
  clear u ho hop hd hg hog hopg hdg hgg
  -- 11
  obtain ⟨o, ho, hop, hd, hg⟩ := op_fact roo11
  obtain ⟨og, hog, hopg, hdg, hgg⟩ := op_fact roo8
  refine txt_call ho hd (want_some hg hog hdg t45) (run_call2 hop rfl t46 t47 (fun w => enters_of Tryz.func14 (by kernel_rfl) rfl _ w)) ?_
  refine (hasT _ lF _ _ _ _ _ HO.sF hw (ord_ge rF hv hw hC)).mono ?_
  rintro e w1 ⟨rfl, hb⟩
  replace HO := HO.below hb
  refine ⟨_, rfl, HO.S, fun a14 u => ?_⟩
  have t48 : a14.tmps[48]? = some (.bool (decide (0 ≤ C))) := u.eq (by rw [HF.sz]; decide)
  replace HF := HF.upd u (by decide)
  replace t45 := u.keep (by decide) t45
  clear t46
  clear t47
  replace t49 := u.keep (by decide) t49
  replace t50 := u.keep (by decide) t50
  clear u ho hop hd hg hog hopg hdg hgg
  -- 14
  obtain ⟨o, ho, hop, hd, hg⟩ := op_fact roo14
  obtain ⟨og, hog, hopg, hdg, hgg⟩ := op_fact roo8
  refine txt_call ho hd (want_some hg hog hdg t45) (run_call2 hop rfl t49 t50 (fun w => enters_of Tryz.func17 (by kernel_rfl) rfl _ w)) ?_
  refine (cmpT w1 hC).mono ?_
  rintro e w2 ⟨rfl, hb⟩
  replace HO := HO.below hb
  refine ⟨_, rfl, HO.S, fun a15 u => ?_⟩
  have t51 : a15.tmps[51]? = some (.int .i64 C) := u.eq (by rw [HF.sz]; decide)
  replace HF := HF.upd u (by decide)
  replace t45 := u.keep (by decide) t45
  replace t48 := u.keep (by decide) t48
  clear t49
  clear t50
  clear u ho hop hd hg hog hopg hdg hgg
  -- 15
  obtain ⟨o, ho, hop, hd, hg⟩ := op_fact roo15
  obtain ⟨og, hog, hopg, hdg, hgg⟩ := op_fact roo8
  refine txt_take ho hd (want_some hg hog hdg t45) (fun w' hS => run_geq0 hop t51) (fun a16 u => ?_)
  have t52 : a16.tmps[52]? = some (.bool (decide (0 ≤ C))) := u.eq (by rw [HF.sz]; decide)
  replace HF := HF.upd u (by decide)
  replace t45 := u.keep (by decide) t45
  replace t48 := u.keep (by decide) t48
  clear t51
  clear u ho hop hd hg hog hopg hdg hgg
  -- 16
  obtain ⟨o, ho, hop, hd, hg⟩ := op_fact roo16
  obtain ⟨og, hog, hopg, hdg, hgg⟩ := op_fact roo8
  refine txt_take ho hd (want_some hg hog hdg t45) (fun w' hS => run_eqB hop t48 t52) (fun a17 u => ?_)
  have t53 : a17.tmps[53]? = some (.bool true) := u.eq (by rw [HF.sz]; decide)
  replace HF := HF.upd u (by decide)
  replace t45 := u.keep (by decide) t45
  clear t48
  clear t52
  clear u ho hop hd hg hog hopg hdg hgg
  -- 17
  obtain ⟨o, ho, hop, hd, hg⟩ := op_fact roo17
  refine txt_pickv (bb := true) ho hop hd (want_none hg) t45 (eval_of t53) (fun a18 u => ?_)
  have t54 : a18.tmps[54]? = some (.bool true) := u.eq (by rw [HF.sz]; decide)
  replace HF := HF.upd u (by decide)
  clear t45
  clear t53
  clear u ho hop hd hg
  -- 18
  obtain ⟨o, ho, hop, hd, hg⟩ := op_fact roo18
  refine txt_move ho hop hd (want_none hg) t54 (fun a19 u => ?_)
  have t55 : a19.tmps[55]? = some (.bool true) := u.eq (by rw [HF.sz]; decide)
  replace HF := HF.upd u (by decide)
  clear t54
  clear u ho hop hd hg
  exact k _ _ HO HF t55
set_option maxRecDepth 100000 in
set_option maxHeartbeats 16000000 in
theorem ro_b2 {n q p : Nat} {a b c x y z C : Int} {sv : ByteArray} {lL lF lC lT : List Spn} {aL aF aC aT : Option Addr} {cL cF cC cT : Nat} {w0 : World} {w : World} {a0 : Act} {Q : Exit → Act → World → Prop} {rest : List (Nat × Bool)} (H : RO n q a b c x y z C sv lL lF lC lT w0) (HO : SO n q p a b c x y z sv lL lF lC lT aL aF aC aT cL cF cC cT w0 w) (HF : FrO n q p a0) (t55 : a0.tmps[55]? = some (.bool true))
    (k : ∀ a' w', SO n q p a b c x y z sv lL lF lC lT aL aF aC aT cL cF cC cT w0 w' → FrO n q p a' → a'.tmps[66]? = some (.bool true) → wpTxt Tryz.prog roOps Q (roS n p a b c x y z (.slice aL lL.length cL) (.slice aF lF.length cF) (.slice aC lC.length cC) (.slice aT lT.length cT)) rest a' w') :
    wpTxt Tryz.prog roOps Q (roS n p a b c x y z (.slice aL lL.length cL) (.slice aF lF.length cF) (.slice aC lC.length cC) (.slice aT lT.length cT)) ((19, true) :: (21, true) :: (23, true) :: (24, true) :: (20, false) :: (22, false) :: (25, false) :: (26, true) :: (27, true) :: (28, true) :: (29, true) :: rest) a0 w := by
  obtain ⟨hv, hw, hC, rL, rF, rC, rT, nL, nF, nC, nT, hget⟩ := H
  -- 19
  obtain ⟨o, ho, hop, hd, hg⟩ := op_fact roo19
  obtain ⟨og, hog, hopg, hdg, hgg⟩ := op_fact roo18
  refine txt_move ho hop hd (want_some hg hog hdg t55) HF.s6 (fun a20 u => ?_)
  have t56 : a20.tmps[56]? = some (.func (.func 16) #[] #[.pointer (some ⟨q, 0, none⟩)]) := u.eq (by rw [HF.sz]; decide)
  replace HF := HF.upd u (by decide)
  replace t55 := u.keep (by decide) t55
  clear u ho hop hd hg hog hopg hdg hgg
  -- 21
  obtain ⟨o, ho, hop, hd, hg⟩ := op_fact roo21
  obtain ⟨og, hog, hopg, hdg, hgg⟩ := op_fact roo18
  refine txt_take ho hd (want_some hg hog hdg t55) (fun w' hS => run_loadV hop HF.s3 hS.2.2.2.1 hS.2.2.2.2.1 hS.2.2.2.2.2.1) (fun a21 u => ?_)
  have t58 : a21.tmps[58]? = some (.agg #[.int .i64 x, .int .i64 y, .int .i64 z]) := u.eq (by rw [HF.sz]; decide)
  replace HF := HF.upd u (by decide)
  replace t55 := u.keep (by decide) t55
  replace t56 := u.keep (by decide) t56
  clear u ho hop hd hg hog hopg hdg hgg
  -- 23
  obtain ⟨o, ho, hop, hd, hg⟩ := op_fact roo23
  obtain ⟨og, hog, hopg, hdg, hgg⟩ := op_fact roo18
  refine txt_take ho hd (want_some hg hog hdg t55) (fun w' hS => run_loadV hop HF.s3 hS.2.2.2.1 hS.2.2.2.2.1 hS.2.2.2.2.2.1) (fun a22 u => ?_)
  have t60 : a22.tmps[60]? = some (.agg #[.int .i64 x, .int .i64 y, .int .i64 z]) := u.eq (by rw [HF.sz]; decide)
  replace HF := HF.upd u (by decide)
  replace t55 := u.keep (by decide) t55
  replace t56 := u.keep (by decide) t56
  replace t58 := u.keep (by decide) t58
  clear u ho hop hd hg hog hopg hdg hgg
  -- 24
  obtain ⟨o, ho, hop, hd, hg⟩ := op_fact roo24
  obtain ⟨og, hog, hopg, hdg, hgg⟩ := op_fact roo18
  refine txt_take ho hd (want_some hg hog hdg t55) (fun w' hS => run_loadV hop HF.s2 hS.1 hS.2.1 hS.2.2.1) (fun a23 u => ?_)
  have t61 : a23.tmps[61]? = some (.agg #[.int .i64 a, .int .i64 b, .int .i64 c]) := u.eq (by rw [HF.sz]; decide)
  replace HF := HF.upd u (by decide)
  replace t55 := u.keep (by decide) t55
  replace t56 := u.keep (by decide) t56
  replace t58 := u.keep (by decide) t58
  replace t60 := u.keep (by decide) t60
  clear u ho hop hd hg hog hopg hdg hgg
  -- 20
  obtain ⟨o, ho, hop, hd, hg⟩ := op_fact roo20
  obtain ⟨og, hog, hopg, hdg, hgg⟩ := op_fact roo18
  refine txt_call ho hd (want_some hg hog hdg t55) (run_clo1c hop rfl t56 (fun w => enters_of Tryz.func16 (by kernel_rfl) rfl _ w)) ?_
  refine (hget [60, 61] 3 w (by decide) HO.hb (cell_of_one HO.ob.t)).mono ?_
  rintro e w1 ⟨vg1, lg1, rfl, hs, rg1, ng1, -, hb⟩
  replace HO := HO.below hb
  have s_g1 := hs; clear hs
  refine ⟨_, rfl, HO.S, fun a24 u => ?_⟩
  have t57 : a24.tmps[57]? = some (.agg #[vg1]) := u.eq (by rw [HF.sz]; decide)
  replace HF := HF.upd u (by decide)
  replace t55 := u.keep (by decide) t55
  clear t56
  replace t58 := u.keep (by decide) t58
  replace t60 := u.keep (by decide) t60
  replace t61 := u.keep (by decide) t61
  clear u ho hop hd hg hog hopg hdg hgg
  -- 22
  obtain ⟨o, ho, hop, hd, hg⟩ := op_fact roo22
  obtain ⟨og, hog, hopg, hdg, hgg⟩ := op_fact roo18
  refine txt_call ho hd (want_some hg hog hdg t55) (run_call2 hop rfl t57 t58 (fun w => enters_of Tryz.func14 (by kernel_rfl) rfl _ w)) ?_
  refine (hasT _ lg1 _ _ _ _ _ s_g1 hw (ord_le rg1 hv hw hC)).mono ?_
  rintro e w2 ⟨rfl, hb⟩
  replace HO := HO.below hb
  replace s_g1 := s_g1.below hb
  refine ⟨_, rfl, HO.S, fun a25 u => ?_⟩
  have t59 : a25.tmps[59]? = some (.bool (decide (C ≤ 0))) := u.eq (by rw [HF.sz]; decide)
  replace HF := HF.upd u (by decide)
  replace t55 := u.keep (by decide) t55
  clear t57
  clear t58
  replace t60 := u.keep (by decide) t60
  replace t61 := u.keep (by decide) t61
  clear u ho hop hd hg hog hopg hdg hgg
  -- 25
  obtain ⟨o, ho, hop, hd, hg⟩ := op_fact roo25
  obtain ⟨og, hog, hopg, hdg, hgg⟩ := op_fact roo18
  refine txt_call ho hd (want_some hg hog hdg t55) (run_call2 hop rfl t60 t61 (fun w => enters_of Tryz.func17 (by kernel_rfl) rfl _ w)) ?_
  refine (cmpT w2 hC).mono ?_
  rintro e w3 ⟨rfl, hb⟩
  replace HO := HO.below hb
  replace s_g1 := s_g1.below hb
  refine ⟨_, rfl, HO.S, fun a26 u => ?_⟩
  have t62 : a26.tmps[62]? = some (.int .i64 C) := u.eq (by rw [HF.sz]; decide)
  replace HF := HF.upd u (by decide)
  replace t55 := u.keep (by decide) t55
  replace t59 := u.keep (by decide) t59
  clear t60
  clear t61
  clear u ho hop hd hg hog hopg hdg hgg
  -- 26
  obtain ⟨o, ho, hop, hd, hg⟩ := op_fact roo26
  obtain ⟨og, hog, hopg, hdg, hgg⟩ := op_fact roo18
  refine txt_take ho hd (want_some hg hog hdg t55) (fun w' hS => run_leq0 hop t62) (fun a27 u => ?_)
  have t63 : a27.tmps[63]? = some (.bool (decide (C ≤ 0))) := u.eq (by rw [HF.sz]; decide)
  replace HF := HF.upd u (by decide)
  replace t55 := u.keep (by decide) t55
  replace t59 := u.keep (by decide) t59
  clear t62
  clear u ho hop hd hg hog hopg hdg hgg
  -- 27
  obtain ⟨o, ho, hop, hd, hg⟩ := op_fact roo27
  obtain ⟨og, hog, hopg, hdg, hgg⟩ := op_fact roo18
  refine txt_take ho hd (want_some hg hog hdg t55) (fun w' hS => run_eqB hop t59 t63) (fun a28 u => ?_)
  have t64 : a28.tmps[64]? = some (.bool true) := u.eq (by rw [HF.sz]; decide)
  replace HF := HF.upd u (by decide)
  replace t55 := u.keep (by decide) t55
  clear t59
  clear t63
  clear u ho hop hd hg hog hopg hdg hgg
  -- 28
  obtain ⟨o, ho, hop, hd, hg⟩ := op_fact roo28
  refine txt_pickv (bb := true) ho hop hd (want_none hg) t55 (eval_of t64) (fun a29 u => ?_)
  have t65 : a29.tmps[65]? = some (.bool true) := u.eq (by rw [HF.sz]; decide)
  replace HF := HF.upd u (by decide)
  clear t55
  clear t64
  clear u ho hop hd hg
  -- 29
  obtain ⟨o, ho, hop, hd, hg⟩ := op_fact roo29
  refine txt_move ho hop hd (want_none hg) t65 (fun a30 u => ?_)
  have t66 : a30.tmps[66]? = some (.bool true) := u.eq (by rw [HF.sz]; decide)
  replace HF := HF.upd u (by decide)
  clear t65
  clear u ho hop hd hg
  exact k _ _ HO HF t66
set_option maxRecDepth 100000 in
set_option maxHeartbeats 16000000 in
theorem ro_b3 {n q p : Nat} {a b c x y z C : Int} {sv : ByteArray} {lL lF lC lT : List Spn} {aL aF aC aT : Option Addr} {cL cF cC cT : Nat} {w0 : World} {w : World} {a0 : Act} {Q : Exit → Act → World → Prop} {rest : List (Nat × Bool)} (H : RO n q a b c x y z C sv lL lF lC lT w0) (HO : SO n q p a b c x y z sv lL lF lC lT aL aF aC aT cL cF cC cT w0 w) (HF : FrO n q p a0) (t66 : a0.tmps[66]? = some (.bool true))
    (k : ∀ a' w', SO n q p a b c x y z sv lL lF lC lT aL aF aC aT cL cF cC cT w0 w' → FrO n q p a' → a'.tmps[77]? = some (.bool true) → wpTxt Tryz.prog roOps Q (roS n p a b c x y z (.slice aL lL.length cL) (.slice aF lF.length cF) (.slice aC lC.length cC) (.slice aT lT.length cT)) rest a' w') :
    wpTxt Tryz.prog roOps Q (roS n p a b c x y z (.slice aL lL.length cL) (.slice aF lF.length cF) (.slice aC lC.length cC) (.slice aT lT.length cT)) ((30, true) :: (32, true) :: (34, true) :: (35, true) :: (31, false) :: (33, false) :: (36, false) :: (37, true) :: (38, true) :: (39, true) :: (40, true) :: rest) a0 w := by
  obtain ⟨hv, hw, hC, rL, rF, rC, rT, nL, nF, nC, nT, hget⟩ := H
  -- 30
  obtain ⟨o, ho, hop, hd, hg⟩ := op_fact roo30
  obtain ⟨og, hog, hopg, hdg, hgg⟩ := op_fact roo29
  refine txt_move ho hop hd (want_some hg hog hdg t66) HF.s6 (fun a31 u => ?_)
  have t67 : a31.tmps[67]? = some (.func (.func 16) #[] #[.pointer (some ⟨q, 0, none⟩)]) := u.eq (by rw [HF.sz]; decide)
  replace HF := HF.upd u (by decide)
  replace t66 := u.keep (by decide) t66
  clear u ho hop hd hg hog hopg hdg hgg
  -- 32
  obtain ⟨o, ho, hop, hd, hg⟩ := op_fact roo32
  obtain ⟨og, hog, hopg, hdg, hgg⟩ := op_fact roo29
  refine txt_take ho hd (want_some hg hog hdg t66) (fun w' hS => run_loadV hop HF.s3 hS.2.2.2.1 hS.2.2.2.2.1 hS.2.2.2.2.2.1) (fun a32 u => ?_)
  have t69 : a32.tmps[69]? = some (.agg #[.int .i64 x, .int .i64 y, .int .i64 z]) := u.eq (by rw [HF.sz]; decide)
  replace HF := HF.upd u (by decide)
  replace t66 := u.keep (by decide) t66
  replace t67 := u.keep (by decide) t67
  clear u ho hop hd hg hog hopg hdg hgg
  -- 34
  obtain ⟨o, ho, hop, hd, hg⟩ := op_fact roo34
  obtain ⟨og, hog, hopg, hdg, hgg⟩ := op_fact roo29
  refine txt_take ho hd (want_some hg hog hdg t66) (fun w' hS => run_loadV hop HF.s3 hS.2.2.2.1 hS.2.2.2.2.1 hS.2.2.2.2.2.1) (fun a33 u => ?_)
  have t71 : a33.tmps[71]? = some (.agg #[.int .i64 x, .int .i64 y, .int .i64 z]) := u.eq (by rw [HF.sz]; decide)
  replace HF := HF.upd u (by decide)
  replace t66 := u.keep (by decide) t66
  replace t67 := u.keep (by decide) t67
  replace t69 := u.keep (by decide) t69
  clear u ho hop hd hg hog hopg hdg hgg
  -- 35
  obtain ⟨o, ho, hop, hd, hg⟩ := op_fact roo35
  obtain ⟨og, hog, hopg, hdg, hgg⟩ := op_fact roo29
  refine txt_take ho hd (want_some hg hog hdg t66) (fun w' hS => run_loadV hop HF.s2 hS.1 hS.2.1 hS.2.2.1) (fun a34 u => ?_)
  have t72 : a34.tmps[72]? = some (.agg #[.int .i64 a, .int .i64 b, .int .i64 c]) := u.eq (by rw [HF.sz]; decide)
  replace HF := HF.upd u (by decide)
  replace t66 := u.keep (by decide) t66
  replace t67 := u.keep (by decide) t67
  replace t69 := u.keep (by decide) t69
  replace t71 := u.keep (by decide) t71
  clear u ho hop hd hg hog hopg hdg hgg
  -- 31
  obtain ⟨o, ho, hop, hd, hg⟩ := op_fact roo31
  obtain ⟨og, hog, hopg, hdg, hgg⟩ := op_fact roo29
  refine txt_call ho hd (want_some hg hog hdg t66) (run_clo1c hop rfl t67 (fun w => enters_of Tryz.func16 (by kernel_rfl) rfl _ w)) ?_
  refine (hget [62] 4 w (by decide) HO.hb (cell_of_one HO.ob.t)).mono ?_
  rintro e w1 ⟨vg2, lg2, rfl, hs, rg2, ng2, -, hb⟩
  replace HO := HO.below hb
  have s_g2 := hs; clear hs
  refine ⟨_, rfl, HO.S, fun a35 u => ?_⟩
  have t68 : a35.tmps[68]? = some (.agg #[vg2]) := u.eq (by rw [HF.sz]; decide)
  replace HF := HF.upd u (by decide)
  replace t66 := u.keep (by decide) t66
  clear t67
  replace t69 := u.keep (by decide) t69
  replace t71 := u.keep (by decide) t71
  replace t72 := u.keep (by decide) t72
  clear u ho hop hd hg hog hopg hdg hgg
  -- 33
  obtain ⟨o, ho, hop, hd, hg⟩ := op_fact roo33
  obtain ⟨og, hog, hopg, hdg, hgg⟩ := op_fact roo29
  refine txt_call ho hd (want_some hg hog hdg t66) (run_call2 hop rfl t68 t69 (fun w => enters_of Tryz.func14 (by kernel_rfl) rfl _ w)) ?_
  refine (hasT _ lg2 _ _ _ _ _ s_g2 hw (ord_gt rg2 hv hw hC)).mono ?_
  rintro e w2 ⟨rfl, hb⟩
  replace HO := HO.below hb
  replace s_g2 := s_g2.below hb
  refine ⟨_, rfl, HO.S, fun a36 u => ?_⟩
  have t70 : a36.tmps[70]? = some (.bool (decide (0 < C))) := u.eq (by rw [HF.sz]; decide)
  replace HF := HF.upd u (by decide)
  replace t66 := u.keep (by decide) t66
  clear t68
  clear t69
  replace t71 := u.keep (by decide) t71
  replace t72 := u.keep (by decide) t72
  clear u ho hop hd hg hog hopg hdg hgg
  -- 36
  obtain ⟨o, ho, hop, hd, hg⟩ := op_fact roo36
  obtain ⟨og, hog, hopg, hdg, hgg⟩ := op_fact roo29
  refine txt_call ho hd (want_some hg hog hdg t66) (run_call2 hop rfl t71 t72 (fun w => enters_of Tryz.func17 (by kernel_rfl) rfl _ w)) ?_
  refine (cmpT w2 hC).mono ?_
  rintro e w3 ⟨rfl, hb⟩
  replace HO := HO.below hb
  replace s_g2 := s_g2.below hb
  refine ⟨_, rfl, HO.S, fun a37 u => ?_⟩
  have t73 : a37.tmps[73]? = some (.int .i64 C) := u.eq (by rw [HF.sz]; decide)
  replace HF := HF.upd u (by decide)
  replace t66 := u.keep (by decide) t66
  replace t70 := u.keep (by decide) t70
  clear t71
  clear t72
  clear u ho hop hd hg hog hopg hdg hgg
  -- 37
  obtain ⟨o, ho, hop, hd, hg⟩ := op_fact roo37
  obtain ⟨og, hog, hopg, hdg, hgg⟩ := op_fact roo29
  refine txt_take ho hd (want_some hg hog hdg t66) (fun w' hS => run_gtr0 hop t73) (fun a38 u => ?_)
  have t74 : a38.tmps[74]? = some (.bool (decide (0 < C))) := u.eq (by rw [HF.sz]; decide)
  replace HF := HF.upd u (by decide)
  replace t66 := u.keep (by decide) t66
  replace t70 := u.keep (by decide) t70
  clear t73
  clear u ho hop hd hg hog hopg hdg hgg
  -- 38
  obtain ⟨o, ho, hop, hd, hg⟩ := op_fact roo38
  obtain ⟨og, hog, hopg, hdg, hgg⟩ := op_fact roo29
  refine txt_take ho hd (want_some hg hog hdg t66) (fun w' hS => run_eqB hop t70 t74) (fun a39 u => ?_)
  have t75 : a39.tmps[75]? = some (.bool true) := u.eq (by rw [HF.sz]; decide)
  replace HF := HF.upd u (by decide)
  replace t66 := u.keep (by decide) t66
  clear t70
  clear t74
  clear u ho hop hd hg hog hopg hdg hgg
  -- 39
  obtain ⟨o, ho, hop, hd, hg⟩ := op_fact roo39
  refine txt_pickv (bb := true) ho hop hd (want_none hg) t66 (eval_of t75) (fun a40 u => ?_)
  have t76 : a40.tmps[76]? = some (.bool true) := u.eq (by rw [HF.sz]; decide)
  replace HF := HF.upd u (by decide)
  clear t66
  clear t75
  clear u ho hop hd hg
  -- 40
  obtain ⟨o, ho, hop, hd, hg⟩ := op_fact roo40
  refine txt_move ho hop hd (want_none hg) t76 (fun a41 u => ?_)
  have t77 : a41.tmps[77]? = some (.bool true) := u.eq (by rw [HF.sz]; decide)
  replace HF := HF.upd u (by decide)
  clear t76
  clear u ho hop hd hg
  exact k _ _ HO HF t77
set_option maxRecDepth 100000 in
set_option maxHeartbeats 16000000 in
theorem ro_b4 {n q p : Nat} {a b c x y z C : Int} {sv : ByteArray} {lL lF lC lT : List Spn} {aL aF aC aT : Option Addr} {cL cF cC cT : Nat} {w0 : World} {w : World} {a0 : Act} {Q : Exit → Act → World → Prop} {rest : List (Nat × Bool)} (H : RO n q a b c x y z C sv lL lF lC lT w0) (HO : SO n q p a b c x y z sv lL lF lC lT aL aF aC aT cL cF cC cT w0 w) (HF : FrO n q p a0) (t77 : a0.tmps[77]? = some (.bool true))
    (k : ∀ a' w', SO n q p a b c x y z sv lL lF lC lT aL aF aC aT cL cF cC cT w0 w' → FrO n q p a' → a'.tmps[88]? = some (.bool true) → wpTxt Tryz.prog roOps Q (roS n p a b c x y z (.slice aL lL.length cL) (.slice aF lF.length cF) (.slice aC lC.length cC) (.slice aT lT.length cT)) rest a' w') :
    wpTxt Tryz.prog roOps Q (roS n p a b c x y z (.slice aL lL.length cL) (.slice aF lF.length cF) (.slice aC lC.length cC) (.slice aT lT.length cT)) ((41, true) :: (43, true) :: (45, true) :: (46, true) :: (42, false) :: (44, false) :: (47, false) :: (48, true) :: (49, true) :: (50, true) :: (51, true) :: rest) a0 w := by
  obtain ⟨hv, hw, hC, rL, rF, rC, rT, nL, nF, nC, nT, hget⟩ := H
  -- 41
  obtain ⟨o, ho, hop, hd, hg⟩ := op_fact roo41
  obtain ⟨og, hog, hopg, hdg, hgg⟩ := op_fact roo40
  refine txt_move ho hop hd (want_some hg hog hdg t77) HF.s6 (fun a42 u => ?_)
  have t78 : a42.tmps[78]? = some (.func (.func 16) #[] #[.pointer (some ⟨q, 0, none⟩)]) := u.eq (by rw [HF.sz]; decide)
  replace HF := HF.upd u (by decide)
  replace t77 := u.keep (by decide) t77
  clear u ho hop hd hg hog hopg hdg hgg
  -- 43
  obtain ⟨o, ho, hop, hd, hg⟩ := op_fact roo43
  obtain ⟨og, hog, hopg, hdg, hgg⟩ := op_fact roo40
  refine txt_take ho hd (want_some hg hog hdg t77) (fun w' hS => run_loadV hop HF.s3 hS.2.2.2.1 hS.2.2.2.2.1 hS.2.2.2.2.2.1) (fun a43 u => ?_)
  have t80 : a43.tmps[80]? = some (.agg #[.int .i64 x, .int .i64 y, .int .i64 z]) := u.eq (by rw [HF.sz]; decide)
  replace HF := HF.upd u (by decide)
  replace t77 := u.keep (by decide) t77
  replace t78 := u.keep (by decide) t78
  clear u ho hop hd hg hog hopg hdg hgg
  -- 45
  obtain ⟨o, ho, hop, hd, hg⟩ := op_fact roo45
  obtain ⟨og, hog, hopg, hdg, hgg⟩ := op_fact roo40
  refine txt_take ho hd (want_some hg hog hdg t77) (fun w' hS => run_loadV hop HF.s3 hS.2.2.2.1 hS.2.2.2.2.1 hS.2.2.2.2.2.1) (fun a44 u => ?_)
  have t82 : a44.tmps[82]? = some (.agg #[.int .i64 x, .int .i64 y, .int .i64 z]) := u.eq (by rw [HF.sz]; decide)
  replace HF := HF.upd u (by decide)
  replace t77 := u.keep (by decide) t77
  replace t78 := u.keep (by decide) t78
  replace t80 := u.keep (by decide) t80
  clear u ho hop hd hg hog hopg hdg hgg
  -- 46
  obtain ⟨o, ho, hop, hd, hg⟩ := op_fact roo46
  obtain ⟨og, hog, hopg, hdg, hgg⟩ := op_fact roo40
  refine txt_take ho hd (want_some hg hog hdg t77) (fun w' hS => run_loadV hop HF.s2 hS.1 hS.2.1 hS.2.2.1) (fun a45 u => ?_)
  have t83 : a45.tmps[83]? = some (.agg #[.int .i64 a, .int .i64 b, .int .i64 c]) := u.eq (by rw [HF.sz]; decide)
  replace HF := HF.upd u (by decide)
  replace t77 := u.keep (by decide) t77
  replace t78 := u.keep (by decide) t78
  replace t80 := u.keep (by decide) t80
  replace t82 := u.keep (by decide) t82
  clear u ho hop hd hg hog hopg hdg hgg
  -- 42
  obtain ⟨o, ho, hop, hd, hg⟩ := op_fact roo42
  obtain ⟨og, hog, hopg, hdg, hgg⟩ := op_fact roo40
  refine txt_call ho hd (want_some hg hog hdg t77) (run_clo1c hop rfl t78 (fun w => enters_of Tryz.func16 (by kernel_rfl) rfl _ w)) ?_
  refine (hget [] 0 w (by decide) HO.hb (cell_of_one HO.ob.t)).mono ?_
  rintro e w1 ⟨vg3, lg3, rfl, hs, rg3, ng3, -, hb⟩
  replace HO := HO.below hb
  have s_g3 := hs; clear hs
  refine ⟨_, rfl, HO.S, fun a46 u => ?_⟩
  have t79 : a46.tmps[79]? = some (.agg #[vg3]) := u.eq (by rw [HF.sz]; decide)
  replace HF := HF.upd u (by decide)
  replace t77 := u.keep (by decide) t77
  clear t78
  replace t80 := u.keep (by decide) t80
  replace t82 := u.keep (by decide) t82
  replace t83 := u.keep (by decide) t83
  clear u ho hop hd hg hog hopg hdg hgg
  -- 44
  obtain ⟨o, ho, hop, hd, hg⟩ := op_fact roo44
  obtain ⟨og, hog, hopg, hdg, hgg⟩ := op_fact roo40
  refine txt_call ho hd (want_some hg hog hdg t77) (run_call2 hop rfl t79 t80 (fun w => enters_of Tryz.func14 (by kernel_rfl) rfl _ w)) ?_
  refine (hasT _ lg3 _ _ _ _ _ s_g3 hw (ord_eq rg3 hv hw hC)).mono ?_
  rintro e w2 ⟨rfl, hb⟩
  replace HO := HO.below hb
  replace s_g3 := s_g3.below hb
  refine ⟨_, rfl, HO.S, fun a47 u => ?_⟩
  have t81 : a47.tmps[81]? = some (.bool (C == 0)) := u.eq (by rw [HF.sz]; decide)
  replace HF := HF.upd u (by decide)
  replace t77 := u.keep (by decide) t77
  clear t79
  clear t80
  replace t82 := u.keep (by decide) t82
  replace t83 := u.keep (by decide) t83
  clear u ho hop hd hg hog hopg hdg hgg
  -- 47
  obtain ⟨o, ho, hop, hd, hg⟩ := op_fact roo47
  obtain ⟨og, hog, hopg, hdg, hgg⟩ := op_fact roo40
  refine txt_call ho hd (want_some hg hog hdg t77) (run_call2 hop rfl t82 t83 (fun w => enters_of Tryz.func17 (by kernel_rfl) rfl _ w)) ?_
  refine (cmpT w2 hC).mono ?_
  rintro e w3 ⟨rfl, hb⟩
  replace HO := HO.below hb
  replace s_g3 := s_g3.below hb
  refine ⟨_, rfl, HO.S, fun a48 u => ?_⟩
  have t84 : a48.tmps[84]? = some (.int .i64 C) := u.eq (by rw [HF.sz]; decide)
  replace HF := HF.upd u (by decide)
  replace t77 := u.keep (by decide) t77
  replace t81 := u.keep (by decide) t81
  clear t82
  clear t83
  clear u ho hop hd hg hog hopg hdg hgg
  -- 48
  obtain ⟨o, ho, hop, hd, hg⟩ := op_fact roo48
  obtain ⟨og, hog, hopg, hdg, hgg⟩ := op_fact roo40
  refine txt_take ho hd (want_some hg hog hdg t77) (fun w' hS => run_eql0 hop t84) (fun a49 u => ?_)
  have t85 : a49.tmps[85]? = some (.bool (C == 0)) := u.eq (by rw [HF.sz]; decide)
  replace HF := HF.upd u (by decide)
  replace t77 := u.keep (by decide) t77
  replace t81 := u.keep (by decide) t81
  clear t84
  clear u ho hop hd hg hog hopg hdg hgg
  -- 49
  obtain ⟨o, ho, hop, hd, hg⟩ := op_fact roo49
  obtain ⟨og, hog, hopg, hdg, hgg⟩ := op_fact roo40
  refine txt_take ho hd (want_some hg hog hdg t77) (fun w' hS => run_eqB hop t81 t85) (fun a50 u => ?_)
  have t86 : a50.tmps[86]? = some (.bool true) := u.eq (by rw [HF.sz]; decide)
  replace HF := HF.upd u (by decide)
  replace t77 := u.keep (by decide) t77
  clear t81
  clear t85
  clear u ho hop hd hg hog hopg hdg hgg
  -- 50
  obtain ⟨o, ho, hop, hd, hg⟩ := op_fact roo50
  refine txt_pickv (bb := true) ho hop hd (want_none hg) t77 (eval_of t86) (fun a51 u => ?_)
  have t87 : a51.tmps[87]? = some (.bool true) := u.eq (by rw [HF.sz]; decide)
  replace HF := HF.upd u (by decide)
  clear t77
  clear t86
  clear u ho hop hd hg
  -- 51
  obtain ⟨o, ho, hop, hd, hg⟩ := op_fact roo51
  refine txt_move ho hop hd (want_none hg) t87 (fun a52 u => ?_)
  have t88 : a52.tmps[88]? = some (.bool true) := u.eq (by rw [HF.sz]; decide)
  replace HF := HF.upd u (by decide)
  clear t87
  clear u ho hop hd hg
  exact k _ _ HO HF t88
set_option maxRecDepth 100000 in
set_option maxHeartbeats 16000000 in
theorem ro_b5 {n q p : Nat} {a b c x y z C : Int} {sv : ByteArray} {lL lF lC lT : List Spn} {aL aF aC aT : Option Addr} {cL cF cC cT : Nat} {w0 : World} {w : World} {a0 : Act} {Q : Exit → Act → World → Prop} {rest : List (Nat × Bool)} (H : RO n q a b c x y z C sv lL lF lC lT w0) (HO : SO n q p a b c x y z sv lL lF lC lT aL aF aC aT cL cF cC cT w0 w) (HF : FrO n q p a0) (t88 : a0.tmps[88]? = some (.bool true))
    (k : ∀ a' w', SO n q p a b c x y z sv lL lF lC lT aL aF aC aT cL cF cC cT w0 w' → FrO n q p a' → a'.tmps[96]? = some (.bool true) → wpTxt Tryz.prog roOps Q (roS n p a b c x y z (.slice aL lL.length cL) (.slice aF lF.length cF) (.slice aC lC.length cC) (.slice aT lT.length cT)) rest a' w') :
    wpTxt Tryz.prog roOps Q (roS n p a b c x y z (.slice aL lL.length cL) (.slice aF lF.length cF) (.slice aC lC.length cC) (.slice aT lT.length cT)) ((52, true) :: (54, true) :: (53, false) :: (55, false) :: (56, false) :: (57, false) :: (58, true) :: (59, true) :: rest) a0 w := by
  obtain ⟨hv, hw, hC, rL, rF, rC, rT, nL, nF, nC, nT, hget⟩ := H
  -- 52
  obtain ⟨o, ho, hop, hd, hg⟩ := op_fact roo52
  obtain ⟨og, hog, hopg, hdg, hgg⟩ := op_fact roo51
  refine txt_move ho hop hd (want_some hg hog hdg t88) HF.s6 (fun a53 u => ?_)
  have t89 : a53.tmps[89]? = some (.func (.func 16) #[] #[.pointer (some ⟨q, 0, none⟩)]) := u.eq (by rw [HF.sz]; decide)
  replace HF := HF.upd u (by decide)
  replace t88 := u.keep (by decide) t88
  clear u ho hop hd hg hog hopg hdg hgg
  -- 54
  obtain ⟨o, ho, hop, hd, hg⟩ := op_fact roo54
  obtain ⟨og, hog, hopg, hdg, hgg⟩ := op_fact roo51
  refine txt_move ho hop hd (want_some hg hog hdg t88) HF.s6 (fun a54 u => ?_)
  have t91 : a54.tmps[91]? = some (.func (.func 16) #[] #[.pointer (some ⟨q, 0, none⟩)]) := u.eq (by rw [HF.sz]; decide)
  replace HF := HF.upd u (by decide)
  replace t88 := u.keep (by decide) t88
  replace t89 := u.keep (by decide) t89
  clear u ho hop hd hg hog hopg hdg hgg
  -- 53
  obtain ⟨o, ho, hop, hd, hg⟩ := op_fact roo53
  obtain ⟨og, hog, hopg, hdg, hgg⟩ := op_fact roo51
  refine txt_call ho hd (want_some hg hog hdg t88) (run_clo1c hop rfl t89 (fun w => enters_of Tryz.func16 (by kernel_rfl) rfl _ w)) ?_
  refine (hget [33] 1 w (by decide) HO.hb (cell_of_one HO.ob.t)).mono ?_
  rintro e w1 ⟨vg4, lg4, rfl, hs, rg4, ng4, -, hb⟩
  replace HO := HO.below hb
  have s_g4 := hs; clear hs
  refine ⟨_, rfl, HO.S, fun a55 u => ?_⟩
  have t90 : a55.tmps[90]? = some (.agg #[vg4]) := u.eq (by rw [HF.sz]; decide)
  replace HF := HF.upd u (by decide)
  replace t88 := u.keep (by decide) t88
  clear t89
  replace t91 := u.keep (by decide) t91
  clear u ho hop hd hg hog hopg hdg hgg
  -- 55
  obtain ⟨o, ho, hop, hd, hg⟩ := op_fact roo55
  obtain ⟨og, hog, hopg, hdg, hgg⟩ := op_fact roo51
  refine txt_call ho hd (want_some hg hog hdg t88) (run_clo1c hop rfl t91 (fun w => enters_of Tryz.func16 (by kernel_rfl) rfl _ w)) ?_
  refine (hget [61] 0 w1 (by decide) HO.hb (cell_of_one HO.ob.t)).mono ?_
  rintro e w2 ⟨vg5, lg5, rfl, hs, rg5, ng5, -, hb⟩
  replace HO := HO.below hb
  replace s_g4 := s_g4.below hb
  have s_g5 := hs; clear hs
  refine ⟨_, rfl, HO.S, fun a56 u => ?_⟩
  have t92 : a56.tmps[92]? = some (.agg #[vg5]) := u.eq (by rw [HF.sz]; decide)
  replace HF := HF.upd u (by decide)
  replace t88 := u.keep (by decide) t88
  replace t90 := u.keep (by decide) t90
  clear t91
  clear u ho hop hd hg hog hopg hdg hgg
  -- 56
  obtain ⟨o, ho, hop, hd, hg⟩ := op_fact roo56
  obtain ⟨og, hog, hopg, hdg, hgg⟩ := op_fact roo51
  refine txt_call ho hd (want_some hg hog hdg t88) (run_call1 hop rfl t92 (fun w => enters_of Tryz.func9 (by kernel_rfl) rfl _ w)) ?_
  refine (not_any _ lg5 _ s_g5 rg5.1 (by omega)).mono ?_
  rintro e w3 ⟨vg6, lg6, rfl, hs, rg6, ng6, -, hb⟩
  replace HO := HO.below hb
  replace s_g4 := s_g4.below hb
  replace s_g5 := s_g5.below hb
  have s_g6 := hs; clear hs
  refine ⟨_, rfl, HO.S, fun a57 u => ?_⟩
  have t93 : a57.tmps[93]? = some (.agg #[vg6]) := u.eq (by rw [HF.sz]; decide)
  replace HF := HF.upd u (by decide)
  replace t88 := u.keep (by decide) t88
  replace t90 := u.keep (by decide) t90
  clear t92
  clear u ho hop hd hg hog hopg hdg hgg
  -- 57
  obtain ⟨o, ho, hop, hd, hg⟩ := op_fact roo57
  obtain ⟨og, hog, hopg, hdg, hgg⟩ := op_fact roo51
  refine txt_call ho hd (want_some hg hog hdg t88) (run_call2 hop rfl t90 t93 (fun w => enters_of Tryz.func10 (by kernel_rfl) rfl _ w)) ?_
  refine (sameT _ _ lg4 lg6 _ s_g4 s_g6 (ord_not rg4 rg5 rg6)).mono ?_
  rintro e w4 ⟨rfl, hb⟩
  replace HO := HO.below hb
  replace s_g4 := s_g4.below hb
  replace s_g5 := s_g5.below hb
  replace s_g6 := s_g6.below hb
  refine ⟨_, rfl, HO.S, fun a58 u => ?_⟩
  have t94 : a58.tmps[94]? = some (.bool true) := u.eq (by rw [HF.sz]; decide)
  replace HF := HF.upd u (by decide)
  replace t88 := u.keep (by decide) t88
  clear t90
  clear t93
  clear u ho hop hd hg hog hopg hdg hgg
  -- 58
  obtain ⟨o, ho, hop, hd, hg⟩ := op_fact roo58
  refine txt_pickv (bb := true) ho hop hd (want_none hg) t88 (eval_of t94) (fun a59 u => ?_)
  have t95 : a59.tmps[95]? = some (.bool true) := u.eq (by rw [HF.sz]; decide)
  replace HF := HF.upd u (by decide)
  clear t88
  clear t94
  clear u ho hop hd hg
  -- 59
  obtain ⟨o, ho, hop, hd, hg⟩ := op_fact roo59
  refine txt_move ho hop hd (want_none hg) t95 (fun a60 u => ?_)
  have t96 : a60.tmps[96]? = some (.bool true) := u.eq (by rw [HF.sz]; decide)
  replace HF := HF.upd u (by decide)
  clear t95
  clear u ho hop hd hg
  exact k _ _ HO HF t96
set_option maxRecDepth 100000 in
set_option maxHeartbeats 16000000 in
theorem ro_b6 {n q p : Nat} {a b c x y z C : Int} {sv : ByteArray} {lL lF lC lT : List Spn} {aL aF aC aT : Option Addr} {cL cF cC cT : Nat} {w0 : World} {w : World} {a0 : Act} {Q : Exit → Act → World → Prop} {rest : List (Nat × Bool)} (H : RO n q a b c x y z C sv lL lF lC lT w0) (HO : SO n q p a b c x y z sv lL lF lC lT aL aF aC aT cL cF cC cT w0 w) (HF : FrO n q p a0) (t96 : a0.tmps[96]? = some (.bool true))
    (k : ∀ a' w', SO n q p a b c x y z sv lL lF lC lT aL aF aC aT cL cF cC cT w0 w' → FrO n q p a' → a'.tmps[102]? = some (.bool true) → wpTxt Tryz.prog roOps Q (roS n p a b c x y z (.slice aL lL.length cL) (.slice aF lF.length cF) (.slice aC lC.length cC) (.slice aT lT.length cT)) rest a' w') :
    wpTxt Tryz.prog roOps Q (roS n p a b c x y z (.slice aL lL.length cL) (.slice aF lF.length cF) (.slice aC lC.length cC) (.slice aT lT.length cT)) ((60, true) :: (62, true) :: (61, false) :: (63, false) :: (64, true) :: (65, true) :: rest) a0 w := by
  obtain ⟨hv, hw, hC, rL, rF, rC, rT, nL, nF, nC, nT, hget⟩ := H
  -- 60
  obtain ⟨o, ho, hop, hd, hg⟩ := op_fact roo60
  obtain ⟨og, hog, hopg, hdg, hgg⟩ := op_fact roo59
  refine txt_take ho hd (want_some hg hog hdg t96) (fun w' hS => run_loadR hop HF.s7 hS.2.2.2.2.2.2.1) (fun a61 u => ?_)
  have t97 : a61.tmps[97]? = some (.agg #[.slice aL lL.length cL]) := u.eq (by rw [HF.sz]; decide)
  replace HF := HF.upd u (by decide)
  replace t96 := u.keep (by decide) t96
  clear u ho hop hd hg hog hopg hdg hgg
  -- 62
  obtain ⟨o, ho, hop, hd, hg⟩ := op_fact roo62
  obtain ⟨og, hog, hopg, hdg, hgg⟩ := op_fact roo59
  refine txt_take ho hd (want_some hg hog hdg t96) (fun w' hS => run_loadR hop HF.s8 hS.2.2.2.2.2.2.2.1) (fun a62 u => ?_)
  have t99 : a62.tmps[99]? = some (.agg #[.slice aF lF.length cF]) := u.eq (by rw [HF.sz]; decide)
  replace HF := HF.upd u (by decide)
  replace t96 := u.keep (by decide) t96
  replace t97 := u.keep (by decide) t97
  clear u ho hop hd hg hog hopg hdg hgg
  -- 61
  obtain ⟨o, ho, hop, hd, hg⟩ := op_fact roo61
  obtain ⟨og, hog, hopg, hdg, hgg⟩ := op_fact roo59
  refine txt_call ho hd (want_some hg hog hdg t96) (run_call1 hop rfl t97 (fun w => enters_of Tryz.func9 (by kernel_rfl) rfl _ w)) ?_
  refine (not_any _ lL _ HO.sL rL.1 (by omega)).mono ?_
  rintro e w1 ⟨vg7, lg7, rfl, hs, rg7, ng7, -, hb⟩
  replace HO := HO.below hb
  have s_g7 := hs; clear hs
  refine ⟨_, rfl, HO.S, fun a63 u => ?_⟩
  have t98 : a63.tmps[98]? = some (.agg #[vg7]) := u.eq (by rw [HF.sz]; decide)
  replace HF := HF.upd u (by decide)
  replace t96 := u.keep (by decide) t96
  clear t97
  replace t99 := u.keep (by decide) t99
  clear u ho hop hd hg hog hopg hdg hgg
  -- 63
  obtain ⟨o, ho, hop, hd, hg⟩ := op_fact roo63
  obtain ⟨og, hog, hopg, hdg, hgg⟩ := op_fact roo59
  refine txt_call ho hd (want_some hg hog hdg t96) (run_call2 hop rfl t98 t99 (fun w => enters_of Tryz.func10 (by kernel_rfl) rfl _ w)) ?_
  refine (sameT _ _ lg7 lF _ s_g7 HO.sF (ord_part hv rL rg7 rF)).mono ?_
  rintro e w2 ⟨rfl, hb⟩
  replace HO := HO.below hb
  replace s_g7 := s_g7.below hb
  refine ⟨_, rfl, HO.S, fun a64 u => ?_⟩
  have t100 : a64.tmps[100]? = some (.bool true) := u.eq (by rw [HF.sz]; decide)
  replace HF := HF.upd u (by decide)
  replace t96 := u.keep (by decide) t96
  clear t98
  clear t99
  clear u ho hop hd hg hog hopg hdg hgg
  -- 64
  obtain ⟨o, ho, hop, hd, hg⟩ := op_fact roo64
  refine txt_pickv (bb := true) ho hop hd (want_none hg) t96 (eval_of t100) (fun a65 u => ?_)
  have t101 : a65.tmps[101]? = some (.bool true) := u.eq (by rw [HF.sz]; decide)
  replace HF := HF.upd u (by decide)
  clear t96
  clear t100
  clear u ho hop hd hg
  -- 65
  obtain ⟨o, ho, hop, hd, hg⟩ := op_fact roo65
  refine txt_move ho hop hd (want_none hg) t101 (fun a66 u => ?_)
  have t102 : a66.tmps[102]? = some (.bool true) := u.eq (by rw [HF.sz]; decide)
  replace HF := HF.upd u (by decide)
  clear t101
  clear u ho hop hd hg
  exact k _ _ HO HF t102
set_option maxRecDepth 100000 in
set_option maxHeartbeats 16000000 in
theorem ro_b7 {n q p : Nat} {a b c x y z C : Int} {sv : ByteArray} {lL lF lC lT : List Spn} {aL aF aC aT : Option Addr} {cL cF cC cT : Nat} {w0 : World} {w : World} {a0 : Act} {Q : Exit → Act → World → Prop} {rest : List (Nat × Bool)} (H : RO n q a b c x y z C sv lL lF lC lT w0) (HO : SO n q p a b c x y z sv lL lF lC lT aL aF aC aT cL cF cC cT w0 w) (HF : FrO n q p a0) (t102 : a0.tmps[102]? = some (.bool true))
    (k : ∀ a' w', SO n q p a b c x y z sv lL lF lC lT aL aF aC aT cL cF cC cT w0 w' → FrO n q p a' → a'.tmps[107]? = some (.bool true) → wpTxt Tryz.prog roOps Q (roS n p a b c x y z (.slice aL lL.length cL) (.slice aF lF.length cF) (.slice aC lC.length cC) (.slice aT lT.length cT)) rest a' w') :
    wpTxt Tryz.prog roOps Q (roS n p a b c x y z (.slice aL lL.length cL) (.slice aF lF.length cF) (.slice aC lC.length cC) (.slice aT lT.length cT)) ((66, true) :: (67, true) :: (68, false) :: (69, true) :: (70, true) :: rest) a0 w := by
  obtain ⟨hv, hw, hC, rL, rF, rC, rT, nL, nF, nC, nT, hget⟩ := H
  -- 66
  obtain ⟨o, ho, hop, hd, hg⟩ := op_fact roo66
  obtain ⟨og, hog, hopg, hdg, hgg⟩ := op_fact roo65
  refine txt_take ho hd (want_some hg hog hdg t102) (fun w' hS => run_loadR hop HF.s9 hS.2.2.2.2.2.2.2.2.1) (fun a67 u => ?_)
  have t103 : a67.tmps[103]? = some (.agg #[.slice aC lC.length cC]) := u.eq (by rw [HF.sz]; decide)
  replace HF := HF.upd u (by decide)
  replace t102 := u.keep (by decide) t102
  clear u ho hop hd hg hog hopg hdg hgg
  -- 67
  obtain ⟨o, ho, hop, hd, hg⟩ := op_fact roo67
  obtain ⟨og, hog, hopg, hdg, hgg⟩ := op_fact roo65
  refine txt_take ho hd (want_some hg hog hdg t102) (fun w' hS => run_loadV hop HF.s2 hS.1 hS.2.1 hS.2.2.1) (fun a68 u => ?_)
  have t104 : a68.tmps[104]? = some (.agg #[.int .i64 a, .int .i64 b, .int .i64 c]) := u.eq (by rw [HF.sz]; decide)
  replace HF := HF.upd u (by decide)
  replace t102 := u.keep (by decide) t102
  replace t103 := u.keep (by decide) t103
  clear u ho hop hd hg hog hopg hdg hgg
  -- 68
  obtain ⟨o, ho, hop, hd, hg⟩ := op_fact roo68
  obtain ⟨og, hog, hopg, hdg, hgg⟩ := op_fact roo65
  refine txt_call ho hd (want_some hg hog hdg t102) (run_call2 hop rfl t103 t104 (fun w => enters_of Tryz.func14 (by kernel_rfl) rfl _ w)) ?_
  refine (hasT _ lC _ _ _ _ _ HO.sC hv (ord_car hv rC)).mono ?_
  rintro e w1 ⟨rfl, hb⟩
  replace HO := HO.below hb
  refine ⟨_, rfl, HO.S, fun a69 u => ?_⟩
  have t105 : a69.tmps[105]? = some (.bool true) := u.eq (by rw [HF.sz]; decide)
  replace HF := HF.upd u (by decide)
  replace t102 := u.keep (by decide) t102
  clear t103
  clear t104
  clear u ho hop hd hg hog hopg hdg hgg
  -- 69
  obtain ⟨o, ho, hop, hd, hg⟩ := op_fact roo69
  refine txt_pickv (bb := true) ho hop hd (want_none hg) t102 (eval_of t105) (fun a70 u => ?_)
  have t106 : a70.tmps[106]? = some (.bool true) := u.eq (by rw [HF.sz]; decide)
  replace HF := HF.upd u (by decide)
  clear t102
  clear t105
  clear u ho hop hd hg
  -- 70
  obtain ⟨o, ho, hop, hd, hg⟩ := op_fact roo70
  refine txt_move ho hop hd (want_none hg) t106 (fun a71 u => ?_)
  have t107 : a71.tmps[107]? = some (.bool true) := u.eq (by rw [HF.sz]; decide)
  replace HF := HF.upd u (by decide)
  clear t106
  clear u ho hop hd hg
  exact k _ _ HO HF t107
set_option maxRecDepth 100000 in
set_option maxHeartbeats 16000000 in
theorem ro_b8 {n q p : Nat} {a b c x y z C : Int} {sv : ByteArray} {lL lF lC lT : List Spn} {aL aF aC aT : Option Addr} {cL cF cC cT : Nat} {w0 : World} {w : World} {a0 : Act} {Q : Exit → Act → World → Prop} {rest : List (Nat × Bool)} (H : RO n q a b c x y z C sv lL lF lC lT w0) (HO : SO n q p a b c x y z sv lL lF lC lT aL aF aC aT cL cF cC cT w0 w) (HF : FrO n q p a0) (t107 : a0.tmps[107]? = some (.bool true))
    (k : ∀ a' w', SO n q p a b c x y z sv lL lF lC lT aL aF aC aT cL cF cC cT w0 w' → FrO n q p a' → a'.tmps[112]? = some (.bool true) → wpTxt Tryz.prog roOps Q (roS n p a b c x y z (.slice aL lL.length cL) (.slice aF lF.length cF) (.slice aC lC.length cC) (.slice aT lT.length cT)) rest a' w') :
    wpTxt Tryz.prog roOps Q (roS n p a b c x y z (.slice aL lL.length cL) (.slice aF lF.length cF) (.slice aC lC.length cC) (.slice aT lT.length cT)) ((71, true) :: (72, true) :: (73, false) :: (74, true) :: (75, true) :: rest) a0 w := by
  obtain ⟨hv, hw, hC, rL, rF, rC, rT, nL, nF, nC, nT, hget⟩ := H
  -- 71
  obtain ⟨o, ho, hop, hd, hg⟩ := op_fact roo71
  obtain ⟨og, hog, hopg, hdg, hgg⟩ := op_fact roo70
  refine txt_take ho hd (want_some hg hog hdg t107) (fun w' hS => run_loadR hop HF.s10 hS.2.2.2.2.2.2.2.2.2) (fun a72 u => ?_)
  have t108 : a72.tmps[108]? = some (.agg #[.slice aT lT.length cT]) := u.eq (by rw [HF.sz]; decide)
  replace HF := HF.upd u (by decide)
  replace t107 := u.keep (by decide) t107
  clear u ho hop hd hg hog hopg hdg hgg
  -- 72
  obtain ⟨o, ho, hop, hd, hg⟩ := op_fact roo72
  obtain ⟨og, hog, hopg, hdg, hgg⟩ := op_fact roo70
  refine txt_take ho hd (want_some hg hog hdg t107) (fun w' hS => run_loadV hop HF.s2 hS.1 hS.2.1 hS.2.2.1) (fun a73 u => ?_)
  have t109 : a73.tmps[109]? = some (.agg #[.int .i64 a, .int .i64 b, .int .i64 c]) := u.eq (by rw [HF.sz]; decide)
  replace HF := HF.upd u (by decide)
  replace t107 := u.keep (by decide) t107
  replace t108 := u.keep (by decide) t108
  clear u ho hop hd hg hog hopg hdg hgg
  -- 73
  obtain ⟨o, ho, hop, hd, hg⟩ := op_fact roo73
  obtain ⟨og, hog, hopg, hdg, hgg⟩ := op_fact roo70
  refine txt_call ho hd (want_some hg hog hdg t107) (run_call2 hop rfl t108 t109 (fun w => enters_of Tryz.func14 (by kernel_rfl) rfl _ w)) ?_
  refine (hasT _ lT _ _ _ _ _ HO.sT hv (ord_til hv rT)).mono ?_
  rintro e w1 ⟨rfl, hb⟩
  replace HO := HO.below hb
  refine ⟨_, rfl, HO.S, fun a74 u => ?_⟩
  have t110 : a74.tmps[110]? = some (.bool true) := u.eq (by rw [HF.sz]; decide)
  replace HF := HF.upd u (by decide)
  replace t107 := u.keep (by decide) t107
  clear t108
  clear t109
  clear u ho hop hd hg hog hopg hdg hgg
  -- 74
  obtain ⟨o, ho, hop, hd, hg⟩ := op_fact roo74
  refine txt_pickv (bb := true) ho hop hd (want_none hg) t107 (eval_of t110) (fun a75 u => ?_)
  have t111 : a75.tmps[111]? = some (.bool true) := u.eq (by rw [HF.sz]; decide)
  replace HF := HF.upd u (by decide)
  clear t107
  clear t110
  clear u ho hop hd hg
  -- 75
  obtain ⟨o, ho, hop, hd, hg⟩ := op_fact roo75
  refine txt_move ho hop hd (want_none hg) t111 (fun a76 u => ?_)
  have t112 : a76.tmps[112]? = some (.bool true) := u.eq (by rw [HF.sz]; decide)
  replace HF := HF.upd u (by decide)
  clear t111
  clear u ho hop hd hg
  exact k _ _ HO HF t112
set_option maxRecDepth 100000 in
set_option maxHeartbeats 16000000 in
theorem ro_b9 {n q p : Nat} {a b c x y z C : Int} {sv : ByteArray} {lL lF lC lT : List Spn} {aL aF aC aT : Option Addr} {cL cF cC cT : Nat} {w0 : World} {w : World} {a0 : Act} {Q : Exit → Act → World → Prop} {rest : List (Nat × Bool)} (H : RO n q a b c x y z C sv lL lF lC lT w0) (HO : SO n q p a b c x y z sv lL lF lC lT aL aF aC aT cL cF cC cT w0 w) (HF : FrO n q p a0) (t112 : a0.tmps[112]? = some (.bool true))
    (k : ∀ a' w', SO n q p a b c x y z sv lL lF lC lT aL aF aC aT cL cF cC cT w0 w' → FrO n q p a' → a'.tmps[118]? = some (.bool true) → wpTxt Tryz.prog roOps Q (roS n p a b c x y z (.slice aL lL.length cL) (.slice aF lF.length cF) (.slice aC lC.length cC) (.slice aT lT.length cT)) rest a' w') :
    wpTxt Tryz.prog roOps Q (roS n p a b c x y z (.slice aL lL.length cL) (.slice aF lF.length cF) (.slice aC lC.length cC) (.slice aT lT.length cT)) ((76, true) :: (77, true) :: (78, false) :: (79, false) :: (80, true) :: (81, true) :: rest) a0 w := by
  obtain ⟨hv, hw, hC, rL, rF, rC, rT, nL, nF, nC, nT, hget⟩ := H
  -- 76
  obtain ⟨o, ho, hop, hd, hg⟩ := op_fact roo76
  obtain ⟨og, hog, hopg, hdg, hgg⟩ := op_fact roo75
  refine txt_take ho hd (want_some hg hog hdg t112) (fun w' hS => run_loadR hop HF.s9 hS.2.2.2.2.2.2.2.2.1) (fun a77 u => ?_)
  have t113 : a77.tmps[113]? = some (.agg #[.slice aC lC.length cC]) := u.eq (by rw [HF.sz]; decide)
  replace HF := HF.upd u (by decide)
  replace t112 := u.keep (by decide) t112
  clear u ho hop hd hg hog hopg hdg hgg
  -- 77
  obtain ⟨o, ho, hop, hd, hg⟩ := op_fact roo77
  obtain ⟨og, hog, hopg, hdg, hgg⟩ := op_fact roo75
  refine txt_take ho hd (want_some hg hog hdg t112) (fun w' hS => run_loadR hop HF.s7 hS.2.2.2.2.2.2.1) (fun a78 u => ?_)
  have t114 : a78.tmps[114]? = some (.agg #[.slice aL lL.length cL]) := u.eq (by rw [HF.sz]; decide)
  replace HF := HF.upd u (by decide)
  replace t112 := u.keep (by decide) t112
  replace t113 := u.keep (by decide) t113
  clear u ho hop hd hg hog hopg hdg hgg
  -- 78
  obtain ⟨o, ho, hop, hd, hg⟩ := op_fact roo78
  obtain ⟨og, hog, hopg, hdg, hgg⟩ := op_fact roo75
  refine txt_call ho hd (want_some hg hog hdg t112) (run_call2 hop rfl t113 t114 (fun w => enters_of Tryz.func8 (by kernel_rfl) rfl _ w)) ?_
  refine (and_any _ _ lC lL _ HO.sC HO.sL rC.1 rL.1 (by omega) (by omega) (by omega)).mono ?_
  rintro e w1 ⟨vg8, lg8, rfl, hs, rg8, ng8, -, hb⟩
  replace HO := HO.below hb
  have s_g8 := hs; clear hs
  refine ⟨_, rfl, HO.S, fun a79 u => ?_⟩
  have t115 : a79.tmps[115]? = some (.agg #[vg8]) := u.eq (by rw [HF.sz]; decide)
  replace HF := HF.upd u (by decide)
  replace t112 := u.keep (by decide) t112
  clear t113
  clear t114
  clear u ho hop hd hg hog hopg hdg hgg
  -- 79
  obtain ⟨o, ho, hop, hd, hg⟩ := op_fact roo79
  obtain ⟨og, hog, hopg, hdg, hgg⟩ := op_fact roo75
  refine txt_call ho hd (want_some hg hog hdg t112) (run_call1 hop rfl t115 (fun w => enters_of Tryz.func13 (by kernel_rfl) rfl _ w)) ?_
  refine (emptyT _ lg8 _ s_g8 (ord_emp6 hv rC rL rg8)).mono ?_
  rintro e w2 ⟨rfl, hb⟩
  replace HO := HO.below hb
  replace s_g8 := s_g8.below hb
  refine ⟨_, rfl, HO.S, fun a80 u => ?_⟩
  have t116 : a80.tmps[116]? = some (.bool true) := u.eq (by rw [HF.sz]; decide)
  replace HF := HF.upd u (by decide)
  replace t112 := u.keep (by decide) t112
  clear t115
  clear u ho hop hd hg hog hopg hdg hgg
  -- 80
  obtain ⟨o, ho, hop, hd, hg⟩ := op_fact roo80
  refine txt_pickv (bb := true) ho hop hd (want_none hg) t112 (eval_of t116) (fun a81 u => ?_)
  have t117 : a81.tmps[117]? = some (.bool true) := u.eq (by rw [HF.sz]; decide)
  replace HF := HF.upd u (by decide)
  clear t112
  clear t116
  clear u ho hop hd hg
  -- 81
  obtain ⟨o, ho, hop, hd, hg⟩ := op_fact roo81
  refine txt_move ho hop hd (want_none hg) t117 (fun a82 u => ?_)
  have t118 : a82.tmps[118]? = some (.bool true) := u.eq (by rw [HF.sz]; decide)
  replace HF := HF.upd u (by decide)
  clear t117
  clear u ho hop hd hg
  exact k _ _ HO HF t118
set_option maxRecDepth 100000 in
set_option maxHeartbeats 16000000 in
theorem ro_b10 {n q p : Nat} {a b c x y z C : Int} {sv : ByteArray} {lL lF lC lT : List Spn} {aL aF aC aT : Option Addr} {cL cF cC cT : Nat} {w0 : World} {w : World} {a0 : Act} {Q : Exit → Act → World → Prop} {rest : List (Nat × Bool)} (H : RO n q a b c x y z C sv lL lF lC lT w0) (HO : SO n q p a b c x y z sv lL lF lC lT aL aF aC aT cL cF cC cT w0 w) (HF : FrO n q p a0) (t118 : a0.tmps[118]? = some (.bool true))
    (k : ∀ a' w', SO n q p a b c x y z sv lL lF lC lT aL aF aC aT cL cF cC cT w0 w' → FrO n q p a' → a'.tmps[124]? = some (.bool true) → wpTxt Tryz.prog roOps Q (roS n p a b c x y z (.slice aL lL.length cL) (.slice aF lF.length cF) (.slice aC lC.length cC) (.slice aT lT.length cT)) rest a' w') :
    wpTxt Tryz.prog roOps Q (roS n p a b c x y z (.slice aL lL.length cL) (.slice aF lF.length cF) (.slice aC lC.length cC) (.slice aT lT.length cT)) ((82, true) :: (83, true) :: (84, false) :: (85, false) :: (86, true) :: (87, true) :: rest) a0 w := by
  obtain ⟨hv, hw, hC, rL, rF, rC, rT, nL, nF, nC, nT, hget⟩ := H
  -- 82
  obtain ⟨o, ho, hop, hd, hg⟩ := op_fact roo82
  obtain ⟨og, hog, hopg, hdg, hgg⟩ := op_fact roo81
  refine txt_take ho hd (want_some hg hog hdg t118) (fun w' hS => run_loadR hop HF.s10 hS.2.2.2.2.2.2.2.2.2) (fun a83 u => ?_)
  have t119 : a83.tmps[119]? = some (.agg #[.slice aT lT.length cT]) := u.eq (by rw [HF.sz]; decide)
  replace HF := HF.upd u (by decide)
  replace t118 := u.keep (by decide) t118
  clear u ho hop hd hg hog hopg hdg hgg
  -- 83
  obtain ⟨o, ho, hop, hd, hg⟩ := op_fact roo83
  obtain ⟨og, hog, hopg, hdg, hgg⟩ := op_fact roo81
  refine txt_take ho hd (want_some hg hog hdg t118) (fun w' hS => run_loadR hop HF.s7 hS.2.2.2.2.2.2.1) (fun a84 u => ?_)
  have t120 : a84.tmps[120]? = some (.agg #[.slice aL lL.length cL]) := u.eq (by rw [HF.sz]; decide)
  replace HF := HF.upd u (by decide)
  replace t118 := u.keep (by decide) t118
  replace t119 := u.keep (by decide) t119
  clear u ho hop hd hg hog hopg hdg hgg
  -- 84
  obtain ⟨o, ho, hop, hd, hg⟩ := op_fact roo84
  obtain ⟨og, hog, hopg, hdg, hgg⟩ := op_fact roo81
  refine txt_call ho hd (want_some hg hog hdg t118) (run_call2 hop rfl t119 t120 (fun w => enters_of Tryz.func8 (by kernel_rfl) rfl _ w)) ?_
  refine (and_any _ _ lT lL _ HO.sT HO.sL rT.1 rL.1 (by omega) (by omega) (by omega)).mono ?_
  rintro e w1 ⟨vg9, lg9, rfl, hs, rg9, ng9, -, hb⟩
  replace HO := HO.below hb
  have s_g9 := hs; clear hs
  refine ⟨_, rfl, HO.S, fun a85 u => ?_⟩
  have t121 : a85.tmps[121]? = some (.agg #[vg9]) := u.eq (by rw [HF.sz]; decide)
  replace HF := HF.upd u (by decide)
  replace t118 := u.keep (by decide) t118
  clear t119
  clear t120
  clear u ho hop hd hg hog hopg hdg hgg
  -- 85
  obtain ⟨o, ho, hop, hd, hg⟩ := op_fact roo85
  obtain ⟨og, hog, hopg, hdg, hgg⟩ := op_fact roo81
  refine txt_call ho hd (want_some hg hog hdg t118) (run_call1 hop rfl t121 (fun w => enters_of Tryz.func13 (by kernel_rfl) rfl _ w)) ?_
  refine (emptyT _ lg9 _ s_g9 (ord_emp7 hv rT rL rg9)).mono ?_
  rintro e w2 ⟨rfl, hb⟩
  replace HO := HO.below hb
  replace s_g9 := s_g9.below hb
  refine ⟨_, rfl, HO.S, fun a86 u => ?_⟩
  have t122 : a86.tmps[122]? = some (.bool true) := u.eq (by rw [HF.sz]; decide)
  replace HF := HF.upd u (by decide)
  replace t118 := u.keep (by decide) t118
  clear t121
  clear u ho hop hd hg hog hopg hdg hgg
  -- 86
  obtain ⟨o, ho, hop, hd, hg⟩ := op_fact roo86
  refine txt_pickv (bb := true) ho hop hd (want_none hg) t118 (eval_of t122) (fun a87 u => ?_)
  have t123 : a87.tmps[123]? = some (.bool true) := u.eq (by rw [HF.sz]; decide)
  replace HF := HF.upd u (by decide)
  clear t118
  clear t122
  clear u ho hop hd hg
  -- 87
  obtain ⟨o, ho, hop, hd, hg⟩ := op_fact roo87
  refine txt_move ho hop hd (want_none hg) t123 (fun a88 u => ?_)
  have t124 : a88.tmps[124]? = some (.bool true) := u.eq (by rw [HF.sz]; decide)
  replace HF := HF.upd u (by decide)
  clear t123
  clear u ho hop hd hg
  exact k _ _ HO HF t124
set_option maxRecDepth 100000 in
set_option maxHeartbeats 16000000 in
theorem ro_b11t {n q p : Nat} {a b c x y z C : Int} {sv : ByteArray} {lL lF lC lT : List Spn} {aL aF aC aT : Option Addr} {cL cF cC cT : Nat} {w0 : World} {w : World} {a0 : Act} {Q : Exit → Act → World → Prop} {rest : List (Nat × Bool)} (H : RO n q a b c x y z C sv lL lF lC lT w0) (hB : decide (inL lC (numV x y z)) = true) (hxa : x = a) (HO : SO n q p a b c x y z sv lL lF lC lT aL aF aC aT cL cF cC cT w0 w) (HF : FrO n q p a0) (t124 : a0.tmps[124]? = some (.bool true))
    (k : ∀ a' w', SO n q p a b c x y z sv lL lF lC lT aL aF aC aT cL cF cC cT w0 w' → FrO n q p a' → a'.tmps[142]? = some (.bool true) → wpTxt Tryz.prog roOps Q (roS n p a b c x y z (.slice aL lL.length cL) (.slice aF lF.length cF) (.slice aC lC.length cC) (.slice aT lT.length cT)) rest a' w') :
    wpTxt Tryz.prog roOps Q (roS n p a b c x y z (.slice aL lL.length cL) (.slice aF lF.length cF) (.slice aC lC.length cC) (.slice aT lT.length cT)) ((88, true) :: (89, true) :: (90, false) :: (91, true) :: (92, true) :: (93, true) :: (94, true) :: (95, true) :: (96, true) :: (97, true) :: (98, true) :: (99, true) :: (100, true) :: (101, true) :: (102, true) :: (103, true) :: (104, true) :: (105, true) :: rest) a0 w := by
  obtain ⟨hv, hw, hC, rL, rF, rC, rT, nL, nF, nC, nT, hget⟩ := H
  -- 88
  obtain ⟨o, ho, hop, hd, hg⟩ := op_fact roo88
  obtain ⟨og, hog, hopg, hdg, hgg⟩ := op_fact roo87
  refine txt_take ho hd (want_some hg hog hdg t124) (fun w' hS => run_loadR hop HF.s9 hS.2.2.2.2.2.2.2.2.1) (fun a89 u => ?_)
  have t125 : a89.tmps[125]? = some (.agg #[.slice aC lC.length cC]) := u.eq (by rw [HF.sz]; decide)
  replace HF := HF.upd u (by decide)
  replace t124 := u.keep (by decide) t124
  clear u ho hop hd hg hog hopg hdg hgg
  -- 89
  obtain ⟨o, ho, hop, hd, hg⟩ := op_fact roo89
  obtain ⟨og, hog, hopg, hdg, hgg⟩ := op_fact roo87
  refine txt_take ho hd (want_some hg hog hdg t124) (fun w' hS => run_loadV hop HF.s3 hS.2.2.2.1 hS.2.2.2.2.1 hS.2.2.2.2.2.1) (fun a90 u => ?_)
  have t126 : a90.tmps[126]? = some (.agg #[.int .i64 x, .int .i64 y, .int .i64 z]) := u.eq (by rw [HF.sz]; decide)
  replace HF := HF.upd u (by decide)
  replace t124 := u.keep (by decide) t124
  replace t125 := u.keep (by decide) t125
  clear u ho hop hd hg hog hopg hdg hgg
  -- 90
  obtain ⟨o, ho, hop, hd, hg⟩ := op_fact roo90
  obtain ⟨og, hog, hopg, hdg, hgg⟩ := op_fact roo87
  refine txt_call ho hd (want_some hg hog hdg t124) (run_call2 hop rfl t125 t126 (fun w => enters_of Tryz.func14 (by kernel_rfl) rfl _ w)) ?_
  refine (hasT _ lC _ _ _ _ _ HO.sC hw (hB)).mono ?_
  rintro e w1 ⟨rfl, hb⟩
  replace HO := HO.below hb
  refine ⟨_, rfl, HO.S, fun a91 u => ?_⟩
  have t127 : a91.tmps[127]? = some (.bool true) := u.eq (by rw [HF.sz]; decide)
  replace HF := HF.upd u (by decide)
  replace t124 := u.keep (by decide) t124
  clear t125
  clear t126
  clear u ho hop hd hg hog hopg hdg hgg
  -- 91
  obtain ⟨o, ho, hop, hd, hg⟩ := op_fact roo91
  obtain ⟨og, hog, hopg, hdg, hgg⟩ := op_fact roo87
  refine txt_take ho hd (want_some hg hog hdg t124) (fun w' hS => run_not hop rfl t127) (fun a92 u => ?_)
  have t128 : a92.tmps[128]? = some (.bool false) := u.eq (by rw [HF.sz]; decide)
  replace HF := HF.upd u (by decide)
  replace t124 := u.keep (by decide) t124
  clear t127
  clear u ho hop hd hg hog hopg hdg hgg
  -- 92
  obtain ⟨o, ho, hop, hd, hg⟩ := op_fact roo92
  obtain ⟨og, hog, hopg, hdg, hgg⟩ := op_fact roo87
  refine txt_move ho hop hd (want_some hg hog hdg t124) t128 (fun a93 u => ?_)
  have t129 : a93.tmps[129]? = some (.bool false) := u.eq (by rw [HF.sz]; decide)
  replace HF := HF.upd u (by decide)
  replace t124 := u.keep (by decide) t124
  clear t128
  clear u ho hop hd hg hog hopg hdg hgg
  -- 93
  obtain ⟨o, ho, hop, hd, hg⟩ := op_fact roo93
  obtain ⟨og, hog, hopg, hdg, hgg⟩ := op_fact roo92
  refine txt_take ho hd (want_some hg hog hdg t129) (fun w' hS => run_ix0 hop HF.s3) (fun a94 u => ?_)
  have t130 : a94.tmps[130]? = some (.pointer (some ⟨n + 1, 0, none⟩)) := u.eq (by rw [HF.sz]; decide)
  replace HF := HF.upd u (by decide)
  replace t124 := u.keep (by decide) t124
  replace t129 := u.keep (by decide) t129
  clear u ho hop hd hg hog hopg hdg hgg
  -- 94
  obtain ⟨o, ho, hop, hd, hg⟩ := op_fact roo94
  obtain ⟨og, hog, hopg, hdg, hgg⟩ := op_fact roo92
  refine txt_take ho hd (want_some hg hog hdg t129) (fun w' hS => run_loadI hop t130 hS.2.2.2.1) (fun a95 u => ?_)
  have t131 : a95.tmps[131]? = some (.int .i64 x) := u.eq (by rw [HF.sz]; decide)
  replace HF := HF.upd u (by decide)
  replace t124 := u.keep (by decide) t124
  replace t129 := u.keep (by decide) t129
  clear t130
  clear u ho hop hd hg hog hopg hdg hgg
  -- 95
  obtain ⟨o, ho, hop, hd, hg⟩ := op_fact roo95
  obtain ⟨og, hog, hopg, hdg, hgg⟩ := op_fact roo92
  refine txt_take ho hd (want_some hg hog hdg t129) (fun w' hS => run_ix0 hop HF.s2) (fun a96 u => ?_)
  have t132 : a96.tmps[132]? = some (.pointer (some ⟨n, 0, none⟩)) := u.eq (by rw [HF.sz]; decide)
  replace HF := HF.upd u (by decide)
  replace t124 := u.keep (by decide) t124
  replace t129 := u.keep (by decide) t129
  replace t131 := u.keep (by decide) t131
  clear u ho hop hd hg hog hopg hdg hgg
  -- 96
  obtain ⟨o, ho, hop, hd, hg⟩ := op_fact roo96
  obtain ⟨og, hog, hopg, hdg, hgg⟩ := op_fact roo92
  refine txt_take ho hd (want_some hg hog hdg t129) (fun w' hS => run_loadI hop t132 hS.1) (fun a97 u => ?_)
  have t133 : a97.tmps[133]? = some (.int .i64 a) := u.eq (by rw [HF.sz]; decide)
  replace HF := HF.upd u (by decide)
  replace t124 := u.keep (by decide) t124
  replace t129 := u.keep (by decide) t129
  replace t131 := u.keep (by decide) t131
  clear t132
  clear u ho hop hd hg hog hopg hdg hgg
  -- 97
  obtain ⟨o, ho, hop, hd, hg⟩ := op_fact roo97
  obtain ⟨og, hog, hopg, hdg, hgg⟩ := op_fact roo92
  refine txt_take ho hd (want_some hg hog hdg t129) (fun w' hS => run_eqI hop t131 t133 hxa) (fun a98 u => ?_)
  have t134 : a98.tmps[134]? = some (.bool true) := u.eq (by rw [HF.sz]; decide)
  replace HF := HF.upd u (by decide)
  replace t124 := u.keep (by decide) t124
  replace t129 := u.keep (by decide) t129
  clear t131
  clear t133
  clear u ho hop hd hg hog hopg hdg hgg
  -- 98
  obtain ⟨o, ho, hop, hd, hg⟩ := op_fact roo98
  obtain ⟨og, hog, hopg, hdg, hgg⟩ := op_fact roo87
  refine txt_pickv (bb := false) ho hop hd (want_some hg hog hdg t124) t129 (eval_of t134) (fun a99 u => ?_)
  have t135 : a99.tmps[135]? = some (.bool true) := u.eq (by rw [HF.sz]; decide)
  replace HF := HF.upd u (by decide)
  replace t124 := u.keep (by decide) t124
  clear t129
  clear t134
  clear u ho hop hd hg hog hopg hdg hgg
  -- 99
  obtain ⟨o, ho, hop, hd, hg⟩ := op_fact roo99
  obtain ⟨og, hog, hopg, hdg, hgg⟩ := op_fact roo87
  refine txt_move ho hop hd (want_some hg hog hdg t124) t135 (fun a100 u => ?_)
  have t136 : a100.tmps[136]? = some (.bool true) := u.eq (by rw [HF.sz]; decide)
  replace HF := HF.upd u (by decide)
  replace t124 := u.keep (by decide) t124
  clear t135
  clear u ho hop hd hg hog hopg hdg hgg
  -- 100
  obtain ⟨o, ho, hop, hd, hg⟩ := op_fact roo100
  obtain ⟨og, hog, hopg, hdg, hgg⟩ := op_fact roo99
  refine txt_skip ho hd (want_no hg hog hdg t136) (fun a101 u => ?_)
  have t137 : a101.tmps[137]? = some (undef) := u.eq (by rw [HF.sz]; decide)
  replace HF := HF.upd u (by decide)
  replace t124 := u.keep (by decide) t124
  replace t136 := u.keep (by decide) t136
  clear u ho hop hd hg hog hopg hdg hgg
  -- 101
  obtain ⟨o, ho, hop, hd, hg⟩ := op_fact roo101
  obtain ⟨og, hog, hopg, hdg, hgg⟩ := op_fact roo99
  refine txt_skip ho hd (want_no hg hog hdg t136) (fun a102 u => ?_)
  have t138 : a102.tmps[138]? = some (undef) := u.eq (by rw [HF.sz]; decide)
  replace HF := HF.upd u (by decide)
  replace t124 := u.keep (by decide) t124
  replace t136 := u.keep (by decide) t136
  clear t137
  clear u ho hop hd hg hog hopg hdg hgg
  -- 102
  obtain ⟨o, ho, hop, hd, hg⟩ := op_fact roo102
  obtain ⟨og, hog, hopg, hdg, hgg⟩ := op_fact roo99
  refine txt_skip ho hd (want_no hg hog hdg t136) (fun a103 u => ?_)
  have t139 : a103.tmps[139]? = some (undef) := u.eq (by rw [HF.sz]; decide)
  replace HF := HF.upd u (by decide)
  replace t124 := u.keep (by decide) t124
  replace t136 := u.keep (by decide) t136
  clear t138
  clear u ho hop hd hg hog hopg hdg hgg
  -- 103
  obtain ⟨o, ho, hop, hd, hg⟩ := op_fact roo103
  obtain ⟨og, hog, hopg, hdg, hgg⟩ := op_fact roo87
  refine txt_pickv (bb := true) ho hop hd (want_some hg hog hdg t124) t136 (rfl) (fun a104 u => ?_)
  have t140 : a104.tmps[140]? = some (.bool true) := u.eq (by rw [HF.sz]; decide)
  replace HF := HF.upd u (by decide)
  replace t124 := u.keep (by decide) t124
  clear t136
  clear t139
  clear u ho hop hd hg hog hopg hdg hgg
  -- 104
  obtain ⟨o, ho, hop, hd, hg⟩ := op_fact roo104
  refine txt_pickv (bb := true) ho hop hd (want_none hg) t124 (eval_of t140) (fun a105 u => ?_)
  have t141 : a105.tmps[141]? = some (.bool true) := u.eq (by rw [HF.sz]; decide)
  replace HF := HF.upd u (by decide)
  clear t124
  clear t140
  clear u ho hop hd hg
  -- 105
  obtain ⟨o, ho, hop, hd, hg⟩ := op_fact roo105
  refine txt_move ho hop hd (want_none hg) t141 (fun a106 u => ?_)
  have t142 : a106.tmps[142]? = some (.bool true) := u.eq (by rw [HF.sz]; decide)
  replace HF := HF.upd u (by decide)
  clear t141
  clear u ho hop hd hg
  exact k _ _ HO HF t142
set_option maxRecDepth 100000 in
set_option maxHeartbeats 16000000 in
theorem ro_b11f {n q p : Nat} {a b c x y z C : Int} {sv : ByteArray} {lL lF lC lT : List Spn} {aL aF aC aT : Option Addr} {cL cF cC cT : Nat} {w0 : World} {w : World} {a0 : Act} {Q : Exit → Act → World → Prop} {rest : List (Nat × Bool)} (H : RO n q a b c x y z C sv lL lF lC lT w0) (hB : decide (inL lC (numV x y z)) = false) (HO : SO n q p a b c x y z sv lL lF lC lT aL aF aC aT cL cF cC cT w0 w) (HF : FrO n q p a0) (t124 : a0.tmps[124]? = some (.bool true))
    (k : ∀ a' w', SO n q p a b c x y z sv lL lF lC lT aL aF aC aT cL cF cC cT w0 w' → FrO n q p a' → a'.tmps[142]? = some (.bool true) → wpTxt Tryz.prog roOps Q (roS n p a b c x y z (.slice aL lL.length cL) (.slice aF lF.length cF) (.slice aC lC.length cC) (.slice aT lT.length cT)) rest a' w') :
    wpTxt Tryz.prog roOps Q (roS n p a b c x y z (.slice aL lL.length cL) (.slice aF lF.length cF) (.slice aC lC.length cC) (.slice aT lT.length cT)) ((88, true) :: (89, true) :: (90, false) :: (91, true) :: (92, true) :: (93, true) :: (94, true) :: (95, true) :: (96, true) :: (97, true) :: (98, true) :: (99, true) :: (100, true) :: (101, true) :: (102, true) :: (103, true) :: (104, true) :: (105, true) :: rest) a0 w := by
  obtain ⟨hv, hw, hC, rL, rF, rC, rT, nL, nF, nC, nT, hget⟩ := H
  -- 88
  obtain ⟨o, ho, hop, hd, hg⟩ := op_fact roo88
  obtain ⟨og, hog, hopg, hdg, hgg⟩ := op_fact roo87
  refine txt_take ho hd (want_some hg hog hdg t124) (fun w' hS => run_loadR hop HF.s9 hS.2.2.2.2.2.2.2.2.1) (fun a89 u => ?_)
  have t125 : a89.tmps[125]? = some (.agg #[.slice aC lC.length cC]) := u.eq (by rw [HF.sz]; decide)
  replace HF := HF.upd u (by decide)
  replace t124 := u.keep (by decide) t124
  clear u ho hop hd hg hog hopg hdg hgg
  -- 89
  obtain ⟨o, ho, hop, hd, hg⟩ := op_fact roo89
  obtain ⟨og, hog, hopg, hdg, hgg⟩ := op_fact roo87
  refine txt_take ho hd (want_some hg hog hdg t124) (fun w' hS => run_loadV hop HF.s3 hS.2.2.2.1 hS.2.2.2.2.1 hS.2.2.2.2.2.1) (fun a90 u => ?_)
  have t126 : a90.tmps[126]? = some (.agg #[.int .i64 x, .int .i64 y, .int .i64 z]) := u.eq (by rw [HF.sz]; decide)
  replace HF := HF.upd u (by decide)
  replace t124 := u.keep (by decide) t124
  replace t125 := u.keep (by decide) t125
  clear u ho hop hd hg hog hopg hdg hgg
  -- 90
  obtain ⟨o, ho, hop, hd, hg⟩ := op_fact roo90
  obtain ⟨og, hog, hopg, hdg, hgg⟩ := op_fact roo87
  refine txt_call ho hd (want_some hg hog hdg t124) (run_call2 hop rfl t125 t126 (fun w => enters_of Tryz.func14 (by kernel_rfl) rfl _ w)) ?_
  refine (hasT _ lC _ _ _ _ _ HO.sC hw (hB)).mono ?_
  rintro e w1 ⟨rfl, hb⟩
  replace HO := HO.below hb
  refine ⟨_, rfl, HO.S, fun a91 u => ?_⟩
  have t127 : a91.tmps[127]? = some (.bool false) := u.eq (by rw [HF.sz]; decide)
  replace HF := HF.upd u (by decide)
  replace t124 := u.keep (by decide) t124
  clear t125
  clear t126
  clear u ho hop hd hg hog hopg hdg hgg
  -- 91
  obtain ⟨o, ho, hop, hd, hg⟩ := op_fact roo91
  obtain ⟨og, hog, hopg, hdg, hgg⟩ := op_fact roo87
  refine txt_take ho hd (want_some hg hog hdg t124) (fun w' hS => run_not hop rfl t127) (fun a92 u => ?_)
  have t128 : a92.tmps[128]? = some (.bool true) := u.eq (by rw [HF.sz]; decide)
  replace HF := HF.upd u (by decide)
  replace t124 := u.keep (by decide) t124
  clear t127
  clear u ho hop hd hg hog hopg hdg hgg
  -- 92
  obtain ⟨o, ho, hop, hd, hg⟩ := op_fact roo92
  obtain ⟨og, hog, hopg, hdg, hgg⟩ := op_fact roo87
  refine txt_move ho hop hd (want_some hg hog hdg t124) t128 (fun a93 u => ?_)
  have t129 : a93.tmps[129]? = some (.bool true) := u.eq (by rw [HF.sz]; decide)
  replace HF := HF.upd u (by decide)
  replace t124 := u.keep (by decide) t124
  clear t128
  clear u ho hop hd hg hog hopg hdg hgg
  -- 93
  obtain ⟨o, ho, hop, hd, hg⟩ := op_fact roo93
  obtain ⟨og, hog, hopg, hdg, hgg⟩ := op_fact roo92
  refine txt_skip ho hd (want_no hg hog hdg t129) (fun a94 u => ?_)
  have t130 : a94.tmps[130]? = some (undef) := u.eq (by rw [HF.sz]; decide)
  replace HF := HF.upd u (by decide)
  replace t124 := u.keep (by decide) t124
  replace t129 := u.keep (by decide) t129
  clear u ho hop hd hg hog hopg hdg hgg
  -- 94
  obtain ⟨o, ho, hop, hd, hg⟩ := op_fact roo94
  obtain ⟨og, hog, hopg, hdg, hgg⟩ := op_fact roo92
  refine txt_skip ho hd (want_no hg hog hdg t129) (fun a95 u => ?_)
  have t131 : a95.tmps[131]? = some (undef) := u.eq (by rw [HF.sz]; decide)
  replace HF := HF.upd u (by decide)
  replace t124 := u.keep (by decide) t124
  replace t129 := u.keep (by decide) t129
  clear t130
  clear u ho hop hd hg hog hopg hdg hgg
  -- 95
  obtain ⟨o, ho, hop, hd, hg⟩ := op_fact roo95
  obtain ⟨og, hog, hopg, hdg, hgg⟩ := op_fact roo92
  refine txt_skip ho hd (want_no hg hog hdg t129) (fun a96 u => ?_)
  have t132 : a96.tmps[132]? = some (undef) := u.eq (by rw [HF.sz]; decide)
  replace HF := HF.upd u (by decide)
  replace t124 := u.keep (by decide) t124
  replace t129 := u.keep (by decide) t129
  replace t131 := u.keep (by decide) t131
  clear u ho hop hd hg hog hopg hdg hgg
  -- 96
  obtain ⟨o, ho, hop, hd, hg⟩ := op_fact roo96
  obtain ⟨og, hog, hopg, hdg, hgg⟩ := op_fact roo92
  refine txt_skip ho hd (want_no hg hog hdg t129) (fun a97 u => ?_)
  have t133 : a97.tmps[133]? = some (undef) := u.eq (by rw [HF.sz]; decide)
  replace HF := HF.upd u (by decide)
  replace t124 := u.keep (by decide) t124
  replace t129 := u.keep (by decide) t129
  replace t131 := u.keep (by decide) t131
  clear t132
  clear u ho hop hd hg hog hopg hdg hgg
  -- 97
  obtain ⟨o, ho, hop, hd, hg⟩ := op_fact roo97
  obtain ⟨og, hog, hopg, hdg, hgg⟩ := op_fact roo92
  refine txt_skip ho hd (want_no hg hog hdg t129) (fun a98 u => ?_)
  have t134 : a98.tmps[134]? = some (undef) := u.eq (by rw [HF.sz]; decide)
  replace HF := HF.upd u (by decide)
  replace t124 := u.keep (by decide) t124
  replace t129 := u.keep (by decide) t129
  clear t131
  clear t133
  clear u ho hop hd hg hog hopg hdg hgg
  -- 98
  obtain ⟨o, ho, hop, hd, hg⟩ := op_fact roo98
  obtain ⟨og, hog, hopg, hdg, hgg⟩ := op_fact roo87
  refine txt_pickv (bb := true) ho hop hd (want_some hg hog hdg t124) t129 (rfl) (fun a99 u => ?_)
  have t135 : a99.tmps[135]? = some (.bool true) := u.eq (by rw [HF.sz]; decide)
  replace HF := HF.upd u (by decide)
  replace t124 := u.keep (by decide) t124
  clear t129
  clear t134
  clear u ho hop hd hg hog hopg hdg hgg
  -- 99
  obtain ⟨o, ho, hop, hd, hg⟩ := op_fact roo99
  obtain ⟨og, hog, hopg, hdg, hgg⟩ := op_fact roo87
  refine txt_move ho hop hd (want_some hg hog hdg t124) t135 (fun a100 u => ?_)
  have t136 : a100.tmps[136]? = some (.bool true) := u.eq (by rw [HF.sz]; decide)
  replace HF := HF.upd u (by decide)
  replace t124 := u.keep (by decide) t124
  clear t135
  clear u ho hop hd hg hog hopg hdg hgg
  -- 100
  obtain ⟨o, ho, hop, hd, hg⟩ := op_fact roo100
  obtain ⟨og, hog, hopg, hdg, hgg⟩ := op_fact roo99
  refine txt_skip ho hd (want_no hg hog hdg t136) (fun a101 u => ?_)
  have t137 : a101.tmps[137]? = some (undef) := u.eq (by rw [HF.sz]; decide)
  replace HF := HF.upd u (by decide)
  replace t124 := u.keep (by decide) t124
  replace t136 := u.keep (by decide) t136
  clear u ho hop hd hg hog hopg hdg hgg
  -- 101
  obtain ⟨o, ho, hop, hd, hg⟩ := op_fact roo101
  obtain ⟨og, hog, hopg, hdg, hgg⟩ := op_fact roo99
  refine txt_skip ho hd (want_no hg hog hdg t136) (fun a102 u => ?_)
  have t138 : a102.tmps[138]? = some (undef) := u.eq (by rw [HF.sz]; decide)
  replace HF := HF.upd u (by decide)
  replace t124 := u.keep (by decide) t124
  replace t136 := u.keep (by decide) t136
  clear t137
  clear u ho hop hd hg hog hopg hdg hgg
  -- 102
  obtain ⟨o, ho, hop, hd, hg⟩ := op_fact roo102
  obtain ⟨og, hog, hopg, hdg, hgg⟩ := op_fact roo99
  refine txt_skip ho hd (want_no hg hog hdg t136) (fun a103 u => ?_)
  have t139 : a103.tmps[139]? = some (undef) := u.eq (by rw [HF.sz]; decide)
  replace HF := HF.upd u (by decide)
  replace t124 := u.keep (by decide) t124
  replace t136 := u.keep (by decide) t136
  clear t138
  clear u ho hop hd hg hog hopg hdg hgg
  -- 103
  obtain ⟨o, ho, hop, hd, hg⟩ := op_fact roo103
  obtain ⟨og, hog, hopg, hdg, hgg⟩ := op_fact roo87
  refine txt_pickv (bb := true) ho hop hd (want_some hg hog hdg t124) t136 (rfl) (fun a104 u => ?_)
  have t140 : a104.tmps[140]? = some (.bool true) := u.eq (by rw [HF.sz]; decide)
  replace HF := HF.upd u (by decide)
  replace t124 := u.keep (by decide) t124
  clear t136
  clear t139
  clear u ho hop hd hg hog hopg hdg hgg
  -- 104
  obtain ⟨o, ho, hop, hd, hg⟩ := op_fact roo104
  refine txt_pickv (bb := true) ho hop hd (want_none hg) t124 (eval_of t140) (fun a105 u => ?_)
  have t141 : a105.tmps[141]? = some (.bool true) := u.eq (by rw [HF.sz]; decide)
  replace HF := HF.upd u (by decide)
  clear t124
  clear t140
  clear u ho hop hd hg
  -- 105
  obtain ⟨o, ho, hop, hd, hg⟩ := op_fact roo105
  refine txt_move ho hop hd (want_none hg) t141 (fun a106 u => ?_)
  have t142 : a106.tmps[142]? = some (.bool true) := u.eq (by rw [HF.sz]; decide)
  replace HF := HF.upd u (by decide)
  clear t141
  clear u ho hop hd hg
  exact k _ _ HO HF t142
set_option maxRecDepth 100000 in
set_option maxHeartbeats 16000000 in
theorem ro_b12t {n q p : Nat} {a b c x y z C : Int} {sv : ByteArray} {lL lF lC lT : List Spn} {aL aF aC aT : Option Addr} {cL cF cC cT : Nat} {w0 : World} {w : World} {a0 : Act} {Q : Exit → Act → World → Prop} {rest : List (Nat × Bool)} (H : RO n q a b c x y z C sv lL lF lC lT w0) (hB : decide (inL lT (numV x y z)) = true) (hxa : x = a) (hyb : y = b) (HO : SO n q p a b c x y z sv lL lF lC lT aL aF aC aT cL cF cC cT w0 w) (HF : FrO n q p a0) (t142 : a0.tmps[142]? = some (.bool true))
    (k : ∀ a' w', SO n q p a b c x y z sv lL lF lC lT aL aF aC aT cL cF cC cT w0 w' → FrO n q p a' → a'.tmps[4]? = some (.bool true) → wpTxt Tryz.prog roOps Q (roS n p a b c x y z (.slice aL lL.length cL) (.slice aF lF.length cF) (.slice aC lC.length cC) (.slice aT lT.length cT)) rest a' w') :
    wpTxt Tryz.prog roOps Q (roS n p a b c x y z (.slice aL lL.length cL) (.slice aF lF.length cF) (.slice aC lC.length cC) (.slice aT lT.length cT)) ((106, true) :: (107, true) :: (108, false) :: (109, true) :: (110, true) :: (111, true) :: (112, true) :: (113, true) :: (114, true) :: (115, true) :: (116, true) :: (117, true) :: (118, true) :: (119, true) :: (120, true) :: (121, true) :: (122, true) :: (123, true) :: (124, true) :: (125, true) :: rest) a0 w := by
  obtain ⟨hv, hw, hC, rL, rF, rC, rT, nL, nF, nC, nT, hget⟩ := H
  -- 106
  obtain ⟨o, ho, hop, hd, hg⟩ := op_fact roo106
  obtain ⟨og, hog, hopg, hdg, hgg⟩ := op_fact roo105
  refine txt_take ho hd (want_some hg hog hdg t142) (fun w' hS => run_loadR hop HF.s10 hS.2.2.2.2.2.2.2.2.2) (fun a107 u => ?_)
  have t143 : a107.tmps[143]? = some (.agg #[.slice aT lT.length cT]) := u.eq (by rw [HF.sz]; decide)
  replace HF := HF.upd u (by decide)
  replace t142 := u.keep (by decide) t142
  clear u ho hop hd hg hog hopg hdg hgg
  -- 107
  obtain ⟨o, ho, hop, hd, hg⟩ := op_fact roo107
  obtain ⟨og, hog, hopg, hdg, hgg⟩ := op_fact roo105
  refine txt_take ho hd (want_some hg hog hdg t142) (fun w' hS => run_loadV hop HF.s3 hS.2.2.2.1 hS.2.2.2.2.1 hS.2.2.2.2.2.1) (fun a108 u => ?_)
  have t144 : a108.tmps[144]? = some (.agg #[.int .i64 x, .int .i64 y, .int .i64 z]) := u.eq (by rw [HF.sz]; decide)
  replace HF := HF.upd u (by decide)
  replace t142 := u.keep (by decide) t142
  replace t143 := u.keep (by decide) t143
  clear u ho hop hd hg hog hopg hdg hgg
  -- 108
  obtain ⟨o, ho, hop, hd, hg⟩ := op_fact roo108
  obtain ⟨og, hog, hopg, hdg, hgg⟩ := op_fact roo105
  refine txt_call ho hd (want_some hg hog hdg t142) (run_call2 hop rfl t143 t144 (fun w => enters_of Tryz.func14 (by kernel_rfl) rfl _ w)) ?_
  refine (hasT _ lT _ _ _ _ _ HO.sT hw (hB)).mono ?_
  rintro e w1 ⟨rfl, hb⟩
  replace HO := HO.below hb
  refine ⟨_, rfl, HO.S, fun a109 u => ?_⟩
  have t145 : a109.tmps[145]? = some (.bool true) := u.eq (by rw [HF.sz]; decide)
  replace HF := HF.upd u (by decide)
  replace t142 := u.keep (by decide) t142
  clear t143
  clear t144
  clear u ho hop hd hg hog hopg hdg hgg
  -- 109
  obtain ⟨o, ho, hop, hd, hg⟩ := op_fact roo109
  obtain ⟨og, hog, hopg, hdg, hgg⟩ := op_fact roo105
  refine txt_take ho hd (want_some hg hog hdg t142) (fun w' hS => run_not hop rfl t145) (fun a110 u => ?_)
  have t146 : a110.tmps[146]? = some (.bool false) := u.eq (by rw [HF.sz]; decide)
  replace HF := HF.upd u (by decide)
  replace t142 := u.keep (by decide) t142
  clear t145
  clear u ho hop hd hg hog hopg hdg hgg
  -- 110
  obtain ⟨o, ho, hop, hd, hg⟩ := op_fact roo110
  obtain ⟨og, hog, hopg, hdg, hgg⟩ := op_fact roo105
  refine txt_move ho hop hd (want_some hg hog hdg t142) t146 (fun a111 u => ?_)
  have t147 : a111.tmps[147]? = some (.bool false) := u.eq (by rw [HF.sz]; decide)
  replace HF := HF.upd u (by decide)
  replace t142 := u.keep (by decide) t142
  clear t146
  clear u ho hop hd hg hog hopg hdg hgg
  -- 111
  obtain ⟨o, ho, hop, hd, hg⟩ := op_fact roo111
  obtain ⟨og, hog, hopg, hdg, hgg⟩ := op_fact roo110
  refine txt_take ho hd (want_some hg hog hdg t147) (fun w' hS => run_ix1 hop HF.s3) (fun a112 u => ?_)
  have t148 : a112.tmps[148]? = some (.pointer (some ⟨n + 1, 1, none⟩)) := u.eq (by rw [HF.sz]; decide)
  replace HF := HF.upd u (by decide)
  replace t142 := u.keep (by decide) t142
  replace t147 := u.keep (by decide) t147
  clear u ho hop hd hg hog hopg hdg hgg
  -- 112
  obtain ⟨o, ho, hop, hd, hg⟩ := op_fact roo112
  obtain ⟨og, hog, hopg, hdg, hgg⟩ := op_fact roo110
  refine txt_take ho hd (want_some hg hog hdg t147) (fun w' hS => run_loadI hop t148 hS.2.2.2.2.1) (fun a113 u => ?_)
  have t149 : a113.tmps[149]? = some (.int .i64 y) := u.eq (by rw [HF.sz]; decide)
  replace HF := HF.upd u (by decide)
  replace t142 := u.keep (by decide) t142
  replace t147 := u.keep (by decide) t147
  clear t148
  clear u ho hop hd hg hog hopg hdg hgg
  -- 113
  obtain ⟨o, ho, hop, hd, hg⟩ := op_fact roo113
  obtain ⟨og, hog, hopg, hdg, hgg⟩ := op_fact roo110
  refine txt_take ho hd (want_some hg hog hdg t147) (fun w' hS => run_ix1 hop HF.s2) (fun a114 u => ?_)
  have t150 : a114.tmps[150]? = some (.pointer (some ⟨n, 1, none⟩)) := u.eq (by rw [HF.sz]; decide)
  replace HF := HF.upd u (by decide)
  replace t142 := u.keep (by decide) t142
  replace t147 := u.keep (by decide) t147
  replace t149 := u.keep (by decide) t149
  clear u ho hop hd hg hog hopg hdg hgg
  -- 114
  obtain ⟨o, ho, hop, hd, hg⟩ := op_fact roo114
  obtain ⟨og, hog, hopg, hdg, hgg⟩ := op_fact roo110
  refine txt_take ho hd (want_some hg hog hdg t147) (fun w' hS => run_loadI hop t150 hS.2.1) (fun a115 u => ?_)
  have t151 : a115.tmps[151]? = some (.int .i64 b) := u.eq (by rw [HF.sz]; decide)
  replace HF := HF.upd u (by decide)
  replace t142 := u.keep (by decide) t142
  replace t147 := u.keep (by decide) t147
  replace t149 := u.keep (by decide) t149
  clear t150
  clear u ho hop hd hg hog hopg hdg hgg
  -- 115
  obtain ⟨o, ho, hop, hd, hg⟩ := op_fact roo115
  obtain ⟨og, hog, hopg, hdg, hgg⟩ := op_fact roo110
  refine txt_take ho hd (want_some hg hog hdg t147) (fun w' hS => run_eqI hop t149 t151 hyb) (fun a116 u => ?_)
  have t152 : a116.tmps[152]? = some (.bool true) := u.eq (by rw [HF.sz]; decide)
  replace HF := HF.upd u (by decide)
  replace t142 := u.keep (by decide) t142
  replace t147 := u.keep (by decide) t147
  clear t149
  clear t151
  clear u ho hop hd hg hog hopg hdg hgg
  -- 116
  obtain ⟨o, ho, hop, hd, hg⟩ := op_fact roo116
  obtain ⟨og, hog, hopg, hdg, hgg⟩ := op_fact roo110
  refine txt_move ho hop hd (want_some hg hog hdg t147) t152 (fun a117 u => ?_)
  have t153 : a117.tmps[153]? = some (.bool true) := u.eq (by rw [HF.sz]; decide)
  replace HF := HF.upd u (by decide)
  replace t142 := u.keep (by decide) t142
  replace t147 := u.keep (by decide) t147
  clear t152
  clear u ho hop hd hg hog hopg hdg hgg
  -- 117
  obtain ⟨o, ho, hop, hd, hg⟩ := op_fact roo117
  obtain ⟨og, hog, hopg, hdg, hgg⟩ := op_fact roo116
  refine txt_take ho hd (want_some hg hog hdg t153) (fun w' hS => run_ix0 hop HF.s3) (fun a118 u => ?_)
  have t154 : a118.tmps[154]? = some (.pointer (some ⟨n + 1, 0, none⟩)) := u.eq (by rw [HF.sz]; decide)
  replace HF := HF.upd u (by decide)
  replace t142 := u.keep (by decide) t142
  replace t147 := u.keep (by decide) t147
  replace t153 := u.keep (by decide) t153
  clear u ho hop hd hg hog hopg hdg hgg
  -- 118
  obtain ⟨o, ho, hop, hd, hg⟩ := op_fact roo118
  obtain ⟨og, hog, hopg, hdg, hgg⟩ := op_fact roo116
  refine txt_take ho hd (want_some hg hog hdg t153) (fun w' hS => run_loadI hop t154 hS.2.2.2.1) (fun a119 u => ?_)
  have t155 : a119.tmps[155]? = some (.int .i64 x) := u.eq (by rw [HF.sz]; decide)
  replace HF := HF.upd u (by decide)
  replace t142 := u.keep (by decide) t142
  replace t147 := u.keep (by decide) t147
  replace t153 := u.keep (by decide) t153
  clear t154
  clear u ho hop hd hg hog hopg hdg hgg
  -- 119
  obtain ⟨o, ho, hop, hd, hg⟩ := op_fact roo119
  obtain ⟨og, hog, hopg, hdg, hgg⟩ := op_fact roo116
  refine txt_take ho hd (want_some hg hog hdg t153) (fun w' hS => run_ix0 hop HF.s2) (fun a120 u => ?_)
  have t156 : a120.tmps[156]? = some (.pointer (some ⟨n, 0, none⟩)) := u.eq (by rw [HF.sz]; decide)
  replace HF := HF.upd u (by decide)
  replace t142 := u.keep (by decide) t142
  replace t147 := u.keep (by decide) t147
  replace t153 := u.keep (by decide) t153
  replace t155 := u.keep (by decide) t155
  clear u ho hop hd hg hog hopg hdg hgg
  -- 120
  obtain ⟨o, ho, hop, hd, hg⟩ := op_fact roo120
  obtain ⟨og, hog, hopg, hdg, hgg⟩ := op_fact roo116
  refine txt_take ho hd (want_some hg hog hdg t153) (fun w' hS => run_loadI hop t156 hS.1) (fun a121 u => ?_)
  have t157 : a121.tmps[157]? = some (.int .i64 a) := u.eq (by rw [HF.sz]; decide)
  replace HF := HF.upd u (by decide)
  replace t142 := u.keep (by decide) t142
  replace t147 := u.keep (by decide) t147
  replace t153 := u.keep (by decide) t153
  replace t155 := u.keep (by decide) t155
  clear t156
  clear u ho hop hd hg hog hopg hdg hgg
  -- 121
  obtain ⟨o, ho, hop, hd, hg⟩ := op_fact roo121
  obtain ⟨og, hog, hopg, hdg, hgg⟩ := op_fact roo116
  refine txt_take ho hd (want_some hg hog hdg t153) (fun w' hS => run_eqI hop t155 t157 hxa) (fun a122 u => ?_)
  have t158 : a122.tmps[158]? = some (.bool true) := u.eq (by rw [HF.sz]; decide)
  replace HF := HF.upd u (by decide)
  replace t142 := u.keep (by decide) t142
  replace t147 := u.keep (by decide) t147
  replace t153 := u.keep (by decide) t153
  clear t155
  clear t157
  clear u ho hop hd hg hog hopg hdg hgg
  -- 122
  obtain ⟨o, ho, hop, hd, hg⟩ := op_fact roo122
  obtain ⟨og, hog, hopg, hdg, hgg⟩ := op_fact roo110
  refine txt_pickv (bb := true) ho hop hd (want_some hg hog hdg t147) t153 (eval_of t158) (fun a123 u => ?_)
  have t159 : a123.tmps[159]? = some (.bool true) := u.eq (by rw [HF.sz]; decide)
  replace HF := HF.upd u (by decide)
  replace t142 := u.keep (by decide) t142
  replace t147 := u.keep (by decide) t147
  clear t153
  clear t158
  clear u ho hop hd hg hog hopg hdg hgg
  -- 123
  obtain ⟨o, ho, hop, hd, hg⟩ := op_fact roo123
  obtain ⟨og, hog, hopg, hdg, hgg⟩ := op_fact roo105
  refine txt_pickv (bb := false) ho hop hd (want_some hg hog hdg t142) t147 (eval_of t159) (fun a124 u => ?_)
  have t160 : a124.tmps[160]? = some (.bool true) := u.eq (by rw [HF.sz]; decide)
  replace HF := HF.upd u (by decide)
  replace t142 := u.keep (by decide) t142
  clear t147
  clear t159
  clear u ho hop hd hg hog hopg hdg hgg
  -- 124
  obtain ⟨o, ho, hop, hd, hg⟩ := op_fact roo124
  refine txt_pickv (bb := true) ho hop hd (want_none hg) t142 (eval_of t160) (fun a125 u => ?_)
  have t161 : a125.tmps[161]? = some (.bool true) := u.eq (by rw [HF.sz]; decide)
  replace HF := HF.upd u (by decide)
  clear t142
  clear t160
  clear u ho hop hd hg
  -- 125
  obtain ⟨o, ho, hop, hd, hg⟩ := op_fact roo125
  refine txt_assign ho hop hd (want_none hg) t161 (fun a126 u => ?_)
  have t4 : a126.tmps[4]? = some (.bool true) := u.eq (by rw [HF.sz]; decide)
  clear t161
  have HF' : FrO n q p a126 := ⟨u.keep (by decide) HF.s2, u.keep (by decide) HF.s3, u.keep (by decide) HF.s6, u.keep (by decide) HF.s7, u.keep (by decide) HF.s8, u.keep (by decide) HF.s9, u.keep (by decide) HF.s10, u.size.trans HF.sz, u.df.trans HF.df⟩; replace HF := HF'; clear HF'
  clear u ho hop hd hg
  exact k _ _ HO HF t4
set_option maxRecDepth 100000 in
set_option maxHeartbeats 16000000 in
theorem ro_b12f {n q p : Nat} {a b c x y z C : Int} {sv : ByteArray} {lL lF lC lT : List Spn} {aL aF aC aT : Option Addr} {cL cF cC cT : Nat} {w0 : World} {w : World} {a0 : Act} {Q : Exit → Act → World → Prop} {rest : List (Nat × Bool)} (H : RO n q a b c x y z C sv lL lF lC lT w0) (hB : decide (inL lT (numV x y z)) = false) (HO : SO n q p a b c x y z sv lL lF lC lT aL aF aC aT cL cF cC cT w0 w) (HF : FrO n q p a0) (t142 : a0.tmps[142]? = some (.bool true))
    (k : ∀ a' w', SO n q p a b c x y z sv lL lF lC lT aL aF aC aT cL cF cC cT w0 w' → FrO n q p a' → a'.tmps[4]? = some (.bool true) → wpTxt Tryz.prog roOps Q (roS n p a b c x y z (.slice aL lL.length cL) (.slice aF lF.length cF) (.slice aC lC.length cC) (.slice aT lT.length cT)) rest a' w') :
    wpTxt Tryz.prog roOps Q (roS n p a b c x y z (.slice aL lL.length cL) (.slice aF lF.length cF) (.slice aC lC.length cC) (.slice aT lT.length cT)) ((106, true) :: (107, true) :: (108, false) :: (109, true) :: (110, true) :: (111, true) :: (112, true) :: (113, true) :: (114, true) :: (115, true) :: (116, true) :: (117, true) :: (118, true) :: (119, true) :: (120, true) :: (121, true) :: (122, true) :: (123, true) :: (124, true) :: (125, true) :: rest) a0 w := by
  obtain ⟨hv, hw, hC, rL, rF, rC, rT, nL, nF, nC, nT, hget⟩ := H
  -- 106
  obtain ⟨o, ho, hop, hd, hg⟩ := op_fact roo106
  obtain ⟨og, hog, hopg, hdg, hgg⟩ := op_fact roo105
  refine txt_take ho hd (want_some hg hog hdg t142) (fun w' hS => run_loadR hop HF.s10 hS.2.2.2.2.2.2.2.2.2) (fun a107 u => ?_)
  have t143 : a107.tmps[143]? = some (.agg #[.slice aT lT.length cT]) := u.eq (by rw [HF.sz]; decide)
  replace HF := HF.upd u (by decide)
  replace t142 := u.keep (by decide) t142
  clear u ho hop hd hg hog hopg hdg hgg
  -- 107
  obtain ⟨o, ho, hop, hd, hg⟩ := op_fact roo107
  obtain ⟨og, hog, hopg, hdg, hgg⟩ := op_fact roo105
  refine txt_take ho hd (want_some hg hog hdg t142) (fun w' hS => run_loadV hop HF.s3 hS.2.2.2.1 hS.2.2.2.2.1 hS.2.2.2.2.2.1) (fun a108 u => ?_)
  have t144 : a108.tmps[144]? = some (.agg #[.int .i64 x, .int .i64 y, .int .i64 z]) := u.eq (by rw [HF.sz]; decide)
  replace HF := HF.upd u (by decide)
  replace t142 := u.keep (by decide) t142
  replace t143 := u.keep (by decide) t143
  clear u ho hop hd hg hog hopg hdg hgg
  -- 108
  obtain ⟨o, ho, hop, hd, hg⟩ := op_fact roo108
  obtain ⟨og, hog, hopg, hdg, hgg⟩ := op_fact roo105
  refine txt_call ho hd (want_some hg hog hdg t142) (run_call2 hop rfl t143 t144 (fun w => enters_of Tryz.func14 (by kernel_rfl) rfl _ w)) ?_
  refine (hasT _ lT _ _ _ _ _ HO.sT hw (hB)).mono ?_
  rintro e w1 ⟨rfl, hb⟩
  replace HO := HO.below hb
  refine ⟨_, rfl, HO.S, fun a109 u => ?_⟩
  have t145 : a109.tmps[145]? = some (.bool false) := u.eq (by rw [HF.sz]; decide)
  replace HF := HF.upd u (by decide)
  replace t142 := u.keep (by decide) t142
  clear t143
  clear t144
  clear u ho hop hd hg hog hopg hdg hgg
  -- 109
  obtain ⟨o, ho, hop, hd, hg⟩ := op_fact roo109
  obtain ⟨og, hog, hopg, hdg, hgg⟩ := op_fact roo105
  refine txt_take ho hd (want_some hg hog hdg t142) (fun w' hS => run_not hop rfl t145) (fun a110 u => ?_)
  have t146 : a110.tmps[146]? = some (.bool true) := u.eq (by rw [HF.sz]; decide)
  replace HF := HF.upd u (by decide)
  replace t142 := u.keep (by decide) t142
  clear t145
  clear u ho hop hd hg hog hopg hdg hgg
  -- 110
  obtain ⟨o, ho, hop, hd, hg⟩ := op_fact roo110
  obtain ⟨og, hog, hopg, hdg, hgg⟩ := op_fact roo105
  refine txt_move ho hop hd (want_some hg hog hdg t142) t146 (fun a111 u => ?_)
  have t147 : a111.tmps[147]? = some (.bool true) := u.eq (by rw [HF.sz]; decide)
  replace HF := HF.upd u (by decide)
  replace t142 := u.keep (by decide) t142
  clear t146
  clear u ho hop hd hg hog hopg hdg hgg
  -- 111
  obtain ⟨o, ho, hop, hd, hg⟩ := op_fact roo111
  obtain ⟨og, hog, hopg, hdg, hgg⟩ := op_fact roo110
  refine txt_skip ho hd (want_no hg hog hdg t147) (fun a112 u => ?_)
  have t148 : a112.tmps[148]? = some (undef) := u.eq (by rw [HF.sz]; decide)
  replace HF := HF.upd u (by decide)
  replace t142 := u.keep (by decide) t142
  replace t147 := u.keep (by decide) t147
  clear u ho hop hd hg hog hopg hdg hgg
  -- 112
  obtain ⟨o, ho, hop, hd, hg⟩ := op_fact roo112
  obtain ⟨og, hog, hopg, hdg, hgg⟩ := op_fact roo110
  refine txt_skip ho hd (want_no hg hog hdg t147) (fun a113 u => ?_)
  have t149 : a113.tmps[149]? = some (undef) := u.eq (by rw [HF.sz]; decide)
  replace HF := HF.upd u (by decide)
  replace t142 := u.keep (by decide) t142
  replace t147 := u.keep (by decide) t147
  clear t148
  clear u ho hop hd hg hog hopg hdg hgg
  -- 113
  obtain ⟨o, ho, hop, hd, hg⟩ := op_fact roo113
  obtain ⟨og, hog, hopg, hdg, hgg⟩ := op_fact roo110
  refine txt_skip ho hd (want_no hg hog hdg t147) (fun a114 u => ?_)
  have t150 : a114.tmps[150]? = some (undef) := u.eq (by rw [HF.sz]; decide)
  replace HF := HF.upd u (by decide)
  replace t142 := u.keep (by decide) t142
  replace t147 := u.keep (by decide) t147
  replace t149 := u.keep (by decide) t149
  clear u ho hop hd hg hog hopg hdg hgg
  -- 114
  obtain ⟨o, ho, hop, hd, hg⟩ := op_fact roo114
  obtain ⟨og, hog, hopg, hdg, hgg⟩ := op_fact roo110
  refine txt_skip ho hd (want_no hg hog hdg t147) (fun a115 u => ?_)
  have t151 : a115.tmps[151]? = some (undef) := u.eq (by rw [HF.sz]; decide)
  replace HF := HF.upd u (by decide)
  replace t142 := u.keep (by decide) t142
  replace t147 := u.keep (by decide) t147
  replace t149 := u.keep (by decide) t149
  clear t150
  clear u ho hop hd hg hog hopg hdg hgg
  -- 115
  obtain ⟨o, ho, hop, hd, hg⟩ := op_fact roo115
  obtain ⟨og, hog, hopg, hdg, hgg⟩ := op_fact roo110
  refine txt_skip ho hd (want_no hg hog hdg t147) (fun a116 u => ?_)
  have t152 : a116.tmps[152]? = some (undef) := u.eq (by rw [HF.sz]; decide)
  replace HF := HF.upd u (by decide)
  replace t142 := u.keep (by decide) t142
  replace t147 := u.keep (by decide) t147
  clear t149
  clear t151
  clear u ho hop hd hg hog hopg hdg hgg
  -- 116
  obtain ⟨o, ho, hop, hd, hg⟩ := op_fact roo116
  obtain ⟨og, hog, hopg, hdg, hgg⟩ := op_fact roo110
  refine txt_skip ho hd (want_no hg hog hdg t147) (fun a117 u => ?_)
  have t153 : a117.tmps[153]? = some (undef) := u.eq (by rw [HF.sz]; decide)
  replace HF := HF.upd u (by decide)
  replace t142 := u.keep (by decide) t142
  replace t147 := u.keep (by decide) t147
  clear t152
  clear u ho hop hd hg hog hopg hdg hgg
  -- 117
  obtain ⟨o, ho, hop, hd, hg⟩ := op_fact roo117
  obtain ⟨og, hog, hopg, hdg, hgg⟩ := op_fact roo116
  refine txt_skip ho hd (want_undef hg hog hdg t153) (fun a118 u => ?_)
  have t154 : a118.tmps[154]? = some (undef) := u.eq (by rw [HF.sz]; decide)
  replace HF := HF.upd u (by decide)
  replace t142 := u.keep (by decide) t142
  replace t147 := u.keep (by decide) t147
  replace t153 := u.keep (by decide) t153
  clear u ho hop hd hg hog hopg hdg hgg
  -- 118
  obtain ⟨o, ho, hop, hd, hg⟩ := op_fact roo118
  obtain ⟨og, hog, hopg, hdg, hgg⟩ := op_fact roo116
  refine txt_skip ho hd (want_undef hg hog hdg t153) (fun a119 u => ?_)
  have t155 : a119.tmps[155]? = some (undef) := u.eq (by rw [HF.sz]; decide)
  replace HF := HF.upd u (by decide)
  replace t142 := u.keep (by decide) t142
  replace t147 := u.keep (by decide) t147
  replace t153 := u.keep (by decide) t153
  clear t154
  clear u ho hop hd hg hog hopg hdg hgg
  -- 119
  obtain ⟨o, ho, hop, hd, hg⟩ := op_fact roo119
  obtain ⟨og, hog, hopg, hdg, hgg⟩ := op_fact roo116
  refine txt_skip ho hd (want_undef hg hog hdg t153) (fun a120 u => ?_)
  have t156 : a120.tmps[156]? = some (undef) := u.eq (by rw [HF.sz]; decide)
  replace HF := HF.upd u (by decide)
  replace t142 := u.keep (by decide) t142
  replace t147 := u.keep (by decide) t147
  replace t153 := u.keep (by decide) t153
  replace t155 := u.keep (by decide) t155
  clear u ho hop hd hg hog hopg hdg hgg
  -- 120
  obtain ⟨o, ho, hop, hd, hg⟩ := op_fact roo120
  obtain ⟨og, hog, hopg, hdg, hgg⟩ := op_fact roo116
  refine txt_skip ho hd (want_undef hg hog hdg t153) (fun a121 u => ?_)
  have t157 : a121.tmps[157]? = some (undef) := u.eq (by rw [HF.sz]; decide)
  replace HF := HF.upd u (by decide)
  replace t142 := u.keep (by decide) t142
  replace t147 := u.keep (by decide) t147
  replace t153 := u.keep (by decide) t153
  replace t155 := u.keep (by decide) t155
  clear t156
  clear u ho hop hd hg hog hopg hdg hgg
  -- 121
  obtain ⟨o, ho, hop, hd, hg⟩ := op_fact roo121
  obtain ⟨og, hog, hopg, hdg, hgg⟩ := op_fact roo116
  refine txt_skip ho hd (want_undef hg hog hdg t153) (fun a122 u => ?_)
  have t158 : a122.tmps[158]? = some (undef) := u.eq (by rw [HF.sz]; decide)
  replace HF := HF.upd u (by decide)
  replace t142 := u.keep (by decide) t142
  replace t147 := u.keep (by decide) t147
  replace t153 := u.keep (by decide) t153
  clear t155
  clear t157
  clear u ho hop hd hg hog hopg hdg hgg
  -- 122
  obtain ⟨o, ho, hop, hd, hg⟩ := op_fact roo122
  obtain ⟨og, hog, hopg, hdg, hgg⟩ := op_fact roo110
  refine txt_skip ho hd (want_no hg hog hdg t147) (fun a123 u => ?_)
  have t159 : a123.tmps[159]? = some (undef) := u.eq (by rw [HF.sz]; decide)
  replace HF := HF.upd u (by decide)
  replace t142 := u.keep (by decide) t142
  replace t147 := u.keep (by decide) t147
  clear t153
  clear t158
  clear u ho hop hd hg hog hopg hdg hgg
  -- 123
  obtain ⟨o, ho, hop, hd, hg⟩ := op_fact roo123
  obtain ⟨og, hog, hopg, hdg, hgg⟩ := op_fact roo105
  refine txt_pickv (bb := true) ho hop hd (want_some hg hog hdg t142) t147 (rfl) (fun a124 u => ?_)
  have t160 : a124.tmps[160]? = some (.bool true) := u.eq (by rw [HF.sz]; decide)
  replace HF := HF.upd u (by decide)
  replace t142 := u.keep (by decide) t142
  clear t147
  clear t159
  clear u ho hop hd hg hog hopg hdg hgg
  -- 124
  obtain ⟨o, ho, hop, hd, hg⟩ := op_fact roo124
  refine txt_pickv (bb := true) ho hop hd (want_none hg) t142 (eval_of t160) (fun a125 u => ?_)
  have t161 : a125.tmps[161]? = some (.bool true) := u.eq (by rw [HF.sz]; decide)
  replace HF := HF.upd u (by decide)
  clear t142
  clear t160
  clear u ho hop hd hg
  -- 125
  obtain ⟨o, ho, hop, hd, hg⟩ := op_fact roo125
  refine txt_assign ho hop hd (want_none hg) t161 (fun a126 u => ?_)
  have t4 : a126.tmps[4]? = some (.bool true) := u.eq (by rw [HF.sz]; decide)
  clear t161
  have HF' : FrO n q p a126 := ⟨u.keep (by decide) HF.s2, u.keep (by decide) HF.s3, u.keep (by decide) HF.s6, u.keep (by decide) HF.s7, u.keep (by decide) HF.s8, u.keep (by decide) HF.s9, u.keep (by decide) HF.s10, u.size.trans HF.sz, u.df.trans HF.df⟩; replace HF := HF'; clear HF'
  clear u ho hop hd hg
  exact k _ _ HO HF t4
set_option maxRecDepth 100000 in
theorem ro_last {n q p : Nat} {a b c x y z C : Int} {sv : ByteArray} {lL lF lC lT : List Spn} {aL aF aC aT : Option Addr} {cL cF cC cT : Nat} {w0 : World} {w : World} {a0 : Act} {Q : Exit → Act → World → Prop} (H : RO n q a b c x y z C sv lL lF lC lT w0) (HO : SO n q p a b c x y z sv lL lF lC lT aL aF aC aT cL cF cC cT w0 w) (HF : FrO n q p a0)
    (hQ : ∀ a' w', a'.tmps[4]? = some (.bool true) → a'.defers = [] → Below n w0 w' → Q .normal a' w') :
    wpTxt Tryz.prog roOps Q (roS n p a b c x y z (.slice aL lL.length cL) (.slice aF lF.length cF) (.slice aC lC.length cC) (.slice aT lT.length cT)) roL a0 w := by
  unfold roL
  refine ro_b0 H HO HF (fun a1 w1 HO HF t => ?_)
  refine ro_b1 H HO HF t (fun a2 w2 HO HF t => ?_)
  refine ro_b2 H HO HF t (fun a3 w3 HO HF t => ?_)
  refine ro_b3 H HO HF t (fun a4 w4 HO HF t => ?_)
  refine ro_b4 H HO HF t (fun a5 w5 HO HF t => ?_)
  refine ro_b5 H HO HF t (fun a6 w6 HO HF t => ?_)
  refine ro_b6 H HO HF t (fun a7 w7 HO HF t => ?_)
  refine ro_b7 H HO HF t (fun a8 w8 HO HF t => ?_)
  refine ro_b8 H HO HF t (fun a9 w9 HO HF t => ?_)
  refine ro_b9 H HO HF t (fun a10 w10 HO HF t => ?_)
  refine ro_b10 H HO HF t (fun a11 w11 HO HF t => ?_)
  have k1 : ∀ (a' : Act) (w' : World), SO n q p a b c x y z sv lL lF lC lT aL aF aC aT cL cF cC cT w0 w' → FrO n q p a' → a'.tmps[142]? = some (.bool true) → wpTxt Tryz.prog roOps Q (roS n p a b c x y z (.slice aL lL.length cL) (.slice aF lF.length cF) (.slice aC lC.length cC) (.slice aT lT.length cT)) [(106, true), (107, true), (108, false), (109, true), (110, true), (111, true), (112, true), (113, true), (114, true), (115, true), (116, true), (117, true), (118, true), (119, true), (120, true), (121, true), (122, true), (123, true), (124, true), (125, true)] a' w' := by
    intro a' w' HO HF t
    by_cases hB : decide (inL lT (numV x y z)) = true
    · exact ro_b12t H hB (ord_tw H.hv H.hw H.rT hB).1 (ord_tw H.hv H.hw H.rT hB).2 HO HF t (fun a' w' HO HF t => hQ _ _ t HF.df HO.hb)
    · exact ro_b12f H (Bool.eq_false_iff.2 hB) HO HF t (fun a' w' HO HF t => hQ _ _ t HF.df HO.hb)
  by_cases hB : decide (inL lC (numV x y z)) = true
  · exact ro_b11t H hB (ord_cw H.hv H.hw H.rC hB) HO HF t k1
  · exact ro_b11f H (Bool.eq_false_iff.2 hB) HO HF t k1
set_option maxRecDepth 100000 in
theorem roL_ok : (Region.noSelect roOps && txtOk .any roOps roL (Array.replicate roOps.size false) && roL.length == roOps.size) = true := by
  have hsz : roOps.size = 126 := by kernel_rfl
  rw [Bool.and_eq_true, Bool.and_eq_true]
  refine ⟨⟨ro_nosel, ?_⟩, by rw [hsz]; rfl⟩
  rw [hsz]
  exact (txtOk_of ro_sch0 (txtOk_of ro_sch1 (txtOk_of ro_sch2 (txtOk_of ro_sch3 (txtOk_of ro_sch4 (txtOk_of ro_sch5 (txtOk_of ro_sch6 (txtOk_of ro_sch7 (txtOk_of ro_sch8 (txtOk_of ro_sch9 (txtOk_of ro_sch10 (txtOk_of ro_sch11 (txtOk_of ro_sch12 (ro_end))))))))))))))
end Go.Proofs.YtpnchjbdjcihfaaGreatDoor
