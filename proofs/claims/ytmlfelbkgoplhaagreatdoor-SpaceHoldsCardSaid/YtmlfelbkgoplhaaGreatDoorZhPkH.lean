/- Some texts in one: VerT, VerW, CatM, GRow, CatH, RTxtM, CatT, LineA, CatC, Spec, RulM. -/
import Derived.Test.YtmlfelbkgoplhaaGreatDoorZhPkC
import Derived.Test.YtmlfelbkgoplhaaGreatDoorZhPkG
import Derived.Lib.CutLaws
import Derived.Test.YtmlfelbkgoplhaaGreatDoorZhPkA
import Derived.Laws.AppendOwn
import Derived.Lib.Hide
import Derived.Deep.AppendLies
import Derived.Test.YtmlfelbkgoplhaaGreatDoorZhPkB
import Derived.Lib.Join
import Derived.Test.YtmlfelbkgoplhaaGreatDoorShelfC
import Derived.Shelf.Strings.Cut
import Derived.Shelf.Slices.Turned
import Derived.WalkKit
namespace Go.Proofs.YtmlfelbkgoplhaaGreatDoor
open Go.RowKit
set_option linter.unusedVariables false
def digB (c : UInt8) : Bool := decide (48 ≤ c) && decide (c ≤ 57)
def okNum (n : Int) : Bool := (match Lib.atoiAll (Lib.itoa n) with | .ok m => m == n | _ => false) && (Lib.itoa n).all digB && !(Lib.itoa n).isEmpty && decide ((Lib.itoa n).length ≤ 3)
theorem okNum_all : ∀ n : Fin 1000, okNum (n.val : Int) = true := by decide +kernel
theorem okNum_of {n : Int} (h : 0 ≤ n ∧ n ≤ 999) : Lib.atoiAll (Lib.itoa n) = .ok n ∧ (∀ c ∈ Lib.itoa n, digB c = true) ∧ Lib.itoa n ≠ [] ∧ (Lib.itoa n).length ≤ 3 := by
 have := okNum_all ⟨n.toNat, by omega⟩
 rw [show ((⟨n.toNat, by omega⟩ : Fin 1000).val : Int) = n by simp; omega] at this
 unfold okNum at this
 simp only [Bool.and_eq_true, List.all_eq_true, decide_eq_true_eq, Bool.not_eq_true'] at this
 obtain ⟨⟨⟨h1, h2⟩, h3⟩, h4⟩ := this
 refine ⟨?_, h2, fun e => (by rw [e] at h3; cases h3), h4⟩
 cases ha : Lib.atoiAll (Lib.itoa n) with
 | ok m =>
  rw [ha] at h1
  have : m = n := by simpa using h1
  rw [this]
 | _ => rw [ha] at h1; cases h1
theorem digB_ne {c : UInt8} (h : digB c = true) : c ≠ 46 ∧ c ≠ 32 ∧ c ≠ 124 ∧ opCh c = false := by
 have hall : ∀ n : Fin 256, digB (UInt8.ofNat n.val) = true → (UInt8.ofNat n.val) ≠ 46 ∧ (UInt8.ofNat n.val) ≠ 32 ∧ (UInt8.ofNat n.val) ≠ 124 ∧ opCh (UInt8.ofNat n.val) = false := by decide +kernel
 have := hall ⟨c.toNat, c.toNat_lt⟩
 simpa using this (by simpa using h)
theorem index_byte {x : UInt8} : ∀ {A R : List UInt8}, (∀ y ∈ A, y ≠ x) → Lib.index (A ++ x :: R) [x] = (A.length : Int)
 | [], R, _ => by
  show (if ([x] : List UInt8).isPrefixOf (x :: R) then (0 : Int) else _) = _
  rw [if_pos (by simp [List.isPrefixOf])]
  rfl
 | y :: A, R, h => by
  have hy : y ≠ x := h y (List.mem_cons_self ..)
  have ih := index_byte (x := x) (A := A) (R := R) (fun z hz => h z (List.mem_cons_of_mem _ hz))
  show (if ([x] : List UInt8).isPrefixOf (y :: (A ++ x :: R)) then (0 : Int) else if Lib.index (A ++ x :: R) [x] == -1 then -1 else Lib.index (A ++ x :: R) [x] + 1) = _
  rw [if_neg (by simp [List.isPrefixOf, Ne.symm hy]), ih, if_neg (by rw [beq_iff_eq]; omega)]
  simp
theorem index_none {x : UInt8} {sub : List UInt8} : ∀ {A : List UInt8}, (∀ y ∈ A, y ≠ x) → Lib.index A (x :: sub) = -1
 | [], _ => by
  show (if (x :: sub).isEmpty then (0 : Int) else -1) = -1
  rw [if_neg (by simp)]
 | y :: A, h => by
  have hy : y ≠ x := h y (List.mem_cons_self ..)
  have ih := index_none (x := x) (sub := sub) (A := A) (fun z hz => h z (List.mem_cons_of_mem _ hz))
  show (if (x :: sub).isPrefixOf (y :: A) then (0 : Int) else if Lib.index A (x :: sub) == -1 then -1 else Lib.index A (x :: sub) + 1) = -1
  rw [if_neg (by simp [List.isPrefixOf, Ne.symm hy]), ih]
  rfl
def verL (a b c : Int) : List UInt8 := Lib.itoa a ++ 46 :: (Lib.itoa b ++ 46 :: Lib.itoa c)
theorem wordB_data (l : List UInt8) : (wordB l).data.toList = l := rfl
theorem wordB_size (l : List UInt8) : (wordB l).size = l.length := rfl
theorem wordB_extract (l : List UInt8) (i j : Nat) : (wordB l).extract i j = wordB ((l.drop i).take (j - i)) := extract_word (wordB l) i j
structure VerOk (a b c : Int) : Prop where
 a : 0 ≤ a ∧ a ≤ 999
 b : 0 ≤ b ∧ b ≤ 999
 c : 0 ≤ c ∧ c ≤ 999
theorem verL_mem {a b c : Int} (h : VerOk a b c) : ∀ x ∈ verL a b c, x = 46 ∨ digB x = true := by
 intro x hx
 unfold verL at hx
 simp only [List.mem_append, List.mem_cons] at hx
 rcases hx with hx | rfl | hx | rfl | hx
 · exact .inr ((okNum_of h.a).2.1 x hx)
 · exact .inl rfl
 · exact .inr ((okNum_of h.b).2.1 x hx)
 · exact .inl rfl
 · exact .inr ((okNum_of h.c).2.1 x hx)
theorem verL_ok {a b c : Int} (h : VerOk a b c) : okVer (wordB (verL a b c)) a b c := by
 obtain ⟨a1, a2, a3, a4⟩ := okNum_of h.a
 obtain ⟨b1, b2, b3, b4⟩ := okNum_of h.b
 obtain ⟨c1, c2, c3, c4⟩ := okNum_of h.c
 refine ⟨wordB (Lib.itoa a), wordB (Lib.itoa b), wordB (Lib.itoa c), ?_, ⟨a1, rfl, h.a.1, h.a.2⟩, ⟨b1, rfl, h.b.1, h.b.2⟩, ⟨c1, rfl, h.c.1, h.c.2⟩⟩
 have e1 : (wordB (verL a b c)).extract ((Lib.itoa a).length + 1) (wordB (verL a b c)).size = wordB (Lib.itoa b ++ 46 :: Lib.itoa c) := by
  rw [wordB_extract, wordB_size]
  congr 1
  unfold verL
  rw [List.take_of_length_le (by simp; omega)]
  rw [show (Lib.itoa a).length + 1 = (Lib.itoa a ++ [46]).length by simp, show Lib.itoa a ++ 46 :: (Lib.itoa b ++ 46 :: Lib.itoa c) = (Lib.itoa a ++ [46]) ++ (Lib.itoa b ++ 46 :: Lib.itoa c) by simp, List.drop_left]
 have e2 : (wordB (Lib.itoa b ++ 46 :: Lib.itoa c)).extract ((Lib.itoa b).length + 1) (wordB (Lib.itoa b ++ 46 :: Lib.itoa c)).size = wordB (Lib.itoa c) := by
  rw [wordB_extract, wordB_size]
  congr 1
  rw [List.take_of_length_le (by simp; omega)]
  rw [show (Lib.itoa b).length + 1 = (Lib.itoa b ++ [46]).length by simp, show Lib.itoa b ++ 46 :: Lib.itoa c = (Lib.itoa b ++ [46]) ++ Lib.itoa c by simp, List.drop_left]
 refine parts3 (i := (Lib.itoa a).length) (j := (Lib.itoa b).length) ?_ ?_ ?_ ?_ ?_ ?_
 · exact index_byte (fun y hy => (digB_ne (a2 y hy)).1)
 · rw [wordB_extract]; unfold verL; simp
 · rw [e1]; exact index_byte (fun y hy => (digB_ne (b2 y hy)).1)
 · rw [e1, wordB_extract]; simp
 · rw [e1, e2]; exact index_none (fun y hy => (digB_ne (c2 y hy)).1)
 · rw [e1, e2]
def opsT : List (List UInt8 × Nat) := [([], 0), ([61], 0), ([33], 1), ([60], 2), ([60, 61], 3), ([62], 4), ([62, 61], 5), ([94], 6), ([126], 7)]
theorem takeWhile_app {p : UInt8 → Bool} {l r : List UInt8} (h1 : ∀ x ∈ l, p x = true) (h2 : ∀ x, r.head? = some x → p x = false) : (l ++ r).takeWhile p = l := by
 induction l with
 | nil =>
  cases r with
  | nil => rfl
  | cons x r => rw [List.nil_append, List.takeWhile_cons_of_neg (by simp [h2 x rfl])]
 | cons x l ih =>
  rw [List.cons_append, List.takeWhile_cons_of_pos (h1 x (List.mem_cons_self ..)), ih (fun y hy => h1 y (List.mem_cons_of_mem _ hy))]
theorem verL_head {a b c : Int} (h : VerOk a b c) : ∀ x, (verL a b c).head? = some x → opCh x = false := by
 intro x hx
 obtain ⟨a1, a2, a3, a4⟩ := okNum_of h.a
 unfold verL at hx
 cases hi : Lib.itoa a with
 | nil => exact absurd hi a3
 | cons y r =>
  rw [hi] at hx
  obtain rfl : y = x := by simpa using hx
  exact (digB_ne (a2 y (by rw [hi]; exact List.mem_cons_self ..))).2.2.2
theorem words_all {l : List UInt8} (hne : l ≠ []) (h : ∀ x ∈ l, nb x = true) : words l = [l] := by
 cases l with
 | nil => exact absurd rfl hne
 | cons c r =>
  rw [words_word (h c (List.mem_cons_self ..))]
  have e1 : r.takeWhile nb = r := by
   have := takeWhile_app (p := nb) (l := r) (r := []) (fun x hx => h x (List.mem_cons_of_mem _ hx)) (fun x hx => by cases hx)
   simpa using this
  have e2 : r.dropWhile nb = [] := by
   have := List.takeWhile_append_dropWhile (p := nb) (l := r)
   rw [e1] at this
   have h2 : (r ++ r.dropWhile nb).length = r.length := by rw [this]
   rw [List.length_append] at h2
   exact List.eq_nil_of_length_eq_zero (by omega)
  rw [e1, e2, words_nil]
theorem ops_ok : ∀ x ∈ opsT, (∀ c ∈ x.1, opCh c = true) ∧ opK x.1 = some x.2 ∧ x.1.length ≤ 2 ∧ (∀ c ∈ x.1, c ≠ 32 ∧ c ≠ 124) := by decide +kernel
theorem wordR_op {o : List UInt8} {k : Nat} {a b c : Int} {r : List Spn} (hm : (o, k) ∈ opsT) (h : VerOk a b c) (hr : OpR k a b c r) : WordR (wordB (o ++ verL a b c)) r := by
 obtain ⟨o1, o2, o3, _⟩ := ops_ok _ hm
 have hlen : opLen (wordB (o ++ verL a b c)) = o.length := by
  unfold opLen
  rw [wordB_data, takeWhile_app o1 (verL_head h)]
 have h46 : (46 : UInt8) ∈ o ++ verL a b c := by unfold verL; simp
 refine .inr (.inr ⟨fun e => ?_, fun e => ?_, k, a, b, c, ?_, ?_, hr⟩)
 ·
  have : o ++ verL a b c = [97, 110, 121] := congrArg (fun s => s.data.toList) e
  rw [this] at h46; exact absurd h46 (by decide)
 ·
  have : o ++ verL a b c = [110, 111, 110, 101] := congrArg (fun s => s.data.toList) e
  rw [this] at h46; exact absurd h46 (by decide)
 ·
  rw [hlen, wordB_extract, wordB_data]
  simpa using o2
 ·
  rw [hlen, wordB_extract, wordB_size]
  have e : ((o ++ verL a b c).drop o.length).take ((o ++ verL a b c).length - o.length) = verL a b c := by
   rw [List.drop_left, List.take_of_length_le (by simp)]
  rw [e]
  exact verL_ok h
theorem any_iff {l : List Spn} {n : Int} : l.any (inB n) = true ↔ inL l n := by
 rw [List.any_eq_true]
 exact ⟨fun ⟨s, h1, h2⟩ => ⟨s, h1, inB_iff.1 h2⟩, fun ⟨s, h1, h2⟩ => ⟨s, h1, inB_iff.2 h2⟩⟩
instance inLDec (l : List Spn) (n : Int) : Decidable (inL l n) := decidable_of_iff (l.any (inB n) = true) any_iff
theorem any_inL {l : List Spn} {n : Int} : l.any (inB n) = decide (inL l n) := by
 rw [Bool.eq_iff_iff, any_iff, decide_eq_true_iff]
theorem hasV_eq {l : List Spn} {a b c : Int} (h : VerOk a b c) : hasV l a b c = decide (inL l (numV a b c)) := by
 unfold hasV
 rw [inP_ok (by have := h.a.1; omega) (by have := h.a.2; omega), inP_ok (by have := h.b.1; omega) (by have := h.b.2; omega), inP_ok (by have := h.c.1; omega) (by have := h.c.2; omega), any_inL]
 simp
end Go.Proofs.YtmlfelbkgoplhaaGreatDoor
namespace Go.Proofs.YtmlfelbkgoplhaaGreatDoor
open Go.RowKit
set_option linter.unusedVariables false
def cmp3 (a b c x y z : Int) : Int := if Lib.compareInt a x ≠ 0 then Lib.compareInt a x else if Lib.compareInt b y ≠ 0 then Lib.compareInt b y else Lib.compareInt c z
theorem compareInt_cases (a b : Int) : (a < b ∧ Lib.compareInt a b = -1) ∨ (a = b ∧ Lib.compareInt a b = 0) ∨ (b < a ∧ Lib.compareInt a b = 1) := by
 unfold Lib.compareInt
 rcases Int.lt_trichotomy a b with h | h | h
 · left; refine ⟨h, ?_⟩; (repeat' split) <;> first | rfl | (exfalso; omega)
 · right; left; refine ⟨h, ?_⟩; (repeat' split) <;> first | rfl | (exfalso; omega)
 · right; right; refine ⟨h, ?_⟩; (repeat' split) <;> first | rfl | (exfalso; omega)
set_option maxRecDepth 100000 in
set_option maxHeartbeats 4000000 in
theorem compare3_any (p q : Nat) (a b c x y z : Int) (T T' : TypeId) (w : World) (hp : w.heap[p]? = some (.cells #[.int .i64 a, .int .i64 b, .int .i64 c] T (0, 0))) (hq : w.heap[q]? = some (.cells #[.int .i64 x, .int .i64 y, .int .i64 z] T' (0, 0))) :
 Calls Tryz.prog 172 #[.slice (some ⟨p, 0, none⟩) 3 3, .slice (some ⟨q, 0, none⟩) 3 3] w fun e w' => e = .returned (.int .i64 (cmp3 a b c x y z)) ∧ w' = w := by
 obtain ⟨p0, p1, p2, _⟩ := cells3 hp
 obtain ⟨q0, q1, q2, _⟩ := cells3 hq
 have H0 := Lib.hid (compareI_any a x w); have H1 := Lib.hid (compareI_any b y w); have H2 := Lib.hid (compareI_any c z w)
 have hres : ∀ r, r = cmp3 a b c x y z → r = (if Lib.compareInt a x ≠ 0 then Lib.compareInt a x else if Lib.compareInt b y ≠ 0 then Lib.compareInt b y else Lib.compareInt c z) := fun r h => h
 generalize hR : cmp3 a b c x y z = R at hres
 have Hres := Lib.hid (hres R rfl)
 clear hres hR hp hq
 generalize Lib.compareInt a x = A at H0 Hres
 generalize Lib.compareInt b y = B at H1 Hres
 generalize Lib.compareInt c z = C at H2 Hres
 go_enter Tryz.func172, Tryz.ntmps172
 go_wp2_with fail
 go_loopg [11] 3 (fun gk i wr => ∃ k : Nat, k ≤ 3 ∧ gk = 3 - k ∧ i = .int .i64 k ∧ w = wr ∧ (0 < k → A = 0) ∧ (1 < k → B = 0) ∧ (2 < k → C = 0))
 case atStart => exact ⟨0, by omega, rfl, rfl, rfl, fun h => by omega, fun h => by omega, fun h => by omega⟩
 case round =>
  obtain ⟨k, hk, rfl, rfl, rfl, ia, ib, ic⟩ := hrel
  have Ia := Lib.hid ia; have Ib := Lib.hid ib; have Ic := Lib.hid ic
  clear ia ib ic
  obtain rfl | rfl | rfl | rfl : k = 0 ∨ k = 1 ∨ k = 2 ∨ k = 3 := by omega
  ·
   by_cases hz : A = 0
   ·
    subst hz
    go_wp2_with fail
    refine H0.out.mono ?_
    rintro e w1 ⟨rfl, rfl⟩
    go_wp2_with fail
    go_roundg 2
    case measure => omega
    case rel => exact ⟨1, by omega, rfl, rfl, rfl, by simp, fun h => by omega, fun h => by omega⟩
   ·
    have t1 : (A != 0) = true := by rw [bne_iff_ne]; exact hz
    have Hz := Lib.hid hz; clear hz
    have hr : R = A := by rw [Hres.out, if_pos Hz.out]
    subst hr
    go_wp2_with fail
    refine H0.out.mono ?_
    rintro e w1 ⟨rfl, rfl⟩
    go_wp2_with fail
    go_ret
    exact ⟨rfl, rfl⟩
  ·
   have ha := Ia.out (by omega)
   by_cases hz : B = 0
   ·
    subst hz
    clear ha
    go_wp2_with fail
    refine H1.out.mono ?_
    rintro e w1 ⟨rfl, rfl⟩
    go_wp2_with fail
    go_roundg 1
    case measure => omega
    case rel => exact ⟨2, by omega, rfl, rfl, rfl, fun _ => Ia.out (by omega), by simp, fun h => by omega⟩
   ·
    have t1 : (B != 0) = true := by rw [bne_iff_ne]; exact hz
    have Hz := Lib.hid hz; clear hz
    have hr : R = B := by rw [Hres.out, if_neg (by rw [ha]; decide), if_pos Hz.out]
    clear ha
    subst hr
    go_wp2_with fail
    refine H1.out.mono ?_
    rintro e w1 ⟨rfl, rfl⟩
    go_wp2_with fail
    go_ret
    exact ⟨rfl, rfl⟩
  ·
   have ha := Ia.out (by omega)
   have hb := Ib.out (by omega)
   have hr : R = C := by rw [Hres.out, if_neg (by rw [ha]; decide), if_neg (by rw [hb]; decide)]
   clear ha hb
   subst hr
   by_cases hz : R = 0
   ·
    subst hz
    go_wp2_with fail
    refine H2.out.mono ?_
    rintro e w1 ⟨rfl, rfl⟩
    go_wp2_with fail
    go_roundg 0
    case measure => omega
    case rel => exact ⟨3, by omega, rfl, rfl, rfl, fun _ => Ia.out (by omega), fun _ => Ib.out (by omega), by simp⟩
   ·
    have t1 : (R != 0) = true := by rw [bne_iff_ne]; exact hz
    clear hz
    go_wp2_with fail
    refine H2.out.mono ?_
    rintro e w1 ⟨rfl, rfl⟩
    go_wp2_with fail
    go_ret
    exact ⟨rfl, rfl⟩
  ·
   have ha := Ia.out (by omega)
   have hb := Ib.out (by omega)
   have hc := Ic.out (by omega)
   have hr : R = 0 := by rw [Hres.out, if_neg (by rw [ha]; decide), if_neg (by rw [hb]; decide), hc]
   clear ha hb hc
   subst hr
   go_wp2_with fail
   go_ret
   exact ⟨rfl, rfl⟩
end Go.Proofs.YtmlfelbkgoplhaaGreatDoor
namespace Go.Proofs.YtmlfelbkgoplhaaGreatDoor
open Go.RowKit
set_option linter.unusedVariables false
structure LineM where
 kind : Int
 name : ByteArray
 va : Int
 vb : Int
 vc : Int
 other : ByteArray
 range : List Spn
 rv : Value
abbrev ItemM := ByteArray × Int × Int × Int
def LineM.item (x : LineM) : ItemM := (x.name, x.va, x.vb, x.vc)
def nameCh (c : UInt8) : Bool := (97 ≤ c && c ≤ 122) || (48 ≤ c && c ≤ 57) || c == 45
def nameOk (s : ByteArray) : Bool :=
 decide (0 < s.size) && decide (s.size ≤ 12) && (match s.data.toList with | c :: _ => 97 ≤ c && c ≤ 122 | [] => false) && s.data.toList.all nameCh && !decide (s = anyT) && !decide (s = noneT)
def verB (a b c : Int) : Bool := decide ((0 ≤ a ∧ a ≤ 999) ∧ (0 ≤ b ∧ b ≤ 999) ∧ 0 ≤ c ∧ c ≤ 999)
theorem verB_ok {a b c : Int} : verB a b c = true ↔ VerOk a b c := by
 unfold verB
 rw [decide_eq_true_iff]
 exact ⟨fun ⟨h1, h2, h3⟩ => ⟨h1, h2, h3⟩, fun ⟨h1, h2, h3⟩ => ⟨h1, h2, h3⟩⟩
def checkM (x : LineM) : Int :=
 if x.kind < 1 ∨ 4 < x.kind then 1
 else if nameOk x.name = false ∨ ((x.kind = 2 ∨ x.kind = 3) ∧ nameOk x.other = false) then 5
 else if (¬ (x.kind = 2 ∨ x.kind = 3) ∧ x.other ≠ ByteArray.empty) ∨ (x.kind = 1 ∧ x.range ≠ []) ∨ (x.kind = 4 ∧ ¬ (x.va = 0 ∧ x.vb = 0 ∧ x.vc = 0)) then 1
 else if x.kind ≠ 4 ∧ verB x.va x.vb x.vc = false then 2
 else 0
def itemsOf (ls : List LineM) : List ItemM := (ls.filter fun x => decide (x.kind = 1)).map LineM.item
structure NewOk (ls : List LineM) : Prop where
 few : ls.length ≤ 100
 check : ∀ x ∈ ls, checkM x = 0
 twice : (itemsOf ls).Nodup
 names : ∀ l : List ByteArray, l.Nodup → (∀ n ∈ l, ∃ x ∈ ls, x.kind = 1 ∧ x.name = n) → l.length ≤ 8
 most : (itemsOf ls).length ≤ 24
 there : ∀ x ∈ ls, x.kind = 2 ∨ x.kind = 3 → x.item ∈ itemsOf ls
def itemLt (a b : ItemM) : Prop := a.1.toList < b.1.toList ∨ (a.1 = b.1 ∧ cmp3 b.2.1 b.2.2.1 b.2.2.2 a.2.1 a.2.2.1 a.2.2.2 < 0)
structure CatOk (ls : List LineM) (items : List ItemM) : Prop extends NewOk ls where
 perm : items.Perm (itemsOf ls)
 order : items.Pairwise itemLt
 canon : ∀ x ∈ ls, Canon x.range
def spT : List UInt8 := [32]
def cutA (s : ByteArray) : ByteArray := ⟨(Lib.cut s.data.toList spT).1.toArray⟩
def cutB (s : ByteArray) : ByteArray := ⟨(Lib.cut s.data.toList spT).2.1.toArray⟩
def pkgT : ByteArray := ⟨#[112, 97, 99, 107, 97, 103, 101]⟩
def needT : ByteArray := ⟨#[110, 101, 101, 100, 115]⟩
def clashT : ByteArray := ⟨#[99, 108, 97, 115, 104, 101, 115]⟩
def rootT : ByteArray := ⟨#[114, 111, 111, 116]⟩
def LineR (s : ByteArray) (x : LineM) : Prop :=
 x.name = cutA (cutB s) ∧
 ((x.kind = 1 ∧ cutA s = pkgT ∧ okVer (cutA (cutB (cutB s))) x.va x.vb x.vc ∧ cutB (cutB (cutB s)) = ByteArray.empty ∧ x.other = ByteArray.empty ∧ x.range = []) ∨
  (((x.kind = 2 ∧ cutA s = needT) ∨ (x.kind = 3 ∧ cutA s = clashT)) ∧ okVer (cutA (cutB (cutB s))) x.va x.vb x.vc ∧ x.other = cutA (cutB (cutB (cutB s))) ∧ (cutB (cutB (cutB (cutB s)))).size ≤ 1000 ∧ TextR (cutB (cutB (cutB (cutB s)))) x.range) ∨
  (x.kind = 4 ∧ cutA s = rootT ∧ x.va = 0 ∧ x.vb = 0 ∧ x.vc = 0 ∧ x.other = ByteArray.empty ∧ (cutB (cutB s)).size ≤ 1000 ∧ TextR (cutB (cutB s)) x.range))
def LineM.same (x y : LineM) : Prop := x.kind = y.kind ∧ x.name = y.name ∧ x.va = y.va ∧ x.vb = y.vb ∧ x.vc = y.vc ∧ x.other = y.other ∧ x.range = y.range
theorem LineR.one {s : ByteArray} {x y : LineM} (h : LineR s x) (h' : LineR s y) : x.same y := by
 obtain ⟨n1, h⟩ := h
 obtain ⟨n2, h'⟩ := h'
 have e12 : pkgT ≠ needT := by decide
 have e13 : pkgT ≠ clashT := by decide
 have e14 : pkgT ≠ rootT := by decide
 have e23 : needT ≠ clashT := by decide
 have e24 : needT ≠ rootT := by decide
 have e34 : clashT ≠ rootT := by decide
 rcases h with ⟨k1, w1, v1, r1, o1, g1⟩ | ⟨kw1, v1, o1, r1, g1⟩ | ⟨k1, w1, a1, b1, c1, o1, r1, g1⟩ <;>
 rcases h' with ⟨k2, w2, v2, r2, o2, g2⟩ | ⟨kw2, v2, o2, r2, g2⟩ | ⟨k2, w2, a2, b2, c2, o2, r2, g2⟩
 ·
  obtain ⟨a, b, c⟩ := v1.one v2
  exact ⟨k1.trans k2.symm, n1.trans n2.symm, a, b, c, o1.trans o2.symm, g1.trans g2.symm⟩
 ·
  rcases kw2 with ⟨_, w2⟩ | ⟨_, w2⟩
  · exact absurd (w1.symm.trans w2) e12
  · exact absurd (w1.symm.trans w2) e13
 · exact absurd (w1.symm.trans w2) e14
 ·
  rcases kw1 with ⟨_, w1⟩ | ⟨_, w1⟩
  · exact absurd (w2.symm.trans w1) e12
  · exact absurd (w2.symm.trans w1) e13
 ·
  obtain ⟨a, b, c⟩ := v1.one v2
  refine ⟨?_, n1.trans n2.symm, a, b, c, o1.trans o2.symm, g1.one g2⟩
  rcases kw1 with ⟨k1, w1⟩ | ⟨k1, w1⟩ <;> rcases kw2 with ⟨k2, w2⟩ | ⟨k2, w2⟩
  · exact k1.trans k2.symm
  · exact absurd (w1.symm.trans w2) e23
  · exact absurd (w2.symm.trans w1) e23
  · exact k1.trans k2.symm
 ·
  rcases kw1 with ⟨_, w1⟩ | ⟨_, w1⟩
  · exact absurd (w1.symm.trans w2) e24
  · exact absurd (w1.symm.trans w2) e34
 · exact absurd (w2.symm.trans w1) e14
 ·
  rcases kw2 with ⟨_, w2⟩ | ⟨_, w2⟩
  · exact absurd (w2.symm.trans w1) e24
  · exact absurd (w2.symm.trans w1) e34
 · exact ⟨k1.trans k2.symm, n1.trans n2.symm, a1.trans a2.symm, b1.trans b2.symm, c1.trans c2.symm, o1.trans o2.symm, g1.one g2⟩
end Go.Proofs.YtmlfelbkgoplhaaGreatDoor
namespace Go.Proofs.YtmlfelbkgoplhaaGreatDoor
open Go.RowKit
set_option linter.unusedVariables false
def flatG {α : Type} (enc : α → List Value) (xs : List α) : List Value := xs.flatMap enc
theorem flatG_len {α : Type} {enc : α → List Value} {z : Nat} (hz : ∀ x, (enc x).length = z) : ∀ xs : List α, (flatG enc xs).length = xs.length * z
 | [] => by simp [flatG]
 | x :: xs => by
  have := flatG_len hz xs
  unfold flatG at this ⊢
  rw [List.flatMap_cons, List.length_append, this, hz, List.length_cons, Nat.succ_mul, Nat.add_comm]
theorem flatG_snoc {α : Type} (enc : α → List Value) (xs : List α) (x : α) : flatG enc (xs ++ [x]) = flatG enc xs ++ enc x := by
 unfold flatG; rw [List.flatMap_append]; simp
theorem flatG_get {α : Type} {enc : α → List Value} {z : Nat} (hz : ∀ x, (enc x).length = z) : ∀ (xs : List α) (k j : Nat) (h : k < xs.length), j < z → (flatG enc xs)[k * z + j]? = (enc xs[k])[j]?
 | x :: xs, 0, j, _, hj => by
  unfold flatG
  rw [List.flatMap_cons, Nat.zero_mul, Nat.zero_add, List.getElem?_append_left (by rw [hz]; exact hj)]
  rfl
 | x :: xs, k + 1, j, h, hj => by
  have ih := flatG_get hz xs k j (by simpa using h) hj
  unfold flatG at ih ⊢
  rw [List.flatMap_cons, List.getElem?_append_right (by rw [hz, Nat.succ_mul]; omega), hz, show (k + 1) * z + j - z = k * z + j by rw [Nat.succ_mul]; omega, ih]
  rfl
def RowG {α : Type} (w : World) (base : Nat) (T : TypeId) (z : Nat) (enc : α → List Value) (v : Value) (xs : List α) : Prop := w.ownsRow base T z v xs.length (flatG enc xs)
theorem RowG.nil {α : Type} (w : World) (base : Nat) (T : TypeId) (z : Nat) (enc : α → List Value) : RowG w base T z enc (.slice none 0 0) [] := ⟨by simp [flatG], .inl ⟨rfl, rfl⟩⟩
theorem RowG.keep {α : Type} {w w' : World} {base : Nat} {T : TypeId} {z : Nat} {enc : α → List Value} {v : Value} {xs : List α} (h : RowG w base T z enc v xs) (hk : ∀ b, v.ownBlock = some b → w'.heap[b]? = w.heap[b]?) : RowG w' base T z enc v xs := by
 obtain ⟨h0, h1 | ⟨g, cap, cur, e, h1, h2, h3⟩⟩ := h
 · exact ⟨h0, .inl h1⟩
 · refine ⟨h0, .inr ⟨g, cap, cur, e, h1, (hk g (by rw [e]; rfl)).trans h2, h3⟩⟩
theorem RowG.lt {α : Type} {w : World} {base : Nat} {T : TypeId} {z : Nat} {enc : α → List Value} {v : Value} {xs : List α} (h : RowG w base T z enc v xs) {b : Nat} (hb : v.ownBlock = some b) : base ≤ b ∧ b < w.heap.size := World.ownsRow.lt h b hb
theorem RowG.below {α : Type} {w w' : World} {base : Nat} {T : TypeId} {z : Nat} {enc : α → List Value} {v : Value} {xs : List α} (h : RowG w base T z enc v xs) (hb : Below w.heap.size w w') : RowG w' base T z enc v xs :=
 h.keep (fun b e => hb.block b (h.lt e).2)
theorem RowG.less {α : Type} {w : World} {base base' : Nat} {T : TypeId} {z : Nat} {enc : α → List Value} {v : Value} {xs : List α} (h : RowG w base T z enc v xs) (hb : base' ≤ base) : RowG w base' T z enc v xs := by
 obtain ⟨h0, h1 | ⟨g, cap, cur, e, h1, h2, h3⟩⟩ := h
 · exact ⟨h0, .inl h1⟩
 · exact ⟨h0, .inr ⟨g, cap, cur, e, by omega, h2, h3⟩⟩
theorem RowG.shape {α : Type} {w : World} {base : Nat} {T : TypeId} {z : Nat} {enc : α → List Value} {v : Value} {xs : List α} (h : RowG w base T z enc v xs) : ∃ a c, v = .slice a xs.length c ∧ xs.length ≤ c ∧ c ≤ 9223372036854775807 := by
 obtain ⟨h0, ⟨h1, h2⟩ | ⟨g, cap, cur, e, h1, h2, h3, h4, h5⟩⟩ := h
 · exact ⟨none, 0, by rw [h2]; exact h1, by omega, by omega⟩
 · exact ⟨some ⟨g, 0, none⟩, cap, e, h3, by unfold maxLen at h4; omega⟩
theorem RowG.at {α : Type} {w : World} {base : Nat} {T : TypeId} {z : Nat} {enc : α → List Value} {a : Option Addr} {n c : Nat} {xs : List α} (h : RowG w base T z enc (.slice a n c) xs) (hne : 0 < xs.length) : ∃ g, a = some ⟨g, 0, none⟩ ∧ g < w.heap.size ∧ base ≤ g := by
 obtain ⟨h0, ⟨h1, h2⟩ | ⟨g, cap, cur, e, h1, h2, h3, h4, h5⟩⟩ := h
 · omega
 ·
  cases e
  exact ⟨g, rfl, (Array.getElem?_eq_some_iff.1 h2).1, h1⟩
theorem RowG.cell {α : Type} {w : World} {base : Nat} {T : TypeId} {z : Nat} {enc : α → List Value} {g n c : Nat} {xs : List α} (hz : ∀ x, (enc x).length = z) (h : RowG w base T z enc (.slice (some ⟨g, 0, none⟩) n c) xs) {k j : Nat} (hk : k < xs.length) (hj : j < z) {u : Value} (hu : (enc xs[k])[j]? = some u) : w.cell? ⟨g, k * z + j, none⟩ = some u := by
 obtain ⟨h0, ⟨h1, h2⟩ | ⟨g', cap, cur, e, h1, h2, h3, h4, h5, h6⟩⟩ := h
 · cases h1
 ·
  cases e
  rw [cell_of_row w g _ cur _ _ h2]
  have hlt : k * z + j < xs.length * z := by
   have : (k + 1) * z ≤ xs.length * z := Nat.mul_le_mul_right _ hk
   rw [Nat.succ_mul] at this; omega
  have e1 := flatG_get hz xs k j hk hj
  rw [← h6, List.getElem?_take_of_lt hlt, Array.getElem?_toList] at e1
  rw [e1, hu]
theorem RowG.free {α : Type} {w : World} {base : Nat} {T : TypeId} {z : Nat} {enc : α → List Value} {g n c : Nat} {xs : List α} (h : RowG w base T z enc (.slice (some ⟨g, 0, none⟩) n c) xs) (k : Nat) : w.frozen? ⟨g, k, none⟩ = false := by
 obtain ⟨h0, ⟨h1, h2⟩ | ⟨g', cap, cur, e, h1, h2, h3, h4, h5, h6⟩⟩ := h
 · cases h1
 ·
  cases e
  simp [World.frozen?, h2]
set_option maxHeartbeats 1000000 in
theorem wpList_append_g {α : Type} {W : World} {ops : Array Oper} {rest : List Oper} {o : Oper} {a : Act} {Q : Exit → Act → World → Prop} (hgd : o.guard = none) (s x : Operand) (T S : TypeId) (z bytes : Nat) (enc : α → List Value) (hz : ∀ x, (enc x).length = z) (h1 : ∀ x, ∀ u ∈ enc x, u.oneCell' = true)
 (ho : o.op = .call { callee := .builtin .append, args := #[s, x], argTypes := #[S, S] })
 (i : TypeInfo) (zv : Value) (hu : Tryz.prog.underlying S = some (.slice T)) (hi : Tryz.prog.info? T = some i) (hzero : i.zero = some zv) (hsize : i.size = z) (hby : i.bytes = bytes) (hzs : zv.cells.size = z) (hzp : 0 < z) (hbb : bytes ≤ 1000)
 (base : Nat) (v : Value) (xs : List α) (hs : a.eval s = v) (hr : RowG W base T z enc v xs) (y : α) (cs : Array Value) (hcs : cs.toList = enc y)
 (q : Nat) (hq : q = W.heap.size) (hx : a.eval x = .slice (some ⟨q, 0, none⟩) 1 1) (hn : xs.length + 1 ≤ 1000000) (hbase : base ≤ W.heap.size)
 (h : ∀ v' w', RowG w' base T z enc v' (xs ++ [y]) → Below base W w' → (∀ k, k < W.heap.size → v.ownBlock ≠ some k → w'.heap[k]? = W.heap[k]?) → wpList Tryz.prog ops Q rest (a.put o.dst v') w') : wpList Tryz.prog ops Q (o :: rest) a (W.alloc (.cells cs T)) := by
 subst hq
 have hal : Below W.heap.size W (W.alloc (.cells cs T)) := (Below.refl _ _).alloc (Nat.le_refl _) _
 have hb : (W.alloc (.cells cs T)).heap[W.heap.size]? = some (.cells cs T (0, 0)) := heap_at rfl
 have hcell : ∀ (j : Nat) (u' : Value), (enc y)[j]? = some u' → (W.alloc (.cells cs T)).cell? ((⟨W.heap.size, 0, none⟩ : Addr).add j) = some u' := by
  intro j u' hu
  rw [show (⟨W.heap.size, 0, none⟩ : Addr).add j = ⟨W.heap.size, j, none⟩ from by simp [Addr.add]; exact fun h => h.symm, cell_of_row _ _ _ _ _ _ hb, ← hu, ← hcs]
  simp
 have hr' := hr.below hal
 have hb2 : (xs.length + 1) * bytes ≤ 140737488355328 := by
  have : (xs.length + 1) * bytes ≤ 1000000 * 1000 := Nat.mul_le_mul hn hbb
  omega
 refine wpList_append_own _ hgd s x S ho base T i zv z bytes hu hi hzero hsize hby hzs hzp v xs.length _ hs hr' ⟨W.heap.size, 0, none⟩ 1 1 (enc y) hx (by rw [hz]; omega) hcell (h1 y) (by simp only [maxLen]; omega) hb2 (by simp; omega) (fun v' w' h2 h3 _ => ?_)
 refine h v' w' ?_ ?_ (fun k hk hne => (h3.block k (by simp; omega) (fun e => hne e.symm)).trans (hal.block k hk))
 ·
  unfold RowG
  rw [flatG_snoc, List.length_append]
  exact h2
 · exact (hal.mono hbase).grown h3 (by simp; omega) (fun j hj => (hr'.lt hj).1)
set_option maxHeartbeats 1000000 in
theorem step_append_g {α : Type} {W : World} {ops : Array Oper} {o : Oper} {a : Act} {K : Act → World → Prop} {Q : Exit → Act → World → Prop} {E : Prop} (hgd : o.guard = none) (s x : Operand) (T S : TypeId) (z bytes : Nat) (enc : α → List Value) (hz : ∀ x, (enc x).length = z) (y : α) (h1 : ∀ u ∈ enc y, u.oneCell' = true)
 (ho : o.op = .call { callee := .builtin .append, args := #[s, x], argTypes := #[S, S] })
 (i : TypeInfo) (zv : Value) (hu : Tryz.prog.underlying S = some (.slice T)) (hi : Tryz.prog.info? T = some i) (hzero : i.zero = some zv) (hsize : i.size = z) (hby : i.bytes = bytes) (hzs : zv.cells.size = z) (hzp : 0 < z) (hbb : bytes ≤ 1000)
 (base : Nat) (v : Value) (xs : List α) (hs : a.eval s = v) (hr : RowG W base T z enc v xs) (cs : Array Value) (hcs : cs.toList = enc y)
 (q : Nat) (hq : q = W.heap.size) (hx : a.eval x = .slice (some ⟨q, 0, none⟩) 1 1) (hn : xs.length + 1 ≤ 1000000) (hbase : base ≤ W.heap.size)
 (h : ∀ g cap w', RowG w' base T z enc (.slice (some ⟨g, 0, none⟩) (xs.length + 1) cap) (xs ++ [y]) → Below base W w' → (∀ k, k < W.heap.size → v.ownBlock ≠ some k → w'.heap[k]? = W.heap[k]?) → base ≤ g → (v.ownBlock = some g ∨ W.heap.size ≤ g) → K (a.put o.dst (.slice (some ⟨g, 0, none⟩) (xs.length + 1) cap)) w') :
 if Region.wanted o (yielded ops a.tmps) = true then Oper.wp Tryz.prog o a (W.alloc (.cells cs T)) K Q else E := by
 subst hq
 have hal : Below W.heap.size W (W.alloc (.cells cs T)) := (Below.refl _ _).alloc (Nat.le_refl _) _
 have hb : (W.alloc (.cells cs T)).heap[W.heap.size]? = some (.cells cs T (0, 0)) := heap_at rfl
 have hr' := hr.below hal
 have hb2 : (xs.length + 1) * bytes ≤ 140737488355328 := by
  have : (xs.length + 1) * bytes ≤ 1000000 * 1000 := Nat.mul_le_mul hn hbb
  omega
 refine step_append_lies _ hgd s x S ho base T i zv z bytes hu hi hzero hsize hby hzs hzp v xs.length _ hs hr' ⟨W.heap.size, 0, none⟩ 1 1 (enc y) hx (by rw [hz]; omega) (fun j u hu => World.news_of_block hb j u (by rw [hcs]; exact hu)) h1 (by decide) (by simp only [maxLen]; omega) hb2 (by simp; omega) _ rfl (fun g cap w' h2 h3 h4 _ => ?_)
 have hbg : base ≤ g := by
  rcases h2.2 with ⟨e, _⟩ | ⟨g', cap', cur, e, q1, _⟩
  · cases e
  · cases e; exact q1
 refine h g cap w' ?_ ?_ (fun k hk hne => (h3.block k (by simp; omega) (fun e => hne e.symm)).trans (hal.block k hk)) hbg ?_
 ·
  unfold RowG
  rw [flatG_snoc, List.length_append]
  exact h2
 · exact (hal.mono hbase).grown h3 (by simp; omega) (fun j hj => (hr'.lt hj).1)
 ·
  rcases h4 with h4 | h4
  · exact .inl h4
  · rw [alloc_size] at h4; exact .inr (by omega)
end Go.Proofs.YtmlfelbkgoplhaaGreatDoor
namespace Go.Proofs.YtmlfelbkgoplhaaGreatDoor
open Go.RowKit
set_option linter.unusedVariables false
def encLine (x : LineM) : List Value := [.int .i64 x.kind, .string x.name, .int .i64 x.va, .int .i64 x.vb, .int .i64 x.vc, .string x.other, x.rv]
def encItem (x : ItemM) : List Value := [.string x.1, .int .i64 x.2.1, .int .i64 x.2.2.1, .int .i64 x.2.2.2]
theorem encLine_len (x : LineM) : (encLine x).length = 7 := rfl
theorem encItem_len (x : ItemM) : (encItem x).length = 4 := rfl
structure LineIn (w : World) (x : LineM) : Prop where
 rng : IsSp w x.rv x.range
 few : x.range.length ≤ 7000
 can : Canon x.range
 sz1 : x.name.size ≤ 9223372036854775807
 sz2 : x.other.size ≤ 9223372036854775807
theorem LineIn.below {w w' : World} {x : LineM} (h : LineIn w x) (hb : Below w.heap.size w w') : LineIn w' x := ⟨h.rng.below hb, h.few, h.can, h.sz1, h.sz2⟩
structure IsLines (w : World) (base : Nat) (v : Value) (ls : List LineM) : Prop where
 row : RowG w base 77 7 encLine v ls
 ins : ∀ x ∈ ls, LineIn w x
theorem IsLines.below {w w' : World} {base : Nat} {v : Value} {ls : List LineM} (h : IsLines w base v ls) (hb : Below w.heap.size w w') : IsLines w' base v ls := ⟨h.row.below hb, fun x hx => (h.ins x hx).below hb⟩
theorem IsLines.nil (w : World) (base : Nat) : IsLines w base (.slice none 0 0) [] := ⟨RowG.nil _ _ _ _ _, fun x hx => by cases hx⟩
theorem IsLines.less {w : World} {base base' : Nat} {v : Value} {ls : List LineM} (h : IsLines w base v ls) (hb : base' ≤ base) : IsLines w base' v ls := ⟨h.row.less hb, h.ins⟩
def IsItems (w : World) (base : Nat) (v : Value) (items : List ItemM) : Prop := RowG w base 94 4 encItem v items
theorem IsItems.below {w w' : World} {base : Nat} {v : Value} {items : List ItemM} (h : IsItems w base v items) (hb : Below w.heap.size w w') : IsItems w' base v items := RowG.below h hb
theorem IsItems.nil (w : World) (base : Nat) : IsItems w base (.slice none 0 0) [] := RowG.nil _ _ _ _ _
theorem IsItems.cells {w : World} {base g n c : Nat} {items : List ItemM} (h : IsItems w base (.slice (some ⟨g, 0, none⟩) n c) items) {k : Nat} (hk : k < items.length) :
 w.cell? ⟨g, k * 4, none⟩ = some (.string items[k].1) ∧ w.cell? ⟨g, k * 4 + 1, none⟩ = some (.int .i64 items[k].2.1) ∧ w.cell? ⟨g, k * 4 + 2, none⟩ = some (.int .i64 items[k].2.2.1) ∧ w.cell? ⟨g, k * 4 + 3, none⟩ = some (.int .i64 items[k].2.2.2) :=
 ⟨RowG.cell encItem_len h hk (j := 0) (by decide) rfl, RowG.cell encItem_len h hk (j := 1) (by decide) rfl, RowG.cell encItem_len h hk (j := 2) (by decide) rfl, RowG.cell encItem_len h hk (j := 3) (by decide) rfl⟩
theorem IsLines.cells {w : World} {base g n c : Nat} {ls : List LineM} (h : IsLines w base (.slice (some ⟨g, 0, none⟩) n c) ls) {k : Nat} (hk : k < ls.length) :
 w.cell? ⟨g, k * 7, none⟩ = some (.int .i64 ls[k].kind) ∧ w.cell? ⟨g, k * 7 + 1, none⟩ = some (.string ls[k].name) ∧ w.cell? ⟨g, k * 7 + 2, none⟩ = some (.int .i64 ls[k].va) ∧ w.cell? ⟨g, k * 7 + 3, none⟩ = some (.int .i64 ls[k].vb) ∧ w.cell? ⟨g, k * 7 + 4, none⟩ = some (.int .i64 ls[k].vc) ∧
 w.cell? ⟨g, k * 7 + 5, none⟩ = some (.string ls[k].other) ∧ w.cell? ⟨g, k * 7 + 6, none⟩ = some ls[k].rv :=
 ⟨RowG.cell encLine_len h.row hk (j := 0) (by decide) rfl, RowG.cell encLine_len h.row hk (j := 1) (by decide) rfl, RowG.cell encLine_len h.row hk (j := 2) (by decide) rfl, RowG.cell encLine_len h.row hk (j := 3) (by decide) rfl, RowG.cell encLine_len h.row hk (j := 4) (by decide) rfl, RowG.cell encLine_len h.row hk (j := 5) (by decide) rfl, RowG.cell encLine_len h.row hk (j := 6) (by decide) rfl⟩
structure CatAt (w : World) (p : Nat) (vl vi : Value) (ls : List LineM) (items : List ItemM) : Prop where
 box : w.heap[p]? = some (.cells #[vl, vi] 142 (0, 0))
 lines : IsLines w 0 vl ls
 its : IsItems w 0 vi items
def IsCat (w : World) (p : Nat) (ls : List LineM) (items : List ItemM) : Prop := CatOk ls items ∧ ∃ vl vi, CatAt w p vl vi ls items
theorem CatAt.below {w w' : World} {p : Nat} {vl vi : Value} {ls : List LineM} {items : List ItemM} (h : CatAt w p vl vi ls items) (hb : Below w.heap.size w w') : CatAt w' p vl vi ls items :=
 ⟨(hb.block _ (lt_of_block h.box)).trans h.box, h.lines.below hb, h.its.below hb⟩
theorem IsCat.below {w w' : World} {p : Nat} {ls : List LineM} {items : List ItemM} (h : IsCat w p ls items) (hb : Below w.heap.size w w') : IsCat w' p ls items := by
 obtain ⟨h0, vl, vi, h⟩ := h
 exact ⟨h0, vl, vi, h.below hb⟩
theorem cellsC {w : World} {p : Nat} {a b : Value} {T : TypeId} (h : w.heap[p]? = some (.cells #[a, b] T (0, 0))) : w.cell? ⟨p, 0, none⟩ = some a ∧ w.cell? ⟨p, 1, none⟩ = some b ∧ w.frozen? ⟨p, 0, none⟩ = false ∧ w.frozen? ⟨p, 1, none⟩ = false := by
 refine ⟨?_, ?_, ?_, ?_⟩
 · rw [cell_of_row w p _ _ _ _ h]; rfl
 · rw [cell_of_row w p _ _ _ _ h]; rfl
 all_goals simp [World.frozen?, h]
end Go.Proofs.YtmlfelbkgoplhaaGreatDoor
namespace Go.Proofs.YtmlfelbkgoplhaaGreatDoor
open Go.RowKit
set_option linter.unusedVariables false
def vT (n : Int) : List UInt8 := verL (n / 1000 / 1000) (n / 1000 % 1000) (n % 1000)
theorem vT_ok {n : Int} (h : 0 ≤ n ∧ n < pastV) : VerOk (n / 1000 / 1000) (n / 1000 % 1000) (n % 1000) ∧ numV (n / 1000 / 1000) (n / 1000 % 1000) (n % 1000) = n := by
 unfold pastV at h
 unfold numV
 exact ⟨⟨by omega, by omega, by omega⟩, by omega⟩
def spanW (s : Spn) : List (List UInt8) :=
 if s.2 = s.1 + 1 then [vT s.1] else if 0 < s.1 ∧ s.2 < pastV then [[62, 61] ++ vT s.1, [60] ++ vT s.2] else if 0 < s.1 then [[62, 61] ++ vT s.1] else if s.2 < pastV then [[60] ++ vT s.2] else [[97, 110, 121]]
def spanT (s : Spn) : List UInt8 := Lib.join (spanW s) [32]
def orS : List UInt8 := [32, 124, 124, 32]
def rangeT (l : List Spn) : List UInt8 := if l = [] then [110, 111, 110, 101] else Lib.join (l.map spanT) orS
def wordOk (l : List UInt8) : Prop := l ≠ [] ∧ ∀ x ∈ l, x ≠ 32 ∧ x ≠ 124
theorem wordOk_op {o : List UInt8} {n : Int} (ho : ∀ c ∈ o, c ≠ 32 ∧ c ≠ 124) (h : 0 ≤ n ∧ n < pastV) : wordOk (o ++ vT n) := by
 refine ⟨by unfold vT verL; simp, fun x hx => ?_⟩
 rcases List.mem_append.1 hx with q | q
 · exact ho x q
 ·
  rcases verL_mem (vT_ok h).1 x q with rfl | q
  · decide
  · exact ⟨(digB_ne q).2.1, (digB_ne q).2.2.1⟩
theorem spanW_ok {s : Spn} (h : Wide s) : (∀ l ∈ spanW s, wordOk l) ∧ (∃ A, spanW s = [A] ∨ ∃ B, spanW s = [A, B]) := by
 obtain ⟨h1, h2, h3⟩ := h
 unfold spanW
 split
 · exact ⟨fun l hl => by rw [List.mem_singleton.1 hl]; exact wordOk_op (o := []) (fun c hc => by cases hc) ⟨h1, by omega⟩, _, .inl rfl⟩
 ·
  split
  ·
   refine ⟨fun l hl => ?_, _, .inr ⟨_, rfl⟩⟩
   rcases List.mem_cons.1 hl with rfl | hl
   · exact wordOk_op (by decide) ⟨h1, by omega⟩
   · rw [List.mem_singleton.1 hl]; exact wordOk_op (by decide) ⟨by omega, by omega⟩
  ·
   split
   · exact ⟨fun l hl => by rw [List.mem_singleton.1 hl]; exact wordOk_op (by decide) ⟨h1, by omega⟩, _, .inl rfl⟩
   ·
    split
    · exact ⟨fun l hl => by rw [List.mem_singleton.1 hl]; exact wordOk_op (by decide) ⟨by omega, by omega⟩, _, .inl rfl⟩
    · exact ⟨fun l hl => by rw [List.mem_singleton.1 hl]; exact ⟨by decide, by decide⟩, _, .inl rfl⟩
theorem opR_one {k : Nat} {n : Int} {s : Spn} (hk : k ≠ 1) (h : 0 ≤ n ∧ n < pastV) (hs : Wide s) (he : opSpan k (n / 1000 / 1000) (n / 1000 % 1000) (n % 1000) = s) : OpR k (n / 1000 / 1000) (n / 1000 % 1000) (n % 1000) [s] :=
 ⟨⟨fun t ht => by rw [List.mem_singleton.1 ht]; exact hs, List.pairwise_singleton _ _⟩, fun m => by rw [if_neg hk, he, inL_one]⟩
theorem canon_one {s : Spn} (h : Wide s) : Canon [s] := ⟨fun t ht => by rw [List.mem_singleton.1 ht]; exact h, List.pairwise_singleton _ _⟩
theorem pieceQ_one {l : List UInt8} {s : Spn} (hs : Wide s) (h : WordR (wordB l) [s]) : PieceQ [l] [s] :=
 PieceQ.snoc (ws := []) PieceQ.nil h ⟨canon_one hs, fun n => ⟨fun q => ⟨inL_one.2 ((canon_one hs).bound q), q⟩, fun q => q.2⟩⟩
theorem pieceQ_span {s : Spn} (h : Wide s) : PieceQ (spanW s) [s] := by
 have hW := h
 obtain ⟨h1, h2, h3⟩ := h
 unfold spanW
 split
 ·
  rename_i e
  refine pieceQ_one hW (wordR_op (o := []) (k := 0) (by decide) (vT_ok ⟨h1, by omega⟩).1 (opR_one (by decide) ⟨h1, by omega⟩ hW ?_))
  have := (vT_ok (n := s.1) ⟨h1, by omega⟩).2
  unfold opSpan
  simp [this]
  exact Prod.ext rfl e.symm
 ·
  split
  ·
   rename_i _ e
   have e1 := (vT_ok (n := s.1) ⟨h1, by omega⟩).2
   have e2 := (vT_ok (n := s.2) ⟨by omega, e.2⟩).2
   have w1 : Wide (s.1, pastV) := ⟨h1, by omega, Int.le_refl _⟩
   have w2 : Wide (0, s.2) := ⟨Int.le_refl _, by simp only; omega, h3⟩
   have g1 := wordR_op (o := [62, 61]) (k := 5) (r := [(s.1, pastV)]) (by decide) (vT_ok (n := s.1) ⟨h1, by omega⟩).1 (opR_one (by decide) ⟨h1, by omega⟩ w1 (by unfold opSpan; simp [e1]))
   have g2 := wordR_op (o := [60]) (k := 2) (r := [(0, s.2)]) (by decide) (vT_ok (n := s.2) ⟨by omega, e.2⟩).1 (opR_one (by decide) ⟨by omega, e.2⟩ w2 (by unfold opSpan; simp [e2]))
   refine PieceQ.snoc (ws := [_]) (pieceQ_one w1 g1) g2 ⟨canon_one hW, fun n => ?_⟩
   rw [inL_one, inL_one, inL_one]
   unfold inS
   simp only
   omega
  ·
   split
   ·
    rename_i e0 e
    have e1 := (vT_ok (n := s.1) ⟨h1, by omega⟩).2
    refine pieceQ_one hW (wordR_op (o := [62, 61]) (k := 5) (by decide) (vT_ok ⟨h1, by omega⟩).1 (opR_one (by decide) ⟨h1, by omega⟩ hW ?_))
    unfold opSpan
    simp [e1]
    exact Prod.ext rfl (by simp only; omega)
   ·
    split
    ·
     rename_i e
     have e2 := (vT_ok (n := s.2) ⟨by omega, e⟩).2
     refine pieceQ_one hW (wordR_op (o := [60]) (k := 2) (by decide) (vT_ok ⟨by omega, e⟩).1 (opR_one (by decide) ⟨by omega, e⟩ hW ?_))
     unfold opSpan
     simp [e2]
     exact Prod.ext (by simp only; omega) rfl
    ·
     refine pieceQ_one hW (.inl ⟨rfl, ?_⟩)
     rw [show s = (0, pastV) from Prod.ext (by simp only; omega) (by simp only; omega)]
theorem words_two {A R : List UInt8} (h : wordOk A) : words (A ++ 32 :: R) = A :: words R := by
 obtain ⟨hne, h⟩ := h
 cases A with
 | nil => exact absurd rfl hne
 | cons c r =>
  have hb : ∀ x ∈ c :: r, nb x = true := fun x hx => by unfold nb; simpa using (h x hx).1
  rw [List.cons_append, words_word (hb c (List.mem_cons_self ..))]
  have e1 : (r ++ 32 :: R).takeWhile nb = r := takeWhile_app (fun x hx => hb x (List.mem_cons_of_mem _ hx)) (fun x hx => by simp at hx; subst hx; rfl)
  have e2 : (r ++ 32 :: R).dropWhile nb = 32 :: R := by
   have := List.takeWhile_append_dropWhile (p := nb) (l := r ++ 32 :: R)
   rw [e1] at this
   exact List.append_cancel_left this
  rw [e1, e2, words_blank]
theorem words_span {s : Spn} (h : Wide s) {pre post : List UInt8} (hp : pre = [] ∨ pre = [32]) (hq : post = [] ∨ post = [32]) : words (pre ++ spanT s ++ post) = spanW s := by
 have hpre : words (pre ++ spanT s ++ post) = words (spanT s ++ post) := by
  rcases hp with rfl | rfl
  · rfl
  · exact words_blank _
 rw [hpre]
 obtain ⟨hok, A, e | ⟨B, e⟩⟩ := spanW_ok h
 ·
  unfold spanT
  rw [e] at hok ⊢
  rw [Lib.join_one]
  rcases hq with rfl | rfl
  · rw [List.append_nil]; exact words_all (hok A (by simp)).1 (fun x hx => by unfold nb; simpa using ((hok A (by simp)).2 x hx).1)
  · rw [words_two (hok A (by simp)), words_nil]
 ·
  unfold spanT
  rw [e] at hok ⊢
  have ej : Lib.join [A, B] [32] = A ++ 32 :: B := by simp [Lib.join, List.intercalate, List.intersperse]
  rw [ej, List.append_assoc, List.cons_append, words_two (hok A (by simp))]
  congr 1
  rcases hq with rfl | rfl
  · rw [List.append_nil]; exact words_all (hok B (by simp)).1 (fun x hx => by unfold nb; simpa using ((hok B (by simp)).2 x hx).1)
  · rw [words_two (hok B (by simp)), words_nil]
theorem pieceR_span {s : Spn} (h : Wide s) {pre post : List UInt8} (hp : pre = [] ∨ pre = [32]) (hq : post = [] ∨ post = [32]) : PieceR (pre ++ spanT s ++ post) [s] := by
 unfold PieceR
 rw [words_span h hp hq]
 refine ⟨?_, pieceQ_span h⟩
 obtain ⟨_, A, e | ⟨B, e⟩⟩ := spanW_ok h <;> rw [e] <;> simp
theorem span_nobar {s : Spn} (h : Wide s) : ∀ y ∈ spanT s, y ≠ 124 := by
 obtain ⟨hok, A, e | ⟨B, e⟩⟩ := spanW_ok h
 ·
  unfold spanT
  rw [e] at hok ⊢
  rw [Lib.join_one]
  exact fun y hy => ((hok A (by simp)).2 y hy).2
 ·
  unfold spanT
  rw [e] at hok ⊢
  have ej : Lib.join [A, B] [32] = A ++ 32 :: B := by simp [Lib.join, List.intercalate, List.intersperse]
  rw [ej]
  intro y hy
  rcases List.mem_append.1 hy with q | q
  · exact ((hok A (by simp)).2 y q).2
  ·
   rcases List.mem_cons.1 q with rfl | q
   · decide
   · exact ((hok B (by simp)).2 y q).2
theorem index_or {R : List UInt8} : ∀ {A : List UInt8}, (∀ y ∈ A, y ≠ 124) → Lib.index (A ++ 124 :: 124 :: R) [124, 124] = (A.length : Int)
 | [], _ => by
  show (if ([124, 124] : List UInt8).isPrefixOf (124 :: 124 :: R) then (0 : Int) else _) = _
  rw [if_pos (by simp [List.isPrefixOf])]
  rfl
 | y :: A, h => by
  have hy : y ≠ 124 := h y (List.mem_cons_self ..)
  have ih := index_or (R := R) (A := A) (fun z hz => h z (List.mem_cons_of_mem _ hz))
  show (if ([124, 124] : List UInt8).isPrefixOf (y :: (A ++ 124 :: 124 :: R)) then (0 : Int) else if Lib.index (A ++ 124 :: 124 :: R) [124, 124] == -1 then -1 else Lib.index (A ++ 124 :: 124 :: R) [124, 124] + 1) = _
  rw [if_neg (by simp [List.isPrefixOf, Ne.symm hy]), ih, if_neg (by rw [beq_iff_eq]; omega)]
  simp
theorem pieces_or {A R : List UInt8} (h : ∀ y ∈ A, y ≠ 124) : pieces (wordB (A ++ 124 :: 124 :: R)) = wordB A :: pieces (wordB R) := by
 have hi : Lib.indexB (wordB (A ++ 124 :: 124 :: R)) orB = (A.length : Nat) := index_or h
 have e0 : (wordB (A ++ 124 :: 124 :: R)).extract 0 A.length = wordB A := by rw [wordB_extract]; simp
 have e2 : (wordB (A ++ 124 :: 124 :: R)).extract (A.length + orB.size) (wordB (A ++ 124 :: 124 :: R)).size = wordB R := by
  have hs : orB.size = 2 := rfl
  rw [hs, wordB_extract, wordB_size]
  congr 1
  rw [List.take_of_length_le (by simp; omega)]
  rw [show A.length + 2 = (A ++ [124, 124]).length by simp, show A ++ 124 :: 124 :: R = (A ++ [124, 124]) ++ R by simp, List.drop_left]
 unfold pieces
 rw [Lib.countB_hit _ _ _ (by decide) hi, e2, Nat.add_comm 1, Lib.splitB_hit _ _ _ _ _ hi, e2, Nat.add_zero, e0]
theorem TextQ.cons {p : List UInt8} {ps : List (List UInt8)} {s : Spn} {l : List Spn} (hp : PieceR p [s]) (h : TextQ ps l) (hc : Canon (s :: l)) : TextQ (p :: ps) (s :: l) := by
 refine ⟨hc, fun q hq => ?_, fun n => ?_⟩
 ·
  rcases List.mem_cons.1 hq with rfl | hq
  · exact ⟨_, hp⟩
  · exact h.all q hq
 ·
  rw [inL_cons, h.mem]
  constructor
  ·
   rintro (q | ⟨q, hq, x, hx, hn⟩)
   · exact ⟨p, List.mem_cons_self .., [s], hp, inL_one.2 q⟩
   · exact ⟨q, List.mem_cons_of_mem _ hq, x, hx, hn⟩
  ·
   rintro ⟨q, hq, x, hx, hn⟩
   rcases List.mem_cons.1 hq with rfl | hq
   · rw [hx.one hp] at hn; exact .inl (inL_one.1 hn)
   · exact .inr ⟨q, hq, x, hx, hn⟩
theorem textR_join : ∀ (l : List Spn) (s : Spn) (pre : List UInt8), (pre = [] ∨ pre = [32]) → Canon (s :: l) → TextR (wordB (pre ++ Lib.join ((s :: l).map spanT) orS)) (s :: l)
 | [], s, pre, hp, hc => by
  have hW := hc.ok s (List.mem_cons_self ..)
  rw [List.map_cons, List.map_nil, Lib.join_one]
  refine TextR.one_piece (index_none (fun y hy => ?_)) ?_ hc
  ·
   rcases List.mem_append.1 hy with q | q
   ·
    rcases hp with rfl | rfl
    · cases q
    · rw [List.mem_singleton.1 q]; decide
   · exact span_nobar hW y q
  ·
   have := pieceR_span hW (post := []) hp (.inl rfl)
   rw [List.append_nil] at this
   exact this
 | t :: l, s, pre, hp, hc => by
  have hW := hc.ok s (List.mem_cons_self ..)
  have ih := textR_join l t [32] (.inr rfl) hc.tail
  have e : pre ++ Lib.join ((s :: t :: l).map spanT) orS = (pre ++ spanT s ++ [32]) ++ 124 :: 124 :: ([32] ++ Lib.join ((t :: l).map spanT) orS) := by
   simp [Lib.join, List.intercalate, orS]
  unfold TextR
  rw [e, pieces_or, List.map_cons]
  · exact TextQ.cons (pieceR_span hW hp (.inr rfl)) ih hc
  ·
   intro y hy
   rcases List.mem_append.1 hy with q | q
   ·
    rcases List.mem_append.1 q with q | q
    ·
     rcases hp with rfl | rfl
     · cases q
     · rw [List.mem_singleton.1 q]; decide
    · exact span_nobar hW y q
   · rw [List.mem_singleton.1 q]; decide
theorem textR_range {l : List Spn} (hc : Canon l) : TextR (wordB (rangeT l)) l := by
 unfold rangeT
 cases l with
 | nil =>
  rw [if_pos rfl]
  refine TextR.one_piece (by decide) ?_ Canon.nil
  have hw : words [110, 111, 110, 101] = [[110, 111, 110, 101]] := by decide
  rw [wordB_data]
  unfold PieceR
  rw [hw]
  refine ⟨by simp, PieceQ.snoc (ws := []) PieceQ.nil (x := []) (.inr (.inl ⟨rfl, rfl⟩)) ⟨Canon.nil, fun n => ⟨fun q => absurd q (inL_nil n), fun q => q.2⟩⟩⟩
 | cons s l =>
  rw [if_neg (by simp)]
  exact textR_join l s [] (.inl rfl) hc
end Go.Proofs.YtmlfelbkgoplhaaGreatDoor
namespace Go.Proofs.YtmlfelbkgoplhaaGreatDoor
open Go.RowKit
set_option linter.unusedVariables false
theorem cut_hit {A R : List UInt8} (h : ∀ y ∈ A, y ≠ 32) : cutA (wordB (A ++ 32 :: R)) = wordB A ∧ cutB (wordB (A ++ 32 :: R)) = wordB R := by
 have hi := index_byte (R := R) h
 unfold cutA cutB
 rw [wordB_data]
 unfold Lib.cut spT
 rw [hi, if_pos (by omega)]
 constructor
 · simp [wordB]
 ·
  rw [show ((A.length : Int)).toNat + [(32 : UInt8)].length = (A ++ [(32 : UInt8)]).length by simp, show A ++ 32 :: R = (A ++ [32]) ++ R by simp, List.drop_left]
  rfl
theorem cut_miss {A : List UInt8} (h : ∀ y ∈ A, y ≠ 32) : cutA (wordB A) = wordB A ∧ cutB (wordB A) = ByteArray.empty := by
 have hi := index_none (sub := []) h
 unfold cutA cutB
 rw [wordB_data]
 unfold Lib.cut spT
 rw [hi, if_neg (by decide)]
 exact ⟨rfl, rfl⟩
def lineT (x : LineM) : List UInt8 :=
 if x.kind = 1 then pkgT.data.toList ++ 32 :: (x.name.data.toList ++ 32 :: verL x.va x.vb x.vc)
 else if x.kind = 2 then needT.data.toList ++ 32 :: (x.name.data.toList ++ 32 :: (verL x.va x.vb x.vc ++ 32 :: (x.other.data.toList ++ 32 :: rangeT x.range)))
 else if x.kind = 3 then clashT.data.toList ++ 32 :: (x.name.data.toList ++ 32 :: (verL x.va x.vb x.vc ++ 32 :: (x.other.data.toList ++ 32 :: rangeT x.range)))
 else rootT.data.toList ++ 32 :: (x.name.data.toList ++ 32 :: rangeT x.range)
def catT : List LineM → List UInt8
 | [] => []
 | x :: l => lineT x ++ 10 :: catT l
theorem nameCh_ne : ∀ c : UInt8, nameCh c = true → c ≠ 32 ∧ c ≠ 10 := by
 have h : ∀ n : Fin 256, nameCh (UInt8.ofNat n.val) = true → UInt8.ofNat n.val ≠ 32 ∧ UInt8.ofNat n.val ≠ 10 := by decide +kernel
 intro c hc
 have := h ⟨c.toNat, c.toNat_lt⟩
 simp only [UInt8.ofNat_toNat] at this
 exact this hc
theorem nameOk_ch {s : ByteArray} (h : nameOk s = true) : ∀ y ∈ s.data.toList, y ≠ 32 ∧ y ≠ 10 := by
 unfold nameOk at h
 simp only [Bool.and_eq_true] at h
 exact fun y hy => nameCh_ne y (List.all_eq_true.1 h.1.1.2 y hy)
theorem verL_ch {a b c : Int} (h : VerOk a b c) : ∀ y ∈ verL a b c, y ≠ 32 ∧ y ≠ 10 := by
 intro y hy
 rcases verL_mem h y hy with rfl | q
 · decide
 · exact ⟨(digB_ne q).2.1, by rintro rfl; revert q; decide⟩
structure LineOk (x : LineM) : Prop where
 kind : x.kind = 1 ∨ x.kind = 2 ∨ x.kind = 3 ∨ x.kind = 4
 name : nameOk x.name = true
 other : x.kind = 2 ∨ x.kind = 3 → nameOk x.other = true
 none : x.kind = 1 ∨ x.kind = 4 → x.other = ByteArray.empty
 pkg : x.kind = 1 → x.range = []
 root : x.kind = 4 → x.va = 0 ∧ x.vb = 0 ∧ x.vc = 0
 ver : x.kind ≠ 4 → VerOk x.va x.vb x.vc
theorem checkM_ok {x : LineM} : checkM x = 0 ↔ LineOk x := by
 unfold checkM
 constructor
 ·
  intro h
  split at h
  · cases h
  ·
   rename_i h1
   split at h
   · cases h
   ·
    rename_i h2
    split at h
    · cases h
    ·
     rename_i h3
     split at h
     · cases h
     ·
      rename_i h4
      simp only [not_or, not_and, Bool.not_eq_false] at h1 h2 h3 h4
      refine ⟨by omega, h2.1, fun q => h2.2 q, fun q => ?_, fun q => ?_, fun q => ?_, fun q => verB_ok.1 (h4 q)⟩
      · have := h3.1 (by omega); simpa using this
      · have := h3.2.1 q; simpa using this
      · have := h3.2.2 q; simpa using this
 ·
  intro h
  have hk := h.kind
  rw [if_neg (by omega), if_neg, if_neg, if_neg]
  ·
   rintro ⟨h1, h2⟩
   rw [verB_ok.2 (h.ver h1)] at h2; cases h2
  ·
   rintro (⟨h1, h2⟩ | ⟨h1, h2⟩ | ⟨h1, h2⟩)
   · exact h2 (h.none (by omega))
   · exact h2 (h.pkg h1)
   · exact h2 (h.root h1)
  ·
   rintro (h1 | ⟨h1, h2⟩)
   · rw [h.name] at h1; cases h1
   · rw [h.other h1] at h2; cases h2
theorem lineR_text {x : LineM} (h : LineOk x) (hc : Canon x.range) (hl : (rangeT x.range).length ≤ 1000) : LineR (wordB (lineT x)) x := by
 have hn := fun y hy => (nameOk_ch h.name y hy).1
 have c1 : ∀ y ∈ pkgT.data.toList, y ≠ 32 := by decide
 have c2 : ∀ y ∈ needT.data.toList, y ≠ 32 := by decide
 have c3 : ∀ y ∈ clashT.data.toList, y ≠ 32 := by decide
 have c4 : ∀ y ∈ rootT.data.toList, y ≠ 32 := by decide
 have ht := textR_range hc
 unfold lineT
 split
 ·
  rename_i k
  have hv := h.ver (by omega)
  have v1 := fun y hy => (verL_ch hv y hy).1
  unfold LineR
  rw [(cut_hit c1).1, (cut_hit c1).2, (cut_hit hn).1, (cut_hit hn).2, (cut_miss v1).1, (cut_miss v1).2]
  exact ⟨rfl, .inl ⟨k, rfl, verL_ok hv, rfl, h.none (.inl k), h.pkg k⟩⟩
 ·
  split
  ·
   rename_i k
   have hv := h.ver (by omega)
   have v1 := fun y hy => (verL_ch hv y hy).1
   have o1 := fun y hy => (nameOk_ch (h.other (.inl k)) y hy).1
   unfold LineR
   rw [(cut_hit c2).1, (cut_hit c2).2, (cut_hit hn).1, (cut_hit hn).2, (cut_hit v1).1, (cut_hit v1).2, (cut_hit o1).1, (cut_hit o1).2]
   exact ⟨rfl, .inr (.inl ⟨.inl ⟨k, rfl⟩, verL_ok hv, rfl, hl, ht⟩)⟩
  ·
   split
   ·
    rename_i k
    have hv := h.ver (by omega)
    have v1 := fun y hy => (verL_ch hv y hy).1
    have o1 := fun y hy => (nameOk_ch (h.other (.inr k)) y hy).1
    unfold LineR
    rw [(cut_hit c3).1, (cut_hit c3).2, (cut_hit hn).1, (cut_hit hn).2, (cut_hit v1).1, (cut_hit v1).2, (cut_hit o1).1, (cut_hit o1).2]
    exact ⟨rfl, .inr (.inl ⟨.inr ⟨k, rfl⟩, verL_ok hv, rfl, hl, ht⟩)⟩
   ·
    have k : x.kind = 4 := by have := h.kind; omega
    unfold LineR
    rw [(cut_hit c4).1, (cut_hit c4).2, (cut_hit hn).1, (cut_hit hn).2]
    obtain ⟨r1, r2, r3⟩ := h.root k
    exact ⟨rfl, .inr (.inr ⟨k, rfl, r1, r2, r3, h.none (.inr k), hl, ht⟩)⟩
theorem join_ne {c : UInt8} {sep : List UInt8} (hs : ∀ y ∈ sep, y ≠ c) : ∀ {xs : List (List UInt8)}, (∀ x ∈ xs, ∀ y ∈ x, y ≠ c) → ∀ y ∈ Lib.join xs sep, y ≠ c
 | [], _, y, hy => by simp [Lib.join_nil] at hy
 | x :: r, h, y, hy => by
  rw [Lib.join_cons] at hy
  rcases List.mem_append.1 hy with q | q
  · exact h x (List.mem_cons_self ..) y q
  ·
   unfold Lib.joinTail at q
   obtain ⟨z, hz, q⟩ := List.mem_flatten.1 q
   obtain ⟨t, ht, rfl⟩ := List.mem_map.1 hz
   rcases List.mem_append.1 q with q | q
   · exact hs y q
   · exact h t (List.mem_cons_of_mem _ ht) y q
theorem rangeT_ne {l : List Spn} (hc : Canon l) : ∀ y ∈ rangeT l, y ≠ 10 := by
 unfold rangeT
 split
 · decide
 ·
  refine join_ne (by decide) (fun x hx => ?_)
  obtain ⟨s, hs, rfl⟩ := List.mem_map.1 hx
  obtain ⟨h1, h2, h3⟩ := hc.ok s hs
  have key : ∀ (o : List UInt8) (n : Int), (∀ y ∈ o, y ≠ 10) → 0 ≤ n ∧ n < pastV → ∀ y ∈ o ++ vT n, y ≠ 10 := fun o n ho hn y hy => by
   rcases List.mem_append.1 hy with q | q
   · exact ho y q
   · exact (verL_ch (vT_ok hn).1 y q).2
  unfold spanT
  refine join_ne (by decide) (fun t ht => ?_)
  unfold spanW at ht
  split at ht
  · rw [List.mem_singleton.1 ht]; exact key [] _ (by simp) ⟨h1, by omega⟩
  ·
   split at ht
   ·
    rename_i e
    rcases List.mem_cons.1 ht with rfl | ht
    · exact key _ _ (by decide) ⟨h1, by omega⟩
    · rw [List.mem_singleton.1 ht]; exact key _ _ (by decide) ⟨by omega, e.2⟩
   ·
    split at ht
    · rw [List.mem_singleton.1 ht]; exact key _ _ (by decide) ⟨h1, by omega⟩
    ·
     split at ht
     ·
      rename_i e
      rw [List.mem_singleton.1 ht]; exact key _ _ (by decide) ⟨by omega, e⟩
     · rw [List.mem_singleton.1 ht]; decide
theorem lineT_ne {x : LineM} (h : LineOk x) (hc : Canon x.range) : (∀ y ∈ lineT x, y ≠ 10) ∧ lineT x ≠ [] := by
 have hn := fun y hy => (nameOk_ch h.name y hy).2
 have hr := rangeT_ne hc
 have c1 : ∀ y ∈ pkgT.data.toList, y ≠ 10 := by decide
 have c2 : ∀ y ∈ needT.data.toList, y ≠ 10 := by decide
 have c3 : ∀ y ∈ clashT.data.toList, y ≠ 10 := by decide
 have c4 : ∀ y ∈ rootT.data.toList, y ≠ 10 := by decide
 have app : ∀ {a b : List UInt8}, (∀ y ∈ a, y ≠ 10) → (∀ y ∈ b, y ≠ 10) → ∀ y ∈ a ++ 32 :: b, y ≠ 10 := fun h1 h2 y hy => by
  rcases List.mem_append.1 hy with q | q
  · exact h1 y q
  ·
   rcases List.mem_cons.1 q with rfl | q
   · decide
   · exact h2 y q
 unfold lineT
 split
 ·
  rename_i k
  have v1 := fun y hy => (verL_ch (h.ver (by omega)) y hy).2
  exact ⟨app c1 (app hn v1), by simp⟩
 ·
  split
  ·
   rename_i k
   have v1 := fun y hy => (verL_ch (h.ver (by omega)) y hy).2
   have o1 := fun y hy => (nameOk_ch (h.other (.inl k)) y hy).2
   exact ⟨app c2 (app hn (app v1 (app o1 hr))), by simp⟩
  ·
   split
   ·
    rename_i k
    have v1 := fun y hy => (verL_ch (h.ver (by omega)) y hy).2
    have o1 := fun y hy => (nameOk_ch (h.other (.inr k)) y hy).2
    exact ⟨app c3 (app hn (app v1 (app o1 hr))), by simp⟩
   · exact ⟨app c4 (app hn hr), by simp⟩
def nlB : ByteArray := ⟨#[10]⟩
def rowsT (s : ByteArray) : List ByteArray := Lib.splitB nlB 0 (Lib.countB s nlB) s
theorem rows_hit {A R : List UInt8} (h : ∀ y ∈ A, y ≠ 10) : rowsT (wordB (A ++ 10 :: R)) = wordB A :: rowsT (wordB R) := by
 have hi : Lib.indexB (wordB (A ++ 10 :: R)) nlB = (A.length : Nat) := index_byte h
 have e0 : (wordB (A ++ 10 :: R)).extract 0 A.length = wordB A := by rw [wordB_extract]; simp
 have e2 : (wordB (A ++ 10 :: R)).extract (A.length + nlB.size) (wordB (A ++ 10 :: R)).size = wordB R := by
  have hs : nlB.size = 1 := rfl
  rw [hs, wordB_extract, wordB_size]
  congr 1
  rw [List.take_of_length_le (by simp; omega)]
  rw [show A.length + 1 = (A ++ [10]).length by simp, show A ++ 10 :: R = (A ++ [10]) ++ R by simp, List.drop_left]
 unfold rowsT
 rw [Lib.countB_hit _ _ _ (by decide) hi, e2, Nat.add_comm 1, Lib.splitB_hit _ _ _ _ _ hi, e2, Nat.add_zero, e0]
theorem rows_nil : rowsT (wordB []) = [wordB []] := by
 unfold rowsT
 rw [Lib.splitB_miss _ _ _ _ (by decide)]
def All2 {α β : Type} (R : α → β → Prop) : List α → List β → Prop
 | [], [] => True
 | a :: ps, b :: bs => R a b ∧ All2 R ps bs
 | _, _ => False
theorem All2.len {α β : Type} {R : α → β → Prop} : ∀ {ps : List α} {bs : List β}, All2 R ps bs → ps.length = bs.length
 | [], [], _ => rfl
 | a :: ps, b :: bs, h => by simp [All2.len h.2]
 | [], _ :: _, h => h.elim
 | _ :: _, [], h => h.elim
theorem All2.snoc {α β : Type} {R : α → β → Prop} {a : α} {b : β} (hr : R a b) : ∀ {ps : List α} {bs : List β}, All2 R ps bs → All2 R (ps ++ [a]) (bs ++ [b])
 | [], [], _ => ⟨hr, trivial⟩
 | _ :: ps, _ :: bs, h => ⟨h.1, All2.snoc hr h.2⟩
 | [], _ :: _, h => h.elim
 | _ :: _, [], h => h.elim
theorem All2.app {α β : Type} {R : α → β → Prop} : ∀ {ps ps' : List α} {bs : List β}, All2 R (ps ++ ps') bs → ∃ b1 b2, bs = b1 ++ b2 ∧ All2 R ps b1 ∧ All2 R ps' b2
 | [], ps', bs, h => ⟨[], bs, rfl, trivial, h⟩
 | a :: ps, ps', b :: bs, h => by
  obtain ⟨b1, b2, e, h1, h2⟩ := All2.app (ps := ps) h.2
  exact ⟨b :: b1, b2, by rw [e]; rfl, ⟨h.1, h1⟩, h2⟩
 | a :: ps, ps', [], h => h.elim
def LinesR (s : ByteArray) (ls : List LineM) : Prop := All2 LineR ((rowsT s).filter fun p => decide (0 < p.size)) ls
theorem linesR_text : ∀ {ls : List LineM}, (∀ x ∈ ls, LineOk x ∧ Canon x.range ∧ (rangeT x.range).length ≤ 1000) → LinesR (wordB (catT ls)) ls
 | [], _ => by
  unfold LinesR catT
  rw [rows_nil]
  trivial
 | x :: l, h => by
  have ih := linesR_text (fun y hy => h y (List.mem_cons_of_mem _ hy))
  obtain ⟨h1, h2, h3⟩ := h x (List.mem_cons_self ..)
  have hn := lineT_ne h1 h2
  unfold LinesR at ih ⊢
  unfold catT
  rw [rows_hit hn.1, List.filter_cons_of_pos (by rw [decide_eq_true_iff, wordB_size]; exact List.length_pos_iff.2 hn.2)]
  exact ⟨lineR_text h1 h2 h3, ih⟩
theorem all2_same : ∀ {ps : List ByteArray} {a b : List LineM}, All2 LineR ps a → All2 LineR ps b → All2 LineM.same a b
 | [], [], [], _, _ => trivial
 | _ :: _, _ :: _, _ :: _, h, h' => ⟨h.1.one h'.1, all2_same h.2 h'.2⟩
 | [], _ :: _, _, h, _ => h.elim
 | [], [], _ :: _, _, h => h.elim
 | _ :: _, [], _, h, _ => h.elim
 | _ :: _, _ :: _, [], _, h => h.elim
theorem LinesR.one {s : ByteArray} {a b : List LineM} (h : LinesR s a) (h' : LinesR s b) : All2 LineM.same a b := all2_same h h'
end Go.Proofs.YtmlfelbkgoplhaaGreatDoor
namespace Go.Proofs.YtmlfelbkgoplhaaGreatDoor
open Go.RowKit
set_option linter.unusedVariables false
theorem cut_any (s : ByteArray) (w : World) (hs : s.size ≤ 100000) (h : LaidR w) : Calls Tryz.prog 137 #[.string s, .string ⟨#[32]⟩] w fun e w' => (∃ b, e = .returned (.tuple #[.string (cutA s), .string (cutB s), .bool b])) ∧ Below w.heap.size w w' := by
 obtain ⟨m, hm⟩ := h.len
 refine (Any.strings_Cut Tryz.lays145 s ⟨#[32]⟩ m w (by omega) hm).mono ?_
 rintro e w' ⟨rfl, n, rfl⟩
 exact ⟨⟨_, rfl⟩, below_drewN (Below.refl _ _) n⟩
theorem cut_sizes (s : ByteArray) : (cutA s).size ≤ s.size ∧ (cutB s).size ≤ s.size := by
 have e1 : (cutA s).size = (Lib.cut s.data.toList spT).1.length := by show (Lib.cut s.data.toList spT).1.toArray.size = _; simp
 have e2 : (cutB s).size = (Lib.cut s.data.toList spT).2.1.length := by show (Lib.cut s.data.toList spT).2.1.toArray.size = _; simp
 have e3 : s.data.toList.length = s.size := by simp
 rw [e1, e2]
 unfold Lib.cut
 split
 · simp only [List.length_take, List.length_drop]; omega
 · simp only [List.length_nil]; omega
def kindOf (x : ByteArray) : Int := Lib.idxOfS [⟨#[]⟩, pkgT, needT, clashT, rootT] x
theorem idx_any (q : Nat) (x : ByteArray) (w : World) (h : w.heap[q]? = some (.cells #[.string ⟨#[]⟩, .string pkgT, .string needT, .string clashT, .string rootT] 9 (0, 0))) :
 Calls Tryz.prog 138 #[.slice (some ⟨q, 0, none⟩) 5 5, .string x] w fun e w' => e = .returned (.int .i64 (kindOf x)) ∧ w' = w := by
 have := Any.slices_Index_string Tryz.lays109 q 0 5 5 [⟨#[]⟩, pkgT, needT, clashT, rootT] x w (by decide) (by decide) (fun j hj => by
  rw [cell_of_row w q _ _ _ _ h]
  simp only [List.length_cons, List.length_nil] at hj
  obtain rfl | rfl | rfl | rfl | rfl : j = 0 ∨ j = 1 ∨ j = 2 ∨ j = 3 ∨ j = 4 := by omega
  all_goals rfl)
 exact this
theorem kindOf_cases (x : ByteArray) : (x = pkgT ∧ kindOf x = 1) ∨ (x = needT ∧ kindOf x = 2) ∨ (x = clashT ∧ kindOf x = 3) ∨ (x = rootT ∧ kindOf x = 4) ∨ (x ≠ pkgT ∧ x ≠ needT ∧ x ≠ clashT ∧ x ≠ rootT ∧ kindOf x < 1) := by
 by_cases h1 : x = pkgT
 · subst h1; exact .inl ⟨rfl, by decide⟩
 by_cases h2 : x = needT
 · subst h2; exact .inr (.inl ⟨rfl, by decide⟩)
 by_cases h3 : x = clashT
 · subst h3; exact .inr (.inr (.inl ⟨rfl, by decide⟩))
 by_cases h4 : x = rootT
 · subst h4; exact .inr (.inr (.inr (.inl ⟨rfl, by decide⟩)))
 refine .inr (.inr (.inr (.inr ⟨h1, h2, h3, h4, ?_⟩)))
 have n1 : ¬ pkgT = x := fun e => h1 e.symm
 have n2 : ¬ needT = x := fun e => h2 e.symm
 have n3 : ¬ clashT = x := fun e => h3 e.symm
 have n4 : ¬ rootT = x := fun e => h4 e.symm
 unfold kindOf Lib.idxOfS
 by_cases h0 : (⟨#[]⟩ : ByteArray) = x
 · simp [Lib.idxFromS, h0]
 · simp [Lib.idxFromS, h0, n1, n2, n3, n4]
theorem no_word {s : ByteArray} (h1 : cutA s ≠ pkgT) (h2 : cutA s ≠ needT) (h3 : cutA s ≠ clashT) (h4 : cutA s ≠ rootT) (x : LineM) : ¬ LineR s x := by
 rintro ⟨_, ⟨_, w, _⟩ | ⟨⟨_, w⟩ | ⟨_, w⟩, _⟩ | ⟨_, w, _⟩⟩
 · exact h1 w
 · exact h2 w
 · exact h3 w
 · exact h4 w
theorem pkg_only {s : ByteArray} (h : cutA s = pkgT) {x : LineM} (hx : LineR s x) : x.kind = 1 ∧ okVer (cutA (cutB (cutB s))) x.va x.vb x.vc ∧ cutB (cutB (cutB s)) = ByteArray.empty := by
 obtain ⟨_, ⟨k, w, v, r, _⟩ | ⟨⟨_, w⟩ | ⟨_, w⟩, _⟩ | ⟨_, w, _⟩⟩ := hx
 · exact ⟨k, v, r⟩
 · exact absurd (h.symm.trans w) (by decide)
 · exact absurd (h.symm.trans w) (by decide)
 · exact absurd (h.symm.trans w) (by decide)
theorem dep_only {s : ByteArray} (h : cutA s = needT ∨ cutA s = clashT) {x : LineM} (hx : LineR s x) : okVer (cutA (cutB (cutB s))) x.va x.vb x.vc ∧ (cutB (cutB (cutB (cutB s)))).size ≤ 1000 ∧ TextR (cutB (cutB (cutB (cutB s)))) x.range := by
 have e1 : needT ≠ pkgT := by decide
 have e2 : clashT ≠ pkgT := by decide
 have e3 : needT ≠ rootT := by decide
 have e4 : clashT ≠ rootT := by decide
 obtain ⟨_, ⟨k, w, v, r, _⟩ | ⟨_, v, _, r⟩ | ⟨_, w, _⟩⟩ := hx
 ·
  rcases h with h | h
  · exact absurd (h.symm.trans w) e1
  · exact absurd (h.symm.trans w) e2
 · exact ⟨v, r⟩
 ·
  rcases h with h | h
  · exact absurd (h.symm.trans w) e3
  · exact absurd (h.symm.trans w) e4
theorem root_only {s : ByteArray} (h : cutA s = rootT) {x : LineM} (hx : LineR s x) : (cutB (cutB s)).size ≤ 1000 ∧ TextR (cutB (cutB s)) x.range := by
 obtain ⟨_, ⟨k, w, v, r, _⟩ | ⟨⟨_, w⟩ | ⟨_, w⟩, _⟩ | ⟨_, w, _, _, _, _, r⟩⟩ := hx
 · exact absurd (h.symm.trans w) (by decide)
 · exact absurd (h.symm.trans w) (by decide)
 · exact absurd (h.symm.trans w) (by decide)
 · exact r
def LineP (s : ByteArray) (w : World) (e : Ending) (w' : World) : Prop :=
 ((∃ x : LineM, e = .returned (.tuple #[.agg (encLine x).toArray, .nilIface]) ∧ LineR s x ∧ LineIn w' x ∧ (∀ b, x.rv.ownBlock = some b → w.heap.size ≤ b)) ∨
  (∃ (k : Int) (n : ByteArray) (a b c : Int) (o : ByteArray) (va : Option Addr) (vn vc : Nat) (er : Value), e = .returned (.tuple #[.agg #[.int .i64 k, .string n, .int .i64 a, .int .i64 b, .int .i64 c, .string o, .slice va vn vc], er]) ∧ IsErr w' er ∧ ∀ x, ¬ LineR s x)) ∧ Below w.heap.size w w'
theorem err_iface {w : World} {er : Value} (h : IsErr w er) : ∃ t x, er = .iface t x := by
 rcases h with ⟨k, rfl⟩ | ⟨p, k, pl, rfl, _⟩
 · exact ⟨_, _, rfl⟩
 · exact ⟨_, _, rfl⟩
theorem IsErr.below {w w' : World} {er : Value} (h : IsErr w er) (hb : Below w.heap.size w w') : IsErr w' er := by
 rcases h with ⟨k, rfl⟩ | ⟨p, k, pl, rfl, h⟩
 · exact .inl ⟨k, rfl⟩
 · exact .inr ⟨p, k, pl, rfl, (hb.block _ (lt_of_block h)).trans h⟩
end Go.Proofs.YtmlfelbkgoplhaaGreatDoor
namespace Go.Proofs.YtmlfelbkgoplhaaGreatDoor
open Go.RowKit
set_option linter.unusedVariables false
theorem infoLine : (Tryz.prog.info? 77).map (fun i => (i.zero, i.size, i.bytes)) = some (some (.agg #[.int .i64 0, .string ⟨#[]⟩, .int .i64 0, .int .i64 0, .int .i64 0, .string ⟨#[]⟩, .slice none 0 0]), 7, 88) := by kernel_rfl
theorem infoItem : (Tryz.prog.info? 94).map (fun i => (i.zero, i.size, i.bytes)) = some (some (.agg #[.string ⟨#[]⟩, .int .i64 0, .int .i64 0, .int .i64 0]), 4, 40) := by kernel_rfl
theorem under_lines : Tryz.prog.underlying 69 = some (.slice 77) := by kernel_rfl
theorem under_items : Tryz.prog.underlying 90 = some (.slice 94) := by kernel_rfl
theorem encItem_one (x : ItemM) : ∀ u ∈ encItem x, u.oneCell' = true := by
 intro u hu
 simp only [encItem, List.mem_cons, List.not_mem_nil, or_false] at hu
 rcases hu with rfl | rfl | rfl | rfl <;> rfl
theorem sp_one {w : World} {v : Value} {l : List Spn} (h : IsSp w v l) : v.oneCell' = true := by
 rcases h with ⟨rfl, _⟩ | ⟨g, cap, f, rfl, _⟩ <;> rfl
theorem encLine_one {w : World} {x : LineM} (h : LineIn w x) : ∀ u ∈ encLine x, u.oneCell' = true := by
 intro u hu
 simp only [encLine, List.mem_cons, List.not_mem_nil, or_false] at hu
 rcases hu with rfl | rfl | rfl | rfl | rfl | rfl | rfl
 · rfl
 · rfl
 · rfl
 · rfl
 · rfl
 · rfl
 · exact sp_one h.rng
theorem RowG.news {α : Type} {w : World} {base : Nat} {T : TypeId} {z : Nat} {enc : α → List Value} {g n c : Nat} {xs : List α} (h : RowG w base T z enc (.slice (some ⟨g, 0, none⟩) n c) xs) : ∀ (j : Nat) (u : Value), (flatG enc xs)[j]? = some u → w.cell? ((⟨g, 0, none⟩ : Addr).add j) = some u := by
 intro j u hu
 obtain ⟨h0, ⟨h1, h2⟩ | ⟨g', cap, cur, e, h1, h2, h3, h4, h5, h6⟩⟩ := h
 · cases h1
 ·
  cases e
  rw [show (⟨g, 0, none⟩ : Addr).add j = ⟨g, j, none⟩ from by simp [Addr.add]; exact fun h => h.symm, cell_of_row _ _ _ _ _ _ h2]
  have hj : j < xs.length * z := by rw [← h0]; exact (List.getElem?_eq_some_iff.1 hu).1
  rw [← h6, List.getElem?_take_of_lt hj, Array.getElem?_toList] at hu
  exact hu
set_option maxHeartbeats 1000000 in
theorem cloneLine_any (base : Nat) (v : Value) (xs : List LineM) (w : World) (hv : RowG w base 77 7 encLine v xs) (hone : ∀ u ∈ flatG encLine xs, u.oneCell' = true) (hlen : xs.length ≤ 100000) :
 Calls Tryz.prog 70 #[v] w fun e w' => (∃ v', e = .returned v' ∧ RowG w' w.heap.size 77 7 encLine v' xs) ∧ Below w.heap.size w w' := by
 obtain ⟨a, c, rfl, hl, hm⟩ := hv.shape
 have heq := fun (W : World) n c => Lib.run_eql_slice_nil (P := Tryz.prog) W 69 77 a n c 0 0 under_lines
 obtain ⟨i0, hi, hz0, hz1, hz2⟩ := info_parts infoLine
 cases a with
 | none =>
  have e : xs = [] := by
   cases xs with
   | nil => rfl
   | cons x l => obtain ⟨g, h, _⟩ := hv.at (by simp); cases h
  subst e
  clear hv
  go_enter Tryz.func70, Tryz.ntmps70
  go_wp2
  go_ret
  exact ⟨⟨_, rfl, RowG.nil _ _ _ _ _⟩, Below.refl _ _⟩
 | some ad =>
  obtain ⟨g, hg⟩ : ∃ g, ad = ⟨g, 0, none⟩ := by
   obtain ⟨h0, ⟨h1, h2⟩ | ⟨g', cap, cur, e, h1, h2, h3, h4, h5, h6⟩⟩ := hv
   · cases h1
   · cases e; exact ⟨_, rfl⟩
  subst hg
  have hal : Below w.heap.size w (w.alloc (.cells #[] 77)) := (Below.refl _ _).alloc (Nat.le_refl _) _
  have hc := (hv.below hal).news
  have hfl := flatG_len (enc := encLine) (z := 7) (fun x => rfl) xs
  have hone := hone
  have Hc := Lib.hid hc; have Hfl := Lib.hid hfl; have Hone := Lib.hid hone; have Hal := Lib.hid hal
  clear hc hfl hone hal hv
  go_enter Tryz.func70, Tryz.ntmps70
  go_wp2_with (at_builtin; refine wpList_append_own _ rfl _ _ 69 rfl w.heap.size 77 i0 (.agg #[.int .i64 0, .string ⟨#[]⟩, .int .i64 0, .int .i64 0, .int .i64 0, .string ⟨#[]⟩, .slice none 0 0]) 7 88 under_lines hi hz0 hz1 hz2 rfl (by decide) _ _ _ rfl (World.ownsRow_made w #[] 0 (Nat.le_refl _) (Nat.zero_le _) rfl) ⟨g, 0, none⟩ _ _ (flatG encLine xs) rfl Hfl.out Hc.out Hone.out (by simp only [maxLen]; omega) (by omega) (by simp) ?_; intro v' w1 hown hgrow _; have Hown := Lib.hid hown; have Hgrow := Lib.hid hgrow; clear hown hgrow)
  go_ret
  have hb : Below w.heap.size w w1 := Hal.out.grown Hgrow.out (by simp) (fun k hk => by cases hk; exact Nat.le_refl _)
  refine ⟨⟨v', rfl, ?_⟩, hb⟩
  have := Hown.out
  rw [Nat.zero_add, List.nil_append] at this
  exact this
set_option maxHeartbeats 1000000 in
theorem cloneItem_any (base : Nat) (v : Value) (xs : List ItemM) (w : World) (hv : RowG w base 94 4 encItem v xs) (hlen : xs.length ≤ 100000) :
 Calls Tryz.prog 87 #[v] w fun e w' => (∃ v', e = .returned v' ∧ RowG w' w.heap.size 94 4 encItem v' xs) ∧ Below w.heap.size w w' := by
 obtain ⟨a, c, rfl, hl, hm⟩ := hv.shape
 have heq := fun (W : World) n c => Lib.run_eql_slice_nil (P := Tryz.prog) W 90 94 a n c 0 0 under_items
 obtain ⟨i0, hi, hz0, hz1, hz2⟩ := info_parts infoItem
 cases a with
 | none =>
  have e : xs = [] := by
   cases xs with
   | nil => rfl
   | cons x l => obtain ⟨g, h, _⟩ := hv.at (by simp); cases h
  subst e
  clear hv
  go_enter Tryz.func87, Tryz.ntmps87
  go_wp2
  go_ret
  exact ⟨⟨_, rfl, RowG.nil _ _ _ _ _⟩, Below.refl _ _⟩
 | some ad =>
  obtain ⟨g, hg⟩ : ∃ g, ad = ⟨g, 0, none⟩ := by
   obtain ⟨h0, ⟨h1, h2⟩ | ⟨g', cap, cur, e, h1, h2, h3, h4, h5, h6⟩⟩ := hv
   · cases h1
   · cases e; exact ⟨_, rfl⟩
  subst hg
  have hal : Below w.heap.size w (w.alloc (.cells #[] 94)) := (Below.refl _ _).alloc (Nat.le_refl _) _
  have hc := (hv.below hal).news
  have hfl := flatG_len (enc := encItem) (z := 4) (fun x => rfl) xs
  have hone : ∀ u ∈ flatG encItem xs, u.oneCell' = true := fun u hu => by
   unfold flatG at hu
   obtain ⟨x, _, hx⟩ := List.mem_flatMap.1 hu
   exact encItem_one x u hx
  have Hc := Lib.hid hc; have Hfl := Lib.hid hfl; have Hone := Lib.hid hone; have Hal := Lib.hid hal
  clear hc hfl hone hal hv
  go_enter Tryz.func87, Tryz.ntmps87
  go_wp2_with (at_builtin; refine wpList_append_own _ rfl _ _ 90 rfl w.heap.size 94 i0 (.agg #[.string ⟨#[]⟩, .int .i64 0, .int .i64 0, .int .i64 0]) 4 40 under_items hi hz0 hz1 hz2 rfl (by decide) _ _ _ rfl (World.ownsRow_made w #[] 0 (Nat.le_refl _) (Nat.zero_le _) rfl) ⟨g, 0, none⟩ _ _ (flatG encItem xs) rfl Hfl.out Hc.out Hone.out (by simp only [maxLen]; omega) (by omega) (by simp) ?_; intro v' w1 hown hgrow _; have Hown := Lib.hid hown; have Hgrow := Lib.hid hgrow; clear hown hgrow)
  go_ret
  have hb : Below w.heap.size w w1 := Hal.out.grown Hgrow.out (by simp) (fun k hk => by cases hk; exact Nat.le_refl _)
  refine ⟨⟨v', rfl, ?_⟩, hb⟩
  have := Hown.out
  rw [Nat.zero_add, List.nil_append] at this
  exact this
set_option maxHeartbeats 1000000 in
theorem lines_any (p : Nat) (vl vi : Value) (ls : List LineM) (items : List ItemM) (w : World) (h : CatAt w p vl vi ls items) (hn : ls.length ≤ 100000) :
 Calls Tryz.prog 28 #[.pointer (some ⟨p, 0, none⟩)] w fun e w' => (∃ v', e = .returned v' ∧ IsLines w' w.heap.size v' ls) ∧ Below w.heap.size w w' := by
 have hone : ∀ u ∈ flatG encLine ls, u.oneCell' = true := fun u hu => by
  unfold flatG at hu
  obtain ⟨x, hx, hu⟩ := List.mem_flatMap.1 hu
  exact encLine_one (h.lines.ins x hx) u hu
 have hc := cloneLine_any 0 vl ls w h.lines.row hone hn
 obtain ⟨d1, d2, d3, d4⟩ := cellsC h.box
 obtain ⟨a, c, rfl, _⟩ := h.lines.row.shape
 have Hc := Lib.hid hc; have H := Lib.hid h
 clear hc h hone
 go_enter Tryz.func28, Tryz.ntmps28
 go_wp2_with fail
 refine Hc.out.mono ?_
 rintro e w1 ⟨⟨v', rfl, hr⟩, hb⟩
 have Hr := Lib.hid hr; have Hb := Lib.hid hb
 clear hr hb
 go_wp2_with fail
 go_ret
 exact ⟨⟨_, rfl, Hr.out, fun x hx => (H.out.lines.ins x hx).below Hb.out⟩, Hb.out⟩
set_option maxHeartbeats 1000000 in
theorem items_any (p : Nat) (vl vi : Value) (ls : List LineM) (items : List ItemM) (w : World) (h : CatAt w p vl vi ls items) (hn : items.length ≤ 100000) :
 Calls Tryz.prog 39 #[.pointer (some ⟨p, 0, none⟩)] w fun e w' => (∃ v', e = .returned v' ∧ IsItems w' w.heap.size v' items) ∧ Below w.heap.size w w' := by
 have hc := cloneItem_any 0 vi items w h.its hn
 obtain ⟨d1, d2, d3, d4⟩ := cellsC h.box
 obtain ⟨a, c, rfl, _⟩ := RowG.shape h.its
 have Hc := Lib.hid hc
 clear hc h
 go_enter Tryz.func39, Tryz.ntmps39
 go_wp2_with fail
 refine Hc.out.mono ?_
 rintro e w1 ⟨⟨v', rfl, hr⟩, hb⟩
 have Hr := Lib.hid hr; have Hb := Lib.hid hb
 clear hr hb
 go_wp2_with fail
 go_ret
 exact ⟨⟨_, rfl, Hr.out⟩, Hb.out⟩
end Go.Proofs.YtmlfelbkgoplhaaGreatDoor
namespace Go.Proofs.YtmlfelbkgoplhaaGreatDoor
def litB (v : Nat) (x : Int) : Bool := if 0 < x then v.testBit (x.toNat - 1) else decide (x < 0) && !v.testBit ((-x).toNat - 1)
def clB (v : Nat) (c : List Int) : Bool := c.any (litB v)
def allB (v : Nat) (l : List (List Int)) : Bool := l.all (clB v)
theorem getD_at {α : Type} (l : List α) (d : α) {i : Nat} (h : i < l.length) : l.getD i d = l[i] := by simp [h]
def badLit (m : Int) (x : Int) : Bool := decide (x = 0) || decide (m < x) || decide (x < -m)
def Good (m : Int) (l : List (List Int)) : Prop := 0 ≤ m ∧ m ≤ 24 ∧ l.length ≤ 200 ∧ ∀ c ∈ l, c.length ≤ 48 ∧ c.any (badLit m) = false
end Go.Proofs.YtmlfelbkgoplhaaGreatDoor
namespace Go.Proofs.YtmlfelbkgoplhaaGreatDoor
open Go.RowKit
set_option linter.unusedVariables false
def itemAt (items : List ItemM) (i : Nat) : ItemM := items.getD i (ByteArray.empty, 0, 0, 0)
theorem itemAt_get {items : List ItemM} {i : Nat} (h : i < items.length) : itemAt items i = items[i] := by unfold itemAt; simp [h]
def fitI (nm : ByteArray) (r : List Spn) (x : ItemM) : Bool := decide (x.1 = nm) && hasV r x.2.1 x.2.2.1 x.2.2.2
def amongN (n : Nat) (items : List ItemM) (nm : ByteArray) (r : List Spn) : List Nat := (List.range n).filter fun i => fitI nm r (itemAt items i)
def amongM (items : List ItemM) (nm : ByteArray) (r : List Spn) : List Nat := amongN items.length items nm r
theorem amongN_succ (n : Nat) (items : List ItemM) (nm : ByteArray) (r : List Spn) : amongN (n + 1) items nm r = amongN n items nm r ++ if fitI nm r (itemAt items n) = true then [n] else [] := by
 unfold amongN
 rw [List.range_succ, List.filter_append]
 congr 1
 by_cases h : fitI nm r (itemAt items n) = true
 · rw [if_pos h]; exact List.filter_cons_of_pos h
 · rw [if_neg h]; exact List.filter_cons_of_neg h
theorem amongM_lt {items : List ItemM} {nm : ByteArray} {r : List Spn} {i : Nat} (h : i ∈ amongM items nm r) : i < items.length := List.mem_range.1 (List.mem_filter.1 h).1
theorem amongN_len (n : Nat) (items : List ItemM) (nm : ByteArray) (r : List Spn) : (amongN n items nm r).length ≤ n := by
 unfold amongN
 exact Nat.le_trans (List.length_filter_le _ _) (by simp)
def numM (items : List ItemM) (it : ItemM) : Int := if items.any (fun x => decide (x = it)) = true then (items.findIdx (fun x => decide (x = it)) : Nat) else -1
theorem numM_hit {items : List ItemM} {it : ItemM} {k : Nat} (hk : k < items.length) (h : items[k] = it) (hlt : ∀ j, (hj : j < k) → items[j] ≠ it) : numM items it = k := by
 have ha : items.any (fun x => decide (x = it)) = true := List.any_eq_true.2 ⟨it, by rw [← h]; exact List.getElem_mem hk, by simp⟩
 unfold numM
 rw [if_pos ha]
 congr 1
 have h1 := List.findIdx_lt_length_of_exists (xs := items) (p := fun x => decide (x = it)) ⟨it, by rw [← h]; exact List.getElem_mem hk, by simp⟩
 have h2 := List.findIdx_getElem (w := h1)
 rcases Nat.lt_trichotomy (items.findIdx fun x => decide (x = it)) k with q | q | q
 · exact absurd (by simpa using h2) (hlt _ q)
 · exact q
 ·
  have := List.not_of_lt_findIdx (p := fun x => decide (x = it)) (xs := items) q
  simp [h] at this
theorem numM_in {items : List ItemM} {it : ItemM} (h : it ∈ items) : ∃ k : Nat, ∃ hk : k < items.length, numM items it = k ∧ items[k] = it := by
 have ha : items.any (fun x => decide (x = it)) = true := List.any_eq_true.2 ⟨it, h, by simp⟩
 have h1 := List.findIdx_lt_length_of_exists (xs := items) (p := fun x => decide (x = it)) ⟨it, h, by simp⟩
 have h2 := List.findIdx_getElem (w := h1)
 exact ⟨_, h1, by unfold numM; rw [if_pos ha], by simpa using h2⟩
theorem numM_out {items : List ItemM} {it : ItemM} (h : it ∉ items) : numM items it = -1 := by
 unfold numM
 rw [if_neg]
 rw [List.any_eq_true]
 rintro ⟨x, hx, e⟩
 have : x = it := by simpa using e
 exact h (this ▸ hx)
theorem numM_cases (items : List ItemM) (it : ItemM) : (it ∈ items ∧ 0 ≤ numM items it ∧ numM items it < items.length) ∨ (it ∉ items ∧ numM items it = -1) := by
 by_cases h : it ∈ items
 ·
  obtain ⟨k, hk, e, _⟩ := numM_in h
  exact .inl ⟨h, by omega, by omega⟩
 · exact .inr ⟨h, numM_out h⟩
def exclN (i : Nat) (items : List ItemM) (k : Nat) : List (Int × List Int) := ((List.range i).filter fun i => decide ((itemAt items i).1 = (itemAt items k).1)).map fun i : Nat => (-1, [-(i : Int) - 1, -(k : Int) - 1])
theorem exclN_succ (i : Nat) (items : List ItemM) (k : Nat) : exclN (i + 1) items k = exclN i items k ++ if (itemAt items i).1 = (itemAt items k).1 then [(-1, [-(i : Int) - 1, -(k : Int) - 1])] else [] := by
 unfold exclN
 rw [List.range_succ, List.filter_append, List.map_append]
 congr 1
 by_cases h : (itemAt items i).1 = (itemAt items k).1
 · simp [h]
 · simp [h]
def exclR (n : Nat) (items : List ItemM) : List (Int × List Int) := (List.range n).flatMap fun k => exclN k items k
theorem exclR_succ (n : Nat) (items : List ItemM) : exclR (n + 1) items = exclR n items ++ exclN n items n := by
 unfold exclR; rw [List.range_succ, List.flatMap_append]; simp
def lineC (items : List ItemM) (i : Nat) (x : LineM) : List (Int × List Int) :=
 if x.kind = 4 then [((i : Int), (amongM items x.name x.range).map fun k : Nat => (k : Int) + 1)]
 else if x.kind = 2 then [((i : Int), -(numM items x.item + 1) :: (amongM items x.other x.range).map fun k : Nat => (k : Int) + 1)]
 else if x.kind = 3 then (amongM items x.other x.range).map fun k : Nat => ((i : Int), [-(numM items x.item + 1), -(k : Int) - 1])
 else []
def linesC (items : List ItemM) : Nat → List LineM → List (Int × List Int)
 | _, [] => []
 | i, x :: l => lineC items i x ++ linesC items (i + 1) l
theorem linesC_snoc (items : List ItemM) : ∀ (i : Nat) (l : List LineM) (x : LineM), linesC items i (l ++ [x]) = linesC items i l ++ lineC items (i + l.length) x
 | i, [], x => by simp [linesC]
 | i, y :: l, x => by
  have := linesC_snoc items (i + 1) l x
  simp only [List.cons_append, linesC, List.length_cons]
  rw [this, List.append_assoc, show i + 1 + l.length = i + (l.length + 1) by omega]
theorem linesC_take (items : List ItemM) (ls : List LineM) (k : Nat) (h : k < ls.length) : linesC items 0 (ls.take (k + 1)) = linesC items 0 (ls.take k) ++ lineC items k ls[k] := by
 rw [List.take_succ_eq_append_getElem h, linesC_snoc, List.length_take, Nat.zero_add, Nat.min_eq_left (Nat.le_of_lt h)]
def rulesC (ls : List LineM) (items : List ItemM) : List (Int × List Int) := exclR items.length items ++ linesC items 0 ls
def clsOf (rc : List (Int × List Int)) : List (List Int) := rc.map (·.2)
def fromOf (rc : List (Int × List Int)) : List Int := rc.map (·.1)
theorem clsOf_app (a b : List (Int × List Int)) : clsOf (a ++ b) = clsOf a ++ clsOf b := List.map_append
theorem fromOf_app (a b : List (Int × List Int)) : fromOf (a ++ b) = fromOf a ++ fromOf b := List.map_append
def wantC (some : List Bool) (k : Int) : Bool := decide (k < 0) || (decide (k < some.length) && some.getD k.toNat false)
def onlyC (rc : List (Int × List Int)) (some : List Bool) : List (List Int) := (rc.filter fun p => wantC some p.1).map (·.2)
theorem mem_linesC {items : List ItemM} {p : Int × List Int} : ∀ {i : Nat} {l : List LineM}, p ∈ linesC items i l ↔ ∃ k, ∃ h : k < l.length, p ∈ lineC items (i + k) l[k]
 | i, [] => by simp [linesC]
 | i, x :: l => by
  simp only [linesC, List.mem_append]
  rw [mem_linesC (i := i + 1) (l := l)]
  constructor
  ·
   rintro (h | ⟨k, h, h2⟩)
   · exact ⟨0, by simp, h⟩
   · exact ⟨k + 1, by simpa using h, by rw [show i + (k + 1) = i + 1 + k by omega]; simpa using h2⟩
  ·
   rintro ⟨k, h, h2⟩
   cases k with
   | zero => exact .inl h2
   | succ k => exact .inr ⟨k, by simpa using h, by rw [show i + 1 + k = i + (k + 1) by omega]; simpa using h2⟩
theorem lineC_from {items : List ItemM} {i : Nat} {x : LineM} {p : Int × List Int} (h : p ∈ lineC items i x) : p.1 = i := by
 unfold lineC at h
 split at h
 · rw [List.mem_singleton.1 h]
 ·
  split at h
  · rw [List.mem_singleton.1 h]
  ·
   split at h
   · obtain ⟨k, _, rfl⟩ := List.mem_map.1 h; rfl
   · cases h
theorem exclR_from {n : Nat} {items : List ItemM} {p : Int × List Int} (h : p ∈ exclR n items) : p.1 = -1 := by
 unfold exclR at h
 obtain ⟨k, _, h⟩ := List.mem_flatMap.1 h
 unfold exclN at h
 obtain ⟨i, _, rfl⟩ := List.mem_map.1 h
 rfl
theorem rulesC_from {ls : List LineM} {items : List ItemM} {p : Int × List Int} (h : p ∈ rulesC ls items) : p.1 = -1 ∨ (0 ≤ p.1 ∧ p.1 < ls.length) := by
 rcases List.mem_append.1 h with h | h
 · exact .inl (exclR_from h)
 ·
  obtain ⟨k, hk, h⟩ := mem_linesC.1 h
  have := lineC_from h
  right; omega
theorem only_len {rc : List (Int × List Int)} {some : List Bool} : (onlyC rc some).length ≤ (clsOf rc).length := by
 unfold onlyC clsOf
 rw [List.length_map, List.length_map]
 exact List.length_filter_le _ _
theorem rules_bound {ls : List LineM} {items : List ItemM} (ho : CatOk ls items) : ∀ p ∈ rulesC ls items, p.2.length ≤ 25 ∧ ∀ x ∈ p.2, x ≠ 0 ∧ -(items.length : Int) ≤ x ∧ x ≤ items.length := by
 have hn : items.length ≤ 24 := by rw [ho.perm.length_eq]; exact ho.most
 have ham : ∀ nm r, ((amongM items nm r).map fun k : Nat => (k : Int) + 1).length ≤ 24 ∧ ∀ x ∈ (amongM items nm r).map fun k : Nat => (k : Int) + 1, 0 < x ∧ x ≤ items.length := fun nm r => by
  refine ⟨by rw [List.length_map]; exact Nat.le_trans (amongN_len _ _ _ _) hn, fun x hx => ?_⟩
  obtain ⟨k, hk, rfl⟩ := List.mem_map.1 hx
  have := amongM_lt hk
  omega
 have hown : ∀ x ∈ ls, x.kind = 2 ∨ x.kind = 3 → 0 < numM items x.item + 1 ∧ numM items x.item + 1 ≤ items.length := fun x hx hk => by
  obtain ⟨k, hk, e, _⟩ := numM_in (ho.perm.mem_iff.2 (ho.there x hx hk))
  rw [e]; omega
 intro p hp
 rcases List.mem_append.1 hp with hp | hp
 ·
  unfold exclR at hp
  obtain ⟨k, hk, hp⟩ := List.mem_flatMap.1 hp
  have hk := List.mem_range.1 hk
  unfold exclN at hp
  obtain ⟨i, hi, rfl⟩ := List.mem_map.1 hp
  have hi := List.mem_range.1 (List.mem_filter.1 hi).1
  refine ⟨by simp, fun x hx => ?_⟩
  simp only [List.mem_cons, List.not_mem_nil, or_false] at hx
  rcases hx with rfl | rfl <;> omega
 ·
  obtain ⟨k, hk, hp⟩ := mem_linesC.1 hp
  have hx := List.getElem_mem hk
  generalize ls[k] = x at hp hx
  have ho2 := hown x hx
  unfold lineC at hp
  split at hp
  ·
   rw [List.mem_singleton.1 hp]
   exact ⟨Nat.le_trans (ham _ _).1 (by omega), fun y hy => by have := (ham _ _).2 y hy; omega⟩
  ·
   split at hp
   ·
    rename_i h2
    rw [List.mem_singleton.1 hp]
    refine ⟨by simp only [List.length_cons]; have := (ham x.other x.range).1; omega, fun y hy => ?_⟩
    rcases List.mem_cons.1 hy with rfl | hy
    · have := ho2 (.inl h2); omega
    · have := (ham _ _).2 y hy; omega
   ·
    split at hp
    ·
     rename_i h3
     obtain ⟨j, hj, rfl⟩ := List.mem_map.1 hp
     have := amongM_lt hj
     have := ho2 (.inr h3)
     refine ⟨by simp, fun y hy => ?_⟩
     simp only [List.mem_cons, List.not_mem_nil, or_false] at hy
     rcases hy with rfl | rfl <;> omega
    · cases hp
end Go.Proofs.YtmlfelbkgoplhaaGreatDoor
