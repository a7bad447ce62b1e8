import Derived.Test.YtmlfelbkgoplhaaGreatDoorZlLeaW
import Derived.Test.YtmlfelbkgoplhaaGreatDoorZlSpcM
import Derived.Laws.Bits64
set_option linter.unusedVariables false
set_option linter.unusedSimpArgs false
namespace Go.Proofs.YtmlfelbkgoplhaaGreatDoor
open Go.RowKit
theorem zib {w : World} {b : Nat} {α : Type} (enc : α → Value) (h : w.heap[b]? = some (.map #[] 0)) : MapOf w b enc [] :=
 ⟨#[], 0, h, rfl, List.nodup_nil, List.Pairwise.nil, fun e he => by cases he⟩
structure zi3 (w0 wz : World) (bx : Nat) (m : zdn) : Prop where
 blk : wz.heap[bx]? = some (.cells #[.int .i64 m.cost, .int .u64 m.vals, .bool m.ok] 192 (0, 0))
 bel : Below w0.heap.size w0 wz
theorem zi3.behind {w0 w7 : World} {m : zdn} (hb : Below w0.heap.size w0 w7) : zi3 w0 (w7.alloc (.cells #[.int .i64 m.cost, .int .u64 m.vals, .bool m.ok] 192)) w7.heap.size m := ⟨za rfl, hb.alloc hb.size _⟩
theorem zi3.ahead {w0 w7 : World} {p : Nat} {m : zdn} {a b c : Value} (hb : Below w0.heap.size w0 w7) (hp : w0.heap.size ≤ p) (hz : w7.heap[p]? = some (.cells #[a, b, c] 192 (0, 0))) : zi3 w0 (((w7.setCell ⟨p, 0, none⟩ (.int .i64 m.cost)).setCell ⟨p, 1, none⟩ (.int .u64 m.vals)).setCell ⟨p, 2, none⟩ (.bool m.ok)) p m :=
 ⟨zaN hz _ _ _, hb.trans (yc hp _ _ _)⟩
theorem Below.alD2 {w : World} (o o' : Obj) : Below w.heap.size w ((w.alloc o).alloc o').drew := (((Below.refl _ _).alloc (znr _) o).alloc (by simp) o').drew
theorem mpA (w : World) : (w.alloc (.map #[] 0)).drew.heap[w.heap.size]? = some (.map #[] 0) := za (w := w) rfl
theorem mpB (w : World) (o : Obj) : ((w.alloc (.map #[] 0)).alloc o).drew.heap[w.heap.size]? = some (.map #[] 0) := zh (w := w.alloc (.map #[] 0)) (za rfl)
theorem mpC (w : World) (o : Obj) : ((w.alloc o).alloc (.map #[] 0)).drew.heap[w.heap.size + 1]? = some (.map #[] 0) := za (w := w.alloc o) (by simp)
theorem mpD (w : World) (o : Obj) : ((w.alloc o).alloc (.map #[] 0)).drew.heap[w.heap.size]? = some o := zh (w := w.alloc o) (za rfl)
theorem mpE (w : World) (o : Obj) : ((w.alloc (.map #[] 0)).alloc o).drew.heap[w.heap.size + 1]? = some o := za (w := w.alloc (.map #[] 0)) (by simp)
def zka (m : zdn) (w : World) (e : Ending) (w' : World) : Prop :=
 e = .returned (if m.ok then .tuple #[.int .u64 m.vals, .nilIface] else .tuple #[.int .u64 0, .iface 45 (.int .i64 8)]) ∧ Below w.heap.size w w'
set_option maxRecDepth 100000 in
set_option maxHeartbeats 16000000 in
theorem ze9 (q : Nat) (s : Sb) (V : Nat) (st : Sp) (all : Int) (w : World) (hV : V ≤ 24) (hs : IsSpace w s V st) (hq : w.heap[q]? = some (.cells #[.pointer (some ⟨s.ps, 0, none⟩), .int .i64 all] 40 (0, 0))) (so : SOk V st) (hh : zy st.c all = true)
 (cf : Cf) (cap : Array Value) (cost : Int → Bool → Int) (hfair : Fair cost)
 (hcost : ∀ W, Below w.heap.size w W → ∀ (f : Nat) (is : Bool), f < V → Calls Tryz.prog cf.fn (#[.int .i64 f, .bool is] ++ cap) W fun e w' => e = .returned (.int .i64 (cost f is)) ∧ W = w') :
 Calls Tryz.prog 52 #[.pointer (some ⟨q, 0, none⟩), .func (.func cf.fn) #[] cap] w (zka (zC V st.c cost V all) w) := by
 obtain ⟨m, hm⟩ : ∃ m, m = zC V st.c cost V all := ⟨_, rfl⟩
 rw [← hm]
 have HL := hid (show ∀ (W : World) (md : Nat), Below w.heap.size w W → W.heap[md]? = some (.map #[] 0) → w.heap.size ≤ md → Calls Tryz.prog 108 #[.pointer (some ⟨s.ps, 0, none⟩), .int .i64 all, .int .i64 0, .func (.func cf.fn) #[] cap, .map (some md)] W fun e w' => e = .returned (.agg #[.int .i64 m.cost, .int .u64 m.vals, .bool m.ok]) ∧ Only (· = md) W w' from fun W md hW hk hge => by
  have hbo : ∀ W', Only (· = md) W W' → Below w.heap.size w W' := fun W' ho => hW.trans (ho.below hW.size (fun j hj => by have e : j = md := hj; omega))
  have h := zhB cf cap cost hfair s V hV st so md W (fun W' ho => hcost W' (hbo W' ho)) V 0 all W (by omega) ⟨hs.below hW, ⟨[], zib enc2 hk, fun h f x e => by cases e⟩, fun hm => by have := hs.lt hm; omega, by have := hs.lps; omega⟩ (Only.refl _ _) hh (by have := (so.ok.yI all).1; omega)
  rw [← hm] at h
  refine h.mono ?_
  rintro e w' ⟨rfl, _, ho⟩
  exact ⟨rfl, ho⟩)
 have HC := hid (show ∀ W, Below w.heap.size w W → W.cell? ⟨q, 0, none⟩ = some (.pointer (some ⟨s.ps, 0, none⟩)) ∧ W.cell? ⟨q, 1, none⟩ = some (.int .i64 all) from fun W hW => zcY ((hW.block _ (zlb hq)).trans hq))
 have lq := zlb hq
 have HB := hid ((Below.refl w.heap.size w).drew)
 have HBd := hid (fun o => Below.alD (w := w) o)
 have HBe := hid (fun o o' => Below.alD2 (w := w) o o')
 have KS := HC.out _ HB.out
 clear hs hq so hh hfair hcost hm hV
 have hmm := @run_makeMap Tryz.prog
 go_enter Tryz.func52, Tryz.ntmps52
 go_upto_region 3 with fail
 go_region_held3 (fun w' => w'.cell? ⟨q, 0, none⟩ = some (.pointer (some ⟨s.ps, 0, none⟩)) ∧ w'.cell? ⟨q, 1, none⟩ = some (.int .i64 all))
  (first
   | (with_reducible exact KS)
   | (with_reducible exact HC.out _ (HBd.out _))
   | (with_reducible exact HC.out _ (HBe.out _ _))
   | (with_reducible exact HC.out _ (HB.out.alloc HB.out.size _))
   | (with_reducible exact HC.out _ (HB.out.trans (yc (znr _) _ _ _)))
   | (with_reducible exact HC.out _ (HB.out.trans (yc (Nat.le_succ _) _ _ _)))
   | go_keep)
  (first
   | (go_at_call 108; refine (HL.out _ _ (by first | (with_reducible exact HBd.out _) | (with_reducible exact HBe.out _ _)) (by first | exact mpA _ | exact mpB _ _ | exact mpC _ _) (by simp)).mono ?_; rintro e w7 ⟨rfl, ho7⟩; (first | (have hx7 : w7.heap[w.heap.size + 1]? = some (.cells #[.int .i64 0, .int .u64 0, .bool false] 192 (0, 0)) := (ho7.block _ (zlb (mpE _ _)) (by omega)).trans (mpE _ _); obtain ⟨r0, r1, r2⟩ := kJ hx7; obtain ⟨z0, z1, z2⟩ := zL hx7; have hl7 := zlb hx7; have HX7 := hid hx7; clear hx7) | (have hx7 : w7.heap[w.heap.size]? = some (.cells #[.int .i64 0, .int .u64 0, .bool false] 192 (0, 0)) := (ho7.block _ (zlb (mpD _ _)) (by omega)).trans (mpD _ _); obtain ⟨r0, r1, r2⟩ := kJ hx7; obtain ⟨z0, z1, z2⟩ := zL hx7; have hl7 := zlb hx7; have HX7 := hid hx7; clear hx7) | skip); have hB7 : Below w.heap.size w w7 := (by first | exact (HBd.out _).trans (ho7.below (HBd.out _).size (fun j hj => by (have e : j = w.heap.size := hj); omega)) | exact (HBe.out _ _).trans (ho7.below (HBe.out _ _).size (fun j hj => by (have e : j = w.heap.size := hj); omega)) | exact (HBe.out _ _).trans (ho7.below (HBe.out _ _).size (fun j hj => by (have e : j = w.heap.size + 1 := hj); omega))); clear ho7 KS HB; have HB := hid hB7; clear hB7; have KS := HC.out _ HB.out))
 ·
  have hz := zi3.behind (m := m) HB.out
  generalize w7.alloc (.cells #[.int .i64 m.cost, .int .u64 m.vals, .bool m.ok] 192) = wz at hz ⊢
  generalize w7.heap.size = bx at hz ⊢
  clear KS HB
  obtain ⟨k0, k1, k2⟩ := zL hz.blk
  have Hz := hid hz
  clear hz
  cases hok : m.ok with
  | true =>
   rw [hok] at k2
   have Hok := hid hok
   clear hok
   go_wp2_with fail
   go_ret2
   exact ⟨by rw [Hok.out]; rfl, Hz.out.bel⟩
  | false =>
   rw [hok] at k2
   have Hok := hid hok
   clear hok
   go_wp2_with fail
   go_ret2
   exact ⟨by rw [Hok.out]; rfl, Hz.out.bel⟩
 ·
  have hz := zi3.ahead (m := m) HB.out (Nat.le_succ _) HX7.out
  clear r0 r1 r2 z0 z1 z2 hl7
  generalize ((w7.setCell ⟨w.heap.size + 1, 0, none⟩ (.int .i64 m.cost)).setCell ⟨w.heap.size + 1, 1, none⟩ (.int .u64 m.vals)).setCell ⟨w.heap.size + 1, 2, none⟩ (.bool m.ok) = wz at hz ⊢
  clear KS HB
  obtain ⟨k0, k1, k2⟩ := zL hz.blk
  have Hz := hid hz
  clear hz
  cases hok : m.ok with
  | true =>
   rw [hok] at k2
   have Hok := hid hok
   clear hok
   go_wp2_with fail
   go_ret2
   exact ⟨by rw [Hok.out]; rfl, Hz.out.bel⟩
  | false =>
   rw [hok] at k2
   have Hok := hid hok
   clear hok
   go_wp2_with fail
   go_ret2
   exact ⟨by rw [Hok.out]; rfl, Hz.out.bel⟩
 ·
  have hz := zi3.ahead (m := m) HB.out (znr _) HX7.out
  clear r0 r1 r2 z0 z1 z2 hl7
  generalize ((w7.setCell ⟨w.heap.size, 0, none⟩ (.int .i64 m.cost)).setCell ⟨w.heap.size, 1, none⟩ (.int .u64 m.vals)).setCell ⟨w.heap.size, 2, none⟩ (.bool m.ok) = wz at hz ⊢
  clear KS HB
  obtain ⟨k0, k1, k2⟩ := zL hz.blk
  have Hz := hid hz
  clear hz
  cases hok : m.ok with
  | true =>
   rw [hok] at k2
   have Hok := hid hok
   clear hok
   go_wp2_with fail
   go_ret2
   exact ⟨by rw [Hok.out]; rfl, Hz.out.bel⟩
  | false =>
   rw [hok] at k2
   have Hok := hid hok
   clear hok
   go_wp2_with fail
   go_ret2
   exact ⟨by rw [Hok.out]; rfl, Hz.out.bel⟩
def zF (_ : Int) (b : Bool) : Int := if b then 1 else 0
def yj (cs : List Int) (v : Int) (b : Bool) : Int := if b then cs.getD v.toNat 0 else 0
theorem zeJ : Fair zF := ⟨fun v b => by cases b <;> simp [zF], fun v b => by cases b <;> simp [zF]⟩
theorem zgb (x : Nat) : Fair (qb x) := ⟨ziC x, fun v b => by unfold qb; split <;> decide⟩
theorem zfy {cs : List Int} (h : ∀ c ∈ cs, 0 ≤ c ∧ c ≤ 1000000) : Fair (yj cs) := by
 have hg : ∀ j, 0 ≤ cs.getD j 0 ∧ cs.getD j 0 ≤ 1000000 := fun j => by
  rw [List.getD_eq_getElem?_getD]
  cases e : cs[j]? with
  | none => decide
  | some c => exact h c (List.mem_of_getElem? e)
 refine ⟨fun v b => ?_, fun v b => ?_⟩
 · unfold yj; split; exact (hg _).1; omega
 · unfold yj; split; exact (hg _).2; omega
theorem bitN {x : Nat} (hx : x < 18446744073709551616) (k : Nat) : bits .and .u64 ((x : Int) / 2 ^ k) 1 = zF 0 (zU x k) := by
 have e2 : (x : Int) / 2 ^ k = ((x / 2 ^ k : Nat) : Int) := by simp
 rw [e2, show (1 : Int) = ((1 : Nat) : Int) by rfl, bits_and_u64_nat _ _ (Nat.lt_of_le_of_lt (Nat.div_le_self _ _) hx) (by decide)]
 have h3 : x / 2 ^ k &&& 1 = (x / 2 ^ k) % 2 := Nat.and_one_is_mod _
 have h5 : x.testBit k = decide (x / 2 ^ k % 2 = 1) := Nat.testBit_eq_decide_div_mod_eq
 unfold zF zU
 rw [decide_eq_true (show (0 : Int) ≤ (k : Int) by omega), Int.toNat_natCast, Bool.true_and, h3, h5]
 rcases Nat.mod_two_eq_zero_or_one (x / 2 ^ k) with h4 | h4 <;> rw [h4] <;> rfl
theorem bitB {x : Nat} (hx : x < 18446744073709551616) (k : Nat) : (bits .and .u64 ((x : Int) / 2 ^ k) 1 == 1) = zU x k := by
 rw [bitN hx k]
 cases zU x k <;> rfl
theorem ziy (x : Nat) : ∀ n : Nat, 0 ≤ zY zF (zU x) n ∧ zY zF (zU x) n ≤ n
 | 0 => by rw [zY]; decide
 | n + 1 => by
  have := ziy x n
  have h : 0 ≤ zF n (zU x n) ∧ zF n (zU x n) ≤ 1 := by unfold zF; split <;> omega
  rw [zY]
  omega
theorem zh3 {cost : Int → Bool → Int} (hf : Fair cost) (val : Int → Bool) : ∀ n : Nat, 0 ≤ zY cost val n ∧ zY cost val n ≤ n * 1000000
 | 0 => by rw [zY]; decide
 | n + 1 => by
  have := zh3 hf val n
  have h1 := hf.lo n (val n); have h2 := hf.hi n (val n)
  rw [zY]
  omega
theorem zgu (cs : List Int) (val : Int → Bool) {n : Nat} (hn : cs.length ≤ n) : ∀ k, n ≤ k → zY (yj cs) val k = zY (yj cs) val n
 | 0, h => by have : n = 0 := by omega
              rw [this]
 | k + 1, h => by
  rcases Nat.lt_or_ge k n with q | q
  ·
   have : k + 1 = n := by omega
   rw [this]
  ·
   rw [zY, zgu cs val hn k q]
   have : cs.getD (k : Int).toNat 0 = 0 := by rw [Int.toNat_natCast, List.getD_eq_getElem?_getD, List.getElem?_eq_none (by omega)]; rfl
   unfold yj
   rw [this]
   split <;> omega
theorem zdx (x y : Nat) : ∀ n, zY zF (zU (y ^^^ x)) n = zY (qb x) (zU y) n
 | 0 => rfl
 | n + 1 => by
  rw [zY, zY, zdx x y n]
  congr 1
  unfold zF qb zU
  rw [decide_eq_true (show (0 : Int) ≤ (n : Int) by omega), Int.toNat_natCast, Bool.true_and, Bool.true_and, Bool.true_and, Nat.testBit_xor]
  cases x.testBit n <;> cases y.testBit n <;> rfl
theorem zji (W : World) (f : Nat) (is : Bool) : Calls Tryz.prog Cf.least.fn (#[.int .i64 f, .bool is] ++ #[]) W fun e w' => e = .returned (.int .i64 (zF f is)) ∧ W = w' := by
 show Calls Tryz.prog 53 #[.int .i64 f, .bool is] W _
 cases is
 all_goals go_enter Tryz.func53, Tryz.ntmps53
 all_goals go_wp2_with fail
 all_goals go_ret
 all_goals exact ⟨rfl, rfl⟩
theorem zkQ {x : Nat} (hx : x < 18446744073709551616) {p : Nat} {W : World} (hp : W.heap[p]? = some (.cells #[.int .u64 x] 22 (0, 0))) (f : Nat) (hf : f < 64) (is : Bool) : Calls Tryz.prog Cf.near.fn (#[.int .i64 f, .bool is] ++ #[.pointer (some ⟨p, 0, none⟩)]) W fun e w' => e = .returned (.int .i64 (qb x f is)) ∧ W = w' := by
 show Calls Tryz.prog 54 #[.int .i64 f, .bool is, .pointer (some ⟨p, 0, none⟩)] W _
 have hb := bitB hx f
 have c0 := zco hp
 have hv : qb x f is = if zU x f != is then 1 else 0 := rfl
 cases e : zU x f <;> cases is <;> rw [e] at hb hv <;> rw [hv]
 all_goals clear hv hp e hx
 all_goals go_enter Tryz.func54, Tryz.ntmps54
 all_goals go_wp2_with fail
 all_goals go_ret
 all_goals exact ⟨rfl, rfl⟩
theorem zjz {cs : List Int} {v : Value} {p : Nat} {W : World} (hp : W.heap[p]? = some (.cells #[v] 23 (0, 0))) (hv : zD W v cs) (hl : cs.length ≤ 30) (f : Nat) (hf : f < 64) (is : Bool) : Calls Tryz.prog Cf.cheap.fn (#[.int .i64 f, .bool is] ++ #[.pointer (some ⟨p, 0, none⟩)]) W fun e w' => e = .returned (.int .i64 (yj cs f is)) ∧ W = w' := by
 show Calls Tryz.prog 55 #[.int .i64 f, .bool is, .pointer (some ⟨p, 0, none⟩)] W _
 have c0 := zco hp
 obtain ⟨a, b, o, c, rfl, h2, h3, h4, h5, h6, h7⟩ := hv
 cases is with
 | false =>
  rw [show yj cs f false = 0 from rfl]
  clear h2 h3 h4 h5 h6 h7 hp
  go_enter Tryz.func55, Tryz.ntmps55
  go_wp2_with fail
  go_ret
  exact ⟨rfl, rfl⟩
 | true =>
  have hv : yj cs f true = cs.getD f 0 := rfl
  rw [hv]
  rcases Nat.lt_or_ge f cs.length with q | q
  ·
   have hne : cs ≠ [] := by intro e; subst e; simp at q
   obtain rfl := h2 hne
   have c1 := h5 f q
   have hlt : (f : Int) < (cs.length : Int) := by omega
   generalize cs.getD f 0 = x at c1 ⊢
   generalize cs.length = n at *
   clear hv h2 h3 h5 h6 h7 hp hne
   go_enter Tryz.func55, Tryz.ntmps55
   go_wp2_with fail
   go_ret
   exact ⟨rfl, rfl⟩
  ·
   have e : cs.getD f 0 = 0 := by rw [List.getD_eq_getElem?_getD, List.getElem?_eq_none q]; rfl
   rw [e]
   have hlt : ¬ (f : Int) < (cs.length : Int) := by omega
   generalize cs.length = n at *
   clear hv h2 h3 h5 h6 h7 hp e
   go_enter Tryz.func55, Tryz.ntmps55
   go_wp2_with fail
   go_ret
   exact ⟨rfl, rfl⟩
set_option maxHeartbeats 2000000 in
theorem zlX (x V pr : Nat) (hx : x < 18446744073709551616) (hV : V ≤ 24) (W : World) (c0 : W.cell? ⟨pr, 0, none⟩ = some (.int .i64 V)) : Calls Tryz.prog 17 #[.int .u64 x, .pointer (some ⟨pr, 0, none⟩)] W fun e w' => e = .returned (.int .i64 (zY zF (zU x) V)) ∧ W = w' := by
 have HS := hid (ziy x)
 have HN := hid (fun k : Nat => bitN hx k)
 clear hx
 go_enter Tryz.func17, Tryz.ntmps17
 go_wp2_with fail
 go_loopg [4, 5] V (fun gk s i wr => ∃ k : Nat, k ≤ V ∧ gk = V - k ∧ s = .int .i64 (zY zF (zU x) k) ∧ i = .int .i64 k ∧ W = wr)
 case atStart => exact ⟨0, znz _, rfl, rfl, rfl, rfl⟩
 case round =>
  obtain ⟨k, hk, rfl, rfl, rfl, rfl⟩ := hrel
  by_cases hlt : k < V
  ·
   have hi : (k : Int) < (V : Int) := by omega
   have hb := HN.out k
   have hs1 := HS.out k
   have hs2 := HS.out (k + 1)
   rw [zY] at hs2
   have es : zY zF (zU x) (k + 1) = zY zF (zU x) k + zF 0 (zU x k) := rfl
   have hw0 : IntKind.i64.wrap (zF 0 (zU x k)) = zF 0 (zU x k) := IntWalk.i64_in _ (by unfold zF; split <;> omega)
   have hw1 : IntKind.i64.wrap (zY zF (zU x) k + zF 0 (zU x k)) = zY zF (zU x) k + zF 0 (zU x k) := IntWalk.i64_in _ (by have : zF 0 (zU x k) = zF k (zU x k) := rfl; omega)
   have Hes := hid es
   clear es hs1 hs2
   go_wp2_with fail
   go_roundg (V - (k + 1))
   case measure => omega
   case rel => exact ⟨k + 1, by omega, rfl, by rw [Hes.out], by go_num, rfl⟩
  ·
   obtain rfl : k = V := by omega
   go_wp2_with fail
   go_ret
   exact ⟨rfl, rfl⟩
set_option maxHeartbeats 4000000 in
theorem zkx (x V pr pc : Nat) (cs : List Int) (v : Value) (hx : x < 18446744073709551616) (hV : V ≤ 24) (hl : cs.length ≤ 30) (hf : Fair (yj cs)) (W : World) (hW : ∀ wr, Below W.heap.size W wr → wr.cell? ⟨pr, 0, none⟩ = some (.int .i64 V) ∧ wr.cell? ⟨pc, 0, none⟩ = some v ∧ zD wr v cs) : Calls Tryz.prog 18 #[.int .u64 x, .pointer (some ⟨pr, 0, none⟩), .pointer (some ⟨pc, 0, none⟩)] W fun e w' => e = .returned (.int .i64 (zY (yj cs) (zU x) V)) ∧ Below W.heap.size W w' := by
 have HS := hid (zh3 hf (zU x))
 have HN := hid (fun k : Nat => bitN hx k)
 have HZ := hid (zgu cs (zU x) (znr _) V)
 have HF := hid hf
 have HW := hid hW
 clear hx hf hW
 obtain ⟨L, hL⟩ : ∃ L, L = cs.length := ⟨_, rfl⟩
 have HL := hid hL
 go_enter Tryz.func18, Tryz.ntmps18
 go_wp2_with fail
 go_loopg [5, 6] V (fun gk s i wr => ∃ k : Nat, k ≤ V ∧ k ≤ L ∧ gk = V - k ∧ s = .int .i64 (zY (yj cs) (zU x) k) ∧ i = .int .i64 k ∧ Below W.heap.size W wr)
 case atStart => exact ⟨0, znz _, znz _, rfl, rfl, rfl, Below.refl _ _⟩
 case round =>
  obtain ⟨k, hk, hkL, rfl, rfl, rfl, hbw⟩ := hrel
  obtain ⟨k0, k1, hint⟩ := HW.out wr hbw
  obtain ⟨a, b, o, c, rfl, h2, h3, h4, h5, h6, h7⟩ := hint
  rw [← hL] at k1 h3 h7
  have Hbw := hid hbw
  clear hbw
  by_cases hlt : k < V
  ·
   have hi : (k : Int) < (V : Int) := by omega
   by_cases hlt2 : k < L
   ·
    have hi2 : (k : Int) < (L : Int) := by omega
    have hne : cs ≠ [] := by intro e; subst e; simp at hL; omega
    obtain rfl := h2 hne
    have c1 := h5 k (by omega)
    have hb := HN.out k
    have hs1 := HS.out k
    have hs2 := HS.out (k + 1)
    have es : zY (yj cs) (zU x) (k + 1) = zY (yj cs) (zU x) k + cs.getD k 0 * zF 0 (zU x k) := by
     rw [zY]
     congr 1
     unfold yj zF
     rw [Int.toNat_natCast]
     split <;> omega
    have hc1 := HF.out.lo k true; have hc2 := HF.out.hi k true
    have ec : yj cs k true = cs.getD k 0 := rfl
    rw [ec] at hc1 hc2
    rw [es] at hs2
    have hw0 : IntKind.i64.wrap (zF 0 (zU x k)) = zF 0 (zU x k) := IntWalk.i64_in _ (by unfold zF; split <;> omega)
    have hm : 0 ≤ cs.getD k 0 * zF 0 (zU x k) ∧ cs.getD k 0 * zF 0 (zU x k) ≤ 1000000 := by unfold zF; split <;> omega
    have hw1 : IntKind.i64.wrap (cs.getD k 0 * zF 0 (zU x k)) = cs.getD k 0 * zF 0 (zU x k) := IntWalk.i64_in _ (by omega)
    have hw2 : IntKind.i64.wrap (zY (yj cs) (zU x) k + cs.getD k 0 * zF 0 (zU x k)) = zY (yj cs) (zU x) k + cs.getD k 0 * zF 0 (zU x k) := IntWalk.i64_in _ (by omega)
    have Hes := hid es
    have hcut : L ≤ 30 := by omega
    clear es hs1 hs2 hm hc1 hc2 ec h5 h6 h2 hne hL
    generalize cs.getD k 0 = y at c1 Hes hw0 hw1 hw2
    go_upto_region 5 with fail
    go_quiet (fail)
    go_wp2_with fail
    go_roundg (V - (k + 1))
    case measure => omega
    case rel => exact ⟨k + 1, by omega, by omega, rfl, by rw [Hes.out], by go_num, below_drewN Hbw.out nq⟩
   ·
    obtain rfl : k = L := by omega
    have hi2 : ¬ (k : Int) < (k : Int) := by omega
    clear h2 h5 h6
    go_wp2_with fail
    go_ret
    exact ⟨by rw [HZ.out (by omega), ← HL.out]; rfl, Hbw.out⟩
  ·
   obtain rfl : k = V := by omega
   clear h2 h5 h6
   go_wp2_with fail
   go_ret
   exact ⟨rfl, Hbw.out⟩
def zoq (cs : List Int) (m : zdn) (w : World) (e : Ending) (w' : World) : Prop :=
 (zka m w e w' ∧ (∀ c ∈ cs, 0 ≤ c ∧ c ≤ 1000000)) ∨ (e = .returned (.tuple #[.int .u64 0, .iface 45 (.int .i64 2)]) ∧ Below w.heap.size w w')
section
variable (q : Nat) (s : Sb) (V : Nat) (st : Sp) (all : Int) (w : World) (hV : V ≤ 24) (hs : IsSpace w s V st) (hq : w.heap[q]? = some (.cells #[.pointer (some ⟨s.ps, 0, none⟩), .int .i64 all] 40 (0, 0))) (so : SOk V st) (hh : zy st.c all = true)
include hV hs hq so hh
set_option maxHeartbeats 2000000 in
theorem zlm : Calls Tryz.prog 13 #[.pointer (some ⟨q, 0, none⟩)] w (zka (zC V st.c zF V all) w) := by
 have HF := hid (ze9 q s V st all w hV hs hq so hh Cf.least #[] zF zeJ (fun W _ f is _ => zji W f is))
 clear hs hq so hh hV
 generalize zC V st.c zF V all = m at HF ⊢
 obtain ⟨mc, mv, ok⟩ := m
 go_enter Tryz.func13, Tryz.ntmps13
 go_wp2_with fail
 refine HF.out.mono ?_
 rintro e w2 ⟨rfl, hb⟩
 have Hb := hid hb
 clear hb HF
 cases ok
 all_goals (simp only [if_true, Bool.false_eq_true, if_false]; go_wp2_with fail; go_ret2; exact ⟨rfl, Hb.out⟩)
set_option maxHeartbeats 2000000 in
theorem zmr (x : Nat) (hx : x < 18446744073709551616) : Calls Tryz.prog 14 #[.pointer (some ⟨q, 0, none⟩), .int .u64 x] w (zka (zC V st.c (qb x) V all) w) := by
 obtain ⟨w1, hw1⟩ : ∃ w1, w1 = w.alloc (.cells #[.int .u64 x] 22) := ⟨_, rfl⟩
 have hb1 : Below w.heap.size w w1 := by rw [hw1]; exact zba
 have hk1 : w1.heap[w.heap.size]? = some (.cells #[.int .u64 x] 22 (0, 0)) := by rw [hw1]; exact za rfl
 have HF := hid (ze9 q s V st all w1 hV (hs.below hb1) ((hb1.block _ (zlb hq)).trans hq) so hh Cf.near #[.pointer (some ⟨w.heap.size, 0, none⟩)] (qb x) (zgb x) (fun W hW f is hf => zkQ hx ((hW.block _ (zlb hk1)).trans hk1) f (by omega) is))
 have Hb1 := hid hb1
 clear hs hq so hh hV hb1 hk1 hx
 generalize zC V st.c (qb x) V all = m at HF ⊢
 obtain ⟨mc, mv, ok⟩ := m
 go_enter Tryz.func14, Tryz.ntmps14
 go_upto_region 1 with fail
 rw [← hw1]
 clear hw1
 go_wp2_with fail
 refine HF.out.mono ?_
 rintro e w2 ⟨rfl, hb⟩
 have Hb := hid (Hb1.out.trans (hb.mono Hb1.out.size))
 clear hb HF
 cases ok
 all_goals (simp only [if_true, Bool.false_eq_true, if_false]; go_wp2_with fail; go_ret2; exact ⟨rfl, Hb.out⟩)
set_option maxHeartbeats 4000000 in
theorem zkU (v : Value) (cs : List Int) (hv : zD w v cs) (hl : cs.length ≤ 30) : Calls Tryz.prog 15 #[.pointer (some ⟨q, 0, none⟩), v] w (zoq cs (zC V st.c (yj cs) V all) w) := by
 obtain ⟨w1, hw1⟩ : ∃ w1, w1 = w.alloc (.cells #[v] 23) := ⟨_, rfl⟩
 have hb1 : Below w.heap.size w w1 := by rw [hw1]; exact zba
 have hk1 : w1.heap[w.heap.size]? = some (.cells #[v] 23 (0, 0)) := by rw [hw1]; exact za rfl
 have hv1 := hv.below hb1
 have HF := hid (fun hr : ∀ c ∈ cs, 0 ≤ c ∧ c ≤ 1000000 => ze9 q s V st all w1 hV (hs.below hb1) ((hb1.block _ (zlb hq)).trans hq) so hh Cf.cheap #[.pointer (some ⟨w.heap.size, 0, none⟩)] (yj cs) (zfy hr) (fun W hW f is hf => zjz ((hW.block _ (zlb hk1)).trans hk1) (hv1.below hW) hl f (by omega) is))
 have Hb1 := hid hb1
 have c0 := zco hk1
 clear hs hq so hh hV hb1 hk1 hv
 generalize zC V st.c (yj cs) V all = m at HF ⊢
 obtain ⟨mc, mv, ok⟩ := m
 obtain ⟨a, b, o, c, rfl, h2, h3, h4, h5, h6, h7⟩ := hv1
 obtain ⟨L, hL⟩ : ∃ L, L = cs.length := ⟨_, rfl⟩
 have H5 := hid h5; have H2 := hid h2; have HL := hid hL
 rw [← hL] at c0 h3 h7 hl hw1 ⊢
 clear h2 h5 h6 hL
 go_enter Tryz.func15, Tryz.ntmps15
 go_upto_region 1 with fail
 rw [← hw1]
 clear hw1
 go_wp2_with fail
 go_loopg [7, 10] L (fun gk x i wr => ∃ k : Nat, k ≤ L ∧ gk = L - k ∧ i = .int .i64 k ∧ w1 = wr ∧ ∀ j < k, 0 ≤ cs.getD j 0 ∧ cs.getD j 0 ≤ 1000000)
 case atStart => exact ⟨0, znz _, rfl, rfl, rfl, fun j hj => absurd hj (Nat.not_lt_zero _)⟩
 case round =>
  obtain ⟨k, hk, rfl, rfl, rfl, hr⟩ := hrel
  have Hr := hid hr
  clear hr
  by_cases hlt : k < L
  ·
   have hi : (k : Int) < (L : Int) := by omega
   have hne : cs ≠ [] := by intro e; have := HL.out; rw [e] at this; simp at this; omega
   obtain rfl := H2.out hne
   have c1 := H5.out k (by have := HL.out; omega)
   obtain ⟨y, hy⟩ : ∃ y, y = cs.getD k 0 := ⟨_, rfl⟩
   rw [← hy] at c1
   have Hy := hid hy
   clear hne hy
   by_cases h0 : y < 0
   ·
    have t0 : decide (y < 0) = true := decide_eq_true h0
    go_wp2_with fail
    go_ret2
    exact .inr ⟨rfl, Hb1.out⟩
   ·
    have t0 : decide (y < 0) = false := decide_eq_false h0
    by_cases h1 : 1000000 < y
    ·
     have t1 : decide (1000000 < y) = true := decide_eq_true h1
     go_wp2_with fail
     go_ret2
     exact .inr ⟨rfl, Hb1.out⟩
    ·
     have t1 : decide (1000000 < y) = false := decide_eq_false h1
     go_wp2_with fail
     go_roundg (L - (k + 1))
     case measure => omega
     case rel => exact ⟨k + 1, by omega, rfl, by go_num, rfl, fun j hj => by
      rcases Nat.lt_or_ge j k with q | q
      · exact Hr.out j q
      ·
       obtain rfl : j = k := by omega
       rw [← Hy.out]
       omega⟩
  ·
   obtain rfl : k = L := by omega
   have hall : ∀ c ∈ cs, 0 ≤ c ∧ c ≤ 1000000 := fun c hc => by
    obtain ⟨j, hj, rfl⟩ := List.getElem_of_mem hc
    have h := Hr.out j (by have := HL.out; omega)
    rw [List.getD_eq_getElem?_getD, List.getElem?_eq_getElem hj] at h
    exact h
   have HC := hid (HF.out hall); have Hall := hid hall
   clear hall HF
   go_wp2_with fail
   refine HC.out.mono ?_
   rintro e w2 ⟨rfl, hb⟩
   have Hb := hid (Hb1.out.trans (hb.mono Hb1.out.size))
   clear hb HC
   cases ok
   all_goals (simp only [if_true, Bool.false_eq_true, if_false]; go_wp2_with fail; go_ret2; exact .inl ⟨⟨rfl, Hb.out⟩, Hall.out⟩)
end
theorem zou : ∀ M < 25, IntKind.u64.wrap (IntKind.u64.wrap ((2 : Int) ^ M) - 1) = ((2 ^ M - 1 : Nat) : Int) ∧ 2 ^ M - 1 < 16777216 := by decide
theorem zm5 (x M : Nat) (hx : x < 18446744073709551616) (hM : M ≤ 24) : bits BinOp.and IntKind.u64 (x : Int) (IntKind.u64.wrap (IntKind.u64.wrap (2 ^ M) - 1)) = ((x &&& (2 ^ M - 1) : Nat) : Int) ∧ x &&& (2 ^ M - 1) < 2 ^ M := by
 obtain ⟨h1, h2⟩ := zou M (by omega)
 refine ⟨by rw [h1, bits_and_u64_nat _ _ hx (by omega)], ?_⟩
 have := Nat.and_le_right (n := x) (m := 2 ^ M - 1)
 have : 0 < 2 ^ M := Nat.two_pow_pos M
 omega
structure LeaOk (V : Nat) (x n : Nat) (B : Bool) (mL mN mB : zdn) : Prop where
 eq : mL.ok = mN.ok
 okL : B = true → mL.ok = true
 okB : B = true → mB.ok = true ∧ mB.vals = n
 le1 : B = true → zY zF (zU mL.vals) V ≤ zY zF (zU n) V
 le2 : B = true → zY zF (zU (mN.vals ^^^ x)) V ≤ zY zF (zU (n ^^^ x)) V
 bL : mL.vals < 16777216
 bN : mN.vals < 16777216
theorem leaOk {V : Nat} (hV : V ≤ 24) {st : Sp} (so : SOk V st) {all : Int} (hh : zy st.c all = true) (x : Nat) {n : Nat} (hn : n < 2 ^ V) :
 LeaOk V x n (den st.c all (zU n)) (zC V st.c zF V all) (zC V st.c (qb x) V all) (zC V st.c (qb n) V all) := by
 have hp : 2 ^ V ≤ 16777216 := Nat.pow_le_pow_right (n := 2) (j := 24) (by decide) hV
 refine ⟨?_, fun h => (jy hV so hh zF h).1, fun h => ⟨(jy hV so hh (qb n) h).1, zl0 hV so hh h hn⟩, fun h => (jy hV so hh zF h).2, fun h => ?_, Nat.lt_of_lt_of_le (qy hV zeJ V all (znr _)).2.2 hp, Nat.lt_of_lt_of_le (qy hV (zgb x) V all (znr _)).2.2 hp⟩
 ·
  have h1 := zfj hV so hh zF
  have h2 := zfj hV so hh (qb x)
  rw [Bool.eq_iff_iff]
  exact h1.trans h2.symm
 ·
  rw [zdx, zdx]
  exact (jy hV so hh (qb x) h).2
theorem zmF {V : Nat} (hV : V ≤ 24) {st : Sp} (so : SOk V st) {all : Int} (hh : zy st.c all = true) {cs : List Int} (hf : Fair (yj cs)) {n : Nat} (h : den st.c all (zU n) = true) :
 (zC V st.c (yj cs) V all).ok = true ∧ zY (yj cs) (zU (zC V st.c (yj cs) V all).vals) V ≤ zY (yj cs) (zU n) V ∧ (zC V st.c (yj cs) V all).vals < 16777216 :=
 have hp : 2 ^ V ≤ 16777216 := Nat.pow_le_pow_right (n := 2) (j := 24) (by decide) hV
 ⟨(jy hV so hh (yj cs) h).1, (jy hV so hh (yj cs) h).2, Nat.lt_of_lt_of_le (qy hV hf V all (znr _)).2.2 hp⟩
theorem zos {V R : Nat} {l : List (List Int)} {st : Sp} {all : Int} (hi : zhk V R l st all) (hV : V ≤ 24) (hz : ∀ c ∈ l, ∀ x ∈ c, x ≠ 0 ∧ -(V : Int) ≤ x ∧ x ≤ V) {n : Nat} (hn : n < 18446744073709551616) : den st.c all (zcb (n : Int)) = den st.c all (zU n) := by
 rw [hi.den, hi.den]
 exact zlI hz fun u h0 h1 => ziO hn h0 (by omega)
