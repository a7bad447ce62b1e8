/- The closures of a walk over two families: where they lie; the memo; what a step leaves; what it costs; contracts: the five functions that tell where it is known. (Printed by gen_fame.py.) -/
import Derived.Test.YtmlnfbageoabnaaStore
import Derived.Laws.EntriesVeiled
namespace Go.Proofs.Ytmlnfbageoabnaa
open Go.RowKit
set_option linter.unusedVariables false

def Kd.efn : Kd → Nat
  | .or => 107
  | .and => 88
  | .less => 109
  | .join => 93
  | .free => 111
def Kd.mfn : Kd → Nat
  | .or => 108
  | .and => 89
  | .less => 110
  | .join => 94
  | .free => 112

@[go_sem] theorem call_efn (k : Kd) (args : Array Value) (w : World) : Sem.run Try.prog (callFunc k.efn args) w = .ok (.enter k.efn args) w := by
  cases k
  · exact Try.call107 args w
  · exact Try.call88 args w
  · exact Try.call109 args w
  · exact Try.call93 args w
  · exact Try.call111 args w
@[go_sem] theorem call_mfn (k : Kd) (args : Array Value) (w : World) : Sem.run Try.prog (callFunc k.mfn args) w = .ok (.enter k.mfn args) w := by
  cases k
  · exact Try.call108 args w
  · exact Try.call89 args w
  · exact Try.call110 args w
  · exact Try.call94 args w
  · exact Try.call112 args w

/-! ### Keys of the memo -/
def enc2 (k : Int × Int) : Value := .agg #[.int .i64 k.1, .int .i64 k.2]
theorem equal2 (a b a' b' : Int) (w : World) : (Op.equalIn 10000 115 (.agg #[.int .i64 a, .int .i64 b]) (.agg #[.int .i64 a', .int .i64 b'])).run Try.prog w = .ok (decide ((a, b) = (a', b'))) w := by
  have u3 := Try.underlying3
  have a3 := Try.isAgg3
  have z3 := Try.sizeOf3
  rw [show (10000 : Nat) = 9999 + 1 from rfl, Op.equalIn]
  simp only [Sem.run_bind, run_underlying Try.underlying115, Result.andThen_ok]
  simp only [Std.Legacy.Range.forIn_eq_forIn_range', Std.Legacy.Range.size, Nat.sub_zero, Nat.add_sub_cancel, Nat.div_one, List.range'_succ, List.range'_zero, List.forIn_cons, List.forIn_nil]
  go_simp
  by_cases h1 : a = a' <;> by_cases h2 : b = b' <;> simp [h1, h2]
theorem check2 (n : Nat) (b : Bool) (x y : Int) (w : World) : (Instr.checkKey b (n + 1 + 1) 115 (.agg #[.int .i64 x, .int .i64 y])).run Try.prog w = .ok () w := by
  have u3 := Try.underlying3
  have a3 := Try.isAgg3
  have z3 := Try.sizeOf3
  have k3 := fun x w => checkKey_int (P := Try.prog) u3 n b x w
  rw [Instr.checkKey]
  simp only [Sem.run_bind, run_underlying Try.underlying115, Result.andThen_ok]
  simp only [Std.Legacy.Range.forIn_eq_forIn_range', Std.Legacy.Range.size, Nat.sub_zero, Nat.add_sub_cancel, Nat.div_one, List.range'_succ, List.range'_zero, List.forIn_cons, List.forIn_nil]
  go_simp
theorem key2 : KeyTy Try.prog 115 enc2 :=
  askKey _ Try.underlying115 (fun a b => by cases a <;> cases b <;> rfl) (fun x y w => by
    obtain ⟨a, b⟩ := x
    obtain ⟨a', b'⟩ := y
    exact equal2 a b a' b' w) (fun b n w => check2 9998 b n.1 n.2 w) (fun n => by simp [enc2, Instr.sameBits])

/-! ### In memory -/
/-- What a walk may turn. -/
def famMem (s : Fb) (md : Nat) (k : Nat) : Prop := s.b.mem k ∨ k = md
/-- Where the closures lie: ends, the memo's variable, the store's, mix, again, and the store's that mix has. -/
structure Cb where
  e : Nat
  d : Nat
  s : Nat
  m : Nat
  a : Nat
  s2 : Nat
def againV (q : Cb) : Value := .func (.func 106) #[] #[.pointer (some ⟨q.e, 0, none⟩), .pointer (some ⟨q.d, 0, none⟩), .pointer (some ⟨q.s, 0, none⟩), .pointer (some ⟨q.m, 0, none⟩), .pointer (some ⟨q.a, 0, none⟩)]
structure Env (w : World) (k : Kd) (s : Fb) (md : Nat) (q : Cb) : Prop where
  he : w.heap[q.e]? = some (.cells #[.func (.func k.efn) #[] #[]] 113 (0, 0))
  hd : w.heap[q.d]? = some (.cells #[.map (some md)] 130 (0, 0))
  hst : w.heap[q.s]? = some (.cells #[.pointer (some ⟨s.ps, 0, none⟩)] 77 (0, 0))
  hm : w.heap[q.m]? = some (.cells #[.func (.func k.mfn) #[] #[.pointer (some ⟨q.s2, 0, none⟩)]] 114 (0, 0))
  ha : w.heap[q.a]? = some (.cells #[againV q] 52 (0, 0))
  hs2 : w.heap[q.s2]? = some (.cells #[.pointer (some ⟨s.ps, 0, none⟩)] 77 (0, 0))
  off : ¬ famMem s md q.e ∧ ¬ famMem s md q.d ∧ ¬ famMem s md q.s ∧ ¬ famMem s md q.m ∧ ¬ famMem s md q.a ∧ ¬ famMem s md q.s2
  md : ¬ s.b.mem md ∧ s.ps ≠ md
section
variable {w w2 : World} {k : Kd} {s : Fb} {md : Nat} {q : Cb}
theorem Env.only (h : Env w k s md q) (ho : Only (famMem s md) w w2) : Env w2 k s md q := by
  have key : ∀ {b : Nat} {o : Obj}, w.heap[b]? = some o → ¬ famMem s md b → w2.heap[b]? = some o := fun {b o} e hn => (ho.block b (Array.getElem?_eq_some_iff.1 e).1 hn).trans e
  exact ⟨key h.he h.off.1, key h.hd h.off.2.1, key h.hst h.off.2.2.1, key h.hm h.off.2.2.2.1, key h.ha h.off.2.2.2.2.1, key h.hs2 h.off.2.2.2.2.2, h.off, h.md⟩
theorem Env.below (h : Env w k s md q) (hb : Below w.heap.size w w2) : Env w2 k s md q := h.only (Only.of_below hb rfl)
theorem Env.ce (h : Env w k s md q) : w.cell? ⟨q.e, 0, none⟩ = some (.func (.func k.efn) #[] #[]) := cell_of_one h.he
theorem Env.cd (h : Env w k s md q) : w.cell? ⟨q.d, 0, none⟩ = some (.map (some md)) := cell_of_one h.hd
theorem Env.cs (h : Env w k s md q) : w.cell? ⟨q.s, 0, none⟩ = some (.pointer (some ⟨s.ps, 0, none⟩)) := cell_of_one h.hst
theorem Env.cm (h : Env w k s md q) : w.cell? ⟨q.m, 0, none⟩ = some (.func (.func k.mfn) #[] #[.pointer (some ⟨q.s2, 0, none⟩)]) := cell_of_one h.hm
theorem Env.ca (h : Env w k s md q) : w.cell? ⟨q.a, 0, none⟩ = some (againV q) := cell_of_one h.ha
theorem Env.cs2 (h : Env w k s md q) : w.cell? ⟨q.s2, 0, none⟩ = some (.pointer (some ⟨s.ps, 0, none⟩)) := cell_of_one h.hs2
theorem famMem_sub (s : Fb) (md : Nat) : ∀ k, s.b.mem k → famMem s md k := fun k hk => .inl hk
end

/-- What a handle is good for that a step has made. -/
structure FGood (k : Kd) (c : Cells) (a b x : Int) : Prop where
  ha : hasM c a = true
  hb : hasM c b = true
  hx : hasM c x = true
  z : ∀ s, Z c x s ↔ k.sem (Z c a) (Z c b) s
  top : min (topM c a) (topM c b) ≤ topM c x
theorem FGood.ext {k : Kd} {c c' : Cells} {a b x : Int} (g : FGood k c a b x) (o : Ok c) (o' : Ok c') (e : Ext c c') : FGood k c' a b x :=
  ⟨e.has g.ha, e.has g.hb, e.has g.hx, fun s => (Z_ext o o' e x g.hx s).trans ((g.z s).trans (k.sem_congr (fun s => (Z_ext o o' e a g.ha s).symm) (fun s => (Z_ext o o' e b g.hb s).symm) s)), by rw [e.top g.ha, e.top g.hb, e.top g.hx]; exact g.top⟩
def MemoAt (w : World) (md : Nat) (k : Kd) (c : Cells) : Prop := ∃ mq, MapOf w md enc2 mq ∧ ∀ a b v, assoc mq (a, b) = some v → ∃ x, v = .int .i64 x ∧ FGood k c a b x
section
variable {w w2 : World} {k : Kd} {s : Fb} {md : Nat} {c c' : Cells}
theorem MemoAt.lt (h : MemoAt w md k c) : md < w.heap.size := by obtain ⟨mq, hm, _⟩ := h; exact hm.lt
theorem MemoAt.keep (h : MemoAt w md k c) (hb : w2.heap[md]? = w.heap[md]?) : MemoAt w2 md k c := by
  obtain ⟨mq, hm, hg⟩ := h; exact ⟨mq, hm.block_eq hb, hg⟩
theorem MemoAt.ext (h : MemoAt w md k c) (o : Ok c) (o' : Ok c') (e : Ext c c') : MemoAt w md k c' := by
  obtain ⟨mq, hm, hg⟩ := h
  refine ⟨mq, hm, fun a b v hv => ?_⟩
  obtain ⟨x, hx, g⟩ := hg a b v hv
  exact ⟨x, hx, g.ext o o' e⟩
theorem MemoAt.below (h : MemoAt w md k c) (hb : Below w.heap.size w w2) : MemoAt w2 md k c := h.keep (hb.block md h.lt)
end

/-- What a step leaves, in plain words. -/
structure WOk (V L : Int) (k : Kd) (c c' : Cells) (a b x : Int) : Prop where
  zok : ZOk V c'
  ext : Ext c c'
  has : hasM c' x = true
  z : ∀ s, Z c' x s ↔ k.sem (Z c a) (Z c b) s
  top : min (topM c a) (topM c b) ≤ topM c' x
  cnt : lows L c' ≤ lows L c + k.cost (L - min (topM c a) (topM c b)).toNat
/-- .. of the private functions, and of again. -/
def FPost (V L : Int) (k : Kd) (s : Fb) (c : Cells) (a b : Int) (w : World) (e : Ending) (w' : World) : Prop :=
  ∃ c' x, e = .returned (.tuple #[.int .i64 x, .nilIface]) ∧ IsStore w' s V c' ∧ Only s.b.mem w w' ∧ WOk V L k c c' a b x
def WPost (V L : Int) (k : Kd) (s : Fb) (md : Nat) (c : Cells) (a b : Int) (w : World) (e : Ending) (w' : World) : Prop :=
  ∃ c' x, e = .returned (.tuple #[.int .i64 x, .nilIface]) ∧ IsStore w' s V c' ∧ MemoAt w' md k c' ∧ Only (famMem s md) w w' ∧ WOk V L k c c' a b x
def argsW (q : Cb) (a b : Int) : Array Value := #[.int .i64 a, .int .i64 b, .pointer (some ⟨q.e, 0, none⟩), .pointer (some ⟨q.d, 0, none⟩), .pointer (some ⟨q.s, 0, none⟩), .pointer (some ⟨q.m, 0, none⟩), .pointer (some ⟨q.a, 0, none⟩)]
/-- again is right, up to a height. -/
def AgainOk (V L : Int) (k : Kd) (s : Fb) (md : Nat) (q : Cb) (f : Nat) : Prop := ∀ (a b : Int) (w : World) (c : Cells), IsStore w s V c → MemoAt w md k c → Env w k s md q → ZOk V c → hasM c a = true → hasM c b = true →
  (24 - min (topM c a) (topM c b)).toNat < f → lows L c + k.cost (L - min (topM c a) (topM c b)).toNat + hiB V L < c.length →
  Calls Try.prog 106 (argsW q a b) w (WPost V L k s md c a b w)
/-- What mix makes, thing by thing. -/
def Kd.mix : Kd → Int → Fam → Fam → Fam → Fam → Fam
  | .or, v, A0, A1, B0, B1 => mixF v (Kd.or.sem A0 B0) (Kd.or.sem A1 B1)
  | .and, v, A0, A1, B0, B1 => mixF v (Kd.and.sem A0 B0) (Kd.and.sem A1 B1)
  | .less, v, A0, A1, B0, B1 => mixF v (Kd.less.sem A0 B0) (Kd.less.sem A1 B1)
  | .join, v, A0, A1, B0, B1 => mixF v (Kd.join.sem A0 B0) (Kd.or.sem (Kd.or.sem (Kd.or.sem (fun _ => False) (Kd.join.sem A1 B1)) (Kd.join.sem A1 B0)) (Kd.join.sem A0 B1))
  | .free, v, A0, A1, B0, B1 => mixF v (Kd.free.sem A0 B0) (Kd.free.sem (Kd.free.sem A1 B0) B1)
theorem Kd.mix_sem (k : Kd) (v : Int) (F G : Fam) (s : St) : k.mix v (without v F) (withV v F) (without v G) (withV v G) s ↔ k.sem F G s := by
  cases k
  · exact mix_or v F G s
  · exact mix_and v F G s
  · exact mix_less v F G s
  · exact mix_join v F G s
  · exact mix_free v F G s
theorem Kd.mix_congr (k : Kd) (v : Int) {A0 A1 B0 B1 C0 C1 D0 D1 : Fam} (h0 : ∀ s, A0 s ↔ C0 s) (h1 : ∀ s, A1 s ↔ C1 s) (h2 : ∀ s, B0 s ↔ D0 s) (h3 : ∀ s, B1 s ↔ D1 s) (s : St) : k.mix v A0 A1 B0 B1 s ↔ k.mix v C0 C1 D0 D1 s := by
  have e0 : A0 = C0 := funext fun s => propext (h0 s)
  have e1 : A1 = C1 := funext fun s => propext (h1 s)
  have e2 : B0 = D0 := funext fun s => propext (h2 s)
  have e3 : B1 = D1 := funext fun s => propext (h3 s)
  subst e0 e1 e2 e3
  exact Iff.rfl
structure MOk (V L : Int) (k : Kd) (c c' : Cells) (v a0 a1 b0 b1 x : Int) : Prop where
  zok : ZOk V c'
  ext : Ext c c'
  has : hasM c' x = true
  z : ∀ s, Z c' x s ↔ k.mix v (Z c a0) (Z c a1) (Z c b0) (Z c b1) s
  top : v ≤ topM c' x
  cnt : lows L c' ≤ lows L c + k.cost (L - v).toNat
def MPost (V L : Int) (k : Kd) (s : Fb) (md : Nat) (c : Cells) (v a0 a1 b0 b1 : Int) (w : World) (e : Ending) (w' : World) : Prop :=
  ∃ c' x, e = .returned (.tuple #[.int .i64 x, .nilIface]) ∧ IsStore w' s V c' ∧ MemoAt w' md k c' ∧ Only (famMem s md) w w' ∧ MOk V L k c c' v a0 a1 b0 b1 x
def argsM (q : Cb) (v a0 a1 b0 b1 : Int) : Array Value := #[.int .i64 v, .int .i64 a0, .int .i64 a1, .int .i64 b0, .int .i64 b1, againV q, .pointer (some ⟨q.s2, 0, none⟩)]
/-- mix is right, where again is. -/
def MixOk (V L : Int) (k : Kd) (s : Fb) (md : Nat) (q : Cb) (f : Nat) : Prop := ∀ (v a0 a1 b0 b1 : Int) (w : World) (c : Cells), IsStore w s V c → MemoAt w md k c → Env w k s md q → ZOk V c →
  hasM c a0 = true → hasM c a1 = true → hasM c b0 = true → hasM c b1 = true → v < topM c a0 → v < topM c a1 → v < topM c b0 → v < topM c b1 → 0 ≤ v → v < V → (24 - v).toNat < f + 1 → lows L c + k.cost (L - v).toNat + hiB V L < c.length →
  Calls Try.prog k.mfn (argsM q v a0 a1 b0 b1) w (MPost V L k s md c v a0 a1 b0 b1 w)

/-! ### Costs -/
theorem costO_step (L v : Int) : 2 * costO (L - (v + 1)).toNat + (if v < L then 1 else 0) = costO (L - v).toNat := by
  by_cases e : v < L
  · rw [if_pos e, show (L - v).toNat = (L - (v + 1)).toNat + 1 by omega]; rfl
  · rw [if_neg e, show (L - v).toNat = 0 by omega, show (L - (v + 1)).toNat = 0 by omega]; rfl
theorem costJ_step (L v : Int) : 4 * costJ (L - (v + 1)).toNat + 3 * costO (L - (v + 1)).toNat + (if v < L then 1 else 0) = costJ (L - v).toNat := by
  by_cases e : v < L
  · rw [if_pos e, show (L - v).toNat = (L - (v + 1)).toNat + 1 by omega]; rfl
  · rw [if_neg e, show (L - v).toNat = 0 by omega, show (L - (v + 1)).toNat = 0 by omega]; rfl
theorem costF_step (L v : Int) : 3 * costF (L - (v + 1)).toNat + (if v < L then 1 else 0) = costF (L - v).toNat := by
  by_cases e : v < L
  · rw [if_pos e, show (L - v).toNat = (L - (v + 1)).toNat + 1 by omega]; rfl
  · rw [if_neg e, show (L - v).toNat = 0 by omega, show (L - (v + 1)).toNat = 0 by omega]; rfl
theorem cost_kid (k : Kd) (L v : Int) {m : Int} (h : v < m) : k.cost (L - m).toNat ≤ k.cost (L - (v + 1)).toNat := k.cost_mono (by omega)

/-! ### Where it is known -/
def EPost (k : Kd) (a b : Int) (w : World) (e : Ending) (w' : World) : Prop := e = .returned (.tuple #[.int .i64 ((k.ends a b).getD 0), .bool (k.ends a b).isSome]) ∧ w = w'

set_option maxHeartbeats 1000000 in
theorem ends_or (a b : Int) (w : World) : Calls Try.prog 107 #[.int .i64 a, .int .i64 b] w (EPost .or a b w) := by
  by_cases h0 : a = 0
  · have er : Kd.or.ends a b = some b := by simp_all [Kd.ends]
    unfold EPost; rw [er]; clear er
    obtain rfl := h0
    go_enter Try.func107, Try.ntmps107
    go_wp2_with fail
    go_ret2
    exact ⟨rfl, rfl⟩
  · skip
    by_cases h1 : a = b
    · have er : Kd.or.ends a b = some b := by simp_all [Kd.ends]
      unfold EPost; rw [er]; clear er
      have e0 : (a == 0) = false := by simpa using h0
      clear h0
      obtain rfl := h1
      go_enter Try.func107, Try.ntmps107
      go_wp2_with fail
      go_ret2
      exact ⟨rfl, rfl⟩
    · skip
      by_cases h2 : b = 0
      · have er : Kd.or.ends a b = some a := by simp_all [Kd.ends]
        unfold EPost; rw [er]; clear er
        have e0 : (a == 0) = false := by simpa using h0
        have e1 : (a == b) = false := by simpa using h1
        clear h0 h1
        obtain rfl := h2
        go_enter Try.func107, Try.ntmps107
        go_wp2_with fail
        go_ret2
        exact ⟨rfl, rfl⟩
      · skip
        have er : Kd.or.ends a b = none := by simp_all [Kd.ends]
        unfold EPost; rw [er]; clear er
        have e0 : (a == 0) = false := by simpa using h0
        have e1 : (a == b) = false := by simpa using h1
        have e2 : (b == 0) = false := by simpa using h2
        clear h0 h1 h2
        go_enter Try.func107, Try.ntmps107
        go_wp2_with fail
        go_ret2
        exact ⟨rfl, rfl⟩
set_option maxHeartbeats 1000000 in
theorem ends_and (a b : Int) (w : World) : Calls Try.prog 88 #[.int .i64 a, .int .i64 b] w (EPost .and a b w) := by
  by_cases h0 : a = 0
  · have er : Kd.and.ends a b = some 0 := by simp_all [Kd.ends]
    unfold EPost; rw [er]; clear er
    obtain rfl := h0
    go_enter Try.func88, Try.ntmps88
    go_wp2_with fail
    go_ret2
    exact ⟨rfl, rfl⟩
  · skip
    by_cases h1 : b = 0
    · have er : Kd.and.ends a b = some 0 := by simp_all [Kd.ends]
      unfold EPost; rw [er]; clear er
      have e0 : (a == 0) = false := by simpa using h0
      clear h0
      obtain rfl := h1
      go_enter Try.func88, Try.ntmps88
      go_wp2_with fail
      go_ret2
      exact ⟨rfl, rfl⟩
    · skip
      by_cases h2 : a = b
      · have er : Kd.and.ends a b = some a := by simp_all [Kd.ends]
        unfold EPost; rw [er]; clear er
        have e0 : (a == 0) = false := by simpa using h0
        have e1 : (b == 0) = false := by simpa using h1
        clear h0 h1
        obtain rfl := h2
        go_enter Try.func88, Try.ntmps88
        go_wp2_with fail
        go_ret2
        exact ⟨rfl, rfl⟩
      · skip
        have er : Kd.and.ends a b = none := by simp_all [Kd.ends]
        unfold EPost; rw [er]; clear er
        have e0 : (a == 0) = false := by simpa using h0
        have e1 : (b == 0) = false := by simpa using h1
        have e2 : (a == b) = false := by simpa using h2
        clear h0 h1 h2
        go_enter Try.func88, Try.ntmps88
        go_wp2_with fail
        go_ret2
        exact ⟨rfl, rfl⟩
set_option maxHeartbeats 1000000 in
theorem ends_less (a b : Int) (w : World) : Calls Try.prog 109 #[.int .i64 a, .int .i64 b] w (EPost .less a b w) := by
  by_cases h0 : a = 0
  · have er : Kd.less.ends a b = some 0 := by simp_all [Kd.ends]
    unfold EPost; rw [er]; clear er
    obtain rfl := h0
    go_enter Try.func109, Try.ntmps109
    go_wp2_with fail
    go_ret2
    exact ⟨rfl, rfl⟩
  · skip
    by_cases h1 : a = b
    · have er : Kd.less.ends a b = some 0 := by simp_all [Kd.ends]
      unfold EPost; rw [er]; clear er
      have e0 : (a == 0) = false := by simpa using h0
      clear h0
      obtain rfl := h1
      go_enter Try.func109, Try.ntmps109
      go_wp2_with fail
      go_ret2
      exact ⟨rfl, rfl⟩
    · skip
      by_cases h2 : b = 0
      · have er : Kd.less.ends a b = some a := by simp_all [Kd.ends]
        unfold EPost; rw [er]; clear er
        have e0 : (a == 0) = false := by simpa using h0
        have e1 : (a == b) = false := by simpa using h1
        clear h0 h1
        obtain rfl := h2
        go_enter Try.func109, Try.ntmps109
        go_wp2_with fail
        go_ret2
        exact ⟨rfl, rfl⟩
      · skip
        have er : Kd.less.ends a b = none := by simp_all [Kd.ends]
        unfold EPost; rw [er]; clear er
        have e0 : (a == 0) = false := by simpa using h0
        have e1 : (a == b) = false := by simpa using h1
        have e2 : (b == 0) = false := by simpa using h2
        clear h0 h1 h2
        go_enter Try.func109, Try.ntmps109
        go_wp2_with fail
        go_ret2
        exact ⟨rfl, rfl⟩
set_option maxHeartbeats 1000000 in
theorem ends_join (a b : Int) (w : World) : Calls Try.prog 93 #[.int .i64 a, .int .i64 b] w (EPost .join a b w) := by
  by_cases h0 : a = 0
  · have er : Kd.join.ends a b = some 0 := by simp_all [Kd.ends]
    unfold EPost; rw [er]; clear er
    obtain rfl := h0
    go_enter Try.func93, Try.ntmps93
    go_wp2_with fail
    go_ret2
    exact ⟨rfl, rfl⟩
  · skip
    by_cases h1 : b = 0
    · have er : Kd.join.ends a b = some 0 := by simp_all [Kd.ends]
      unfold EPost; rw [er]; clear er
      have e0 : (a == 0) = false := by simpa using h0
      clear h0
      obtain rfl := h1
      go_enter Try.func93, Try.ntmps93
      go_wp2_with fail
      go_ret2
      exact ⟨rfl, rfl⟩
    · skip
      by_cases h2 : a = 1
      · have er : Kd.join.ends a b = some b := by simp_all [Kd.ends]
        unfold EPost; rw [er]; clear er
        have e0 : (a == 0) = false := by simpa using h0
        have e1 : (b == 0) = false := by simpa using h1
        clear h0 h1
        obtain rfl := h2
        go_enter Try.func93, Try.ntmps93
        go_wp2_with fail
        go_ret2
        exact ⟨rfl, rfl⟩
      · skip
        by_cases h3 : b = 1
        · have er : Kd.join.ends a b = some a := by simp_all [Kd.ends]
          unfold EPost; rw [er]; clear er
          have e0 : (a == 0) = false := by simpa using h0
          have e1 : (b == 0) = false := by simpa using h1
          have e2 : (a == 1) = false := by simpa using h2
          clear h0 h1 h2
          obtain rfl := h3
          go_enter Try.func93, Try.ntmps93
          go_wp2_with fail
          go_ret2
          exact ⟨rfl, rfl⟩
        · skip
          have er : Kd.join.ends a b = none := by simp_all [Kd.ends]
          unfold EPost; rw [er]; clear er
          have e0 : (a == 0) = false := by simpa using h0
          have e1 : (b == 0) = false := by simpa using h1
          have e2 : (a == 1) = false := by simpa using h2
          have e3 : (b == 1) = false := by simpa using h3
          clear h0 h1 h2 h3
          go_enter Try.func93, Try.ntmps93
          go_wp2_with fail
          go_ret2
          exact ⟨rfl, rfl⟩
set_option maxHeartbeats 1000000 in
theorem ends_free (a b : Int) (w : World) : Calls Try.prog 111 #[.int .i64 a, .int .i64 b] w (EPost .free a b w) := by
  by_cases h0 : b = 0
  · have er : Kd.free.ends a b = some a := by simp_all [Kd.ends]
    unfold EPost; rw [er]; clear er
    obtain rfl := h0
    go_enter Try.func111, Try.ntmps111
    go_wp2_with fail
    go_ret2
    exact ⟨rfl, rfl⟩
  · skip
    by_cases h1 : b = 1
    · have er : Kd.free.ends a b = some 0 := by simp_all [Kd.ends]
      unfold EPost; rw [er]; clear er
      have e0 : (b == 0) = false := by simpa using h0
      clear h0
      obtain rfl := h1
      go_enter Try.func111, Try.ntmps111
      go_wp2_with fail
      go_ret2
      exact ⟨rfl, rfl⟩
    · skip
      by_cases h2 : a = 0
      · have er : Kd.free.ends a b = some 0 := by simp_all [Kd.ends]
        unfold EPost; rw [er]; clear er
        have e0 : (b == 0) = false := by simpa using h0
        have e1 : (b == 1) = false := by simpa using h1
        clear h0 h1
        obtain rfl := h2
        go_enter Try.func111, Try.ntmps111
        go_wp2_with fail
        go_ret2
        exact ⟨rfl, rfl⟩
      · skip
        by_cases h3 : a = b
        · have er : Kd.free.ends a b = some 0 := by simp_all [Kd.ends]
          unfold EPost; rw [er]; clear er
          have e0 : (b == 0) = false := by simpa using h0
          have e1 : (b == 1) = false := by simpa using h1
          have e2 : (a == 0) = false := by simpa using h2
          clear h0 h1 h2
          obtain rfl := h3
          go_enter Try.func111, Try.ntmps111
          go_wp2_with fail
          go_ret2
          exact ⟨rfl, rfl⟩
        · skip
          have er : Kd.free.ends a b = none := by simp_all [Kd.ends]
          unfold EPost; rw [er]; clear er
          have e0 : (b == 0) = false := by simpa using h0
          have e1 : (b == 1) = false := by simpa using h1
          have e2 : (a == 0) = false := by simpa using h2
          have e3 : (a == b) = false := by simpa using h3
          clear h0 h1 h2 h3
          go_enter Try.func111, Try.ntmps111
          go_wp2_with fail
          go_ret2
          exact ⟨rfl, rfl⟩
theorem ends_any (k : Kd) (a b : Int) (w : World) : Calls Try.prog k.efn #[.int .i64 a, .int .i64 b] w (EPost k a b w) := by
  cases k
  · exact ends_or a b w
  · exact ends_and a b w
  · exact ends_less a b w
  · exact ends_join a b w
  · exact ends_free a b w
end Go.Proofs.Ytmlnfbageoabnaa
