/- FamilyLaws on its way: the closures' variables; their contracts; what holds between the calls. (Printed by gen_famk.py.) -/
import Derived.Test.YtmlnfbageoabnaaFamS
import Derived.OneCell
namespace Go.Proofs.Ytmlnfbageoabnaa
open Go.RowKit
set_option linter.unusedVariables false

theorem setCell_self {w : World} {b : Nat} {v : Value} {t : TypeId} (h : w.heap[b]? = some (.cells #[v] t (0, 0))) : w.setCell ⟨b, 0, none⟩ v = w := by
  have hlt := lt_of_block h
  have e : (w.setCell ⟨b, 0, none⟩ v).heap = w.heap := by
    apply Array.ext_getElem?
    intro i
    by_cases e : i = b
    · subst e; exact (one_setCell h).trans h.symm
    · exact Below.heap_setCell _ _ _ _ e
  show { w with heap := (w.setCell ⟨b, 0, none⟩ v).heap } = w
  rw [e]

/-- A handle means a family. -/
structure FMeans (c : Cells) (h : Int) (F : Fam) : Prop where
  has : hasM c h = true
  z : ∀ s, Z c h s ↔ F s
theorem FMeans.up {c c' : Cells} {h : Int} {F : Fam} (m : FMeans c h F) (o : Ok c) (o' : Ok c') (e : Ext c c') : FMeans c' h F := ⟨e.has m.has, fun s => (Z_ext o o' e h m.has s).trans (m.z s)⟩
theorem FMeans.same {V : Int} {c : Cells} {h h' : Int} {F F' : Fam} (o : ZOk V c) (m : FMeans c h F) (m' : FMeans c h' F') (e : ∀ s, F s ↔ F' s) : h = h' :=
  canonZ_eq o.ok o.red m.has m'.has (fun s => (m.z s).trans ((e s).trans (m'.z s).symm))
theorem fmeans_self {c : Cells} {h : Int} (hh : hasM c h = true) : FMeans c h (Z c h) := ⟨hh, fun _ => Iff.rfl⟩
def oneF : Fam := fun s => ∀ u, s u = false
theorem fmeans_one (c : Cells) : FMeans c 1 oneF := ⟨hasM_one _, fun s => Z_one c s⟩
theorem FMeans.sweep {V : Int} {c : Cells} {h : Int} {F : Fam} {keep : List Int} (m : FMeans c h F) (o : ZOk V c) (hm : h ∈ keep) : FMeans (sweepM c keep) h F := by
  have key : ∀ (h : Int), (∀ k : Nat, h = (k : Int) + 2 → RchC c keep k) → hasM c h = true → ∀ s, Z (sweepM c keep) h s ↔ Z c h s := by
    refine node_ind o.ok (Q := fun h => (∀ k : Nat, h = (k : Int) + 2 → RchC c keep k) → hasM c h = true → ∀ s, Z (sweepM c keep) h s ↔ Z c h s) (fun h g hk hh s => ?_) (fun h n g ih1 ih2 hk hh s => ?_)
    · rw [Z_end g, Z_end (getM_end _ (getM_none_of_has hh g))]
    · obtain ⟨k, rfl, hn, _⟩ := getM_some g
      have hr := hk k rfl
      have g' : getM (sweepM c keep) ((k : Int) + 2) = some n := by rw [getM_node]; exact sweepM_some.2 ⟨hr, hn⟩
      obtain ⟨_, _, k1, k2, _, _⟩ := o.ok.kids g
      rw [Z_node o.ok g, Z_node (sweepM_ok o.ok keep) g']
      have r1 : ∀ k' : Nat, n.2.1 = (k' : Int) + 2 → RchC c keep k' := fun k' e => by
        rcases hasM_cases k1 with e2 | e2 | ⟨k3, n3, e2, h5, _⟩
        · omega
        · omega
        · obtain rfl : k3 = k' := by omega
          exact hr.low hn h5 e
      have r2 : ∀ k' : Nat, n.2.2 = (k' : Int) + 2 → RchC c keep k' := fun k' e => by
        rcases hasM_cases k2 with e2 | e2 | ⟨k3, n3, e2, h5, _⟩
        · omega
        · omega
        · obtain rfl : k3 = k' := by omega
          exact hr.high hn h5 e
      split
      · exact ih2 r2 k2 _
      · exact ih1 r1 k1 _
  have hr : ∀ k : Nat, h = (k : Int) + 2 → RchC c keep k := fun k e => by subst e; exact rchC_of_mem m.has hm
  exact ⟨sweepM_has m.has hr, fun s => (key h hr m.has s).trans (m.z s)⟩

/-- The closures' variables: the store, the handles that are kept, what went wrong, the function that looks. -/
structure FCap (w : World) (s : Fb) (bs bh bb bd : Nat) (vh : Value) : Prop where
  cs : w.heap[bs]? = some (.cells #[.pointer (some ⟨s.ps, 0, none⟩)] 77 (0, 0))
  ch : w.heap[bh]? = some (.cells #[vh] 22 (0, 0))
  cb : w.heap[bb]? = some (.cells #[.bool false] 4 (0, 0))
  cd : w.heap[bd]? = some (.cells #[.func (.func 50) #[] #[.pointer (some ⟨bb, 0, none⟩)]] 63 (0, 0))
  off : ¬ s.b.mem bs ∧ ¬ s.b.mem bh ∧ ¬ s.b.mem bb ∧ ¬ s.b.mem bd
theorem FCap.only {w w' : World} {s : Fb} {bs bh bb bd : Nat} {vh : Value} (h : FCap w s bs bh bb bd vh) (ho : Only s.b.mem w w') : FCap w' s bs bh bb bd vh :=
  ⟨(ho.block _ (lt_of_block h.cs) h.off.1).trans h.cs, (ho.block _ (lt_of_block h.ch) h.off.2.1).trans h.ch, (ho.block _ (lt_of_block h.cb) h.off.2.2.1).trans h.cb, (ho.block _ (lt_of_block h.cd) h.off.2.2.2).trans h.cd, h.off⟩
theorem FCap.below {w w' : World} {s : Fb} {bs bh bb bd : Nat} {vh : Value} (h : FCap w s bs bh bb bd vh) (ho : Below w.heap.size w w') : FCap w' s bs bh bb bd vh :=
  ⟨(ho.block _ (lt_of_block h.cs)).trans h.cs, (ho.block _ (lt_of_block h.ch)).trans h.ch, (ho.block _ (lt_of_block h.cb)).trans h.cb, (ho.block _ (lt_of_block h.cd)).trans h.cd, h.off⟩

/-- do: no error: nothing turns. -/
theorem fdo_any (x : Int) (bb : Nat) (w : World) (h : w.heap[bb]? = some (.cells #[.bool false] 4 (0, 0))) :
    Calls Try.prog 50 #[.int .i64 x, .nilIface, .pointer (some ⟨bb, 0, none⟩)] w fun e w' => e = .returned (.int .i64 x) ∧ w = w' := by
  have c := cell_of_one h
  have f := free_of_one h
  have lt := lt_of_block h
  have hs := setCell_self h
  have Hs := Lib.hid hs; clear hs h
  go_enter Try.func50, Try.ntmps50
  go_wp2_with fail
  go_ret
  exact ⟨rfl, Hs.out.symm⟩

structure FI (w1 wr : World) (s : Fb) (V : Nat) (c : Cells) (vh : Value) (h : List Int) (D0 : Int → Fam) (bs bh bb bd n : Nat) : Prop where
  f : ZSt w1 wr s V c vh h
  cp : FCap wr s bs bh bb bd vh
  zok : ZOk V c
  len : c.length = 4000
  low : lows ((V : Int) - 3) c ≤ n
  m : ∀ y ∈ h, FMeans c y (D0 y)
  hl : 0 < h.length ∧ h.length ≤ 100000
section
variable {w1 wr w' : World} {s : Fb} {V : Nat} {c c' : Cells} {vh : Value} {h : List Int} {D0 : Int → Fam} {bs bh bb bd n : Nat}
theorem FI.alloc (b : FI w1 wr s V c vh h D0 bs bh bb bd n) (ob : Obj) : FI w1 (wr.alloc ob) s V c vh h D0 bs bh bb bd n :=
  have hb : Below wr.heap.size wr (wr.alloc ob) := (Below.refl _ _).alloc (Nat.le_refl _) _
  ⟨b.f.grow hb, b.cp.below hb, b.zok, b.len, b.low, b.m, b.hl⟩
theorem FI.drew (b : FI w1 wr s V c vh h D0 bs bh bb bd n) : FI w1 wr.drew s V c vh h D0 bs bh bb bd n :=
  have hb : Below wr.heap.size wr wr.drew := (Below.refl _ _).drew
  ⟨b.f.grow hb, b.cp.below hb, b.zok, b.len, b.low, b.m, b.hl⟩
theorem FI.on {x : Int} (b : FI w1 wr s V c vh h D0 bs bh bb bd n) (hs : IsStore w' s V c') (ho : Only s.b.mem wr w') (z : SZ V c c' x) : FI w1 w' s V c' vh h D0 bs bh bb bd (n + 42) :=
  ⟨b.f.step ho hs, b.cp.only ho, z.zok, z.ext.len.trans b.len, by have := z.cnt; have := b.low; omega, fun y hy => (b.m y hy).up b.zok.ok z.zok.ok z.ext, b.hl⟩
theorem FI.ints (b : FI w1 wr s V c vh h D0 bs bh bb bd n) : IsInts wr vh h := ints_of_owns b.f.own (by have := b.hl.2; omega)
theorem FI.free (b : FI w1 wr s V c vh h D0 bs bh bb bd n) (hs : IsStore w' s V (sweepM c h)) (ho : Only s.b.mem wr w') : FI w1 w' s V (sweepM c h) vh h D0 bs bh bb bd n :=
  ⟨b.f.step ho hs, b.cp.only ho, b.zok.sweep h, (sweepM_len _ _).trans b.len, Nat.le_trans (lows_sweep _ _ _) b.low, fun y hy => (b.m y hy).sweep b.zok hy, b.hl⟩
/-- What was known is known still. -/
def FKeeps (c c' : Cells) : Prop := ∀ (x : Int) (D : Fam), FMeans c x D → FMeans c' x D
/-- What a maker leaves. -/
def FKPost (w1 : World) (s : Fb) (V : Nat) (c : Cells) (vh : Value) (h : List Int) (D0 : Int → Fam) (bs bh bb bd n : Nat) (D : Fam) (e' : Ending) (w' : World) : Prop :=
  ∃ (c' : Cells) (x : Int), e' = .returned (.int .i64 x) ∧ FI w1 w' s V c' vh h D0 bs bh bb bd n ∧ FKeeps c c' ∧ FMeans c' x D

set_option maxHeartbeats 2000000 in
theorem cAnd_any (hV : V ≤ 6) {a b : Int} {A B : Fam} (bi : FI w1 wr s V c vh h D0 bs bh bb bd n) (hn : n ≤ 3600) (ma : FMeans c a A) (mb : FMeans c b B) :
    Calls Try.prog 51 #[.int .i64 a, .int .i64 b, .pointer (some ⟨bd, 0, none⟩), .pointer (some ⟨bs, 0, none⟩)] wr (FKPost w1 s V c vh h D0 bs bh bb bd (n + 42) (Kd.and.sem A B)) := by
  have hroom : lows ((V : Int) - 3) c + 42 + 256 < c.length := by have := bi.low; have := bi.len; omega
  have hq := FAnd_any (V := V) (L := (V : Int) - 3) (by omega) (by omega) a b wr.drew c (bi.drew.f.sp) bi.zok ma.has mb.has (room_k hV bi.zok _ hroom a b)
  have c1 := cell_of_one bi.cp.cs
  have c2 := cell_of_one bi.cp.cd
  have Hq := Lib.hid hq; have Bi := Lib.hid bi; have Ma := Lib.hid ma; have Mb := Lib.hid mb; clear hq bi ma mb hroom
  go_enter Try.func51, Try.ntmps51
  go_wp2_with fail
  go_region_held3 (fun w' => w'.cell? ⟨bs, 0, none⟩ = some (.pointer (some ⟨s.ps, 0, none⟩)) ∧ w'.cell? ⟨bd, 0, none⟩ = some (.func (.func 50) #[] #[.pointer (some ⟨bb, 0, none⟩)]))
    (first | exact ⟨c1, c2⟩ | exact ⟨h91, h92⟩ | go_keep)
    (first | (go_at_call 52; refine (Hq.out).mono ?_; rintro e w9 ⟨c9, x9, rfl, hs9, ho9, ok9⟩; have h91 := cell_of_one (Bi.out.cp.only (Only.drew0 ho9)).cs; have h92 := cell_of_one (Bi.out.cp.only (Only.drew0 ho9)).cd) | (go_at_call 50; refine (fdo_any _ _ _ (Bi.out.cp.only (Only.drew0 ho9)).cb).mono ?_; rintro e w10 ⟨rfl, rfl⟩))
  all_goals (go_wp2_with fail; go_ret)
  all_goals exact ⟨c9, x9, rfl, Bi.out.on hs9 (Only.drew0 ho9) (ok9.sz hV Bi.out.zok), fun x D m => m.up Bi.out.zok.ok ok9.zok.ok ok9.ext, ok9.has, fun s => (ok9.z s).trans (Kd.sem_congr _ Ma.out.z Mb.out.z s)⟩

set_option maxHeartbeats 2000000 in
theorem cOr_any (hV : V ≤ 6) {a b : Int} {A B : Fam} (bi : FI w1 wr s V c vh h D0 bs bh bb bd n) (hn : n ≤ 3600) (ma : FMeans c a A) (mb : FMeans c b B) :
    Calls Try.prog 53 #[.int .i64 a, .int .i64 b, .pointer (some ⟨bd, 0, none⟩), .pointer (some ⟨bs, 0, none⟩)] wr (FKPost w1 s V c vh h D0 bs bh bb bd (n + 42) (Kd.or.sem A B)) := by
  have hroom : lows ((V : Int) - 3) c + 42 + 256 < c.length := by have := bi.low; have := bi.len; omega
  have hq := FOr_any (V := V) (L := (V : Int) - 3) (by omega) (by omega) a b wr.drew c (bi.drew.f.sp) bi.zok ma.has mb.has (room_k hV bi.zok _ hroom a b)
  have c1 := cell_of_one bi.cp.cs
  have c2 := cell_of_one bi.cp.cd
  have Hq := Lib.hid hq; have Bi := Lib.hid bi; have Ma := Lib.hid ma; have Mb := Lib.hid mb; clear hq bi ma mb hroom
  go_enter Try.func53, Try.ntmps53
  go_wp2_with fail
  go_region_held3 (fun w' => w'.cell? ⟨bs, 0, none⟩ = some (.pointer (some ⟨s.ps, 0, none⟩)) ∧ w'.cell? ⟨bd, 0, none⟩ = some (.func (.func 50) #[] #[.pointer (some ⟨bb, 0, none⟩)]))
    (first | exact ⟨c1, c2⟩ | exact ⟨h91, h92⟩ | go_keep)
    (first | (go_at_call 54; refine (Hq.out).mono ?_; rintro e w9 ⟨c9, x9, rfl, hs9, ho9, ok9⟩; have h91 := cell_of_one (Bi.out.cp.only (Only.drew0 ho9)).cs; have h92 := cell_of_one (Bi.out.cp.only (Only.drew0 ho9)).cd) | (go_at_call 50; refine (fdo_any _ _ _ (Bi.out.cp.only (Only.drew0 ho9)).cb).mono ?_; rintro e w10 ⟨rfl, rfl⟩))
  all_goals (go_wp2_with fail; go_ret)
  all_goals exact ⟨c9, x9, rfl, Bi.out.on hs9 (Only.drew0 ho9) (ok9.sz hV Bi.out.zok), fun x D m => m.up Bi.out.zok.ok ok9.zok.ok ok9.ext, ok9.has, fun s => (ok9.z s).trans (Kd.sem_congr _ Ma.out.z Mb.out.z s)⟩

set_option maxHeartbeats 2000000 in
theorem cLess_any (hV : V ≤ 6) {a b : Int} {A B : Fam} (bi : FI w1 wr s V c vh h D0 bs bh bb bd n) (hn : n ≤ 3600) (ma : FMeans c a A) (mb : FMeans c b B) :
    Calls Try.prog 55 #[.int .i64 a, .int .i64 b, .pointer (some ⟨bd, 0, none⟩), .pointer (some ⟨bs, 0, none⟩)] wr (FKPost w1 s V c vh h D0 bs bh bb bd (n + 42) (Kd.less.sem A B)) := by
  have hroom : lows ((V : Int) - 3) c + 42 + 256 < c.length := by have := bi.low; have := bi.len; omega
  have hq := FLess_any (V := V) (L := (V : Int) - 3) (by omega) (by omega) a b wr.drew c (bi.drew.f.sp) bi.zok ma.has mb.has (room_k hV bi.zok _ hroom a b)
  have c1 := cell_of_one bi.cp.cs
  have c2 := cell_of_one bi.cp.cd
  have Hq := Lib.hid hq; have Bi := Lib.hid bi; have Ma := Lib.hid ma; have Mb := Lib.hid mb; clear hq bi ma mb hroom
  go_enter Try.func55, Try.ntmps55
  go_wp2_with fail
  go_region_held3 (fun w' => w'.cell? ⟨bs, 0, none⟩ = some (.pointer (some ⟨s.ps, 0, none⟩)) ∧ w'.cell? ⟨bd, 0, none⟩ = some (.func (.func 50) #[] #[.pointer (some ⟨bb, 0, none⟩)]))
    (first | exact ⟨c1, c2⟩ | exact ⟨h91, h92⟩ | go_keep)
    (first | (go_at_call 56; refine (Hq.out).mono ?_; rintro e w9 ⟨c9, x9, rfl, hs9, ho9, ok9⟩; have h91 := cell_of_one (Bi.out.cp.only (Only.drew0 ho9)).cs; have h92 := cell_of_one (Bi.out.cp.only (Only.drew0 ho9)).cd) | (go_at_call 50; refine (fdo_any _ _ _ (Bi.out.cp.only (Only.drew0 ho9)).cb).mono ?_; rintro e w10 ⟨rfl, rfl⟩))
  all_goals (go_wp2_with fail; go_ret)
  all_goals exact ⟨c9, x9, rfl, Bi.out.on hs9 (Only.drew0 ho9) (ok9.sz hV Bi.out.zok), fun x D m => m.up Bi.out.zok.ok ok9.zok.ok ok9.ext, ok9.has, fun s => (ok9.z s).trans (Kd.sem_congr _ Ma.out.z Mb.out.z s)⟩

set_option maxHeartbeats 2000000 in
theorem cJoin_any (hV : V ≤ 6) {a b : Int} {A B : Fam} (bi : FI w1 wr s V c vh h D0 bs bh bb bd n) (hn : n ≤ 3600) (ma : FMeans c a A) (mb : FMeans c b B) :
    Calls Try.prog 57 #[.int .i64 a, .int .i64 b, .pointer (some ⟨bd, 0, none⟩), .pointer (some ⟨bs, 0, none⟩)] wr (FKPost w1 s V c vh h D0 bs bh bb bd (n + 42) (Kd.join.sem A B)) := by
  have hroom : lows ((V : Int) - 3) c + 42 + 256 < c.length := by have := bi.low; have := bi.len; omega
  have hq := FJoin_any (V := V) (L := (V : Int) - 3) (by omega) (by omega) a b wr.drew c (bi.drew.f.sp) bi.zok ma.has mb.has (room_k hV bi.zok _ hroom a b)
  have c1 := cell_of_one bi.cp.cs
  have c2 := cell_of_one bi.cp.cd
  have Hq := Lib.hid hq; have Bi := Lib.hid bi; have Ma := Lib.hid ma; have Mb := Lib.hid mb; clear hq bi ma mb hroom
  go_enter Try.func57, Try.ntmps57
  go_wp2_with fail
  go_region_held3 (fun w' => w'.cell? ⟨bs, 0, none⟩ = some (.pointer (some ⟨s.ps, 0, none⟩)) ∧ w'.cell? ⟨bd, 0, none⟩ = some (.func (.func 50) #[] #[.pointer (some ⟨bb, 0, none⟩)]))
    (first | exact ⟨c1, c2⟩ | exact ⟨h91, h92⟩ | go_keep)
    (first | (go_at_call 58; refine (Hq.out).mono ?_; rintro e w9 ⟨c9, x9, rfl, hs9, ho9, ok9⟩; have h91 := cell_of_one (Bi.out.cp.only (Only.drew0 ho9)).cs; have h92 := cell_of_one (Bi.out.cp.only (Only.drew0 ho9)).cd) | (go_at_call 50; refine (fdo_any _ _ _ (Bi.out.cp.only (Only.drew0 ho9)).cb).mono ?_; rintro e w10 ⟨rfl, rfl⟩))
  all_goals (go_wp2_with fail; go_ret)
  all_goals exact ⟨c9, x9, rfl, Bi.out.on hs9 (Only.drew0 ho9) (ok9.sz hV Bi.out.zok), fun x D m => m.up Bi.out.zok.ok ok9.zok.ok ok9.ext, ok9.has, fun s => (ok9.z s).trans (Kd.sem_congr _ Ma.out.z Mb.out.z s)⟩

set_option maxHeartbeats 1000000 in
/-- then: the same; what was made is freed. -/
theorem cThen_any {x : Int} (bi : FI w1 wr s V c vh h D0 bs bh bb bd n) :
    Calls Try.prog 59 #[.int .i64 x, .int .i64 x, .pointer (some ⟨bs, 0, none⟩), .pointer (some ⟨bh, 0, none⟩), .pointer (some ⟨bb, 0, none⟩)] wr fun e w' => e = .returned (.bool true) ∧ ∃ c', FI w1 w' s V c' vh h D0 bs bh bb bd n := by
  have hf := FFree_any V vh h wr s c bi.f.sp bi.zok.ok bi.ints bi.hl.2 (fun y hy => bi.f.sp.le (bi.m y hy).has)
  have c1 := cell_of_one bi.cp.cs
  have c2 := cell_of_one bi.cp.ch
  have Hf := Lib.hid hf; have Bi := Lib.hid bi; clear hf bi
  go_enter Try.func59, Try.ntmps59
  go_wp2_with fail
  refine Hf.out.mono ?_
  rintro e w2 ⟨⟨zf, rfl⟩, hs1, ho1⟩
  have c3 := cell_of_one (Bi.out.cp.only ho1).cb
  have Hs1 := Lib.hid hs1; have Ho1 := Lib.hid ho1; clear hs1 ho1
  go_wp2_with fail
  go_ret
  exact ⟨rfl, _, Bi.out.free Hs1.out Ho1.out⟩
/-! ### For the schedule: the facts are hidden -/
theorem jAnd (hV : V ≤ 6) (bi : Hid (FI w1 wr s V c vh h D0 bs bh bb bd n)) (hn : n ≤ 3600) {a b : Int} {A B : Fam} (ma : Hid (FMeans c a A)) (mb : Hid (FMeans c b B)) :
    Calls Try.prog 51 #[.int .i64 a, .int .i64 b, .pointer (some ⟨bd, 0, none⟩), .pointer (some ⟨bs, 0, none⟩)] wr (FKPost w1 s V c vh h D0 bs bh bb bd (n + 42) (Kd.and.sem A B)) := cAnd_any hV bi.out hn ma.out mb.out
theorem jOr (hV : V ≤ 6) (bi : Hid (FI w1 wr s V c vh h D0 bs bh bb bd n)) (hn : n ≤ 3600) {a b : Int} {A B : Fam} (ma : Hid (FMeans c a A)) (mb : Hid (FMeans c b B)) :
    Calls Try.prog 53 #[.int .i64 a, .int .i64 b, .pointer (some ⟨bd, 0, none⟩), .pointer (some ⟨bs, 0, none⟩)] wr (FKPost w1 s V c vh h D0 bs bh bb bd (n + 42) (Kd.or.sem A B)) := cOr_any hV bi.out hn ma.out mb.out
theorem jLess (hV : V ≤ 6) (bi : Hid (FI w1 wr s V c vh h D0 bs bh bb bd n)) (hn : n ≤ 3600) {a b : Int} {A B : Fam} (ma : Hid (FMeans c a A)) (mb : Hid (FMeans c b B)) :
    Calls Try.prog 55 #[.int .i64 a, .int .i64 b, .pointer (some ⟨bd, 0, none⟩), .pointer (some ⟨bs, 0, none⟩)] wr (FKPost w1 s V c vh h D0 bs bh bb bd (n + 42) (Kd.less.sem A B)) := cLess_any hV bi.out hn ma.out mb.out
theorem jJoin (hV : V ≤ 6) (bi : Hid (FI w1 wr s V c vh h D0 bs bh bb bd n)) (hn : n ≤ 3600) {a b : Int} {A B : Fam} (ma : Hid (FMeans c a A)) (mb : Hid (FMeans c b B)) :
    Calls Try.prog 57 #[.int .i64 a, .int .i64 b, .pointer (some ⟨bd, 0, none⟩), .pointer (some ⟨bs, 0, none⟩)] wr (FKPost w1 s V c vh h D0 bs bh bb bd (n + 42) (Kd.join.sem A B)) := cJoin_any hV bi.out hn ma.out mb.out
theorem jThen (bi : Hid (FI w1 wr s V c vh h D0 bs bh bb bd n)) {x y : Int} {X Y : Fam} (mx : Hid (FMeans c x X)) (my : Hid (FMeans c y Y)) (e : ∀ s, X s ↔ Y s) :
    Calls Try.prog 59 #[.int .i64 x, .int .i64 y, .pointer (some ⟨bs, 0, none⟩), .pointer (some ⟨bh, 0, none⟩), .pointer (some ⟨bb, 0, none⟩)] wr fun e w' => e = .returned (.bool true) ∧ ∃ c', FI w1 w' s V c' vh h D0 bs bh bb bd n := by
  rw [show x = y from FMeans.same bi.out.zok mx.out my.out e]
  exact cThen_any bi.out
end

/-! ### The laws -/
section
variable (A B C : Fam) (s : St)
theorem fl1 : Kd.and.sem A B s ↔ Kd.less.sem A (Kd.less.sem A B) s := by
  simp only [Kd.sem]
  constructor
  · rintro ⟨h1, h2⟩; exact ⟨h1, fun h => h.2 h2⟩
  · rintro ⟨h1, h2⟩; exact ⟨h1, Classical.byContradiction fun h => h2 ⟨h1, h⟩⟩
theorem fl2 : Kd.or.sem (Kd.less.sem A B) (Kd.and.sem A B) s ↔ A s := by
  simp only [Kd.sem]
  constructor
  · rintro (h | h)
    · exact h.1
    · exact h.1
  · intro h
    by_cases hb : B s
    · exact .inr ⟨h, hb⟩
    · exact .inl ⟨h, hb⟩
theorem fl3 : Kd.or.sem A B s ↔ Kd.or.sem B A s := Or.comm
theorem fl4 : Kd.and.sem A (Kd.or.sem B C) s ↔ Kd.or.sem (Kd.and.sem A B) (Kd.and.sem A C) s := by
  simp only [Kd.sem]
  constructor
  · rintro ⟨h, h1 | h1⟩
    · exact .inl ⟨h, h1⟩
    · exact .inr ⟨h, h1⟩
  · rintro (h | h)
    · exact ⟨h.1, .inl h.2⟩
    · exact ⟨h.1, .inr h.2⟩
theorem fl5 : Kd.join.sem A B s ↔ Kd.join.sem B A s := by
  simp only [Kd.sem]
  constructor <;> rintro ⟨a, b, ha, hb, rfl⟩ <;> exact ⟨b, a, hb, ha, cup_comm _ _⟩
theorem fl6 : Kd.join.sem (Kd.join.sem A B) C s ↔ Kd.join.sem A (Kd.join.sem B C) s := by
  simp only [Kd.sem]
  constructor
  · rintro ⟨_, c, ⟨a, b, ha, hb, rfl⟩, hc, rfl⟩; exact ⟨a, _, ha, ⟨b, c, hb, hc, rfl⟩, cup_assoc _ _ _⟩
  · rintro ⟨a, _, ha, ⟨b, c, hb, hc, rfl⟩, rfl⟩; exact ⟨_, c, ⟨a, b, ha, hb, rfl⟩, hc, (cup_assoc _ _ _).symm⟩
theorem fl7 : Kd.join.sem A (Kd.or.sem B C) s ↔ Kd.or.sem (Kd.join.sem A B) (Kd.join.sem A C) s := by
  simp only [Kd.sem]
  constructor
  · rintro ⟨a, b, ha, hb | hb, e⟩
    · exact .inl ⟨a, b, ha, hb, e⟩
    · exact .inr ⟨a, b, ha, hb, e⟩
  · rintro (⟨a, b, ha, hb, e⟩ | ⟨a, b, ha, hb, e⟩)
    · exact ⟨a, b, ha, .inl hb, e⟩
    · exact ⟨a, b, ha, .inr hb, e⟩
theorem fl8 : Kd.join.sem A oneF s ↔ A s := by
  simp only [Kd.sem, oneF]
  constructor
  · rintro ⟨a, b, ha, hb, rfl⟩; rw [cup_comm, cup_none b hb]; exact ha
  · intro h; exact ⟨s, fun _ => false, h, fun _ => rfl, by rw [cup_comm, cup_none _ (fun _ => rfl)]⟩
end
end Go.Proofs.Ytmlnfbageoabnaa
