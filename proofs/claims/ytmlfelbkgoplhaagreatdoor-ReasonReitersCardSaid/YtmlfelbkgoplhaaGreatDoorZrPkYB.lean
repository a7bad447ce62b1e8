import Derived.Test.YtmlfelbkgoplhaaGreatDoorZrPkYA
import Derived.Test.YtmlfelbkgoplhaaGreatDoorZrKey2
import Derived.Laws.EntriesVeiled
set_option linter.unusedVariables false
set_option linter.unusedSimpArgs false
namespace Go.Proofs.YtmlfelbkgoplhaaGreatDoor
open Go.RowKit
def Kd.efn : Kd → Nat
 | .or => 190
 | .and => 190
 | .less => 190
 | .join => 192
 | .free => 227
def Kd.mfn : Kd → Nat
 | .or => 191
 | .and => 191
 | .less => 191
 | .join => 193
 | .free => 228
@[go_sem] theorem call_efn (k : Kd) (args : Array Value) (w : World) : Sem.run Tryz.prog (callFunc k.efn args) w = .ok (.enter k.efn args) w:=by
 cases k
 · exact Tryz.call190 args w
 · exact Tryz.call190 args w
 · exact Tryz.call190 args w
 · exact Tryz.call192 args w
 · exact Tryz.call227 args w
@[go_sem] theorem call_mfn (k : Kd) (args : Array Value) (w : World) : Sem.run Tryz.prog (callFunc k.mfn args) w = .ok (.enter k.mfn args) w:=by
 cases k
 · exact Tryz.call191 args w
 · exact Tryz.call191 args w
 · exact Tryz.call191 args w
 · exact Tryz.call193 args w
 · exact Tryz.call228 args w
def yR (s : Fb) (md : Nat) (k : Nat) : Prop:=s.b.mem k ∨ k = md
structure Cb where
 e : Nat
 d : Nat
 s : Nat
 m : Nat
 a : Nat
 s2 : Nat
def zcz (q : Cb) : Value:=.func (.func 225) #[] #[.pointer (some ⟨q.e,0,none⟩),.pointer (some ⟨q.d,0,none⟩),.pointer (some ⟨q.s,0,none⟩),.pointer (some ⟨q.m,0,none⟩),.pointer (some ⟨q.a,0,none⟩)]
structure Env (w : World) (k : Kd) (s : Fb) (md : Nat) (q : Cb) : Prop where
 he : w.heap[q.e]? = some (.cells #[.func (.func k.efn) #[] #[]] 284 (0,0))
 hd : w.heap[q.d]? = some (.cells #[.map (some md)] 312 (0,0))
 hst : w.heap[q.s]? = some (.cells #[.pointer (some ⟨s.ps,0,none⟩)] 172 (0,0))
 hm : w.heap[q.m]? = some (.cells #[.func (.func k.mfn) #[] #[.pointer (some ⟨q.s2,0,none⟩)]] 285 (0,0))
 ha : w.heap[q.a]? = some (.cells #[zcz q] 109 (0,0))
 hs2 : w.heap[q.s2]? = some (.cells #[.pointer (some ⟨s.ps,0,none⟩)] 172 (0,0))
 off : ¬ yR s md q.e ∧ ¬ yR s md q.d ∧ ¬ yR s md q.s ∧ ¬ yR s md q.m ∧ ¬ yR s md q.a ∧ ¬ yR s md q.s2
 md : ¬ s.b.mem md ∧ s.ps ≠ md
section
variable {w w2 : World} {k : Kd} {s : Fb} {md : Nat} {q : Cb}
theorem Env.only (h : Env w k s md q) (ho : Only (yR s md) w w2) : Env w2 k s md q:=by
 have key : ∀ {b : Nat} {o : Obj},w.heap[b]? = some o → ¬ yR s md b → w2.heap[b]? = some o:=fun {b o} e hn => (ho.block b (Array.getElem?_eq_some_iff.1 e).1 hn).trans e
 exact ⟨key h.he h.off.1,key h.hd h.off.2.1,key h.hst h.off.2.2.1,key h.hm h.off.2.2.2.1,key h.ha h.off.2.2.2.2.1,key h.hs2 h.off.2.2.2.2.2,h.off,h.md⟩
theorem Env.below (h : Env w k s md q) (hb : Below w.heap.size w w2) : Env w2 k s md q:=h.only (Only.of_below hb rfl)
theorem Env.ce (h : Env w k s md q) : w.cell? ⟨q.e,0,none⟩ = some (.func (.func k.efn) #[] #[]):=zco h.he
theorem Env.cd (h : Env w k s md q) : w.cell? ⟨q.d,0,none⟩ = some (.map (some md)):=zco h.hd
theorem Env.cs (h : Env w k s md q) : w.cell? ⟨q.s,0,none⟩ = some (.pointer (some ⟨s.ps,0,none⟩)):=zco h.hst
theorem Env.cm (h : Env w k s md q) : w.cell? ⟨q.m,0,none⟩ = some (.func (.func k.mfn) #[] #[.pointer (some ⟨q.s2,0,none⟩)]):=zco h.hm
theorem Env.ca (h : Env w k s md q) : w.cell? ⟨q.a,0,none⟩ = some (zcz q):=zco h.ha
theorem Env.cs2 (h : Env w k s md q) : w.cell? ⟨q.s2,0,none⟩ = some (.pointer (some ⟨s.ps,0,none⟩)):=zco h.hs2
theorem zaB (s : Fb) (md : Nat) : ∀ k,s.b.mem k → yR s md k:=fun k hk => .inl hk
end
structure zd2 (k : Kd) (c : Cells) (a b x : Int) : Prop where
 ha : zx c a = true
 hb : zx c b = true
 hx : zx c x = true
 z : ∀ s,Z c x s ↔ k.sem (Z c a) (Z c b) s
 top : min (zk c a) (zk c b) ≤ zk c x
theorem zd2.ext {k : Kd} {c c' : Cells} {a b x : Int} (g : zd2 k c a b x) (o : Ok c) (o' : Ok c') (e : Ext c c') : zd2 k c' a b x :=
 ⟨e.has g.ha,e.has g.hb,e.has g.hx,fun s => (jL o o' e x g.hx s).trans ((g.z s).trans (k.qZ (fun s => (jL o o' e a g.ha s).symm) (fun s => (jL o o' e b g.hb s).symm) s)),by rw [e.top g.ha,e.top g.hb,e.top g.hx];exact g.top⟩
def xg (w : World) (md : Nat) (k : Kd) (c : Cells) : Prop:=∃ mq,MapOf w md enc2 mq ∧ ∀ a b v,assoc mq (a,b) = some v → ∃ x,v = .int .i64 x ∧ zd2 k c a b x
section
variable {w w2 : World} {k : Kd} {s : Fb} {md : Nat} {c c' : Cells}
theorem xg.lt (h : xg w md k c) : md < w.heap.size:=by obtain ⟨mq,hm,_⟩:=h;exact hm.lt
theorem xg.keep (h : xg w md k c) (hb : w2.heap[md]? = w.heap[md]?) : xg w2 md k c:=by
 obtain ⟨mq,hm,hg⟩:=h;exact ⟨mq,hm.yX hb,hg⟩
theorem xg.ext (h : xg w md k c) (o : Ok c) (o' : Ok c') (e : Ext c c') : xg w md k c':=by
 obtain ⟨mq,hm,hg⟩:=h
 refine ⟨mq,hm,fun a b v hv => ?_⟩
 obtain ⟨x,hx,g⟩:=hg a b v hv
 exact ⟨x,hx,g.ext o o' e⟩
theorem xg.below (h : xg w md k c) (hb : Below w.heap.size w w2) : xg w2 md k c:=h.keep (hb.block md h.lt)
end
structure WOk (V L : Int) (k : Kd) (c c' : Cells) (a b x : Int) : Prop where
 zok : ZOk V c'
 ext : Ext c c'
 has : zx c' x = true
 z : ∀ s,Z c' x s ↔ k.sem (Z c a) (Z c b) s
 top : min (zk c a) (zk c b) ≤ zk c' x
 cnt : yh L c' ≤ yh L c + k.cost (L - min (zk c a) (zk c b)).toNat
def zf0 (V L : Int) (k : Kd) (s : Fb) (c : Cells) (a b : Int) (w : World) (e : Ending) (w' : World) : Prop :=
 ∃ c' x,e = .returned (.tuple #[.int .i64 x,.nilIface]) ∧ zw w' s V c' ∧ Only s.b.mem w w' ∧ WOk V L k c c' a b x
def WPost (V L : Int) (k : Kd) (s : Fb) (md : Nat) (c : Cells) (a b : Int) (w : World) (e : Ending) (w' : World) : Prop :=
 ∃ c' x,e = .returned (.tuple #[.int .i64 x,.nilIface]) ∧ zw w' s V c' ∧ xg w' md k c' ∧ Only (yR s md) w w' ∧ WOk V L k c c' a b x
def zdd (q : Cb) (a b : Int) : Array Value:=#[.int .i64 a,.int .i64 b,.pointer (some ⟨q.e,0,none⟩),.pointer (some ⟨q.d,0,none⟩),.pointer (some ⟨q.s,0,none⟩),.pointer (some ⟨q.m,0,none⟩),.pointer (some ⟨q.a,0,none⟩)]
def zaV (V L : Int) (k : Kd) (s : Fb) (md : Nat) (q : Cb) (f : Nat) : Prop:=∀ (a b : Int) (w : World) (c : Cells),zw w s V c → xg w md k c → Env w k s md q → ZOk V c → zx c a = true → zx c b = true →
 (24 - min (zk c a) (zk c b)).toNat < f → yh L c + k.cost (L - min (zk c a) (zk c b)).toNat + hiB V L < c.length →
 Calls Tryz.prog 225 (zdd q a b) w (WPost V L k s md c a b w)
def Kd.mix : Kd → Int → Fam → Fam → Fam → Fam → Fam
 | .or,v,A0,A1,B0,B1 => kQ v (Kd.or.sem A0 B0) (Kd.or.sem A1 B1)
 | .and,v,A0,A1,B0,B1 => kQ v (Kd.and.sem A0 B0) (Kd.and.sem A1 B1)
 | .less,v,A0,A1,B0,B1 => kQ v (Kd.less.sem A0 B0) (Kd.less.sem A1 B1)
 | .join,v,A0,A1,B0,B1 => kQ v (Kd.join.sem A0 B0) (Kd.or.sem (Kd.or.sem (Kd.or.sem (fun _ => False) (Kd.join.sem A1 B1)) (Kd.join.sem A1 B0)) (Kd.join.sem A0 B1))
 | .free,v,A0,A1,B0,B1 => kQ v (Kd.free.sem A0 B0) (Kd.free.sem (Kd.free.sem A1 B0) B1)
theorem Kd.zqC (k : Kd) (v : Int) (F G : Fam) (s : St) : k.mix v (without v F) (qy v F) (without v G) (qy v G) s ↔ k.sem F G s:=by
 cases k
 · exact zrP v F G s
 · exact zqO v F G s
 · exact zoR v F G s
 · exact zpo v F G s
 · exact zpD v F G s
theorem Kd.zof (k : Kd) (v : Int) {A0 A1 B0 B1 C0 C1 D0 D1 : Fam} (h0 : ∀ s,A0 s ↔ C0 s) (h1 : ∀ s,A1 s ↔ C1 s) (h2 : ∀ s,B0 s ↔ D0 s) (h3 : ∀ s,B1 s ↔ D1 s) (s : St) : k.mix v A0 A1 B0 B1 s ↔ k.mix v C0 C1 D0 D1 s:=by
 have e0 : A0 = C0:=funext fun s => propext (h0 s)
 have e1 : A1 = C1:=funext fun s => propext (h1 s)
 have e2 : B0 = D0:=funext fun s => propext (h2 s)
 have e3 : B1 = D1:=funext fun s => propext (h3 s)
 subst e0 e1 e2 e3
 exact Iff.rfl
structure MOk (V L : Int) (k : Kd) (c c' : Cells) (v a0 a1 b0 b1 x : Int) : Prop where
 zok : ZOk V c'
 ext : Ext c c'
 has : zx c' x = true
 z : ∀ s,Z c' x s ↔ k.mix v (Z c a0) (Z c a1) (Z c b0) (Z c b1) s
 top : v ≤ zk c' x
 cnt : yh L c' ≤ yh L c + k.cost (L - v).toNat
def MPost (V L : Int) (k : Kd) (s : Fb) (md : Nat) (c : Cells) (v a0 a1 b0 b1 : Int) (w : World) (e : Ending) (w' : World) : Prop :=
 ∃ c' x,e = .returned (.tuple #[.int .i64 x,.nilIface]) ∧ zw w' s V c' ∧ xg w' md k c' ∧ Only (yR s md) w w' ∧ MOk V L k c c' v a0 a1 b0 b1 x
def zjT (q : Cb) (v a0 a1 b0 b1 : Int) : Array Value:=#[.int .i64 v,.int .i64 a0,.int .i64 a1,.int .i64 b0,.int .i64 b1,zcz q,.pointer (some ⟨q.s2,0,none⟩)]
def zmw (V L : Int) (k : Kd) (s : Fb) (md : Nat) (q : Cb) (f : Nat) : Prop:=∀ (v a0 a1 b0 b1 : Int) (w : World) (c : Cells),zw w s V c → xg w md k c → Env w k s md q → ZOk V c →
 zx c a0 = true → zx c a1 = true → zx c b0 = true → zx c b1 = true → v < zk c a0 → v < zk c a1 → v < zk c b0 → v < zk c b1 → 0 ≤ v → v < V → (24 - v).toNat < f + 1 → yh L c + k.cost (L - v).toNat + hiB V L < c.length →
 Calls Tryz.prog k.mfn (zjT q v a0 a1 b0 b1) w (MPost V L k s md c v a0 a1 b0 b1 w)
theorem zaq (L v : Int) : 2 * yD (L - (v + 1)).toNat + (if v < L then 1 else 0) = yD (L - v).toNat:=by
 by_cases e : v < L
 · rw [if_pos e,show (L - v).toNat = (L - (v + 1)).toNat + 1 by omega];rfl
 · rw [if_neg e,show (L - v).toNat = 0 by omega,show (L - (v + 1)).toNat = 0 by omega];rfl
theorem zgO (L v : Int) : 4 * qJ (L - (v + 1)).toNat + 3 * yD (L - (v + 1)).toNat + (if v < L then 1 else 0) = qJ (L - v).toNat:=by
 by_cases e : v < L
 · rw [if_pos e,show (L - v).toNat = (L - (v + 1)).toNat + 1 by omega];rfl
 · rw [if_neg e,show (L - v).toNat = 0 by omega,show (L - (v + 1)).toNat = 0 by omega];rfl
theorem zgN (L v : Int) : 3 * zay (L - (v + 1)).toNat + (if v < L then 1 else 0) = zay (L - v).toNat:=by
 by_cases e : v < L
 · rw [if_pos e,show (L - v).toNat = (L - (v + 1)).toNat + 1 by omega];rfl
 · rw [if_neg e,show (L - v).toNat = 0 by omega,show (L - (v + 1)).toNat = 0 by omega];rfl
theorem zoA (k : Kd) (L v : Int) {m : Int} (h : v < m) : k.cost (L - m).toNat ≤ k.cost (L - (v + 1)).toNat:=k.zeL (by omega)
def EPost (k : Kd) (a b : Int) (w : World) (e : Ending) (w' : World) : Prop:=e = .returned (.tuple #[.int .i64 ((k.ends a b).getD 0),.bool (k.ends a b).isSome]) ∧ w = w'
set_option maxHeartbeats 1000000 in
theorem zq1 (a b : Int) (w : World) : Calls Tryz.prog 190 #[.int .i64 a,.int .i64 b] w (EPost .or a b w):=by
 by_cases h0 : a = 0
 ·
  have er : Kd.or.ends a b = some b:=by simp_all [Kd.ends]
  unfold EPost;rw [er];clear er
  obtain rfl:=h0
  go_enter Tryz.func190,Tryz.ntmps190
  go_wp2_with fail
  go_ret2
  exact ⟨rfl,rfl⟩
 ·
  skip
  by_cases h1 : a = b
  ·
   have er : Kd.or.ends a b = some b:=by simp_all [Kd.ends]
   unfold EPost;rw [er];clear er
   have e0 : (a == 0) = false:=by simpa using h0
   clear h0
   obtain rfl:=h1
   go_enter Tryz.func190,Tryz.ntmps190
   go_wp2_with fail
   go_ret2
   exact ⟨rfl,rfl⟩
  ·
   skip
   by_cases h2 : b = 0
   ·
    have er : Kd.or.ends a b = some a:=by simp_all [Kd.ends]
    unfold EPost;rw [er];clear er
    have e0 : (a == 0) = false:=by simpa using h0
    have e1 : (a == b) = false:=by simpa using h1
    clear h0 h1
    obtain rfl:=h2
    go_enter Tryz.func190,Tryz.ntmps190
    go_wp2_with fail
    go_ret2
    exact ⟨rfl,rfl⟩
   ·
    skip
    have er : Kd.or.ends a b = none:=by simp_all [Kd.ends]
    unfold EPost;rw [er];clear er
    have e0 : (a == 0) = false:=by simpa using h0
    have e1 : (a == b) = false:=by simpa using h1
    have e2 : (b == 0) = false:=by simpa using h2
    clear h0 h1 h2
    go_enter Tryz.func190,Tryz.ntmps190
    go_wp2_with fail
    go_ret2
    exact ⟨rfl,rfl⟩
set_option maxHeartbeats 1000000 in
theorem zne (a b : Int) (w : World) : Calls Tryz.prog 192 #[.int .i64 a,.int .i64 b] w (EPost .join a b w):=by
 by_cases h0 : a = 0
 ·
  have er : Kd.join.ends a b = some 0:=by simp_all [Kd.ends]
  unfold EPost;rw [er];clear er
  obtain rfl:=h0
  go_enter Tryz.func192,Tryz.ntmps192
  go_wp2_with fail
  go_ret2
  exact ⟨rfl,rfl⟩
 ·
  skip
  by_cases h1 : b = 0
  ·
   have er : Kd.join.ends a b = some 0:=by simp_all [Kd.ends]
   unfold EPost;rw [er];clear er
   have e0 : (a == 0) = false:=by simpa using h0
   clear h0
   obtain rfl:=h1
   go_enter Tryz.func192,Tryz.ntmps192
   go_wp2_with fail
   go_ret2
   exact ⟨rfl,rfl⟩
  ·
   skip
   by_cases h2 : a = 1
   ·
    have er : Kd.join.ends a b = some b:=by simp_all [Kd.ends]
    unfold EPost;rw [er];clear er
    have e0 : (a == 0) = false:=by simpa using h0
    have e1 : (b == 0) = false:=by simpa using h1
    clear h0 h1
    obtain rfl:=h2
    go_enter Tryz.func192,Tryz.ntmps192
    go_wp2_with fail
    go_ret2
    exact ⟨rfl,rfl⟩
   ·
    skip
    by_cases h3 : b = 1
    ·
     have er : Kd.join.ends a b = some a:=by simp_all [Kd.ends]
     unfold EPost;rw [er];clear er
     have e0 : (a == 0) = false:=by simpa using h0
     have e1 : (b == 0) = false:=by simpa using h1
     have e2 : (a == 1) = false:=by simpa using h2
     clear h0 h1 h2
     obtain rfl:=h3
     go_enter Tryz.func192,Tryz.ntmps192
     go_wp2_with fail
     go_ret2
     exact ⟨rfl,rfl⟩
    ·
     skip
     have er : Kd.join.ends a b = none:=by simp_all [Kd.ends]
     unfold EPost;rw [er];clear er
     have e0 : (a == 0) = false:=by simpa using h0
     have e1 : (b == 0) = false:=by simpa using h1
     have e2 : (a == 1) = false:=by simpa using h2
     have e3 : (b == 1) = false:=by simpa using h3
     clear h0 h1 h2 h3
     go_enter Tryz.func192,Tryz.ntmps192
     go_wp2_with fail
     go_ret2
     exact ⟨rfl,rfl⟩
set_option maxHeartbeats 1000000 in
theorem znJ (a b : Int) (w : World) : Calls Tryz.prog 227 #[.int .i64 a,.int .i64 b] w (EPost .free a b w):=by
 by_cases h0 : b = 0
 ·
  have er : Kd.free.ends a b = some a:=by simp_all [Kd.ends]
  unfold EPost;rw [er];clear er
  obtain rfl:=h0
  go_enter Tryz.func227,Tryz.ntmps227
  go_wp2_with fail
  go_ret2
  exact ⟨rfl,rfl⟩
 ·
  skip
  by_cases h1 : b = 1
  ·
   have er : Kd.free.ends a b = some 0:=by simp_all [Kd.ends]
   unfold EPost;rw [er];clear er
   have e0 : (b == 0) = false:=by simpa using h0
   clear h0
   obtain rfl:=h1
   go_enter Tryz.func227,Tryz.ntmps227
   go_wp2_with fail
   go_ret2
   exact ⟨rfl,rfl⟩
  ·
   skip
   by_cases h2 : a = 0
   ·
    have er : Kd.free.ends a b = some 0:=by simp_all [Kd.ends]
    unfold EPost;rw [er];clear er
    have e0 : (b == 0) = false:=by simpa using h0
    have e1 : (b == 1) = false:=by simpa using h1
    clear h0 h1
    obtain rfl:=h2
    go_enter Tryz.func227,Tryz.ntmps227
    go_wp2_with fail
    go_ret2
    exact ⟨rfl,rfl⟩
   ·
    skip
    by_cases h3 : a = b
    ·
     have er : Kd.free.ends a b = some 0:=by simp_all [Kd.ends]
     unfold EPost;rw [er];clear er
     have e0 : (b == 0) = false:=by simpa using h0
     have e1 : (b == 1) = false:=by simpa using h1
     have e2 : (a == 0) = false:=by simpa using h2
     clear h0 h1 h2
     obtain rfl:=h3
     go_enter Tryz.func227,Tryz.ntmps227
     go_wp2_with fail
     go_ret2
     exact ⟨rfl,rfl⟩
    ·
     skip
     have er : Kd.free.ends a b = none:=by simp_all [Kd.ends]
     unfold EPost;rw [er];clear er
     have e0 : (b == 0) = false:=by simpa using h0
     have e1 : (b == 1) = false:=by simpa using h1
     have e2 : (a == 0) = false:=by simpa using h2
     have e3 : (a == b) = false:=by simpa using h3
     clear h0 h1 h2 h3
     go_enter Tryz.func227,Tryz.ntmps227
     go_wp2_with fail
     go_ret2
     exact ⟨rfl,rfl⟩
def Kd.here : Kd → Prop
 | .or => True
 | .join => True
 | .free => True
 | .and => False
 | .less => False
theorem zoM (k : Kd) (hk : k.here) (a b : Int) (w : World) : Calls Tryz.prog k.efn #[.int .i64 a,.int .i64 b] w (EPost k a b w):=by
 cases k
 · exact zq1 a b w
 · exact hk.elim
 · exact hk.elim
 · exact zne a b w
 · exact znJ a b w
structure ASt (w wr : World) (s : Fb) (V : Int) (c : Cells) (md : Nat) (k : Kd) (q : Cb) (a b : Int) : Prop where
 st : zw wr s V c
 memo : xg wr md k c
 env : Env wr k s md q
 only : Only (yR s md) w wr
 lt : w.heap.size < wr.heap.size
 off : ∀ j,yR s md j → j < w.heap.size
 b0 : wr.cell? ⟨w.heap.size,0,none⟩ = some (.int .i64 a)
 b1 : wr.cell? ⟨w.heap.size,1,none⟩ = some (.int .i64 b)
section
variable {w wr w2 : World} {s : Fb} {V : Int} {c c' : Cells} {md : Nat} {k : Kd} {q : Cb} {a b : Int}
theorem ASt.grow (h : ASt w wr s V c md k q a b) (hb : Below wr.heap.size wr w2) : ASt w w2 s V c md k q a b :=
 ⟨h.st.below hb,h.memo.below hb,h.env.below hb,h.only.trans (Only.of_below hb rfl),Nat.lt_of_lt_of_le h.lt hb.size,h.off,(hb.cell h.lt).trans h.b0,(hb.cell h.lt).trans h.b1⟩
theorem ASt.step (h : ASt w wr s V c md k q a b) (hs : zw w2 s V c') (hm : xg w2 md k c') (ho : Only (yR s md) wr w2) : ASt w w2 s V c' md k q a b:=by
 have hn : ¬ yR s md w.heap.size:=fun hk => by have:=h.off _ hk;omega
 exact ⟨hs,hm,h.env.only ho,h.only.trans ho,Nat.lt_of_lt_of_le h.lt ho.size,h.off,(ho.cell h.lt hn).trans h.b0,(ho.cell h.lt hn).trans h.b1⟩
theorem znX (hs : zw w s V c) (hm : xg w md k c) (he : Env w k s md q) : ASt w (w.alloc (.cells #[.int .i64 a,.int .i64 b] 255)) s V c md k q a b:=by
 have hb : Below w.heap.size w (w.alloc (.cells #[.int .i64 a,.int .i64 b] 255)):=zba
 exact ⟨hs.below hb,hm.below hb,he.below hb,Only.of_below hb rfl,by simp,fun j hj => hj.elim (fun h => hs.lt h) (fun h => h ▸ hm.lt),by simp,by simp⟩
theorem ASt.put (h : ASt w wr s V c md k q a b) {mq : List ((Int × Int) × Value)} (hg : ∀ x y v,assoc mq (x,y) = some v → ∃ z,v = .int .i64 z ∧ zd2 k c x y z) {x : Int} (g : zd2 k c a b x) {o : Obj} (hm : MapOf (zy wr md o) md enc2 (zN mq (a,b) (.int .i64 x))) :
 zw (zy wr md o) s V c ∧ xg (zy wr md o) md k c ∧ Only (yR s md) w (zy wr md o):=by
 have ho : Only (· = md) wr (zy wr md o):=⟨rfl,rfl,rfl,by simp [zy],fun k _ hk => yC o hk⟩
 refine ⟨h.st.only ho (fun e => h.env.md.2 e) (fun j hj e => h.env.md.1 (e ▸ hj)),⟨_,hm,fun x' y' v hv => ?_⟩,h.only.trans (ho.mono fun j hj => .inr hj)⟩
 rw [xw] at hv
 split at hv
 ·
  rename_i e
  simp only [Prod.mk.injEq] at e
  obtain ⟨rfl,rfl⟩:=e
  cases hv
  exact ⟨x,rfl,g⟩
 · exact hg x' y' v hv
end
theorem zie {V L : Int} {k : Kd} {c : Cells} {a b x : Int} (o : ZOk V c) (g : zd2 k c a b x) : WOk V L k c c a b x :=
 ⟨o,Ext.refl _,g.hx,g.z,g.top,Nat.le_add_right _ _⟩
theorem zoa {V : Int} {k : Kd} {c : Cells} {a b x : Int} (o : ZOk V c) (ha : zx c a = true) (hb : zx c b = true) (e : k.ends a b = some x) : zd2 k c a b x:=by
 obtain ⟨h1,h2,h3⟩:=zlr o.ok k ha hb e
 exact ⟨ha,hb,h1,h2,h3⟩
theorem zqH {V L : Int} {k : Kd} {c c' : Cells} {a b v x : Int} (hv : v = min (zk c a) (zk c b)) (A : AtZ c a v (atZ c a v)) (B : AtZ c b v (atZ c b v)) (m : MOk V L k c c' v (atZ c a v).1 (atZ c a v).2 (atZ c b v).1 (atZ c b v).2 x) : WOk V L k c c' a b x :=
 ⟨m.zok,m.ext,m.has,fun s => (m.z s).trans ((k.zof v A.z1 A.z2 B.z1 B.z2 s).trans (k.zqC v _ _ s)),by rw [← hv];exact m.top,by rw [← hv];exact m.cnt⟩
theorem zql {V L : Int} {k : Kd} {c c' : Cells} {a b x : Int} (o : ZOk V c) (ha : zx c a = true) (hb : zx c b = true) (h : WOk V L k c c' a b x) : zd2 k c' a b x :=
 ⟨h.ext.has ha,h.ext.has hb,h.has,fun s => (h.z s).trans (k.qZ (fun s => (jL o.ok h.zok.ok h.ext a ha s).symm) (fun s => (jL o.ok h.zok.ok h.ext b hb s).symm) s),by rw [h.ext.top ha,h.ext.top hb];exact h.top⟩
set_option maxRecDepth 100000 in
set_option maxHeartbeats 8000000 in
theorem zdo {V L : Int} (hV : V ≤ 24) {k : Kd} (hk : k.here) {s : Fb} {md : Nat} {q : Cb} {f : Nat} (hmix : zmw V L k s md q f) : zaV V L k s md q (f + 1):=by
 intro a b w c hs hm he zo ha hb hf hr
 have Hmix:=hid hmix
 have la:=hs.le ha
 have lb:=hs.le hb
 have ce:=he.ce
 have Hs:=hid hs;have Hm:=hid hm;have He:=hid he;have Hz:=hid zo;have Hha:=hid ha;have Hhb:=hid hb;have Hf:=hid hf;have Hr:=hid hr
 have Hen:=hid (zoM k hk a b w)
 clear hmix hs hm he zo ha hb hf hr
 unfold zdd
 cases hE : k.ends a b with
 | some x =>
  have HE:=hid hE;clear hE
  go_enter Tryz.func225,Tryz.ntmps225
  go_wp2_with fail
  refine Hen.out.mono ?_
  rintro e w1 ⟨rfl,rfl⟩
  rw [HE.out]
  simp only [Option.getD_some,Option.isSome_some]
  go_wp2_with fail
  go_ret2
  exact ⟨c,x,rfl,Hs.out,Hm.out,Only.refl _ _,zie Hz.out (zoa Hz.out Hha.out Hhb.out HE.out)⟩
 | none =>
  have HE:=hid hE;clear hE
  go_enter Tryz.func225,Tryz.ntmps225
  go_wp2_with fail
  refine Hen.out.mono ?_
  rintro e w1 ⟨rfl,rfl⟩
  rw [HE.out]
  simp only [Option.getD_none,Option.isSome_none]
  have hi0:=znX (a:=a) (b:=b) Hs.out Hm.out He.out
  have cd:=hi0.env.cd
  have b0:=hi0.b0
  have b1:=hi0.b1
  obtain ⟨mq,hmq,hg⟩:=hi0.memo
  have Hi0:=hid hi0;have Hmq:=hid hmq;have Hg:=hid hg;clear hi0 hmq hg
  cases hv : assoc mq (a,b) with
  | some v =>
   obtain ⟨x,rfl,g⟩:=Hg.out a b v hv
   have G:=hid g;have Hv:=hid hv;clear g hv
   go_wp2_with (at_lookup;refine xA rfl (.tmp 36) (.tmp 37) 312 true rfl (kt:=255) (et:=3) (enc:=enc2) key2 Tryz.underlying312 (zeg _) (b:=md) rfl (l:=mq) Hmq.out (k:=(a,b)) rfl ?_;rw [Hv.out];simp only [Option.getD_some,Option.isSome_some,if_true])
   go_ret2
   exact ⟨c,x,rfl,Hi0.out.st,Hi0.out.memo,Hi0.out.only,zie Hz.out G.out⟩
  | none =>
   have Hv:=hid hv;clear hv
   go_wp2_with (at_lookup;refine xA rfl (.tmp 36) (.tmp 37) 312 true rfl (kt:=255) (et:=3) (enc:=enc2) key2 Tryz.underlying312 (zeg _) (b:=md) rfl (l:=mq) Hmq.out (k:=(a,b)) rfl ?_;rw [Hv.out];simp only [Option.getD_none,Option.isSome_none,if_true])
   clear cd b0 b1 ce Hmq Hg Hv Hen
   obtain ⟨hvV,hv0⟩:=zog Hz.out k Hha.out Hhb.out HE.out
   obtain ⟨v,hv⟩ : ∃ v,v = min (zk c a) (zk c b):=⟨_,rfl⟩
   have hva : v ≤ zk c a:=by omega
   have hvb : v ≤ zk c b:=by omega
   rw [← hv] at hvV hv0
   have A:=zjX Hz.out.ok Hha.out hva (by omega)
   have B:=zjX Hz.out.ok Hhb.out hvb (by omega)
   have hf2:=Hf.out
   have hr2:=Hr.out
   rw [← hv] at hf2 hr2
   obtain ⟨ta,hta⟩ : ∃ t,t = zk c a:=⟨_,rfl⟩
   obtain ⟨tb,htb⟩ : ∃ t,t = zk c b:=⟨_,rfl⟩
   have hmin : (if tb < ta then tb else ta) = v:=by rw [hv,← hta,← htb];split <;> omega
   have Hta:=hid hta.symm;have Htb:=hid htb.symm;have Hmin:=hid hmin;have HA:=hid A;have HB:=hid B;have HvV:=hid hvV;have Hv0:=hid hv0;have Hv:=hid hv;have Hf2:=hid hf2;have Hr2:=hid hr2
   clear hta htb hmin A B hvV hv0 hv hf2 hr2 hva hvb
   generalize w.alloc (.cells #[.int .i64 a,.int .i64 b] 255) = w0 at Hi0 ⊢
   refine ji (fun w' => ASt w w' s V c md k q a b) (by kernel_rfl) (by kernel_rfl) (Hi0.out.grow (Below.refl _ _).drew) ?_
   go_big_quiet_want
   refine zC (.pointer (some ⟨s.ps,0,none⟩)) (fun w' hc => by have c4:=hc.env.cs;go_simp) ?_
   simp [Act.put]
   go_big_quiet_on
   go_big_quiet_want
   refine zC (.pointer (some ⟨s.ps,0,none⟩)) (fun w' hc => by go_simp) ?_
   simp [Act.put]
   go_big_quiet_on
   go_big_quiet_want
   refine zC (.pointer (some ⟨s.ps,0,none⟩)) (fun w' hc => by go_simp) ?_
   simp [Act.put]
   go_big_quiet_on
   go_big_quiet_want
   refine zC (.pointer (some ⟨s.b.p,0,none⟩)) (fun w' hc => by have c0:=hc.st.s0;go_simp) ?_
   simp [Act.put]
   go_big_quiet_on
   go_big_quiet_want
   go_big_quiet_op
   go_big_quiet_on
   go_big_quiet_want
   refine jv (.int .i64 ta) 59 #[.pointer (some ⟨s.b.p,0,none⟩),.int .i64 a] (fun w' => by go_simp) (fun w' hc => (zbG a w' s.b c hc.st.ar la).mono fun e w2 he => ⟨by rw [← Hta.out];exact he.1,hc.grow he.2⟩) ?_
   simp [Act.put]
   go_big_quiet_on
   go_big_quiet_want
   refine zC (.pointer (some ⟨s.ps,0,none⟩)) (fun w' hc => by have c4:=hc.env.cs;go_simp) ?_
   simp [Act.put]
   go_big_quiet_on
   go_big_quiet_want
   refine zC (.pointer (some ⟨s.ps,0,none⟩)) (fun w' hc => by go_simp) ?_
   simp [Act.put]
   go_big_quiet_on
   go_big_quiet_want
   refine zC (.pointer (some ⟨s.ps,0,none⟩)) (fun w' hc => by go_simp) ?_
   simp [Act.put]
   go_big_quiet_on
   go_big_quiet_want
   refine zC (.pointer (some ⟨s.b.p,0,none⟩)) (fun w' hc => by have c0:=hc.st.s0;go_simp) ?_
   simp [Act.put]
   go_big_quiet_on
   go_big_quiet_want
   go_big_quiet_op
   go_big_quiet_on
   go_big_quiet_want
   refine jv (.int .i64 tb) 59 #[.pointer (some ⟨s.b.p,0,none⟩),.int .i64 b] (fun w' => by go_simp) (fun w' hc => (zbG b w' s.b c hc.st.ar lb).mono fun e w2 he => ⟨by rw [← Htb.out];exact he.1,hc.grow he.2⟩) ?_
   simp [Act.put]
   go_big_quiet_on
   go_big_quiet_want
   refine zC (.int .i64 v) (fun w' hc => by have hm:=Hmin.out;have hm2 : min ta tb = v:=(by rw [← hm];split <;> omega);go_simp) ?_
   simp [Act.put]
   go_big_quiet_on
   go_big_quiet_want
   go_big_quiet_op
   go_big_quiet_on
   refine wpQuiet_nil ?_
   intro w1 hi1
   have c4:=hi1.env.cs
   have Hi1:=hid hi1;clear hi1 Hi0
   go_wp2_with fail
   refine (zl7 a v w1 s V c Hi1.out.st la).mono ?_
   rintro e w2 ⟨rfl,hb2⟩
   have Hi2:=hid (Hi1.out.grow hb2);clear hb2 Hi1 c4
   have c4:=Hi2.out.env.cs
   go_wp2_with fail
   refine (zl7 b v w2 s V c Hi2.out.st lb).mono ?_
   rintro e w3 ⟨rfl,hb3⟩
   have Hi3:=hid (Hi2.out.grow hb3);clear hb3 Hi2 c4
   have c5:=Hi3.out.env.cm
   have c6:=Hi3.out.env.ca
   unfold zcz at c6
   have hq:=Hmix.out v _ _ _ _ w3 c Hi3.out.st Hi3.out.memo Hi3.out.env Hz.out HA.out.has1 HA.out.has2 HB.out.has1 HB.out.has2 HA.out.top1 HA.out.top2 HB.out.top1 HB.out.top2 Hv0.out HvV.out Hf2.out Hr2.out
   unfold zjT zcz at hq
   have Hq:=hid hq;clear hq
   go_wp2_with fail
   refine Hq.out.mono ?_
   rintro e w4 ⟨c',x,rfl,hs4,hm4,ho4,hok4⟩
   have hwo:=zqH Hv.out HA.out HB.out hok4
   have hi4:=Hi3.out.step hs4 hm4 ho4
   obtain ⟨mq4,hmq4,hg4⟩:=hm4
   have cd:=hi4.env.cd
   have b0:=hi4.b0
   have b1:=hi4.b1
   have Hi4:=hid hi4;have Hmq4:=hid hmq4;have Hg4:=hid hg4;have Hwo:=hid hwo
   clear hi4 hmq4 hg4 hwo hs4 ho4 hok4 Hi3 Hq c5 c6
   go_wp2_with (at_mapUpdate;refine yY rfl (.tmp 83) (.tmp 84) (.tmp 85) 312 rfl (kt:=255) (et:=3) (enc:=enc2) key2 Tryz.underlying312 (b:=md) rfl (l:=mq4) Hmq4.out (k:=(a,b)) rfl (.int .i64 x) rfl ?_;intro ob hob;have hi8:=Hi4.out.put Hg4.out (zql Hz.out Hha.out Hhb.out Hwo.out) hob;have Hi8:=hid hi8;clear hi8 hob Hi4;generalize zy w4 md ob = w8 at Hi8 ⊢)
   go_ret2
   exact ⟨c',x,rfl,Hi8.out.1,Hi8.out.2.1,Hi8.out.2.2,Hwo.out⟩
section
variable {V L : Int} {k : Kd} {c c1 c2 : Cells} {v a0 a1 b0 b1 x1 x2 : Int}
theorem zbK {c : Cells} {p r v : Int} {f : Nat} (h1 : v < zk c p) (h2 : v < zk c r) (hv : v < 24) (hf : (24 - v).toNat < f + 1) : (24 - min (zk c p) (zk c r)).toNat < f:=by omega
theorem je {c : Cells} {p r v : Int} (k : Kd) (L : Int) (h1 : v < zk c p) (h2 : v < zk c r) : k.cost (L - min (zk c p) (zk c r)).toNat ≤ k.cost (L - (v + 1)).toNat:=zoA k L v (by omega)
theorem WOk.low {a b x : Int} (h : WOk V L k c c1 a b x) (ha : v < zk c a) (hb : v < zk c b) : v < zk c1 x ∧ yh L c1 ≤ yh L c + k.cost (L - (v + 1)).toNat:=by
 have h1:=h.top
 have h2:=h.cnt
 have h3:=je k L ha hb
 exact ⟨by omega,by omega⟩
theorem WOk.zz {a b x : Int} (h : WOk V L k c c1 a b x) (s : St) : Z c1 x s ↔ k.sem (Z c a) (Z c b) s:=h.z s
theorem WOk.old {a b x y : Int} (h : WOk V L k c c1 a b x) (o : ZOk V c) (hy : zx c y = true) (s : St) : Z c1 y s ↔ Z c y s:=jL o.ok h.zok.ok h.ext y hy s
theorem zbs {r : Cells × Int × Nat} (o : ZOk V c) (hv : v < V) (n : zfb L c v x1 x2 r) : ZOk V r.1:=⟨n.ok,n.red,fun j m hm => by
 rcases n.old j m hm with h | rfl
 · exact o.vlt j m h
 · exact hv⟩
theorem zqJ {r : Cells × Int × Nat} (hk : ∀ v A0 A1 B0 B1,k.mix v A0 A1 B0 B1 = kQ v (k.sem A0 B0) (k.sem A1 B1)) (hc : k.cost = yD) (o : ZOk V c) (hvV : v < V) (ha0 : zx c a0 = true) (ha1 : zx c a1 = true) (hb0 : zx c b0 = true) (hb1 : zx c b1 = true)
 (t0 : v < zk c a0) (t1 : v < zk c a1) (t2 : v < zk c b0) (t3 : v < zk c b1) (W1 : WOk V L k c c1 a0 b0 x1) (W2 : WOk V L k c1 c2 a1 b1 x2) (n : zfb L c2 v x1 x2 r) : MOk V L k c r.1 v a0 a1 b0 b1 r.2.1:=by
 have l1:=(W1.low t0 t2).2
 have l2:=(W2.low (v:=v) (by rw [W1.ext.top ha1];exact t1) (by rw [W1.ext.top hb1];exact t3)).2
 have l3:=n.cnt
 have cs:=zaq L v
 rw [hc] at l1 l2
 refine ⟨zbs W2.zok hvV n,(W1.ext.trans W2.ext).trans n.ext,n.has,fun s => (n.z s).trans ?_,n.top,by rw [hc];omega⟩
 rw [hk]
 refine kD (fun s => ?_) (fun s => ?_) s
 · rw [W2.old W1.zok W1.has];exact W1.z s
 · rw [W2.z];exact k.qZ (fun s => W1.old o ha1 s) (fun s => W1.old o hb1 s) s
theorem zp9 {c3 : Cells} {x3 : Int} {r : Cells × Int × Nat} (o : ZOk V c) (hvV : v < V) (ha0 : zx c a0 = true) (ha1 : zx c a1 = true) (hb0 : zx c b0 = true) (hb1 : zx c b1 = true)
 (t0 : v < zk c a0) (t1 : v < zk c a1) (t2 : v < zk c b0) (t3 : v < zk c b1) (W1 : WOk V L .free c c1 a0 b0 x1) (W2 : WOk V L .free c1 c2 a1 b0 x2) (W3 : WOk V L .free c2 c3 x2 b1 x3) (n : zfb L c3 v x1 x3 r) : MOk V L .free c r.1 v a0 a1 b0 b1 r.2.1:=by
 have l1:=(W1.low t0 t2).2
 have q2:=W2.low (v:=v) (by rw [W1.ext.top ha1];exact t1) (by rw [W1.ext.top hb0];exact t2)
 have l2:=q2.2
 have l3:=(W3.low (v:=v) q2.1 (by rw [W2.ext.top (W1.ext.has hb1),W1.ext.top hb1];exact t3)).2
 have l4:=n.cnt
 have cs:=zgN L v
 have hc : Kd.free.cost = zay:=rfl
 rw [hc] at l1 l2 l3
 refine ⟨zbs W3.zok hvV n,((W1.ext.trans W2.ext).trans W3.ext).trans n.ext,n.has,fun s => (n.z s).trans ?_,n.top,by rw [hc];omega⟩
 refine kD (fun s => ?_) (fun s => ?_) s
 · rw [W3.old W2.zok (W2.ext.has W1.has),W2.old W1.zok W1.has];exact W1.z s
 ·
  rw [W3.z]
  refine Kd.free.qZ (fun s => ?_) (fun s => ?_) s
  · rw [W2.z];exact Kd.free.qZ (fun s => W1.old o ha1 s) (fun s => W1.old o hb0 s) s
  · rw [W2.old W1.zok (W1.ext.has hb1)];exact W1.old o hb1 s
end
set_option maxRecDepth 100000 in
set_option maxHeartbeats 4000000 in
theorem zpO {V L : Int} (hV : V ≤ 24) (hL : V ≤ L + 3) {s : Fb} {md : Nat} {q : Cb} {f : Nat} (hag : zaV V L .or s md q f) : zmw V L .or s md q f:=by
 intro v a0 a1 b0 b1 w c hs hm he zo h1 h2 h3 h4 t1 t2 t3 t4 v0 vV hf hr
 have cs:=zaq L v
 have hc : Kd.or.cost = yD:=rfl
 have Hag:=hid hag;have Hcs:=hid cs;have Hc:=hid hc;have Hs:=hid hs;have Hm:=hid hm;have He:=hid he;have Hz:=hid zo;have H1:=hid h1;have H2:=hid h2;have H3:=hid h3;have H4:=hid h4
 have T1:=hid t1;have T2:=hid t2;have T3:=hid t3;have T4:=hid t4;have Hv0:=hid v0;have HvV:=hid vV;have Hf:=hid hf;have Hr:=hid hr
 have hq:=hag a0 b0 w c hs hm he zo h1 h3 (zbK t1 t3 (by omega) hf) (by have:=je Kd.or L t1 t3;rw [hc] at this hr;rw [hc];omega)
 unfold zdd at hq
 have Hq:=hid hq
 clear hag cs hc hs hm he zo h1 h2 h3 h4 t1 t2 t3 t4 v0 vV hf hr hq
 unfold zjT zcz
 show Calls Tryz.prog 191 _ _ _
 go_enter Tryz.func191,Tryz.ntmps191
 go_wp2_with fail
 refine Hq.out.mono ?_
 rintro e w1 ⟨c1,x1,rfl,hs1,hm1,ho1,W1⟩
 have l1:=W1.low T1.out T3.out
 have he1:=He.out.only ho1
 have t2' : v < zk c1 a1:=by rw [W1.ext.top H2.out];exact T2.out
 have t4' : v < zk c1 b1:=by rw [W1.ext.top H4.out];exact T4.out
 have hq:=Hag.out a1 b1 w1 c1 hs1 hm1 he1 W1.zok (W1.ext.has H2.out) (W1.ext.has H4.out) (zbK t2' t4' (by have:=HvV.out;omega) Hf.out) (by
  have h5:=je Kd.or L t2' t4';have h6:=Hr.out;have h7:=Hcs.out;have h8:=W1.ext.len;have h9:=l1.2;have h10:=Hc.out
  rw [h10] at h5 h6 h9;rw [h10];omega)
 unfold zdd at hq
 have Hq2:=hid hq;have HW1:=hid W1;have Ho1:=hid ho1;have L1:=hid l1;have He1:=hid he1
 clear hq W1 ho1 l1 he1 t2' t4' hs1 hm1 Hq Hs Hm
 go_wp2_with fail
 refine Hq2.out.mono ?_
 rintro e w2 ⟨c2,x2,rfl,hs2,hm2,ho2,W2⟩
 have l2:=W2.low (v:=v) (by rw [HW1.out.ext.top H2.out];exact T2.out) (by rw [HW1.out.ext.top H4.out];exact T4.out)
 have he2:=He1.out.only ho2
 have cs2:=he2.cs2
 have t5 : v < zk c2 x1:=by rw [W2.ext.top HW1.out.has];exact L1.out.1
 have hn:=ku L W2.zok.ok W2.zok.red Hv0.out (by have:=HvV.out;omega) (W2.ext.has HW1.out.has) W2.has t5 l2.1 (by
  have h5:=zbg W2.zok hL;have h6:=Hr.out;have h7:=Hcs.out;have h8:=HW1.out.ext.len;have h8':=W2.ext.len;have h9:=l2.2;have h9':=L1.out.2;have h10:=Hc.out
  rw [h10] at h6 h9 h9';omega)
 have mk:=zqJ (k:=.or) (fun _ _ _ _ _ => rfl) Hc.out Hz.out HvV.out H1.out H2.out H3.out H4.out T1.out T2.out T3.out T4.out HW1.out W2 hn
 have hq:=zad v x1 x2 w2 s V c2 hs2 (hs2.le (W2.ext.has HW1.out.has)) (hs2.le W2.has)
 rw [hn.err] at hq
 simp only [ziB,if_true] at hq
 have hmem:=hm2.ext W2.zok.ok mk.zok.ok hn.ext
 generalize jY c2 v x1 x2 = R at hq mk hmem
 obtain ⟨c3,x3,n3⟩:=R
 dsimp only at hq mk hmem
 have Hq3:=hid hq;have Hmk:=hid mk;have Hmem:=hid hmem;have Ho2:=hid ho2;have He2:=hid he2
 clear hq mk hmem ho2 he2 hn W2 l2 t5 hs2 hm2 Hq2
 go_wp2_with fail
 refine Hq3.out.mono ?_
 rintro e w3 ⟨rfl,hs3,ho3⟩
 have Hs3:=hid hs3;have Ho3:=hid ho3;clear hs3 ho3 cs2
 go_wp2_with fail
 go_ret2
 exact ⟨c3,x3,rfl,Hs3.out,Hmem.out.keep (Ho3.out.block _ Hmem.out.lt He2.out.md.1),(Ho1.out.trans Ho2.out).trans (Ho3.out.mono (zaB s md)),Hmk.out⟩
set_option maxRecDepth 100000 in
set_option maxHeartbeats 4000000 in
theorem zlQ {V L : Int} (hV : V ≤ 24) (hL : V ≤ L + 3) {s : Fb} {md : Nat} {q : Cb} {f : Nat} (hag : zaV V L .free s md q f) : zmw V L .free s md q f:=by
 intro v a0 a1 b0 b1 w c hs hm he zo h1 h2 h3 h4 t1 t2 t3 t4 v0 vV hf hr
 have cs:=zgN L v
 have hc : Kd.free.cost = zay:=rfl
 have Hag:=hid hag;have Hcs:=hid cs;have Hc:=hid hc;have Hs:=hid hs;have Hm:=hid hm;have He:=hid he;have Hz:=hid zo;have H1:=hid h1;have H2:=hid h2;have H3:=hid h3;have H4:=hid h4
 have T1:=hid t1;have T2:=hid t2;have T3:=hid t3;have T4:=hid t4;have Hv0:=hid v0;have HvV:=hid vV;have Hf:=hid hf;have Hr:=hid hr
 have hq:=hag a0 b0 w c hs hm he zo h1 h3 (zbK t1 t3 (by omega) hf) (by have:=je Kd.free L t1 t3;rw [hc] at this hr;rw [hc];omega)
 unfold zdd at hq
 have Hq:=hid hq
 clear hag cs hc hs hm he zo h1 h2 h3 h4 t1 t2 t3 t4 v0 vV hf hr hq
 unfold zjT zcz
 show Calls Tryz.prog 228 _ _ _
 go_enter Tryz.func228,Tryz.ntmps228
 go_wp2_with fail
 refine Hq.out.mono ?_
 rintro e w1 ⟨c1,x1,rfl,hs1,hm1,ho1,W1⟩
 have l1:=W1.low T1.out T3.out
 have he1:=He.out.only ho1
 have t2' : v < zk c1 a1:=by rw [W1.ext.top H2.out];exact T2.out
 have t3' : v < zk c1 b0:=by rw [W1.ext.top H3.out];exact T3.out
 have hq:=Hag.out a1 b0 w1 c1 hs1 hm1 he1 W1.zok (W1.ext.has H2.out) (W1.ext.has H3.out) (zbK t2' t3' (by have:=HvV.out;omega) Hf.out) (by
  have h5:=je Kd.free L t2' t3';have h6:=Hr.out;have h7:=Hcs.out;have h8:=W1.ext.len;have h9:=l1.2;have h10:=Hc.out
  rw [h10] at h5 h6 h9;rw [h10];omega)
 unfold zdd at hq
 have Hq2:=hid hq;have HW1:=hid W1;have Ho1:=hid ho1;have L1:=hid l1;have He1:=hid he1
 clear hq W1 ho1 l1 he1 t2' t3' hs1 hm1 Hq Hs Hm
 go_wp2_with fail
 refine Hq2.out.mono ?_
 rintro e w2 ⟨c2,x2,rfl,hs2,hm2,ho2,W2⟩
 have l2:=W2.low (v:=v) (by rw [HW1.out.ext.top H2.out];exact T2.out) (by rw [HW1.out.ext.top H3.out];exact T3.out)
 have he2:=He1.out.only ho2
 have t4' : v < zk c2 b1:=by rw [W2.ext.top (HW1.out.ext.has H4.out),HW1.out.ext.top H4.out];exact T4.out
 have hq:=Hag.out x2 b1 w2 c2 hs2 hm2 he2 W2.zok W2.has (W2.ext.has (HW1.out.ext.has H4.out)) (zbK l2.1 t4' (by have:=HvV.out;omega) Hf.out) (by
  have h5:=je Kd.free L l2.1 t4';have h6:=Hr.out;have h7:=Hcs.out;have h8:=HW1.out.ext.len;have h8':=W2.ext.len;have h9:=L1.out.2;have h9':=l2.2;have h10:=Hc.out
  rw [h10] at h5 h6 h9 h9';rw [h10];omega)
 unfold zdd at hq
 have Hq2b:=hid hq;have HW2:=hid W2;have Ho2:=hid ho2;have L2:=hid l2;have He2:=hid he2
 clear hq W2 ho2 l2 he2 t4' hs2 hm2 Hq2
 go_wp2_with fail
 refine Hq2b.out.mono ?_
 rintro e w3 ⟨c3,x3,rfl,hs3,hm3,ho3,W3⟩
 have l3:=W3.low (v:=v) L2.out.1 (by rw [HW2.out.ext.top (HW1.out.ext.has H4.out),HW1.out.ext.top H4.out];exact T4.out)
 have he3:=He2.out.only ho3
 have cs2:=he3.cs2
 have h13 : zx c3 x1 = true:=W3.ext.has (HW2.out.ext.has HW1.out.has)
 have t5 : v < zk c3 x1:=by rw [W3.ext.top (HW2.out.ext.has HW1.out.has),HW2.out.ext.top HW1.out.has];exact L1.out.1
 have hn:=ku L W3.zok.ok W3.zok.red Hv0.out (by have:=HvV.out;omega) h13 W3.has t5 l3.1 (by
  have h5:=zbg W3.zok hL;have h6:=Hr.out;have h7:=Hcs.out;have h8:=HW1.out.ext.len;have h8':=HW2.out.ext.len;have h8'':=W3.ext.len;have h9:=l3.2;have h9':=L1.out.2;have h9'':=L2.out.2;have h10:=Hc.out
  rw [h10] at h6 h9 h9' h9'';omega)
 have mk:=zp9 Hz.out HvV.out H1.out H2.out H3.out H4.out T1.out T2.out T3.out T4.out HW1.out HW2.out W3 hn
 have hq:=zad v x1 x3 w3 s V c3 hs3 (hs3.le h13) (hs3.le W3.has)
 rw [hn.err] at hq
 simp only [ziB,if_true] at hq
 have hmem:=hm3.ext W3.zok.ok mk.zok.ok hn.ext
 generalize jY c3 v x1 x3 = R at hq mk hmem
 obtain ⟨c4,x4,n4⟩:=R
 dsimp only at hq mk hmem
 have Hq3:=hid hq;have Hmk:=hid mk;have Hmem:=hid hmem;have Ho3:=hid ho3;have He3:=hid he3
 clear hq mk hmem ho3 he3 hn W3 l3 t5 h13 hs3 hm3 Hq2b
 go_wp2_with fail
 refine Hq3.out.mono ?_
 rintro e w4 ⟨rfl,hs4,ho4⟩
 have Hs4:=hid hs4;have Ho4:=hid ho4;clear hs4 ho4 cs2
 go_wp2_with fail
 go_ret2
 exact ⟨c4,x4,rfl,Hs4.out,Hmem.out.keep (Ho4.out.block _ Hmem.out.lt He3.out.md.1),((Ho1.out.trans Ho2.out).trans Ho3.out).trans (Ho4.out.mono (zaB s md)),Hmk.out⟩
theorem zjy {V L : Int} (hV : V ≤ 24) (hL : V ≤ L + 3) (s : Fb) (md : Nat) (q : Cb) : ∀ f,zaV V L .or s md q f
 | 0 => fun a b w c _ _ _ _ _ _ hf _ => absurd hf (Nat.not_lt_zero _)
 | f + 1 => zdo hV (by exact True.intro) (zpO hV hL (zjy hV hL s md q f))
theorem zgp {V L : Int} (hV : V ≤ 24) (hL : V ≤ L + 3) (s : Fb) (md : Nat) (q : Cb) : ∀ f,zaV V L .free s md q f
 | 0 => fun a b w c _ _ _ _ _ _ hf _ => absurd hf (Nat.not_lt_zero _)
 | f + 1 => zdo hV (by exact True.intro) (zlQ hV hL (zgp hV hL s md q f))
theorem zpV (w : World) (k : Kd) (c : Cells) : xg (w.alloc (.map #[] 0)) w.heap.size k c:=⟨[],zbb w enc2,fun a b v h => by cases h⟩
theorem Only.cut2 {S S' : Nat → Prop} {a w : World} (h : Only S a w) (hs : ∀ k,k < a.heap.size → S k → S' k) : Only S' a w:=⟨h.os,h.tape,h.output,h.size,fun k hk hn => h.block k hk (fun e => hn (hs k hk e))⟩
def zhI (w : World) (k : Kd) (s : Fb) (b2 : Nat) : World :=
 ((((((w.alloc (.cells #[.pointer (some ⟨s.ps,0,none⟩)] 172)).alloc (.cells #[.func (.func k.efn) #[] #[]] 284)).alloc (.cells #[.func (.func k.mfn) #[] #[.pointer (some ⟨b2,0,none⟩)]] 285)).alloc (.map #[] 0)).alloc (.cells #[.map (some (w.heap.size + 1 + 1 + 1))] 312)).alloc
  (.cells #[.func (.func 225) #[] #[.pointer (some ⟨w.heap.size + 1,0,none⟩),.pointer (some ⟨w.heap.size + 1 + 1 + 1 + 1,0,none⟩),.pointer (some ⟨w.heap.size,0,none⟩),.pointer (some ⟨w.heap.size + 1 + 1,0,none⟩),.pointer (some ⟨w.heap.size + 1 + 1 + 1 + 1 + 1,0,none⟩)]] 109))
def zbp (w : World) (b2 : Nat) : Cb:=⟨w.heap.size + 1,w.heap.size + 1 + 1 + 1 + 1,w.heap.size,w.heap.size + 1 + 1,w.heap.size + 1 + 1 + 1 + 1 + 1,b2⟩
theorem zle {V : Int} {k : Kd} {s : Fb} {b2 : Nat} {w : World} {c : Cells} (hs : zw w s V c) (hb2 : w.heap[b2]? = some (.cells #[.pointer (some ⟨s.ps,0,none⟩)] 172 (0,0))) (hn2 : ¬ s.b.mem b2) :
 zw (zhI w k s b2) s V c ∧ xg (zhI w k s b2) (w.heap.size + 1 + 1 + 1) k c ∧ Env (zhI w k s b2) k s (w.heap.size + 1 + 1 + 1) (zbp w b2) ∧ Below w.heap.size w (zhI w k s b2):=by
 have hb : Below w.heap.size w (zhI w k s b2):=(((((zba).alloc (by simp) _).alloc (by simp;omega) _).alloc (by simp;omega) _).alloc (by simp;omega) _).alloc (by simp;omega) _
 have hsz : ∀ j,w.heap.size ≤ j → ¬ s.b.mem j:=fun j hj hm => by have:=hs.lt hm;omega
 have lt2:=zlb hb2
 have lps:=hs.lps
 have nf : ∀ j,w.heap.size ≤ j → j ≠ w.heap.size + 1 + 1 + 1 → ¬ yR s (w.heap.size + 1 + 1 + 1) j:=fun j h1 h2 h3 => h3.elim (hsz j h1) h2
 refine ⟨hs.below hb,?_,⟨?_,?_,?_,?_,?_,(hb.block _ lt2).trans hb2,⟨nf _ (by dsimp only [zbp];omega) (by dsimp only [zbp];omega),nf _ (by dsimp only [zbp];omega) (by dsimp only [zbp];omega),nf _ (by dsimp only [zbp];omega) (by dsimp only [zbp];omega),nf _ (by dsimp only [zbp];omega) (by dsimp only [zbp];omega),nf _ (by dsimp only [zbp];omega) (by dsimp only [zbp];omega),fun h => h.elim hn2 (fun e => by dsimp only [zbp] at e;omega)⟩,⟨hsz _ (by omega),by omega⟩⟩,hb⟩
 ·
  refine xg.below (w:=(((w.alloc (.cells #[.pointer (some ⟨s.ps,0,none⟩)] 172)).alloc (.cells #[.func (.func k.efn) #[] #[]] 284)).alloc (.cells #[.func (.func k.mfn) #[] #[.pointer (some ⟨b2,0,none⟩)]] 285)).alloc (.map #[] 0)) ?_ ((zba).alloc (by simp) _)
  have:=zpV ((((w.alloc (.cells #[.pointer (some ⟨s.ps,0,none⟩)] 172)).alloc (.cells #[.func (.func k.efn) #[] #[]] 284)).alloc (.cells #[.func (.func k.mfn) #[] #[.pointer (some ⟨b2,0,none⟩)]] 285))) k c
  simpa only [zm] using this
 · exact ze (ze (ze (ze (za (by simp only [zm];rfl)))))
 · exact ze (za (by simp only [zm];rfl))
 · exact ze (ze (ze (ze (ze (za rfl)))))
 · exact ze (ze (ze (za (by simp only [zm];rfl))))
 · exact za (by simp only [zm];rfl)
set_option maxRecDepth 100000 in
set_option maxHeartbeats 4000000 in
theorem zhb {V L : Int} (hV : V ≤ 24) (hL : V ≤ L + 3) {k : Kd} {s : Fb} (hag : ∀ md q f,zaV V L k s md q f) (a b : Int) (b2 : Nat) (w : World) (c : Cells) (hs : zw w s V c) (zo : ZOk V c) (hb2 : w.heap[b2]? = some (.cells #[.pointer (some ⟨s.ps,0,none⟩)] 172 (0,0))) (hn2 : ¬ s.b.mem b2)
 (ha : zx c a = true) (hb : zx c b = true) (hr : yh L c + k.cost (L - min (zk c a) (zk c b)).toNat + hiB V L < c.length) :
 Calls Tryz.prog 189 #[.pointer (some ⟨s.ps,0,none⟩),.int .i64 a,.int .i64 b,.func (.func k.efn) #[] #[],.func (.func k.mfn) #[] #[.pointer (some ⟨b2,0,none⟩)]] w (zf0 V L k s c a b w):=by
 have hmm:=@run_makeMap Tryz.prog
 have hmf : ∀ (fn : Fn) (first cap : Array Value) (w : World),(Instr.makeFunc fn first cap).run Tryz.prog w = .ok (.func fn first cap) w:=fun _ _ _ _ => rfl
 obtain ⟨s1,s2,s3,s4⟩:=zle (k:=k) hs hb2 hn2
 have hq:=hag _ _ 25 a b _ c s1 s2 s3 zo ha hb (by have:=zY zo.ok a;have:=zY zo.ok b;omega) hr
 unfold zdd zbp zhI at hq
 have Hq:=hid hq;have S4:=hid s4
 clear hag hs zo hb2 hn2 ha hb hr s1 s2 s3 s4 hq
 go_enter Tryz.func189,Tryz.ntmps189
 go_wp2_with fail
 with_reducible refine Hq.out.mono ?_
 rintro e w1 ⟨c1,x,rfl,h1,h2,h3,h4⟩
 have h5 : Only s.b.mem w w1:=((Only.of_below S4.out rfl).trans h3).cut2 (fun j hj hm => hm.elim id (fun e => by omega))
 have H1:=hid h1;have H4:=hid h4;have H5:=hid h5
 clear h1 h2 h3 h4 h5 Hq S4
 go_wp2_with fail
 go_ret2
 exact ⟨c1,x,rfl,H1.out,H5.out,H4.out⟩
set_option maxHeartbeats 2000000 in
theorem ziS {V L : Int} (hV : V ≤ 24) (hL : V ≤ L + 3) {s : Fb} (a b : Int) (w : World) (c : Cells) (hs : zw w s V c) (zo : ZOk V c) (ha : zx c a = true) (hb : zx c b = true) (hr : yh L c + Kd.or.cost (L - min (zk c a) (zk c b)).toNat + hiB V L < c.length) :
 Calls Tryz.prog 148 #[.pointer (some ⟨s.ps,0,none⟩),.int .i64 a,.int .i64 b] w (zf0 V L .or s c a b w):=by
 have hmf : ∀ (fn : Fn) (first cap : Array Value) (w : World),(Instr.makeFunc fn first cap).run Tryz.prog w = .ok (.func fn first cap) w:=fun _ _ _ _ => rfl
 have hb1 : Below w.heap.size w (w.alloc (.cells #[.pointer (some ⟨s.ps,0,none⟩)] 172)):=zba
 have hq:=zhb hV hL (fun md q f => zjy hV hL s md q f) a b w.heap.size (w.alloc (.cells #[.pointer (some ⟨s.ps,0,none⟩)] 172)) c (hs.below hb1) zo (za rfl) (fun hm => by have:=hs.lt hm;omega) ha hb hr
 have Hq:=hid hq;have HB:=hid hb1
 clear hq hs zo ha hb hr hb1
 go_enter Tryz.func148,Tryz.ntmps148
 go_wp2_with fail
 refine Hq.out.mono ?_
 rintro e w1 ⟨c1,x,rfl,h1,h2,h3⟩
 have H1:=hid h1;have H2:=hid h2;have H3:=hid h3
 clear h1 h2 h3 Hq
 go_wp2_with fail
 go_ret2
 exact ⟨c1,x,rfl,H1.out,(Only.of_below HB.out rfl).trans H2.out,H3.out⟩
set_option maxHeartbeats 2000000 in
theorem znM {V L : Int} (hV : V ≤ 24) (hL : V ≤ L + 3) {s : Fb} (a b : Int) (w : World) (c : Cells) (hs : zw w s V c) (zo : ZOk V c) (ha : zx c a = true) (hb : zx c b = true) (hr : yh L c + Kd.free.cost (L - min (zk c a) (zk c b)).toNat + hiB V L < c.length) :
 Calls Tryz.prog 194 #[.pointer (some ⟨s.ps,0,none⟩),.int .i64 a,.int .i64 b] w (zf0 V L .free s c a b w):=by
 have hmf : ∀ (fn : Fn) (first cap : Array Value) (w : World),(Instr.makeFunc fn first cap).run Tryz.prog w = .ok (.func fn first cap) w:=fun _ _ _ _ => rfl
 have hb1 : Below w.heap.size w (w.alloc (.cells #[.pointer (some ⟨s.ps,0,none⟩)] 172)):=zba
 have hq:=zhb hV hL (fun md q f => zgp hV hL s md q f) a b w.heap.size (w.alloc (.cells #[.pointer (some ⟨s.ps,0,none⟩)] 172)) c (hs.below hb1) zo (za rfl) (fun hm => by have:=hs.lt hm;omega) ha hb hr
 have Hq:=hid hq;have HB:=hid hb1
 clear hq hs zo ha hb hr hb1
 go_enter Tryz.func194,Tryz.ntmps194
 go_wp2_with fail
 refine Hq.out.mono ?_
 rintro e w1 ⟨c1,x,rfl,h1,h2,h3⟩
 have H1:=hid h1;have H2:=hid h2;have H3:=hid h3
 clear h1 h2 h3 Hq
 go_wp2_with fail
 go_ret2
 exact ⟨c1,x,rfl,H1.out,(Only.of_below HB.out rfl).trans H2.out,H3.out⟩
def pr (a0 a1 b0 b1 : Int) : Nat → Int × Int
 | 0 => (a1,b1)
 | 1 => (a1,b0)
 | _ => (a0,b1)
def accF (c : Cells) (a0 a1 b0 b1 : Int) : Nat → Fam
 | 0 => fun _ => False
 | k + 1 => Kd.or.sem (accF c a0 a1 b0 b1 k) (Kd.join.sem (Z c (pr a0 a1 b0 b1 k).1) (Z c (pr a0 a1 b0 b1 k).2))
structure JSt (w wr : World) (s : Fb) (V L : Int) (c1 : Cells) (md : Nat) (q : Cb) (g : Nat) (v a0 a1 b0 b1 : Int) (k : Nat) (c' : Cells) (h : Int) : Prop where
 st : zw wr s V c'
 memo : xg wr md .join c'
 env : Env wr .join s md q
 only : Only (yR s md) w wr
 zok : ZOk V c'
 ext : Ext c1 c'
 has : zx c' h = true
 top : v < zk c' h
 z : ∀ s,Z c' h s ↔ accF c1 a0 a1 b0 b1 k s
 cnt : yh L c' ≤ yh L c1 + k * (qJ (L - (v + 1)).toNat + yD (L - (v + 1)).toNat)
 row : wr.heap[g]? = some (.cells #[.int .i64 a1,.int .i64 b1,.int .i64 a1,.int .i64 b0,.int .i64 a0,.int .i64 b1] 255 (0,0))
 off : ¬ yR s md g
section
variable {w wr w2 w3 : World} {s : Fb} {V L : Int} {c1 c' c2 c3 : Cells} {md : Nat} {q : Cb} {g : Nat} {v a0 a1 b0 b1 : Int} {k : Nat} {h x y : Int}
theorem JSt.grow (j : JSt w wr s V L c1 md q g v a0 a1 b0 b1 k c' h) (hb : Below wr.heap.size wr w2) : JSt w w2 s V L c1 md q g v a0 a1 b0 b1 k c' h :=
 ⟨j.st.below hb,j.memo.below hb,j.env.below hb,j.only.trans (Only.of_below hb rfl),j.zok,j.ext,j.has,j.top,j.z,j.cnt,(hb.block _ (zlb j.row)).trans j.row,j.off⟩
theorem JSt.cells (j : JSt w wr s V L c1 md q g v a0 a1 b0 b1 k c' h) (hk : k < 3) : wr.cell? ⟨g,k * 2,none⟩ = some (.int .i64 (pr a0 a1 b0 b1 k).1) ∧ wr.cell? ⟨g,k * 2 + 1,none⟩ = some (.int .i64 (pr a0 a1 b0 b1 k).2):=by
 have hc : k = 0 ∨ k = 1 ∨ k = 2:=by omega
 rcases hc with rfl | rfl | rfl <;> exact ⟨by rw [cell_of_row wr _ _ _ _ _ j.row];rfl,by rw [cell_of_row wr _ _ _ _ _ j.row];rfl⟩
theorem zpu {P : Int → Prop} (h0 : P a0) (h1 : P a1) (h2 : P b0) (h3 : P b1) (k : Nat) : P (pr a0 a1 b0 b1 k).1 ∧ P (pr a0 a1 b0 b1 k).2:=by
 unfold pr;split
 · exact ⟨h1,h3⟩
 · exact ⟨h1,h2⟩
 · exact ⟨h0,h3⟩
theorem JSt.next (j : JSt w wr s V L c1 md q g v a0 a1 b0 b1 k c' h) (zo : ZOk V c1) (hp : zx c1 (pr a0 a1 b0 b1 k).1 = true) (hr : zx c1 (pr a0 a1 b0 b1 k).2 = true) (tp : v < zk c1 (pr a0 a1 b0 b1 k).1) (tr : v < zk c1 (pr a0 a1 b0 b1 k).2)
 (W : WOk V L .join c' c2 (pr a0 a1 b0 b1 k).1 (pr a0 a1 b0 b1 k).2 x) (U : WOk V L .or c2 c3 h x y) (hst : zw w3 s V c3) (hm : xg w2 md .join c2) (ho : Only (yR s md) wr w2) (ho3 : Only s.b.mem w2 w3) : JSt w w3 s V L c1 md q g v a0 a1 b0 b1 (k + 1) c3 y:=by
 have l1:=W.low (v:=v) (by rw [j.ext.top hp];exact tp) (by rw [j.ext.top hr];exact tr)
 have l2:=U.low (v:=v) (by rw [W.ext.top j.has];exact j.top) l1.1
 have he:=j.env.only ho
 have oo:=ho.trans (ho3.mono (zaB s md))
 refine ⟨hst,(hm.ext W.zok.ok U.zok.ok U.ext).keep (ho3.block _ hm.lt he.md.1),he.only (ho3.mono (zaB s md)),j.only.trans oo,U.zok,(j.ext.trans W.ext).trans U.ext,U.has,l2.1,fun s => ?_,?_,(oo.block _ (zlb j.row) j.off).trans j.row,j.off⟩
 ·
  rw [U.z,accF]
  refine Kd.or.qZ (fun s => ?_) (fun s => ?_) s
  · rw [W.old j.zok j.has];exact j.z s
  · rw [W.z];exact Kd.join.qZ (fun s => jL zo.ok j.zok.ok j.ext _ hp s) (fun s => jL zo.ok j.zok.ok j.ext _ hr s) s
 ·
  have h1:=j.cnt
  have h2 : yh L c2 ≤ yh L c' + qJ (L - (v + 1)).toNat:=l1.2
  have h3 : yh L c3 ≤ yh L c2 + yD (L - (v + 1)).toNat:=l2.2
  rw [Nat.succ_mul];omega
theorem zhM {k A : Nat} (h : k ≤ 2) : k * A ≤ 2 * A:=Nat.mul_le_mul_right A h
theorem zpc {c4 : Cells} {x1 : Int} {r : Cells × Int × Nat} {c : Cells} (o : ZOk V c) (hvV : v < V) (ha0 : zx c a0 = true) (ha1 : zx c a1 = true) (hb0 : zx c b0 = true) (hb1 : zx c b1 = true)
 (t0 : v < zk c a0) (t2 : v < zk c b0) (W1 : WOk V L .join c c1 a0 b0 x1) (j : JSt w wr s V L c1 md q g v a0 a1 b0 b1 3 c4 y) (n : zfb L c4 v x1 y r) : MOk V L .join c r.1 v a0 a1 b0 b1 r.2.1:=by
 have l1 : yh L c1 ≤ yh L c + qJ (L - (v + 1)).toNat:=(W1.low t0 t2).2
 have l2:=j.cnt
 have l3:=n.cnt
 have cs:=zgO L v
 refine ⟨zbs j.zok hvV n,(W1.ext.trans j.ext).trans n.ext,n.has,fun s => (n.z s).trans ?_,n.top,by show _ ≤ _ + qJ _;omega⟩
 refine kD (fun s => ?_) (fun s => ?_) s
 · rw [jL W1.zok.ok j.zok.ok j.ext x1 W1.has];exact W1.z s
 ·
  rw [j.z]
  have e : ∀ z,zx c z = true → Z c1 z = Z c z:=fun z hz => funext fun s => propext (W1.old o hz s)
  simp only [accF,pr,e a0 ha0,e a1 ha1,e b0 hb0,e b1 hb1]
end
set_option maxRecDepth 100000 in
set_option maxHeartbeats 4000000 in
theorem zl2 {V L : Int} (hV : V ≤ 24) (hL : V ≤ L + 3) {s : Fb} {md : Nat} {q : Cb} {f : Nat} (hag : zaV V L .join s md q f) : zmw V L .join s md q f:=by
 intro v a0 a1 b0 b1 w c hs hm he zo h1 h2 h3 h4 t1 t2 t3 t4 v0 vV hf hr
 have cs:=zgO L v
 have hc : Kd.join.cost = qJ:=rfl
 have Hag:=hid hag;have Hcs:=hid cs;have Hc:=hid hc;have Hs:=hid hs;have Hm:=hid hm;have He:=hid he;have Hz:=hid zo;have H1:=hid h1;have H2:=hid h2;have H3:=hid h3;have H4:=hid h4
 have T1:=hid t1;have T2:=hid t2;have T3:=hid t3;have T4:=hid t4;have Hv0:=hid v0;have HvV:=hid vV;have Hf:=hid hf;have Hr:=hid hr
 have hq:=hag a0 b0 w c hs hm he zo h1 h3 (zbK t1 t3 (by omega) hf) (by have:=je Kd.join L t1 t3;rw [hc] at this hr;rw [hc];omega)
 unfold zdd at hq
 have Hq:=hid hq
 clear hag cs hc hs hm he zo h1 h2 h3 h4 t1 t2 t3 t4 v0 vV hf hr hq
 unfold zjT zcz
 show Calls Tryz.prog 193 _ _ _
 go_enter Tryz.func193,Tryz.ntmps193
 go_wp2_with fail
 refine Hq.out.mono ?_
 rintro e w1 ⟨c1,x1,rfl,hs1,hm1,ho1,W1⟩
 have l1:=W1.low T1.out T3.out
 have he1:=He.out.only ho1
 have HW1:=hid W1;have Ho1:=hid ho1;have L1:=hid l1;have He1:=hid he1;have Hs1:=hid hs1;have Hm1:=hid hm1
 clear W1 ho1 l1 he1 hs1 hm1 Hq Hs Hm
 go_wp2_with fail
 have j0 : JSt w1 (w1.alloc (.cells #[.int .i64 a1,.int .i64 b1,.int .i64 a1,.int .i64 b0,.int .i64 a0,.int .i64 b1] 255)) s V L c1 md q w1.heap.size v a0 a1 b0 b1 0 c1 0:=by
  have hb : Below w1.heap.size w1 (w1.alloc (.cells #[.int .i64 a1,.int .i64 b1,.int .i64 a1,.int .i64 b0,.int .i64 a0,.int .i64 b1] 255)):=zba
  refine ⟨Hs1.out.below hb,Hm1.out.below hb,He1.out.below hb,Only.of_below hb rfl,HW1.out.zok,Ext.refl _,qB _,?_,fun s => ⟨fun h => absurd h (zbP _ _),fun h => h.elim⟩,by omega,za rfl,fun h => ?_⟩
  · rw [qH (qg c1 (.inl rfl))];have:=HvV.out;omega
  · exact h.elim (fun h => by have:=Hs1.out.lt h;omega) (fun e => by have:=Hm1.out.lt;omega)
 obtain ⟨g,hg⟩ : ∃ g,g = w1.heap.size:=⟨_,rfl⟩
 have J0:=hid j0;clear j0
 rw [← hg] at J0 ⊢
 clear hg
 generalize w1.alloc (.cells #[.int .i64 a1,.int .i64 b1,.int .i64 a1,.int .i64 b0,.int .i64 a0,.int .i64 b1] 255) = wj at J0 ⊢
 go_loopg [17,43] 3 (fun gk x i wr => ∃ (k : Nat) (c' : Cells) (h : Int),k ≤ 3 ∧ gk = 3 - k ∧ x = .int .i64 h ∧ i = .int .i64 k ∧ JSt w1 wr s V L c1 md q g v a0 a1 b0 b1 k c' h)
 case atStart => exact ⟨0,c1,0,by omega,rfl,rfl,rfl,J0.out⟩
 case round =>
  clear J0
  obtain ⟨k,c',h,hk3,rfl,rfl,rfl,hj⟩:=hrel
  have Hj:=hid hj;clear hj
  by_cases hk : k < 3
  ·
   obtain ⟨g0,g1⟩:=Hj.out.cells hk
   have hp:=zpu (P:=fun z => zx c1 z = true) (HW1.out.ext.has H1.out) (HW1.out.ext.has H2.out) (HW1.out.ext.has H3.out) (HW1.out.ext.has H4.out) k
   have tp:=zpu (P:=fun z => v < zk c1 z) (by rw [HW1.out.ext.top H1.out];exact T1.out) (by rw [HW1.out.ext.top H2.out];exact T2.out) (by rw [HW1.out.ext.top H3.out];exact T3.out) (by rw [HW1.out.ext.top H4.out];exact T4.out) k
   obtain ⟨p1,hp1⟩ : ∃ z,z = (pr a0 a1 b0 b1 k).1:=⟨_,rfl⟩
   obtain ⟨p2,hp2⟩ : ∃ z,z = (pr a0 a1 b0 b1 k).2:=⟨_,rfl⟩
   have q1:=hp.1;have q2:=hp.2;have q3:=tp.1;have q4:=tp.2
   rw [← hp1] at g0 q1 q3
   rw [← hp2] at g1 q2 q4
   have hj2:=Hj.out.grow (w2:=wr.alloc (.cells #[.int .i64 p1,.int .i64 p2] 255)) (zba)
   have ja:=hj2.ext.top q1;have jb:=hj2.ext.top q2
   have hq:=Hag.out p1 p2 _ c' hj2.st hj2.memo hj2.env hj2.zok (hj2.ext.has q1) (hj2.ext.has q2) (zbK (by rw [ja];exact q3) (by rw [jb];exact q4) (by have:=HvV.out;omega) Hf.out) (by
    have h5 : Kd.join.cost (L - min (zk c' p1) (zk c' p2)).toNat ≤ qJ (L - (v + 1)).toNat:=je Kd.join L (by rw [ja];exact q3) (by rw [jb];exact q4)
    have h6 : yh L c + qJ (L - v).toNat + hiB V L < c.length:=Hr.out
    have h7:=Hcs.out;have h8:=HW1.out.ext.len;have h8':=hj2.ext.len
    have h9 : yh L c1 ≤ yh L c + qJ (L - (v + 1)).toNat:=L1.out.2
    have h9':=hj2.cnt
    have h10:=zhM (A:=qJ (L - (v + 1)).toNat + yD (L - (v + 1)).toNat) (show k ≤ 2 by omega)
    omega)
   unfold zdd at hq
   have Hq:=hid hq;have Hj2:=hid hj2;have Q1:=hid q1;have Q2:=hid q2;have Q3:=hid q3;have Q4:=hid q4;have Hp1:=hid hp1;have Hp2:=hid hp2
   clear hq hj2 ja jb q1 q2 q3 q4 hp tp hp1 hp2 Hj
   go_wp2_with fail
   refine Hq.out.mono ?_
   rintro e w2 ⟨c2,x2,rfl,hs2,hm2,ho2,W2⟩
   have l2:=W2.low (v:=v) (by rw [Hj2.out.ext.top Q1.out];exact Q3.out) (by rw [Hj2.out.ext.top Q2.out];exact Q4.out)
   have cs2:=(Hj2.out.env.only ho2).cs2
   have th : v < zk c2 h:=by rw [W2.ext.top Hj2.out.has];exact Hj2.out.top
   have hq2:=ziS hV hL h x2 w2 c2 hs2 W2.zok (W2.ext.has Hj2.out.has) W2.has (by
    have h5 : Kd.or.cost (L - min (zk c2 h) (zk c2 x2)).toNat ≤ yD (L - (v + 1)).toNat:=je Kd.or L th l2.1
    have h6 : yh L c + qJ (L - v).toNat + hiB V L < c.length:=Hr.out
    have h7:=Hcs.out;have h8:=HW1.out.ext.len;have h8':=Hj2.out.ext.len;have h8'':=W2.ext.len
    have h9 : yh L c1 ≤ yh L c + qJ (L - (v + 1)).toNat:=L1.out.2
    have h9':=Hj2.out.cnt
    have h9'' : yh L c2 ≤ yh L c' + qJ (L - (v + 1)).toNat:=l2.2
    have h10:=zhM (A:=qJ (L - (v + 1)).toNat + yD (L - (v + 1)).toNat) (show k ≤ 2 by omega)
    omega)
   have Hq2:=hid hq2;have HW2:=hid W2;have Hm2:=hid hm2;have Ho2:=hid ho2
   clear hq2 W2 hm2 ho2 hs2 l2 th Hq g0 g1
   go_wp2_with fail
   refine Hq2.out.mono ?_
   rintro e w3 ⟨c3,y,rfl,hs3,ho3,U⟩
   have W2':=HW2.out
   have Q1':=Q1.out;have Q2':=Q2.out;have Q3':=Q3.out;have Q4':=Q4.out
   rw [Hp1.out] at W2' Q1' Q3'
   rw [Hp2.out] at W2' Q2' Q4'
   have jn:=Hj2.out.next HW1.out.zok Q1' Q2' Q3' Q4' W2' U hs3 Hm2.out Ho2.out ho3
   have Jn:=hid jn
   clear jn W2' Q1' Q2' Q3' Q4' hs3 ho3 U Hq2 cs2
   go_wp2_with fail
   go_roundg (3 - (k + 1))
   case measure => omega
   case rel => exact ⟨k + 1,c3,y,by omega,rfl,rfl,by go_num,Jn.out⟩
  ·
   obtain rfl : k = 3:=by omega
   have hj:=Hj.out
   have l3:=hj.top
   have cs2:=hj.env.cs2
   have h13 : zx c' x1 = true:=hj.ext.has HW1.out.has
   have t5 : v < zk c' x1:=by rw [hj.ext.top HW1.out.has];exact L1.out.1
   have hn:=ku L hj.zok.ok hj.zok.red Hv0.out (by have:=HvV.out;omega) h13 hj.has t5 l3 (by
    have h5:=zbg hj.zok hL
    have h6 : yh L c + qJ (L - v).toNat + hiB V L < c.length:=Hr.out
    have h7:=Hcs.out;have h8:=HW1.out.ext.len;have h8':=hj.ext.len
    have h9 : yh L c1 ≤ yh L c + qJ (L - (v + 1)).toNat:=L1.out.2
    have h9':=hj.cnt
    omega)
   have mk:=zpc Hz.out HvV.out H1.out H2.out H3.out H4.out T1.out T3.out HW1.out hj hn
   have hq:=zad v x1 h wr s V c' hj.st (hj.st.le h13) (hj.st.le hj.has)
   rw [hn.err] at hq
   simp only [ziB,if_true] at hq
   have hmem:=hj.memo.ext hj.zok.ok mk.zok.ok hn.ext
   have ho:=Ho1.out.trans hj.only
   have hmd:=hj.env.md.1
   generalize jY c' v x1 h = R at hq mk hmem
   obtain ⟨c4,x4,n4⟩:=R
   dsimp only at hq mk hmem
   have Hq3:=hid hq;have Hmk:=hid mk;have Hmem:=hid hmem;have Ho:=hid ho;have Hmd:=hid hmd
   clear hq mk hmem ho hmd hn hj l3 t5 h13 Hj hk
   go_wp2_with fail
   refine Hq3.out.mono ?_
   rintro e w4 ⟨rfl,hs4,ho4⟩
   have Hs4:=hid hs4;have Ho4:=hid ho4;clear hs4 ho4 cs2
   go_wp2_with fail
   go_ret2
   exact ⟨c4,x4,rfl,Hs4.out,Hmem.out.keep (Ho4.out.block _ Hmem.out.lt Hmd.out),Ho.out.trans (Ho4.out.mono (zaB s md)),Hmk.out⟩
theorem zgb {V L : Int} (hV : V ≤ 24) (hL : V ≤ L + 3) (s : Fb) (md : Nat) (q : Cb) : ∀ f,zaV V L .join s md q f
 | 0 => fun a b w c _ _ _ _ _ _ hf _ => absurd hf (Nat.not_lt_zero _)
 | f + 1 => zdo hV (by exact True.intro) (zl2 hV hL (zgb hV hL s md q f))
set_option maxHeartbeats 2000000 in
theorem zqM {V L : Int} (hV : V ≤ 24) (hL : V ≤ L + 3) {s : Fb} (a b : Int) (w : World) (c : Cells) (hs : zw w s V c) (zo : ZOk V c) (ha : zx c a = true) (hb : zx c b = true) (hr : yh L c + Kd.or.cost (L - min (zk c a) (zk c b)).toNat + hiB V L < c.length) :
 Calls Tryz.prog 94 #[.pointer (some ⟨s.ps,0,none⟩),.int .i64 a,.int .i64 b] w (zf0 V L .or s c a b w):=by
 have hbo:=zh7 a b w s V c hs ha hb
 have hq:=ziS hV hL a b w c hs zo ha hb hr
 have Hbo:=hid hbo;have Hq:=hid hq
 clear hbo hq hs zo ha hb hr
 go_enter Tryz.func94,Tryz.ntmps94
 go_wp2_with fail
 refine Hbo.out.mono ?_
 rintro e w1 ⟨rfl,rfl⟩
 go_wp2_with fail
 refine Hq.out.mono ?_
 rintro e w1 ⟨c1,x,rfl,h1,h2,h3⟩
 have H1:=hid h1;have H2:=hid h2;have H3:=hid h3
 clear h1 h2 h3 Hq Hbo
 go_wp2_with fail
 go_ret2
 exact ⟨c1,x,rfl,H1.out,H2.out,H3.out⟩
set_option maxHeartbeats 2000000 in
theorem znu {V L : Int} (hV : V ≤ 24) (hL : V ≤ L + 3) {s : Fb} (a b : Int) (w : World) (c : Cells) (hs : zw w s V c) (zo : ZOk V c) (ha : zx c a = true) (hb : zx c b = true) (hr : yh L c + Kd.join.cost (L - min (zk c a) (zk c b)).toNat + hiB V L < c.length) :
 Calls Tryz.prog 149 #[.pointer (some ⟨s.ps,0,none⟩),.int .i64 a,.int .i64 b] w (zf0 V L .join s c a b w):=by
 have hmf : ∀ (fn : Fn) (first cap : Array Value) (w : World),(Instr.makeFunc fn first cap).run Tryz.prog w = .ok (.func fn first cap) w:=fun _ _ _ _ => rfl
 have hb1 : Below w.heap.size w (w.alloc (.cells #[.pointer (some ⟨s.ps,0,none⟩)] 172)):=zba
 have hbo:=zh7 a b _ s V c (hs.below hb1) ha hb
 have hq:=zhb hV hL (fun md q f => zgb hV hL s md q f) a b w.heap.size (w.alloc (.cells #[.pointer (some ⟨s.ps,0,none⟩)] 172)) c (hs.below hb1) zo (za rfl) (fun hm => by have:=hs.lt hm;omega) ha hb hr
 have Hbo:=hid hbo;have Hq:=hid hq;have HB:=hid hb1
 clear hq hs zo ha hb hr hb1 hbo
 go_enter Tryz.func149,Tryz.ntmps149
 go_wp2_with fail
 refine Hbo.out.mono ?_
 rintro e w1 ⟨rfl,rfl⟩
 go_wp2_with fail
 refine Hq.out.mono ?_
 rintro e w1 ⟨c1,x,rfl,h1,h2,h3⟩
 have H1:=hid h1;have H2:=hid h2;have H3:=hid h3
 clear h1 h2 h3 Hq Hbo
 go_wp2_with fail
 go_ret2
 exact ⟨c1,x,rfl,H1.out,(Only.of_below HB.out rfl).trans H2.out,H3.out⟩
def xL (F : Fam) : Fam:=fun s => F s ∧ ∀ t,F t → Sub t s → t = s
def zpn (s : St) : Nat:=(List.range 24).countP fun k : Nat => s (k : Int)
def Small (F : Fam) : Prop:=∀ s,F s → ∀ u,s u = true → 0 ≤ u ∧ u < 24
theorem Sub.refl (s : St) : Sub s s:=fun _ h => h
theorem Sub.trans {a b c : St} (h : Sub a b) (g : Sub b c) : Sub a c:=fun u hu => g u (h u hu)
theorem Sub.antisymm {a b : St} (h : Sub a b) (g : Sub b a) : a = b:=by
 funext u
 cases ha : a u <;> cases hb : b u
 · rfl
 · rw [g u hb] at ha;cases ha
 · rw [h u ha] at hb;cases hb
 · rfl
theorem zio {α : Type} (p q : α → Bool) : ∀ (l : List α),(∀ x ∈ l,p x = true → q x = true) → ∀ y ∈ l,q y = true → p y = false → l.countP p < l.countP q
 | [],_,_,hy,_,_ => by cases hy
 | x :: l,h,y,hy,h1,h2 => by
  rcases List.mem_cons.1 hy with rfl | hy
  ·
   have:=List.countP_mono_left (l:=l) (p:=p) (q:=q) (fun x hx => h x (List.mem_cons_of_mem _ hx))
   simp only [List.countP_cons,h1,h2,if_true,Bool.false_eq_true,if_false];omega
  ·
   have h3:=zio p q l (fun x hx => h x (List.mem_cons_of_mem _ hx)) y hy h1 h2
   have h4:=h x (by simp)
   simp only [List.countP_cons]
   cases hp : p x
   · simp only [Bool.false_eq_true,if_false];split <;> omega
   · rw [h4 hp];simp only [if_true];omega
theorem zq4 {t s : St} (h : Sub t s) (hne : t ≠ s) (hs : ∀ u,s u = true → 0 ≤ u ∧ u < 24) : zpn t < zpn s:=by
 have : ∃ u,s u = true ∧ t u = false:=by
  apply Classical.byContradiction
  intro hn
  exact hne (h.antisymm fun u hu => by
   cases ht : t u
   · exact absurd ⟨u,hu,ht⟩ hn
   · rfl)
 obtain ⟨u,h1,h2⟩:=this
 obtain ⟨h3,h4⟩:=hs u h1
 have e : ((u.toNat : Nat) : Int) = u:=by omega
 exact zio _ _ _ (fun k _ hk => h _ hk) u.toNat (List.mem_range.2 (by omega)) (by rw [e];exact h1) (by rw [e];exact h2)
theorem zfc {F : Fam} (hF : Small F) : ∀ (n : Nat) (s : St),zpn s < n → F s → ∃ t,xL F t ∧ Sub t s
 | 0,_,h,_ => absurd h (Nat.not_lt_zero _)
 | n + 1,s,h,hs => by
  by_cases hl : xL F s
  · exact ⟨s,hl,Sub.refl s⟩
  ·
   have : ∃ t,F t ∧ Sub t s ∧ t ≠ s:=by
    apply Classical.byContradiction
    intro hn
    exact hl ⟨hs,fun t ht hsub => Classical.byContradiction fun hne => hn ⟨t,ht,hsub,hne⟩⟩
   obtain ⟨t,h1,h2,h3⟩:=this
   obtain ⟨m,h4,h5⟩:=zfc hF n t (by have:=zq4 h2 h3 (hF s hs);omega) h1
   exact ⟨m,h4,h5.trans h2⟩
theorem zj7 {F : Fam} (hF : Small F) {s : St} (hs : F s) : ∃ t,xL F t ∧ Sub t s:=zfc hF _ s (Nat.lt_succ_self _) hs
theorem jy {F G : Fam} (h : ∀ s,F s ↔ G s) (s : St) : xL F s ↔ xL G s:=by
 have : F = G:=funext fun s => propext (h s)
 rw [this]
theorem znH {v : Int} {F : Fam} (hF : Small F) (s : St) : kQ v (xL (without v F)) (Kd.free.sem (xL (qy v F)) (xL (without v F))) s ↔ xL F s:=by
 unfold kQ
 split
 ·
  rename_i h
  constructor
  ·
   rintro ⟨⟨⟨_,h1⟩,h2⟩,h3⟩
   rw [yS,zG h] at h1
   refine ⟨h1,fun t ht hs => ?_⟩
   cases hv : t v
   ·
    exfalso
    obtain ⟨m,hm,hms⟩:=zj7 (F:=without v F) (fun s hs => hF s hs.2) ⟨hv,ht⟩
    refine h3 m hm ((zfF hm.1.1).1 ?_)
    rw [zG h];exact hms.trans hs
   ·
    have h4:=h2 (yw t v false) ⟨xR _ _ _,by rw [yS,zG hv];exact ht⟩ (by rw [← zfR,zG hv,zG h];exact hs)
    have h5:=congrArg (fun x => yw x v true) h4
    simpa only [yS,zG hv,zG h] using h5
  ·
   rintro ⟨h1,h2⟩
   refine ⟨⟨⟨xR _ _ _,by rw [yS,zG h];exact h1⟩,fun t ht hs => ?_⟩,fun t ht hs => ?_⟩
   ·
    have h3 : Sub (yw t v true) s:=by
     have:=zfR.2 (by rw [zG ht.1];exact hs : Sub (yw t v false) (yw s v false))
     rwa [zG h] at this
    have h4:=h2 _ ht.2 h3
    have h5:=congrArg (fun x => yw x v false) h4
    simpa only [yS,zG ht.1] using h5
   ·
    have h3:=(zfF ht.1.1).2 hs
    rw [zG h] at h3
    have h4:=h2 t ht.1.2 h3
    have:=ht.1.1
    rw [h4,h] at this;cases this
 ·
  rename_i h
  have h' : s v = false:=by simpa using h
  constructor
  ·
   rintro ⟨h1,h2⟩
   refine ⟨h1.2,fun t ht hs => ?_⟩
   cases hv : t v
   · exact h2 t ⟨hv,ht⟩ hs
   · have:=hs v hv;rw [h'] at this;cases this
  ·
   rintro ⟨h1,h2⟩
   exact ⟨⟨h',h1⟩,fun t ht hs => h2 t ht.2 hs⟩
def jU : Nat → Nat
 | 0 => 0
 | d + 1 => 2 * jU d + zay d + 1
theorem zbS : ∀ {a b : Nat},a ≤ b → jU a ≤ jU b
 | 0,_,_ => by simp [jU]
 | a + 1,0,h => absurd h (by omega)
 | a + 1,b + 1,h => by have:=@zbS a b (by omega);have:=@zdu a b (by omega);simp only [jU];omega
theorem zpf {a : Nat} (h : a ≤ 3) : jU a ≤ 42:=Nat.le_trans (zbS h) (by decide)
theorem zg9 (L v : Int) : 2 * jU (L - (v + 1)).toNat + zay (L - (v + 1)).toNat + (if v < L then 1 else 0) = jU (L - v).toNat:=by
 by_cases e : v < L
 · rw [if_pos e,show (L - v).toNat = (L - (v + 1)).toNat + 1 by omega];rfl
 · rw [if_neg e,show (L - v).toNat = 0 by omega,show (L - (v + 1)).toNat = 0 by omega];rfl
theorem zeX (L v : Int) {m : Int} (h : v < m) : jU (L - m).toNat ≤ jU (L - (v + 1)).toNat:=zbS (by omega)
theorem ziM {V : Int} (hV : V ≤ 24) {c : Cells} (o : ZOk V c) (h : Int) : Small (Z c h):=fun s hs u hu => by
 have h1:=ziE o.ok h s hs u hu
 have h2:=Z_lt o.ok o.vlt h s hs u hu
 have h3:=zY o.ok h
 omega
structure LOk (V L : Int) (c c' : Cells) (h x : Int) : Prop where
 zok : ZOk V c'
 ext : Ext c c'
 has : zx c' x = true
 z : ∀ s,Z c' x s ↔ xL (Z c h) s
 top : zk c h ≤ zk c' x
 cnt : yh L c' ≤ yh L c + jU (L - zk c h).toNat
def zl5 (V L : Int) (s : Fb) (c : Cells) (h : Int) (w : World) (e : Ending) (w' : World) : Prop :=
 ∃ c' x,e = .returned (.tuple #[.int .i64 x,.nilIface]) ∧ zw w' s V c' ∧ Only s.b.mem w w' ∧ LOk V L c c' h x
theorem zob {c : Cells} {h : Int} (g : getM c h = none) (s : St) : Z c h s ↔ xL (Z c h) s:=by
 constructor
 ·
  intro hz
  refine ⟨hz,fun t ht _ => ?_⟩
  have h1:=((zaA g s).1 hz).2
  have h2:=((zaA g t).1 ht).2
  funext u;rw [h1,h2]
 · exact fun h => h.1
theorem LOk.low {V L : Int} {c c1 : Cells} {h x v : Int} (k : LOk V L c c1 h x) (hv : v < zk c h) : v < zk c1 x ∧ yh L c1 ≤ yh L c + jU (L - (v + 1)).toNat:=by
 have h1:=k.top;have h2:=k.cnt;have h3:=zeX L v hv
 exact ⟨by omega,by omega⟩
theorem zpN {V L : Int} (hV : V ≤ 24) {c c1 c2 c3 : Cells} {h x1 x2 x3 : Int} {n : Nd} {r : Cells × Int × Nat} (o : ZOk V c) (g : getM c h = some n) (K1 : LOk V L c c1 n.2.1 x1) (K2 : LOk V L c1 c2 n.2.2 x2) (W : WOk V L .free c2 c3 x2 x1 x3) (N : zfb L c3 n.1 x1 x3 r) : LOk V L c r.1 h r.2.1:=by
 obtain ⟨b1,b2,k1,k2,k3,k4⟩:=o.ok.kids g
 have hvV : n.1 < V:=by obtain ⟨k,_,h1,_⟩:=getM_some g;exact o.vlt k n h1
 have l1:=K1.low k3
 have l2:=K2.low (v:=n.1) (by rw [K1.ext.top k2];exact k4)
 have l3:=(W.low (v:=n.1) l2.1 (by rw [K2.ext.top K1.has];exact l1.1)).2
 have l4:=N.cnt
 have cs:=zg9 L n.1
 have hc : Kd.free.cost = zay:=rfl
 rw [hc] at l3
 refine ⟨zbs W.zok hvV N,((K1.ext.trans K2.ext).trans W.ext).trans N.ext,N.has,fun s => (N.z s).trans ?_,by rw [zK g];exact N.top,by rw [zK g];omega⟩
 rw [← znH (v:=n.1) (ziM hV o h) s]
 have e0 : ∀ s,Z c n.2.1 s ↔ without n.1 (Z c h) s:=fun s => zir o.ok g s
 have e1 : ∀ s,Z c n.2.2 s ↔ qy n.1 (Z c h) s:=fun s => zcw o.ok g s
 have q1 : ∀ s,Z c2 x1 s ↔ xL (without n.1 (Z c h)) s:=fun s => (jL K1.zok.ok K2.zok.ok K2.ext x1 K1.has s).trans ((K1.z s).trans (jy e0 s))
 refine kD (fun s => ?_) (fun s => ?_) s
 · rw [W.old K2.zok (K2.ext.has K1.has)];exact q1 s
 ·
  rw [W.z]
  refine Kd.free.qZ (fun s => ?_) q1 s
  rw [K2.z]
  exact jy (fun s => (jL o.ok K1.zok.ok K1.ext _ k2 s).trans (e1 s)) s
set_option maxRecDepth 100000 in
set_option maxHeartbeats 4000000 in
theorem zkx {V L : Int} (hV : V ≤ 24) (hL : V ≤ L + 3) {s : Fb} : ∀ (f : Nat) (h : Int) (w : World) (c : Cells),zw w s V c → ZOk V c → zx c h = true → (24 - zk c h).toNat < f → yh L c + jU (L - zk c h).toNat + hiB V L < c.length →
 Calls Tryz.prog 150 #[.pointer (some ⟨s.ps,0,none⟩),.int .i64 h] w (zl5 V L s c h w)
 | 0,_,_,_,_,_,_,hf,_ => absurd hf (Nat.not_lt_zero _)
 | f + 1,h,w,c,hs,zo,hh,hf,hr => by
  have Hih:=hid (zkx hV hL (s:=s) f)
  have c0:=hs.s0
  have lps:=hs.lps
  have hg:=zbB h w s.b c hs.ar (hs.le hh)
  have hhas:=fun w' (ha : zL w' s.b c) => xB h w' s.b c ha (hs.le hh)
  have Hhas:=hid hhas;have Hs:=hid hs;have Hz:=hid zo;have Hh:=hid hh;have Hf:=hid hf;have Hr:=hid hr
  clear hs zo hh hf hr hhas
  cases g : getM c h with
  | none =>
   rw [g] at hg
   have Hg:=hid hg;have G:=hid g;clear hg g
   have hb : Below w.heap.size w ((w.alloc (.cells #[.int .i64 0,.int .i64 0,.int .i64 0] 117)).alloc (.cells #[.int .i64 0,.int .i64 0,.int .i64 0] 117)):=(zba).alloc (by simp) _
   have hha:=Hhas.out _ (Hs.out.ar.below hb)
   rw [Hh.out] at hha
   have Hha:=hid hha;have HB:=hid hb;clear hha hb Hhas
   go_enter Tryz.func150,Tryz.ntmps150
   go_wp2_with fail
   refine Hg.out.mono ?_
   rintro e w1 ⟨rfl,rfl⟩
   simp only [zaC,qh,Option.getD_none,Option.isSome_none]
   go_wp2_with fail
   refine Hha.out.mono ?_
   rintro e w1 ⟨rfl,rfl⟩
   go_wp2_with fail
   go_ret2
   exact ⟨c,h,rfl,Hs.out.below HB.out,Only.of_below HB.out rfl,Hz.out,Ext.refl _,Hh.out,zob G.out,Int.le_refl _,Nat.le_add_right _ _⟩
  | some n =>
   obtain ⟨u,lo,hi⟩:=n
   rw [g] at hg
   obtain ⟨b1,b2,k1,k2,k3,k4⟩:=Hz.out.ok.kids g
   have ht:=zK g
   have huV : u < V:=by obtain ⟨k,_,h1,_⟩:=getM_some g;exact Hz.out.vlt k _ h1
   dsimp only at b1 b2 k1 k2 k3 k4 ht
   have hf2:=Hf.out;have hr2:=Hr.out
   rw [ht] at hf2 hr2
   have cs:=zg9 L u
   have hb : Below w.heap.size w ((w.alloc (.cells #[.int .i64 u,.int .i64 lo,.int .i64 hi] 117)).alloc (.cells #[.int .i64 u,.int .i64 lo,.int .i64 hi] 117)):=(zba).alloc (by simp) _
   have hkc:=zeX L u k3
   have hq1:=Hih.out lo _ c (Hs.out.below hb) Hz.out k1 (by omega) (by omega)
   have Hq1:=hid hq1;have HB:=hid hb;have Hg:=hid hg;have G:=hid g;have B1:=hid b1;have B2:=hid b2;have K1:=hid k1;have K2:=hid k2;have K3:=hid k3;have K4:=hid k4
   have HuV:=hid huV;have Hf2:=hid hf2;have Hr2:=hid hr2;have Hcs:=hid cs
   have hbx : ∀ j,s.b.mem j → j < w.heap.size:=fun j hj => Hs.out.lt hj
   have Hbx:=hid hbx
   clear hq1 hb hg g b1 b2 k1 k2 k3 k4 ht huV hf2 hr2 cs hkc hbx Hhas Hr Hf
   go_enter Tryz.func150,Tryz.ntmps150
   go_wp2_with fail
   refine Hg.out.mono ?_
   rintro e w1 ⟨rfl,rfl⟩
   simp only [zaC,qh,Option.getD_some,Option.isSome_some]
   go_wp2_with fail
   have bx0 : ((w.alloc (.cells #[.int .i64 u,.int .i64 lo,.int .i64 hi] 117)).alloc (.cells #[.int .i64 u,.int .i64 lo,.int .i64 hi] 117)).heap[w.heap.size + 1]? = some (.cells #[.int .i64 u,.int .i64 lo,.int .i64 hi] 117 (0,0)):=za (by simp)
   have Hbx0:=hid bx0;clear bx0
   generalize (w.alloc (.cells #[.int .i64 u,.int .i64 lo,.int .i64 hi] 117)).alloc (.cells #[.int .i64 u,.int .i64 lo,.int .i64 hi] 117) = w0 at Hq1 HB Hbx0 ⊢
   refine Hq1.out.mono ?_
   rintro e w2 ⟨c1,x1,rfl,hs2,ho2,L1⟩
   have nb : ¬ s.b.mem (w.heap.size + 1):=fun hm => by have:=Hbx.out _ hm;omega
   have bx2:=(ho2.block _ (zlb Hbx0.out) nb).trans Hbx0.out
   have l1:=L1.low K3.out
   have t2 : zk c1 hi = zk c hi:=L1.ext.top K2.out
   have hq2:=Hih.out hi w2 c1 hs2 L1.zok (L1.ext.has K2.out) (by have:=Hf2.out;have:=K4.out;have:=B2.out;omega) (by
    have h5:=zeX L u K4.out;have h6:=Hr2.out;have h7:=Hcs.out;have h8:=L1.ext.len;have h9:=l1.2;rw [t2];omega)
   have d2 : w2.cell? ⟨w.heap.size + 1,2,none⟩ = some (.int .i64 hi):=by rw [cell_of_row w2 _ _ _ _ _ bx2];rfl
   have Hq2:=hid hq2;have HL1:=hid L1;have Ho2:=hid ho2;have Hl1:=hid l1;have Hbx2:=hid bx2;have Nb:=hid nb
   clear hq2 L1 ho2 l1 bx2 nb hs2 t2 Hq1 Hbx0
   go_wp2_with fail
   refine Hq2.out.mono ?_
   rintro e w3 ⟨c2,x2,rfl,hs3,ho3,L2⟩
   clear d2
   have bx3:=(ho3.block _ (zlb Hbx2.out) Nb.out).trans Hbx2.out
   have l2:=L2.low (v:=u) (by rw [HL1.out.ext.top K2.out];exact K4.out)
   have t1 : u < zk c2 x1:=by rw [L2.ext.top HL1.out.has];exact Hl1.out.1
   have hq3:=znM hV hL x2 x1 w3 c2 hs3 L2.zok L2.has (L2.ext.has HL1.out.has) (by
    have h5:=je Kd.free L l2.1 t1;have h6:=Hr2.out;have h7:=Hcs.out;have h8:=HL1.out.ext.len;have h8':=L2.ext.len;have h9:=Hl1.out.2;have h9':=l2.2
    have h10 : Kd.free.cost = zay:=rfl
    rw [h10] at h5;rw [h10];omega)
   have Hq3:=hid hq3;have HL2:=hid L2;have Ho3:=hid ho3;have Hl2:=hid l2;have Hbx3:=hid bx3;have T1:=hid t1
   clear hq3 L2 ho3 l2 bx3 t1 hs3 Hq2 Hbx2
   go_wp2_with fail
   refine Hq3.out.mono ?_
   rintro e w4 ⟨c3,x3,rfl,hs4,ho4,W⟩
   have bx4:=(ho4.block _ (zlb Hbx3.out) Nb.out).trans Hbx3.out
   have l3:=W.low (v:=u) Hl2.out.1 T1.out
   have h1c3 : zx c3 x1 = true:=W.ext.has (HL2.out.ext.has HL1.out.has)
   have hn:=ku L W.zok.ok W.zok.red B1.out B2.out h1c3 W.has (by rw [W.ext.top (HL2.out.ext.has HL1.out.has)];exact T1.out) l3.1 (by
    have h5:=zbg W.zok hL;have h6:=Hr2.out;have h7:=Hcs.out;have h8:=HL1.out.ext.len;have h8':=HL2.out.ext.len;have h8'':=W.ext.len;have h9:=Hl1.out.2;have h9':=Hl2.out.2;have h9'':=l3.2
    have h10 : Kd.free.cost = zay:=rfl
    rw [h10] at h9'';omega)
   have mk:=zpN hV Hz.out G.out HL1.out HL2.out W hn
   have hq:=zad u x1 x3 w4 s V c3 hs4 (hs4.le h1c3) (hs4.le W.has)
   rw [hn.err] at hq
   simp only [ziB,if_true] at hq
   generalize jY c3 u x1 x3 = R at hq mk
   obtain ⟨c4,x4,n4⟩:=R
   dsimp only at hq mk
   have d0 : w4.cell? ⟨w.heap.size + 1,0,none⟩ = some (.int .i64 u):=by rw [cell_of_row w4 _ _ _ _ _ bx4];rfl
   have Hq4:=hid hq;have Hmk:=hid mk;have Ho4:=hid ho4
   clear hq mk ho4 hn W l3 h1c3 hs4 bx4 Hq3
   go_wp2_with fail
   refine Hq4.out.mono ?_
   rintro e w5 ⟨rfl,hs5,ho5⟩
   have Hs5:=hid hs5;have Ho5:=hid ho5;clear hs5 ho5 d0
   go_wp2_with fail
   go_ret2
   exact ⟨c4,x4,rfl,Hs5.out,((((Only.of_below HB.out rfl).trans Ho2.out).trans Ho3.out).trans Ho4.out).trans Ho5.out,Hmk.out⟩
theorem zn9 {V L : Int} (hV : V ≤ 24) (hL : V ≤ L + 3) {s : Fb} (h : Int) (w : World) (c : Cells) (hs : zw w s V c) (zo : ZOk V c) (hh : zx c h = true) (hr : yh L c + jU (L - zk c h).toNat + hiB V L < c.length) :
 Calls Tryz.prog 150 #[.pointer (some ⟨s.ps,0,none⟩),.int .i64 h] w (zl5 V L s c h w):=zkx hV hL 25 h w c hs zo hh (by have:=zY zo.ok h;omega) hr
