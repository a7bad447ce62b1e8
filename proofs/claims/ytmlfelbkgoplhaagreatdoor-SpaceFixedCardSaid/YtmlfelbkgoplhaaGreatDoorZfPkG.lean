import Derived.Test.YtmlfelbkgoplhaaGreatDoorZfPkC
import Derived.Test.YtmlfelbkgoplhaaGreatDoorZfPkD
import Derived.Test.YtmlfelbkgoplhaaGreatDoorZfPkT
import Derived.Shelf.RegionOpen
import Derived.Sort.CutIn
import Derived.IntWalk
set_option linter.unusedVariables false
namespace Go.Proofs.YtmlfelbkgoplhaaGreatDoor
open Go.RowKit
attribute [local go_sem] Oper.semAt_some
def zby (w : World) (er : Value) : Prop:=(∃ k,er = .iface 45 (.int .i64 k)) ∨ ∃ p k pl,er = .iface 156 (.pointer (some ⟨p,0,none⟩)) ∧ w.heap[p]? = some (.cells #[.int .i64 k,.int .i64 pl] 158 (0,0))
def zhB (s : ByteArray) (w : World) (e : Ending) (w' : World) : Prop :=
 ∃ v r er,e = .returned (.tuple #[.agg #[v],er]) ∧ yx w' v r ∧ (∀ b,v.ownBlock = some b → w.heap.size ≤ b) ∧ r.length ≤ 7000 ∧ Below w.heap.size w w' ∧
  ((er = .nilIface ∧ s.size ≤ 1000 ∧ jG s r) ∨ (zby w' er ∧ r = [] ∧ ∀ r,s.size ≤ 1000 → ¬ jG s r))
def szs (l : List ByteArray) : Nat:=(l.map (fun x => x.size + 2)).sum
theorem zhq (sep : ByteArray) (h2 : sep.size = 2) : ∀ (k : Nat) (s : ByteArray),szs (Lib.splitB sep 0 k s) ≤ s.size + 2
 | 0,s => by unfold szs;simp [Lib.splitB_zero]
 | k + 1,s => by
  rcases Lib.indexB_cases s sep with hm | ⟨i,hi,hroom⟩
  · rw [Lib.splitB_miss _ _ _ _ hm];unfold szs;simp
  ·
   rw [Lib.splitB_hit sep 0 k s i hi]
   have:=zhq sep h2 k (s.extract (i + sep.size) s.size)
   unfold szs at this ⊢
   simp only [List.map_cons,List.sum_cons]
   simp at this ⊢
   omega
theorem znQ {l : List ByteArray} {k : Nat} (h : k < l.length) : szs (l.take (k + 1)) = szs (l.take k) + (l[k].size + 2):=by
 unfold szs
 rw [List.take_succ_eq_append_getElem h]
 simp only [List.map_append,List.sum_append,List.map_cons,List.map_nil,List.sum_cons,List.sum_nil,Nat.add_zero]
theorem zrm (l : List ByteArray) (k : Nat) : szs (l.take k) ≤ szs l:=by
 have h : szs l = szs (l.take k) + szs (l.drop k):=by
  have : szs (l.take k ++ l.drop k) = szs (l.take k) + szs (l.drop k):=by unfold szs;rw [List.map_append,List.sum_append]
  rwa [List.take_append_drop] at this
 omega
def zfG (n : Nat) (w : World) (xs : List ByteArray) (k : Nat) (W : World) : Prop :=
 ∃ v r,W.heap[n]? = some (.cells #[.slice none 0 0] 75 (0,0)) ∧ W.heap[n + 1]? = some (.cells #[.nilIface] 33 (0,0)) ∧
  W.heap[n + 1 + 1]? = some (.cells #[v] 75 (0,0)) ∧ W.heap[n + 1 + 1 + 1]? = some (.cells #[.int .i64 (szs (xs.take k) : Nat)] 3 (0,0)) ∧
  yx W v r ∧ (∀ b,v.ownBlock = some b → n + 7 ≤ b) ∧ q8 ((xs.take k).map (·.data.toList)) r ∧ r.length ≤ 6 * szs (xs.take k) ∧ Below n w W
def zja (n : Nat) (w : World) (xs : List ByteArray) (W : World) : Prop :=
 ∃ p q pl,W.heap[n]? = some (.cells #[.slice none 0 0] 75 (0,0)) ∧ W.heap[n + 1]? = some (.cells #[.iface 156 (.pointer (some ⟨p,0,none⟩))] 33 (0,0)) ∧
  W.heap[p]? = some (.cells #[.int .i64 q,.int .i64 pl] 158 (0,0)) ∧ (∀ r,¬ q8 (xs.map (·.data.toList)) r) ∧ Below n w W
theorem Kept.at {p : Nat → Prop} {A B : World} (h : Kept p A B) {k : Nat} {o : Obj} (hk : A.heap[k]? = some o) (hp : ¬ p k) : B.heap[k]? = some o:=(h.block k (Array.getElem?_eq_some_iff.1 hk).1 hp).trans hk
theorem zer {p : Nat → Prop} {A B : World} {v : Value} {r : List Spn} (h : yx A v r) (hK : Kept p A B) (hp : ∀ b cur T,v.ownBlock = some b → A.heap[b]? = some (.cells cur T (0,0)) → ¬ p b) : yx B v r:=by
 rcases h with h | ⟨g,cap,f,e,h1,h2,h3⟩
 · exact .inl h
 ·
  obtain ⟨cur,q1,q2⟩:=h2
  exact .inr ⟨g,cap,f,e,h1,⟨cur,hK.at q1 (hp g cur _ (by rw [e];rfl) q1),q2⟩,h3⟩
theorem zfG.stay {n N : Nat} {w : World} {xs : List ByteArray} {k : Nat} {A B : World} {p : Nat → Prop} (hn : n ≤ w.heap.size) (hN : n + 7 ≤ N) (h : zfG n w xs k A) (hp : ∀ j,p j → j = n + 1 + 1 + 1 + 1 ∨ N ≤ j ∧ ∃ r,A.heap[j]? = some (.loop r)) (hK : Kept p A B) : zfG n w xs k B:=by
 obtain ⟨v,r,h1,h2,h3,h4,h5,h6,h7,h8,h9⟩:=h
 have no : ∀ j,j < n + 4 → ¬ p j:=fun j hj hq => by rcases hp j hq with e | ⟨e,_⟩ <;> omega
 refine ⟨v,r,hK.at h1 (no _ (by omega)),hK.at h2 (no _ (by omega)),hK.at h3 (no _ (by omega)),hK.at h4 (no _ (by omega)),zer h5 hK (fun b cur T hb hc hq => ?_),h6,h7,h8,h9.trans (hK.below (fun j hj => no j (by omega)) (Nat.le_trans hn h9.size))⟩
 have:=h6 b hb
 rcases hp b hq with e | ⟨_,r,e⟩
 · omega
 · rw [hc] at e;cases e
theorem zja.stay {n N : Nat} {w : World} {xs : List ByteArray} {A B : World} {p : Nat → Prop} (hn : n ≤ w.heap.size) (hN : n + 7 ≤ N) (h : zja n w xs A) (hp : ∀ j,p j → N ≤ j ∧ ∃ r,A.heap[j]? = some (.loop r)) (hK : Kept p A B) : zja n w xs B:=by
 obtain ⟨q,k,pl,h1,h2,h3,h4,h5⟩:=h
 have no : ∀ j,j < n + 4 → ¬ p j:=fun j hj hq => by obtain ⟨e,_⟩:=hp j hq;omega
 refine ⟨q,k,pl,hK.at h1 (no _ (by omega)),hK.at h2 (no _ (by omega)),hK.at h3 (fun hq => ?_),h4,h5.trans (hK.below (fun j hj => no j (by omega)) (Nat.le_trans hn h5.size))⟩
 obtain ⟨_,r,e⟩:=hp q hq
 rw [h3] at e;cases e
def PWInv (br : Nat) (W2 : World) (pc : ByteArray) (wd i9 : Value) (wr : World) : Prop :=
 ∃ (m i : Nat) (v : Value) (r : List Spn) (done : List (List UInt8)),wd = .int .i64 m ∧ i9 = .int .i64 i ∧ i ≤ pc.size ∧ wr.heap[br]? = some (.cells #[v] 75 (0,0)) ∧ yx wr v r ∧
  (∀ b,v.ownBlock = some b → W2.heap.size ≤ b ∧ b ≠ br) ∧ qE done r ∧ done.length = m ∧ m ≤ i ∧ r.length ≤ 1 + 5 * m ∧ words pc.data.toList = done ++ words (pc.data.toList.drop i) ∧ Below W2.heap.size W2 wr
def PKInv (i : Nat) (pc : ByteArray) (kk : Value) : Prop:=∃ k : Nat,kk = .int .i64 k ∧ i ≤ k ∧ k ≤ pc.size ∧ ∀ j (h : j < pc.data.toList.length),i ≤ j → j < k → nb pc.data.toList[j] = true
def zau (n : Nat) (at_ : Nat) (W : World) : Prop:=(∃ x,W.heap[n]? = some (.cells #[x] 75 (0,0))) ∧ (∃ y,W.heap[n + 1]? = some (.cells #[y] 33 (0,0))) ∧ W.heap[n + 1 + 1 + 1]? = some (.cells #[.int .i64 at_] 3 (0,0))
theorem zau.cell {n at_ : Nat} {W : World} (h : zau n at_ W) : W.cell? ⟨n + 1 + 1 + 1,0,none⟩ = some (.int .i64 at_):=zco h.2.2
theorem zau.below {n at_ : Nat} {W W' : World} (h : zau n at_ W) (hb : Below W.heap.size W W') : zau n at_ W':=by
 obtain ⟨⟨x,h1⟩,⟨y,h2⟩,h3⟩:=h
 exact ⟨⟨x,(hb.block _ (zlb h1)).trans h1⟩,⟨y,(hb.block _ (zlb h2)).trans h2⟩,(hb.block _ (zlb h3)).trans h3⟩
theorem zau.alloc {n at_ : Nat} {W : World} (h : zau n at_ W) (o : Obj) : zau n at_ (W.alloc o):=h.below (zba)
theorem zau.set0 {n at_ : Nat} {W : World} (h : zau n at_ W) (u : Value) : zau n at_ (W.setCell ⟨n,0,none⟩ u):=by
 obtain ⟨⟨x,h1⟩,⟨y,h2⟩,h3⟩:=h
 exact ⟨⟨u,one_setCell h1⟩,⟨y,(zhc _ _ _ _ (by show n + 1 ≠ n;omega)).trans h2⟩,(zhc _ _ _ _ (by show n + 1 + 1 + 1 ≠ n;omega)).trans h3⟩
theorem zau.set1 {n at_ : Nat} {W : World} (h : zau n at_ W) (u : Value) : zau n at_ (W.setCell ⟨n + 1,0,none⟩ u):=by
 obtain ⟨⟨x,h1⟩,⟨y,h2⟩,h3⟩:=h
 exact ⟨⟨x,(zhc _ _ _ _ (by show n ≠ n + 1;omega)).trans h1⟩,⟨u,one_setCell h2⟩,(zhc _ _ _ _ (by show n + 1 + 1 + 1 ≠ n + 1;omega)).trans h3⟩
theorem zau.facts {n at_ : Nat} {W : World} (h : zau n at_ W) : (∃ x,W.cell? ⟨n,0,none⟩ = some x) ∧ W.frozen? ⟨n,0,none⟩ = false ∧ n < W.heap.size ∧ (∃ y,W.cell? ⟨n + 1,0,none⟩ = some y) ∧ W.frozen? ⟨n + 1,0,none⟩ = false ∧ n + 1 < W.heap.size:=by
 obtain ⟨⟨x,h1⟩,⟨y,h2⟩,h3⟩:=h
 exact ⟨⟨x,zco h1⟩,zfo h1,zlb h1,⟨y,zco h2⟩,zfo h2,zlb h2⟩
theorem zff {xs : List ByteArray} {p : List UInt8} (hm : p ∈ xs.map (·.data.toList)) (h : ∀ x,¬ jd p x) : ∀ R,¬ q8 (xs.map (·.data.toList)) R:=fun R hR => by
 obtain ⟨x,hx⟩:=hR.all p hm
 exact h x hx
theorem ziI {p l : List UInt8} (hm : l ∈ words p) (h : ∀ r,¬ za4 (zQ l) r) : ∀ x,¬ jd p x:=fun x hx => by
 obtain ⟨r,hr⟩:=hx.2.all l hm
 exact h r hr
theorem zcp {n l D : Nat} {w W2 w7 We : World} {xs : List ByteArray} {k p : Nat} {q pl : Int} (hn : n ≤ w.heap.size) (hgl : 4 < n) (hI : zfG n w xs k W2) (hb : Below W2.heap.size W2 w7)
 (hl : ∃ r,W2.heap[l]? = some (.loop r)) (hd : W2.heap[D]? = some (.deferred (some []))) (hlD : n + 7 ≤ l ∧ n + 7 ≤ D) (hsz : n + 7 ≤ W2.heap.size)
 (hK : Kept (fun j => j = n ∨ j = n + 1) w7 We) (h0 : We.heap[n]? = some (.cells #[.slice none 0 0] 75 (0,0))) (h1 : We.heap[n + 1]? = some (.cells #[.iface 156 (.pointer (some ⟨p,0,none⟩))] 33 (0,0)))
 (hp : We.heap[p]? = some (.cells #[.int .i64 q,.int .i64 pl] 158 (0,0))) (hno : ∀ R,¬ q8 (xs.map (·.data.toList)) R) :
 xZ (fun j => ze6 (n + 1 + 1 + 1 + 1) (n + 1 + 1 + 1 + 1 + 1) (n + 1 + 1 + 1 + 1 + 1 + 1) j ∨ j = l ∨ j = D) W2 We ∧ zja n w xs We:=by
 have hKK : Kept (fun j => j = n ∨ j = n + 1) W2 We:=(Kept.of_below hb).trans hK
 obtain ⟨_,_,_,_,_,_,_,_,_,_,hB⟩:=hI
 obtain ⟨r,hl⟩:=hl
 refine ⟨.ze5 hKK (fun j hj => ?_),⟨p,q,pl,h0,h1,hp,hno,hB.trans (hKK.below (fun j hj => by omega) (by omega))⟩⟩
 rcases hj with (rfl | rfl | rfl | rfl) | rfl | rfl
 · omega
 · omega
 · omega
 · omega
 · exact ⟨zlb hl,by omega⟩
 · exact ⟨zlb hd,by omega⟩
theorem yx.blk {w : World} {v : Value} {l : List Spn} (h : yx w v l) : ∀ b,v.ownBlock = some b → b < w.heap.size:=by
 intro b hb
 rcases h with ⟨rfl,_⟩ | ⟨g,cap,f,rfl,_,h2,_⟩
 · cases hb
 · cases hb;exact h2.lt
theorem jA (pc : ByteArray) (i k : Nat) : pc.extract i k = zQ ((pc.data.toList.drop i).take (k - i)):=by
 apply ByteArray.ext
 apply Array.toList_inj.1
 rw [Lib.extract_data]
 unfold zQ
 simp
set_option maxRecDepth 100000 in
set_option maxHeartbeats 16000000 in
theorem ziD (s : ByteArray) (w : World) (hs : s.size ≤ 1000) (hL : xQ w) (hT : zV w) : Calls Tryz.prog 89 #[.string s] w (zhB s w):=by
 have hsep : 1 ≤ orB.size:=by decide
 have hsum:=zhq orB (by decide) (Lib.countB s orB) s
 have hd : decide (1000 < (s.size : Int)) = false:=by simp;omega
 refine (callsIn_wide (n:=3)).1 ?_
 refine callsIn_of_wp_marks Tryz.func89 rfl trivial ?_ rfl
 simp only [Tryz.ntmps89,List.size_toArray,List.length_cons,List.length_nil,Nat.reduceAdd,Nat.reduceSub,Array.replicate_succ,Array.replicate_zero,List.push_toArray,List.append_toArray,List.nil_append,List.cons_append]
 gi_wp2_with fail
 refine ⟨trivial,?_⟩
 refine (callsIn_wide.2 (zk9 _ _ _)).mono ?_
 rintro e w' ⟨rfl,rfl⟩
 gi_wp2_with fail
 obtain ⟨n,hn⟩ : ∃ n,n = w.heap.size:=⟨_,rfl⟩
 obtain ⟨W0,hW0⟩ : ∃ W0,W0 = (((((((w.alloc (.cells #[.slice none 0 0] 75)).alloc (.cells #[.nilIface] 33)).alloc (.cells #[.slice none 0 0] 75)).alloc (.cells #[.int .i64 0] 3)).alloc (.cells #[.string s] 9)).alloc (.cells #[.string ⟨#[124,124]⟩] 9)).alloc (.cells #[.int .i64 0] 3)):=⟨_,rfl⟩
 have hz0 : W0.heap.size = n + 7:=by rw [hW0,hn];simp
 have hb0 : Below n w W0:=by rw [hW0,hn];exact ((((((zba).alloc (by simp) _).alloc (by simp;omega) _).alloc (by simp;omega) _).alloc (by simp;omega) _).alloc (by simp;omega) _).alloc (by simp;omega) _
 have k0 : W0.heap[n]? = some (.cells #[.slice none 0 0] 75 (0,0)):=by rw [hW0,hn];exact zh (zh (zh (zh (zh (zh (za rfl))))))
 have k1 : W0.heap[n + 1]? = some (.cells #[.nilIface] 33 (0,0)):=by rw [hW0,hn];exact zh (zh (zh (zh (zh (za (by simp))))))
 have k2 : W0.heap[n + 1 + 1]? = some (.cells #[.slice none 0 0] 75 (0,0)):=by rw [hW0,hn];exact zh (zh (zh (zh (za (by simp)))))
 have k3 : W0.heap[n + 1 + 1 + 1]? = some (.cells #[.int .i64 0] 3 (0,0)):=by rw [hW0,hn];exact zh (zh (zh (za (by simp))))
 have k4 : W0.heap[n + 1 + 1 + 1 + 1]? = some (.cells #[.string s] 9 (0,0)):=by rw [hW0,hn];exact zh (zh (za (by simp)))
 have k5 : W0.heap[n + 1 + 1 + 1 + 1 + 1]? = some (.cells #[.string orB] 9 (0,0)):=by rw [hW0,hn];exact zh (za (by simp))
 have k6 : W0.heap[n + 1 + 1 + 1 + 1 + 1 + 1]? = some (.cells #[.int .i64 0] 3 (0,0)):=by rw [hW0,hn];exact za (by simp)
 have hL0:=hL.below (by rw [← hn];exact hb0)
 obtain ⟨mm,hmm⟩:=hL0.len
 have hspl : zgj (n + 1 + 1 + 1 + 1) (n + 1 + 1 + 1 + 1 + 1) (n + 1 + 1 + 1 + 1 + 1 + 1) s orB W0:=⟨k4,k5,k6,mm,hmm⟩
 have hgl : 4 < n:=by
  obtain ⟨m',hm'⟩:=hL.len
  rw [hn];exact World.block_lt_of_cell? _ _ hm'
 have hne : zlj (n + 1 + 1 + 1 + 1) (n + 1 + 1 + 1 + 1 + 1) (n + 1 + 1 + 1 + 1 + 1 + 1):=⟨by omega,by omega,by omega⟩
 have hit:=zfj (n + 1 + 1 + 1 + 1) (n + 1 + 1 + 1 + 1 + 1) (n + 1 + 1 + 1 + 1 + 1 + 1) s orB W0 hsep (by omega) hspl hne
 rw [← hn,← hW0]
 change szs (pieces s) ≤ s.size + 2 at hsum
 change zkP _ _ _ _ (pieces s) _ _ _ at hit
 have h00 : zfG n w (pieces s) 0 W0:=⟨_,[],k0,k1,k2,k3,yx.nil _,fun b hb => (by cases hb),q8.nil,znz _,hb0⟩
 have hnle : n ≤ w.heap.size:=by omega
 have hnle2 : w.heap.size ≤ n:=by omega
 have Hsum:=hid hsum;have HL:=hid hL;have HT:=hid hT;have Hz0:=hid hz0;have Hn:=hid hn
 have hpc : ∀ R,q8 ((pieces s).map (·.data.toList)) R ↔ jG s R:=fun R => Iff.rfl
 have Hpc:=hid hpc
 have hz1 : n + 7 ≤ W0.heap.size:=by omega
 have hz2 : W0.heap.size ≤ n + 7:=by omega
 have HbT:=hid (show ∀ W',Below n w W' → xQ W' ∧ zV W' from fun W' h => ⟨hL.below (by rw [← hn];exact h),hT.below (by rw [← hn];exact h)⟩)
 clear hpc hn hW0 hz0 hsum hL hT
 generalize pieces s = xs at *
 refine zg9 (gf:=176) (lb:=#[.pointer (some ⟨n + 1 + 1 + 1 + 1 + 1,0,none⟩),.pointer (some ⟨n + 1 + 1 + 1 + 1,0,none⟩),.pointer (some ⟨n + 1 + 1 + 1 + 1 + 1 + 1,0,none⟩)]) rfl (enters_of Tryz.func176 (by kernel_rfl) rfl) hit rfl ?keep ?q
  (zfG n w xs) (zja n w xs) ?hI ?hIx h00 ?round ?done ?stop
 case keep =>
  rintro j (rfl | rfl | rfl | rfl) <;> omega
 case q =>
  rintro j rfl
  omega
 case hI =>
  intro k A B p h hp hK
  exact h.stay hnle (by omega : n + 7 ≤ W0.heap.size) hp hK
 case hIx =>
  intro A B p h hp hK
  exact h.stay hnle (by omega : n + 7 ≤ W0.heap.size) hp hK
 case round =>
  intro l D kx hk W hl hD hi hlo hdf
  gi_wp2_with fail
  refine ⟨trivial,fun W2 hI2 hl2 hd2 => ?_⟩
  obtain ⟨vo,ro,h1,h2,h3,h4,h5,h6,h7,h8,h9⟩:=hI2
  have htk:=znQ hk
  have hsl:=zrm xs (kx + 1)
  have htx : (xs.take (kx + 1)).map (·.data.toList) = (xs.take kx).map (·.data.toList) ++ [xs[kx].data.toList]:=by rw [List.take_succ_eq_append_getElem hk,List.map_append];rfl
  have hmem : xs[kx].data.toList ∈ xs.map (·.data.toList):=List.mem_map.2 ⟨_,List.getElem_mem hk,rfl⟩
  generalize xs[kx] = pc at htk htx hmem ⊢
  have hpcs : pc.size ≤ 1000:=by have:=Hsum.out;omega
  have hat : (szs (xs.take kx) : Int) ≤ 1000000:=by have:=Hsum.out;omega
  have hat0 : (0 : Int) ≤ (szs (xs.take kx) : Int):=by omega
  obtain ⟨rl,hrl⟩:=hl2
  obtain ⟨ao,co,rfl,_⟩:=h5.shape
  have HI:=hid (show zfG n w xs kx W2 from ⟨_,ro,h1,h2,h3,h4,h5,h6,h7,h8,h9⟩)
  have Htk:=hid htk;have Htx:=hid htx;have Hmem:=hid hmem
  have Hrl:=hid hrl;have Hd2:=hid hd2;have Hsl:=hid hsl
  have hn7 : n + 7 ≤ W2.heap.size:=by have:=zlb hrl;omega
  have hn4 : n + 4 ≤ W2.heap.size:=by have:=zlb h4;omega
  have HAny:=hid (zaD W2)
  clear htk htx hmem hrl hd2 h1 h2 h3 h4 h5 h6 h7 h8 h9 hsl hi hlo hdf hit h00 hspl k0 k1 k2 k3 k4 k5 k6 hb0 hL0 hmm
  gi_wp2_with fail
  refine ⟨trivial,?_⟩
  refine (CallsIn.inRound l (callsIn_wide.2 HAny.out)).mono ?_
  rintro e w1 ⟨v1,rfl,hsp1,hf1,hb1⟩
  obtain ⟨a1,c1,rfl,_⟩:=hsp1.shape
  have Hsp1:=hid hsp1;have Hf1:=hid hf1;have Hb1:=hid hb1
  have hz1:=hb1.size
  clear hsp1 hf1 hb1 HAny
  gi_wp2_with fail
  gi_loopw [8,9] (fun wd i9 wr => PWInv w1.heap.size W2 pc wd i9 wr) (fun _ i9 _ => pc.size - (intOf i9).toNat)
  case atStart =>
   exact ⟨0,0,_,_,[],rfl,rfl,znz _,za rfl,Hsp1.out.below (zba),fun b hb => ⟨Hf1.out b hb,fun e => by subst e;have:=Hsp1.out.blk _ hb;omega⟩,qE.nil,rfl,znz _,by simp,by simp,Hb1.out.alloc hz1 _⟩
  case round =>
   obtain ⟨m,i,v,r,done,rfl,rfl,hi,hbr,hsp,hfr,hpq,hdl,hmi,hrl,hws,hbw⟩:=hrel
   obtain ⟨wo,rfl⟩ : ∃ y,y = wr:=⟨_,rfl⟩
   obtain ⟨av,cv,rfl,_⟩:=hsp.shape
   have Hbr:=hid hbr;have Hsp:=hid hsp;have Hfr:=hid hfr;have Hpq:=hid hpq;have Hdl:=hid hdl;have Hws:=hid hws;have Hbw:=hid hbw;have Hrl2:=hid hrl
   have hbn : Below n w wo:=by
    obtain ⟨_,_,_,_,_,_,_,_,_,_,h9⟩:=HI.out
    exact h9.trans (hbw.mono (by omega))
   have Hbn:=hid hbn
   have hm1 : (m : Int) ≤ 1000:=by omega
   clear hbr hsp hfr hpq hdl hws hbw hbn hrl
   by_cases hlt : i < pc.size
   ·
    have hlt1 : (i : Int) < (pc.size : Int):=by omega
    by_cases hb : pc[i] = 32
    ·
     have t1 : ((pc[i].toNat : Int) == 32) = true:=by rw [hb];rfl
     have Hst:=hid (zed (l:=pc.data.toList) hlt hb)
     clear hb
     gi_wp2_with fail
     refine ⟨⟨m,i + 1,_,r,done,rfl,by go_num,by omega,Hbr.out,Hsp.out,Hfr.out,Hpq.out,Hdl.out,by omega,Hrl2.out,by rw [← Hst.out];exact Hws.out,Hbw.out⟩,?_⟩
     simp [intOf];omega
    ·
     have t1 : ((pc[i].toNat : Int) == 32) = false:=by
      rw [beq_eq_false_iff_ne]
      intro e
      exact hb (UInt8.toNat_inj.1 (by show pc[i].toNat = 32;omega))
     have Hb:=hid (show nb pc[i] = true by unfold nb;simpa using hb)
     clear hb
     gi_wp2_with fail
     gi_loop [10] (fun kk => PKInv i pc kk) (fun kk => pc.size - (intOf kk).toNat)
     case atStart => exact ⟨i,rfl,znr _,hi,fun j h h1 h2 => by omega⟩
     case round =>
      obtain ⟨k,rfl,hik0,hks,hall⟩:=hrel
      have Hall:=hid hall;clear hall
      by_cases hkl : k < pc.size
      ·
       have hkl1 : (k : Int) < (pc.size : Int):=by omega
       by_cases hkb : pc[k] = 32
       ·
        have d1 : ((pc[k].toNat : Int) == 32) = true:=by rw [hkb];rfl
        have d2 : ((pc[k].toNat : Int) != 32) = false:=by rw [hkb];rfl
        have hik : i < k:=by
         rcases Nat.lt_or_ge i k with h | h
         · exact h
         ·
          obtain rfl : i = k:=by omega
          have:=Hb.out
          rw [hkb] at this;exact absurd this (by decide)
        have hall:=Hall.out
        have hstop : ∀ (h : k < pc.data.toList.length),nb pc.data.toList[k] = false:=fun h => by
         have : pc.data.toList[k] = pc[k]:=rfl
         rw [this,hkb];rfl
        clear hkb
        have hwd:=zbw (l:=pc.data.toList) hik hks hall hstop
        have HW:=hid (ziE (pc.extract i k) wo (by simp;omega) (HbT.out wo (Hbn.out)).1)
        have Hwd:=hid hwd
        have hx1 : (i : Int) ≤ (k : Int):=by omega
        have hx2 : (k : Int) ≤ (pc.size : Int):=by omega
        clear hwd hall hstop
        gi_wp2_with fail
        refine ⟨trivial,?_⟩
        refine (CallsIn.inRound l (callsIn_wide.2 HW.out)).mono ?_
        rintro e w5 ⟨v5,r5,er,rfl,hs5,hl5,hf5,hb5,hcase⟩
        obtain ⟨a5,c5,rfl,_⟩:=hs5.shape
        have Hs5:=hid hs5;have Hl5:=hid hl5;have Hf5:=hid hf5;have Hb5:=hid hb5
        clear hs5 hl5 hf5 hb5 HW
        have hbr5:=(Hb5.out.block _ (zlb Hbr.out)).trans Hbr.out
        have hz5:=Hb5.out.size
        rcases hcase with ⟨rfl,hwr⟩ | ⟨⟨q,rfl⟩,hno⟩
        ·
         obtain ⟨W6,hW6⟩ : ∃ W6,W6 = w5.alloc (.cells #[.slice a5 r5.length c5] 75):=⟨_,rfl⟩
         have hb6 : Below w5.heap.size w5 W6:=by rw [hW6];exact zba
         have hk6 : W6.heap[w5.heap.size]? = some (.cells #[.slice a5 r5.length c5] 75 (0,0)):=by rw [hW6];exact za rfl
         have hbr6:=(hb6.block _ (zlb hbr5)).trans hbr5
         have hbo6:=Hb5.out.trans (hb6.mono hz5)
         have HA:=hid (zk2 _ _ r r5 W6 (Hsp.out.below hbo6) (Hs5.out.below hb6) Hpq.out.can hwr.canon (by have:=Hrl2.out;omega) (by have:=Hl5.out;omega) (by have:=Hrl2.out;have:=Hl5.out;omega))
         have d1:=zco hbr6;have d2:=zco hk6;have d3:=zlb hbr6;have d4:=zfo hbr6;have d5:=zfo hk6
         have Hwr:=hid hwr;have Hbr6:=hid hbr6;have Hbo6:=hid hbo6
         clear hwr hb6 hk6 hbr6 hbo6 hbr5
         gi_upto_region 18 with fail
         rw [← hW6]
         clear hW6
         gi_wp2_with fail
         refine ⟨trivial,?_⟩
         refine (CallsIn.inRound l (callsIn_wide.2 HA.out)).mono ?_
         rintro e w7 ⟨v7,r7,rfl,hs7,ha7,hl7,hf7,hb7⟩
         obtain ⟨a7,c7,rfl,_⟩:=hs7.shape
         have hbr7:=(hb7.block _ (zlb Hbr6.out)).trans Hbr6.out
         have e1:=zco hbr7;have e2:=zfo hbr7;have e3:=zlb hbr7
         have hz6:=Hbo6.out.size
         have hne7 : ∀ b,(Value.slice a7 r7.length c7).ownBlock = some b → w1.heap.size < b:=fun b hb => by have:=hf7 b hb;have:=zlb Hbr6.out;omega
         have HB7:=hid ((Hbw.out.trans ((Hbo6.out.trans (hb7.mono hz6)).mono Hbw.out.size)).setCell (p:=⟨w1.heap.size,0,none⟩) (show W2.heap.size ≤ w1.heap.size from hz1) (.slice a7 r7.length c7))
         have Hs7:=hid (hs7.qB (b:=w1.heap.size) hne7 (.slice a7 r7.length c7));have Hbr7:=hid (one_setCell (u:=.slice a7 r7.length c7) hbr7)
         have Ha7:=hid ha7;have Hl7:=hid hl7;have Hne7:=hid hne7
         clear hs7 ha7 hl7 hf7 hb7 hbr7 hne7 HA
         gi_wp2_with fail
         refine ⟨⟨m + 1,k,_,r7,done ++ [(pc.data.toList.drop i).take (k - i)],by go_num,rfl,hks,Hbr7.out,Hs7.out,fun b hb => ?_,Hpq.out.snoc (by rw [← jA];exact Hwr.out) Ha7.out,by have:=Hdl.out;simp;omega,by omega,by have:=Hl7.out;have:=Hrl2.out;have:=Hl5.out;omega,by rw [Hws.out,Hwd.out];simp,HB7.out⟩,?_⟩
         · have:=Hne7.out b hb;omega
         · simp [intOf];omega
        ·
         have Hno:=hid hno;clear hno
         obtain ⟨W6,hW6⟩ : ∃ W6,W6 = w5.alloc (.cells #[.slice a5 r5.length c5] 75):=⟨_,rfl⟩
         have hb6 : Below w5.heap.size w5 W6:=by rw [hW6];exact zba
         have hbo6:=Hb5.out.trans (hb6.mono hz5)
         have hbn6:=(Hbn.out.trans (hbo6.mono (by have:=Hbn.out.size;omega))).drew
         have Hb6:=hid (Hbw.out.trans (hbo6.mono Hbw.out.size))
         have HTl:=hid (zcY q W6.drew (HbT.out _ hbn6).2)
         have Hbn6:=hid hbn6;have Hbo6:=hid hbo6
         clear hb6 hbn6 hbo6 hbr5
         gi_upto_region 17 with fail
         rw [← hW6]
         clear hW6
         obtain ⟨_,_,h1,h2,h3,h4,_⟩:=HI.out
         have g1:=(Hb6.out.block _ (zlb h1)).trans h1;have g2:=(Hb6.out.block _ (zlb h2)).trans h2;have g4:=(Hb6.out.block _ (zlb h4)).trans h4
         have HS0 : zau n (szs (xs.take kx) : Nat) W6.drew:=⟨⟨_,g1⟩,⟨_,g2⟩,g4⟩
         have HS:=hid HS0
         clear g1 g2 g4 h1 h2 h3 h4 HS0
         have hmx : Tryz.prog.follows .mixedOrders = true:=by kernel_rfl
         have Hwr:=hid (show IntKind.i64.wrap ((szs (xs.take kx) : Nat) + (i : Int)) = (szs (xs.take kx) : Nat) + i from IntWalk.i64_in _ (by omega))
         have Hno2:=hid (zff Hmem.out (ziI (l:=(pc.data.toList.drop i).take (k - i)) (by rw [Hws.out,Hwd.out];simp) (by rw [← jA];exact Hno.out)))
         refine qV (zau n (szs (xs.take kx) : Nat)) hmx (by kernel_rfl) (fun ⟨_,_,h⟩ => h) HS.out (fun hS => ?_)
         refine wpAnyH_take (i:=0) (v:=.agg #[.slice none 0 0]) rfl (by kernel_rfl) (by kernel_rfl) (by kernel_rfl) (fun _ _ _ h => h) (Or.inl ⟨by rfl,fun w9 hS9 => by (have hc9:=hS9.cell;clear hS9;go_simp)⟩) hS ?_
         try simp only [Act.put,List.getElem_toArray,List.getElem_cons_zero,List.setIfInBounds_toArray,List.set_cons_zero,List.set_cons_succ]
         refine wpAnyH_take (i:=1) (v:=.iface 45 (.int .i64 q)) rfl (by kernel_rfl) (by kernel_rfl) (by kernel_rfl) (fun _ _ _ h => h) (Or.inl ⟨by rfl,fun w9 hS9 => by (have hc9:=hS9.cell;clear hS9;go_simp)⟩) hS ?_
         try simp only [Act.put,zs1,zs2,zs3,zs4,zs5,zs6]
         refine wpAnyH_take (i:=3) (v:=.int .i64 (szs (xs.take kx) : Nat)) rfl (by kernel_rfl) (by kernel_rfl) (by kernel_rfl) (fun _ _ _ h => h) (Or.inl ⟨by rfl,fun w9 hS9 => by (have hc9:=hS9.cell;clear hS9;go_simp)⟩) hS ?_
         try simp only [Act.put,zs1,zs2,zs3,zs4,zs5,zs6]
         refine wpAnyH_take (i:=4) (v:=.int .i64 i) rfl (by kernel_rfl) (by kernel_rfl) (by kernel_rfl) (fun _ _ _ h => h) (Or.inl ⟨by rfl,fun w9 hS9 => by (have hc9:=hS9.cell;clear hS9;go_simp)⟩) hS ?_
         try simp only [Act.put,zs1,zs2,zs3,zs4,zs5,zs6]
         refine wpAnyH_take (i:=5) (v:=.int .i64 ((szs (xs.take kx) : Nat) + i)) rfl (by kernel_rfl) (by kernel_rfl) (by kernel_rfl) (fun _ _ _ h => h) (Or.inl ⟨by rfl,fun w9 hS9 => by (have hw9:=Hwr.out;have hc9:=hS9.cell;clear hS9;go_simp)⟩) hS ?_
         try simp only [Act.put,zs1,zs2,zs3,zs4,zs5,zs6]
         refine wpAnyH_ready (rs:=[2]) (by kernel_rfl) (by simp) ?_
         refine AllReadyH.cons rfl (fun K hK => ?_) AllReadyH.nil
         go_simp
         refine HTl.out.mono ?_
         rintro e w7 ⟨rfl,hb7⟩
         have Hb7:=hid (Hb6.out.drew.trans (hb7.mono Hb6.out.size));have HS7:=hid (HS.out.below hb7)
         clear hb7
         refine hK.out _ _ HS7.out (fun hS => ?_)
         clear hK K
         try simp only [Act.put,zs1,zs2,zs3,zs4,zs5,zs6]
         refine wpAnyH_take (i:=6) (v:=.agg #[.int .i64 q,.int .i64 ((szs (xs.take kx) : Nat) + i)]) rfl (by kernel_rfl) (by kernel_rfl) (by kernel_rfl) (fun _ _ _ h => h) (Or.inl ⟨by rfl,fun w9 hS9 => by (have hc9:=hS9.cell;clear hS9;go_simp)⟩) hS ?_
         try simp only [Act.put,zs1,zs2,zs3,zs4,zs5,zs6]
         refine wpAnyH_ready (rs:=[7,9]) (by kernel_rfl) (by simp) ?_
         refine AllReadyH.cons rfl (fun K hK => ?_) (AllReadyH.cons rfl (fun K hK => ?_) AllReadyH.nil)
         ·
          go_simp
          refine hK.out _ _ (HS7.out.alloc _) (fun hS => ?_)
          clear hK K
          try simp only [Act.put,zs1,zs2,zs3,zs4,zs5,zs6]
          refine wpAnyH_take (i:=8) (v:=.iface 156 (.pointer (some ⟨w7.heap.size,0,none⟩))) rfl (by kernel_rfl) (by kernel_rfl) (by kernel_rfl) (fun _ _ _ h => h) (Or.inl ⟨by rfl,fun w9 hS9 => by (have hc9:=hS9.cell;clear hS9;go_simp)⟩) hS ?_
          try simp only [Act.put,zs1,zs2,zs3,zs4,zs5,zs6]
          refine wpAnyH_ready (rs:=[9]) (by kernel_rfl) (by simp) ?_
          refine AllReadyH.cons rfl (fun K hK => ?_) AllReadyH.nil
          have hx8:=(HS7.out.alloc (.cells #[.int .i64 q,.int .i64 ((szs (xs.take kx) : Nat) + i)] 158)).facts
          obtain ⟨⟨x8,y1⟩,y2,y3,⟨x9,y4⟩,y5,y6⟩:=hx8
          go_simp
          refine hK.out _ _ ((HS7.out.alloc _).set0 _) (fun hS => ?_)
          clear hK K y1 y2 y3 y4 y5 y6
          try simp only [Act.put,zs1,zs2,zs3,zs4,zs5,zs6]
          refine wpAnyH_ready (rs:=[10]) (by kernel_rfl) (by simp) ?_
          refine AllReadyH.cons rfl (fun K hK => ?_) AllReadyH.nil
          have hx8:=((HS7.out.alloc (.cells #[.int .i64 q,.int .i64 ((szs (xs.take kx) : Nat) + i)] 158)).set0 (.slice none 0 0)).facts
          obtain ⟨⟨x8,y1⟩,y2,y3,⟨x9,y4⟩,y5,y6⟩:=hx8
          go_simp
          refine hK.out _ _ (((HS7.out.alloc _).set0 _).set1 _) (fun hS => ?_)
          clear hK K y1 y2 y3 y4 y5 y6
          try simp only [Act.put,zs1,zs2,zs3,zs4,zs5,zs6]
          refine wpAnyH_done (by kernel_rfl) ?_ _
          gi_wp2_with fail
          obtain ⟨⟨x8,g1⟩,⟨x9,g2⟩,g3⟩:=HS7.out
          exact zcp hnle hgl HI.out Hb7.out ⟨rl,Hrl.out⟩ Hd2.out ⟨by omega,by omega⟩ hn7 (((Kept.alloc _ _ _).trans (Kept.set _ ⟨n,0,none⟩ _ (.inl rfl))).trans (Kept.set _ ⟨n + 1,0,none⟩ _ (.inr rfl))) ((zhc _ _ _ _ (by show n ≠ n + 1;omega)).trans (one_setCell (zh g1))) (one_setCell ((zhc _ _ _ _ (by show n + 1 ≠ n;omega)).trans (zh g2))) ((zhc _ _ _ _ (by have:=zlb g2;show w7.heap.size ≠ n + 1;omega)).trans ((zhc _ _ _ _ (by have:=zlb g1;show w7.heap.size ≠ n;omega)).trans (za rfl))) Hno2.out
         ·
          have hx8:=HS7.out.facts
          obtain ⟨⟨x8,y1⟩,y2,y3,⟨x9,y4⟩,y5,y6⟩:=hx8
          go_simp
          refine hK.out _ _ (HS7.out.set0 _) (fun hS => ?_)
          clear hK K y1 y2 y3 y4 y5 y6
          try simp only [Act.put,zs1,zs2,zs3,zs4,zs5,zs6]
          refine wpAnyH_ready (rs:=[7]) (by kernel_rfl) (by simp) ?_
          refine AllReadyH.cons rfl (fun K hK => ?_) AllReadyH.nil
          go_simp
          refine hK.out _ _ ((HS7.out.set0 _).alloc _) (fun hS => ?_)
          clear hK K
          try simp only [Act.put,zs1,zs2,zs3,zs4,zs5,zs6]
          refine wpAnyH_take (i:=8) (v:=.iface 156 (.pointer (some ⟨w7.heap.size,0,none⟩))) rfl (by kernel_rfl) (by kernel_rfl) (by kernel_rfl) (fun _ _ _ h => h) (Or.inl ⟨by rfl,fun w9 hS9 => by (have hc9:=hS9.cell;clear hS9;go_simp)⟩) hS ?_
          try simp only [Act.put,zs1,zs2,zs3,zs4,zs5,zs6]
          refine wpAnyH_ready (rs:=[10]) (by kernel_rfl) (by simp) ?_
          refine AllReadyH.cons rfl (fun K hK => ?_) AllReadyH.nil
          have hx8:=((HS7.out.set0 (.slice none 0 0)).alloc (.cells #[.int .i64 q,.int .i64 ((szs (xs.take kx) : Nat) + i)] 158)).facts
          obtain ⟨⟨x8,y1⟩,y2,y3,⟨x9,y4⟩,y5,y6⟩:=hx8
          go_simp
          refine hK.out _ _ (((HS7.out.set0 _).alloc _).set1 _) (fun hS => ?_)
          clear hK K y1 y2 y3 y4 y5 y6
          try simp only [Act.put,zs1,zs2,zs3,zs4,zs5,zs6]
          refine wpAnyH_done (by kernel_rfl) ?_ _
          gi_wp2_with fail
          obtain ⟨⟨x8,g1⟩,⟨x9,g2⟩,g3⟩:=HS7.out
          exact zcp hnle hgl HI.out Hb7.out ⟨rl,Hrl.out⟩ Hd2.out ⟨by omega,by omega⟩ hn7 (((Kept.set _ ⟨n,0,none⟩ _ (.inl rfl)).trans (Kept.alloc _ _ _)).trans (Kept.set _ ⟨n + 1,0,none⟩ _ (.inr rfl))) ((zhc _ _ _ _ (by show n ≠ n + 1;omega)).trans (zh (one_setCell g1))) (one_setCell (zh ((zhc _ _ _ _ (by show n + 1 ≠ n;omega)).trans g2))) ((zhc _ _ _ _ (by have:=zlb g2;show w7.heap.size ≠ n + 1;omega)).trans (za (by simp))) Hno2.out
       ·
        have d1 : ((pc[k].toNat : Int) == 32) = false:=by
         rw [beq_eq_false_iff_ne]
         intro e
         exact hkb (UInt8.toNat_inj.1 (by show pc[k].toNat = 32;omega))
        have d2 : ((pc[k].toNat : Int) != 32) = true:=by
         rw [bne_iff_ne]
         intro e
         exact hkb (UInt8.toNat_inj.1 (by show pc[k].toNat = 32;omega))
        have Hkb:=hid (show nb pc[k] = true by unfold nb;simpa using hkb)
        clear hkb
        gi_wp2_with fail
        refine ⟨⟨k + 1,by go_num,by omega,by omega,fun j h h1 h2 => ?_⟩,?_⟩
        ·
         by_cases e : j = k
         · subst e;exact Hkb.out
         · exact Hall.out j h h1 (by omega)
        · simp [intOf];omega
      ·
       have hke : k = pc.size:=by omega
       have hkl1 : decide (k < pc.size) = false:=by simp;omega
       have hik : i < k:=by omega
       have hall:=Hall.out
       have hstop : ∀ (h : k < pc.data.toList.length),nb pc.data.toList[k] = false:=fun h => absurd h hkl
       clear hke hkl
       have hwd:=zbw (l:=pc.data.toList) hik hks hall hstop
       have HW:=hid (ziE (pc.extract i k) wo (by simp;omega) (HbT.out wo (Hbn.out)).1)
       have Hwd:=hid hwd
       have hx1 : (i : Int) ≤ (k : Int):=by omega
       have hx2 : (k : Int) ≤ (pc.size : Int):=by omega
       clear hwd hall hstop
       gi_wp2_with fail
       refine ⟨trivial,?_⟩
       refine (CallsIn.inRound l (callsIn_wide.2 HW.out)).mono ?_
       rintro e w5 ⟨v5,r5,er,rfl,hs5,hl5,hf5,hb5,hcase⟩
       obtain ⟨a5,c5,rfl,_⟩:=hs5.shape
       have Hs5:=hid hs5;have Hl5:=hid hl5;have Hf5:=hid hf5;have Hb5:=hid hb5
       clear hs5 hl5 hf5 hb5 HW
       have hbr5:=(Hb5.out.block _ (zlb Hbr.out)).trans Hbr.out
       have hz5:=Hb5.out.size
       rcases hcase with ⟨rfl,hwr⟩ | ⟨⟨q,rfl⟩,hno⟩
       ·
        obtain ⟨W6,hW6⟩ : ∃ W6,W6 = w5.alloc (.cells #[.slice a5 r5.length c5] 75):=⟨_,rfl⟩
        have hb6 : Below w5.heap.size w5 W6:=by rw [hW6];exact zba
        have hk6 : W6.heap[w5.heap.size]? = some (.cells #[.slice a5 r5.length c5] 75 (0,0)):=by rw [hW6];exact za rfl
        have hbr6:=(hb6.block _ (zlb hbr5)).trans hbr5
        have hbo6:=Hb5.out.trans (hb6.mono hz5)
        have HA:=hid (zk2 _ _ r r5 W6 (Hsp.out.below hbo6) (Hs5.out.below hb6) Hpq.out.can hwr.canon (by have:=Hrl2.out;omega) (by have:=Hl5.out;omega) (by have:=Hrl2.out;have:=Hl5.out;omega))
        have d1:=zco hbr6;have d2:=zco hk6;have d3:=zlb hbr6;have d4:=zfo hbr6;have d5:=zfo hk6
        have Hwr:=hid hwr;have Hbr6:=hid hbr6;have Hbo6:=hid hbo6
        clear hwr hb6 hk6 hbr6 hbo6 hbr5
        gi_upto_region 18 with fail
        rw [← hW6]
        clear hW6
        gi_wp2_with fail
        refine ⟨trivial,?_⟩
        refine (CallsIn.inRound l (callsIn_wide.2 HA.out)).mono ?_
        rintro e w7 ⟨v7,r7,rfl,hs7,ha7,hl7,hf7,hb7⟩
        obtain ⟨a7,c7,rfl,_⟩:=hs7.shape
        have hbr7:=(hb7.block _ (zlb Hbr6.out)).trans Hbr6.out
        have e1:=zco hbr7;have e2:=zfo hbr7;have e3:=zlb hbr7
        have hz6:=Hbo6.out.size
        have hne7 : ∀ b,(Value.slice a7 r7.length c7).ownBlock = some b → w1.heap.size < b:=fun b hb => by have:=hf7 b hb;have:=zlb Hbr6.out;omega
        have HB7:=hid ((Hbw.out.trans ((Hbo6.out.trans (hb7.mono hz6)).mono Hbw.out.size)).setCell (p:=⟨w1.heap.size,0,none⟩) (show W2.heap.size ≤ w1.heap.size from hz1) (.slice a7 r7.length c7))
        have Hs7:=hid (hs7.qB (b:=w1.heap.size) hne7 (.slice a7 r7.length c7));have Hbr7:=hid (one_setCell (u:=.slice a7 r7.length c7) hbr7)
        have Ha7:=hid ha7;have Hl7:=hid hl7;have Hne7:=hid hne7
        clear hs7 ha7 hl7 hf7 hb7 hbr7 hne7 HA
        gi_wp2_with fail
        refine ⟨⟨m + 1,k,_,r7,done ++ [(pc.data.toList.drop i).take (k - i)],by go_num,rfl,hks,Hbr7.out,Hs7.out,fun b hb => ?_,Hpq.out.snoc (by rw [← jA];exact Hwr.out) Ha7.out,by have:=Hdl.out;simp;omega,by omega,by have:=Hl7.out;have:=Hrl2.out;have:=Hl5.out;omega,by rw [Hws.out,Hwd.out];simp,HB7.out⟩,?_⟩
        · have:=Hne7.out b hb;omega
        · simp [intOf];omega
       ·
        have Hno:=hid hno;clear hno
        obtain ⟨W6,hW6⟩ : ∃ W6,W6 = w5.alloc (.cells #[.slice a5 r5.length c5] 75):=⟨_,rfl⟩
        have hb6 : Below w5.heap.size w5 W6:=by rw [hW6];exact zba
        have hbo6:=Hb5.out.trans (hb6.mono hz5)
        have hbn6:=(Hbn.out.trans (hbo6.mono (by have:=Hbn.out.size;omega))).drew
        have Hb6:=hid (Hbw.out.trans (hbo6.mono Hbw.out.size))
        have HTl:=hid (zcY q W6.drew (HbT.out _ hbn6).2)
        have Hbn6:=hid hbn6;have Hbo6:=hid hbo6
        clear hb6 hbn6 hbo6 hbr5
        gi_upto_region 17 with fail
        rw [← hW6]
        clear hW6
        obtain ⟨_,_,h1,h2,h3,h4,_⟩:=HI.out
        have g1:=(Hb6.out.block _ (zlb h1)).trans h1;have g2:=(Hb6.out.block _ (zlb h2)).trans h2;have g4:=(Hb6.out.block _ (zlb h4)).trans h4
        have HS0 : zau n (szs (xs.take kx) : Nat) W6.drew:=⟨⟨_,g1⟩,⟨_,g2⟩,g4⟩
        have HS:=hid HS0
        clear g1 g2 g4 h1 h2 h3 h4 HS0
        have hmx : Tryz.prog.follows .mixedOrders = true:=by kernel_rfl
        have Hwr:=hid (show IntKind.i64.wrap ((szs (xs.take kx) : Nat) + (i : Int)) = (szs (xs.take kx) : Nat) + i from IntWalk.i64_in _ (by omega))
        have Hno2:=hid (zff Hmem.out (ziI (l:=(pc.data.toList.drop i).take (k - i)) (by rw [Hws.out,Hwd.out];simp) (by rw [← jA];exact Hno.out)))
        refine qV (zau n (szs (xs.take kx) : Nat)) hmx (by kernel_rfl) (fun ⟨_,_,h⟩ => h) HS.out (fun hS => ?_)
        refine wpAnyH_take (i:=0) (v:=.agg #[.slice none 0 0]) rfl (by kernel_rfl) (by kernel_rfl) (by kernel_rfl) (fun _ _ _ h => h) (Or.inl ⟨by rfl,fun w9 hS9 => by (have hc9:=hS9.cell;clear hS9;go_simp)⟩) hS ?_
        try simp only [Act.put,List.getElem_toArray,List.getElem_cons_zero,List.setIfInBounds_toArray,List.set_cons_zero,List.set_cons_succ]
        refine wpAnyH_take (i:=1) (v:=.iface 45 (.int .i64 q)) rfl (by kernel_rfl) (by kernel_rfl) (by kernel_rfl) (fun _ _ _ h => h) (Or.inl ⟨by rfl,fun w9 hS9 => by (have hc9:=hS9.cell;clear hS9;go_simp)⟩) hS ?_
        try simp only [Act.put,zs1,zs2,zs3,zs4,zs5,zs6]
        refine wpAnyH_take (i:=3) (v:=.int .i64 (szs (xs.take kx) : Nat)) rfl (by kernel_rfl) (by kernel_rfl) (by kernel_rfl) (fun _ _ _ h => h) (Or.inl ⟨by rfl,fun w9 hS9 => by (have hc9:=hS9.cell;clear hS9;go_simp)⟩) hS ?_
        try simp only [Act.put,zs1,zs2,zs3,zs4,zs5,zs6]
        refine wpAnyH_take (i:=4) (v:=.int .i64 i) rfl (by kernel_rfl) (by kernel_rfl) (by kernel_rfl) (fun _ _ _ h => h) (Or.inl ⟨by rfl,fun w9 hS9 => by (have hc9:=hS9.cell;clear hS9;go_simp)⟩) hS ?_
        try simp only [Act.put,zs1,zs2,zs3,zs4,zs5,zs6]
        refine wpAnyH_take (i:=5) (v:=.int .i64 ((szs (xs.take kx) : Nat) + i)) rfl (by kernel_rfl) (by kernel_rfl) (by kernel_rfl) (fun _ _ _ h => h) (Or.inl ⟨by rfl,fun w9 hS9 => by (have hw9:=Hwr.out;have hc9:=hS9.cell;clear hS9;go_simp)⟩) hS ?_
        try simp only [Act.put,zs1,zs2,zs3,zs4,zs5,zs6]
        refine wpAnyH_ready (rs:=[2]) (by kernel_rfl) (by simp) ?_
        refine AllReadyH.cons rfl (fun K hK => ?_) AllReadyH.nil
        go_simp
        refine HTl.out.mono ?_
        rintro e w7 ⟨rfl,hb7⟩
        have Hb7:=hid (Hb6.out.drew.trans (hb7.mono Hb6.out.size));have HS7:=hid (HS.out.below hb7)
        clear hb7
        refine hK.out _ _ HS7.out (fun hS => ?_)
        clear hK K
        try simp only [Act.put,zs1,zs2,zs3,zs4,zs5,zs6]
        refine wpAnyH_take (i:=6) (v:=.agg #[.int .i64 q,.int .i64 ((szs (xs.take kx) : Nat) + i)]) rfl (by kernel_rfl) (by kernel_rfl) (by kernel_rfl) (fun _ _ _ h => h) (Or.inl ⟨by rfl,fun w9 hS9 => by (have hc9:=hS9.cell;clear hS9;go_simp)⟩) hS ?_
        try simp only [Act.put,zs1,zs2,zs3,zs4,zs5,zs6]
        refine wpAnyH_ready (rs:=[7,9]) (by kernel_rfl) (by simp) ?_
        refine AllReadyH.cons rfl (fun K hK => ?_) (AllReadyH.cons rfl (fun K hK => ?_) AllReadyH.nil)
        ·
         go_simp
         refine hK.out _ _ (HS7.out.alloc _) (fun hS => ?_)
         clear hK K
         try simp only [Act.put,zs1,zs2,zs3,zs4,zs5,zs6]
         refine wpAnyH_take (i:=8) (v:=.iface 156 (.pointer (some ⟨w7.heap.size,0,none⟩))) rfl (by kernel_rfl) (by kernel_rfl) (by kernel_rfl) (fun _ _ _ h => h) (Or.inl ⟨by rfl,fun w9 hS9 => by (have hc9:=hS9.cell;clear hS9;go_simp)⟩) hS ?_
         try simp only [Act.put,zs1,zs2,zs3,zs4,zs5,zs6]
         refine wpAnyH_ready (rs:=[9]) (by kernel_rfl) (by simp) ?_
         refine AllReadyH.cons rfl (fun K hK => ?_) AllReadyH.nil
         have hx8:=(HS7.out.alloc (.cells #[.int .i64 q,.int .i64 ((szs (xs.take kx) : Nat) + i)] 158)).facts
         obtain ⟨⟨x8,y1⟩,y2,y3,⟨x9,y4⟩,y5,y6⟩:=hx8
         go_simp
         refine hK.out _ _ ((HS7.out.alloc _).set0 _) (fun hS => ?_)
         clear hK K y1 y2 y3 y4 y5 y6
         try simp only [Act.put,zs1,zs2,zs3,zs4,zs5,zs6]
         refine wpAnyH_ready (rs:=[10]) (by kernel_rfl) (by simp) ?_
         refine AllReadyH.cons rfl (fun K hK => ?_) AllReadyH.nil
         have hx8:=((HS7.out.alloc (.cells #[.int .i64 q,.int .i64 ((szs (xs.take kx) : Nat) + i)] 158)).set0 (.slice none 0 0)).facts
         obtain ⟨⟨x8,y1⟩,y2,y3,⟨x9,y4⟩,y5,y6⟩:=hx8
         go_simp
         refine hK.out _ _ (((HS7.out.alloc _).set0 _).set1 _) (fun hS => ?_)
         clear hK K y1 y2 y3 y4 y5 y6
         try simp only [Act.put,zs1,zs2,zs3,zs4,zs5,zs6]
         refine wpAnyH_done (by kernel_rfl) ?_ _
         gi_wp2_with fail
         obtain ⟨⟨x8,g1⟩,⟨x9,g2⟩,g3⟩:=HS7.out
         exact zcp hnle hgl HI.out Hb7.out ⟨rl,Hrl.out⟩ Hd2.out ⟨by omega,by omega⟩ hn7 (((Kept.alloc _ _ _).trans (Kept.set _ ⟨n,0,none⟩ _ (.inl rfl))).trans (Kept.set _ ⟨n + 1,0,none⟩ _ (.inr rfl))) ((zhc _ _ _ _ (by show n ≠ n + 1;omega)).trans (one_setCell (zh g1))) (one_setCell ((zhc _ _ _ _ (by show n + 1 ≠ n;omega)).trans (zh g2))) ((zhc _ _ _ _ (by have:=zlb g2;show w7.heap.size ≠ n + 1;omega)).trans ((zhc _ _ _ _ (by have:=zlb g1;show w7.heap.size ≠ n;omega)).trans (za rfl))) Hno2.out
        ·
         have hx8:=HS7.out.facts
         obtain ⟨⟨x8,y1⟩,y2,y3,⟨x9,y4⟩,y5,y6⟩:=hx8
         go_simp
         refine hK.out _ _ (HS7.out.set0 _) (fun hS => ?_)
         clear hK K y1 y2 y3 y4 y5 y6
         try simp only [Act.put,zs1,zs2,zs3,zs4,zs5,zs6]
         refine wpAnyH_ready (rs:=[7]) (by kernel_rfl) (by simp) ?_
         refine AllReadyH.cons rfl (fun K hK => ?_) AllReadyH.nil
         go_simp
         refine hK.out _ _ ((HS7.out.set0 _).alloc _) (fun hS => ?_)
         clear hK K
         try simp only [Act.put,zs1,zs2,zs3,zs4,zs5,zs6]
         refine wpAnyH_take (i:=8) (v:=.iface 156 (.pointer (some ⟨w7.heap.size,0,none⟩))) rfl (by kernel_rfl) (by kernel_rfl) (by kernel_rfl) (fun _ _ _ h => h) (Or.inl ⟨by rfl,fun w9 hS9 => by (have hc9:=hS9.cell;clear hS9;go_simp)⟩) hS ?_
         try simp only [Act.put,zs1,zs2,zs3,zs4,zs5,zs6]
         refine wpAnyH_ready (rs:=[10]) (by kernel_rfl) (by simp) ?_
         refine AllReadyH.cons rfl (fun K hK => ?_) AllReadyH.nil
         have hx8:=((HS7.out.set0 (.slice none 0 0)).alloc (.cells #[.int .i64 q,.int .i64 ((szs (xs.take kx) : Nat) + i)] 158)).facts
         obtain ⟨⟨x8,y1⟩,y2,y3,⟨x9,y4⟩,y5,y6⟩:=hx8
         go_simp
         refine hK.out _ _ (((HS7.out.set0 _).alloc _).set1 _) (fun hS => ?_)
         clear hK K y1 y2 y3 y4 y5 y6
         try simp only [Act.put,zs1,zs2,zs3,zs4,zs5,zs6]
         refine wpAnyH_done (by kernel_rfl) ?_ _
         gi_wp2_with fail
         obtain ⟨⟨x8,g1⟩,⟨x9,g2⟩,g3⟩:=HS7.out
         exact zcp hnle hgl HI.out Hb7.out ⟨rl,Hrl.out⟩ Hd2.out ⟨by omega,by omega⟩ hn7 (((Kept.set _ ⟨n,0,none⟩ _ (.inl rfl)).trans (Kept.alloc _ _ _)).trans (Kept.set _ ⟨n + 1,0,none⟩ _ (.inr rfl))) ((zhc _ _ _ _ (by show n ≠ n + 1;omega)).trans (zh (one_setCell g1))) (one_setCell (zh ((zhc _ _ _ _ (by show n + 1 ≠ n;omega)).trans g2))) ((zhc _ _ _ _ (by have:=zlb g2;show w7.heap.size ≠ n + 1;omega)).trans (za (by simp))) Hno2.out
   ·
    have hie : i = pc.size:=by omega
    have hlt1 : decide (i < pc.size) = false:=by simp;omega
    have hall : words pc.data.toList = done:=by
     rw [Hws.out,hie,List.drop_eq_nil_of_le (by show pc.data.toList.length ≤ pc.data.toList.length;exact znr _),zcu,List.append_nil]
    have Hall:=hid hall;have Hie:=hid hie
    clear hall hie hlt
    by_cases hm0 : m = 0
    ·
     have m1 : ((m : Int) == 0) = true:=by rw [hm0];rfl
     have Hm0:=hid hm0
     clear hm0
     have Hno2:=hid (zff Hmem.out (fun x (hx : jd pc.data.toList x) => hx.1 (by rw [Hall.out];exact List.eq_nil_of_length_eq_zero (by rw [Hdl.out,Hm0.out]))))
     gi_upto_region 22 with fail
     have Hb7:=hid (show Below W2.heap.size W2 wo.drew from Hbw.out.drew)
     obtain ⟨_,_,h1,h2,h3,h4,_⟩:=HI.out
     have g1:=(Hb7.out.block _ (zlb h1)).trans h1;have g2:=(Hb7.out.block _ (zlb h2)).trans h2;have g4:=(Hb7.out.block _ (zlb h4)).trans h4
     have HS0 : zau n (szs (xs.take kx) : Nat) wo.drew:=⟨⟨_,g1⟩,⟨_,g2⟩,g4⟩
     have HS:=hid HS0
     clear g1 g2 g4 h1 h2 h3 h4 HS0
     have hmx : Tryz.prog.follows .mixedOrders = true:=by kernel_rfl
     have Hwr:=hid (show IntKind.i64.wrap ((szs (xs.take kx) : Nat) + (pc.size : Int)) = (szs (xs.take kx) : Nat) + pc.size from IntWalk.i64_in _ (by omega))
     refine qV (zau n (szs (xs.take kx) : Nat)) hmx (by kernel_rfl) (fun ⟨_,_,h⟩ => h) HS.out (fun hS => ?_)
     obtain ⟨w7,hw7⟩ : ∃ w7,w7 = wo.drew:=⟨_,rfl⟩
     rw [← hw7] at Hb7 HS hS ⊢
     clear hw7
     have HS7:=HS
     refine wpAnyH_take (i:=0) (v:=.agg #[.slice none 0 0]) rfl (by kernel_rfl) (by kernel_rfl) (by kernel_rfl) (fun _ _ _ h => h) (Or.inl ⟨by rfl,fun w9 hS9 => by (have hc9:=hS9.cell;clear hS9;go_simp)⟩) hS ?_
     try simp only [Act.put,List.getElem_toArray,List.getElem_cons_zero,List.setIfInBounds_toArray,List.set_cons_zero,List.set_cons_succ]
     refine wpAnyH_take (i:=1) (v:=.int .i64 (szs (xs.take kx) : Nat)) rfl (by kernel_rfl) (by kernel_rfl) (by kernel_rfl) (fun _ _ _ h => h) (Or.inl ⟨by rfl,fun w9 hS9 => by (have hc9:=hS9.cell;clear hS9;go_simp)⟩) hS ?_
     try simp only [Act.put,zs1,zs2,zs3,zs4,zs5,zs6]
     refine wpAnyH_take (i:=2) (v:=.string pc) rfl (by kernel_rfl) (by kernel_rfl) (by kernel_rfl) (fun _ _ _ h => h) (Or.inl ⟨by rfl,fun w9 hS9 => by (have hc9:=hS9.cell;clear hS9;go_simp)⟩) hS ?_
     try simp only [Act.put,zs1,zs2,zs3,zs4,zs5,zs6]
     refine wpAnyH_take (i:=3) (v:=.int .i64 pc.size) rfl (by kernel_rfl) (by kernel_rfl) (by kernel_rfl) (fun _ _ _ h => h) (Or.inl ⟨by rfl,fun w9 hS9 => by (have hc9:=hS9.cell;clear hS9;go_simp)⟩) hS ?_
     try simp only [Act.put,zs1,zs2,zs3,zs4,zs5,zs6]
     refine wpAnyH_take (i:=4) (v:=.int .i64 ((szs (xs.take kx) : Nat) + pc.size)) rfl (by kernel_rfl) (by kernel_rfl) (by kernel_rfl) (fun _ _ _ h => h) (Or.inl ⟨by rfl,fun w9 hS9 => by (have hw9:=Hwr.out;have hc9:=hS9.cell;clear hS9;go_simp)⟩) hS ?_
     try simp only [Act.put,zs1,zs2,zs3,zs4,zs5,zs6]
     refine wpAnyH_take (i:=5) (v:=.agg #[.int .i64 3,.int .i64 ((szs (xs.take kx) : Nat) + pc.size)]) rfl (by kernel_rfl) (by kernel_rfl) (by kernel_rfl) (fun _ _ _ h => h) (Or.inl ⟨by rfl,fun w9 hS9 => by (have hc9:=hS9.cell;clear hS9;go_simp)⟩) hS ?_
     try simp only [Act.put,zs1,zs2,zs3,zs4,zs5,zs6]
     refine wpAnyH_ready (rs:=[6,8]) (by kernel_rfl) (by simp) ?_
     refine AllReadyH.cons rfl (fun K hK => ?_) (AllReadyH.cons rfl (fun K hK => ?_) AllReadyH.nil)
     ·
      go_simp
      refine hK.out _ _ (HS7.out.alloc _) (fun hS => ?_)
      clear hK K
      try simp only [Act.put,zs1,zs2,zs3,zs4,zs5,zs6]
      refine wpAnyH_take (i:=7) (v:=.iface 156 (.pointer (some ⟨w7.heap.size,0,none⟩))) rfl (by kernel_rfl) (by kernel_rfl) (by kernel_rfl) (fun _ _ _ h => h) (Or.inl ⟨by rfl,fun w9 hS9 => by (have hc9:=hS9.cell;clear hS9;go_simp)⟩) hS ?_
      try simp only [Act.put,zs1,zs2,zs3,zs4,zs5,zs6]
      refine wpAnyH_ready (rs:=[8]) (by kernel_rfl) (by simp) ?_
      refine AllReadyH.cons rfl (fun K hK => ?_) AllReadyH.nil
      have hx8:=(HS7.out.alloc (.cells #[.int .i64 3,.int .i64 ((szs (xs.take kx) : Nat) + pc.size)] 158)).facts
      obtain ⟨⟨x8,y1⟩,y2,y3,⟨x9,y4⟩,y5,y6⟩:=hx8
      go_simp
      refine hK.out _ _ ((HS7.out.alloc _).set0 _) (fun hS => ?_)
      clear hK K y1 y2 y3 y4 y5 y6
      try simp only [Act.put,zs1,zs2,zs3,zs4,zs5,zs6]
      refine wpAnyH_ready (rs:=[9]) (by kernel_rfl) (by simp) ?_
      refine AllReadyH.cons rfl (fun K hK => ?_) AllReadyH.nil
      have hx8:=((HS7.out.alloc (.cells #[.int .i64 3,.int .i64 ((szs (xs.take kx) : Nat) + pc.size)] 158)).set0 (.slice none 0 0)).facts
      obtain ⟨⟨x8,y1⟩,y2,y3,⟨x9,y4⟩,y5,y6⟩:=hx8
      go_simp
      refine hK.out _ _ (((HS7.out.alloc _).set0 _).set1 _) (fun hS => ?_)
      clear hK K y1 y2 y3 y4 y5 y6
      try simp only [Act.put,zs1,zs2,zs3,zs4,zs5,zs6]
      refine wpAnyH_done (by kernel_rfl) ?_ _
      gi_wp2_with fail
      obtain ⟨⟨x8,g1⟩,⟨x9,g2⟩,g3⟩:=HS7.out
      exact zcp hnle hgl HI.out Hb7.out ⟨rl,Hrl.out⟩ Hd2.out ⟨by omega,by omega⟩ hn7 (((Kept.alloc _ _ _).trans (Kept.set _ ⟨n,0,none⟩ _ (.inl rfl))).trans (Kept.set _ ⟨n + 1,0,none⟩ _ (.inr rfl))) ((zhc _ _ _ _ (by show n ≠ n + 1;omega)).trans (one_setCell (zh g1))) (one_setCell ((zhc _ _ _ _ (by show n + 1 ≠ n;omega)).trans (zh g2))) ((zhc _ _ _ _ (by have:=zlb g2;show w7.heap.size ≠ n + 1;omega)).trans ((zhc _ _ _ _ (by have:=zlb g1;show w7.heap.size ≠ n;omega)).trans (za rfl))) Hno2.out
     ·
      have hx8:=HS7.out.facts
      obtain ⟨⟨x8,y1⟩,y2,y3,⟨x9,y4⟩,y5,y6⟩:=hx8
      go_simp
      refine hK.out _ _ (HS7.out.set0 _) (fun hS => ?_)
      clear hK K y1 y2 y3 y4 y5 y6
      try simp only [Act.put,zs1,zs2,zs3,zs4,zs5,zs6]
      refine wpAnyH_ready (rs:=[6]) (by kernel_rfl) (by simp) ?_
      refine AllReadyH.cons rfl (fun K hK => ?_) AllReadyH.nil
      go_simp
      refine hK.out _ _ ((HS7.out.set0 _).alloc _) (fun hS => ?_)
      clear hK K
      try simp only [Act.put,zs1,zs2,zs3,zs4,zs5,zs6]
      refine wpAnyH_take (i:=7) (v:=.iface 156 (.pointer (some ⟨w7.heap.size,0,none⟩))) rfl (by kernel_rfl) (by kernel_rfl) (by kernel_rfl) (fun _ _ _ h => h) (Or.inl ⟨by rfl,fun w9 hS9 => by (have hc9:=hS9.cell;clear hS9;go_simp)⟩) hS ?_
      try simp only [Act.put,zs1,zs2,zs3,zs4,zs5,zs6]
      refine wpAnyH_ready (rs:=[9]) (by kernel_rfl) (by simp) ?_
      refine AllReadyH.cons rfl (fun K hK => ?_) AllReadyH.nil
      have hx8:=((HS7.out.set0 (.slice none 0 0)).alloc (.cells #[.int .i64 3,.int .i64 ((szs (xs.take kx) : Nat) + pc.size)] 158)).facts
      obtain ⟨⟨x8,y1⟩,y2,y3,⟨x9,y4⟩,y5,y6⟩:=hx8
      go_simp
      refine hK.out _ _ (((HS7.out.set0 _).alloc _).set1 _) (fun hS => ?_)
      clear hK K y1 y2 y3 y4 y5 y6
      try simp only [Act.put,zs1,zs2,zs3,zs4,zs5,zs6]
      refine wpAnyH_done (by kernel_rfl) ?_ _
      gi_wp2_with fail
      obtain ⟨⟨x8,g1⟩,⟨x9,g2⟩,g3⟩:=HS7.out
      exact zcp hnle hgl HI.out Hb7.out ⟨rl,Hrl.out⟩ Hd2.out ⟨by omega,by omega⟩ hn7 (((Kept.set _ ⟨n,0,none⟩ _ (.inl rfl)).trans (Kept.alloc _ _ _)).trans (Kept.set _ ⟨n + 1,0,none⟩ _ (.inr rfl))) ((zhc _ _ _ _ (by show n ≠ n + 1;omega)).trans (zh (one_setCell g1))) (one_setCell (zh ((zhc _ _ _ _ (by show n + 1 ≠ n;omega)).trans g2))) ((zhc _ _ _ _ (by have:=zlb g2;show w7.heap.size ≠ n + 1;omega)).trans (za (by simp))) Hno2.out
    ·
     have m1 : ((m : Int) == 0) = false:=by rw [beq_eq_false_iff_ne];omega
     have Hm0:=hid hm0
     clear hm0
     have hpr : jd pc.data.toList r:=⟨by rw [Hall.out];intro e;exact Hm0.out (by rw [← Hdl.out,e];rfl),by rw [Hall.out];exact Hpq.out⟩
     obtain ⟨vo,ro,h1,h2,h3,h4,h5,h6,h7,h8,h9⟩:=HI.out
     have g1:=(Hbw.out.block _ (zlb h1)).trans h1;have g2:=(Hbw.out.block _ (zlb h2)).trans h2;have g3:=(Hbw.out.block _ (zlb h3)).trans h3;have g4:=(Hbw.out.block _ (zlb h4)).trans h4
     obtain ⟨ao2,co2,rfl,_⟩:=h5.shape
     have d1:=zco g3;have d2:=zfo g3;have d3:=zlb g3;have d4:=zco Hbr.out
     have HO:=hid (znc _ _ ro r wo (h5.below Hbw.out) Hsp.out h7.can Hpq.out.can (by have:=Htk.out;have:=Hsl.out;have:=Hsum.out;have:=Hrl2.out;omega))
     have G1:=hid g1;have G2:=hid g2;have G3:=hid g3;have G4:=hid g4;have H7:=hid h7;have H8:=hid h8;have H9:=hid h9;have Hpr:=hid hpr
     clear hpr h1 h2 h3 h4 h5 h6 h7 h8 h9 g1 g2 g3 g4
     gi_wp2_with fail
     refine ⟨trivial,?_⟩
     refine (CallsIn.inRound l (callsIn_wide.2 HO.out)).mono ?_
     rintro e w7 ⟨v7,r7,rfl,hs7,ho7,hl7,hf7,hb7⟩
     obtain ⟨a7,c7,rfl,_⟩:=hs7.shape
     have q1:=(hb7.block _ (zlb G1.out)).trans G1.out;have q2:=(hb7.block _ (zlb G2.out)).trans G2.out;have q3:=(hb7.block _ (zlb G3.out)).trans G3.out;have q4:=(hb7.block _ (zlb G4.out)).trans G4.out
     have f1:=zco q3;have f2:=zfo q3;have f3:=zlb q3;have f4:=zco q4;have f5:=zfo q4;have f6:=zlb q4
     have Q1:=hid q1;have Q2:=hid q2;have Q3:=hid q3;have Q4:=hid q4;have Hs7:=hid hs7;have Ho7:=hid ho7;have Hl7:=hid hl7;have Hf7:=hid hf7;have Hb7:=hid (Hbw.out.trans (hb7.mono Hbw.out.size))
     clear q1 q2 q3 q4 hs7 ho7 hl7 hf7 hb7 HO d1 d2 d3 d4
     gi_wp2_with fail
     have hK : Kept (fun j => j = n + 1 + 1 ∨ j = n + 1 + 1 + 1) w7 ((w7.setCell ⟨n + 1 + 1,0,none⟩ (.slice a7 r7.length c7)).setCell ⟨n + 1 + 1 + 1,0,none⟩ (.int .i64 ((szs (xs.take kx) : Nat) + ((pc.size : Int) + 2)))) :=
      (Kept.set _ ⟨n + 1 + 1,0,none⟩ _ (.inl rfl)).trans (Kept.set _ ⟨n + 1 + 1 + 1,0,none⟩ _ (.inr rfl))
     have hKK:=(Kept.of_below (p:=fun j => j = n + 1 + 1 ∨ j = n + 1 + 1 + 1) Hb7.out).trans hK
     have hwo:=Hbw.out.size
     have hbl : ∀ b,(Value.slice a7 r7.length c7).ownBlock = some b → n + 7 ≤ b:=fun b hb => by have:=Hf7.out b hb;omega
     have hnum : (Value.int .i64 ((szs (xs.take kx) : Nat) + ((pc.size : Int) + 2))) = Value.int .i64 (szs (xs.take (kx + 1)) : Nat):=by
      have:=Htk.out
      have e : ((szs (xs.take kx) : Nat) : Int) + ((pc.size : Int) + 2) = (szs (xs.take (kx + 1)) : Nat):=by omega
      rw [e]
     refine ⟨.ze5 hKK (fun j hj => ?_),?_⟩
     ·
      rcases hj with (rfl | rfl | rfl | rfl) | rfl | rfl
      · omega
      · omega
      · omega
      · omega
      · exact ⟨zlb Hrl.out,by omega⟩
      · exact ⟨zlb Hd2.out,by omega⟩
     ·
      rw [hnum] at hK ⊢
      refine ⟨_,r7,hK.at Q1.out (by omega),hK.at Q2.out (by omega),(zhc _ _ _ _ (by show n + 1 + 1 ≠ n + 1 + 1 + 1;omega)).trans (one_setCell Q3.out),one_setCell ((zhc _ _ _ _ (by show n + 1 + 1 + 1 ≠ n + 1 + 1;omega)).trans Q4.out),zer Hs7.out hK (fun b cur T hb _ hq => by have:=hbl b hb;omega),hbl,?_,?_,?_⟩
      · rw [Htx.out];exact H7.out.snoc Hpr.out Ho7.out
      · have:=Htk.out;have:=Hl7.out;have:=H8.out;have:=Hrl2.out;omega
      · exact H9.out.trans ((Hb7.out.mono (by omega)).trans (hK.below (fun j hj => by omega) (by have:=Hb7.out.size;omega)))
 case done =>
  intro D W hD hi hdf
  obtain ⟨v,r,h1,h2,h3,h4,h5,h6,h7,h8,h9⟩:=hi
  rw [List.take_length] at h7 h8
  obtain ⟨a,c,rfl,_⟩:=h5.shape
  have c1:=zco h3;have c2:=zco h1;have c3:=zfo h1;have c4:=zlb h1;have c5:=zfo h2;have c6:=zlb h2;have c7:=zco h2
  have hD2 : D ≠ n ∧ D ≠ n + 1:=by omega
  have hdf2 : ((W.setCell ⟨n,0,none⟩ (.slice a r.length c)).setCell ⟨n + 1,0,none⟩ .nilIface).heap[D]? = some (.deferred (some [])):=(zhc _ _ _ _ (by show D ≠ n + 1;exact hD2.2)).trans ((zhc _ _ _ _ (by show D ≠ n;exact hD2.1)).trans hdf)
  have e1 : (((W.setCell ⟨n,0,none⟩ (.slice a r.length c)).setCell ⟨n + 1,0,none⟩ .nilIface).putObj D (.deferred none)).cell? ⟨n,0,none⟩ = some (.slice a r.length c):=zco ((World.putObj_heap_other hD2.1.symm).trans ((zhc _ _ _ _ (by show n ≠ n + 1;omega)).trans (one_setCell h1)))
  have e2 : (((W.setCell ⟨n,0,none⟩ (.slice a r.length c)).setCell ⟨n + 1,0,none⟩ .nilIface).putObj D (.deferred none)).cell? ⟨n + 1,0,none⟩ = some .nilIface:=zco ((World.putObj_heap_other hD2.2.symm).trans (one_setCell ((zhc _ _ _ _ (by show n + 1 ≠ n;omega)).trans h2)))
  have hKp : Kept (fun j => j = n ∨ j = n + 1 ∨ ∃ o,W.heap[j]? = some o ∧ o.isCells = false) W (((W.setCell ⟨n,0,none⟩ (.slice a r.length c)).setCell ⟨n + 1,0,none⟩ .nilIface).putObj D (.deferred none)) :=
   ((Kept.set W ⟨n,0,none⟩ _ (.inl rfl)).trans (Kept.set _ ⟨n + 1,0,none⟩ _ (.inr (.inl rfl)))).trans (Kept.put _ D _ (.inr (.inr ⟨_,hdf,rfl⟩)))
  have hspE:=zer h5 hKp (fun b cur T hb hc hq => by
   have:=h6 b hb
   rcases hq with e | e | ⟨o,ho,hco⟩
   · omega
   · omega
   · rw [hc] at ho;cases ho;cases hco)
  have hbE : Below n w (((W.setCell ⟨n,0,none⟩ (.slice a r.length c)).setCell ⟨n + 1,0,none⟩ .nilIface).putObj D (.deferred none)) :=
   ((h9.setCell (p:=⟨n,0,none⟩) (znr _) _).setCell (p:=⟨n + 1,0,none⟩) (Nat.le_succ _) _).trans (belowK_b (w:=w) hnle _ D _ _ (by omega) hdf2 rfl rfl)
  have Hdf2:=hid hdf2;have HE:=hid hspE;have HbE:=hid hbE;have H6:=hid h6;have H7:=hid h7;have H8:=hid h8;have E1:=hid e1;have E2:=hid e2
  clear h1 h2 h3 h4 h5 h6 h7 h8 h9 hdf hdf2 hKp hspE hbE e1 e2 hit h00 hspl k0 k1 k2 k3 k4 k5 k6 hb0 hL0 hmm
  gi_wp2_with fail
  refine ⟨by simp,.inl ⟨_,_,rfl,run_takeDeferred Hdf2.out,?_⟩⟩
  refine ⟨.tuple #[.agg #[.slice a r.length c],.nilIface],?_,⟨_,r,_,rfl,HE.out,fun b hb => by have:=H6.out b hb;have:=Hn.out;omega,by have:=H8.out;have:=Hsum.out;omega,by rw [← Hn.out];exact HbE.out,.inl ⟨rfl,hs,(Hpc.out r).1 H7.out⟩⟩⟩
  simp [results,Tryz.f89,go_sem,E1.out,E2.out]
 case stop =>
  intro D W hD hi hdf
  obtain ⟨p,q,pl,h1,h2,h3,h4,h5⟩:=hi
  have hD2 : D ≠ n ∧ D ≠ n + 1:=by omega
  have hpD : p ≠ D:=by intro e;subst e;rw [h3] at hdf;cases hdf
  have e1 : (W.putObj D (.deferred none)).cell? ⟨n,0,none⟩ = some (.slice none 0 0):=zco ((World.putObj_heap_other hD2.1.symm).trans h1)
  have e2 : (W.putObj D (.deferred none)).cell? ⟨n + 1,0,none⟩ = some (.iface 156 (.pointer (some ⟨p,0,none⟩))):=zco ((World.putObj_heap_other hD2.2.symm).trans h2)
  have e3:=(World.putObj_heap_other (w:=W) (o:=.deferred none) hpD).trans h3
  have hbE : Below n w (W.putObj D (.deferred none)):=h5.trans (belowK_b (w:=w) hnle _ D _ _ (by omega) hdf rfl rfl)
  refine ⟨by simp,.inl ⟨_,_,rfl,run_takeDeferred hdf,?_⟩⟩
  refine ⟨.tuple #[.agg #[.slice none 0 0],.iface 156 (.pointer (some ⟨p,0,none⟩))],?_,⟨_,[],_,rfl,yx.nil _,fun b hb => (by cases hb),by simp,by rw [← Hn.out];exact hbE,.inr ⟨.inr ⟨p,q,pl,rfl,e3⟩,rfl,fun R _ hR => h4 R ((Hpc.out R).2 hR)⟩⟩⟩
  simp [results,Tryz.f89,go_sem,e1,e2]
end Go.Proofs.YtmlfelbkgoplhaaGreatDoor
namespace Go.Proofs.YtmlfelbkgoplhaaGreatDoor
open Go.RowKit
set_option maxRecDepth 100000 in
set_option maxHeartbeats 4000000 in
theorem zet (s : ByteArray) (w : World) (hm : s.size ≤ 9223372036854775807) (hL : xQ w) (hT : zV w) : Calls Tryz.prog 89 #[.string s] w (zhB s w):=by
 by_cases hs : s.size ≤ 1000
 · exact ziD s w hs hL hT
 ·
  have hd : decide (1000 < (s.size : Int)) = true:=by simp;omega
  have Hs:=hid hs
  clear hs hL hT
  go_enter Tryz.func89,Tryz.ntmps89
  go_wp2_with fail
  exact bodyPost_ret (v:=.tuple #[.agg #[.slice none 0 0],.iface 45 (.int .i64 4)]) (by simp [results,Tryz.results89,go_sem]) rfl ⟨_,[],_,rfl,yx.nil _,fun b hb => (by cases hb),by simp,(zba).alloc (by simp) _,.inr ⟨.inl ⟨_,rfl⟩,rfl,fun r h _ => Hs.out h⟩⟩
theorem zhB.ok {s : ByteArray} {w w' : World} {e : Ending} (h : zhB s w e w') : True:=trivial
theorem zrI {s p q r : ByteArray} {i j : Nat} (h1 : Lib.indexB s zdu = i) (e1 : s.extract 0 i = p) (h2 : Lib.indexB (s.extract (i + 1) s.size) zdu = j) (e2 : (s.extract (i + 1) s.size).extract 0 j = q)
 (h3 : Lib.indexB ((s.extract (i + 1) s.size).extract (j + 1) (s.extract (i + 1) s.size).size) zdu = -1) (e3 : (s.extract (i + 1) s.size).extract (j + 1) (s.extract (i + 1) s.size).size = r) : zea s = [p,q,r]:=by
 unfold zea
 rw [zep (by decide) h1,e1]
 have hd : zdu.size = 1:=rfl
 rw [hd,zep (by decide) h2,e2,hd,e3]
 rw [e3] at h3
 rw [Lib.splitB_miss _ _ _ _ h3]
theorem zcs {s : ByteArray} (h : Lib.indexB s orB = -1) : pieces s = [s]:=by
 unfold pieces
 rw [Lib.splitB_miss _ _ _ _ h]
theorem jG.zcs {s : ByteArray} {r : List Spn} (h : Lib.indexB s orB = -1) (hp : jd s.data.toList r) (hc : Canon r) : jG s r:=by
 unfold jG
 rw [Go.Proofs.YtmlfelbkgoplhaaGreatDoor.zcs h]
 exact q8.nil.snoc (ps:=[]) hp ⟨hc,fun n => ⟨.inr,fun q => q.elim (fun q => absurd q (zbt n)) id⟩⟩
