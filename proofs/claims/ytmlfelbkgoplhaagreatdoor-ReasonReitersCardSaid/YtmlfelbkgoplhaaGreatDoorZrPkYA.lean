import Derived.Test.YtmlfelbkgoplhaaGreatDoorZrPkJ
import Derived.Test.YtmlfelbkgoplhaaGreatDoorZrPkF
set_option linter.unusedVariables false
set_option linter.unusedSimpArgs false
namespace Go.Proofs.YtmlfelbkgoplhaaGreatDoor
abbrev St:=Int → Bool
abbrev Fam:=St → Prop
def zF : Nat → Cells → Int → St → Prop
 | 0,_,_,_ => False
 | f + 1,c,h,s => match getM c h with
  | none => h = 1 ∧ ∀ u,s u = false
  | some n => if s n.1 = true then zF f c n.2.2 (yw s n.1 false) else zF f c n.2.1 s
theorem zjm {f : Nat} {c : Cells} {h : Int} (e : getM c h = none) (s : St) : zF (f + 1) c h s = (h = 1 ∧ ∀ u,s u = false):=by simp only [zF,e]
theorem ziL {f : Nat} {c : Cells} {h : Int} {n : Nd} (e : getM c h = some n) (s : St) : zF (f + 1) c h s = if s n.1 = true then zF f c n.2.2 (yw s n.1 false) else zF f c n.2.1 s:=by simp only [zF,e]
def Z (c : Cells) (h : Int) : Fam:=fun s => zF 25 c h s
theorem zfG {c : Cells} (o : Ok c) : ∀ (f g : Nat) (h : Int) (s : St),(24 - zk c h).toNat < f → f ≤ g → zF f c h s = zF g c h s
 | 0,_,_,_,h1,_ => absurd h1 (Nat.not_lt_zero _)
 | f + 1,0,_,_,_,h2 => absurd h2 (by omega)
 | f + 1,g + 1,h,s,h1,h2 => by
  cases e : getM c h with
  | none => rw [zjm e,zjm e]
  | some n =>
   obtain ⟨k1,k2,_,_,k3,k4⟩:=o.kids e
   rw [zK e] at h1
   rw [ziL e,ziL e,zfG o f g n.2.1 s (by omega) (by omega),zfG o f g n.2.2 _ (by omega) (by omega)]
theorem za1 {c : Cells} (o : Ok c) {h : Int} {n : Nd} (e : getM c h = some n) (s : St) : Z c h s ↔ if s n.1 = true then Z c n.2.2 (yw s n.1 false) else Z c n.2.1 s:=by
 obtain ⟨k1,k2,_,_,k3,k4⟩:=o.kids e
 show zF (24 + 1) c h s ↔ if s n.1 = true then zF 25 c n.2.2 (yw s n.1 false) else zF 25 c n.2.1 s
 rw [ziL e,zfG o 24 25 n.2.1 _ (by omega) (by omega),zfG o 24 25 n.2.2 _ (by omega) (by omega)]
theorem zaA {c : Cells} {h : Int} (e : getM c h = none) (s : St) : Z c h s ↔ (h = 1 ∧ ∀ u,s u = false):=by
 show zF (24 + 1) c h s ↔ _
 rw [zjm e]
theorem zbP (c : Cells) (s : St) : ¬ Z c 0 s:=fun h => by have:=((zaA (qg c (.inl rfl)) s).1 h).1;omega
theorem zhX (c : Cells) (s : St) : Z c 1 s ↔ ∀ u,s u = false:=by rw [zaA (qg c (.inr rfl))];simp
theorem xR (s : St) (v : Int) (b : Bool) : yw s v b v = b:=by unfold yw;simp
theorem kK (s : St) {v u : Int} (b : Bool) (h : u ≠ v) : yw s v b u = s u:=by unfold yw;rw [if_neg h]
theorem yS (s : St) (v : Int) (a b : Bool) : yw (yw s v a) v b = yw s v b:=by funext u;unfold yw;split <;> rfl
theorem zG {s : St} {v : Int} {b : Bool} (h : s v = b) : yw s v b = s:=by
 funext u
 unfold yw
 split
 · rename_i e;rw [e,h]
 · rfl
theorem ziE {c : Cells} (o : Ok c) : ∀ (h : Int) (s : St),Z c h s → ∀ u,s u = true → zk c h ≤ u:=by
 refine jH o (Q:=fun h => ∀ (s : St),Z c h s → ∀ u,s u = true → zk c h ≤ u) (fun h g s hz u hu => ?_) (fun h n g ih1 ih2 s hz u hu => ?_)
 · rw [((zaA g s).1 hz).2 u] at hu;cases hu
 ·
  obtain ⟨_,_,_,_,k3,k4⟩:=o.kids g
  rw [zK g]
  rw [za1 o g] at hz
  split at hz
  ·
   by_cases e : u = n.1
   · omega
   · have:=ih2 _ hz u (by rw [kK _ _ e];exact hu);omega
  · have:=ih1 _ hz u hu;omega
theorem Z_lt {c : Cells} (o : Ok c) {V : Int} (hv : ∀ k n,c.at k = some n → n.1 < V) : ∀ (h : Int) (s : St),Z c h s → ∀ u,s u = true → u < V:=by
 refine jH o (Q:=fun h => ∀ (s : St),Z c h s → ∀ u,s u = true → u < V) (fun h g s hz u hu => ?_) (fun h n g ih1 ih2 s hz u hu => ?_)
 · rw [((zaA g s).1 hz).2 u] at hu;cases hu
 ·
  rw [za1 o g] at hz
  split at hz
  ·
   by_cases e : u = n.1
   · obtain ⟨k,rfl,h1,_⟩:=getM_some g;have:=hv k n h1;omega
   · exact ih2 _ hz u (by rw [kK _ _ e];exact hu)
  · exact ih1 _ hz u hu
theorem jL {c c' : Cells} (o : Ok c) (o' : Ok c') (e : Ext c c') : ∀ (h : Int),zx c h = true → ∀ (s : St),Z c' h s ↔ Z c h s:=by
 refine jH o (Q:=fun h => zx c h = true → ∀ (s : St),Z c' h s ↔ Z c h s) (fun h g hh s => ?_) (fun h n g ih1 ih2 hh s => ?_)
 · rw [zaA g,zaA ((e.get_eq hh).trans g)]
 ·
  obtain ⟨_,_,k1,k2,_,_⟩:=o.kids g
  rw [za1 o g,za1 o' (e.get g)]
  split
  · exact ih2 k2 _
  · exact ih1 k1 _
theorem zhO {c : Cells} (o : Ok c) {h v : Int} {s : St} (hv : v < zk c h) (hs : s v = true) : ¬ Z c h s:=fun hz => by
 have:=ziE o h s hz v hs;omega
theorem zir {c : Cells} (o : Ok c) {h : Int} {n : Nd} (g : getM c h = some n) (s : St) : Z c n.2.1 s ↔ s n.1 = false ∧ Z c h s:=by
 obtain ⟨_,_,_,_,k3,k4⟩:=o.kids g
 rw [za1 o g]
 cases e : s n.1
 · simp
 · simp only [Bool.true_eq_false,false_and,iff_false];exact zhO o k3 e
theorem zcw {c : Cells} (o : Ok c) {h : Int} {n : Nd} (g : getM c h = some n) (s : St) : Z c n.2.2 s ↔ s n.1 = false ∧ Z c h (yw s n.1 true):=by
 obtain ⟨_,_,_,_,k3,k4⟩:=o.kids g
 rw [za1 o g,xR,if_pos rfl,yS]
 cases e : s n.1
 · rw [zG e];simp
 · simp only [Bool.true_eq_false,false_and,iff_false];exact zhO o k4 e
def zly (c : Cells) : Prop:=∀ k n,c.at k = some n → n.2.2 ≠ 0
theorem zrL {c : Cells} (o : Ok c) (r : zly c) : ∀ (h : Int),zx c h = true → h ≠ 0 → ∃ s,Z c h s:=by
 refine jH o (Q:=fun h => zx c h = true → h ≠ 0 → ∃ s,Z c h s) (fun h g hh h0 => ?_) (fun h n g ih1 ih2 hh h0 => ?_)
 ·
  rcases yc hh g with rfl | rfl
  · exact absurd rfl h0
  · exact ⟨fun _ => false,(zhX c _).2 fun _ => rfl⟩
 ·
  obtain ⟨_,_,k1,k2,k3,k4⟩:=o.kids g
  have hn : n.2.2 ≠ 0:=by obtain ⟨k,_,h1,_⟩:=getM_some g;exact r k n h1
  obtain ⟨s,hs⟩:=ih2 k2 hn
  exact ⟨_,((zcw o g s).1 hs).2⟩
theorem znt {c : Cells} (o : Ok c) (r : zly c) {h : Int} {n : Nd} (g : getM c h = some n) : ∃ s,Z c h s ∧ s n.1 = true:=by
 obtain ⟨_,_,k1,k2,k3,k4⟩:=o.kids g
 have hn : n.2.2 ≠ 0:=by obtain ⟨k,_,h1,_⟩:=getM_some g;exact r k n h1
 obtain ⟨s,hs⟩:=zrL o r _ k2 hn
 exact ⟨_,((zcw o g s).1 hs).2,xR _ _ _⟩
theorem zlx {c : Cells} (o : Ok c) (r : zly c) : ∀ (f : Nat) (h h' : Int),(24 - zk c h).toNat < f → (24 - zk c h').toNat < f → zx c h = true → zx c h' = true → (∀ s,Z c h s ↔ Z c h' s) → h = h'
 | 0,_,_,h1,_,_,_,_ => absurd h1 (Nat.not_lt_zero _)
 | f + 1,h,h',hf,hf',hh,hh',he => by
  have node_case : ∀ {x x' : Int} {n : Nd},getM c x = some n → n.1 < zk c x' → (∀ s,Z c x s ↔ Z c x' s) → False:=by
   intro x x' n g hlt hd
   obtain ⟨s,hs,ht⟩:=znt o r g
   exact zhO o hlt ht ((hd s).1 hs)
  cases g : getM c h with
  | none =>
   cases g' : getM c h' with
   | none =>
    have h2:=he (fun _ => false)
    rw [zaA g,zaA g'] at h2
    rcases yc hh g with rfl | rfl <;> rcases yc hh' g' with rfl | rfl
    · rfl
    · simp at h2
    · simp at h2
    · rfl
   | some n' => exact (node_case g' (by rw [qH g];exact (o.kids g').2.1) (fun s => (he s).symm)).elim
  | some n =>
   cases g' : getM c h' with
   | none => exact (node_case g (by rw [qH g'];exact (o.kids g).2.1) he).elim
   | some n' =>
    rcases Int.lt_trichotomy n.1 n'.1 with h3 | h3 | h3
    · exact (node_case g (by rw [zK g'];exact h3) he).elim
    ·
     obtain ⟨b1,b2,k1,k2,k3,k4⟩:=o.kids g
     obtain ⟨b1',b2',k1',k2',k3',k4'⟩:=o.kids g'
     rw [zK g] at hf
     rw [zK g'] at hf'
     have e1:=zlx o r f n.2.1 n'.2.1 (by omega) (by omega) k1 k1' (fun s => by rw [zir o g s,zir o g' s,h3,he])
     have e2:=zlx o r f n.2.2 n'.2.2 (by omega) (by omega) k2 k2' (fun s => by rw [zcw o g s,zcw o g' s,h3,he])
     obtain ⟨k,rfl,hk,_⟩:=getM_some g
     obtain ⟨k',rfl,hk',_⟩:=getM_some g'
     have : n = n':=by
      obtain ⟨a,b,d⟩:=n
      obtain ⟨a',b',d'⟩:=n'
      simp only at h3 e1 e2
      rw [h3,e1,e2]
     subst this
     rw [o.uniq k k' n hk hk']
    · exact (node_case g' (by rw [zK g];exact h3) (fun s => (he s).symm)).elim
theorem zih {c : Cells} (o : Ok c) (r : zly c) {h h' : Int} (hh : zx c h = true) (hh' : zx c h' = true) (he : ∀ s,Z c h s ↔ Z c h' s) : h = h' :=
 zlx o r ((24 - zk c h).toNat + (24 - zk c h').toNat + 1) h h' (by omega) (by omega) hh hh' he
def jY (c : Cells) (v low high : Int) : Cells × Int × Nat:=if high = 0 then (c,low,0) else mkM c (v,low,high)
def atZ (c : Cells) (h v : Int) : Int × Int:=match getM c h with
 | some n => if n.1 = v then (n.2.1,n.2.2) else (h,0)
 | none => (h,0)
def without (v : Int) (F : Fam) : Fam:=fun s => s v = false ∧ F s
def qy (v : Int) (F : Fam) : Fam:=fun s => s v = false ∧ F (yw s v true)
def kQ (v : Int) (F G : Fam) : Fam:=fun s => if s v = true then G (yw s v false) else F s
structure ZOk (V : Int) (c : Cells) : Prop where
 ok : Ok c
 red : zly c
 vlt : ∀ k n,c.at k = some n → n.1 < V
theorem ZOk.empty (V : Int) (R : Nat) : ZOk V (List.replicate R none):=by
 have hat : ∀ k,Cells.at (List.replicate R none) k = none:=fun k => by unfold Cells.at;simp only [List.getD_eq_getElem?_getD,List.getElem?_replicate];split <;> rfl
 exact ⟨⟨fun k n h => (by rw [hat] at h;cases h),fun k n h => (by rw [hat] at h;cases h),fun k n h => (by rw [hat] at h;cases h),fun j k n h => (by rw [hat] at h;cases h)⟩,fun k n h => (by rw [hat] at h;cases h),fun k n h => (by rw [hat] at h;cases h)⟩
theorem ZOk.zgL {V : Int} {c : Cells} (o : ZOk V c) (l : List Int) : ZOk V (xk c l) :=
 ⟨zeI o.ok l,fun k n h => o.red k n (yt.1 h).2,fun k n h => o.vlt k n (yt.1 h).2⟩
def zdc (L : Int) (o : Option Nd) : Bool:=match o with | some n => decide (n.1 < L) | none => false
def yh (L : Int) (c : Cells) : Nat:=c.countP (zdc L)
theorem zom {L : Int} {c : Cells} {k : Nat} {n : Nd} (h : k < c.length) (h0 : c.at k = none) : yh L (c.set k (some n)) = yh L c + if n.1 < L then 1 else 0:=by
 unfold yh
 rw [jK h] at h0
 rw [List.countP_set h,h0]
 unfold zdc
 by_cases e : n.1 < L <;> simp [e]
theorem zpx (L : Int) (c : Cells) (n : Nd) : yh L (mkM c n).1 ≤ yh L c + if n.1 < L then 1 else 0:=by
 unfold mkM
 split
 · dsimp only;omega
 ·
  split
  · dsimp only;omega
  ·
   split
   · rename_i k h;rw [zom (xG h).1 (xG h).2.1];exact znr _
   · dsimp only;omega
theorem zgf (L : Int) (c : Cells) : yh L c = ((List.range c.length).filter fun k => zdc L (c.at k)).length:=by
 unfold yh
 rw [List.countP_eq_length_filter]
 have : c = (List.range c.length).map fun k => c.at k:=by
  apply List.ext_getElem
  · simp
  · intro i h1 h2;simp [jK h1]
 conv => lhs;rw [this]
 rw [List.filter_map,List.length_map]
 rfl
structure zfb (L : Int) (c : Cells) (v l h : Int) (r : Cells × Int × Nat) : Prop where
 err : r.2.2 = 0
 ext : Ext c r.1
 ok : Ok r.1
 red : zly r.1
 has : zx r.1 r.2.1 = true
 z : ∀ s,Z r.1 r.2.1 s ↔ kQ v (Z c l) (Z c h) s
 top : v ≤ zk r.1 r.2.1
 cnt : yh L r.1 ≤ yh L c + if v < L then 1 else 0
 old : ∀ k n,r.1.at k = some n → c.at k = some n ∨ n = (v,l,h)
theorem ku (L : Int) {c : Cells} (o : Ok c) (rd : zly c) {v l h : Int} (v0 : 0 ≤ v) (v1 : v < 24) (hl : zx c l = true) (hh : zx c h = true) (tl : v < zk c l) (th : v < zk c h) (hr : cnt c < c.length) : zfb L c v l h (jY c v l h):=by
 by_cases e : h = 0
 ·
  subst e
  have hn : jY c v l 0 = (c,l,0):=by unfold jY;rw [if_pos rfl]
  rw [hn]
  refine ⟨rfl,Ext.refl c,o,rd,hl,fun s => ?_,by dsimp only;omega,by dsimp only;omega,fun k n h => .inl h⟩
  unfold kQ
  dsimp only
  cases e : s v
  · simp
  · simp only [if_true];exact ⟨fun hz => absurd hz (zhO o tl e),fun hz => absurd hz (zbP _ _)⟩
 ·
  have hn : jY c v l h = mkM c (v,l,h):=by unfold jY;rw [if_neg e]
  have hb : zaI c (v,l,h) = 0:=zhR v0 v1 hl hh tl th
  have he:=zp0 hb hr
  have hext:=zre c (v,l,h)
  have hok:=zr2 o (v,l,h)
  have hg:=zqB he
  have hold : ∀ k n,(mkM c (v,l,h)).1.at k = some n → c.at k = some n ∨ n = (v,l,h):=by
   intro k n hk
   unfold mkM at hk
   rw [if_neg (by simp [hb])] at hk
   split at hk
   · exact .inl hk
   ·
    split at hk
    ·
     rename_i j hj
     rw [at_set _ (xG hj).1] at hk
     split at hk
     · cases hk;exact .inr rfl
     · exact .inl hk
    · exact .inl hk
  rw [hn]
  refine ⟨he,hext,hok,fun k n hk => ?_,zdB hg,fun s => ?_,?_,zpx L c _,hold⟩
  ·
   rcases hold k n hk with h1 | rfl
   · exact rd k n h1
   · exact e
  ·
   rw [za1 hok hg]
   unfold kQ
   split
   · exact jL o hok hext h hh _
   · exact jL o hok hext l hl _
  · rw [zK hg];exact Int.le_refl _
structure AtZ (c : Cells) (h v : Int) (r : Int × Int) : Prop where
 has1 : zx c r.1 = true
 has2 : zx c r.2 = true
 z1 : ∀ s,Z c r.1 s ↔ without v (Z c h) s
 z2 : ∀ s,Z c r.2 s ↔ qy v (Z c h) s
 top1 : v < zk c r.1
 top2 : v < zk c r.2
theorem zjX {c : Cells} (o : Ok c) {h v : Int} (hh : zx c h = true) (hv : v ≤ zk c h) (hv2 : v < 24) : AtZ c h v (atZ c h v):=by
 have t0 : zk c 0 = 24:=qH (qg c (.inl rfl))
 have key : v < zk c h → AtZ c h v (h,0):=fun hlt => by
  refine ⟨hh,qB c,fun s => ⟨fun hz => ⟨?_,hz⟩,fun hz => hz.2⟩,fun s => ⟨fun hz => absurd hz (zbP _ _),fun hz => ?_⟩,hlt,by dsimp only;omega⟩
  ·
   cases e : s v
   · rfl
   · exact absurd hz (zhO o hlt e)
  · exact absurd hz.2 (zhO o hlt (xR _ _ _))
 unfold atZ
 cases g : getM c h with
 | none => exact key (by rw [qH g];exact hv2)
 | some n =>
  obtain ⟨b1,b2,k1,k2,k3,k4⟩:=o.kids g
  have ht:=zK g
  dsimp only
  split
  ·
   rename_i e
   subst e
   exact ⟨k1,k2,fun s => zir o g s,fun s => zcw o g s,k3,k4⟩
  · exact key (by omega)
theorem zi3 : ∀ (n : Nat) (l : List Nat),l.Nodup → (∀ x ∈ l,x < n) → l.length ≤ n
 | 0,l,_,h => by
  cases l with
  | nil => exact znr _
  | cons x l => exact absurd (h x (by simp)) (Nat.not_lt_zero _)
 | n + 1,l,hd,h => by
  by_cases hm : n ∈ l
  ·
   have h1:=zi3 n (l.erase n) (hd.erase n) (fun x hx => by
    have h2:=h x (List.mem_of_mem_erase hx)
    have h3 : x ≠ n:=fun e => by subst e;exact hd.not_mem_erase hx
    omega)
   rw [List.length_erase_of_mem hm] at h1
   omega
  ·
   have h1:=zi3 n l hd (fun x hx => by
    have h2:=h x hx
    have h3 : x ≠ n:=fun e => hm (e ▸ hx)
    omega)
   omega
def codeF (f : Nat → Bool) : Nat → Nat
 | 0 => 0
 | j + 1 => 2 * codeF f j + (f j).toNat
theorem zkE (f : Nat → Bool) : ∀ m,codeF f m < 2 ^ m
 | 0 => by simp [codeF]
 | m + 1 => by
  have h1:=zkE f m
  have h2 : (f m).toNat ≤ 1:=Bool.toNat_le _
  rw [codeF,Nat.pow_succ];omega
theorem code_inj (f g : Nat → Bool) : ∀ m,codeF f m = codeF g m → ∀ j,j < m → f j = g j
 | 0,_,j,hj => absurd hj (Nat.not_lt_zero _)
 | m + 1,e,j,hj => by
  rw [codeF,codeF] at e
  have h1 : (f m).toNat ≤ 1:=Bool.toNat_le _
  have h2 : (g m).toNat ≤ 1:=Bool.toNat_le _
  rcases Nat.lt_succ_iff_lt_or_eq.1 hj with h | rfl
  · exact code_inj f g m (by omega) j h
  ·
   have : (f j).toNat = (g j).toNat:=by omega
   cases h3 : f j <;> cases h4 : g j <;> simp_all
def zqe (L : Int) (j : Nat) : St:=fun u => decide (L ≤ u) && decide (u < L + 3) && j.testBit (u - L).toNat
theorem zjw (L : Int) (s : St) (h1 : ∀ u,s u = true → L ≤ u) (h2 : ∀ u,s u = true → u < L + 3) : ∃ j,j < 8 ∧ s = zqe L j:=by
 refine ⟨(s L).toNat + 2 * (s (L + 1)).toNat + 4 * (s (L + 2)).toNat,?_,?_⟩
 · have a:=Bool.toNat_le (s L);have b:=Bool.toNat_le (s (L + 1));have c:=Bool.toNat_le (s (L + 2));omega
 ·
  funext u
  unfold zqe
  by_cases e : L ≤ u ∧ u < L + 3
  ·
   have hu : u = L ∨ u = L + 1 ∨ u = L + 2:=by omega
   rw [decide_eq_true e.1,decide_eq_true e.2]
   rcases hu with rfl | rfl | rfl
   ·
    rw [show (u - u).toNat = 0 by omega]
    cases s u <;> cases s (u + 1) <;> cases s (u + 2) <;> decide
   ·
    rw [show (L + 1 - L).toNat = 1 by omega]
    cases s L <;> cases s (L + 1) <;> cases s (L + 2) <;> decide
   ·
    rw [show (L + 2 - L).toNat = 2 by omega]
    cases s L <;> cases s (L + 1) <;> cases s (L + 2) <;> decide
  ·
   cases hs : s u
   ·
    by_cases a : L ≤ u
    ·
     have b : ¬ u < L + 3:=fun b => e ⟨a,b⟩
     simp [b]
    · simp [a]
   · exact absurd ⟨h1 u hs,h2 u hs⟩ e
def zdw (L : Int) (c : Cells) (k : Nat) : Bool:=match c.at k with | some n => decide (L ≤ n.1) | none => false
open Classical in
noncomputable def codeOf (L : Int) (c : Cells) (k : Nat) : Nat:=codeF (fun j => decide (Z c ((k : Int) + 2) (zqe L j))) 8
theorem zm8 {L V : Int} {c : Cells} (o : ZOk V c) (hL : V ≤ L + 3) {k k' : Nat} (hk : zdw L c k = true) (hk' : zdw L c k' = true) (e : codeOf L c k = codeOf L c k') : k = k':=by
 classical
 unfold zdw at hk hk'
 cases h : c.at k with
 | none => rw [h] at hk;cases hk
 | some n =>
  cases h' : c.at k' with
  | none => rw [h'] at hk';cases hk'
  | some n' =>
   rw [h] at hk;rw [h'] at hk'
   simp only [decide_eq_true_eq] at hk hk'
   have g : getM c ((k : Int) + 2) = some n:=by rw [yO];exact h
   have g' : getM c ((k' : Int) + 2) = some n':=by rw [yO];exact h'
   have hj:=code_inj _ _ 8 e
   have key : (k : Int) + 2 = (k' : Int) + 2:=by
    refine zih o.ok o.red (zdB g) (zdB g') (fun s => ?_)
    constructor
    ·
     intro hz
     obtain ⟨j,hj8,rfl⟩:=zjw L s (fun u hu => by have:=ziE o.ok _ s hz u hu;rw [zK g] at this;omega) (fun u hu => by have:=Z_lt o.ok o.vlt _ s hz u hu;omega)
     have:=hj j hj8
     simp only [decide_eq_decide] at this
     exact this.1 hz
    ·
     intro hz
     obtain ⟨j,hj8,rfl⟩:=zjw L s (fun u hu => by have:=ziE o.ok _ s hz u hu;rw [zK g'] at this;omega) (fun u hu => by have:=Z_lt o.ok o.vlt _ s hz u hu;omega)
     have:=hj j hj8
     simp only [decide_eq_decide] at this
     exact this.2 hz
   omega
theorem zbV {α β : Type} (f : α → β) : ∀ (l : List α),(∀ x ∈ l,∀ y ∈ l,f x = f y → x = y) → l.Nodup → (l.map f).Nodup
 | [],_,_ => by simp
 | x :: l,h,hd => by
  rw [List.nodup_cons] at hd
  rw [List.map_cons,List.nodup_cons]
  refine ⟨fun hm => ?_,zbV f l (fun y hy z hz => h y (List.mem_cons_of_mem _ hy) z (List.mem_cons_of_mem _ hz)) hd.2⟩
  obtain ⟨y,hy,e⟩:=List.mem_map.1 hm
  have:=h y (List.mem_cons_of_mem _ hy) x (by simp) e
  subst this
  exact hd.1 hy
theorem zoQ {L V : Int} {c : Cells} (o : ZOk V c) (hL : V ≤ L + 3) : ((List.range c.length).filter (zdw L c)).length ≤ 256:=by
 have h1:=zbV (codeOf L c) ((List.range c.length).filter (zdw L c)) (fun x hx y hy e => zm8 o hL (List.mem_filter.1 hx).2 (List.mem_filter.1 hy).2 e) (List.nodup_range.filter _)
 have h2:=zi3 256 _ h1 (fun x hx => by
  obtain ⟨y,_,rfl⟩:=List.mem_map.1 hx
  exact zkE _ 8)
 rwa [List.length_map] at h2
theorem zep {α : Type} (p q r : α → Bool) (h : ∀ x,p x = true → q x = true ∨ r x = true) : ∀ l : List α,(l.filter p).length ≤ (l.filter q).length + (l.filter r).length
 | [] => by simp
 | x :: l => by
  have ih:=zep p q r h l
  simp only [List.filter_cons]
  cases hp : p x <;> cases hq : q x <;> cases hr : r x <;> simp only [Bool.false_eq_true,if_false,if_true,List.length_cons] <;> first | omega | (rcases h x hp with h1 | h1 <;> simp_all)
def hiB (V L : Int) : Nat:=if V ≤ L then 0 else 256
theorem zbg {L V : Int} {c : Cells} (o : ZOk V c) (hL : V ≤ L + 3) : cnt c ≤ yh L c + hiB V L:=by
 unfold hiB
 split
 ·
  rename_i h
  unfold cnt yh
  rw [Nat.add_zero]
  refine Nat.le_of_eq (List.countP_congr fun x hx => ?_)
  cases x with
  | none => simp [zdc]
  | some n =>
   obtain ⟨k,hk,e⟩:=List.getElem_of_mem hx
   have:=o.vlt k n (by rw [jK hk,e])
   simp [zdc];omega
 ·
  rw [zid,zgf]
  have h1:=zep (fun k => (c.at k).isSome) (fun k => zdc L (c.at k)) (zdw L c) (fun k hk => by
   unfold zdw zdc
   cases h : c.at k with
   | none => rw [h] at hk;cases hk
   | some n =>
    dsimp only
    by_cases e : n.1 < L
    · exact .inl (by simpa using e)
    · exact .inr (by simp;omega)) (List.range c.length)
  have h2:=zoQ o hL
  omega
inductive Kd
 | or | and | less | join | free
def Sub (t s : St) : Prop:=∀ u,t u = true → s u = true
def zaG (a b : St) : St:=fun u => a u || b u
def Kd.sem : Kd → Fam → Fam → Fam
 | .or,F,G => fun s => F s ∨ G s
 | .and,F,G => fun s => F s ∧ G s
 | .less,F,G => fun s => F s ∧ ¬ G s
 | .join,F,G => fun s => ∃ a b,F a ∧ G b ∧ s = zaG a b
 | .free,F,G => fun s => F s ∧ ∀ t,G t → ¬ Sub t s
def Kd.ends : Kd → Int → Int → Option Int
 | .or,a,b => if a = 0 ∨ a = b then some b else if b = 0 then some a else none
 | .and,a,b => if a = 0 ∨ b = 0 then some 0 else if a = b then some a else none
 | .less,a,b => if a = 0 ∨ a = b then some 0 else if b = 0 then some a else none
 | .join,a,b => if a = 0 ∨ b = 0 then some 0 else if a = 1 then some b else if b = 1 then some a else none
 | .free,a,b => if b = 0 then some a else if b = 1 ∨ a = 0 ∨ a = b then some 0 else none
theorem Kd.qZ (k : Kd) {F F' G G' : Fam} (hF : ∀ s,F s ↔ F' s) (hG : ∀ s,G s ↔ G' s) (s : St) : k.sem F G s ↔ k.sem F' G' s:=by
 cases k <;> simp only [Kd.sem,hF,hG]
theorem kD {v : Int} {F F' G G' : Fam} (hF : ∀ s,F s ↔ F' s) (hG : ∀ s,G s ↔ G' s) (s : St) : kQ v F G s ↔ kQ v F' G' s:=by
 unfold kQ;split
 · exact hG _
 · exact hF _
theorem zdZ (a : St) (h : ∀ u,a u = false) (b : St) : zaG a b = b:=by funext u;unfold zaG;rw [h u];simp
theorem zks (a b : St) : zaG a b = zaG b a:=by funext u;unfold zaG;exact Bool.or_comm _ _
theorem zlr {c : Cells} (o : Ok c) (k : Kd) {a b x : Int} (ha : zx c a = true) (hb : zx c b = true) (e : k.ends a b = some x) :
 zx c x = true ∧ (∀ s,Z c x s ↔ k.sem (Z c a) (Z c b) s) ∧ min (zk c a) (zk c b) ≤ zk c x:=by
 have t0 : zk c 0 = 24:=qH (qg c (.inl rfl))
 have la:=zY o a
 have lb:=zY o b
 have h0:=qB c
 have z0:=fun s => zbP c s
 have z1:=fun s => zhX c s
 cases k <;> simp only [Kd.ends] at e
 ·
  split at e
  ·
   rename_i h;cases e
   refine ⟨hb,fun s => ?_,by omega⟩
   rcases h with rfl | rfl
   · simp only [Kd.sem];exact ⟨.inr,fun h => h.resolve_left (z0 s)⟩
   · simp only [Kd.sem,or_self]
  ·
   split at e
   ·
    rename_i h;cases e;subst h
    refine ⟨ha,fun s => ?_,by omega⟩
    simp only [Kd.sem];exact ⟨.inl,fun h => h.resolve_right (z0 s)⟩
   · cases e
 ·
  split at e
  ·
   rename_i h;cases e
   refine ⟨h0,fun s => ⟨fun h => absurd h (z0 s),fun h2 => ?_⟩,by omega⟩
   rcases h with rfl | rfl
   · exact h2.1
   · exact h2.2
  ·
   split at e
   ·
    rename_i h;cases e;subst h
    exact ⟨ha,fun s => ⟨fun h => ⟨h,h⟩,fun h => h.1⟩,by omega⟩
   · cases e
 ·
  split at e
  ·
   rename_i h;cases e
   refine ⟨h0,fun s => ⟨fun h => absurd h (z0 s),fun h2 => ?_⟩,by omega⟩
   rcases h with rfl | rfl
   · exact h2.1
   · exact absurd h2.1 h2.2
  ·
   split at e
   ·
    rename_i h;cases e;subst h
    exact ⟨ha,fun s => ⟨fun h => ⟨h,z0 s⟩,fun h => h.1⟩,by omega⟩
   · cases e
 ·
  split at e
  ·
   rename_i h;cases e
   refine ⟨h0,fun s => ⟨fun h => absurd h (z0 s),fun h2 => ?_⟩,by omega⟩
   obtain ⟨p,q,hp,hq,_⟩:=h2
   rcases h with rfl | rfl
   · exact absurd hp (z0 p)
   · exact absurd hq (z0 q)
  ·
   split at e
   ·
    rename_i h;cases e;subst h
    refine ⟨hb,fun s => ⟨fun h => ⟨fun _ => false,s,(z1 _).2 fun _ => rfl,h,(zdZ _ (fun _ => rfl) s).symm⟩,fun h => ?_⟩,by omega⟩
    obtain ⟨p,q,hp,hq,rfl⟩:=h
    rw [zdZ p ((z1 p).1 hp)];exact hq
   ·
    split at e
    ·
     rename_i h;cases e;subst h
     refine ⟨ha,fun s => ⟨fun h => ⟨s,fun _ => false,h,(z1 _).2 fun _ => rfl,by rw [zks,zdZ _ (fun _ => rfl) s]⟩,fun h => ?_⟩,by omega⟩
     obtain ⟨p,q,hp,hq,rfl⟩:=h
     rw [zks,zdZ q ((z1 q).1 hq)];exact hp
    · cases e
 ·
  split at e
  ·
   rename_i h;cases e;subst h
   exact ⟨ha,fun s => ⟨fun h => ⟨h,fun t ht => absurd ht (z0 t)⟩,fun h => h.1⟩,by omega⟩
  ·
   split at e
   ·
    rename_i h;cases e
    refine ⟨h0,fun s => ⟨fun h => absurd h (z0 s),fun h2 => ?_⟩,by omega⟩
    rcases h with rfl | rfl | rfl
    · exact absurd (fun u hu => by cases hu) (h2.2 (fun _ => false) ((z1 _).2 fun _ => rfl))
    · exact h2.1
    · exact absurd (fun u hu => hu) (h2.2 s h2.1)
   · cases e
theorem zog {V : Int} {c : Cells} (o : ZOk V c) (k : Kd) {a b : Int} (ha : zx c a = true) (hb : zx c b = true) (e : k.ends a b = none) : min (zk c a) (zk c b) < V ∧ 0 ≤ min (zk c a) (zk c b):=by
 have la:=zY o.ok a
 have lb:=zY o.ok b
 have key : ∀ {h : Int},zx c h = true → (h = 0 ∨ h = 1) ∨ zk c h < V:=fun {h} hh => by
  rcases xE hh with e | e | ⟨k,n,e,h1,_⟩
  · exact .inl (.inl e)
  · exact .inl (.inr e)
  · right;subst e;rw [zK (show getM c ((k : Int) + 2) = some n by rw [yO];exact h1)];exact o.vlt k n h1
 rcases key ha with h1 | h1
 ·
  rcases key hb with h2 | h2
  ·
   exfalso
   rcases h1 with rfl | rfl <;> rcases h2 with rfl | rfl <;> cases k <;> simp [Kd.ends] at e
  · omega
 · omega
theorem ziN (a b : St) (v : Int) (x : Bool) : yw (zaG a b) v x = zaG (yw a v x) (yw b v x):=by
 funext u;unfold zaG yw;split <;> simp
theorem zfF {t s : St} {v : Int} (h : t v = false) : Sub t (yw s v true) ↔ Sub t (yw s v false):=by
 constructor <;> intro hs u hu <;> have h1:=hs u hu <;> by_cases e : u = v
 · subst e;rw [h] at hu;cases hu
 · rw [kK _ _ e] at h1 ⊢;exact h1
 · subst e;rw [h] at hu;cases hu
 · rw [kK _ _ e] at h1 ⊢;exact h1
theorem zfR {t s : St} {v : Int} : Sub (yw t v true) (yw s v true) ↔ Sub (yw t v false) (yw s v false):=by
 constructor <;> intro hs u hu <;> by_cases e : u = v
 · subst e;rw [xR] at hu;cases hu
 · have h1:=hs u (by rw [kK _ _ e] at hu ⊢;exact hu);rw [kK _ _ e] at h1 ⊢;exact h1
 · subst e;exact xR _ _ _
 · have h1:=hs u (by rw [kK _ _ e] at hu ⊢;exact hu);rw [kK _ _ e] at h1 ⊢;exact h1
theorem zrP (v : Int) (F G : Fam) (s : St) : kQ v (Kd.or.sem (without v F) (without v G)) (Kd.or.sem (qy v F) (qy v G)) s ↔ Kd.or.sem F G s:=by
 unfold kQ
 split
 · rename_i h;simp only [Kd.sem,qy,xR,yS,true_and,zG h]
 ·
  rename_i h
  have h' : s v = false:=by simpa using h
  simp only [Kd.sem,without,h',true_and]
theorem zqO (v : Int) (F G : Fam) (s : St) : kQ v (Kd.and.sem (without v F) (without v G)) (Kd.and.sem (qy v F) (qy v G)) s ↔ Kd.and.sem F G s:=by
 unfold kQ
 split
 · rename_i h;simp only [Kd.sem,qy,xR,yS,true_and,zG h]
 ·
  rename_i h
  have h' : s v = false:=by simpa using h
  simp only [Kd.sem,without,h',true_and]
theorem zoR (v : Int) (F G : Fam) (s : St) : kQ v (Kd.less.sem (without v F) (without v G)) (Kd.less.sem (qy v F) (qy v G)) s ↔ Kd.less.sem F G s:=by
 unfold kQ
 split
 · rename_i h;simp only [Kd.sem,qy,xR,yS,true_and,zG h]
 ·
  rename_i h
  have h' : s v = false:=by simpa using h
  simp only [Kd.sem,without,h',true_and]
theorem zm3 {a b : St} {v : Int} (h : zaG a b v = false) : a v = false ∧ b v = false:=by
 unfold zaG at h;cases ha : a v <;> cases hb : b v <;> simp_all
theorem zpo (v : Int) (F G : Fam) (s : St) :
 kQ v (Kd.join.sem (without v F) (without v G)) (Kd.or.sem (Kd.or.sem (Kd.or.sem (fun _ => False) (Kd.join.sem (qy v F) (qy v G))) (Kd.join.sem (qy v F) (without v G))) (Kd.join.sem (without v F) (qy v G))) s ↔ Kd.join.sem F G s:=by
 unfold kQ
 split
 ·
  rename_i h
  simp only [Kd.sem,false_or]
  constructor
  ·
   rintro ((⟨a,b,ha,hb,e⟩ | ⟨a,b,ha,hb,e⟩) | ⟨a,b,ha,hb,e⟩)
   ·
    refine ⟨yw a v true,yw b v true,ha.2,hb.2,?_⟩
    rw [← ziN,← e,yS,zG h]
   ·
    refine ⟨yw a v true,b,ha.2,hb.2,?_⟩
    have : s = yw (zaG a b) v true:=by rw [← e,yS,zG h]
    rw [this];funext u;unfold zaG yw;split <;> simp
   ·
    refine ⟨a,yw b v true,ha.2,hb.2,?_⟩
    have : s = yw (zaG a b) v true:=by rw [← e,yS,zG h]
    rw [this];funext u;unfold zaG yw;split <;> simp
  ·
   rintro ⟨a,b,ha,hb,rfl⟩
   have hv : ∀ (x : St),x v = true → qy v F (yw x v false) = F x:=fun x hx => by unfold qy;rw [xR,yS,zG hx];simp
   have hw : ∀ (x : St),x v = true → qy v G (yw x v false) = G x:=fun x hx => by unfold qy;rw [xR,yS,zG hx];simp
   cases h1 : a v <;> cases h2 : b v
   · exfalso;unfold zaG at h;rw [h1,h2] at h;cases h
   ·
    refine .inr ⟨a,yw b v false,⟨h1,ha⟩,by rw [hw b h2];exact hb,?_⟩
    rw [ziN,zG h1]
   ·
    refine .inl (.inr ⟨yw a v false,b,by rw [hv a h1];exact ha,⟨h2,hb⟩,?_⟩)
    rw [ziN,zG h2]
   ·
    refine .inl (.inl ⟨yw a v false,yw b v false,by rw [hv a h1];exact ha,by rw [hw b h2];exact hb,?_⟩)
    rw [ziN]
 ·
  rename_i h
  have h' : s v = false:=by simpa using h
  simp only [Kd.sem]
  constructor
  · rintro ⟨a,b,ha,hb,e⟩;exact ⟨a,b,ha.2,hb.2,e⟩
  ·
   rintro ⟨a,b,ha,hb,rfl⟩
   have:=zm3 h'
   exact ⟨a,b,⟨this.1,ha⟩,⟨this.2,hb⟩,rfl⟩
theorem zpD (v : Int) (F G : Fam) (s : St) :
 kQ v (Kd.free.sem (without v F) (without v G)) (Kd.free.sem (Kd.free.sem (qy v F) (without v G)) (qy v G)) s ↔ Kd.free.sem F G s:=by
 unfold kQ
 split
 ·
  rename_i h
  simp only [Kd.sem,qy,without,xR,yS,true_and,zG h]
  constructor
  ·
   rintro ⟨⟨hF,h1⟩,h2⟩
   refine ⟨hF,fun t ht hs => ?_⟩
   cases hv : t v
   · exact h1 t ⟨hv,ht⟩ ((zfF hv).1 (by rw [zG h];exact hs))
   ·
    refine h2 (yw t v false) ⟨xR _ _ _,by rw [yS,zG hv];exact ht⟩ ?_
    rw [← zfR,zG hv,zG h];exact hs
  ·
   rintro ⟨hF,h1⟩
   refine ⟨⟨hF,fun t ht hs => h1 t ht.2 ?_⟩,fun t ht hs => h1 _ ht.2 ?_⟩
   · have:=(zfF ht.1).2 hs;rwa [zG h] at this
   ·
    have : Sub (yw t v true) (yw s v true):=zfR.2 (by rw [zG ht.1];exact hs)
    rwa [zG h] at this
 ·
  rename_i h
  have h' : s v = false:=by simpa using h
  simp only [Kd.sem,without,h',true_and]
  constructor
  ·
   rintro ⟨hF,h1⟩
   refine ⟨hF,fun t ht hs => ?_⟩
   cases hv : t v
   · exact h1 t ⟨hv,ht⟩ hs
   · have:=hs v hv;rw [h'] at this;cases this
  ·
   rintro ⟨hF,h1⟩
   exact ⟨hF,fun t ht => h1 t ht.2⟩
def yD : Nat → Nat
 | 0 => 0
 | d + 1 => 2 * yD d + 1
def qJ : Nat → Nat
 | 0 => 0
 | d + 1 => 4 * qJ d + 3 * yD d + 1
def zay : Nat → Nat
 | 0 => 0
 | d + 1 => 3 * zay d + 1
def Kd.cost : Kd → Nat → Nat
 | .join => qJ
 | .free => zay
 | _ => yD
theorem zU : ∀ {a b : Nat},a ≤ b → yD a ≤ yD b
 | 0,_,_ => by simp [yD]
 | a + 1,0,h => absurd h (by omega)
 | a + 1,b + 1,h => by have:=@zU a b (by omega);simp only [yD];omega
theorem zgP : ∀ {a b : Nat},a ≤ b → qJ a ≤ qJ b
 | 0,_,_ => by simp [qJ]
 | a + 1,0,h => absurd h (by omega)
 | a + 1,b + 1,h => by have:=@zgP a b (by omega);have:=@zU a b (by omega);simp only [qJ];omega
theorem zdu : ∀ {a b : Nat},a ≤ b → zay a ≤ zay b
 | 0,_,_ => by simp [zay]
 | a + 1,0,h => absurd h (by omega)
 | a + 1,b + 1,h => by have:=@zdu a b (by omega);simp only [zay];omega
theorem Kd.zeL (k : Kd) {a b : Nat} (h : a ≤ b) : k.cost a ≤ k.cost b:=by
 cases k
 · exact zU h
 · exact zU h
 · exact zU h
 · exact zgP h
 · exact zdu h
theorem Kd.zqG (k : Kd) {a : Nat} (h : a ≤ 3) : k.cost a ≤ 42:=by
 refine Nat.le_trans (k.zeL h) ?_
 cases k <;> decide
open Go.RowKit
structure Fb where
 ps : Nat
 b : Bk
structure zw (w : World) (s : Fb) (V : Int) (c : Cells) : Prop where
 blk : w.heap[s.ps]? = some (.cells #[.pointer (some ⟨s.b.p,0,none⟩),.int .i64 V] 242 (0,0))
 ar : zL w s.b c
 off : ¬ s.b.mem s.ps
section
variable {w w2 : World} {s : Fb} {V : Int} {c c' : Cells}
theorem zw.lps (h : zw w s V c) : s.ps < w.heap.size:=(Array.getElem?_eq_some_iff.1 h.blk).1
theorem zw.lt (h : zw w s V c) {k : Nat} (hk : s.b.mem k) : k < w.heap.size:=h.ar.lt hk
theorem zw.s0 (h : zw w s V c) : w.cell? ⟨s.ps,0,none⟩ = some (.pointer (some ⟨s.b.p,0,none⟩)):=by rw [cell_of_row w _ _ _ _ _ h.blk];rfl
theorem zw.s1 (h : zw w s V c) : w.cell? ⟨s.ps,1,none⟩ = some (.int .i64 V):=by rw [cell_of_row w _ _ _ _ _ h.blk];rfl
theorem zw.below (h : zw w s V c) (hb : Below w.heap.size w w2) : zw w2 s V c :=
 ⟨by rw [hb.block _ h.lps];exact h.blk,h.ar.below hb,h.off⟩
theorem zw.arena (h : zw w s V c) (ho : Only s.b.mem w w2) (ha : zL w2 s.b c') : zw w2 s V c' :=
 ⟨by rw [ho.block _ h.lps h.off];exact h.blk,ha,h.off⟩
theorem zw.only {S : Nat → Prop} (h : zw w s V c) (ho : Only S w w2) (h1 : ¬ S s.ps) (h2 : ∀ k,s.b.mem k → ¬ S k) : zw w2 s V c :=
 ⟨by rw [ho.block _ h.lps h1];exact h.blk,h.ar.only ho h2,h.off⟩
theorem zw.le (h : zw w s V c) {x : Int} (hx : zx c x = true) : x ≤ 9223372036854775807:=by
 have:=zix hx;have:=h.ar.len;have:=h.ar.room.2;omega
end
set_option maxHeartbeats 2000000 in
theorem zkK (V : Int) (R : Nat) (w : World) (hV0 : 0 ≤ V) (hV : V ≤ 24) (h1 : 1 ≤ R) (h2 : R ≤ 4000) :
 Calls Tryz.prog 92 #[.int .i64 V,.int .i64 R] w fun e w' => (∃ s : Fb,e = .returned (.tuple #[.pointer (some ⟨s.ps,0,none⟩),.nilIface]) ∧ s.b.R = R ∧ zw w' s V (List.replicate R none) ∧ w.heap.size ≤ s.ps ∧ ∀ k,s.b.mem k → w.heap.size ≤ k) ∧ Below w.heap.size w w':=by
 go_enter Tryz.func92,Tryz.ntmps92
 go_wp2_with fail
 refine (zpa R w h1 h2).mono ?_
 rintro e w1 ⟨⟨b,rfl,hR,ha,hm⟩,hb1⟩
 have Ha:=hid ha;have Hm:=hid hm;have Hb1:=hid hb1;have HR:=hid hR
 clear ha hm hb1 hR
 go_wp2_with fail
 go_ret2
 have hb2 : Below w1.heap.size w1 (w1.alloc (.cells #[.pointer (some ⟨b.p,0,none⟩),.int .i64 V] 242)):=zba
 refine ⟨⟨⟨w1.heap.size,b⟩,rfl,HR.out,⟨za rfl,Ha.out.below hb2,?_⟩,Hb1.out.size,Hm.out⟩,Hb1.out.trans (hb2.mono Hb1.out.size)⟩
 intro h
 have:=Ha.out.lt h;dsimp only at this;omega
set_option maxHeartbeats 1000000 in
theorem zad (v l h : Int) (w : World) (s : Fb) (V : Int) (c : Cells) (hs : zw w s V c) (hl : l ≤ 9223372036854775807) (hh : h ≤ 9223372036854775807) :
 Calls Tryz.prog 146 #[.pointer (some ⟨s.ps,0,none⟩),.int .i64 v,.int .i64 l,.int .i64 h] w fun e w' =>
  e = .returned (.tuple #[.int .i64 (jY c v l h).2.1,ziB (jY c v l h).2.2]) ∧ zw w' s V (jY c v l h).1 ∧ Only s.b.mem w w':=by
 by_cases e : h = 0
 ·
  subst e
  have hn : jY c v l 0 = (c,l,0):=by unfold jY;rw [if_pos rfl]
  rw [hn]
  have Hs:=hid hs;clear hs hn
  go_enter Tryz.func146,Tryz.ntmps146
  go_wp2_with fail
  go_ret2
  exact ⟨rfl,Hs.out,Only.refl _ _⟩
 ·
  have hn : jY c v l h = mkM c (v,l,h):=by unfold jY;rw [if_neg e]
  rw [hn]
  have e0 : (h == 0) = false:=by simpa using e
  have c0:=hs.s0
  have hm:=zoC (v,l,h) w s.b c hs.ar hl hh
  unfold qh jo at hm
  dsimp only at hm
  have Hs:=hid hs;have Hm:=hid hm;clear hs hm hn e
  go_enter Tryz.func146,Tryz.ntmps146
  go_wp2_with fail
  refine Hm.out.mono ?_
  rintro e w1 ⟨rfl,ha,ho⟩
  have Ha:=hid ha;have Ho:=hid ho;clear ha ho
  go_wp2_with fail
  go_ret2
  exact ⟨rfl,Hs.out.arena Ho.out Ha.out,Ho.out⟩
set_option maxRecDepth 100000 in
set_option maxHeartbeats 1000000 in
theorem zl7 (h v : Int) (w : World) (s : Fb) (V : Int) (c : Cells) (hs : zw w s V c) (hh : h ≤ 9223372036854775807) :
 Calls Tryz.prog 226 #[.pointer (some ⟨s.ps,0,none⟩),.int .i64 h,.int .i64 v] w fun e w' =>
  e = .returned (.tuple #[.int .i64 (atZ c h v).1,.int .i64 (atZ c h v).2]) ∧ Below w.heap.size w w':=by
 have c0:=hs.s0
 have lp:=hs.lps
 have hg:=zbB h w s.b c hs.ar hh
 have Hs:=hid hs;clear hs
 cases g : getM c h with
 | none =>
  have ha : atZ c h v = (h,0):=by unfold atZ;rw [g]
  rw [ha]
  rw [g] at hg
  have Hg:=hid hg;have G:=hid g;clear hg g ha
  go_enter Tryz.func226,Tryz.ntmps226
  go_wp2_with fail
  refine Hg.out.mono ?_
  rintro e w1 ⟨rfl,rfl⟩
  simp only [zaC,qh,Option.getD_none,Option.isSome_none]
  go_wp2_with fail
  go_ret2
  exact ⟨rfl,(zba).alloc (by simp) _⟩
 | some n =>
  obtain ⟨a,l,u⟩:=n
  rw [g] at hg
  by_cases e : a = v
  ·
   subst e
   have ha : atZ c h a = (l,u):=by unfold atZ;rw [g];simp
   rw [ha]
   have Hg:=hid hg;have G:=hid g;clear hg g ha
   go_enter Tryz.func226,Tryz.ntmps226
   go_wp2_with fail
   refine Hg.out.mono ?_
   rintro e w1 ⟨rfl,rfl⟩
   simp only [zaC,qh,Option.getD_some,Option.isSome_some]
   go_wp2_with fail
   go_quiet (fail)
   go_wp2_with fail
   go_ret2
   exact ⟨rfl,kP ((zba).alloc (by simp) _) _⟩
  ·
   have ha : atZ c h v = (h,0):=by unfold atZ;rw [g];simp [e]
   have e0 : (a == v) = false:=by simpa using e
   rw [ha]
   have Hg:=hid hg;have G:=hid g;clear hg g ha e
   go_enter Tryz.func226,Tryz.ntmps226
   go_wp2_with fail
   refine Hg.out.mono ?_
   rintro e w1 ⟨rfl,rfl⟩
   simp only [zaC,qh,Option.getD_some,Option.isSome_some]
   go_wp2_with fail
   go_ret2
   exact ⟨rfl,(zba).alloc (by simp) _⟩
set_option maxHeartbeats 1000000 in
theorem zh7 (a b : Int) (w : World) (s : Fb) (V : Int) (c : Cells) (hs : zw w s V c) (ha : zx c a = true) (hb : zx c b = true) :
 Calls Tryz.prog 147 #[.pointer (some ⟨s.ps,0,none⟩),.int .i64 a,.int .i64 b] w fun e w' => e = .returned .nilIface ∧ w = w':=by
 have c0:=hs.s0
 have h1:=xB a w s.b c hs.ar (hs.le ha)
 have h2:=xB b w s.b c hs.ar (hs.le hb)
 rw [ha] at h1
 rw [hb] at h2
 have H1:=hid h1;have H2:=hid h2;clear h1 h2 hs ha hb
 go_enter Tryz.func147,Tryz.ntmps147
 go_wp2_with fail
 refine H1.out.mono ?_
 rintro e w' ⟨rfl,rfl⟩
 go_wp2_with fail
 refine H2.out.mono ?_
 rintro e w' ⟨rfl,rfl⟩
 go_wp2_with fail
 go_ret
 exact ⟨rfl,rfl⟩
