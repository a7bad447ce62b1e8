import Derived.Test.YtmlfelbkgoplhaaGreatDoorZrPkM
set_option linter.unusedVariables false
namespace Go.Proofs.YtmlfelbkgoplhaaGreatDoor
def vr (x : Int) : Int:=max x (-x)
theorem zdN {x : Int} (h : x < 0) : vr x = -x:=by unfold vr;omega
theorem zcv {x : Int} (h : 0 < x) : vr x = x:=by unfold vr;omega
def upd (f : Int → Int) (k v : Int) : Int → Int:=fun x => if k = x then v else f x
def lv (f : Int → Int) (x : Int) : Int:=if x < 0 then - f (vr x) else f (vr x)
def Tri (f : Int → Int) : Prop:=∀ v,-1 ≤ f v ∧ f v ≤ 1
theorem Tri.lv {f : Int → Int} (h : Tri f) (x : Int) : -1 ≤ lv f x ∧ lv f x ≤ 1:=by
 have:=h (vr x);unfold Proofs.YtmlfelbkgoplhaaGreatDoor.lv;split <;> omega
def sgn (x : Int) : Int:=if x < 0 then -1 else 1
theorem zoT {f : Int → Int} {x y : Int} (hx : x ≠ 0) (hy : y ≠ 0) : lv (upd f (vr x) (sgn x)) y = if y = x then 1 else if y = -x then -1 else lv f y:=by
 unfold lv upd sgn vr
 split <;> split <;> split <;> (try split) <;> (try split) <;> omega
theorem zdV {v : Nat} {x : Int} (hx : x ≠ 0) : zaH v (-x) = !zaH v x:=by
 unfold zaH
 rcases Int.lt_trichotomy x 0 with h | h | h
 ·
  rw [if_pos (by omega),if_neg (by omega),decide_eq_true h]
  simp
 · exact absurd h hx
 ·
  rw [if_neg (by omega),if_pos h,decide_eq_true (by omega)]
  simp
def zf3 (f : Int → Int) (v : Nat) : Prop:=∀ x,x ≠ 0 → lv f x = 1 → zaH v x = true
theorem za8 {f : Int → Int} {x : Int} (hx : x ≠ 0) : lv f (-x) = - lv f x:=by
 unfold lv vr
 have : max (-x) (- -x) = max x (-x):=by omega
 rw [this]
 split <;> split <;> omega
theorem zf3.false {f : Int → Int} {v : Nat} (h : zf3 f v) {x : Int} (hx : x ≠ 0) (hl : lv f x = -1) : zaH v x = false:=by
 have h1:=h (-x) (by omega) (by rw [za8 hx];omega)
 rw [zdV hx] at h1
 simpa using h1
theorem zf3.upd {f : Int → Int} {v : Nat} (h : zf3 f v) {x : Int} (hx : x ≠ 0) (hl : zaH v x = true) : zf3 (upd f (vr x) (sgn x)) v:=by
 intro y hy h1
 rw [zoT hx hy] at h1
 split at h1
 · rename_i e;subst e;exact hl
 ·
  split at h1
  · omega
  · exact h y hy h1
def jP (c : List Int) : Prop:=∀ x ∈ c,x ≠ 0
structure Scan (f : Int → Int) (d : List Int) (k : Nat) (left : Int) (holds several : Bool) : Prop where
 zgd : holds = true ↔ ∃ x ∈ d.take k,lv f x = 1
 zca : left ≠ 0 → left ∈ d.take k ∧ lv f left = 0
 zrs : left = 0 → ∀ x ∈ d.take k,lv f x ≠ 0
 fsev : several = true → ∃ x ∈ d.take k,∃ y ∈ d.take k,x ≠ y ∧ lv f x = 0 ∧ lv f y = 0
 fone : several = false → ∀ x ∈ d.take k,lv f x = 0 → x = left
theorem zJ {α : Type} {d : List α} {k : Nat} (h : k < d.length) {x : α} : x ∈ d.take (k + 1) ↔ x ∈ d.take k ∨ x = d[k]:=by
 rw [List.take_succ_eq_append_getElem h,List.mem_append];simp
theorem Scan.zrm {f : Int → Int} {d : List Int} {k : Nat} {left : Int} {holds several : Bool} (s : Scan f d k left holds several) (h : k < d.length) (h1 : lv f d[k] = -1) : Scan f d (k + 1) left holds several:=by
 refine ⟨⟨fun h2 => ?_,fun ⟨x,hx,h2⟩ => ?_⟩,fun h2 => ⟨(zJ h).2 (.inl (s.zca h2).1),(s.zca h2).2⟩,fun h2 x hx => ?_,fun h2 => ?_,fun h2 x hx h3 => ?_⟩
 ·
  obtain ⟨x,hx,h3⟩:=s.zgd.1 h2
  exact ⟨x,(zJ h).2 (.inl hx),h3⟩
 ·
  rcases (zJ h).1 hx with h3 | rfl
  · exact s.zgd.2 ⟨x,h3,h2⟩
  · omega
 ·
  rcases (zJ h).1 hx with h3 | rfl
  · exact s.zrs h2 x h3
  · omega
 ·
  obtain ⟨x,hx,y,hy,r⟩:=s.fsev h2
  exact ⟨x,(zJ h).2 (.inl hx),y,(zJ h).2 (.inl hy),r⟩
 ·
  rcases (zJ h).1 hx with h4 | rfl
  · exact s.fone h2 x h4 h3
  · omega
theorem Scan.step0 {f : Int → Int} {d : List Int} {k : Nat} {left : Int} {holds several : Bool} (s : Scan f d k left holds several) (h : k < d.length) (hz : d[k] ≠ 0) (h1 : lv f d[k] = 0) (b : Bool)
 (hb : b = true ↔ several = true ∨ (left ≠ 0 ∧ left ≠ d[k])) : Scan f d (k + 1) d[k] holds b:=by
 refine ⟨⟨fun h2 => ?_,fun ⟨x,hx,h2⟩ => ?_⟩,fun _ => ⟨(zJ h).2 (.inr rfl),h1⟩,fun h2 => absurd h2 hz,fun h2 => ?_,fun h2 x hx h3 => ?_⟩
 ·
  obtain ⟨x,hx,h3⟩:=s.zgd.1 h2
  exact ⟨x,(zJ h).2 (.inl hx),h3⟩
 ·
  rcases (zJ h).1 hx with h3 | rfl
  · exact s.zgd.2 ⟨x,h3,h2⟩
  · omega
 ·
  rcases hb.1 h2 with h3 | ⟨h3,h4⟩
  ·
   obtain ⟨x,hx,y,hy,r⟩:=s.fsev h3
   exact ⟨x,(zJ h).2 (.inl hx),y,(zJ h).2 (.inl hy),r⟩
  · exact ⟨left,(zJ h).2 (.inl (s.zca h3).1),d[k],(zJ h).2 (.inr rfl),h4,(s.zca h3).2,h1⟩
 ·
  rcases (zJ h).1 hx with h4 | rfl
  ·
   have hs : several = false:=by cases several with
    | true => exact absurd (hb.2 (.inl rfl)) (by simp [h2])
    | false => rfl
   have h5:=s.fone hs x h4 h3
   subst h5
   have h6 : ¬ (x ≠ 0 ∧ x ≠ d[k]):=fun h7 => by have:=hb.2 (.inr h7);rw [h2] at this;cases this
   by_cases e : x = 0
   · exact absurd h3 (s.zrs e x h4)
   ·
    by_cases e2 : x = d[k]
    · exact e2
    · exact absurd ⟨e,e2⟩ h6
  · rfl
def Stuck (f : Int → Int) (d : List Int) : Prop:=(∃ x ∈ d,lv f x = 1) ∨ ∃ x ∈ d,∃ y ∈ d,x ≠ y ∧ lv f x = 0 ∧ lv f y = 0
theorem Scan.unit {f : Int → Int} {d : List Int} {left : Int} (s : Scan f d d.length left false false) (hl : left ≠ 0) (ht : Tri f) : left ∈ d ∧ lv f left = 0 ∧ ∀ x ∈ d,x ≠ left → lv f x = -1:=by
 refine ⟨by simpa using (s.zca hl).1,(s.zca hl).2,fun x hx hne => ?_⟩
 have h1 : lv f x ≠ 0:=fun h => hne (s.fone rfl x (by simpa using hx) h)
 have h2 : lv f x ≠ 1:=fun h => by have:=s.zgd.2 ⟨x,by simpa using hx,h⟩;cases this
 have:=ht.lv x
 omega
def unset (f : Int → Int) : Nat:=((List.range 24).filter fun i : Nat => decide (f ((i : Int) + 1) = 0)).length
theorem filter_lt {α : Type} {p q : α → Bool} {l : List α} (hpq : ∀ x ∈ l,q x = true → p x = true) {y : α} (hy : y ∈ l) (hp : p y = true) (hq : q y = false) : (l.filter q).length < (l.filter p).length:=by
 induction l with
 | nil => cases hy
 | cons z l ih =>
  have hle : (l.filter q).length ≤ (l.filter p).length:=by
   clear ih hy
   induction l with
   | nil => simp
   | cons u l ih =>
    have ih:=ih (fun x hx => hpq x (by rcases List.mem_cons.1 hx with rfl | hx <;> simp_all))
    have hu:=hpq u (by simp)
    simp only [List.filter_cons]
    cases hqu : q u <;> cases hpu : p u <;> simp_all <;> omega
  simp only [List.filter_cons]
  rcases List.mem_cons.1 hy with rfl | hy
  · simp [hp,hq];omega
  ·
   have ih:=ih (fun x hx => hpq x (by simp [hx])) hy
   have hz:=hpq z (by simp)
   cases hqz : q z <;> cases hpz : p z <;> simp_all <;> omega
theorem zoY {f : Int → Int} {x : Int} (hx : 1 ≤ vr x) (hx2 : vr x ≤ 24) (h0 : f (vr x) = 0) : unset (upd f (vr x) (sgn x)) < unset f:=by
 unfold unset
 refine filter_lt (y:=(vr x).toNat - 1) (fun i _ h => ?_) (List.mem_range.2 (by omega)) ?_ ?_
 ·
  simp only [decide_eq_true_eq] at h ⊢
  unfold upd at h
  split at h
  · rename_i e;rw [← e];exact h0
  · exact h
 ·
  simp only [decide_eq_true_eq]
  rw [show (((vr x).toNat - 1 : Nat) : Int) + 1 = vr x from by omega];exact h0
 ·
  rw [show (((vr x).toNat - 1 : Nat) : Int) + 1 = vr x from by omega]
  simp only [upd,if_true,sgn]
  split <;> rfl
theorem Tri.upd {f : Int → Int} (h : Tri f) (x : Int) : Tri (upd f (vr x) (sgn x)):=by
 intro v
 have:=h v
 unfold Proofs.YtmlfelbkgoplhaaGreatDoor.upd sgn
 split <;> (try split) <;> omega
theorem zem {f : Int → Int} {x : Int} : lv f x = 0 ↔ f (vr x) = 0:=by unfold lv;split <;> omega
structure xq (m : Int) (f : Int → Int) (tr : List Int) : Prop where
 tri : Tri f
 iff : ∀ y,y ≠ 0 → (lv f y = 1 ↔ y ∈ tr)
 rng : ∀ x ∈ tr,x ≠ 0 ∧ -m ≤ x ∧ x ≤ m
 nodup : tr.Nodup
theorem xq.neg {m : Int} {f : Int → Int} {tr : List Int} (h : xq m f tr) {y : Int} (hy : y ≠ 0) : lv f y = -1 ↔ -y ∈ tr:=by
 rw [← h.iff (-y) (by omega),za8 hy];omega
theorem zj4 (m : Int) : xq m (fun _ => 0) []:=⟨fun _ => by simp,fun y hy => by simp [lv],by simp,List.nodup_nil⟩
theorem xq.snoc {m : Int} {f : Int → Int} {tr : List Int} (h : xq m f tr) {x : Int} (hx : x ≠ 0) (h1 : -m ≤ x) (h2 : x ≤ m) (h0 : lv f x = 0) : xq m (upd f (vr x) (sgn x)) (tr ++ [x]):=by
 refine ⟨h.tri.upd x,fun y hy => ?_,fun y hy => ?_,?_⟩
 ·
  rw [zoT hx hy,List.mem_append,List.mem_singleton]
  by_cases e : y = x
  · subst e;simp
  ·
   rw [if_neg e]
   by_cases e2 : y = -x
   ·
    rw [if_pos e2]
    subst e2
    have h3 : -x ∉ tr:=fun hm => by
     have:=(h.iff (-x) hy).2 hm
     rw [za8 hx] at this;omega
    simp [h3];omega
   · rw [if_neg e2,h.iff y hy];simp [e]
 ·
  rcases List.mem_append.1 hy with h3 | h3
  · exact h.rng y h3
  · simp at h3;subst h3;exact ⟨hx,h1,h2⟩
 ·
  rw [List.nodup_append]
  refine ⟨h.nodup,by simp,fun a ha b hb => ?_⟩
  simp at hb;subst hb
  intro e;subst e
  have:=(h.iff a hx).2 ha
  omega
def Just (l : List (List Int)) (t : List Int) (x : Int) : Prop:=∃ d ∈ l,x ∈ d ∧ ∀ y ∈ d,y ≠ x → -y ∈ t
def zfw (l : List (List Int)) (t ext : List Int) : Prop:=∀ j (h : j < ext.length),Just l (t ++ ext.take j) ext[j]
theorem znD (l : List (List Int)) (t : List Int) : zfw l t []:=fun j h => absurd h (by simp)
theorem zfw.snoc {l : List (List Int)} {t ext : List Int} {x : Int} (h : zfw l t ext) (hx : Just l (t ++ ext) x) : zfw l t (ext ++ [x]):=by
 intro j hj
 by_cases e : j < ext.length
 ·
  have h1:=h j e
  rw [List.getElem_append_left e]
  rw [List.take_append_of_le_length (by omega)]
  exact h1
 ·
  have e2 : j = ext.length:=by simp at hj;omega
  subst e2
  rw [List.getElem_append_right (znr _)]
  simpa using hx
def zfN (f : Int → Int) (c : List Int) (x : Int) (ok : Bool) : Prop :=
 (ok = false → x = 0 ∧ ∀ y ∈ c,lv f y = -1) ∧ (ok = true → x ≠ 0 → x ∈ c ∧ lv f x = 0 ∧ ∀ y ∈ c,y ≠ x → lv f y = -1) ∧ (ok = true → x = 0 → Stuck f c)
structure zcp (f : Int → Int) (c : List Int) (k : Nat) (left : Int) : Prop where
 zca : left ≠ 0 → left ∈ c ∧ lv f left = 0
 zmu : ∀ y ∈ c.take k,y ≠ left → lv f y = -1
theorem zke (f : Int → Int) (c : List Int) : zcp f c 0 0:=⟨by simp,by simp⟩
theorem zcp.zrm {f : Int → Int} {c : List Int} {k : Nat} {left : Int} (s : zcp f c k left) (h : k < c.length) (h1 : lv f c[k] = -1) : zcp f c (k + 1) left :=
 ⟨s.zca,fun y hy hne => ((zJ h).1 hy).elim (fun h2 => s.zmu y h2 hne) (fun e => by rw [e];exact h1)⟩
theorem zcp.step0 {f : Int → Int} {c : List Int} {k : Nat} {left : Int} (s : zcp f c k left) (h : k < c.length) (hz : jP c) (h1 : lv f c[k] = 0) (hl : left = 0 ∨ left = c[k]) : zcp f c (k + 1) c[k]:=by
 refine ⟨fun _ => ⟨List.getElem_mem h,h1⟩,fun y hy hne => ?_⟩
 rcases (zJ h).1 hy with h2 | e
 ·
  refine s.zmu y h2 (fun e => ?_)
  rcases hl with h3 | h3
  · exact hz y (List.mem_of_mem_take h2) (by rw [e,h3])
  · exact hne (by rw [e,h3])
 · exact absurd e hne
theorem zcp.say {f : Int → Int} {c : List Int} {left : Int} (s : zcp f c c.length left) (hz : jP c) : zfN f c left (left != 0):=by
 refine ⟨fun h => ?_,fun _ h => ⟨(s.zca h).1,(s.zca h).2,fun y hy hne => s.zmu y (by simpa using hy) hne⟩,fun h h0 => ?_⟩
 ·
  have h0 : left = 0:=by simpa using h
  exact ⟨h0,fun y hy => s.zmu y (by simpa using hy) (by rw [h0];exact hz y hy)⟩
 · subst h0;simp at h
theorem zpk {f : Int → Int} {c : List Int} {x : Int} (hx : x ∈ c) (h : lv f x = 1) : zfN f c 0 true :=
 ⟨fun h => (by cases h),fun _ h => absurd rfl h,fun _ _ => .inl ⟨x,hx,h⟩⟩
theorem zqD {f : Int → Int} {c : List Int} {k : Nat} {left : Int} (s : zcp f c k left) {x : Int} (hx : x ∈ c) (h : lv f x = 0) (h1 : left ≠ 0) (h2 : left ≠ x) : zfN f c 0 true :=
 ⟨fun h => (by cases h),fun _ h => absurd rfl h,fun _ _ => .inr ⟨left,(s.zca h1).1,x,hx,h2,(s.zca h1).2,h⟩⟩
theorem zdS : ∀ (n : Nat) (l : List Nat),l.Nodup → (∀ x ∈ l,x < n) → l.length ≤ n
 | 0,l,_,h => by
  cases l with
  | nil => simp
  | cons x l => have:=h x (by simp);omega
 | n + 1,l,hn,h => by
  have h1:=zdS n (l.erase n) (hn.erase n) (fun x hx => by
   have h2:=(hn.mem_erase_iff).1 hx
   have:=h x h2.2
   have:=h2.1
   omega)
  by_cases hm : n ∈ l
  ·
   rw [List.length_erase_of_mem hm] at h1
   omega
  ·
   rw [List.erase_of_not_mem hm] at h1
   omega
theorem xq.len {m : Int} {f : Int → Int} {tr : List Int} (h : xq m f tr) (hm : m ≤ 24) : tr.length ≤ 49:=by
 have h1:=zdS 49 (tr.map fun x => (x + 24).toNat) (by
  have key : ∀ t : List Int,t.Nodup → (∀ x ∈ t,-24 ≤ x ∧ x ≤ 24) → (t.map fun x => (x + 24).toNat).Nodup:=by
   intro t
   induction t with
   | nil => intro _ _;exact List.nodup_nil
   | cons x t ih =>
    intro hn hr
    rw [List.map_cons,List.nodup_cons]
    rw [List.nodup_cons] at hn
    refine ⟨fun hm => ?_,ih hn.2 (fun y hy => hr y (by simp [hy]))⟩
    obtain ⟨y,hy,he⟩:=List.mem_map.1 hm
    have h1:=hr x (by simp)
    have h2:=hr y (by simp [hy])
    have : y = x:=by omega
    subst this
    exact hn.1 hy
  exact key tr h.nodup (fun x hx => by have:=h.rng x hx;omega)) (fun x hx => by
   obtain ⟨y,hy,rfl⟩:=List.mem_map.1 hx
   have:=h.rng y hy
   omega)
 simpa using h1
def Rup (m : Int) (all : List (List Int)) (c : List Int) : Prop :=
 c.any (qp m) = false ∧ ¬ ∃ f,Tri f ∧ (∀ x ∈ c,lv f x = -1) ∧ ∀ d ∈ all,Stuck f d
theorem qL {m x : Int} {c : List Int} (h : c.any (qp m) = false) (hx : x ∈ c) : x ≠ 0 ∧ -m ≤ x ∧ x ≤ m:=by
 have h1 : qp m x = false:=by
  cases h2 : qp m x
  · rfl
  · have:=List.any_eq_true.2 ⟨x,hx,h2⟩;rw [h] at this;cases this
 simp [qp] at h1
 omega
theorem zdk {m : Int} {c : List Int} (h : ∀ x ∈ c,x ≠ 0 ∧ -m ≤ x ∧ x ≤ m) : c.any (qp m) = false:=by
 cases h1 : c.any (qp m)
 · rfl
 ·
  obtain ⟨x,hx,h2⟩:=List.any_eq_true.1 h1
  have:=h x hx
  simp [qp] at h2
  omega
def zkD (v : Nat) : Int → Int:=fun u => if zaH v u then 1 else -1
theorem zjQ (v : Nat) {x : Int} (hx : x ≠ 0) : lv (zkD v) x = if zaH v x then 1 else -1:=by
 unfold lv zkD
 rcases Int.lt_trichotomy x 0 with h | h | h
 ·
  rw [if_pos h,zdN h,zdV hx]
  cases zaH v x <;> rfl
 · exact absurd h hx
 · rw [if_neg (by omega),zcv h]
theorem zmK (v : Nat) : Tri (zkD v):=fun u => by unfold zkD;split <;> omega
theorem Rup.sound {m : Int} {all : List (List Int)} {c : List Int} (h : Rup m all c) (hz : ∀ d ∈ all,jP d) {v : Nat} (hv : zc5 v all = true) : clB v c = true:=by
 cases hc : clB v c
 ·
  refine absurd ⟨zkD v,zmK v,fun x hx => ?_,fun d hd => ?_⟩ h.2
  ·
   have hx0:=(qL h.1 hx).1
   have : zaH v x = false:=by
    cases hl : zaH v x
    · rfl
    · have:=List.any_eq_true.2 ⟨x,hx,hl⟩;unfold clB at hc;rw [hc] at this;cases this
   rw [zjQ v hx0,this];rfl
  ·
   obtain ⟨x,hx,hl⟩:=List.any_eq_true.1 (List.all_eq_true.1 hv d hd)
   exact .inl ⟨x,hx,by rw [zjQ v (hz d hd x hx),hl];rfl⟩
 · rfl
def code (c : List Int) : Nat → Nat
 | 0 => 0
 | m + 1 => code c m + if c.contains (-((m : Int) + 1)) then 2 ^ m else 0
theorem zfL (c : List Int) : ∀ m,code c m < 2 ^ m
 | 0 => by simp [code]
 | m + 1 => by
  have:=zfL c m
  simp only [code,Nat.pow_succ]
  split <;> omega
theorem zl9 {c d : List Int} : ∀ {m : Nat},code c m = code d m → ∀ j,j < m → (-((j : Int) + 1) ∈ c ↔ -((j : Int) + 1) ∈ d)
 | 0,_,j,hj => by omega
 | m + 1,h,j,hj => by
  have h1:=zfL c m
  have h2:=zfL d m
  simp only [code] at h
  have h3 : c.contains (-((m : Int) + 1)) = d.contains (-((m : Int) + 1)) ∧ code c m = code d m:=by
   cases hc : c.contains (-((m : Int) + 1)) <;> cases hd : d.contains (-((m : Int) + 1)) <;> simp only [hc,hd,if_true,Bool.false_eq_true,if_false] at h <;> first | exact ⟨rfl,by omega⟩ | omega
  rcases Nat.lt_or_ge j m with h4 | h4
  · exact zl9 h3.2 j h4
  ·
   have : j = m:=by omega
   subst this
   rw [← List.contains_iff_mem,← List.contains_iff_mem,h3.1]
def jE (tr : List Int) (dl : List Nat) : List Int:=dl.map fun n => tr.getD n 0
structure jT (m : Int) (l ls : List (List Int)) (f : Int → Int) (tr : List Int) (dl : List Nat) : Prop where
 tok : xq m f tr
 dlt : ∀ n ∈ dl,n < tr.length
 zlO : dl.Pairwise (· < ·)
 dec : ∀ n ∈ dl,0 < tr.getD n 0 ∧ ∀ u,1 ≤ u → u < tr.getD n 0 → u ∈ tr.take n ∨ -u ∈ tr.take n
 just : ∀ j,j < tr.length → j ∈ dl ∨ Just (l ++ ls) (tr.take j) (tr.getD j 0)
 learned : ∀ i (h : i < ls.length),Rup m (l ++ ls.take i) ls[i]
 fresh : ∀ c ∈ ls,∃ y ∈ c,-y ∉ jE tr dl
 neg : ∀ c ∈ ls,∀ y ∈ c,y < 0
 codes : (ls.map (code · m.toNat)).Nodup
 start : Rup m l [] → ls = [] ∧ dl = []
 apart : ∀ x ∈ jE tr dl,∀ y ∈ jE tr dl,[-x,-y] ∈ l → x = y
 zeQ : ∀ c ∈ ls,∀ x ∈ c,∀ y ∈ c,[x,y] ∈ l → x = y
theorem zk0 (m : Int) (l : List (List Int)) : jT m l [] (fun _ => 0) [] [] where
 tok:=zj4 m
 dlt:=by simp
 zlO:=List.Pairwise.nil
 dec:=by simp
 just:=by simp
 learned:=fun i h => absurd h (by simp)
 fresh:=by simp
 neg:=by simp
 codes:=List.nodup_nil
 start:=fun _ => ⟨rfl,rfl⟩
 apart:=fun x hx => by simp [jE] at hx
 zeQ:=fun c hc => by cases hc
theorem zcA {tr ext : List Int} {dl : List Nat} (h : ∀ n ∈ dl,n < tr.length) : jE (tr ++ ext) dl = jE tr dl:=by
 unfold jE
 apply List.map_congr_left
 intro n hn
 have:=h n hn
 simp [List.getD,List.getElem?_append_left this]
theorem zaT {tr ext : List Int} {n : Nat} (h : n < tr.length) : (tr ++ ext).getD n 0 = tr.getD n 0:=by simp [List.getD,List.getElem?_append_left h]
theorem jG {tr ext : List Int} {n : Nat} (h : n ≤ tr.length) : (tr ++ ext).take n = tr.take n:=List.take_append_of_le_length h
theorem jT.spread {m : Int} {l ls : List (List Int)} {f g : Int → Int} {tr ext : List Int} {dl : List Nat} (s : jT m l ls f tr dl) (ht : xq m g (tr ++ ext)) (hj : zfw (l ++ ls) tr ext) : jT m l ls g (tr ++ ext) dl where
 tok:=ht
 dlt:=fun n hn => by have:=s.dlt n hn;simp;omega
 zlO:=s.zlO
 dec:=fun n hn => by
  have h1:=s.dlt n hn
  rw [zaT h1,jG (by omega)]
  exact s.dec n hn
 just:=fun j hj2 => by
  rcases Nat.lt_or_ge j tr.length with h | h
  ·
   rw [zaT h,jG (by omega)]
   exact s.just j h
  ·
   refine .inr ?_
   have h1:=hj (j - tr.length) (by simp at hj2;omega)
   have e1 : (tr ++ ext).take j = tr ++ ext.take (j - tr.length):=by rw [List.take_append,List.take_of_length_le h]
   have e2 : (tr ++ ext).getD j 0 = ext[j - tr.length]'(by simp at hj2;omega):=by
    rw [getD_at _ _ hj2,List.getElem_append_right h]
   rw [e1,e2];exact h1
 learned:=s.learned
 fresh:=by rw [zcA s.dlt];exact s.fresh
 neg:=s.neg
 codes:=s.codes
 start:=s.start
 apart:=by rw [zcA s.dlt];exact s.apart
 zeQ:=s.zeQ
theorem jT.forced {m : Int} {l ls : List (List Int)} {f : Int → Int} {tr : List Int} {dl : List Nat} (s : jT m l ls f tr dl) {g : Int → Int} (hd : ∀ x ∈ jE tr dl,lv g x = 1) (hs : ∀ d ∈ l ++ ls,Stuck g d)
 (hz : ∀ d ∈ l ++ ls,jP d) : ∀ j,j < tr.length → lv g (tr.getD j 0) = 1:=by
 intro j
 induction j using Nat.strongRecOn with
 | _ j ih =>
  intro hj
  rcases s.just j hj with h | ⟨d,hdm,hx,hy⟩
  · exact hd _ (List.mem_map.2 ⟨j,h,rfl⟩)
  ·
   have hother : ∀ y ∈ d,y ≠ tr.getD j 0 → lv g y = -1:=by
    intro y hyd hne
    obtain ⟨i,hi,he⟩:=List.getElem_of_mem (hy y hyd hne)
    have hi2 : i < tr.length:=by rw [List.length_take] at hi;omega
    have hij : i < j:=by rw [List.length_take] at hi;omega
    have h1:=ih i hij hi2
    have e : tr.getD i 0 = -y:=by rw [getD_at _ _ hi2,← he];simp
    rw [e,za8 (hz d hdm y hyd)] at h1
    omega
   rcases hs d hdm with ⟨x,hxd,h1⟩ | ⟨x,hxd,y,hyd,hne,h1,h2⟩
   ·
    by_cases e : x = tr.getD j 0
    · rw [← e];exact h1
    · have:=hother x hxd e;omega
   ·
    by_cases e : x = tr.getD j 0
    · have:=hother y hyd (fun e2 => hne (e.trans e2.symm));omega
    · have:=hother x hxd e;omega
theorem jT.rup {m : Int} {l ls : List (List Int)} {f : Int → Int} {tr : List Int} {dl : List Nat} (s : jT m l ls f tr dl) (hz : ∀ d ∈ l ++ ls,jP d) {d : List Int} (hd : d ∈ l ++ ls) (hc : ∀ y ∈ d,lv f y = -1) :
 Rup m (l ++ ls) ((jE tr dl).map fun x => -x):=by
 have hmem : ∀ x ∈ jE tr dl,x ∈ tr:=by
  intro x hx
  obtain ⟨n,hn,rfl⟩:=List.mem_map.1 hx
  have:=s.dlt n hn
  rw [getD_at _ _ this];exact List.getElem_mem _
 refine ⟨zdk (fun x hx => ?_),fun ⟨g,hg,hneg,hst⟩ => ?_⟩
 ·
  obtain ⟨y,hy,rfl⟩:=List.mem_map.1 hx
  have:=s.tok.rng y (hmem y hy)
  omega
 ·
  have hdec : ∀ x ∈ jE tr dl,lv g x = 1:=by
   intro x hx
   have h1:=hneg (-x) (List.mem_map.2 ⟨x,hx,rfl⟩)
   have h0:=(s.tok.rng x (hmem x hx)).1
   rw [za8 h0] at h1
   omega
  have hall:=s.forced hdec hst hz
  have hfalse : ∀ y ∈ d,lv g y = -1:=by
   intro y hy
   have h0:=hz d hd y hy
   have h1:=(s.tok.neg h0).1 (hc y hy)
   obtain ⟨j,hj,he⟩:=List.getElem_of_mem h1
   have h2:=hall j hj
   rw [getD_at _ _ hj,he,za8 h0] at h2
   omega
  rcases hst d hd with ⟨x,hxd,h1⟩ | ⟨x,hxd,y,hyd,hne,h1,h2⟩
  · have:=hfalse x hxd;omega
  · have:=hfalse x hxd;omega
theorem zhG {α : Type} {l : List α} (h : l.Nodup) {i j : Nat} {hi : i < l.length} {hj : j < l.length} (e : l[i] = l[j]) : i = j:=by
 rcases Nat.lt_trichotomy i j with h1 | h1 | h1
 · exact absurd e (List.pairwise_iff_getElem.1 h i j hi hj h1)
 · exact h1
 · exact absurd e.symm (List.pairwise_iff_getElem.1 h j i hj hi h1)
theorem Just.mono {l l' : List (List Int)} {t : List Int} {x : Int} (h : Just l t x) (hs : ∀ d ∈ l,d ∈ l') : Just l' t x:=by
 obtain ⟨d,hd,h1,h2⟩:=h
 exact ⟨d,hs d hd,h1,h2⟩
theorem getD_take {tr : List Int} {n j : Nat} (h : j < n) : (tr.take n).getD j 0 = tr.getD j 0:=by
 simp [List.getD,h]
theorem zhN {tr : List Int} {n : Nat} {dl : List Nat} (h : ∀ k ∈ dl,k < n) : jE (tr.take n) dl = jE tr dl:=by
 unfold jE
 apply List.map_congr_left
 intro k hk
 exact getD_take (h k hk)
theorem jT.back {m : Int} {l ls : List (List Int)} {f g : Int → Int} {tr : List Int} {dl : List Nat} {n : Nat} (s : jT m l ls f tr (dl ++ [n])) (hz : ∀ d ∈ l ++ ls,jP d) {d : List Int} (hd : d ∈ l ++ ls) (hc : ∀ y ∈ d,lv f y = -1)
 (hg : xq m g (tr.take n)) : jT m l (ls ++ [(jE tr (dl ++ [n])).map fun x => -x]) g (tr.take n) dl:=by
 have hn : n < tr.length:=s.dlt n (by simp)
 have hlt : ∀ k ∈ dl,k < n:=fun k hk => (List.pairwise_append.1 s.zlO).2.2 k hk n (by simp)
 have hlen : (tr.take n).length = n:=by rw [List.length_take];omega
 have hrup:=s.rup hz hd hc
 have hsplit : jE tr (dl ++ [n]) = jE tr dl ++ [tr.getD n 0]:=by simp [jE]
 have hlast : tr.getD n 0 ∉ jE tr dl:=by
  intro h
  obtain ⟨k,hk,he⟩:=List.mem_map.1 h
  have h1:=hlt k hk
  rw [getD_at _ _ hn,getD_at _ _ (by omega : k < tr.length)] at he
  have:=zhG s.tok.nodup he
  omega
 refine ⟨hg,fun k hk => by rw [hlen];exact hlt k hk,(List.pairwise_append.1 s.zlO).1,fun k hk => ?_,fun j hj => ?_,fun i hi => ?_,fun c hc2 => ?_,fun c hc2 y hy => ?_,?_,fun hr => ?_,fun x hx y hy hm => ?_,fun c hc2 x hx y hy hm => ?_⟩
 ·
  have h1:=hlt k hk
  have h2:=s.dec k (by simp [hk])
  rw [getD_take h1,List.take_take,Nat.min_eq_left (by omega)]
  exact h2
 ·
  rw [hlen] at hj
  rw [getD_take hj,List.take_take,Nat.min_eq_left (by omega)]
  rcases s.just j (by omega) with h1 | h1
  ·
   rcases List.mem_append.1 h1 with h2 | h2
   · exact .inl h2
   · simp at h2;omega
  · exact .inr (h1.mono (fun d hd => by simp at hd ⊢;rcases hd with h | h <;> simp [h]))
 ·
  rcases Nat.lt_or_ge i ls.length with h1 | h1
  ·
   rw [List.getElem_append_left h1,List.take_append_of_le_length (by omega)]
   exact s.learned i h1
  ·
   have e : i = ls.length:=by simp at hi;omega
   subst e
   rw [List.getElem_append_right (znr _),List.take_left]
   simpa using hrup
 ·
  rw [zhN hlt]
  rcases List.mem_append.1 hc2 with h1 | h1
  ·
   obtain ⟨y,hy,h2⟩:=s.fresh c h1
   exact ⟨y,hy,fun h3 => h2 (by rw [hsplit];simp [h3])⟩
  ·
   simp only [List.mem_singleton] at h1
   subst h1
   exact ⟨-(tr.getD n 0),List.mem_map.2 ⟨_,by rw [hsplit];simp,rfl⟩,by rw [Int.neg_neg];exact hlast⟩
 ·
  rcases List.mem_append.1 hc2 with h1 | h1
  · exact s.neg c h1 y hy
  ·
   simp only [List.mem_singleton] at h1
   subst h1
   obtain ⟨x,hx,rfl⟩:=List.mem_map.1 hy
   obtain ⟨k,hk,rfl⟩:=List.mem_map.1 hx
   have:=(s.dec k hk).1
   omega
 ·
  rw [List.map_append,List.nodup_append]
  refine ⟨s.codes,by simp,fun a ha b hb e => ?_⟩
  simp only [List.map_cons,List.map_nil,List.mem_singleton] at hb
  subst e
  obtain ⟨c,hc2,h1⟩:=List.mem_map.1 ha
  obtain ⟨y,hy,h2⟩:=s.fresh c hc2
  obtain ⟨i,hi,h3⟩:=List.getElem_of_mem hc2
  have h4:=s.learned i hi
  rw [h3] at h4
  have h5:=qL h4.1 hy
  have h6:=s.neg c hc2 y hy
  have h7:=(zl9 (h1.trans hb) ((-y).toNat - 1) (by omega)).1 (by rw [show -((((-y).toNat - 1 : Nat) : Int) + 1) = y by omega];exact hy)
  rw [show -((((-y).toNat - 1 : Nat) : Int) + 1) = y by omega] at h7
  obtain ⟨x,hx,h8⟩:=List.mem_map.1 h7
  exact h2 (by rw [← h8,Int.neg_neg];exact hx)
 ·
  have:=(s.start hr).2
  simp at this
 ·
  rw [zhN hlt] at hx hy
  exact s.apart x (by rw [hsplit];simp [hx]) y (by rw [hsplit];simp [hy]) hm
 ·
  rcases List.mem_append.1 hc2 with h1 | h1
  · exact s.zeQ c h1 x hx y hy hm
  ·
   simp only [List.mem_singleton] at h1
   subst h1
   obtain ⟨x',hx',rfl⟩:=List.mem_map.1 hx
   obtain ⟨y',hy',rfl⟩:=List.mem_map.1 hy
   rw [s.apart x' hx' y' hy' hm]
theorem jT.decide {m : Int} {l ls : List (List Int)} {f : Int → Int} {tr : List Int} {dl : List Nat} (s : jT m l ls f tr dl) (hz : ∀ d ∈ l ++ ls,jP d) (hst : ∀ d ∈ l ++ ls,Stuck f d) {u : Int} (h1 : 1 ≤ u) (h2 : u ≤ m) (h0 : lv f u = 0)
 (hlow : ∀ u',1 ≤ u' → u' < u → lv f u' ≠ 0) : jT m l ls (upd f (vr u) (sgn u)) (tr ++ [u]) (dl ++ [tr.length]):=by
 have hlast : (tr ++ [u]).getD tr.length 0 = u:=by simp [List.getD]
 have hdecs : jE (tr ++ [u]) (dl ++ [tr.length]) = jE tr dl ++ [u]:=by
  have:=zcA (ext:=[u]) s.dlt
  unfold jE at this ⊢
  rw [List.map_append,this]
  simp
 refine ⟨s.tok.snoc (by omega) (by omega) h2 h0,fun n hn => ?_,?_,fun n hn => ?_,fun j hj => ?_,s.learned,fun c hc => ?_,s.neg,s.codes,fun hr => ?_,fun x hx y hy hm => ?_,s.zeQ⟩
 ·
  rcases List.mem_append.1 hn with h | h
  · have:=s.dlt n h;simp;omega
  · simp at h;subst h;simp
 ·
  rw [List.pairwise_append]
  exact ⟨s.zlO,List.pairwise_singleton _ _,fun a ha b hb => by simp at hb;subst hb;exact s.dlt a ha⟩
 ·
  rcases List.mem_append.1 hn with h | h
  ·
   have h3:=s.dlt n h
   rw [zaT h3,jG (by omega)]
   exact s.dec n h
  ·
   simp at h;subst h
   rw [hlast,List.take_left]
   refine ⟨by omega,fun u' hu1 hu2 => ?_⟩
   have h3:=hlow u' hu1 hu2
   have h4:=s.tok.tri.lv u'
   rcases (by omega : lv f u' = 1 ∨ lv f u' = -1) with h5 | h5
   · exact .inl ((s.tok.iff u' (by omega)).1 h5)
   · exact .inr ((s.tok.neg (by omega)).1 h5)
 ·
  rcases Nat.lt_or_ge j tr.length with h | h
  ·
   rw [zaT h,jG (by omega)]
   rcases s.just j h with h3 | h3
   · exact .inl (by simp [h3])
   · exact .inr h3
  ·
   have : j = tr.length:=by simp at hj;omega
   subst this
   exact .inl (by simp)
 ·
  rw [hdecs]
  have key : ¬ ∀ y ∈ c,-y ∈ jE tr dl ++ [u]:=by
   intro hall
   have hcm : c ∈ l ++ ls:=by simp [hc]
   have hval : ∀ y ∈ c,lv f y = -1 ∨ y = -u:=by
    intro y hy
    rcases List.mem_append.1 (hall y hy) with h | h
    ·
     obtain ⟨n,hn,he⟩:=List.mem_map.1 h
     have h3:=s.dlt n hn
     refine .inl ((s.tok.neg (hz c hcm y hy)).2 ?_)
     rw [← he,getD_at _ _ h3];exact List.getElem_mem _
    · simp at h;exact .inr (by omega)
   have hnu : lv f (-u) = 0:=by rw [za8 (by omega)];omega
   rcases hst c hcm with ⟨x,hx,h3⟩ | ⟨x,hx,y,hy,hne,h3,h4⟩
   · rcases hval x hx with h5 | rfl <;> omega
   ·
    rcases hval x hx with h5 | h5
    · omega
    ·
     rcases hval y hy with h6 | h6
     · omega
     · exact hne (h5.trans h6.symm)
  rcases Classical.not_forall.1 key with ⟨y,hy⟩
  exact ⟨y,(Classical.not_imp.1 hy).1,(Classical.not_imp.1 hy).2⟩
 ·
  obtain ⟨rfl,rfl⟩:=s.start hr
  exact absurd ⟨f,s.tok.tri,by simp,by simpa using hst⟩ hr.2
 ·
  rw [hdecs] at hx hy
  have dec1 : ∀ x ∈ jE tr dl,lv f x = 1 ∧ x ≠ 0:=fun x hx => by
   obtain ⟨k,hk,rfl⟩:=List.mem_map.1 hx
   have h3:=s.dlt k hk
   have hmem : tr.getD k 0 ∈ tr:=by rw [getD_at _ _ h3];exact List.getElem_mem _
   have:=(s.dec k hk).1
   exact ⟨(s.tok.iff _ (by omega)).2 hmem,by omega⟩
  have key : ∀ x ∈ jE tr dl,∀ d : List Int,(∀ z,z ∈ d ↔ z = -x ∨ z = -u) → d ∈ l → False:=fun x hx d hd hdl => by
   obtain ⟨g1,g2⟩:=dec1 x hx
   have e1 : lv f (-x) = -1:=by rw [za8 g2,g1]
   have e2 : lv f (-u) = 0:=by rw [za8 (by omega),h0];rfl
   rcases hst d (by simp [hdl]) with ⟨z,hz1,hz2⟩ | ⟨z,hz1,z2,hz3,hne,hz4,hz5⟩
   · rcases (hd z).1 hz1 with rfl | rfl <;> omega
   ·
    rcases (hd z).1 hz1 with rfl | rfl
    · omega
    ·
     rcases (hd z2).1 hz3 with rfl | rfl
     · omega
     · exact hne rfl
  rcases List.mem_append.1 hx with h3 | h3 <;> rcases List.mem_append.1 hy with h4 | h4
  · exact s.apart x h3 y h4 hm
  ·
   rw [List.mem_singleton.1 h4] at hm
   exact (key x h3 _ (fun z => by simp) hm).elim
  ·
   rw [List.mem_singleton.1 h3] at hm
   exact (key y h4 _ (fun z => by simp [or_comm]) hm).elim
  · rw [List.mem_singleton.1 h3,List.mem_singleton.1 h4]
theorem jT.few {m : Int} {l ls : List (List Int)} {f : Int → Int} {tr : List Int} {dl : List Nat} (s : jT m l ls f tr dl) : ls.length ≤ 2 ^ m.toNat:=by
 have:=zdS (2 ^ m.toNat) _ s.codes (fun x hx => by
  obtain ⟨c,_,rfl⟩:=List.mem_map.1 hx
  exact zfL c _)
 simpa using this
def znC (m : Int) (l : List (List Int)) : Prop:=∀ cs : List (List Int),(cs.map (code · m.toNat)).Nodup → (∀ c ∈ cs,∀ x ∈ c,x < 0 ∧ -m ≤ x ∧ ∀ y ∈ c,[x,y] ∈ l → x = y) → cs.length < 2000
theorem jT.fewC {m : Int} {l ls : List (List Int)} {f : Int → Int} {tr : List Int} {dl : List Nat} (s : jT m l ls f tr dl) (h : znC m l) : ls.length < 2000 :=
 h ls s.codes (fun c hc x hx => by
  obtain ⟨i,hi,rfl⟩:=List.getElem_of_mem hc
  exact ⟨s.neg _ hc x hx,(qL (s.learned i hi).1 hx).2.1,s.zeQ _ hc x hx⟩)
theorem jT.sound {m : Int} {l ls : List (List Int)} {f : Int → Int} {tr : List Int} {dl : List Nat} (s : jT m l ls f tr dl) (hz : ∀ d ∈ l ++ ls,jP d) {v : Nat} (hv : zc5 v l = true) : zc5 v (l ++ ls) = true:=by
 have key : ∀ i,i ≤ ls.length → zc5 v (l ++ ls.take i) = true:=by
  intro i
  induction i with
  | zero => intro _;simpa using hv
  | succ i ih =>
   intro hi
   have h1:=ih (by omega)
   have h2 := (s.learned i (by omega)).sound (fun d hd => hz d (by rcases List.mem_append.1 hd with h | h; · simp [h]
                                                                   · simp [List.mem_of_mem_take h])) h1
   rw [List.take_succ_eq_append_getElem (by omega),← List.append_assoc]
   unfold zc5 at h1 ⊢
   rw [List.all_append,h1]
   simpa using h2
 have:=key ls.length (znr _)
 rwa [List.take_length] at this
def zjl (m : Int) (f : Int → Int) (v : Nat) : Prop:=∀ k : Nat,v.testBit k = (decide ((k : Int) < m) && decide (f ((k : Int) + 1) = 1))
theorem zjl.lit {m : Int} {f : Int → Int} {v : Nat} (h : zjl m f v) (ht : Tri f) {x : Int} (hx : x ≠ 0) (h1 : -m ≤ x) (h2 : x ≤ m) (h0 : lv f x ≠ 0) : zaH v x = decide (lv f x = 1):=by
 have ht2:=ht (vr x)
 rcases Int.lt_trichotomy x 0 with h3 | h3 | h3
 ·
  have e : f (-x) ≠ 0:=fun e => h0 (by rw [lv,if_pos h3,zdN h3,e];rfl)
  rw [zdN h3] at ht2
  rw [zaH,if_neg (by omega),decide_eq_true h3,h,show (((-x).toNat - 1 : Nat) : Int) + 1 = -x by omega,lv,if_pos h3,zdN h3,decide_eq_true (by omega)]
  rcases (by omega : f (-x) = 1 ∨ f (-x) = -1) with h4 | h4 <;> simp [h4]
 · exact absurd h3 hx
 ·
  rw [zaH,if_pos h3,h,show ((x.toNat - 1 : Nat) : Int) + 1 = x by omega,lv,if_neg (by omega),zcv h3,decide_eq_true (by omega)]
  simp
theorem jT.holds {m : Int} {l ls : List (List Int)} {f : Int → Int} {tr : List Int} {dl : List Nat} (s : jT m l ls f tr dl) (hr : ∀ d ∈ l,∀ x ∈ d,x ≠ 0 ∧ -m ≤ x ∧ x ≤ m) (hst : ∀ d ∈ l ++ ls,Stuck f d) (hall : ∀ u,1 ≤ u → u ≤ m → lv f u ≠ 0) {v : Nat} (hv : zjl m f v) : zc5 v l = true:=by
 refine List.all_eq_true.2 fun d hd => ?_
 have told : ∀ x ∈ d,lv f x ≠ 0:=by
  intro x hx h0
  obtain ⟨h1,h2,h3⟩:=hr d hd x hx
  rw [zem] at h0
  have h4 : lv f (vr x) = 0:=by
   rw [zem,show vr (vr x) = vr x by unfold vr;omega];exact h0
  exact hall (vr x) (by unfold vr;omega) (by unfold vr;omega) h4
 rcases hst d (by simp [hd]) with ⟨x,hx,h1⟩ | ⟨x,hx,_,_,_,h1,_⟩
 ·
  obtain ⟨h2,h3,h4⟩:=hr d hd x hx
  exact List.any_eq_true.2 ⟨x,hx,by rw [hv.lit s.tok.tri h2 h3 h4 (told x hx),h1];rfl⟩
 · exact absurd h1 (told x hx)
theorem jT.zq5 {m : Int} {l ls : List (List Int)} {f : Int → Int} {tr : List Int} {dl : List Nat} (s : jT m l ls f tr dl) (hz : ∀ d ∈ l ++ ls,jP d) (hall : ∀ u,1 ≤ u → u ≤ m → lv f u ≠ 0) {v : Nat} (hv : zjl m f v) {v' : Nat} (hv' : zc5 v' l = true)
 {k : Nat} (hk : (k : Int) < m) (hsame : ∀ i,i < k → v'.testBit i = v.testBit i) (h1 : v'.testBit k = true) (h0 : v.testBit k = false) : False:=by
 have hall':=s.sound hz hv'
 have hfk : lv f ((k : Int) + 1) = -1:=by
  have h2:=hall ((k : Int) + 1) (by omega) (by omega)
  have h3:=s.tok.tri.lv ((k : Int) + 1)
  rw [hv k,decide_eq_true hk] at h0
  have h4 : f ((k : Int) + 1) ≠ 1:=by simpa using h0
  have e : lv f ((k : Int) + 1) = f ((k : Int) + 1):=by rw [lv,if_neg (by omega),zcv (by omega)]
  omega
 have hin:=(s.tok.neg (by omega : ((k : Int) + 1) ≠ 0)).1 hfk
 obtain ⟨j,hj,hej⟩:=List.getElem_of_mem hin
 have key : ∀ i,i ≤ j → zaH v' (tr.getD i 0) = true:=by
  intro i
  induction i using Nat.strongRecOn with
  | _ i ih =>
   intro hij
   have hi : i < tr.length:=by omega
   rcases s.just i hi with h | ⟨d,hdm,hx,hy⟩
   ·
    obtain ⟨hpos,hlow⟩:=s.dec i h
    have hmem : tr.getD i 0 ∈ tr:=by rw [getD_at _ _ hi];exact List.getElem_mem _
    have hrng:=s.tok.rng _ hmem
    have hlt : tr.getD i 0 < (k : Int) + 1:=by
     rcases Int.lt_trichotomy (tr.getD i 0) ((k : Int) + 1) with h2 | h2 | h2
     · exact h2
     ·
      have h3:=(s.tok.iff _ (by omega)).2 hmem
      rw [h2] at h3;omega
     ·
      exfalso
      rcases hlow ((k : Int) + 1) (by omega) h2 with h3 | h3
      ·
       have h4:=(s.tok.iff _ (by omega)).2 (List.mem_of_mem_take h3)
       omega
      ·
       obtain ⟨q,hq,heq⟩:=List.getElem_of_mem h3
       rw [List.length_take] at hq
       rw [List.getElem_take] at heq
       have:=zhG s.tok.nodup (heq.trans hej.symm)
       omega
    have h4:=(s.tok.iff _ (by omega)).2 hmem
    have h5 : zaH v (tr.getD i 0) = true:=by rw [hv.lit s.tok.tri (by omega) (by omega) (by omega) (by omega),h4];rfl
    rw [zaH,if_pos hpos] at h5 ⊢
    rw [hsame _ (by omega)];exact h5
   ·
    have h2:=List.all_eq_true.1 hall' d hdm
    obtain ⟨y,hyd,h3⟩:=List.any_eq_true.1 h2
    by_cases e : y = tr.getD i 0
    · rw [← e];exact h3
    ·
     obtain ⟨q,hq,heq⟩:=List.getElem_of_mem (hy y hyd e)
     rw [List.length_take] at hq
     rw [List.getElem_take] at heq
     have h4:=ih q (by omega) (by omega)
     rw [getD_at _ _ (by omega : q < tr.length),heq,zdV (hz d hdm y hyd),h3] at h4
     cases h4
 have h2:=key j (znr _)
 rw [getD_at _ _ hj,hej,zdV (by omega),zaH,if_pos (by omega),show ((k : Int) + 1).toNat - 1 = k by omega,h1] at h2
 cases h2
def zd8 : List Nat → Nat
 | [] => 1
 | a :: l => a * zd8 l
theorem zko : ∀ k : Nat,(k + 1) * (3 * 2 ^ k) ≤ 4 * 3 ^ k
 | 0 => by decide
 | 1 => by decide
 | k + 2 => by
  have ih:=zko (k + 1)
  have e1 : (2 : Nat) ^ (k + 2) = 2 * 2 ^ (k + 1):=by rw [Nat.pow_succ,Nat.mul_comm]
  have e2 : (3 : Nat) ^ (k + 2) = 3 * 3 ^ (k + 1):=by rw [Nat.pow_succ,Nat.mul_comm]
  rw [e1,e2]
  generalize (2 : Nat) ^ (k + 1) = a at ih
  generalize (3 : Nat) ^ (k + 1) = b at ih
  have h1 : (k + 2 + 1) * (3 * (2 * a)) = (2 * (k + 3)) * (3 * a):=by
   rw [show 3 * (2 * a) = 2 * (3 * a) by omega,← Nat.mul_assoc,Nat.mul_comm (k + 2 + 1) 2]
  have h2 : (2 * (k + 3)) * (3 * a) ≤ (3 * (k + 1 + 1)) * (3 * a):=Nat.mul_le_mul_right _ (by omega)
  have h3 : (3 * (k + 1 + 1)) * (3 * a) = 3 * ((k + 1 + 1) * (3 * a)):=Nat.mul_assoc ..
  omega
theorem zkk : ∀ ks : List Nat,zd8 (ks.map (· + 1)) * (3 ^ ks.length * 2 ^ ks.sum) ≤ 4 ^ ks.length * 3 ^ ks.sum
 | [] => by simp [zd8]
 | k :: ks => by
  have ih:=zkk ks
  have h:=zko k
  have:=Nat.mul_le_mul h ih
  simp only [List.map_cons,zd8,List.length_cons,List.sum_cons,Nat.pow_succ,Nat.pow_add]
  calc (k + 1) * zd8 (ks.map (· + 1)) * (3 ^ ks.length * 3 * (2 ^ k * 2 ^ ks.sum))
   = ((k + 1) * (3 * 2 ^ k)) * (zd8 (ks.map (· + 1)) * (3 ^ ks.length * 2 ^ ks.sum)):=by ac_rfl
   _ ≤ (4 * 3 ^ k) * (4 ^ ks.length * 3 ^ ks.sum):=this
   _ = 4 ^ ks.length * 4 * (3 ^ k * 3 ^ ks.sum):=by ac_rfl
theorem zkX : ∀ L < 9,∀ S < 13,¬ 1297 * (3 ^ L * 2 ^ S) ≤ 4 ^ L * 3 ^ S:=by decide
theorem zrc {ks : List Nat} (h1 : ks.length ≤ 8) (h2 : ks.sum ≤ 12) : zd8 (ks.map (· + 1)) ≤ 1296:=by
 rcases Nat.lt_or_ge 1296 (zd8 (ks.map (· + 1))) with h | h
 · exact absurd (Nat.le_trans (Nat.mul_le_mul_right _ h) (zkk ks)) (zkX _ (by omega) _ (by omega))
 · exact h
def zn5 : List (List Nat) → List (List (Option Nat))
 | [] => [[]]
 | g :: gs => (zn5 gs).flatMap fun v => (none :: g.map some).map (· :: v)
theorem zfs {α β : Type} (f : α → List β) (k : Nat) (h : ∀ x,(f x).length = k) : ∀ l : List α,(l.flatMap f).length = k * l.length
 | [] => by simp
 | x :: l => by rw [List.flatMap_cons,List.length_append,h,zfs f k h l,List.length_cons,Nat.mul_succ];omega
theorem zjo : ∀ gs : List (List Nat),(zn5 gs).length = zd8 ((gs.map List.length).map (· + 1))
 | [] => rfl
 | g :: gs => by
  unfold zn5
  rw [zfs _ (g.length + 1) (fun x => by simp),zjo gs]
  rfl
def zc6 (c : List Int) (j : Nat) : Bool:=decide (-((j : Int) + 1) ∈ c)
def zcL (c : List Int) (g : List Nat) : Option Nat:=g.find? (zc6 c)
theorem zdy (c : List Int) (g : List Nat) : zcL c g = none ∨ ∃ j ∈ g,zc6 c j = true ∧ zcL c g = some j:=by
 unfold zcL
 cases h : g.find? (zc6 c) with
 | none => exact .inl rfl
 | some j => exact .inr ⟨j,List.mem_of_find?_eq_some h,List.find?_some h,rfl⟩
theorem zkI (c : List Int) : ∀ gs : List (List Nat),gs.map (zcL c) ∈ zn5 gs
 | [] => List.mem_singleton.2 rfl
 | g :: gs => by
  unfold zn5
  refine List.mem_flatMap.2 ⟨_,zkI c gs,List.mem_map.2 ⟨zcL c g,?_,rfl⟩⟩
  rcases zdy c g with h | ⟨j,hj,_,h⟩
  · rw [h];exact List.mem_cons_self ..
  · rw [h];exact List.mem_cons_of_mem _ (List.mem_map.2 ⟨j,hj,rfl⟩)
theorem zg7 {c d : List Int} : ∀ {m : Nat},(∀ j,j < m → zc6 c j = zc6 d j) → code c m = code d m
 | 0,_ => rfl
 | m + 1,h => by
  have ih:=zg7 (m:=m) (fun j hj => h j (by omega))
  have h1:=h m (by omega)
  have e : c.contains (-((m : Int) + 1)) = d.contains (-((m : Int) + 1)):=by
   unfold zc6 at h1
   rw [Bool.eq_iff_iff,List.contains_iff_mem,List.contains_iff_mem]
   simpa using h1
  simp only [code,ih,e]
def zcF (x : ByteArray) (l : List ByteArray) : Bool:=l.any fun y => decide (y = x)
theorem zgU {x : ByteArray} {l : List ByteArray} : zcF x l = true ↔ x ∈ l:=by
 unfold zcF
 rw [List.any_eq_true]
 exact ⟨fun ⟨y, hy, e⟩ => by have : y = x := by simpa using e
                             rw [← this];exact hy,fun h => ⟨x,h,by simp⟩⟩
theorem ze1 (x y : ByteArray) (l : List ByteArray) : zcF x (y :: l) = (decide (y = x) || zcF x l):=rfl
def zfl : List ByteArray → List ByteArray
 | [] => []
 | x :: l => if zcF x (zfl l) = true then zfl l else x :: zfl l
theorem zch {x : ByteArray} : ∀ {l : List ByteArray},x ∈ zfl l ↔ x ∈ l
 | [] => Iff.rfl
 | y :: l => by
  rw [zfl]
  split
  ·
   rename_i h
   rw [zch,List.mem_cons]
   exact ⟨.inr,fun q => q.elim (fun e => by rw [e];exact zch.1 (zgU.1 h)) id⟩
  · rw [List.mem_cons,List.mem_cons,zch]
theorem zbR : ∀ l : List ByteArray,(zfl l).Nodup
 | [] => List.nodup_nil
 | y :: l => by
  rw [zfl]
  split
  · exact zbR l
  ·
   rename_i h
   exact List.nodup_cons.2 ⟨fun q => h (zgU.2 q),zbR l⟩
def jq (f : Nat → ByteArray) (n : Nat) (nm : ByteArray) : List Nat:=(List.range n).filter fun j => decide (f j = nm)
theorem zh5 (f : Nat → ByteArray) (n : Nat) : ∀ ns : List ByteArray,ns.Nodup → ((ns.map (jq f n)).map List.length).sum ≤ ((List.range n).filter fun j => zcF (f j) ns).length
 | [],_ => by simp
 | nm :: ns,h => by
  rw [List.nodup_cons] at h
  have ih:=zh5 f n ns h.2
  rw [List.map_cons,List.map_cons,List.sum_cons]
  have key : ∀ l : List Nat,(l.filter fun j => decide (f j = nm)).length + (l.filter fun j => zcF (f j) ns).length ≤ (l.filter fun j => zcF (f j) (nm :: ns)).length:=by
   intro l
   induction l with
   | nil => simp
   | cons j l ihl =>
    by_cases h1 : f j = nm
    ·
     have h2 : ¬ zcF (f j) ns = true:=by rw [zgU,h1];exact h.1
     rw [List.filter_cons_of_pos (by simp [h1]),List.filter_cons_of_neg (p:=fun j => zcF (f j) ns) h2,List.filter_cons_of_pos (p:=fun j => zcF (f j) (nm :: ns)) (by rw [ze1,h1];simp)]
     simp only [List.length_cons];omega
    ·
     have h1' : ¬ nm = f j:=fun e => h1 e.symm
     by_cases h2 : zcF (f j) ns = true
     ·
      rw [List.filter_cons_of_neg (by simp [h1]),List.filter_cons_of_pos (p:=fun j => zcF (f j) ns) h2,List.filter_cons_of_pos (p:=fun j => zcF (f j) (nm :: ns)) (by rw [ze1,h2];simp)]
      simp only [List.length_cons];omega
     ·
      rw [List.filter_cons_of_neg (by simp [h1]),List.filter_cons_of_neg (p:=fun j => zcF (f j) ns) h2,List.filter_cons_of_neg (p:=fun j => zcF (f j) (nm :: ns)) (by rw [ze1];simp [h1',h2])]
      exact ihl
  have:=key (List.range n)
  unfold jq at ih ⊢
  omega
theorem zpF {f : Nat → ByteArray} {n : Nat} {ns : List ByteArray} (h1 : ns.Nodup) (h2 : ns.length ≤ 8) (h3 : n ≤ 12) (hin : ∀ j,j < n → f j ∈ ns) {cs : List (List Int)} (hc : (cs.map (code · n)).Nodup)
 (hi : ∀ c ∈ cs,∀ i k,i < n → k < n → zc6 c i = true → zc6 c k = true → f i = f k → i = k) : cs.length ≤ 1296:=by
 have gs_len : ((ns.map (jq f n)).map List.length).sum ≤ 12:=by
  have:=zh5 f n ns h1
  have h4:=List.length_filter_le (fun j => zcF (f j) ns) (List.range n)
  rw [List.length_range] at h4
  omega
 have hnd : (cs.map fun c => (ns.map (jq f n)).map (zcL c)).Nodup:=by
  rw [List.Nodup,List.pairwise_map] at hc ⊢
  refine (List.pairwise_iff_forall_sublist.2 fun {c d} hs e => ?_)
  have hne:=List.pairwise_iff_forall_sublist.1 hc hs
  have hcm : c ∈ cs:=hs.subset (by simp)
  have hdm : d ∈ cs:=hs.subset (by simp)
  have half : ∀ {c d : List Int},c ∈ cs → d ∈ cs → ((ns.map (jq f n)).map (zcL c) = (ns.map (jq f n)).map (zcL d)) → ∀ j,j < n → zc6 c j = true → zc6 d j = true:=fun {c d} hc hd e j hj hm => by
   have hg : j ∈ jq f n (f j):=List.mem_filter.2 ⟨List.mem_range.2 hj,by simp⟩
   have hgm : jq f n (f j) ∈ ns.map (jq f n):=List.mem_map.2 ⟨_,hin j hj,rfl⟩
   have e2 : zcL c (jq f n (f j)) = zcL d (jq f n (f j)):=List.map_inj_left.1 e _ hgm
   have e3 : zcL c (jq f n (f j)) = some j:=by
    rcases zdy c (jq f n (f j)) with h | ⟨k,hk,hmk,h⟩
    ·
     have:=List.find?_eq_none.1 h j hg
     exact absurd hm this
    ·
     have hk2:=List.mem_filter.1 hk
     have : k = j:=hi c hc k j (List.mem_range.1 hk2.1) hj hmk hm (by simpa using hk2.2)
     rw [h,this]
   rw [e2] at e3
   rcases zdy d (jq f n (f j)) with h | ⟨k,hk,hmk,h⟩
   · rw [h] at e3;cases e3
   · rw [h] at e3;cases e3;exact hmk
  refine hne (zg7 fun j hj => ?_)
  cases h5 : zc6 c j <;> cases h6 : zc6 d j
  · rfl
  · rw [half hdm hcm e.symm j hj h6] at h5;cases h5
  · rw [half hcm hdm e j hj h5] at h6;cases h6
  · rfl
 have:=zbr hnd (m:=zn5 (ns.map (jq f n))) (fun v hv => by
  obtain ⟨c,_,rfl⟩:=List.mem_map.1 hv
  exact zkI c _)
 rw [List.length_map,zjo] at this
 exact Nat.le_trans this (zrc (by simpa using h2) gs_len)
theorem zqT {n : Nat} {items : List zA} {i k : Nat} (hik : i < k) (hk : k < n) (he : (xK items i).1 = (xK items k).1) : (-1,[-(i : Int) - 1,-(k : Int) - 1]) ∈ jN n items:=by
 unfold jN
 refine List.mem_flatMap.2 ⟨k,List.mem_range.2 hk,?_⟩
 unfold zaO
 exact List.mem_map.2 ⟨i,List.mem_filter.2 ⟨List.mem_range.2 hik,by simp [he]⟩,rfl⟩
theorem zlF {ls : List zi} {items : List zA} (ho : zda ls items) (h12 : items.length ≤ 12) (some : List Bool) : znC items.length (xS (zH ls items) some):=fun cs hc hcs => by
 have hex : ∀ i k,i < k → k < items.length → (xK items i).1 = (xK items k).1 → [-(i : Int) - 1,-(k : Int) - 1] ∈ xS (zH ls items) some:=fun i k h1 h2 h3 => by
  unfold xS
  exact List.mem_map.2 ⟨_,List.mem_filter.2 ⟨List.mem_append_left _ (zqT h1 h2 h3),rfl⟩,rfl⟩
 have hno : ∀ c ∈ cs,∀ i k,i < k → k < items.length → zc6 c i = true → zc6 c k = true → (xK items i).1 = (xK items k).1 → False:=fun c hcm i k h1 h2 h3 h4 h5 => by
  have e1 : -((i : Int) + 1) ∈ c:=by simpa [zc6] using h3
  have e2 : -((k : Int) + 1) ∈ c:=by simpa [zc6] using h4
  have hm:=hex i k h1 h2 h5
  rw [show -(i : Int) - 1 = -((i : Int) + 1) by omega,show -(k : Int) - 1 = -((k : Int) + 1) by omega] at hm
  have:=(hcs c hcm _ e1).2.2 _ e2 hm
  omega
 have hlen:=zpF (f:=fun j => (xK items j).1) (n:=items.length) (ns:=zfl (items.map (·.1))) (zbR _) (ho.names _ (zbR _) (fun nm hnm => by
  obtain ⟨it,hit,rfl⟩:=List.mem_map.1 (zch.1 hnm)
  have h1:=ho.perm.mem_iff.1 hit
  unfold zO at h1
  obtain ⟨x,hx,rfl⟩:=List.mem_map.1 h1
  obtain ⟨h2,h3⟩:=List.mem_filter.1 hx
  exact ⟨x,h2,by simpa using h3,rfl⟩)) h12 (fun j hj => zch.2 (List.mem_map.2 ⟨xK items j,by rw [zbW hj];exact List.getElem_mem hj,rfl⟩)) (by simpa using hc) (fun c hcm i k hi hk h1 h2 h3 => by
  rcases Nat.lt_trichotomy i k with h | h | h
  · exact (hno c hcm i k h hk h1 h2 h3).elim
  · exact h
  · exact (hno c hcm k i h hi h2 h1 h3.symm).elim)
 omega
