import Derived.Test.YtmlfelbkgoplhaaGreatDoorZfPkM
set_option linter.unusedVariables false
namespace Go.Proofs.YtmlfelbkgoplhaaGreatDoor
def vr (x : Int) : Int:=max x (-x)
theorem zc6 {x : Int} (h : x < 0) : vr x = -x:=by unfold vr;omega
theorem zbT {x : Int} (h : 0 < x) : vr x = x:=by unfold vr;omega
def upd (f : Int → Int) (k v : Int) : Int → Int:=fun x => if k = x then v else f x
def lv (f : Int → Int) (x : Int) : Int:=if x < 0 then - f (vr x) else f (vr x)
def Tri (f : Int → Int) : Prop:=∀ v,-1 ≤ f v ∧ f v ≤ 1
theorem Tri.lv {f : Int → Int} (h : Tri f) (x : Int) : -1 ≤ lv f x ∧ lv f x ≤ 1:=by
 have:=h (vr x);unfold Proofs.YtmlfelbkgoplhaaGreatDoor.lv;split <;> omega
def sgn (x : Int) : Int:=if x < 0 then -1 else 1
theorem znD {f : Int → Int} {x y : Int} (hx : x ≠ 0) (hy : y ≠ 0) : lv (upd f (vr x) (sgn x)) y = if y = x then 1 else if y = -x then -1 else lv f y:=by
 unfold lv upd sgn vr
 split <;> split <;> split <;> (try split) <;> (try split) <;> omega
theorem zdd {v : Nat} {x : Int} (hx : x ≠ 0) : ku v (-x) = !ku v x:=by
 unfold ku
 rcases Int.lt_trichotomy x 0 with h | h | h
 ·
  rw [if_pos (by omega),if_neg (by omega),decide_eq_true h]
  simp
 · exact absurd h hx
 ·
  rw [if_neg (by omega),if_pos h,decide_eq_true (by omega)]
  simp
def zfm (f : Int → Int) (v : Nat) : Prop:=∀ x,x ≠ 0 → lv f x = 1 → ku v x = true
theorem zaP {f : Int → Int} {x : Int} (hx : x ≠ 0) : lv f (-x) = - lv f x:=by
 unfold lv vr
 have : max (-x) (- -x) = max x (-x):=by omega
 rw [this]
 split <;> split <;> omega
theorem zfm.false {f : Int → Int} {v : Nat} (h : zfm f v) {x : Int} (hx : x ≠ 0) (hl : lv f x = -1) : ku v x = false:=by
 have h1:=h (-x) (by omega) (by rw [zaP hx];omega)
 rw [zdd hx] at h1
 simpa using h1
theorem zfm.upd {f : Int → Int} {v : Nat} (h : zfm f v) {x : Int} (hx : x ≠ 0) (hl : ku v x = true) : zfm (upd f (vr x) (sgn x)) v:=by
 intro y hy h1
 rw [znD hx hy] at h1
 split at h1
 · rename_i e;subst e;exact hl
 ·
  split at h1
  · omega
  · exact h y hy h1
def qY (c : List Int) : Prop:=∀ x ∈ c,x ≠ 0
structure Scan (f : Int → Int) (d : List Int) (k : Nat) (left : Int) (holds several : Bool) : Prop where
 zfs : holds = true ↔ ∃ x ∈ d.take k,lv f x = 1
 zbA : left ≠ 0 → left ∈ d.take k ∧ lv f left = 0
 zqu : left = 0 → ∀ x ∈ d.take k,lv f x ≠ 0
 fsev : several = true → ∃ x ∈ d.take k,∃ y ∈ d.take k,x ≠ y ∧ lv f x = 0 ∧ lv f y = 0
 fone : several = false → ∀ x ∈ d.take k,lv f x = 0 → x = left
theorem zI {α : Type} {d : List α} {k : Nat} (h : k < d.length) {x : α} : x ∈ d.take (k + 1) ↔ x ∈ d.take k ∨ x = d[k]:=by
 rw [List.take_succ_eq_append_getElem h,List.mem_append];simp
theorem Scan.zqf {f : Int → Int} {d : List Int} {k : Nat} {left : Int} {holds several : Bool} (s : Scan f d k left holds several) (h : k < d.length) (h1 : lv f d[k] = -1) : Scan f d (k + 1) left holds several:=by
 refine ⟨⟨fun h2 => ?_,fun ⟨x,hx,h2⟩ => ?_⟩,fun h2 => ⟨(zI h).2 (.inl (s.zbA h2).1),(s.zbA h2).2⟩,fun h2 x hx => ?_,fun h2 => ?_,fun h2 x hx h3 => ?_⟩
 ·
  obtain ⟨x,hx,h3⟩:=s.zfs.1 h2
  exact ⟨x,(zI h).2 (.inl hx),h3⟩
 ·
  rcases (zI h).1 hx with h3 | rfl
  · exact s.zfs.2 ⟨x,h3,h2⟩
  · omega
 ·
  rcases (zI h).1 hx with h3 | rfl
  · exact s.zqu h2 x h3
  · omega
 ·
  obtain ⟨x,hx,y,hy,r⟩:=s.fsev h2
  exact ⟨x,(zI h).2 (.inl hx),y,(zI h).2 (.inl hy),r⟩
 ·
  rcases (zI h).1 hx with h4 | rfl
  · exact s.fone h2 x h4 h3
  · omega
theorem Scan.step0 {f : Int → Int} {d : List Int} {k : Nat} {left : Int} {holds several : Bool} (s : Scan f d k left holds several) (h : k < d.length) (hz : d[k] ≠ 0) (h1 : lv f d[k] = 0) (b : Bool)
 (hb : b = true ↔ several = true ∨ (left ≠ 0 ∧ left ≠ d[k])) : Scan f d (k + 1) d[k] holds b:=by
 refine ⟨⟨fun h2 => ?_,fun ⟨x,hx,h2⟩ => ?_⟩,fun _ => ⟨(zI h).2 (.inr rfl),h1⟩,fun h2 => absurd h2 hz,fun h2 => ?_,fun h2 x hx h3 => ?_⟩
 ·
  obtain ⟨x,hx,h3⟩:=s.zfs.1 h2
  exact ⟨x,(zI h).2 (.inl hx),h3⟩
 ·
  rcases (zI h).1 hx with h3 | rfl
  · exact s.zfs.2 ⟨x,h3,h2⟩
  · omega
 ·
  rcases hb.1 h2 with h3 | ⟨h3,h4⟩
  ·
   obtain ⟨x,hx,y,hy,r⟩:=s.fsev h3
   exact ⟨x,(zI h).2 (.inl hx),y,(zI h).2 (.inl hy),r⟩
  · exact ⟨left,(zI h).2 (.inl (s.zbA h3).1),d[k],(zI h).2 (.inr rfl),h4,(s.zbA h3).2,h1⟩
 ·
  rcases (zI h).1 hx with h4 | rfl
  ·
   have hs : several = false:=by cases several with
    | true => exact absurd (hb.2 (.inl rfl)) (by simp [h2])
    | false => rfl
   have h5:=s.fone hs x h4 h3
   subst h5
   have h6 : ¬ (x ≠ 0 ∧ x ≠ d[k]):=fun h7 => by have:=hb.2 (.inr h7);rw [h2] at this;cases this
   by_cases e : x = 0
   · exact absurd h3 (s.zqu e x h4)
   ·
    by_cases e2 : x = d[k]
    · exact e2
    · exact absurd ⟨e,e2⟩ h6
  · rfl
def Stuck (f : Int → Int) (d : List Int) : Prop:=(∃ x ∈ d,lv f x = 1) ∨ ∃ x ∈ d,∃ y ∈ d,x ≠ y ∧ lv f x = 0 ∧ lv f y = 0
theorem Scan.unit {f : Int → Int} {d : List Int} {left : Int} (s : Scan f d d.length left false false) (hl : left ≠ 0) (ht : Tri f) : left ∈ d ∧ lv f left = 0 ∧ ∀ x ∈ d,x ≠ left → lv f x = -1:=by
 refine ⟨by simpa using (s.zbA hl).1,(s.zbA hl).2,fun x hx hne => ?_⟩
 have h1 : lv f x ≠ 0:=fun h => hne (s.fone rfl x (by simpa using hx) h)
 have h2 : lv f x ≠ 1:=fun h => by have:=s.zfs.2 ⟨x,by simpa using hx,h⟩;cases this
 have:=ht.lv x
 omega
def unset (f : Int → Int) : Nat:=((List.range 24).filter fun i : Nat => decide (f ((i : Int) + 1) = 0)).length
theorem filter_lt {α : Type} {p q : α → Bool} {l : List α} (hpq : ∀ x ∈ l,q x = true → p x = true) {y : α} (hy : y ∈ l) (hp : p y = true) (hq : q y = false) : (l.filter q).length < (l.filter p).length:=by
 induction l with
 | nil => cases hy
 | cons z l ih =>
  have hle : (l.filter q).length ≤ (l.filter p).length:=by
   clear ih hy
   induction l with
   | nil => simp
   | cons u l ih =>
    have ih:=ih (fun x hx => hpq x (by rcases List.mem_cons.1 hx with rfl | hx <;> simp_all))
    have hu:=hpq u (by simp)
    simp only [List.filter_cons]
    cases hqu : q u <;> cases hpu : p u <;> simp_all <;> omega
  simp only [List.filter_cons]
  rcases List.mem_cons.1 hy with rfl | hy
  · simp [hp,hq];omega
  ·
   have ih:=ih (fun x hx => hpq x (by simp [hx])) hy
   have hz:=hpq z (by simp)
   cases hqz : q z <;> cases hpz : p z <;> simp_all <;> omega
theorem znJ {f : Int → Int} {x : Int} (hx : 1 ≤ vr x) (hx2 : vr x ≤ 24) (h0 : f (vr x) = 0) : unset (upd f (vr x) (sgn x)) < unset f:=by
 unfold unset
 refine filter_lt (y:=(vr x).toNat - 1) (fun i _ h => ?_) (List.mem_range.2 (by omega)) ?_ ?_
 ·
  simp only [decide_eq_true_eq] at h ⊢
  unfold upd at h
  split at h
  · rename_i e;rw [← e];exact h0
  · exact h
 ·
  simp only [decide_eq_true_eq]
  rw [show (((vr x).toNat - 1 : Nat) : Int) + 1 = vr x from by omega];exact h0
 ·
  rw [show (((vr x).toNat - 1 : Nat) : Int) + 1 = vr x from by omega]
  simp only [upd,if_true,sgn]
  split <;> rfl
theorem Tri.upd {f : Int → Int} (h : Tri f) (x : Int) : Tri (upd f (vr x) (sgn x)):=by
 intro v
 have:=h v
 unfold Proofs.YtmlfelbkgoplhaaGreatDoor.upd sgn
 split <;> (try split) <;> omega
theorem zdG {f : Int → Int} {x : Int} : lv f x = 0 ↔ f (vr x) = 0:=by unfold lv;split <;> omega
structure yY (m : Int) (f : Int → Int) (tr : List Int) : Prop where
 tri : Tri f
 iff : ∀ y,y ≠ 0 → (lv f y = 1 ↔ y ∈ tr)
 rng : ∀ x ∈ tr,x ≠ 0 ∧ -m ≤ x ∧ x ≤ m
 nodup : tr.Nodup
theorem yY.neg {m : Int} {f : Int → Int} {tr : List Int} (h : yY m f tr) {y : Int} (hy : y ≠ 0) : lv f y = -1 ↔ -y ∈ tr:=by
 rw [← h.iff (-y) (by omega),zaP hy];omega
theorem ziS (m : Int) : yY m (fun _ => 0) []:=⟨fun _ => by simp,fun y hy => by simp [lv],by simp,List.nodup_nil⟩
theorem yY.snoc {m : Int} {f : Int → Int} {tr : List Int} (h : yY m f tr) {x : Int} (hx : x ≠ 0) (h1 : -m ≤ x) (h2 : x ≤ m) (h0 : lv f x = 0) : yY m (upd f (vr x) (sgn x)) (tr ++ [x]):=by
 refine ⟨h.tri.upd x,fun y hy => ?_,fun y hy => ?_,?_⟩
 ·
  rw [znD hx hy,List.mem_append,List.mem_singleton]
  by_cases e : y = x
  · subst e;simp
  ·
   rw [if_neg e]
   by_cases e2 : y = -x
   ·
    rw [if_pos e2]
    subst e2
    have h3 : -x ∉ tr:=fun hm => by
     have:=(h.iff (-x) hy).2 hm
     rw [zaP hx] at this;omega
    simp [h3];omega
   · rw [if_neg e2,h.iff y hy];simp [e]
 ·
  rcases List.mem_append.1 hy with h3 | h3
  · exact h.rng y h3
  · simp at h3;subst h3;exact ⟨hx,h1,h2⟩
 ·
  rw [List.nodup_append]
  refine ⟨h.nodup,by simp,fun a ha b hb => ?_⟩
  simp at hb;subst hb
  intro e;subst e
  have:=(h.iff a hx).2 ha
  omega
def Just (l : List (List Int)) (t : List Int) (x : Int) : Prop:=∃ d ∈ l,x ∈ d ∧ ∀ y ∈ d,y ≠ x → -y ∈ t
def zeO (l : List (List Int)) (t ext : List Int) : Prop:=∀ j (h : j < ext.length),Just l (t ++ ext.take j) ext[j]
theorem zmk (l : List (List Int)) (t : List Int) : zeO l t []:=fun j h => absurd h (by simp)
theorem zeO.snoc {l : List (List Int)} {t ext : List Int} {x : Int} (h : zeO l t ext) (hx : Just l (t ++ ext) x) : zeO l t (ext ++ [x]):=by
 intro j hj
 by_cases e : j < ext.length
 ·
  have h1:=h j e
  rw [List.getElem_append_left e]
  rw [List.take_append_of_le_length (by omega)]
  exact h1
 ·
  have e2 : j = ext.length:=by simp at hj;omega
  subst e2
  rw [List.getElem_append_right (znr _)]
  simpa using hx
def zfa (f : Int → Int) (c : List Int) (x : Int) (ok : Bool) : Prop :=
 (ok = false → x = 0 ∧ ∀ y ∈ c,lv f y = -1) ∧ (ok = true → x ≠ 0 → x ∈ c ∧ lv f x = 0 ∧ ∀ y ∈ c,y ≠ x → lv f y = -1) ∧ (ok = true → x = 0 → Stuck f c)
structure zbM (f : Int → Int) (c : List Int) (k : Nat) (left : Int) : Prop where
 zbA : left ≠ 0 → left ∈ c ∧ lv f left = 0
 zk5 : ∀ y ∈ c.take k,y ≠ left → lv f y = -1
theorem zi1 (f : Int → Int) (c : List Int) : zbM f c 0 0:=⟨by simp,by simp⟩
theorem zbM.zqf {f : Int → Int} {c : List Int} {k : Nat} {left : Int} (s : zbM f c k left) (h : k < c.length) (h1 : lv f c[k] = -1) : zbM f c (k + 1) left :=
 ⟨s.zbA,fun y hy hne => ((zI h).1 hy).elim (fun h2 => s.zk5 y h2 hne) (fun e => by rw [e];exact h1)⟩
theorem zbM.step0 {f : Int → Int} {c : List Int} {k : Nat} {left : Int} (s : zbM f c k left) (h : k < c.length) (hz : qY c) (h1 : lv f c[k] = 0) (hl : left = 0 ∨ left = c[k]) : zbM f c (k + 1) c[k]:=by
 refine ⟨fun _ => ⟨List.getElem_mem h,h1⟩,fun y hy hne => ?_⟩
 rcases (zI h).1 hy with h2 | e
 ·
  refine s.zk5 y h2 (fun e => ?_)
  rcases hl with h3 | h3
  · exact hz y (List.mem_of_mem_take h2) (by rw [e,h3])
  · exact hne (by rw [e,h3])
 · exact absurd e hne
theorem zbM.say {f : Int → Int} {c : List Int} {left : Int} (s : zbM f c c.length left) (hz : qY c) : zfa f c left (left != 0):=by
 refine ⟨fun h => ?_,fun _ h => ⟨(s.zbA h).1,(s.zbA h).2,fun y hy hne => s.zk5 y (by simpa using hy) hne⟩,fun h h0 => ?_⟩
 ·
  have h0 : left = 0:=by simpa using h
  exact ⟨h0,fun y hy => s.zk5 y (by simpa using hy) (by rw [h0];exact hz y hy)⟩
 · subst h0;simp at h
theorem zn6 {f : Int → Int} {c : List Int} {x : Int} (hx : x ∈ c) (h : lv f x = 1) : zfa f c 0 true :=
 ⟨fun h => (by cases h),fun _ h => absurd rfl h,fun _ _ => .inl ⟨x,hx,h⟩⟩
theorem zpw {f : Int → Int} {c : List Int} {k : Nat} {left : Int} (s : zbM f c k left) {x : Int} (hx : x ∈ c) (h : lv f x = 0) (h1 : left ≠ 0) (h2 : left ≠ x) : zfa f c 0 true :=
 ⟨fun h => (by cases h),fun _ h => absurd rfl h,fun _ _ => .inr ⟨left,(s.zbA h1).1,x,hx,h2,(s.zbA h1).2,h⟩⟩
theorem zbH : ∀ (n : Nat) (l : List Nat),l.Nodup → (∀ x ∈ l,x < n) → l.length ≤ n
 | 0,l,_,h => by
  cases l with
  | nil => simp
  | cons x l => have:=h x (by simp);omega
 | n + 1,l,hn,h => by
  have h1:=zbH n (l.erase n) (hn.erase n) (fun x hx => by
   have h2:=(hn.mem_erase_iff).1 hx
   have:=h x h2.2
   have:=h2.1
   omega)
  by_cases hm : n ∈ l
  ·
   rw [List.length_erase_of_mem hm] at h1
   omega
  ·
   rw [List.erase_of_not_mem hm] at h1
   omega
theorem yY.len {m : Int} {f : Int → Int} {tr : List Int} (h : yY m f tr) (hm : m ≤ 24) : tr.length ≤ 49:=by
 have h1:=zbH 49 (tr.map fun x => (x + 24).toNat) (by
  have key : ∀ t : List Int,t.Nodup → (∀ x ∈ t,-24 ≤ x ∧ x ≤ 24) → (t.map fun x => (x + 24).toNat).Nodup:=by
   intro t
   induction t with
   | nil => intro _ _;exact List.nodup_nil
   | cons x t ih =>
    intro hn hr
    rw [List.map_cons,List.nodup_cons]
    rw [List.nodup_cons] at hn
    refine ⟨fun hm => ?_,ih hn.2 (fun y hy => hr y (by simp [hy]))⟩
    obtain ⟨y,hy,he⟩:=List.mem_map.1 hm
    have h1:=hr x (by simp)
    have h2:=hr y (by simp [hy])
    have : y = x:=by omega
    subst this
    exact hn.1 hy
  exact key tr h.nodup (fun x hx => by have:=h.rng x hx;omega)) (fun x hx => by
   obtain ⟨y,hy,rfl⟩:=List.mem_map.1 hx
   have:=h.rng y hy
   omega)
 simpa using h1
def Rup (m : Int) (all : List (List Int)) (c : List Int) : Prop :=
 c.any (qp m) = false ∧ ¬ ∃ f,Tri f ∧ (∀ x ∈ c,lv f x = -1) ∧ ∀ d ∈ all,Stuck f d
theorem qg {m x : Int} {c : List Int} (h : c.any (qp m) = false) (hx : x ∈ c) : x ≠ 0 ∧ -m ≤ x ∧ x ≤ m:=by
 have h1 : qp m x = false:=by
  cases h2 : qp m x
  · rfl
  · have:=List.any_eq_true.2 ⟨x,hx,h2⟩;rw [h] at this;cases this
 simp [qp] at h1
 omega
theorem zaN {m : Int} {c : List Int} (h : ∀ x ∈ c,x ≠ 0 ∧ -m ≤ x ∧ x ≤ m) : c.any (qp m) = false:=by
 cases h1 : c.any (qp m)
 · rfl
 ·
  obtain ⟨x,hx,h2⟩:=List.any_eq_true.1 h1
  have:=h x hx
  simp [qp] at h2
  omega
def zjr (v : Nat) : Int → Int:=fun u => if ku v u then 1 else -1
theorem ziG (v : Nat) {x : Int} (hx : x ≠ 0) : lv (zjr v) x = if ku v x then 1 else -1:=by
 unfold lv zjr
 rcases Int.lt_trichotomy x 0 with h | h | h
 ·
  rw [if_pos h,zc6 h,zdd hx]
  cases ku v x <;> rfl
 · exact absurd h hx
 · rw [if_neg (by omega),zbT h]
theorem zly (v : Nat) : Tri (zjr v):=fun u => by unfold zjr;split <;> omega
theorem Rup.sound {m : Int} {all : List (List Int)} {c : List Int} (h : Rup m all c) (hz : ∀ d ∈ all,qY d) {v : Nat} (hv : j6 v all = true) : clB v c = true:=by
 cases hc : clB v c
 ·
  refine absurd ⟨zjr v,zly v,fun x hx => ?_,fun d hd => ?_⟩ h.2
  ·
   have hx0:=(qg h.1 hx).1
   have : ku v x = false:=by
    cases hl : ku v x
    · rfl
    · have:=List.any_eq_true.2 ⟨x,hx,hl⟩;unfold clB at hc;rw [hc] at this;cases this
   rw [ziG v hx0,this];rfl
  ·
   obtain ⟨x,hx,hl⟩:=List.any_eq_true.1 (List.all_eq_true.1 hv d hd)
   exact .inl ⟨x,hx,by rw [ziG v (hz d hd x hx),hl];rfl⟩
 · rfl
def code (c : List Int) : Nat → Nat
 | 0 => 0
 | m + 1 => code c m + if c.contains (-((m : Int) + 1)) then 2 ^ m else 0
theorem zdo (c : List Int) : ∀ m,code c m < 2 ^ m
 | 0 => by simp [code]
 | m + 1 => by
  have:=zdo c m
  simp only [code,Nat.pow_succ]
  split <;> omega
theorem zkN {c d : List Int} : ∀ {m : Nat},code c m = code d m → ∀ j,j < m → (-((j : Int) + 1) ∈ c ↔ -((j : Int) + 1) ∈ d)
 | 0,_,j,hj => by omega
 | m + 1,h,j,hj => by
  have h1:=zdo c m
  have h2:=zdo d m
  simp only [code] at h
  have h3 : c.contains (-((m : Int) + 1)) = d.contains (-((m : Int) + 1)) ∧ code c m = code d m:=by
   cases hc : c.contains (-((m : Int) + 1)) <;> cases hd : d.contains (-((m : Int) + 1)) <;> simp only [hc,hd,if_true,Bool.false_eq_true,if_false] at h <;> first | exact ⟨rfl,by omega⟩ | omega
  rcases Nat.lt_or_ge j m with h4 | h4
  · exact zkN h3.2 j h4
  ·
   have : j = m:=by omega
   subst this
   rw [← List.contains_iff_mem,← List.contains_iff_mem,h3.1]
def jq (tr : List Int) (dl : List Nat) : List Int:=dl.map fun n => tr.getD n 0
structure jD (m : Int) (l ls : List (List Int)) (f : Int → Int) (tr : List Int) (dl : List Nat) : Prop where
 tok : yY m f tr
 dlt : ∀ n ∈ dl,n < tr.length
 zku : dl.Pairwise (· < ·)
 dec : ∀ n ∈ dl,0 < tr.getD n 0 ∧ ∀ u,1 ≤ u → u < tr.getD n 0 → u ∈ tr.take n ∨ -u ∈ tr.take n
 just : ∀ j,j < tr.length → j ∈ dl ∨ Just (l ++ ls) (tr.take j) (tr.getD j 0)
 learned : ∀ i (h : i < ls.length),Rup m (l ++ ls.take i) ls[i]
 fresh : ∀ c ∈ ls,∃ y ∈ c,-y ∉ jq tr dl
 neg : ∀ c ∈ ls,∀ y ∈ c,y < 0
 codes : (ls.map (code · m.toNat)).Nodup
 start : Rup m l [] → ls = [] ∧ dl = []
 apart : ∀ x ∈ jq tr dl,∀ y ∈ jq tr dl,[-x,-y] ∈ l → x = y
 zeb : ∀ c ∈ ls,∀ x ∈ c,∀ y ∈ c,[x,y] ∈ l → x = y
theorem zjJ (m : Int) (l : List (List Int)) : jD m l [] (fun _ => 0) [] [] where
 tok:=ziS m
 dlt:=by simp
 zku:=List.Pairwise.nil
 dec:=by simp
 just:=by simp
 learned:=fun i h => absurd h (by simp)
 fresh:=by simp
 neg:=by simp
 codes:=List.nodup_nil
 start:=fun _ => ⟨rfl,rfl⟩
 apart:=fun x hx => by simp [jq] at hx
 zeb:=fun c hc => by cases hc
theorem zbY {tr ext : List Int} {dl : List Nat} (h : ∀ n ∈ dl,n < tr.length) : jq (tr ++ ext) dl = jq tr dl:=by
 unfold jq
 apply List.map_congr_left
 intro n hn
 have:=h n hn
 simp [List.getD,List.getElem?_append_left this]
theorem zaC {tr ext : List Int} {n : Nat} (h : n < tr.length) : (tr ++ ext).getD n 0 = tr.getD n 0:=by simp [List.getD,List.getElem?_append_left h]
theorem jr {tr ext : List Int} {n : Nat} (h : n ≤ tr.length) : (tr ++ ext).take n = tr.take n:=List.take_append_of_le_length h
theorem jD.spread {m : Int} {l ls : List (List Int)} {f g : Int → Int} {tr ext : List Int} {dl : List Nat} (s : jD m l ls f tr dl) (ht : yY m g (tr ++ ext)) (hj : zeO (l ++ ls) tr ext) : jD m l ls g (tr ++ ext) dl where
 tok:=ht
 dlt:=fun n hn => by have:=s.dlt n hn;simp;omega
 zku:=s.zku
 dec:=fun n hn => by
  have h1:=s.dlt n hn
  rw [zaC h1,jr (by omega)]
  exact s.dec n hn
 just:=fun j hj2 => by
  rcases Nat.lt_or_ge j tr.length with h | h
  ·
   rw [zaC h,jr (by omega)]
   exact s.just j h
  ·
   refine .inr ?_
   have h1:=hj (j - tr.length) (by simp at hj2;omega)
   have e1 : (tr ++ ext).take j = tr ++ ext.take (j - tr.length):=by rw [List.take_append,List.take_of_length_le h]
   have e2 : (tr ++ ext).getD j 0 = ext[j - tr.length]'(by simp at hj2;omega):=by
    rw [getD_at _ _ hj2,List.getElem_append_right h]
   rw [e1,e2];exact h1
 learned:=s.learned
 fresh:=by rw [zbY s.dlt];exact s.fresh
 neg:=s.neg
 codes:=s.codes
 start:=s.start
 apart:=by rw [zbY s.dlt];exact s.apart
 zeb:=s.zeb
theorem jD.forced {m : Int} {l ls : List (List Int)} {f : Int → Int} {tr : List Int} {dl : List Nat} (s : jD m l ls f tr dl) {g : Int → Int} (hd : ∀ x ∈ jq tr dl,lv g x = 1) (hs : ∀ d ∈ l ++ ls,Stuck g d)
 (hz : ∀ d ∈ l ++ ls,qY d) : ∀ j,j < tr.length → lv g (tr.getD j 0) = 1:=by
 intro j
 induction j using Nat.strongRecOn with
 | _ j ih =>
  intro hj
  rcases s.just j hj with h | ⟨d,hdm,hx,hy⟩
  · exact hd _ (List.mem_map.2 ⟨j,h,rfl⟩)
  ·
   have hother : ∀ y ∈ d,y ≠ tr.getD j 0 → lv g y = -1:=by
    intro y hyd hne
    obtain ⟨i,hi,he⟩:=List.getElem_of_mem (hy y hyd hne)
    have hi2 : i < tr.length:=by rw [List.length_take] at hi;omega
    have hij : i < j:=by rw [List.length_take] at hi;omega
    have h1:=ih i hij hi2
    have e : tr.getD i 0 = -y:=by rw [getD_at _ _ hi2,← he];simp
    rw [e,zaP (hz d hdm y hyd)] at h1
    omega
   rcases hs d hdm with ⟨x,hxd,h1⟩ | ⟨x,hxd,y,hyd,hne,h1,h2⟩
   ·
    by_cases e : x = tr.getD j 0
    · rw [← e];exact h1
    · have:=hother x hxd e;omega
   ·
    by_cases e : x = tr.getD j 0
    · have:=hother y hyd (fun e2 => hne (e.trans e2.symm));omega
    · have:=hother x hxd e;omega
theorem jD.rup {m : Int} {l ls : List (List Int)} {f : Int → Int} {tr : List Int} {dl : List Nat} (s : jD m l ls f tr dl) (hz : ∀ d ∈ l ++ ls,qY d) {d : List Int} (hd : d ∈ l ++ ls) (hc : ∀ y ∈ d,lv f y = -1) :
 Rup m (l ++ ls) ((jq tr dl).map fun x => -x):=by
 have hmem : ∀ x ∈ jq tr dl,x ∈ tr:=by
  intro x hx
  obtain ⟨n,hn,rfl⟩:=List.mem_map.1 hx
  have:=s.dlt n hn
  rw [getD_at _ _ this];exact List.getElem_mem _
 refine ⟨zaN (fun x hx => ?_),fun ⟨g,hg,hneg,hst⟩ => ?_⟩
 ·
  obtain ⟨y,hy,rfl⟩:=List.mem_map.1 hx
  have:=s.tok.rng y (hmem y hy)
  omega
 ·
  have hdec : ∀ x ∈ jq tr dl,lv g x = 1:=by
   intro x hx
   have h1:=hneg (-x) (List.mem_map.2 ⟨x,hx,rfl⟩)
   have h0:=(s.tok.rng x (hmem x hx)).1
   rw [zaP h0] at h1
   omega
  have hall:=s.forced hdec hst hz
  have hfalse : ∀ y ∈ d,lv g y = -1:=by
   intro y hy
   have h0:=hz d hd y hy
   have h1:=(s.tok.neg h0).1 (hc y hy)
   obtain ⟨j,hj,he⟩:=List.getElem_of_mem h1
   have h2:=hall j hj
   rw [getD_at _ _ hj,he,zaP h0] at h2
   omega
  rcases hst d hd with ⟨x,hxd,h1⟩ | ⟨x,hxd,y,hyd,hne,h1,h2⟩
  · have:=hfalse x hxd;omega
  · have:=hfalse x hxd;omega
theorem zgM {α : Type} {l : List α} (h : l.Nodup) {i j : Nat} {hi : i < l.length} {hj : j < l.length} (e : l[i] = l[j]) : i = j:=by
 rcases Nat.lt_trichotomy i j with h1 | h1 | h1
 · exact absurd e (List.pairwise_iff_getElem.1 h i j hi hj h1)
 · exact h1
 · exact absurd e.symm (List.pairwise_iff_getElem.1 h j i hj hi h1)
theorem Just.mono {l l' : List (List Int)} {t : List Int} {x : Int} (h : Just l t x) (hs : ∀ d ∈ l,d ∈ l') : Just l' t x:=by
 obtain ⟨d,hd,h1,h2⟩:=h
 exact ⟨d,hs d hd,h1,h2⟩
theorem getD_take {tr : List Int} {n j : Nat} (h : j < n) : (tr.take n).getD j 0 = tr.getD j 0:=by
 simp [List.getD,h]
theorem zgS {tr : List Int} {n : Nat} {dl : List Nat} (h : ∀ k ∈ dl,k < n) : jq (tr.take n) dl = jq tr dl:=by
 unfold jq
 apply List.map_congr_left
 intro k hk
 exact getD_take (h k hk)
theorem jD.back {m : Int} {l ls : List (List Int)} {f g : Int → Int} {tr : List Int} {dl : List Nat} {n : Nat} (s : jD m l ls f tr (dl ++ [n])) (hz : ∀ d ∈ l ++ ls,qY d) {d : List Int} (hd : d ∈ l ++ ls) (hc : ∀ y ∈ d,lv f y = -1)
 (hg : yY m g (tr.take n)) : jD m l (ls ++ [(jq tr (dl ++ [n])).map fun x => -x]) g (tr.take n) dl:=by
 have hn : n < tr.length:=s.dlt n (by simp)
 have hlt : ∀ k ∈ dl,k < n:=fun k hk => (List.pairwise_append.1 s.zku).2.2 k hk n (by simp)
 have hlen : (tr.take n).length = n:=by rw [List.length_take];omega
 have hrup:=s.rup hz hd hc
 have hsplit : jq tr (dl ++ [n]) = jq tr dl ++ [tr.getD n 0]:=by simp [jq]
 have hlast : tr.getD n 0 ∉ jq tr dl:=by
  intro h
  obtain ⟨k,hk,he⟩:=List.mem_map.1 h
  have h1:=hlt k hk
  rw [getD_at _ _ hn,getD_at _ _ (by omega : k < tr.length)] at he
  have:=zgM s.tok.nodup he
  omega
 refine ⟨hg,fun k hk => by rw [hlen];exact hlt k hk,(List.pairwise_append.1 s.zku).1,fun k hk => ?_,fun j hj => ?_,fun i hi => ?_,fun c hc2 => ?_,fun c hc2 y hy => ?_,?_,fun hr => ?_,fun x hx y hy hm => ?_,fun c hc2 x hx y hy hm => ?_⟩
 ·
  have h1:=hlt k hk
  have h2:=s.dec k (by simp [hk])
  rw [getD_take h1,List.take_take,Nat.min_eq_left (by omega)]
  exact h2
 ·
  rw [hlen] at hj
  rw [getD_take hj,List.take_take,Nat.min_eq_left (by omega)]
  rcases s.just j (by omega) with h1 | h1
  ·
   rcases List.mem_append.1 h1 with h2 | h2
   · exact .inl h2
   · simp at h2;omega
  · exact .inr (h1.mono (fun d hd => by simp at hd ⊢;rcases hd with h | h <;> simp [h]))
 ·
  rcases Nat.lt_or_ge i ls.length with h1 | h1
  ·
   rw [List.getElem_append_left h1,List.take_append_of_le_length (by omega)]
   exact s.learned i h1
  ·
   have e : i = ls.length:=by simp at hi;omega
   subst e
   rw [List.getElem_append_right (znr _),List.take_left]
   simpa using hrup
 ·
  rw [zgS hlt]
  rcases List.mem_append.1 hc2 with h1 | h1
  ·
   obtain ⟨y,hy,h2⟩:=s.fresh c h1
   exact ⟨y,hy,fun h3 => h2 (by rw [hsplit];simp [h3])⟩
  ·
   simp only [List.mem_singleton] at h1
   subst h1
   exact ⟨-(tr.getD n 0),List.mem_map.2 ⟨_,by rw [hsplit];simp,rfl⟩,by rw [Int.neg_neg];exact hlast⟩
 ·
  rcases List.mem_append.1 hc2 with h1 | h1
  · exact s.neg c h1 y hy
  ·
   simp only [List.mem_singleton] at h1
   subst h1
   obtain ⟨x,hx,rfl⟩:=List.mem_map.1 hy
   obtain ⟨k,hk,rfl⟩:=List.mem_map.1 hx
   have:=(s.dec k hk).1
   omega
 ·
  rw [List.map_append,List.nodup_append]
  refine ⟨s.codes,by simp,fun a ha b hb e => ?_⟩
  simp only [List.map_cons,List.map_nil,List.mem_singleton] at hb
  subst e
  obtain ⟨c,hc2,h1⟩:=List.mem_map.1 ha
  obtain ⟨y,hy,h2⟩:=s.fresh c hc2
  obtain ⟨i,hi,h3⟩:=List.getElem_of_mem hc2
  have h4:=s.learned i hi
  rw [h3] at h4
  have h5:=qg h4.1 hy
  have h6:=s.neg c hc2 y hy
  have h7:=(zkN (h1.trans hb) ((-y).toNat - 1) (by omega)).1 (by rw [show -((((-y).toNat - 1 : Nat) : Int) + 1) = y by omega];exact hy)
  rw [show -((((-y).toNat - 1 : Nat) : Int) + 1) = y by omega] at h7
  obtain ⟨x,hx,h8⟩:=List.mem_map.1 h7
  exact h2 (by rw [← h8,Int.neg_neg];exact hx)
 ·
  have:=(s.start hr).2
  simp at this
 ·
  rw [zgS hlt] at hx hy
  exact s.apart x (by rw [hsplit];simp [hx]) y (by rw [hsplit];simp [hy]) hm
 ·
  rcases List.mem_append.1 hc2 with h1 | h1
  · exact s.zeb c h1 x hx y hy hm
  ·
   simp only [List.mem_singleton] at h1
   subst h1
   obtain ⟨x',hx',rfl⟩:=List.mem_map.1 hx
   obtain ⟨y',hy',rfl⟩:=List.mem_map.1 hy
   rw [s.apart x' hx' y' hy' hm]
theorem jD.decide {m : Int} {l ls : List (List Int)} {f : Int → Int} {tr : List Int} {dl : List Nat} (s : jD m l ls f tr dl) (hz : ∀ d ∈ l ++ ls,qY d) (hst : ∀ d ∈ l ++ ls,Stuck f d) {u : Int} (h1 : 1 ≤ u) (h2 : u ≤ m) (h0 : lv f u = 0)
 (hlow : ∀ u',1 ≤ u' → u' < u → lv f u' ≠ 0) : jD m l ls (upd f (vr u) (sgn u)) (tr ++ [u]) (dl ++ [tr.length]):=by
 have hlast : (tr ++ [u]).getD tr.length 0 = u:=by simp [List.getD]
 have hdecs : jq (tr ++ [u]) (dl ++ [tr.length]) = jq tr dl ++ [u]:=by
  have:=zbY (ext:=[u]) s.dlt
  unfold jq at this ⊢
  rw [List.map_append,this]
  simp
 refine ⟨s.tok.snoc (by omega) (by omega) h2 h0,fun n hn => ?_,?_,fun n hn => ?_,fun j hj => ?_,s.learned,fun c hc => ?_,s.neg,s.codes,fun hr => ?_,fun x hx y hy hm => ?_,s.zeb⟩
 ·
  rcases List.mem_append.1 hn with h | h
  · have:=s.dlt n h;simp;omega
  · simp at h;subst h;simp
 ·
  rw [List.pairwise_append]
  exact ⟨s.zku,List.pairwise_singleton _ _,fun a ha b hb => by simp at hb;subst hb;exact s.dlt a ha⟩
 ·
  rcases List.mem_append.1 hn with h | h
  ·
   have h3:=s.dlt n h
   rw [zaC h3,jr (by omega)]
   exact s.dec n h
  ·
   simp at h;subst h
   rw [hlast,List.take_left]
   refine ⟨by omega,fun u' hu1 hu2 => ?_⟩
   have h3:=hlow u' hu1 hu2
   have h4:=s.tok.tri.lv u'
   rcases (by omega : lv f u' = 1 ∨ lv f u' = -1) with h5 | h5
   · exact .inl ((s.tok.iff u' (by omega)).1 h5)
   · exact .inr ((s.tok.neg (by omega)).1 h5)
 ·
  rcases Nat.lt_or_ge j tr.length with h | h
  ·
   rw [zaC h,jr (by omega)]
   rcases s.just j h with h3 | h3
   · exact .inl (by simp [h3])
   · exact .inr h3
  ·
   have : j = tr.length:=by simp at hj;omega
   subst this
   exact .inl (by simp)
 ·
  rw [hdecs]
  have key : ¬ ∀ y ∈ c,-y ∈ jq tr dl ++ [u]:=by
   intro hall
   have hcm : c ∈ l ++ ls:=by simp [hc]
   have hval : ∀ y ∈ c,lv f y = -1 ∨ y = -u:=by
    intro y hy
    rcases List.mem_append.1 (hall y hy) with h | h
    ·
     obtain ⟨n,hn,he⟩:=List.mem_map.1 h
     have h3:=s.dlt n hn
     refine .inl ((s.tok.neg (hz c hcm y hy)).2 ?_)
     rw [← he,getD_at _ _ h3];exact List.getElem_mem _
    · simp at h;exact .inr (by omega)
   have hnu : lv f (-u) = 0:=by rw [zaP (by omega)];omega
   rcases hst c hcm with ⟨x,hx,h3⟩ | ⟨x,hx,y,hy,hne,h3,h4⟩
   · rcases hval x hx with h5 | rfl <;> omega
   ·
    rcases hval x hx with h5 | h5
    · omega
    ·
     rcases hval y hy with h6 | h6
     · omega
     · exact hne (h5.trans h6.symm)
  rcases Classical.not_forall.1 key with ⟨y,hy⟩
  exact ⟨y,(Classical.not_imp.1 hy).1,(Classical.not_imp.1 hy).2⟩
 ·
  obtain ⟨rfl,rfl⟩:=s.start hr
  exact absurd ⟨f,s.tok.tri,by simp,by simpa using hst⟩ hr.2
 ·
  rw [hdecs] at hx hy
  have dec1 : ∀ x ∈ jq tr dl,lv f x = 1 ∧ x ≠ 0:=fun x hx => by
   obtain ⟨k,hk,rfl⟩:=List.mem_map.1 hx
   have h3:=s.dlt k hk
   have hmem : tr.getD k 0 ∈ tr:=by rw [getD_at _ _ h3];exact List.getElem_mem _
   have:=(s.dec k hk).1
   exact ⟨(s.tok.iff _ (by omega)).2 hmem,by omega⟩
  have key : ∀ x ∈ jq tr dl,∀ d : List Int,(∀ z,z ∈ d ↔ z = -x ∨ z = -u) → d ∈ l → False:=fun x hx d hd hdl => by
   obtain ⟨g1,g2⟩:=dec1 x hx
   have e1 : lv f (-x) = -1:=by rw [zaP g2,g1]
   have e2 : lv f (-u) = 0:=by rw [zaP (by omega),h0];rfl
   rcases hst d (by simp [hdl]) with ⟨z,hz1,hz2⟩ | ⟨z,hz1,z2,hz3,hne,hz4,hz5⟩
   · rcases (hd z).1 hz1 with rfl | rfl <;> omega
   ·
    rcases (hd z).1 hz1 with rfl | rfl
    · omega
    ·
     rcases (hd z2).1 hz3 with rfl | rfl
     · omega
     · exact hne rfl
  rcases List.mem_append.1 hx with h3 | h3 <;> rcases List.mem_append.1 hy with h4 | h4
  · exact s.apart x h3 y h4 hm
  ·
   rw [List.mem_singleton.1 h4] at hm
   exact (key x h3 _ (fun z => by simp) hm).elim
  ·
   rw [List.mem_singleton.1 h3] at hm
   exact (key y h4 _ (fun z => by simp [or_comm]) hm).elim
  · rw [List.mem_singleton.1 h3,List.mem_singleton.1 h4]
theorem jD.few {m : Int} {l ls : List (List Int)} {f : Int → Int} {tr : List Int} {dl : List Nat} (s : jD m l ls f tr dl) : ls.length ≤ 2 ^ m.toNat:=by
 have:=zbH (2 ^ m.toNat) _ s.codes (fun x hx => by
  obtain ⟨c,_,rfl⟩:=List.mem_map.1 hx
  exact zdo c _)
 simpa using this
def ziQ (m : Int) (l : List (List Int)) : Prop:=∀ cs : List (List Int),(cs.map (code · m.toNat)).Nodup → (∀ c ∈ cs,∀ x ∈ c,x < 0 ∧ -m ≤ x ∧ ∀ y ∈ c,[x,y] ∈ l → x = y) → cs.length < 2000
theorem zkp {m : Int} (l : List (List Int)) (hm : m ≤ 10) : ziQ m l:=fun cs hc _ => by
 have:=zbH (2 ^ m.toNat) _ hc (fun x hx => by
  obtain ⟨c,_,rfl⟩:=List.mem_map.1 hx
  exact zdo c _)
 have h2 : 2 ^ m.toNat ≤ 2 ^ 10:=Nat.pow_le_pow_right (by decide) (by omega)
 rw [List.length_map] at this
 omega
theorem jD.fewC {m : Int} {l ls : List (List Int)} {f : Int → Int} {tr : List Int} {dl : List Nat} (s : jD m l ls f tr dl) (h : ziQ m l) : ls.length < 2000 :=
 h ls s.codes (fun c hc x hx => by
  obtain ⟨i,hi,rfl⟩:=List.getElem_of_mem hc
  exact ⟨s.neg _ hc x hx,(qg (s.learned i hi).1 hx).2.1,s.zeb _ hc x hx⟩)
theorem jD.sound {m : Int} {l ls : List (List Int)} {f : Int → Int} {tr : List Int} {dl : List Nat} (s : jD m l ls f tr dl) (hz : ∀ d ∈ l ++ ls,qY d) {v : Nat} (hv : j6 v l = true) : j6 v (l ++ ls) = true:=by
 have key : ∀ i,i ≤ ls.length → j6 v (l ++ ls.take i) = true:=by
  intro i
  induction i with
  | zero => intro _;simpa using hv
  | succ i ih =>
   intro hi
   have h1:=ih (by omega)
   have h2 := (s.learned i (by omega)).sound (fun d hd => hz d (by rcases List.mem_append.1 hd with h | h; · simp [h]
                                                                   · simp [List.mem_of_mem_take h])) h1
   rw [List.take_succ_eq_append_getElem (by omega),← List.append_assoc]
   unfold j6 at h1 ⊢
   rw [List.all_append,h1]
   simpa using h2
 have:=key ls.length (znr _)
 rwa [List.take_length] at this
def zh9 (m : Int) (f : Int → Int) (v : Nat) : Prop:=∀ k : Nat,v.testBit k = (decide ((k : Int) < m) && decide (f ((k : Int) + 1) = 1))
theorem zh9.lit {m : Int} {f : Int → Int} {v : Nat} (h : zh9 m f v) (ht : Tri f) {x : Int} (hx : x ≠ 0) (h1 : -m ≤ x) (h2 : x ≤ m) (h0 : lv f x ≠ 0) : ku v x = decide (lv f x = 1):=by
 have ht2:=ht (vr x)
 rcases Int.lt_trichotomy x 0 with h3 | h3 | h3
 ·
  have e : f (-x) ≠ 0:=fun e => h0 (by rw [lv,if_pos h3,zc6 h3,e];rfl)
  rw [zc6 h3] at ht2
  rw [ku,if_neg (by omega),decide_eq_true h3,h,show (((-x).toNat - 1 : Nat) : Int) + 1 = -x by omega,lv,if_pos h3,zc6 h3,decide_eq_true (by omega)]
  rcases (by omega : f (-x) = 1 ∨ f (-x) = -1) with h4 | h4 <;> simp [h4]
 · exact absurd h3 hx
 ·
  rw [ku,if_pos h3,h,show ((x.toNat - 1 : Nat) : Int) + 1 = x by omega,lv,if_neg (by omega),zbT h3,decide_eq_true (by omega)]
  simp
theorem jD.holds {m : Int} {l ls : List (List Int)} {f : Int → Int} {tr : List Int} {dl : List Nat} (s : jD m l ls f tr dl) (hr : ∀ d ∈ l,∀ x ∈ d,x ≠ 0 ∧ -m ≤ x ∧ x ≤ m) (hst : ∀ d ∈ l ++ ls,Stuck f d) (hall : ∀ u,1 ≤ u → u ≤ m → lv f u ≠ 0) {v : Nat} (hv : zh9 m f v) : j6 v l = true:=by
 refine List.all_eq_true.2 fun d hd => ?_
 have told : ∀ x ∈ d,lv f x ≠ 0:=by
  intro x hx h0
  obtain ⟨h1,h2,h3⟩:=hr d hd x hx
  rw [zdG] at h0
  have h4 : lv f (vr x) = 0:=by
   rw [zdG,show vr (vr x) = vr x by unfold vr;omega];exact h0
  exact hall (vr x) (by unfold vr;omega) (by unfold vr;omega) h4
 rcases hst d (by simp [hd]) with ⟨x,hx,h1⟩ | ⟨x,hx,_,_,_,h1,_⟩
 ·
  obtain ⟨h2,h3,h4⟩:=hr d hd x hx
  exact List.any_eq_true.2 ⟨x,hx,by rw [hv.lit s.tok.tri h2 h3 h4 (told x hx),h1];rfl⟩
 · exact absurd h1 (told x hx)
theorem jD.zpQ {m : Int} {l ls : List (List Int)} {f : Int → Int} {tr : List Int} {dl : List Nat} (s : jD m l ls f tr dl) (hz : ∀ d ∈ l ++ ls,qY d) (hall : ∀ u,1 ≤ u → u ≤ m → lv f u ≠ 0) {v : Nat} (hv : zh9 m f v) {v' : Nat} (hv' : j6 v' l = true)
 {k : Nat} (hk : (k : Int) < m) (hsame : ∀ i,i < k → v'.testBit i = v.testBit i) (h1 : v'.testBit k = true) (h0 : v.testBit k = false) : False:=by
 have hall':=s.sound hz hv'
 have hfk : lv f ((k : Int) + 1) = -1:=by
  have h2:=hall ((k : Int) + 1) (by omega) (by omega)
  have h3:=s.tok.tri.lv ((k : Int) + 1)
  rw [hv k,decide_eq_true hk] at h0
  have h4 : f ((k : Int) + 1) ≠ 1:=by simpa using h0
  have e : lv f ((k : Int) + 1) = f ((k : Int) + 1):=by rw [lv,if_neg (by omega),zbT (by omega)]
  omega
 have hin:=(s.tok.neg (by omega : ((k : Int) + 1) ≠ 0)).1 hfk
 obtain ⟨j,hj,hej⟩:=List.getElem_of_mem hin
 have key : ∀ i,i ≤ j → ku v' (tr.getD i 0) = true:=by
  intro i
  induction i using Nat.strongRecOn with
  | _ i ih =>
   intro hij
   have hi : i < tr.length:=by omega
   rcases s.just i hi with h | ⟨d,hdm,hx,hy⟩
   ·
    obtain ⟨hpos,hlow⟩:=s.dec i h
    have hmem : tr.getD i 0 ∈ tr:=by rw [getD_at _ _ hi];exact List.getElem_mem _
    have hrng:=s.tok.rng _ hmem
    have hlt : tr.getD i 0 < (k : Int) + 1:=by
     rcases Int.lt_trichotomy (tr.getD i 0) ((k : Int) + 1) with h2 | h2 | h2
     · exact h2
     ·
      have h3:=(s.tok.iff _ (by omega)).2 hmem
      rw [h2] at h3;omega
     ·
      exfalso
      rcases hlow ((k : Int) + 1) (by omega) h2 with h3 | h3
      ·
       have h4:=(s.tok.iff _ (by omega)).2 (List.mem_of_mem_take h3)
       omega
      ·
       obtain ⟨q,hq,heq⟩:=List.getElem_of_mem h3
       rw [List.length_take] at hq
       rw [List.getElem_take] at heq
       have:=zgM s.tok.nodup (heq.trans hej.symm)
       omega
    have h4:=(s.tok.iff _ (by omega)).2 hmem
    have h5 : ku v (tr.getD i 0) = true:=by rw [hv.lit s.tok.tri (by omega) (by omega) (by omega) (by omega),h4];rfl
    rw [ku,if_pos hpos] at h5 ⊢
    rw [hsame _ (by omega)];exact h5
   ·
    have h2:=List.all_eq_true.1 hall' d hdm
    obtain ⟨y,hyd,h3⟩:=List.any_eq_true.1 h2
    by_cases e : y = tr.getD i 0
    · rw [← e];exact h3
    ·
     obtain ⟨q,hq,heq⟩:=List.getElem_of_mem (hy y hyd e)
     rw [List.length_take] at hq
     rw [List.getElem_take] at heq
     have h4:=ih q (by omega) (by omega)
     rw [getD_at _ _ (by omega : q < tr.length),heq,zdd (hz d hdm y hyd),h3] at h4
     cases h4
 have h2:=key j (znr _)
 rw [getD_at _ _ hj,hej,zdd (by omega),ku,if_pos (by omega),show ((k : Int) + 1).toNat - 1 = k by omega,h1] at h2
 cases h2
def zdq : List Nat → Nat
 | [] => 1
 | a :: l => a * zdq l
theorem zi9 : ∀ k : Nat,(k + 1) * (3 * 2 ^ k) ≤ 4 * 3 ^ k
 | 0 => by decide
 | 1 => by decide
 | k + 2 => by
  have ih:=zi9 (k + 1)
  have e1 : (2 : Nat) ^ (k + 2) = 2 * 2 ^ (k + 1):=by rw [Nat.pow_succ,Nat.mul_comm]
  have e2 : (3 : Nat) ^ (k + 2) = 3 * 3 ^ (k + 1):=by rw [Nat.pow_succ,Nat.mul_comm]
  rw [e1,e2]
  generalize (2 : Nat) ^ (k + 1) = a at ih
  generalize (3 : Nat) ^ (k + 1) = b at ih
  have h1 : (k + 2 + 1) * (3 * (2 * a)) = (2 * (k + 3)) * (3 * a):=by
   rw [show 3 * (2 * a) = 2 * (3 * a) by omega,← Nat.mul_assoc,Nat.mul_comm (k + 2 + 1) 2]
  have h2 : (2 * (k + 3)) * (3 * a) ≤ (3 * (k + 1 + 1)) * (3 * a):=Nat.mul_le_mul_right _ (by omega)
  have h3 : (3 * (k + 1 + 1)) * (3 * a) = 3 * ((k + 1 + 1) * (3 * a)):=Nat.mul_assoc ..
  omega
theorem zi5 : ∀ ks : List Nat,zdq (ks.map (· + 1)) * (3 ^ ks.length * 2 ^ ks.sum) ≤ 4 ^ ks.length * 3 ^ ks.sum
 | [] => by simp [zdq]
 | k :: ks => by
  have ih:=zi5 ks
  have h:=zi9 k
  have:=Nat.mul_le_mul h ih
  simp only [List.map_cons,zdq,List.length_cons,List.sum_cons,Nat.pow_succ,Nat.pow_add]
  calc (k + 1) * zdq (ks.map (· + 1)) * (3 ^ ks.length * 3 * (2 ^ k * 2 ^ ks.sum))
   = ((k + 1) * (3 * 2 ^ k)) * (zdq (ks.map (· + 1)) * (3 ^ ks.length * 2 ^ ks.sum)):=by ac_rfl
   _ ≤ (4 * 3 ^ k) * (4 ^ ks.length * 3 ^ ks.sum):=this
   _ = 4 ^ ks.length * 4 * (3 ^ k * 3 ^ ks.sum):=by ac_rfl
theorem zjG : ∀ L < 9,∀ S < 13,¬ 1297 * (3 ^ L * 2 ^ S) ≤ 4 ^ L * 3 ^ S:=by decide
theorem zpV {ks : List Nat} (h1 : ks.length ≤ 8) (h2 : ks.sum ≤ 12) : zdq (ks.map (· + 1)) ≤ 1296:=by
 rcases Nat.lt_or_ge 1296 (zdq (ks.map (· + 1))) with h | h
 · exact absurd (Nat.le_trans (Nat.mul_le_mul_right _ h) (zi5 ks)) (zjG _ (by omega) _ (by omega))
 · exact h
def zmL : List (List Nat) → List (List (Option Nat))
 | [] => [[]]
 | g :: gs => (zmL gs).flatMap fun v => (none :: g.map some).map (· :: v)
theorem zeL {α β : Type} (f : α → List β) (k : Nat) (h : ∀ x,(f x).length = k) : ∀ l : List α,(l.flatMap f).length = k * l.length
 | [] => by simp
 | x :: l => by rw [List.flatMap_cons,List.length_append,h,zeL f k h l,List.length_cons,Nat.mul_succ];omega
theorem zib : ∀ gs : List (List Nat),(zmL gs).length = zdq ((gs.map List.length).map (· + 1))
 | [] => rfl
 | g :: gs => by
  unfold zmL
  rw [zeL _ (g.length + 1) (fun x => by simp),zib gs]
  rfl
def zcy (c : List Int) (j : Nat) : Bool:=decide (-((j : Int) + 1) ∈ c)
def zb8 (c : List Int) (g : List Nat) : Option Nat:=g.find? (zcy c)
theorem zcT (c : List Int) (g : List Nat) : zb8 c g = none ∨ ∃ j ∈ g,zcy c j = true ∧ zb8 c g = some j:=by
 unfold zb8
 cases h : g.find? (zcy c) with
 | none => exact .inl rfl
 | some j => exact .inr ⟨j,List.mem_of_find?_eq_some h,List.find?_some h,rfl⟩
theorem zjw (c : List Int) : ∀ gs : List (List Nat),gs.map (zb8 c) ∈ zmL gs
 | [] => List.mem_singleton.2 rfl
 | g :: gs => by
  unfold zmL
  refine List.mem_flatMap.2 ⟨_,zjw c gs,List.mem_map.2 ⟨zb8 c g,?_,rfl⟩⟩
  rcases zcT c g with h | ⟨j,hj,_,h⟩
  · rw [h];exact List.mem_cons_self ..
  · rw [h];exact List.mem_cons_of_mem _ (List.mem_map.2 ⟨j,hj,rfl⟩)
theorem zgc {c d : List Int} : ∀ {m : Nat},(∀ j,j < m → zcy c j = zcy d j) → code c m = code d m
 | 0,_ => rfl
 | m + 1,h => by
  have ih:=zgc (m:=m) (fun j hj => h j (by omega))
  have h1:=h m (by omega)
  have e : c.contains (-((m : Int) + 1)) = d.contains (-((m : Int) + 1)):=by
   unfold zcy at h1
   rw [Bool.eq_iff_iff,List.contains_iff_mem,List.contains_iff_mem]
   simpa using h1
  simp only [code,ih,e]
def zb3 (x : ByteArray) (l : List ByteArray) : Bool:=l.any fun y => decide (y = x)
theorem zf1 {x : ByteArray} {l : List ByteArray} : zb3 x l = true ↔ x ∈ l:=by
 unfold zb3
 rw [List.any_eq_true]
 exact ⟨fun ⟨y, hy, e⟩ => by have : y = x := by simpa using e
                             rw [← this];exact hy,fun h => ⟨x,h,by simp⟩⟩
theorem zel (x y : ByteArray) (l : List ByteArray) : zb3 x (y :: l) = (decide (y = x) || zb3 x l):=rfl
def zeE : List ByteArray → List ByteArray
 | [] => []
 | x :: l => if zb3 x (zeE l) = true then zeE l else x :: zeE l
theorem zbI {x : ByteArray} : ∀ {l : List ByteArray},x ∈ zeE l ↔ x ∈ l
 | [] => Iff.rfl
 | y :: l => by
  rw [zeE]
  split
  ·
   rename_i h
   rw [zbI,List.mem_cons]
   exact ⟨.inr,fun q => q.elim (fun e => by rw [e];exact zbI.1 (zf1.1 h)) id⟩
  · rw [List.mem_cons,List.mem_cons,zbI]
theorem zbn : ∀ l : List ByteArray,(zeE l).Nodup
 | [] => List.nodup_nil
 | y :: l => by
  rw [zeE]
  split
  · exact zbn l
  ·
   rename_i h
   exact List.nodup_cons.2 ⟨fun q => h (zf1.2 q),zbn l⟩
def jh (f : Nat → ByteArray) (n : Nat) (nm : ByteArray) : List Nat:=(List.range n).filter fun j => decide (f j = nm)
theorem zha (f : Nat → ByteArray) (n : Nat) : ∀ ns : List ByteArray,ns.Nodup → ((ns.map (jh f n)).map List.length).sum ≤ ((List.range n).filter fun j => zb3 (f j) ns).length
 | [],_ => by simp
 | nm :: ns,h => by
  rw [List.nodup_cons] at h
  have ih:=zha f n ns h.2
  rw [List.map_cons,List.map_cons,List.sum_cons]
  have key : ∀ l : List Nat,(l.filter fun j => decide (f j = nm)).length + (l.filter fun j => zb3 (f j) ns).length ≤ (l.filter fun j => zb3 (f j) (nm :: ns)).length:=by
   intro l
   induction l with
   | nil => simp
   | cons j l ihl =>
    by_cases h1 : f j = nm
    ·
     have h2 : ¬ zb3 (f j) ns = true:=by rw [zf1,h1];exact h.1
     rw [List.filter_cons_of_pos (by simp [h1]),List.filter_cons_of_neg (p:=fun j => zb3 (f j) ns) h2,List.filter_cons_of_pos (p:=fun j => zb3 (f j) (nm :: ns)) (by rw [zel,h1];simp)]
     simp only [List.length_cons];omega
    ·
     have h1' : ¬ nm = f j:=fun e => h1 e.symm
     by_cases h2 : zb3 (f j) ns = true
     ·
      rw [List.filter_cons_of_neg (by simp [h1]),List.filter_cons_of_pos (p:=fun j => zb3 (f j) ns) h2,List.filter_cons_of_pos (p:=fun j => zb3 (f j) (nm :: ns)) (by rw [zel,h2];simp)]
      simp only [List.length_cons];omega
     ·
      rw [List.filter_cons_of_neg (by simp [h1]),List.filter_cons_of_neg (p:=fun j => zb3 (f j) ns) h2,List.filter_cons_of_neg (p:=fun j => zb3 (f j) (nm :: ns)) (by rw [zel];simp [h1',h2])]
      exact ihl
  have:=key (List.range n)
  unfold jh at ih ⊢
  omega
theorem zow {f : Nat → ByteArray} {n : Nat} {ns : List ByteArray} (h1 : ns.Nodup) (h2 : ns.length ≤ 8) (h3 : n ≤ 12) (hin : ∀ j,j < n → f j ∈ ns) {cs : List (List Int)} (hc : (cs.map (code · n)).Nodup)
 (hi : ∀ c ∈ cs,∀ i k,i < n → k < n → zcy c i = true → zcy c k = true → f i = f k → i = k) : cs.length ≤ 1296:=by
 have gs_len : ((ns.map (jh f n)).map List.length).sum ≤ 12:=by
  have:=zha f n ns h1
  have h4:=List.length_filter_le (fun j => zb3 (f j) ns) (List.range n)
  rw [List.length_range] at h4
  omega
 have hnd : (cs.map fun c => (ns.map (jh f n)).map (zb8 c)).Nodup:=by
  rw [List.Nodup,List.pairwise_map] at hc ⊢
  refine (List.pairwise_iff_forall_sublist.2 fun {c d} hs e => ?_)
  have hne:=List.pairwise_iff_forall_sublist.1 hc hs
  have hcm : c ∈ cs:=hs.subset (by simp)
  have hdm : d ∈ cs:=hs.subset (by simp)
  have half : ∀ {c d : List Int},c ∈ cs → d ∈ cs → ((ns.map (jh f n)).map (zb8 c) = (ns.map (jh f n)).map (zb8 d)) → ∀ j,j < n → zcy c j = true → zcy d j = true:=fun {c d} hc hd e j hj hm => by
   have hg : j ∈ jh f n (f j):=List.mem_filter.2 ⟨List.mem_range.2 hj,by simp⟩
   have hgm : jh f n (f j) ∈ ns.map (jh f n):=List.mem_map.2 ⟨_,hin j hj,rfl⟩
   have e2 : zb8 c (jh f n (f j)) = zb8 d (jh f n (f j)):=List.map_inj_left.1 e _ hgm
   have e3 : zb8 c (jh f n (f j)) = some j:=by
    rcases zcT c (jh f n (f j)) with h | ⟨k,hk,hmk,h⟩
    ·
     have:=List.find?_eq_none.1 h j hg
     exact absurd hm this
    ·
     have hk2:=List.mem_filter.1 hk
     have : k = j:=hi c hc k j (List.mem_range.1 hk2.1) hj hmk hm (by simpa using hk2.2)
     rw [h,this]
   rw [e2] at e3
   rcases zcT d (jh f n (f j)) with h | ⟨k,hk,hmk,h⟩
   · rw [h] at e3;cases e3
   · rw [h] at e3;cases e3;exact hmk
  refine hne (zgc fun j hj => ?_)
  cases h5 : zcy c j <;> cases h6 : zcy d j
  · rfl
  · rw [half hdm hcm e.symm j hj h6] at h5;cases h5
  · rw [half hcm hdm e j hj h5] at h6;cases h6
  · rfl
 have:=kR hnd (m:=zmL (ns.map (jh f n))) (fun v hv => by
  obtain ⟨c,_,rfl⟩:=List.mem_map.1 hv
  exact zjw c _)
 rw [List.length_map,zib] at this
 exact Nat.le_trans this (zpV (by simpa using h2) gs_len)
theorem zpH {n : Nat} {items : List zA} {i k : Nat} (hik : i < k) (hk : k < n) (he : (xG items i).1 = (xG items k).1) : (-1,[-(i : Int) - 1,-(k : Int) - 1]) ∈ jJ n items:=by
 unfold jJ
 refine List.mem_flatMap.2 ⟨k,List.mem_range.2 hk,?_⟩
 unfold za6
 exact List.mem_map.2 ⟨i,List.mem_filter.2 ⟨List.mem_range.2 hik,by simp [he]⟩,rfl⟩
theorem zkk {ls : List zm} {items : List zA} (ho : zbu ls items) (h12 : items.length ≤ 12) (some : List Bool) : ziQ items.length (za9 (zJ ls items) some):=fun cs hc hcs => by
 have hex : ∀ i k,i < k → k < items.length → (xG items i).1 = (xG items k).1 → [-(i : Int) - 1,-(k : Int) - 1] ∈ za9 (zJ ls items) some:=fun i k h1 h2 h3 => by
  unfold za9
  exact List.mem_map.2 ⟨_,List.mem_filter.2 ⟨List.mem_append_left _ (zpH h1 h2 h3),rfl⟩,rfl⟩
 have hno : ∀ c ∈ cs,∀ i k,i < k → k < items.length → zcy c i = true → zcy c k = true → (xG items i).1 = (xG items k).1 → False:=fun c hcm i k h1 h2 h3 h4 h5 => by
  have e1 : -((i : Int) + 1) ∈ c:=by simpa [zcy] using h3
  have e2 : -((k : Int) + 1) ∈ c:=by simpa [zcy] using h4
  have hm:=hex i k h1 h2 h5
  rw [show -(i : Int) - 1 = -((i : Int) + 1) by omega,show -(k : Int) - 1 = -((k : Int) + 1) by omega] at hm
  have:=(hcs c hcm _ e1).2.2 _ e2 hm
  omega
 have hlen:=zow (f:=fun j => (xG items j).1) (n:=items.length) (ns:=zeE (items.map (·.1))) (zbn _) (ho.names _ (zbn _) (fun nm hnm => by
  obtain ⟨it,hit,rfl⟩:=List.mem_map.1 (zbI.1 hnm)
  have h1:=ho.perm.mem_iff.1 hit
  unfold zM at h1
  obtain ⟨x,hx,rfl⟩:=List.mem_map.1 h1
  obtain ⟨h2,h3⟩:=List.mem_filter.1 hx
  exact ⟨x,h2,by simpa using h3,rfl⟩)) h12 (fun j hj => zbI.2 (List.mem_map.2 ⟨xG items j,by rw [zbq hj];exact List.getElem_mem hj,rfl⟩)) (by simpa using hc) (fun c hcm i k hi hk h1 h2 h3 => by
  rcases Nat.lt_trichotomy i k with h | h | h
  · exact (hno c hcm i k h hk h1 h2 h3).elim
  · exact h
  · exact (hno c hcm k i h hi h2 h1 h3.symm).elim)
 omega
