/- Plain law: the families that are made of two, thing by thing; what they cost. No program in sight. -/
import Derived.Test.YtmlnfbageoabnaaFamC
namespace Go.Proofs.Ytmlnfbageoabnaa
set_option linter.unusedVariables false

inductive Kd
  | or | and | less | join | free
def Sub (t s : St) : Prop := ∀ u, t u = true → s u = true
def cupS (a b : St) : St := fun u => a u || b u
def Kd.sem : Kd → Fam → Fam → Fam
  | .or, F, G => fun s => F s ∨ G s
  | .and, F, G => fun s => F s ∧ G s
  | .less, F, G => fun s => F s ∧ ¬ G s
  | .join, F, G => fun s => ∃ a b, F a ∧ G b ∧ s = cupS a b
  | .free, F, G => fun s => F s ∧ ∀ t, G t → ¬ Sub t s
def Kd.ends : Kd → Int → Int → Option Int
  | .or, a, b => if a = 0 ∨ a = b then some b else if b = 0 then some a else none
  | .and, a, b => if a = 0 ∨ b = 0 then some 0 else if a = b then some a else none
  | .less, a, b => if a = 0 ∨ a = b then some 0 else if b = 0 then some a else none
  | .join, a, b => if a = 0 ∨ b = 0 then some 0 else if a = 1 then some b else if b = 1 then some a else none
  | .free, a, b => if b = 0 then some a else if b = 1 ∨ a = 0 ∨ a = b then some 0 else none

theorem Kd.sem_congr (k : Kd) {F F' G G' : Fam} (hF : ∀ s, F s ↔ F' s) (hG : ∀ s, G s ↔ G' s) (s : St) : k.sem F G s ↔ k.sem F' G' s := by
  cases k <;> simp only [Kd.sem, hF, hG]
theorem mixF_congr {v : Int} {F F' G G' : Fam} (hF : ∀ s, F s ↔ F' s) (hG : ∀ s, G s ↔ G' s) (s : St) : mixF v F G s ↔ mixF v F' G' s := by
  unfold mixF; split
  · exact hG _
  · exact hF _
theorem cup_none (a : St) (h : ∀ u, a u = false) (b : St) : cupS a b = b := by funext u; unfold cupS; rw [h u]; simp
theorem cup_comm (a b : St) : cupS a b = cupS b a := by funext u; unfold cupS; exact Bool.or_comm _ _
theorem cup_assoc (a b c : St) : cupS (cupS a b) c = cupS a (cupS b c) := by funext u; unfold cupS; exact Bool.or_assoc _ _ _

theorem ends_sound {c : Cells} (o : Ok c) (k : Kd) {a b x : Int} (ha : hasM c a = true) (hb : hasM c b = true) (e : k.ends a b = some x) :
    hasM c x = true ∧ (∀ s, Z c x s ↔ k.sem (Z c a) (Z c b) s) ∧ min (topM c a) (topM c b) ≤ topM c x := by
  have t0 : topM c 0 = 24 := top_end (getM_end c (.inl rfl))
  have la := topM_le o a
  have lb := topM_le o b
  have h0 := hasM_zero c
  have z0 := fun s => Z_zero c s
  have z1 := fun s => Z_one c s
  cases k <;> simp only [Kd.ends] at e
  · split at e
    · rename_i h; cases e
      refine ⟨hb, fun s => ?_, by omega⟩
      rcases h with rfl | rfl
      · simp only [Kd.sem]; exact ⟨.inr, fun h => h.resolve_left (z0 s)⟩
      · simp only [Kd.sem, or_self]
    · split at e
      · rename_i h; cases e; subst h
        refine ⟨ha, fun s => ?_, by omega⟩
        simp only [Kd.sem]; exact ⟨.inl, fun h => h.resolve_right (z0 s)⟩
      · cases e
  · split at e
    · rename_i h; cases e
      refine ⟨h0, fun s => ⟨fun h => absurd h (z0 s), fun h2 => ?_⟩, by omega⟩
      rcases h with rfl | rfl
      · exact h2.1
      · exact h2.2
    · split at e
      · rename_i h; cases e; subst h
        exact ⟨ha, fun s => ⟨fun h => ⟨h, h⟩, fun h => h.1⟩, by omega⟩
      · cases e
  · split at e
    · rename_i h; cases e
      refine ⟨h0, fun s => ⟨fun h => absurd h (z0 s), fun h2 => ?_⟩, by omega⟩
      rcases h with rfl | rfl
      · exact h2.1
      · exact absurd h2.1 h2.2
    · split at e
      · rename_i h; cases e; subst h
        exact ⟨ha, fun s => ⟨fun h => ⟨h, z0 s⟩, fun h => h.1⟩, by omega⟩
      · cases e
  · split at e
    · rename_i h; cases e
      refine ⟨h0, fun s => ⟨fun h => absurd h (z0 s), fun h2 => ?_⟩, by omega⟩
      obtain ⟨p, q, hp, hq, _⟩ := h2
      rcases h with rfl | rfl
      · exact absurd hp (z0 p)
      · exact absurd hq (z0 q)
    · split at e
      · rename_i h; cases e; subst h
        refine ⟨hb, fun s => ⟨fun h => ⟨fun _ => false, s, (z1 _).2 fun _ => rfl, h, (cup_none _ (fun _ => rfl) s).symm⟩, fun h => ?_⟩, by omega⟩
        obtain ⟨p, q, hp, hq, rfl⟩ := h
        rw [cup_none p ((z1 p).1 hp)]; exact hq
      · split at e
        · rename_i h; cases e; subst h
          refine ⟨ha, fun s => ⟨fun h => ⟨s, fun _ => false, h, (z1 _).2 fun _ => rfl, by rw [cup_comm, cup_none _ (fun _ => rfl) s]⟩, fun h => ?_⟩, by omega⟩
          obtain ⟨p, q, hp, hq, rfl⟩ := h
          rw [cup_comm, cup_none q ((z1 q).1 hq)]; exact hp
        · cases e
  · split at e
    · rename_i h; cases e; subst h
      exact ⟨ha, fun s => ⟨fun h => ⟨h, fun t ht => absurd ht (z0 t)⟩, fun h => h.1⟩, by omega⟩
    · split at e
      · rename_i h; cases e
        refine ⟨h0, fun s => ⟨fun h => absurd h (z0 s), fun h2 => ?_⟩, by omega⟩
        rcases h with rfl | rfl | rfl
        · exact absurd (fun u hu => by cases hu) (h2.2 (fun _ => false) ((z1 _).2 fun _ => rfl))
        · exact h2.1
        · exact absurd (fun u hu => hu) (h2.2 s h2.1)
      · cases e
/-- Where it is not known, there is a node. -/
theorem ends_none {V : Int} {c : Cells} (o : ZOk V c) (k : Kd) {a b : Int} (ha : hasM c a = true) (hb : hasM c b = true) (e : k.ends a b = none) : min (topM c a) (topM c b) < V ∧ 0 ≤ min (topM c a) (topM c b) := by
  have la := topM_le o.ok a
  have lb := topM_le o.ok b
  have key : ∀ {h : Int}, hasM c h = true → (h = 0 ∨ h = 1) ∨ topM c h < V := fun {h} hh => by
    rcases hasM_cases hh with e | e | ⟨k, n, e, h1, _⟩
    · exact .inl (.inl e)
    · exact .inl (.inr e)
    · right; subst e; rw [top_node (show getM c ((k : Int) + 2) = some n by rw [getM_node]; exact h1)]; exact o.vlt k n h1
  rcases key ha with h1 | h1
  · rcases key hb with h2 | h2
    · exfalso
      rcases h1 with rfl | rfl <;> rcases h2 with rfl | rfl <;> cases k <;> simp [Kd.ends] at e
    · omega
  · omega

/-! ### Thing by thing -/
theorem cup_at (a b : St) (v : Int) (x : Bool) : setV (cupS a b) v x = cupS (setV a v x) (setV b v x) := by
  funext u; unfold cupS setV; split <;> simp
theorem sub_off {t s : St} {v : Int} (h : t v = false) : Sub t (setV s v true) ↔ Sub t (setV s v false) := by
  constructor <;> intro hs u hu <;> have h1 := hs u hu <;> by_cases e : u = v
  · subst e; rw [h] at hu; cases hu
  · rw [setV_ne _ _ e] at h1 ⊢; exact h1
  · subst e; rw [h] at hu; cases hu
  · rw [setV_ne _ _ e] at h1 ⊢; exact h1
theorem sub_set {t s : St} {v : Int} : Sub (setV t v true) (setV s v true) ↔ Sub (setV t v false) (setV s v false) := by
  constructor <;> intro hs u hu <;> by_cases e : u = v
  · subst e; rw [setV_at] at hu; cases hu
  · have h1 := hs u (by rw [setV_ne _ _ e] at hu ⊢; exact hu); rw [setV_ne _ _ e] at h1 ⊢; exact h1
  · subst e; exact setV_at _ _ _
  · have h1 := hs u (by rw [setV_ne _ _ e] at hu ⊢; exact hu); rw [setV_ne _ _ e] at h1 ⊢; exact h1

theorem mix_or (v : Int) (F G : Fam) (s : St) : mixF v (Kd.or.sem (without v F) (without v G)) (Kd.or.sem (withV v F) (withV v G)) s ↔ Kd.or.sem F G s := by
  unfold mixF
  split
  · rename_i h; simp only [Kd.sem, withV, setV_at, setV_set, true_and, setV_back h]
  · rename_i h
    have h' : s v = false := by simpa using h
    simp only [Kd.sem, without, h', true_and]
theorem mix_and (v : Int) (F G : Fam) (s : St) : mixF v (Kd.and.sem (without v F) (without v G)) (Kd.and.sem (withV v F) (withV v G)) s ↔ Kd.and.sem F G s := by
  unfold mixF
  split
  · rename_i h; simp only [Kd.sem, withV, setV_at, setV_set, true_and, setV_back h]
  · rename_i h
    have h' : s v = false := by simpa using h
    simp only [Kd.sem, without, h', true_and]
theorem mix_less (v : Int) (F G : Fam) (s : St) : mixF v (Kd.less.sem (without v F) (without v G)) (Kd.less.sem (withV v F) (withV v G)) s ↔ Kd.less.sem F G s := by
  unfold mixF
  split
  · rename_i h; simp only [Kd.sem, withV, setV_at, setV_set, true_and, setV_back h]
  · rename_i h
    have h' : s v = false := by simpa using h
    simp only [Kd.sem, without, h', true_and]
theorem cup_false {a b : St} {v : Int} (h : cupS a b v = false) : a v = false ∧ b v = false := by
  unfold cupS at h; cases ha : a v <;> cases hb : b v <;> simp_all
theorem mix_join (v : Int) (F G : Fam) (s : St) :
    mixF v (Kd.join.sem (without v F) (without v G)) (Kd.or.sem (Kd.or.sem (Kd.or.sem (fun _ => False) (Kd.join.sem (withV v F) (withV v G))) (Kd.join.sem (withV v F) (without v G))) (Kd.join.sem (without v F) (withV v G))) s ↔ Kd.join.sem F G s := by
  unfold mixF
  split
  · rename_i h
    simp only [Kd.sem, false_or]
    constructor
    · rintro ((⟨a, b, ha, hb, e⟩ | ⟨a, b, ha, hb, e⟩) | ⟨a, b, ha, hb, e⟩)
      · refine ⟨setV a v true, setV b v true, ha.2, hb.2, ?_⟩
        rw [← cup_at, ← e, setV_set, setV_back h]
      · refine ⟨setV a v true, b, ha.2, hb.2, ?_⟩
        have : s = setV (cupS a b) v true := by rw [← e, setV_set, setV_back h]
        rw [this]; funext u; unfold cupS setV; split <;> simp
      · refine ⟨a, setV b v true, ha.2, hb.2, ?_⟩
        have : s = setV (cupS a b) v true := by rw [← e, setV_set, setV_back h]
        rw [this]; funext u; unfold cupS setV; split <;> simp
    · rintro ⟨a, b, ha, hb, rfl⟩
      have hv : ∀ (x : St), x v = true → withV v F (setV x v false) = F x := fun x hx => by unfold withV; rw [setV_at, setV_set, setV_back hx]; simp
      have hw : ∀ (x : St), x v = true → withV v G (setV x v false) = G x := fun x hx => by unfold withV; rw [setV_at, setV_set, setV_back hx]; simp
      cases h1 : a v <;> cases h2 : b v
      · exfalso; unfold cupS at h; rw [h1, h2] at h; cases h
      · refine .inr ⟨a, setV b v false, ⟨h1, ha⟩, by rw [hw b h2]; exact hb, ?_⟩
        rw [cup_at, setV_back h1]
      · refine .inl (.inr ⟨setV a v false, b, by rw [hv a h1]; exact ha, ⟨h2, hb⟩, ?_⟩)
        rw [cup_at, setV_back h2]
      · refine .inl (.inl ⟨setV a v false, setV b v false, by rw [hv a h1]; exact ha, by rw [hw b h2]; exact hb, ?_⟩)
        rw [cup_at]
  · rename_i h
    have h' : s v = false := by simpa using h
    simp only [Kd.sem]
    constructor
    · rintro ⟨a, b, ha, hb, e⟩; exact ⟨a, b, ha.2, hb.2, e⟩
    · rintro ⟨a, b, ha, hb, rfl⟩
      have := cup_false h'
      exact ⟨a, b, ⟨this.1, ha⟩, ⟨this.2, hb⟩, rfl⟩
theorem mix_free (v : Int) (F G : Fam) (s : St) :
    mixF v (Kd.free.sem (without v F) (without v G)) (Kd.free.sem (Kd.free.sem (withV v F) (without v G)) (withV v G)) s ↔ Kd.free.sem F G s := by
  unfold mixF
  split
  · rename_i h
    simp only [Kd.sem, withV, without, setV_at, setV_set, true_and, setV_back h]
    constructor
    · rintro ⟨⟨hF, h1⟩, h2⟩
      refine ⟨hF, fun t ht hs => ?_⟩
      cases hv : t v
      · exact h1 t ⟨hv, ht⟩ ((sub_off hv).1 (by rw [setV_back h]; exact hs))
      · refine h2 (setV t v false) ⟨setV_at _ _ _, by rw [setV_set, setV_back hv]; exact ht⟩ ?_
        rw [← sub_set, setV_back hv, setV_back h]; exact hs
    · rintro ⟨hF, h1⟩
      refine ⟨⟨hF, fun t ht hs => h1 t ht.2 ?_⟩, fun t ht hs => h1 _ ht.2 ?_⟩
      · have := (sub_off ht.1).2 hs; rwa [setV_back h] at this
      · have : Sub (setV t v true) (setV s v true) := sub_set.2 (by rw [setV_back ht.1]; exact hs)
        rwa [setV_back h] at this
  · rename_i h
    have h' : s v = false := by simpa using h
    simp only [Kd.sem, without, h', true_and]
    constructor
    · rintro ⟨hF, h1⟩
      refine ⟨hF, fun t ht hs => ?_⟩
      cases hv : t v
      · exact h1 t ⟨hv, ht⟩ hs
      · have := hs v hv; rw [h'] at this; cases this
    · rintro ⟨hF, h1⟩
      exact ⟨hF, fun t ht => h1 t ht.2⟩

/-! ### What they cost -/
def costO : Nat → Nat
  | 0 => 0
  | d + 1 => 2 * costO d + 1
def costJ : Nat → Nat
  | 0 => 0
  | d + 1 => 4 * costJ d + 3 * costO d + 1
def costF : Nat → Nat
  | 0 => 0
  | d + 1 => 3 * costF d + 1
def Kd.cost : Kd → Nat → Nat
  | .join => costJ
  | .free => costF
  | _ => costO
theorem costO_mono : ∀ {a b : Nat}, a ≤ b → costO a ≤ costO b
  | 0, _, _ => by simp [costO]
  | a + 1, 0, h => absurd h (by omega)
  | a + 1, b + 1, h => by have := @costO_mono a b (by omega); simp only [costO]; omega
theorem costJ_mono : ∀ {a b : Nat}, a ≤ b → costJ a ≤ costJ b
  | 0, _, _ => by simp [costJ]
  | a + 1, 0, h => absurd h (by omega)
  | a + 1, b + 1, h => by have := @costJ_mono a b (by omega); have := @costO_mono a b (by omega); simp only [costJ]; omega
theorem costF_mono : ∀ {a b : Nat}, a ≤ b → costF a ≤ costF b
  | 0, _, _ => by simp [costF]
  | a + 1, 0, h => absurd h (by omega)
  | a + 1, b + 1, h => by have := @costF_mono a b (by omega); simp only [costF]; omega
theorem Kd.cost_mono (k : Kd) {a b : Nat} (h : a ≤ b) : k.cost a ≤ k.cost b := by
  cases k
  · exact costO_mono h
  · exact costO_mono h
  · exact costO_mono h
  · exact costJ_mono h
  · exact costF_mono h
theorem Kd.cost_le (k : Kd) {a : Nat} (h : a ≤ 3) : k.cost a ≤ 42 := by
  refine Nat.le_trans (k.cost_mono h) ?_
  cases k <;> decide
end Go.Proofs.Ytmlnfbageoabnaa
