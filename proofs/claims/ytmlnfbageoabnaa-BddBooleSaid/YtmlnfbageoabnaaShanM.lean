/- Plain law: Shannon. -/
import Derived.Test.YtmlnfbageoabnaaSpaceF
namespace Go.Proofs.Ytmlnfbageoabnaa
set_option linter.unusedVariables false

theorem canon_den {V : Int} {st : Sp} (so : SOk V st) {h h' : Int} (hh : hasM st.c h = true) (hh' : hasM st.c h' = true) (he : ∀ val, den st.c h val = den st.c h' val) : h = h' := canon_eq so.ok so.red hh hh' he

/-- What BddShannon makes, one behind the other. -/
structure Shan (V : Int) (st : Sp) (f v : Int) (x a b g so o ea an : Sp × Int × Nat) : Prop where
  rx : x = litX st v true
  ra : a = setX x.1 f v true
  rb : b = setX a.1 f v false
  rg : g = iteX b.1 x.2.1 a.2.1 b.2.1
  rso : so = someX g.1 f v
  ro : o = iteX so.1 a.2.1 1 b.2.1
  rea : ea = eachX o.1 f v
  ran : an = iteX ea.1 a.2.1 b.2.1 0
  kx : ROk V st x (fun val => val v) 1
  ka : ROk V x.1 a (fun val => den st.c f (setV val v true)) (2 ^ v.toNat)
  kb : ROk V a.1 b (fun val => den st.c f (setV val v false)) (2 ^ v.toNat)
  kg : ROk V b.1 g (fun val => den st.c f val) (2 ^ V.toNat)
  kso : ROk V g.1 so (fun val => den st.c f (setV val v false) || den st.c f (setV val v true)) (2 * 2 ^ V.toNat)
  ko : ROk V so.1 o (fun val => den st.c f (setV val v false) || den st.c f (setV val v true)) (2 ^ V.toNat)
  kea : ROk V o.1 ea (fun val => den st.c f (setV val v false) && den st.c f (setV val v true)) (2 * 2 ^ V.toNat)
  kan : ROk V ea.1 an (fun val => den st.c f (setV val v false) && den st.c f (setV val v true)) (2 ^ V.toNat)
  eg : g.2.1 = f
  eo : so.2.1 = o.2.1
  ean : ea.2.1 = an.2.1

theorem shan_ok {V : Int} (hV : V ≤ 24) {st : Sp} {f v : Int} (h0 : 0 ≤ v) (h1 : v < V) (so : SOk V st) (hf : hasM st.c f = true) (hr : cnt st.c + 9 * 2 ^ V.toNat ≤ st.c.length) :
    ∃ x a b g sm o ea an, Shan V st f v x a b g sm o ea an := by
  have p := pow_half h0 h1
  have pv := Nat.two_pow_pos v.toNat
  have kx := litX_ok hV true h0 h1 so (by omega)
  obtain ⟨x, rx⟩ : ∃ x, x = litX st v true := ⟨_, rfl⟩
  rw [← rx] at kx
  have fx := kx.hasOld hf
  have cx := kx.cnt; have lx := kx.ext.len
  have ka := setX_ok hV true h0 h1 kx.sok fx (by omega)
  obtain ⟨a, ra⟩ : ∃ a, a = setX x.1 f v true := ⟨_, rfl⟩
  rw [← ra] at ka
  have ca := ka.cnt; have la := ka.ext.len
  have fa := ka.hasOld fx
  have kb := setX_ok hV false h0 h1 ka.sok fa (by omega)
  obtain ⟨b, rb⟩ : ∃ b, b = setX a.1 f v false := ⟨_, rfl⟩
  rw [← rb] at kb
  have cb := kb.cnt; have lb := kb.ext.len
  have fb := kb.hasOld fa
  have xb := kb.hasOld (ka.hasOld kx.has)
  have ab := kb.hasOld ka.has
  have kg := iteX_ok hV kb.sok xb ab kb.has (by omega)
  obtain ⟨g, rg⟩ : ∃ g, g = iteX b.1 x.2.1 a.2.1 b.2.1 := ⟨_, rfl⟩
  rw [← rg] at kg
  have cg := kg.cnt; have lg := kg.ext.len
  have fg := kg.hasOld fb
  have ksm := someX_ok hV h0 h1 kg.sok fg (by omega)
  obtain ⟨sm, rsm⟩ : ∃ y, y = someX g.1 f v := ⟨_, rfl⟩
  rw [← rsm] at ksm
  have csm := ksm.cnt; have lsm := ksm.ext.len
  have a2 := ksm.hasOld (kg.hasOld ab)
  have b2 := ksm.hasOld (kg.hasOld kb.has)
  have ko := iteX_ok hV ksm.sok a2 (hasM_one _) b2 (by omega)
  obtain ⟨o, ro⟩ : ∃ y, y = iteX sm.1 a.2.1 1 b.2.1 := ⟨_, rfl⟩
  rw [← ro] at ko
  have co := ko.cnt; have lo := ko.ext.len
  have kea := eachX_ok hV h0 h1 ko.sok (ko.hasOld (ksm.hasOld fg)) (by omega)
  obtain ⟨ea, rea⟩ : ∃ y, y = eachX o.1 f v := ⟨_, rfl⟩
  rw [← rea] at kea
  have cea := kea.cnt; have lea := kea.ext.len
  have kan := iteX_ok hV kea.sok (kea.hasOld (ko.hasOld a2)) (kea.hasOld (ko.hasOld b2)) (hasM_zero _) (by omega)
  obtain ⟨an, ran⟩ : ∃ y, y = iteX ea.1 a.2.1 b.2.1 0 := ⟨_, rfl⟩
  rw [← ran] at kan
  have ka' := ka.of (r' := a) (D' := fun val => den st.c f (setV val v true)) rfl (fun val => old_den kx so hf _)
  have kb' := kb.of (r' := b) (D' := fun val => den st.c f (setV val v false)) rfl (fun val => (old_den ka kx.sok fx _).trans (old_den kx so hf _))
  have da : ∀ val, den b.1.c a.2.1 val = den st.c f (setV val v true) := fun val => (old_den kb ka.sok ka.has _).trans (ka'.den val)
  have kg' := kg.of (r' := g) (D' := fun val => den st.c f val) rfl (fun val => by
    rw [old_den kb ka.sok (ka.hasOld kx.has), old_den ka kx.sok kx.has, kx.den, da, kb'.den]
    cases e : val v
    · rw [if_neg (by decide), ← e, setV_self]
    · rw [if_pos (by decide), ← e, setV_self])
  have dfb : ∀ val, den b.1.c f val = den st.c f val := fun val => (old_den kb ka.sok fa _).trans ((old_den ka kx.sok fx _).trans (old_den kx so hf _))
  have dfg : ∀ val, den g.1.c f val = den st.c f val := fun val => (old_den kg kb.sok fb _).trans (dfb val)
  have ks' := ksm.of (r' := sm) (D' := fun val => den st.c f (setV val v false) || den st.c f (setV val v true)) rfl (fun val => by rw [dfg, dfg])
  have das : ∀ val, den sm.1.c a.2.1 val = den st.c f (setV val v true) := fun val => (old_den ksm kg.sok (kg.hasOld ab) _).trans ((old_den kg kb.sok ab _).trans (da val))
  have dbs : ∀ val, den sm.1.c b.2.1 val = den st.c f (setV val v false) := fun val => (old_den ksm kg.sok (kg.hasOld kb.has) _).trans ((old_den kg kb.sok kb.has _).trans (kb'.den val))
  have ko' := ko.of (r' := o) (D' := fun val => den st.c f (setV val v false) || den st.c f (setV val v true)) rfl (fun val => by
    rw [das, dbs, den_one]; cases den st.c f (setV val v true) <;> simp)
  have dfo : ∀ val, den o.1.c f val = den st.c f val := fun val => (old_den ko ksm.sok (ksm.hasOld fg) _).trans ((old_den ksm kg.sok fg _).trans (dfg val))
  have ke' := kea.of (r' := ea) (D' := fun val => den st.c f (setV val v false) && den st.c f (setV val v true)) rfl (fun val => by rw [dfo, dfo])
  have kn' := kan.of (r' := an) (D' := fun val => den st.c f (setV val v false) && den st.c f (setV val v true)) rfl (fun val => by
    rw [old_den kea ko.sok (ko.hasOld a2), old_den kea ko.sok (ko.hasOld b2), old_den ko ksm.sok a2, old_den ko ksm.sok b2, das, dbs, den_zero]
    cases den st.c f (setV val v true) <;> simp)
  refine ⟨x, a, b, g, sm, o, ea, an, rx, ra, rb, rg, rsm, ro, rea, ran, kx.of rfl (fun val => by simp), ka', kb', kg', ks', ko', ke', kn', ?_, ?_, ?_⟩
  · exact canon_den kg.sok kg.has fg (fun val => (kg'.den val).trans (dfg val).symm)
  · exact canon_den ko.sok (ko.hasOld ksm.has) ko.has (fun val => (old_den ko ksm.sok ksm.has _).trans ((ks'.den val).trans (ko'.den val).symm))
  · exact canon_den kan.sok (kan.hasOld kea.has) kan.has (fun val => (old_den kan kea.sok kea.has _).trans ((ke'.den val).trans (kn'.den val).symm))
end Go.Proofs.Ytmlnfbageoabnaa
