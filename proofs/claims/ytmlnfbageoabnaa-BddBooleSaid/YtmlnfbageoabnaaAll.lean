/- Contract: (*bdd.Space).All. -/
import Derived.Test.YtmlnfbageoabnaaCap
namespace Go.Proofs.Ytmlnfbageoabnaa
open Go.RowKit
set_option linter.unusedVariables false

theorem all_snoc {l : List Int} {k : Nat} (hk : k < l.length) (D : Int → Fn1) (val : Int → Bool) : (l.take (k + 1)).all (fun h => D h val) = ((l.take k).all (fun h => D h val) && D l[k] val) := by
  rw [List.take_succ_eq_append_getElem hk, List.all_append]; simp

set_option maxHeartbeats 2000000 in
theorem All_any (V : Int) (hV : V ≤ 24) (vs : Value) (l : List Int) (w : World) (s : Sb) (st : Sp) (hs : IsSpace w s V st) (so : SOk V st) (hv : ∀ w', Only s.mem w w' → IsInts w' vs l) (hh : ∀ h ∈ l, hasM st.c h = true) (hr : cnt st.c + l.length * 2 ^ V.toNat ≤ st.c.length + 1) :
    Calls Try.prog 41 #[.pointer (some ⟨s.ps, 0, none⟩), vs] w fun e w' => ∃ (st' : Sp) (x : Int), e = .returned (.tuple #[.int .i64 x, .nilIface]) ∧ IsSpace w' s V st' ∧ Only s.mem w w' ∧ Up V st st' (l.length * 2 ^ V.toNat) ∧ Means st' x (fun val => l.all fun h => den st.c h val) := by
  obtain ⟨a, c, rfl, hl1, hl2, hl3⟩ := (hv w (Only.refl _ _)).shape
  have Hs := Lib.hid hs; have Hso := Lib.hid so; have Hv := Lib.hid hv; have Hh := Lib.hid hh; have Hr := Lib.hid hr
  clear hs so hv hh hr
  go_enter Try.func41, Try.ntmps41
  go_wp2_with fail
  go_loopg [6, 12] l.length (fun gk o i wr => ∃ (k : Nat) (st' : Sp) (x : Int), k ≤ l.length ∧ gk = l.length - k ∧ i = .int .i64 k ∧ o = .int .i64 x ∧ IsSpace wr s V st' ∧ Only s.mem w wr ∧ Up V st st' (k * 2 ^ V.toNat) ∧ Means st' x (fun val => (l.take k).all fun h => den st.c h val))
  case atStart => exact ⟨0, st, 1, Nat.zero_le _, rfl, rfl, rfl, Hs.out, Only.refl _ _, by simpa using Up.refl Hso.out, ⟨hasM_one _, fun val => by simpa using den_one _ val⟩⟩
  case round =>
    clear Hs
    obtain ⟨k, st1, x, hk, rfl, rfl, rfl, hs, ho, hu, hm⟩ := hrel
    by_cases hlt : k < l.length
    · obtain ⟨b, of, rfl, lb⟩ := (Hv.out _ ho).addr hlt
      have hc := (Hv.out _ ho).get hlt
      have hlk := Hh.out _ (List.getElem_mem hlt)
      have hsn := all_snoc hlt (den st.c)
      have hmk := hu.means Hso.out (means_self hlk)
      have hro : cnt st1.c + 2 ^ V.toNat ≤ st1.c.length + 1 := by
        have h1 := hu.cnt; have h2 := hu.ext.len; have h3 := Hr.out
        have h4 : (k + 1) * 2 ^ V.toNat ≤ l.length * 2 ^ V.toNat := Nat.mul_le_mul_right _ hlt
        rw [Nat.add_mul, Nat.one_mul] at h4
        omega
      generalize l[k] = y at hc hlk hsn hmk
      have hq := And_any V hV x y wr s st1 hs hu.sok hm.has hmk.has hro
      have ok := iteX_ok hV hu.sok hm.has hmk.has (hasM_zero _) hro
      generalize iteX st1 x y 0 = R at hq ok
      have Hq := Lib.hid hq; have Ok := Lib.hid ok; have Ho := Lib.hid ho; have Hu := Lib.hid hu; have Hm := Lib.hid hm; have Hsn := Lib.hid hsn; have Hmk := Lib.hid hmk
      clear hq ok hs ho hu hm hsn hmk hro hlk
      go_wp2_with fail
      refine Hq.out.mono ?_
      rintro e w2 ⟨rfl, hs2, ho2⟩
      rw [Ok.out.err]
      simp only [errV, if_true]
      have Hs2 := Lib.hid hs2; have Ho2 := Lib.hid ho2; clear hs2 ho2
      go_wp2_with fail
      go_roundg (l.length - (k + 1))
      case measure => omega
      case rel =>
        refine ⟨k + 1, R.1, R.2.1, hlt, rfl, by go_num, rfl, Hs2.out, Ho.out.trans Ho2.out, ?_, Ok.out.has, fun val => ?_⟩
        · have := Hu.out.trans Ok.out.up
          rwa [Nat.add_mul, Nat.one_mul]
        · rw [Ok.out.den, Hm.out.den, Hmk.out.den, den_zero, Hsn.out val]
          cases (l.take k).all fun h => den st.c h val <;> simp
    · obtain rfl : k = l.length := by omega
      rw [List.take_length] at hm
      have Hs := Lib.hid hs; have Ho := Lib.hid ho; have Hu := Lib.hid hu; have Hm := Lib.hid hm
      clear hs ho hu hm
      go_wp2_with fail
      go_ret2
      exact ⟨st1, x, rfl, Hs.out, Ho.out, Hu.out, Hm.out⟩
end Go.Proofs.Ytmlnfbageoabnaa
