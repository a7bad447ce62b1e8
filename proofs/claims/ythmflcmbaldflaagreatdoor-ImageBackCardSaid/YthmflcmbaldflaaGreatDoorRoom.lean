/- Plain law: there is room for steps. -/
import Derived.Test.YthmflcmbaldflaaGreatDoorFuns
namespace Go.Proofs.YthmflcmbaldflaaGreatDoor
set_option linter.unusedVariables false

/-- Room and order on the way; and what is left of the room. -/
theorem run_ok {V : Nat} (h1 : 1 ≤ V) (hV : V ≤ 24) : ∀ (l : List Stp) (st : Sp) (out : List Int), FOk V st out → cnt st.c + l.length * (2 * 2 ^ V) ≤ st.c.length + 1 →
    RoomX V l st out ∧ FOk V (funsX V l st out).1 (funsX V l st out).2 ∧ (funsX V l st out).1.c.length = st.c.length ∧ cnt (funsX V l st out).1.c ≤ cnt st.c + l.length * (2 * 2 ^ V) ∧ (funsX V l st out).2.length = out.length + l.length
  | [], st, out, f, hr => ⟨trivial, f, rfl, by simp [funsX], by simp [funsX]⟩
  | x :: l, st, out, f, hr => by
    rw [List.length_cons, Nat.add_mul, Nat.one_mul] at hr
    obtain ⟨D, h⟩ := stepX_ok h1 hV f x (by omega)
    have hc := h.cnt
    have hl := h.ext.len
    have fc := freeX_cnt (stepX V st out x).1 (out ++ [(stepX V st out x).2.1])
    have fl := freeX_len (stepX V st out x).1 (out ++ [(stepX V st out x).2.1])
    obtain ⟨a, b, c, d, e⟩ := run_ok h1 hV l _ _ (f.next h) (by omega)
    refine ⟨⟨by omega, a⟩, b, ?_, ?_, ?_⟩
    · exact c.trans (by omega)
    · refine Nat.le_trans d ?_
      rw [List.length_cons, Nat.add_mul, Nat.one_mul]; omega
    · refine e.trans ?_
      simp; omega
end Go.Proofs.YthmflcmbaldflaaGreatDoor
