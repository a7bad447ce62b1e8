/- Plain law RangeBoole: by members. No program in sight. -/
import Derived.Test.YtpnchjbdjcihfaaGreatDoorRngM
namespace Go.Proofs.YtpnchjbdjcihfaaGreatDoor
set_option linter.unusedVariables false

variable {r s t : List Spn}
theorem boole_morgan {x n nr ns o : List Spn} (hr : Canon r) (hs : Canon s) (h1 : AndR r s x) (h2 : NotR x n) (h3 : NotR r nr) (h4 : NotR s ns) (h5 : OrR nr ns o) : n = o :=
  Canon.ext h2.1 h5.1 (fun k => by
    rw [h2.2, h1.2, h5.2, h3.2, h4.2]
    constructor
    · rintro ⟨q1, q2⟩
      by_cases q3 : inL r k
      · exact .inr ⟨q1, fun q4 => q2 ⟨q3, q4⟩⟩
      · exact .inl ⟨q1, q3⟩
    · rintro (⟨q1, q2⟩ | ⟨q1, q2⟩)
      · exact ⟨q1, fun q3 => q2 q3.1⟩
      · exact ⟨q1, fun q3 => q2 q3.2⟩)
theorem boole_twice {n nn : List Spn} (hr : Canon r) (h1 : NotR r n) (h2 : NotR n nn) : nn = r :=
  Canon.ext h2.1 hr (fun k => by
    rw [h2.2, h1.2]
    constructor
    · rintro ⟨q1, q2⟩
      exact Classical.byContradiction fun q3 => q2 ⟨q1, q3⟩
    · intro q
      exact ⟨hr.bound q, fun q3 => q3.2 q⟩)
theorem boole_dist {st x rs rt o : List Spn} (h1 : OrR s t st) (h2 : AndR r st x) (h3 : AndR r s rs) (h4 : AndR r t rt) (h5 : OrR rs rt o) : x = o :=
  Canon.ext h2.1 h5.1 (fun k => by
    rw [h2.2, h1.2, h5.2, h3.2, h4.2]
    constructor
    · rintro ⟨q1, q2 | q2⟩
      · exact .inl ⟨q1, q2⟩
      · exact .inr ⟨q1, q2⟩
    · rintro (⟨q1, q2⟩ | ⟨q1, q2⟩)
      · exact ⟨q1, .inl q2⟩
      · exact ⟨q1, .inr q2⟩)
theorem boole_all {n o : List Spn} (hr : Canon r) (h1 : NotR r n) (h2 : OrR r n o) : o = [(0, pastV)] :=
  Canon.ext h2.1 Canon.any (fun k => by
    rw [h2.2, h1.2, inL_one]
    constructor
    · rintro (q | q)
      · exact hr.bound q
      · exact q.1
    · intro q
      by_cases q2 : inL r k
      · exact .inl q2
      · exact .inr ⟨q, q2⟩)
theorem boole_none {n x : List Spn} (h1 : NotR r n) (h2 : AndR r n x) : x = [] :=
  Canon.ext h2.1 Canon.nil (fun k => by
    rw [h2.2, h1.2]
    exact ⟨fun q => absurd q.1 q.2.2, fun q => absurd q (inL_nil k)⟩)
theorem boole_comm {a b : List Spn} (h1 : OrR r s a) (h2 : OrR s r b) : a = b :=
  Canon.ext h1.1 h2.1 (fun k => by rw [h1.2, h2.2]; exact Or.comm)
end Go.Proofs.YtpnchjbdjcihfaaGreatDoor
