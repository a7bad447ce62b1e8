/- The walk of NatField, whatever the input. -/
import Derived.Test.YtdeaficdfooegaaDoorNatField
import Derived.Test.YtdeaficdfooegaaDoorNatBad
namespace Go.Proofs.YtdeaficdfooegaaDoor
open Go.RowKit
set_option linter.unusedVariables false

theorem _root_.Go.RowKit.Below.step {w wr w2 : World} (h : Below w.heap.size w wr) (hb : Below wr.heap.size wr w2) : Below w.heap.size w w2 := h.trans (hb.mono h.size)
theorem Parse_ok (s : ByteArray) (w : World) (hg : goodD s.data.toList = true ∧ s.size ≤ 100) :
    Calls Tryd.prog 8 #[.string s] w fun e w' => ∃ a n c, e = .returned (.tuple #[.agg #[.slice a n c], .nilIface]) ∧ Below w.heap.size w w' :=
  (Parse_good s w hg.1 hg.2).mono fun e w' ⟨v, he, hn, hb⟩ => by
    obtain ⟨a, c, rfl⟩ := hn.shape
    exact ⟨a, _, c, he, hb⟩
theorem Parse_no (s : ByteArray) (w : World) (hs : s.size ≤ 1000) (h : ¬ (goodD s.data.toList = true ∧ s.size ≤ 100)) :
    Calls Tryd.prog 8 #[.string s] w fun e w' => ∃ t v, e = .returned (.tuple #[.agg #[.slice none 0 0], .iface t v]) ∧ Below w.heap.size w w' :=
  (Parse_bad s w hs h).mono fun e w' ⟨k, he, hb⟩ => ⟨_, _, he, hb⟩
theorem Parse_two (s : ByteArray) (w : World) (hs : s.size ≤ 1000) :
    Calls Tryd.prog 8 #[.string s] w fun e w' => ∃ a n c er, e = .returned (.tuple #[.agg #[.slice a n c], er]) ∧ Below w.heap.size w w' := by
  by_cases h : goodD s.data.toList = true ∧ s.size ≤ 100
  · exact (Parse_ok s w h).mono fun e w' ⟨a, n, c, he, hb⟩ => ⟨a, n, c, _, he, hb⟩
  · exact (Parse_no s w hs h).mono fun e w' ⟨t, v, he, hb⟩ => ⟨_, _, _, _, he, hb⟩

section
variable (a b c : ByteArray) (times : Int) (w : World)
def NatTrue (w : World) (e : Ending) (w' : World) : Prop := e = .returned (.bool true) ∧ Below w.heap.size w w'
set_option maxRecDepth 100000
set_option maxHeartbeats 4000000
theorem NatField_bad1 (ha : a.size ≤ 120) (hb : b.size ≤ 120) (hc : c.size ≤ 120) (g : ¬ (goodD a.data.toList = true ∧ a.size ≤ 100)) :
    Calls Tryd.prog 3 #[.string a, .string b, .string c, .int .i64 times] w (NatTrue w) := by
  have h1 : decide (120 < (a.size : Int)) = false := by simp; omega
  have h2 : decide (120 < (b.size : Int)) = false := by simp; omega
  have h3 : decide (120 < (c.size : Int)) = false := by simp; omega
  have Pa := Lib.hid (fun w' => Parse_no a w' (by omega) g); have Pb := Lib.hid (fun w' => Parse_two b w' (by omega)); have Pc := Lib.hid (fun w' => Parse_two c w' (by omega))
  clear ha hb hc g
  go_enter Tryd.func3, Tryd.ntmps3
  go_wp2_with fail
  refine (Pa.out _).mono ?_
  rintro e w1 ⟨t1, v1, rfl, hb1⟩
  have B1 := Lib.hid (hb1.step (bel_alloc (.cells #[.slice none 0 0] 24))); clear hb1 Pa
  go_wp2_with fail
  refine (Pb.out _).mono ?_
  rintro e w2 ⟨a2, n2, c2, er2, rfl, hb2⟩
  have B2 := Lib.hid ((B1.out.step hb2).step (bel_alloc (.cells #[.slice a2 n2 c2] 24))); clear hb2 Pb B1
  go_wp2_with fail
  refine (Pc.out _).mono ?_
  rintro e w3 ⟨a3, n3, c3, er3, rfl, hb3⟩
  have B3 := Lib.hid ((B2.out.step hb3).step (bel_alloc (.cells #[.slice a3 n3 c3] 24))); clear hb3 Pc B2
  go_wp2_with fail
  refine (counts_any _).mono ?_
  rintro e w4 ⟨rfl, hb4⟩
  have B4 := Lib.hid (B3.out.step hb4); clear hb4 B3
  go_wp2_with fail
  refine (counts_any _).mono ?_
  rintro e w5 ⟨rfl, hb5⟩
  have B5 := Lib.hid (B4.out.step hb5); clear hb5 B4
  go_wp2_with fail
  go_ret
  exact ⟨rfl, B5.out⟩
theorem NatField_bad2 (ha : a.size ≤ 120) (hb : b.size ≤ 120) (hc : c.size ≤ 120) (g0 : goodD a.data.toList = true ∧ a.size ≤ 100) (g : ¬ (goodD b.data.toList = true ∧ b.size ≤ 100)) :
    Calls Tryd.prog 3 #[.string a, .string b, .string c, .int .i64 times] w (NatTrue w) := by
  have h1 : decide (120 < (a.size : Int)) = false := by simp; omega
  have h2 : decide (120 < (b.size : Int)) = false := by simp; omega
  have h3 : decide (120 < (c.size : Int)) = false := by simp; omega
  have Pa := Lib.hid (fun w' => Parse_ok a w' g0); have Pb := Lib.hid (fun w' => Parse_no b w' (by omega) g); have Pc := Lib.hid (fun w' => Parse_two c w' (by omega))
  clear ha hb hc g g0
  go_enter Tryd.func3, Tryd.ntmps3
  go_wp2_with fail
  refine (Pa.out _).mono ?_
  rintro e w1 ⟨a1, n1, c1, rfl, hb1⟩
  have B1 := Lib.hid (hb1.step (bel_alloc (.cells #[.slice a1 n1 c1] 24))); clear hb1 Pa
  go_wp2_with fail
  refine (Pb.out _).mono ?_
  rintro e w2 ⟨t2, v2, rfl, hb2⟩
  have B2 := Lib.hid ((B1.out.step hb2).step (bel_alloc (.cells #[.slice none 0 0] 24))); clear hb2 Pb B1
  go_wp2_with fail
  refine (Pc.out _).mono ?_
  rintro e w3 ⟨a3, n3, c3, er3, rfl, hb3⟩
  have B3 := Lib.hid ((B2.out.step hb3).step (bel_alloc (.cells #[.slice a3 n3 c3] 24))); clear hb3 Pc B2
  go_wp2_with fail
  refine (counts_any _).mono ?_
  rintro e w4 ⟨rfl, hb4⟩
  have B4 := Lib.hid (B3.out.step hb4); clear hb4 B3
  go_wp2_with fail
  refine (counts_any _).mono ?_
  rintro e w5 ⟨rfl, hb5⟩
  have B5 := Lib.hid (B4.out.step hb5); clear hb5 B4
  go_wp2_with fail
  go_ret
  exact ⟨rfl, B5.out⟩
theorem NatField_bad3 (ha : a.size ≤ 120) (hb : b.size ≤ 120) (hc : c.size ≤ 120) (g0 : goodD a.data.toList = true ∧ a.size ≤ 100) (g1 : goodD b.data.toList = true ∧ b.size ≤ 100) (g : ¬ (goodD c.data.toList = true ∧ c.size ≤ 100)) :
    Calls Tryd.prog 3 #[.string a, .string b, .string c, .int .i64 times] w (NatTrue w) := by
  have h1 : decide (120 < (a.size : Int)) = false := by simp; omega
  have h2 : decide (120 < (b.size : Int)) = false := by simp; omega
  have h3 : decide (120 < (c.size : Int)) = false := by simp; omega
  have Pa := Lib.hid (fun w' => Parse_ok a w' g0); have Pb := Lib.hid (fun w' => Parse_ok b w' g1); have Pc := Lib.hid (fun w' => Parse_no c w' (by omega) g)
  clear ha hb hc g g0 g1
  go_enter Tryd.func3, Tryd.ntmps3
  go_wp2_with fail
  refine (Pa.out _).mono ?_
  rintro e w1 ⟨a1, n1, c1, rfl, hb1⟩
  have B1 := Lib.hid (hb1.step (bel_alloc (.cells #[.slice a1 n1 c1] 24))); clear hb1 Pa
  go_wp2_with fail
  refine (Pb.out _).mono ?_
  rintro e w2 ⟨a2, n2, c2, rfl, hb2⟩
  have B2 := Lib.hid ((B1.out.step hb2).step (bel_alloc (.cells #[.slice a2 n2 c2] 24))); clear hb2 Pb B1
  go_wp2_with fail
  refine (Pc.out _).mono ?_
  rintro e w3 ⟨t3, v3, rfl, hb3⟩
  have B3 := Lib.hid ((B2.out.step hb3).step (bel_alloc (.cells #[.slice none 0 0] 24))); clear hb3 Pc B2
  go_wp2_with fail
  refine (counts_any _).mono ?_
  rintro e w4 ⟨rfl, hb4⟩
  have B4 := Lib.hid (B3.out.step hb4); clear hb4 B3
  go_wp2_with fail
  refine (counts_any _).mono ?_
  rintro e w5 ⟨rfl, hb5⟩
  have B5 := Lib.hid (B4.out.step hb5); clear hb5 B4
  go_wp2_with fail
  go_ret
  exact ⟨rfl, B5.out⟩
theorem NatField_long1 (h : 120 < a.size) : Calls Tryd.prog 3 #[.string a, .string b, .string c, .int .i64 times] w (NatTrue w) := by
  have h1 : decide (120 < (a.size : Int)) = true := by simp; omega
  clear h
  go_enter Tryd.func3, Tryd.ntmps3
  go_wp2_with fail
  go_ret
  exact ⟨rfl, Below.refl _ _⟩
theorem NatField_long2 (h0 : a.size ≤ 120) (h : 120 < b.size) : Calls Tryd.prog 3 #[.string a, .string b, .string c, .int .i64 times] w (NatTrue w) := by
  have h1 : decide (120 < (a.size : Int)) = false := by simp; omega
  have h2 : decide (120 < (b.size : Int)) = true := by simp; omega
  clear h h0
  go_enter Tryd.func3, Tryd.ntmps3
  go_wp2_with fail
  go_ret
  exact ⟨rfl, Below.refl _ _⟩
theorem NatField_long3 (h0 : a.size ≤ 120) (hb : b.size ≤ 120) (h : 120 < c.size) : Calls Tryd.prog 3 #[.string a, .string b, .string c, .int .i64 times] w (NatTrue w) := by
  have h1 : decide (120 < (a.size : Int)) = false := by simp; omega
  have h2 : decide (120 < (b.size : Int)) = false := by simp; omega
  have h3 : decide (120 < (c.size : Int)) = true := by simp; omega
  clear h h0 hb
  go_enter Tryd.func3, Tryd.ntmps3
  go_wp2_with fail
  go_ret
  exact ⟨rfl, Below.refl _ _⟩
theorem natField_any : Calls Tryd.prog 3 #[.string a, .string b, .string c, .int .i64 times] w (NatTrue w) := by
  by_cases ha : 120 < a.size
  · exact NatField_long1 a b c times w ha
  by_cases hb : 120 < b.size
  · exact NatField_long2 a b c times w (by omega) hb
  by_cases hc : 120 < c.size
  · exact NatField_long3 a b c times w (by omega) (by omega) hc
  by_cases ga : goodD a.data.toList = true ∧ a.size ≤ 100
  · by_cases gb : goodD b.data.toList = true ∧ b.size ≤ 100
    · by_cases gc : goodD c.data.toList = true ∧ c.size ≤ 100
      · exact NatField_good a b c times w ga.2 gb.2 gc.2 ga.1 gb.1 gc.1
      · exact NatField_bad3 a b c times w (by omega) (by omega) (by omega) ga gb gc
    · exact NatField_bad2 a b c times w (by omega) (by omega) (by omega) ga gb
  · exact NatField_bad1 a b c times w (by omega) (by omega) (by omega) ga
end
end Go.Proofs.YtdeaficdfooegaaDoor
