/-
  Holds for every input; the law's own wakes; the walks of the laws on sums, differences, results. Conditions: those written in each statement.
-/
import Derived.Test.YtejgpgkigcbflaaWh
import Derived.Test.YtejgpgkigcbflaaWf0
import Derived.Test.YtejgpgkigcbflaaWf1
import Derived.Test.YtejgpgkigcbflaaWf2
namespace Go.Proofs.Ytejgpgkigcbflaa
open Go.RowKit
theorem holds_any (cc : Int) (k c z s o : Bool) (w : World) :
    Calls Try.prog 10 #[.int .i8 cc, .agg #[.bool k, .bool c, .bool z, .bool s, .bool o]] w fun e w' => e = .returned (.tuple #[.bool (hB cc k c z s o), .int .i64 (hE cc k)]) ∧ Below w.heap.size w w' := by
  cases h : mayB cc
  · have h1 : hB cc k c z s o = false := by simp [hB, h]
    have h2 : hE cc k = 2 := by simp [hE, h]
    rw [h1, h2]
    exact holds_not cc k c z s o w h
  · cases k
    · have h1 : hB cc false c z s o = false := by simp [hB]
      have h2 : hE cc false = 20 := by simp [hE, h]
      rw [h1, h2]
      exact holds_unknown cc c z s o w h
    · have h2 : hE cc true = 0 := by simp [hE, h]
      have h1 : hB cc true c z s o = condB cc c z s o := by simp [hB, h]
      rw [h1, h2]
      rcases mayB_cases h with rfl | rfl | rfl | rfl | rfl | rfl | rfl | rfl | rfl | rfl
      · exact holds_2 c z s o w
      · exact holds_3 c z s o w
      · exact holds_4 c z s o w
      · exact holds_5 c z s o w
      · exact holds_6 c z s o w
      · exact holds_7 c z s o w
      · exact holds_12 c z s o w
      · exact holds_13 c z s o w
      · exact holds_14 c z s o w
      · exact holds_15 c z s o w
theorem U_ok {v : Int} (h : (Lit.int .u64 v).wf = true) : U v := by have := bounds_u64 h; unfold U; omega
theorem Blk.five {w : World} {g : Nat} {t : TypeId} {a b c d e : Value} (h : Blk w g t #[a, b, c, d, e]) :
    w.cell? ⟨g, 0, none⟩ = some a ∧ w.cell? ⟨g, 1, none⟩ = some b ∧ w.cell? ⟨g, 2, none⟩ = some c ∧ w.cell? ⟨g, 3, none⟩ = some d ∧ w.cell? ⟨g, 4, none⟩ = some e :=
  ⟨h.cell 0, h.cell 1, h.cell 2, h.cell 3, h.cell 4⟩
set_option maxRecDepth 100000 in
set_option maxHeartbeats 1000000 in
theorem wakes_any (w : World) : Calls Try.prog 11 #[] w fun e w' => e = .returned (.bool true) ∧ Below w.heap.size w w' := by
  go_enter Try.func11, Try.ntmps11
  go_wp2_with fail
  refine (sub_yes 5 7 64 _ (.inr rfl) (by unfold U; omega) (by unfold U; omega)).mono ?_
  rintro e w1 ⟨rfl, hb1⟩
  rw [show subC 64 5 7 = true by decide +kernel, show subZ 64 5 7 = false by decide +kernel, show subS 64 5 7 = true by decide +kernel, show subO 64 5 7 = false by decide +kernel]
  go_wp2_with fail
  refine (sub_yes 9223372036854775808 1 64 _ (.inr rfl) (by unfold U; omega) (by unfold U; omega)).mono ?_
  rintro e w2 ⟨rfl, hb2⟩
  rw [show subC 64 9223372036854775808 1 = false by decide +kernel, show subZ 64 9223372036854775808 1 = false by decide +kernel, show subS 64 9223372036854775808 1 = false by decide +kernel, show subO 64 9223372036854775808 1 = true by decide +kernel]
  have B1 : Blk w2 w1.heap.size 25 _ := (Blk.new w1 _ _).below hb2 (by simp)
  have H2 := (hb1.alloc hb1.size _).trans (hb2.mono (le_alloc _ hb1.size))
  clear hb1 hb2
  obtain ⟨q0, q1, q2, q3, q4⟩ := B1.five
  have hlt := B1.lt
  have HB1 := hide B1
  clear B1
  go_wp2_with fail
  refine (holds_any _ _ _ _ _ _ _).mono ?_
  rintro e w3 ⟨rfl, hb3⟩
  have B1 := (Blk.alloc HB1.out (.cells #[.bool true, .bool false, .bool false, .bool false, .bool true] 25)).below hb3 (by simp; omega)
  have B2 : Blk w3 w2.heap.size 25 _ := (Blk.new w2 _ _).below hb3 (by simp)
  have H3 := (H2.alloc H2.size _).trans (hb3.mono (le_alloc _ H2.size))
  clear H2 hb3 q0 q1 q2 q3 q4 HB1
  obtain ⟨q0, q1, q2, q3, q4⟩ := B1.five
  have HB2 := hide B2
  clear B1 B2
  rw [show hB 2 true true false true false = true by decide +kernel, show hE 2 true = 0 by decide +kernel]
  go_wp2_with fail
  refine (holds_any _ _ _ _ _ _ _).mono ?_
  rintro e w4 ⟨rfl, hb4⟩
  have B2 := HB2.out.below hb4 HB2.out.lt
  have H4 := H3.trans (hb4.mono H3.size)
  clear q0 q1 q2 q3 q4 H3 hb4
  obtain ⟨q0, q1, q2, q3, q4⟩ := B2.five
  clear B2
  rw [show hB 12 true true false true false = true by decide +kernel, show hE 12 true = 0 by decide +kernel]
  go_wp2
  go_ret
  exact ⟨rfl, H4⟩
end Go.Proofs.Ytejgpgkigcbflaa
