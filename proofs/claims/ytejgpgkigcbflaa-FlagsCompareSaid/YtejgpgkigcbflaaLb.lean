/-
  The walks of FlagsHold and FlagsTell: they answer true. Conditions: none but that numbers fit their kinds.
-/
import Derived.Test.YtejgpgkigcbflaaLa
namespace Go.Proofs.Ytejgpgkigcbflaa
open Go.RowKit
theorem eq_same (k c z s o : Bool) : ∀ w : World, (binOp .eql 25 (.agg #[.bool k, .bool c, .bool z, .bool s, .bool o]) (.agg #[.bool k, .bool c, .bool z, .bool s, .bool o])).run Try.prog w = .ok (.bool true) w := by
  intro w
  cases k <;> cases c <;> cases z <;> cases s <;> cases o <;> kernel_rfl
set_option maxRecDepth 100000 in
set_option maxHeartbeats 1000000 in
theorem hold_walk (cc : Int) (k c z s o : Bool) (w : World) :
    Calls Try.prog 4 #[.int .i8 cc, .agg #[.bool k, .bool c, .bool z, .bool s, .bool o]] w fun e w' => e = .returned (.bool true) ∧ Below w.heap.size w w' := by
  go_enter Try.func4, Try.ntmps4
  go_wp2_with fail
  refine (holds_any _ _ _ _ _ _ _).mono ?_
  rintro e w1 ⟨rfl, hb1⟩
  have B1 : Blk w1 w.heap.size 25 _ := (Blk.new w _ _).below hb1 (by simp)
  have H1 := ((Below.refl w.heap.size w).alloc (Nat.le_refl _) _).trans (hb1.mono (le_alloc _ (Nat.le_refl _)))
  clear hb1
  obtain ⟨q0, q1, q2, q3, q4⟩ := B1.five
  clear B1
  go_wp2_with fail
  refine (rholds_any _ _ _ _ _ _ _).mono ?_
  rintro e w2 ⟨rfl, hb2⟩
  have H2 := H1.trans (hb2.mono H1.size)
  clear q0 q1 q2 q3 q4 hb2 H1
  go_wp2_with fail
  refine (not_any _ _).mono ?_
  rintro e w3 ⟨rfl, hb3⟩
  have H3 := H2.trans (hb3.mono H2.size)
  clear hb3 H2
  go_wp2_with fail
  refine (rnot_any _ _).mono ?_
  rintro e w4 ⟨rfl, hb4⟩
  have H4 := H3.trans (hb4.mono H3.size)
  clear hb4 H3
  generalize hB cc k c z s o = x1, hE cc k = x2, notV cc = x3, mayB cc = x4 at *
  go_wp2_with fail
  refine (may_any _ _).mono ?_
  rintro e w5 ⟨rfl, hb5⟩
  have H5 := H4.trans (hb5.mono H4.size)
  clear hb5 H4
  go_wp2_with fail
  refine (rmay_any _ _).mono ?_
  rintro e w' ⟨rfl, rfl⟩
  generalize mayB cc = x5 at *
  go_wp2_with (go_at_call 11; refine (wakes_any _).mono ?_; rintro e wk ⟨rfl, hbk⟩)
  go_ret
  exact ⟨rfl, H5.trans (hbk.mono H5.size)⟩
set_option maxRecDepth 100000 in
set_option maxHeartbeats 2000000 in
theorem tell_yes (w0 a b : Int) (w : World) (hw : Wd w0) (ha : U a) (hb : U b) :
    Calls Try.prog 5 #[.int .i8 w0, .int .u64 a, .int .u64 b] w fun e w' => e = .returned (.bool true) ∧ Below w.heap.size w w' := by
  have e1 := eq_same true (addC w0 a b) (addZ w0 a b) (addS w0 a b) (addO w0 a b)
  have e2 := eq_same true (subC w0 a b) (subZ w0 a b) (subS w0 a b) (subO w0 a b)
  have e3 := eq_same true false (cutW w0 a == 0) (negW w0 a) false
  have e4 := eq_same false false false false false
  go_enter Try.func5, Try.ntmps5
  go_wp2_with fail
  refine (add_yes a b w0 _ hw ha hb).mono ?_
  rintro e w1 ⟨rfl, hb1⟩
  have H1 := hb1
  clear hb1
  go_wp2_with fail
  refine (radd_yes a b w0 _ hw ha hb).mono ?_
  rintro e w2 ⟨rfl, hb2⟩
  have B1 : Blk w2 w1.heap.size 25 _ := (Blk.new w1 _ _).below hb2 (by simp)
  have H2 := (H1.alloc H1.size _).trans (hb2.mono (le_alloc _ H1.size))
  clear hb2 H1
  go_wp2_with fail
  refine (sub_yes a b w0 _ hw ha hb).mono ?_
  rintro e w3 ⟨rfl, hb3⟩
  replace B1 := (B1.alloc _).below hb3 (by have := B1.lt; simp; omega)
  have B2 : Blk w3 w2.heap.size 25 _ := (Blk.new w2 _ _).below hb3 (by simp)
  have H3 := (H2.alloc H2.size _).trans (hb3.mono (le_alloc _ H2.size))
  clear hb3 H2
  go_wp2_with fail
  refine (rsub_yes a b w0 _ hw ha hb).mono ?_
  rintro e w4 ⟨rfl, hb4⟩
  replace B1 := (B1.alloc _).below hb4 (by have := B1.lt; simp; omega)
  replace B2 := (B2.alloc _).below hb4 (by have := B2.lt; simp; omega)
  have B3 : Blk w4 w3.heap.size 25 _ := (Blk.new w3 _ _).below hb4 (by simp)
  have H4 := (H3.alloc H3.size _).trans (hb4.mono (le_alloc _ H3.size))
  clear hb4 H3
  go_wp2_with fail
  refine (of_yes a w0 _ hw ha).mono ?_
  rintro e w5 ⟨rfl, hb5⟩
  replace B1 := (B1.alloc _).below hb5 (by have := B1.lt; simp; omega)
  replace B2 := (B2.alloc _).below hb5 (by have := B2.lt; simp; omega)
  replace B3 := (B3.alloc _).below hb5 (by have := B3.lt; simp; omega)
  have B4 : Blk w5 w4.heap.size 25 _ := (Blk.new w4 _ _).below hb5 (by simp)
  have H5 := (H4.alloc H4.size _).trans (hb5.mono (le_alloc _ H4.size))
  clear hb5 H4
  go_wp2_with fail
  refine (rof_yes a w0 _ hw ha).mono ?_
  rintro e w6 ⟨rfl, hb6⟩
  replace B1 := (B1.alloc _).below hb6 (by have := B1.lt; simp; omega)
  replace B2 := (B2.alloc _).below hb6 (by have := B2.lt; simp; omega)
  replace B3 := (B3.alloc _).below hb6 (by have := B3.lt; simp; omega)
  replace B4 := (B4.alloc _).below hb6 (by have := B4.lt; simp; omega)
  have B5 : Blk w6 w5.heap.size 25 _ := (Blk.new w5 _ _).below hb6 (by simp)
  have H6 := (H5.alloc H5.size _).trans (hb6.mono (le_alloc _ H5.size))
  clear hb6 H5
  obtain ⟨q10, q11, q12, q13, q14⟩ := B1.five
  have lt1 := B1.lt
  clear B1
  obtain ⟨q20, q21, q22, q23, q24⟩ := B2.five
  have lt2 := B2.lt
  clear B2
  obtain ⟨q30, q31, q32, q33, q34⟩ := B3.five
  have lt3 := B3.lt
  clear B3
  obtain ⟨q40, q41, q42, q43, q44⟩ := B4.five
  have lt4 := B4.lt
  clear B4
  obtain ⟨q50, q51, q52, q53, q54⟩ := B5.five
  have lt5 := B5.lt
  clear B5
  go_wp2_with fail
  refine (none_any _).mono ?_
  rintro e w8 ⟨rfl, hb8⟩
  have H7 := H6.alloc H6.size (.cells #[.bool true, .bool false, .bool (cutW w0 a == 0), .bool (negW w0 a), .bool false] 25)
  have H8 := H7.trans (hb8.mono H7.size)
  clear hb8 H6 H7
  go_wp2_with fail
  refine (rnone_any _).mono ?_
  rintro e w9 ⟨rfl, hb9⟩
  have H9 := H8.trans (hb9.mono H8.size)
  clear hb9 H8
  go_wp2_with (go_at_call 11; refine (wakes_any _).mono ?_; rintro e wk ⟨rfl, hbk⟩)
  go_ret
  exact ⟨rfl, H9.trans (hbk.mono H9.size)⟩
set_option maxRecDepth 100000 in
set_option maxHeartbeats 2000000 in
theorem tell_no (w0 a b : Int) (w : World) (hw : ¬ Wd w0) :
    Calls Try.prog 5 #[.int .i8 w0, .int .u64 a, .int .u64 b] w fun e w' => e = .returned (.bool true) ∧ Below w.heap.size w w' := by
  have e4 := eq_same false false false false false
  go_enter Try.func5, Try.ntmps5
  go_wp2_with fail
  refine (add_no a b w0 _ hw).mono ?_
  rintro e w1 ⟨rfl, hb1⟩
  have H1 := hb1
  clear hb1
  go_wp2_with fail
  refine (radd_no a b w0 _ hw).mono ?_
  rintro e w2 ⟨rfl, hb2⟩
  have B1 : Blk w2 w1.heap.size 25 _ := (Blk.new w1 _ _).below hb2 (by simp)
  have H2 := (H1.alloc H1.size _).trans (hb2.mono (le_alloc _ H1.size))
  clear hb2 H1
  go_wp2_with fail
  refine (sub_no a b w0 _ hw).mono ?_
  rintro e w3 ⟨rfl, hb3⟩
  replace B1 := (B1.alloc _).below hb3 (by have := B1.lt; simp; omega)
  have B2 : Blk w3 w2.heap.size 25 _ := (Blk.new w2 _ _).below hb3 (by simp)
  have H3 := (H2.alloc H2.size _).trans (hb3.mono (le_alloc _ H2.size))
  clear hb3 H2
  go_wp2_with fail
  refine (rsub_no a b w0 _ hw).mono ?_
  rintro e w4 ⟨rfl, hb4⟩
  replace B1 := (B1.alloc _).below hb4 (by have := B1.lt; simp; omega)
  replace B2 := (B2.alloc _).below hb4 (by have := B2.lt; simp; omega)
  have B3 : Blk w4 w3.heap.size 25 _ := (Blk.new w3 _ _).below hb4 (by simp)
  have H4 := (H3.alloc H3.size _).trans (hb4.mono (le_alloc _ H3.size))
  clear hb4 H3
  go_wp2_with fail
  refine (of_no a w0 _ hw).mono ?_
  rintro e w5 ⟨rfl, hb5⟩
  replace B1 := (B1.alloc _).below hb5 (by have := B1.lt; simp; omega)
  replace B2 := (B2.alloc _).below hb5 (by have := B2.lt; simp; omega)
  replace B3 := (B3.alloc _).below hb5 (by have := B3.lt; simp; omega)
  have B4 : Blk w5 w4.heap.size 25 _ := (Blk.new w4 _ _).below hb5 (by simp)
  have H5 := (H4.alloc H4.size _).trans (hb5.mono (le_alloc _ H4.size))
  clear hb5 H4
  go_wp2_with fail
  refine (rof_no a w0 _ hw).mono ?_
  rintro e w6 ⟨rfl, hb6⟩
  replace B1 := (B1.alloc _).below hb6 (by have := B1.lt; simp; omega)
  replace B2 := (B2.alloc _).below hb6 (by have := B2.lt; simp; omega)
  replace B3 := (B3.alloc _).below hb6 (by have := B3.lt; simp; omega)
  replace B4 := (B4.alloc _).below hb6 (by have := B4.lt; simp; omega)
  have B5 : Blk w6 w5.heap.size 25 _ := (Blk.new w5 _ _).below hb6 (by simp)
  have H6 := (H5.alloc H5.size _).trans (hb6.mono (le_alloc _ H5.size))
  clear hb6 H5
  obtain ⟨q10, q11, q12, q13, q14⟩ := B1.five
  have lt1 := B1.lt
  clear B1
  obtain ⟨q20, q21, q22, q23, q24⟩ := B2.five
  have lt2 := B2.lt
  clear B2
  obtain ⟨q30, q31, q32, q33, q34⟩ := B3.five
  have lt3 := B3.lt
  clear B3
  obtain ⟨q40, q41, q42, q43, q44⟩ := B4.five
  have lt4 := B4.lt
  clear B4
  obtain ⟨q50, q51, q52, q53, q54⟩ := B5.five
  have lt5 := B5.lt
  clear B5
  go_wp2_with fail
  refine (none_any _).mono ?_
  rintro e w8 ⟨rfl, hb8⟩
  have H7 := H6.alloc H6.size (.cells #[.bool false, .bool false, .bool false, .bool false, .bool false] 25)
  have H8 := H7.trans (hb8.mono H7.size)
  clear hb8 H6 H7
  go_wp2_with fail
  refine (rnone_any _).mono ?_
  rintro e w9 ⟨rfl, hb9⟩
  have H9 := H8.trans (hb9.mono H8.size)
  clear hb9 H8
  go_wp2_with (go_at_call 11; refine (wakes_any _).mono ?_; rintro e wk ⟨rfl, hbk⟩)
  go_ret
  exact ⟨rfl, H9.trans (hbk.mono H9.size)⟩
theorem tell_walk (w0 a b : Int) (ha : (Lit.int .u64 a).wf = true) (hb : (Lit.int .u64 b).wf = true) (w : World) :
    Calls Try.prog 5 #[.int .i8 w0, .int .u64 a, .int .u64 b] w fun e w' => e = .returned (.bool true) ∧ Below w.heap.size w w' := by
  by_cases hw : Wd w0
  · exact tell_yes w0 a b w hw (U_ok ha) (U_ok hb)
  · exact tell_no w0 a b w hw
end Go.Proofs.Ytejgpgkigcbflaa
