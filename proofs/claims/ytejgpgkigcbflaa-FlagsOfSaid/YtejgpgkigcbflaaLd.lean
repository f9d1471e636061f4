/-
  The walk of FlagsOf: it answers true. Conditions: none but that numbers fit their kinds.
-/
import Derived.Test.YtejgpgkigcbflaaLb
import Derived.StillTailTactics
namespace Go.Proofs.Ytejgpgkigcbflaa
open Go.RowKit
theorem top_div32 {a : Int} (ha : U a) : (cutW 32 a / 2147483648 == 1) = negW 32 a := by
  have := cut_bd (.inl rfl : Wd 32) ha
  simp only [modW, if_pos] at this
  rw [Bool.eq_iff_iff]
  simp [negW, halfW]
  omega
theorem top_div64 {a : Int} (ha : U a) : (cutW 64 a / 9223372036854775808 == 1) = negW 64 a := by
  unfold U at ha
  rw [Bool.eq_iff_iff]
  simp [negW, halfW, cutW]
  omega
set_option maxRecDepth 100000 in
set_option maxHeartbeats 4000000 in
theorem of_walk32 (a b : Int) (ha : U a) (hb : U b) (w : World) :
    Calls Try.prog 7 #[.bool false, .int .u64 a, .int .u64 b] w fun e w' => e = .returned (.bool true) ∧ Below w.heap.size w w' := by
  have hTD := top_div32 ha
  have EZ : (cutW 32 (IntKind.u64.wrap (a + b)) == 0) = addZ 32 a b := by rw [cut_sum (.inl rfl)]; rfl
  have EN : negW 32 (IntKind.u64.wrap (a + b)) = addS 32 a b := neg_sum (.inl rfl)
  have FZ : (cutW 32 (IntKind.u64.wrap (a - b)) == 0) = subZ 32 a b := by rw [cut_dif (.inl rfl)]; rfl
  have FN : negW 32 (IntKind.u64.wrap (a - b)) = subS 32 a b := neg_dif (.inl rfl)
  have E := hide (And.intro EZ EN)
  have F := hide (And.intro FZ FN)
  have e1 := eq_same true false (cutW 32 a == 0) (negW 32 a) false
  clear EZ EN FZ FN
  go_enter Try.func7, Try.ntmps7
  go_wp2_with fail
  refine (of_yes a 32 _ (.inl rfl) ha).mono ?_
  rintro e w1 ⟨rfl, hb1⟩
  have H1 := hb1
  clear hb1
  go_wp2_with fail
  refine (add_yes a b 32 _ (.inl rfl) ha hb).mono ?_
  rintro e w2 ⟨rfl, hb2⟩
  have B1 : Blk w2 w1.heap.size 25 _ := (Blk.new w1 _ _).below hb2 (by simp)
  have H2 := (H1.alloc H1.size _).trans (hb2.mono (le_alloc _ H1.size))
  clear hb2 H1
  go_wp2_with fail
  refine (sub_yes a b 32 _ (.inl rfl) ha hb).mono ?_
  rintro e w3 ⟨rfl, hb3⟩
  replace B1 := (B1.alloc _).below hb3 (by have := B1.lt; simp; omega)
  have B2 : Blk w3 w2.heap.size 25 _ := (Blk.new w2 _ _).below hb3 (by simp)
  have H3 := (H2.alloc H2.size _).trans (hb3.mono (le_alloc _ H2.size))
  clear hb3 H2
  go_wp2_with fail
  refine (of_yes (IntKind.u64.wrap (a + b)) 32 _ (.inl rfl) (U_wrap _)).mono ?_
  rintro e w4 ⟨rfl, hb4⟩
  rw [E.out.1, E.out.2]
  replace B1 := (B1.alloc _).below hb4 (by have := B1.lt; simp; omega)
  replace B2 := (B2.alloc _).below hb4 (by have := B2.lt; simp; omega)
  have B3 : Blk w4 w3.heap.size 25 _ := (Blk.new w3 _ _).below hb4 (by simp)
  have H4 := (H3.alloc H3.size _).trans (hb4.mono (le_alloc _ H3.size))
  clear hb4 H3
  go_wp2_with fail
  refine (of_yes (IntKind.u64.wrap (a - b)) 32 _ (.inl rfl) (U_wrap _)).mono ?_
  rintro e w5 ⟨rfl, hb5⟩
  rw [F.out.1, F.out.2]
  replace B1 := (B1.alloc _).below hb5 (by have := B1.lt; simp; omega)
  replace B2 := (B2.alloc _).below hb5 (by have := B2.lt; simp; omega)
  replace B3 := (B3.alloc _).below hb5 (by have := B3.lt; simp; omega)
  have B4 : Blk w5 w4.heap.size 25 _ := (Blk.new w4 _ _).below hb5 (by simp)
  have H5 := (H4.alloc H4.size _).trans (hb5.mono (le_alloc _ H4.size))
  clear hb5 H4
  have B5 : Blk (w5.alloc (.cells #[.bool true, .bool false, .bool (subZ 32 a b), .bool (subS 32 a b), .bool false] 25)) w5.heap.size 25 _ := Blk.new w5 _ _
  replace B1 := B1.alloc (.cells #[.bool true, .bool false, .bool (subZ 32 a b), .bool (subS 32 a b), .bool false] 25)
  replace B2 := B2.alloc (.cells #[.bool true, .bool false, .bool (subZ 32 a b), .bool (subS 32 a b), .bool false] 25)
  replace B3 := B3.alloc (.cells #[.bool true, .bool false, .bool (subZ 32 a b), .bool (subS 32 a b), .bool false] 25)
  replace B4 := B4.alloc (.cells #[.bool true, .bool false, .bool (subZ 32 a b), .bool (subS 32 a b), .bool false] 25)
  have H6 := H5.alloc H5.size (.cells #[.bool true, .bool false, .bool (subZ 32 a b), .bool (subS 32 a b), .bool false] 25)
  clear H5
  go_wp2_with fail
  refine (rcut_any _ _ _ (.inl rfl) ha).mono ?_
  rintro e w' ⟨rfl, rfl⟩
  go_wp2_with fail
  generalize (w5.alloc (.cells #[.bool true, .bool false, .bool (subZ 32 a b), .bool (subS 32 a b), .bool false] 25)) = W at *
  obtain ⟨q10, q11, q12, q13, q14⟩ := B1.five
  clear B1
  obtain ⟨q20, q21, q22, q23, q24⟩ := B2.five
  clear B2
  obtain ⟨q30, q31, q32, q33, q34⟩ := B3.five
  clear B3
  obtain ⟨q40, q41, q42, q43, q44⟩ := B4.five
  clear B4
  obtain ⟨q50, q51, q52, q53, q54⟩ := B5.five
  clear B5
  have hw31 : IntKind.i8.wrap 31 = 31 := by decide
  go_still_tail 47, (by kernel_rfl)
  change wpList _ _ _ _ _ W.drew
  have H7 := H6.drew
  clear H6 q10 q11 q12 q13 q14 q20 q21 q22 q23 q24 q30 q31 q32 q33 q34 q40 q41 q42 q43 q44 q50 q51 q52 q53 q54
  generalize W.drew = W2 at *
  go_wp2_with (go_at_call 11; refine (wakes_any _).mono ?_; rintro e wk ⟨rfl, hbk⟩)
  go_ret
  exact ⟨rfl, H7.trans (hbk.mono H7.size)⟩
set_option maxRecDepth 100000 in
set_option maxHeartbeats 4000000 in
theorem of_walk64 (a b : Int) (ha : U a) (hb : U b) (w : World) :
    Calls Try.prog 7 #[.bool true, .int .u64 a, .int .u64 b] w fun e w' => e = .returned (.bool true) ∧ Below w.heap.size w w' := by
  have hTD := top_div64 ha
  have EZ : (cutW 64 (IntKind.u64.wrap (a + b)) == 0) = addZ 64 a b := by rw [cut_sum (.inr rfl)]; rfl
  have EN : negW 64 (IntKind.u64.wrap (a + b)) = addS 64 a b := neg_sum (.inr rfl)
  have FZ : (cutW 64 (IntKind.u64.wrap (a - b)) == 0) = subZ 64 a b := by rw [cut_dif (.inr rfl)]; rfl
  have FN : negW 64 (IntKind.u64.wrap (a - b)) = subS 64 a b := neg_dif (.inr rfl)
  have E := hide (And.intro EZ EN)
  have F := hide (And.intro FZ FN)
  have e1 := eq_same true false (cutW 64 a == 0) (negW 64 a) false
  clear EZ EN FZ FN
  go_enter Try.func7, Try.ntmps7
  go_wp2_with fail
  refine (of_yes a 64 _ (.inr rfl) ha).mono ?_
  rintro e w1 ⟨rfl, hb1⟩
  have H1 := hb1
  clear hb1
  go_wp2_with fail
  refine (add_yes a b 64 _ (.inr rfl) ha hb).mono ?_
  rintro e w2 ⟨rfl, hb2⟩
  have B1 : Blk w2 w1.heap.size 25 _ := (Blk.new w1 _ _).below hb2 (by simp)
  have H2 := (H1.alloc H1.size _).trans (hb2.mono (le_alloc _ H1.size))
  clear hb2 H1
  go_wp2_with fail
  refine (sub_yes a b 64 _ (.inr rfl) ha hb).mono ?_
  rintro e w3 ⟨rfl, hb3⟩
  replace B1 := (B1.alloc _).below hb3 (by have := B1.lt; simp; omega)
  have B2 : Blk w3 w2.heap.size 25 _ := (Blk.new w2 _ _).below hb3 (by simp)
  have H3 := (H2.alloc H2.size _).trans (hb3.mono (le_alloc _ H2.size))
  clear hb3 H2
  go_wp2_with fail
  refine (of_yes (IntKind.u64.wrap (a + b)) 64 _ (.inr rfl) (U_wrap _)).mono ?_
  rintro e w4 ⟨rfl, hb4⟩
  rw [E.out.1, E.out.2]
  replace B1 := (B1.alloc _).below hb4 (by have := B1.lt; simp; omega)
  replace B2 := (B2.alloc _).below hb4 (by have := B2.lt; simp; omega)
  have B3 : Blk w4 w3.heap.size 25 _ := (Blk.new w3 _ _).below hb4 (by simp)
  have H4 := (H3.alloc H3.size _).trans (hb4.mono (le_alloc _ H3.size))
  clear hb4 H3
  go_wp2_with fail
  refine (of_yes (IntKind.u64.wrap (a - b)) 64 _ (.inr rfl) (U_wrap _)).mono ?_
  rintro e w5 ⟨rfl, hb5⟩
  rw [F.out.1, F.out.2]
  replace B1 := (B1.alloc _).below hb5 (by have := B1.lt; simp; omega)
  replace B2 := (B2.alloc _).below hb5 (by have := B2.lt; simp; omega)
  replace B3 := (B3.alloc _).below hb5 (by have := B3.lt; simp; omega)
  have B4 : Blk w5 w4.heap.size 25 _ := (Blk.new w4 _ _).below hb5 (by simp)
  have H5 := (H4.alloc H4.size _).trans (hb5.mono (le_alloc _ H4.size))
  clear hb5 H4
  have B5 : Blk (w5.alloc (.cells #[.bool true, .bool false, .bool (subZ 64 a b), .bool (subS 64 a b), .bool false] 25)) w5.heap.size 25 _ := Blk.new w5 _ _
  replace B1 := B1.alloc (.cells #[.bool true, .bool false, .bool (subZ 64 a b), .bool (subS 64 a b), .bool false] 25)
  replace B2 := B2.alloc (.cells #[.bool true, .bool false, .bool (subZ 64 a b), .bool (subS 64 a b), .bool false] 25)
  replace B3 := B3.alloc (.cells #[.bool true, .bool false, .bool (subZ 64 a b), .bool (subS 64 a b), .bool false] 25)
  replace B4 := B4.alloc (.cells #[.bool true, .bool false, .bool (subZ 64 a b), .bool (subS 64 a b), .bool false] 25)
  have H6 := H5.alloc H5.size (.cells #[.bool true, .bool false, .bool (subZ 64 a b), .bool (subS 64 a b), .bool false] 25)
  clear H5
  go_wp2_with fail
  refine (rcut_any _ _ _ (.inr rfl) ha).mono ?_
  rintro e w' ⟨rfl, rfl⟩
  go_wp2_with fail
  generalize (w5.alloc (.cells #[.bool true, .bool false, .bool (subZ 64 a b), .bool (subS 64 a b), .bool false] 25)) = W at *
  obtain ⟨q10, q11, q12, q13, q14⟩ := B1.five
  clear B1
  obtain ⟨q20, q21, q22, q23, q24⟩ := B2.five
  clear B2
  obtain ⟨q30, q31, q32, q33, q34⟩ := B3.five
  clear B3
  obtain ⟨q40, q41, q42, q43, q44⟩ := B4.five
  clear B4
  obtain ⟨q50, q51, q52, q53, q54⟩ := B5.five
  clear B5
  have hw31 : IntKind.i8.wrap 63 = 63 := by decide
  go_still_tail 47, (by kernel_rfl)
  change wpList _ _ _ _ _ W.drew
  have H7 := H6.drew
  clear H6 q10 q11 q12 q13 q14 q20 q21 q22 q23 q24 q30 q31 q32 q33 q34 q40 q41 q42 q43 q44 q50 q51 q52 q53 q54
  generalize W.drew = W2 at *
  go_wp2_with (go_at_call 11; refine (wakes_any _).mono ?_; rintro e wk ⟨rfl, hbk⟩)
  go_ret
  exact ⟨rfl, H7.trans (hbk.mono H7.size)⟩
theorem of_walk (wide : Bool) (a b : Int) (wa : (Lit.int .u64 a).wf = true) (wb : (Lit.int .u64 b).wf = true) (w : World) :
    Calls Try.prog 7 #[.bool wide, .int .u64 a, .int .u64 b] w fun e w' => e = .returned (.bool true) ∧ Below w.heap.size w w' := by
  cases wide
  · exact of_walk32 a b (U_ok wa) (U_ok wb) w
  · exact of_walk64 a b (U_ok wa) (U_ok wb) w
end Go.Proofs.Ytejgpgkigcbflaa
