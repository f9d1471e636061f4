/-
  Contracts of Holds at single conditions. Conditions: none.
-/
import Derived.Test.YtejgpgkigcbflaaWe
namespace Go.Proofs.Ytejgpgkigcbflaa
open Go.RowKit
set_option maxHeartbeats 4000000 in
theorem holds_13 (c z s o : Bool) (w : World) :
    Calls Try.prog 10 #[.int .i8 13, .agg #[.bool true, .bool c, .bool z, .bool s, .bool o]] w fun e w' => e = .returned (.tuple #[.bool (!(s != o)), .int .i64 0]) ∧ Below w.heap.size w w' := by
  have hix : ∀ (x2 x3 x4 x5 x6 x7 x12 x13 x14 x15 : Value) (w : World), (Instr.index 47 (.agg #[.nilFunc, .nilFunc, x2, x3, x4, x5, x6, x7, .nilFunc, .nilFunc, .nilFunc, .nilFunc, x12, x13, x14, x15]) (.int .i8 13)).run Try.prog w = .ok x13 w := fun _ _ _ _ _ _ _ _ _ _ _ => by kernel_rfl
  have he : ∀ w : World, (binOp .eql 25 (.agg #[.bool true, .bool c, .bool z, .bool s, .bool o]) (.agg #[.bool false, .bool false, .bool false, .bool false, .bool false])).run Try.prog w = .ok (.bool false) w := eq_none true c z s o
  go_enter Try.func10, Try.ntmps10
  go_wp2_with fail
  refine (may_13 _).mono ?_
  rintro e w1 ⟨rfl, hb1⟩
  have B1 : Blk w1 w.heap.size 25 _ := (Blk.new w _ _).below hb1 (by simp)
  have q0 := B1.cell 0
  have q1 := B1.cell 1
  have q2 := B1.cell 2
  have q3 := B1.cell 3
  have q4 := B1.cell 4
  simp at q0 q1 q2 q3 q4
  have HB := hide B1
  have H1 : Below w.heap.size w w1 := ((Below.refl _ _).alloc (Nat.le_refl _) _).trans (hb1.mono (by simp))
  clear B1 hb1
  go_wp2_with fail
  first | go_region_with ((go_at_call 22; refine (none_any _).mono ?_; rintro e w2 ⟨rfl, hb2⟩; have B2 : Blk w2 w.heap.size 25 #[.bool true, .bool c, .bool z, .bool s, .bool o] := Blk.below (by exact HB.out) hb2 (by exact HB.out.lt); have p0 := B2.cell 0; have p1 := B2.cell 1; have p2 := B2.cell 2; have p3 := B2.cell 3; have p4 := B2.cell 4; simp at p0 p1 p2 p3 p4; have HB2 := hide B2; clear B2)) | fail
  all_goals
    have H2 := below_two H1.drew hb2 H1.size
    clear hb2 q0 q1 q2 q3 q4 H1 HB
    go_wp2_with fail
    first | go_region_with (first | (go_at_call 29; refine (table_any _).mono ?_; rintro e w3 ⟨b1, b2, b3, b4, b5, b6, b7, b8, b9, b10, b11, b12, b13, rfl, HT, hb3⟩; have B3 : Blk w3 w.heap.size 25 #[.bool true, .bool c, .bool z, .bool s, .bool o] := Blk.below (by exact HB2.out) hb3 (by exact HB2.out.lt); have r0 := B3.cell 0; have r1 := B3.cell 1; have r2 := B3.cell 2; have r3 := B3.cell 3; have r4 := B3.cell 4; simp at r0 r1 r2 r3 r4; clear B3) | (go_at_call 42; refine (cl_n3 true c z s o b6 _ HT.cb6 HT.lb6).mono ?_; rintro e w4 ⟨rfl, hb4⟩)) | fail
    all_goals
      go_wp2
      go_ret2
      have H3 := below_two H2.drew hb3 H2.size
      exact ⟨ret_bi (by cases c <;> cases z <;> cases s <;> cases o <;> rfl), below_two H3 hb4 H3.size⟩
set_option maxHeartbeats 4000000 in
theorem holds_14 (c z s o : Bool) (w : World) :
    Calls Try.prog 10 #[.int .i8 14, .agg #[.bool true, .bool c, .bool z, .bool s, .bool o]] w fun e w' => e = .returned (.tuple #[.bool (z || (s != o)), .int .i64 0]) ∧ Below w.heap.size w w' := by
  have hix : ∀ (x2 x3 x4 x5 x6 x7 x12 x13 x14 x15 : Value) (w : World), (Instr.index 47 (.agg #[.nilFunc, .nilFunc, x2, x3, x4, x5, x6, x7, .nilFunc, .nilFunc, .nilFunc, .nilFunc, x12, x13, x14, x15]) (.int .i8 14)).run Try.prog w = .ok x14 w := fun _ _ _ _ _ _ _ _ _ _ _ => by kernel_rfl
  have he : ∀ w : World, (binOp .eql 25 (.agg #[.bool true, .bool c, .bool z, .bool s, .bool o]) (.agg #[.bool false, .bool false, .bool false, .bool false, .bool false])).run Try.prog w = .ok (.bool false) w := eq_none true c z s o
  go_enter Try.func10, Try.ntmps10
  go_wp2_with fail
  refine (may_14 _).mono ?_
  rintro e w1 ⟨rfl, hb1⟩
  have B1 : Blk w1 w.heap.size 25 _ := (Blk.new w _ _).below hb1 (by simp)
  have q0 := B1.cell 0
  have q1 := B1.cell 1
  have q2 := B1.cell 2
  have q3 := B1.cell 3
  have q4 := B1.cell 4
  simp at q0 q1 q2 q3 q4
  have HB := hide B1
  have H1 : Below w.heap.size w w1 := ((Below.refl _ _).alloc (Nat.le_refl _) _).trans (hb1.mono (by simp))
  clear B1 hb1
  go_wp2_with fail
  first | go_region_with ((go_at_call 22; refine (none_any _).mono ?_; rintro e w2 ⟨rfl, hb2⟩; have B2 : Blk w2 w.heap.size 25 #[.bool true, .bool c, .bool z, .bool s, .bool o] := Blk.below (by exact HB.out) hb2 (by exact HB.out.lt); have p0 := B2.cell 0; have p1 := B2.cell 1; have p2 := B2.cell 2; have p3 := B2.cell 3; have p4 := B2.cell 4; simp at p0 p1 p2 p3 p4; have HB2 := hide B2; clear B2)) | fail
  all_goals
    have H2 := below_two H1.drew hb2 H1.size
    clear hb2 q0 q1 q2 q3 q4 H1 HB
    go_wp2_with fail
    first | go_region_with (first | (go_at_call 29; refine (table_any _).mono ?_; rintro e w3 ⟨b1, b2, b3, b4, b5, b6, b7, b8, b9, b10, b11, b12, b13, rfl, HT, hb3⟩; have B3 : Blk w3 w.heap.size 25 #[.bool true, .bool c, .bool z, .bool s, .bool o] := Blk.below (by exact HB2.out) hb3 (by exact HB2.out.lt); have r0 := B3.cell 0; have r1 := B3.cell 1; have r2 := B3.cell 2; have r3 := B3.cell 3; have r4 := B3.cell 4; simp at r0 r1 r2 r3 r4; clear B3) | (go_at_call 40; refine (cl_or2 true c z s o b7 b8 _ HT.cb7 HT.cb8 HT.lb7 HT.lb8).mono ?_; rintro e w4 ⟨rfl, hb4⟩)) | fail
    all_goals
      go_wp2
      go_ret2
      have H3 := below_two H2.drew hb3 H2.size
      exact ⟨ret_bi (by cases c <;> cases z <;> cases s <;> cases o <;> rfl), below_two H3 hb4 H3.size⟩
set_option maxHeartbeats 4000000 in
theorem holds_15 (c z s o : Bool) (w : World) :
    Calls Try.prog 10 #[.int .i8 15, .agg #[.bool true, .bool c, .bool z, .bool s, .bool o]] w fun e w' => e = .returned (.tuple #[.bool (!(z || (s != o))), .int .i64 0]) ∧ Below w.heap.size w w' := by
  have hix : ∀ (x2 x3 x4 x5 x6 x7 x12 x13 x14 x15 : Value) (w : World), (Instr.index 47 (.agg #[.nilFunc, .nilFunc, x2, x3, x4, x5, x6, x7, .nilFunc, .nilFunc, .nilFunc, .nilFunc, x12, x13, x14, x15]) (.int .i8 15)).run Try.prog w = .ok x15 w := fun _ _ _ _ _ _ _ _ _ _ _ => by kernel_rfl
  have he : ∀ w : World, (binOp .eql 25 (.agg #[.bool true, .bool c, .bool z, .bool s, .bool o]) (.agg #[.bool false, .bool false, .bool false, .bool false, .bool false])).run Try.prog w = .ok (.bool false) w := eq_none true c z s o
  go_enter Try.func10, Try.ntmps10
  go_wp2_with fail
  refine (may_15 _).mono ?_
  rintro e w1 ⟨rfl, hb1⟩
  have B1 : Blk w1 w.heap.size 25 _ := (Blk.new w _ _).below hb1 (by simp)
  have q0 := B1.cell 0
  have q1 := B1.cell 1
  have q2 := B1.cell 2
  have q3 := B1.cell 3
  have q4 := B1.cell 4
  simp at q0 q1 q2 q3 q4
  have HB := hide B1
  have H1 : Below w.heap.size w w1 := ((Below.refl _ _).alloc (Nat.le_refl _) _).trans (hb1.mono (by simp))
  clear B1 hb1
  go_wp2_with fail
  first | go_region_with ((go_at_call 22; refine (none_any _).mono ?_; rintro e w2 ⟨rfl, hb2⟩; have B2 : Blk w2 w.heap.size 25 #[.bool true, .bool c, .bool z, .bool s, .bool o] := Blk.below (by exact HB.out) hb2 (by exact HB.out.lt); have p0 := B2.cell 0; have p1 := B2.cell 1; have p2 := B2.cell 2; have p3 := B2.cell 3; have p4 := B2.cell 4; simp at p0 p1 p2 p3 p4; have HB2 := hide B2; clear B2)) | fail
  all_goals
    have H2 := below_two H1.drew hb2 H1.size
    clear hb2 q0 q1 q2 q3 q4 H1 HB
    go_wp2_with fail
    first | go_region_with (first | (go_at_call 29; refine (table_any _).mono ?_; rintro e w3 ⟨b1, b2, b3, b4, b5, b6, b7, b8, b9, b10, b11, b12, b13, rfl, HT, hb3⟩; have B3 : Blk w3 w.heap.size 25 #[.bool true, .bool c, .bool z, .bool s, .bool o] := Blk.below (by exact HB2.out) hb3 (by exact HB2.out.lt); have r0 := B3.cell 0; have r1 := B3.cell 1; have r2 := B3.cell 2; have r3 := B3.cell 3; have r4 := B3.cell 4; simp at r0 r1 r2 r3 r4; clear B3) | (go_at_call 42; refine (cl_no2 true c z s o b9 b12 b13 _ HT.cb9 HT.cb12 HT.cb13 HT.lb12 HT.lb13 HT.lb9).mono ?_; rintro e w4 ⟨rfl, hb4⟩)) | fail
    all_goals
      go_wp2
      go_ret2
      have H3 := below_two H2.drew hb3 H2.size
      exact ⟨ret_bi (by cases c <;> cases z <;> cases s <;> cases o <;> rfl), below_two H3 hb4 H3.size⟩
end Go.Proofs.Ytejgpgkigcbflaa
