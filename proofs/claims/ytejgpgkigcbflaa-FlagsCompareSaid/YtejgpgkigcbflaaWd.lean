/-
  Contracts of May. Conditions: none.
-/
import Derived.Test.YtejgpgkigcbflaaWc
namespace Go.Proofs.Ytejgpgkigcbflaa
open Go.RowKit
/-- Is it a condition's number? -/
def mayB (cc : Int) : Bool := cc == 2 || (cc == 3 || (cc == 4 || (cc == 5 || (cc == 6 || (cc == 7 || (cc == 12 || (cc == 13 || (cc == 14 || cc == 15))))))))
set_option maxHeartbeats 1000000 in
theorem may_0 (w : World) : Calls Try.prog 15 #[.int .i8 0] w fun e w' => e = .returned (.bool false) ∧ Below w.heap.size w w' := by
  have hix : ∀ (x2 x3 x4 x5 x6 x7 x12 x13 x14 x15 : Value) (w : World), (Instr.index 47 (.agg #[.nilFunc, .nilFunc, x2, x3, x4, x5, x6, x7, .nilFunc, .nilFunc, .nilFunc, .nilFunc, x12, x13, x14, x15]) (.int .i8 0)).run Try.prog w = .ok .nilFunc w := fun _ _ _ _ _ _ _ _ _ _ _ => by kernel_rfl
  have hnn : ∀ w : World, (binOp .neq 46 .nilFunc .nilFunc).run Try.prog w = .ok (.bool false) w := fun _ => by kernel_rfl
  have hnf : ∀ (f : Fn) (x y : Array Value) (w : World), (binOp .neq 46 (.func f x y) .nilFunc).run Try.prog w = .ok (.bool true) w := fun _ _ _ _ => by kernel_rfl
  go_enter Try.func15, Try.ntmps15
  go_wp2_with fail
  refine (table_any _).mono ?_
  rintro e w1 ⟨b1, b2, b3, b4, b5, b6, b7, b8, b9, b10, b11, b12, b13, rfl, hT, hb1⟩
  go_wp2
  go_ret
  exact ⟨rfl, hb1⟩
set_option maxHeartbeats 1000000 in
theorem may_1 (w : World) : Calls Try.prog 15 #[.int .i8 1] w fun e w' => e = .returned (.bool false) ∧ Below w.heap.size w w' := by
  have hix : ∀ (x2 x3 x4 x5 x6 x7 x12 x13 x14 x15 : Value) (w : World), (Instr.index 47 (.agg #[.nilFunc, .nilFunc, x2, x3, x4, x5, x6, x7, .nilFunc, .nilFunc, .nilFunc, .nilFunc, x12, x13, x14, x15]) (.int .i8 1)).run Try.prog w = .ok .nilFunc w := fun _ _ _ _ _ _ _ _ _ _ _ => by kernel_rfl
  have hnn : ∀ w : World, (binOp .neq 46 .nilFunc .nilFunc).run Try.prog w = .ok (.bool false) w := fun _ => by kernel_rfl
  have hnf : ∀ (f : Fn) (x y : Array Value) (w : World), (binOp .neq 46 (.func f x y) .nilFunc).run Try.prog w = .ok (.bool true) w := fun _ _ _ _ => by kernel_rfl
  go_enter Try.func15, Try.ntmps15
  go_wp2_with fail
  refine (table_any _).mono ?_
  rintro e w1 ⟨b1, b2, b3, b4, b5, b6, b7, b8, b9, b10, b11, b12, b13, rfl, hT, hb1⟩
  go_wp2
  go_ret
  exact ⟨rfl, hb1⟩
set_option maxHeartbeats 1000000 in
theorem may_2 (w : World) : Calls Try.prog 15 #[.int .i8 2] w fun e w' => e = .returned (.bool true) ∧ Below w.heap.size w w' := by
  have hix : ∀ (x2 x3 x4 x5 x6 x7 x12 x13 x14 x15 : Value) (w : World), (Instr.index 47 (.agg #[.nilFunc, .nilFunc, x2, x3, x4, x5, x6, x7, .nilFunc, .nilFunc, .nilFunc, .nilFunc, x12, x13, x14, x15]) (.int .i8 2)).run Try.prog w = .ok x2 w := fun _ _ _ _ _ _ _ _ _ _ _ => by kernel_rfl
  have hnn : ∀ w : World, (binOp .neq 46 .nilFunc .nilFunc).run Try.prog w = .ok (.bool false) w := fun _ => by kernel_rfl
  have hnf : ∀ (f : Fn) (x y : Array Value) (w : World), (binOp .neq 46 (.func f x y) .nilFunc).run Try.prog w = .ok (.bool true) w := fun _ _ _ _ => by kernel_rfl
  go_enter Try.func15, Try.ntmps15
  go_wp2_with fail
  refine (table_any _).mono ?_
  rintro e w1 ⟨b1, b2, b3, b4, b5, b6, b7, b8, b9, b10, b11, b12, b13, rfl, hT, hb1⟩
  go_wp2
  go_ret
  exact ⟨rfl, hb1⟩
set_option maxHeartbeats 1000000 in
theorem may_3 (w : World) : Calls Try.prog 15 #[.int .i8 3] w fun e w' => e = .returned (.bool true) ∧ Below w.heap.size w w' := by
  have hix : ∀ (x2 x3 x4 x5 x6 x7 x12 x13 x14 x15 : Value) (w : World), (Instr.index 47 (.agg #[.nilFunc, .nilFunc, x2, x3, x4, x5, x6, x7, .nilFunc, .nilFunc, .nilFunc, .nilFunc, x12, x13, x14, x15]) (.int .i8 3)).run Try.prog w = .ok x3 w := fun _ _ _ _ _ _ _ _ _ _ _ => by kernel_rfl
  have hnn : ∀ w : World, (binOp .neq 46 .nilFunc .nilFunc).run Try.prog w = .ok (.bool false) w := fun _ => by kernel_rfl
  have hnf : ∀ (f : Fn) (x y : Array Value) (w : World), (binOp .neq 46 (.func f x y) .nilFunc).run Try.prog w = .ok (.bool true) w := fun _ _ _ _ => by kernel_rfl
  go_enter Try.func15, Try.ntmps15
  go_wp2_with fail
  refine (table_any _).mono ?_
  rintro e w1 ⟨b1, b2, b3, b4, b5, b6, b7, b8, b9, b10, b11, b12, b13, rfl, hT, hb1⟩
  go_wp2
  go_ret
  exact ⟨rfl, hb1⟩
set_option maxHeartbeats 1000000 in
theorem may_4 (w : World) : Calls Try.prog 15 #[.int .i8 4] w fun e w' => e = .returned (.bool true) ∧ Below w.heap.size w w' := by
  have hix : ∀ (x2 x3 x4 x5 x6 x7 x12 x13 x14 x15 : Value) (w : World), (Instr.index 47 (.agg #[.nilFunc, .nilFunc, x2, x3, x4, x5, x6, x7, .nilFunc, .nilFunc, .nilFunc, .nilFunc, x12, x13, x14, x15]) (.int .i8 4)).run Try.prog w = .ok x4 w := fun _ _ _ _ _ _ _ _ _ _ _ => by kernel_rfl
  have hnn : ∀ w : World, (binOp .neq 46 .nilFunc .nilFunc).run Try.prog w = .ok (.bool false) w := fun _ => by kernel_rfl
  have hnf : ∀ (f : Fn) (x y : Array Value) (w : World), (binOp .neq 46 (.func f x y) .nilFunc).run Try.prog w = .ok (.bool true) w := fun _ _ _ _ => by kernel_rfl
  go_enter Try.func15, Try.ntmps15
  go_wp2_with fail
  refine (table_any _).mono ?_
  rintro e w1 ⟨b1, b2, b3, b4, b5, b6, b7, b8, b9, b10, b11, b12, b13, rfl, hT, hb1⟩
  go_wp2
  go_ret
  exact ⟨rfl, hb1⟩
set_option maxHeartbeats 1000000 in
theorem may_5 (w : World) : Calls Try.prog 15 #[.int .i8 5] w fun e w' => e = .returned (.bool true) ∧ Below w.heap.size w w' := by
  have hix : ∀ (x2 x3 x4 x5 x6 x7 x12 x13 x14 x15 : Value) (w : World), (Instr.index 47 (.agg #[.nilFunc, .nilFunc, x2, x3, x4, x5, x6, x7, .nilFunc, .nilFunc, .nilFunc, .nilFunc, x12, x13, x14, x15]) (.int .i8 5)).run Try.prog w = .ok x5 w := fun _ _ _ _ _ _ _ _ _ _ _ => by kernel_rfl
  have hnn : ∀ w : World, (binOp .neq 46 .nilFunc .nilFunc).run Try.prog w = .ok (.bool false) w := fun _ => by kernel_rfl
  have hnf : ∀ (f : Fn) (x y : Array Value) (w : World), (binOp .neq 46 (.func f x y) .nilFunc).run Try.prog w = .ok (.bool true) w := fun _ _ _ _ => by kernel_rfl
  go_enter Try.func15, Try.ntmps15
  go_wp2_with fail
  refine (table_any _).mono ?_
  rintro e w1 ⟨b1, b2, b3, b4, b5, b6, b7, b8, b9, b10, b11, b12, b13, rfl, hT, hb1⟩
  go_wp2
  go_ret
  exact ⟨rfl, hb1⟩
set_option maxHeartbeats 1000000 in
theorem may_6 (w : World) : Calls Try.prog 15 #[.int .i8 6] w fun e w' => e = .returned (.bool true) ∧ Below w.heap.size w w' := by
  have hix : ∀ (x2 x3 x4 x5 x6 x7 x12 x13 x14 x15 : Value) (w : World), (Instr.index 47 (.agg #[.nilFunc, .nilFunc, x2, x3, x4, x5, x6, x7, .nilFunc, .nilFunc, .nilFunc, .nilFunc, x12, x13, x14, x15]) (.int .i8 6)).run Try.prog w = .ok x6 w := fun _ _ _ _ _ _ _ _ _ _ _ => by kernel_rfl
  have hnn : ∀ w : World, (binOp .neq 46 .nilFunc .nilFunc).run Try.prog w = .ok (.bool false) w := fun _ => by kernel_rfl
  have hnf : ∀ (f : Fn) (x y : Array Value) (w : World), (binOp .neq 46 (.func f x y) .nilFunc).run Try.prog w = .ok (.bool true) w := fun _ _ _ _ => by kernel_rfl
  go_enter Try.func15, Try.ntmps15
  go_wp2_with fail
  refine (table_any _).mono ?_
  rintro e w1 ⟨b1, b2, b3, b4, b5, b6, b7, b8, b9, b10, b11, b12, b13, rfl, hT, hb1⟩
  go_wp2
  go_ret
  exact ⟨rfl, hb1⟩
set_option maxHeartbeats 1000000 in
theorem may_7 (w : World) : Calls Try.prog 15 #[.int .i8 7] w fun e w' => e = .returned (.bool true) ∧ Below w.heap.size w w' := by
  have hix : ∀ (x2 x3 x4 x5 x6 x7 x12 x13 x14 x15 : Value) (w : World), (Instr.index 47 (.agg #[.nilFunc, .nilFunc, x2, x3, x4, x5, x6, x7, .nilFunc, .nilFunc, .nilFunc, .nilFunc, x12, x13, x14, x15]) (.int .i8 7)).run Try.prog w = .ok x7 w := fun _ _ _ _ _ _ _ _ _ _ _ => by kernel_rfl
  have hnn : ∀ w : World, (binOp .neq 46 .nilFunc .nilFunc).run Try.prog w = .ok (.bool false) w := fun _ => by kernel_rfl
  have hnf : ∀ (f : Fn) (x y : Array Value) (w : World), (binOp .neq 46 (.func f x y) .nilFunc).run Try.prog w = .ok (.bool true) w := fun _ _ _ _ => by kernel_rfl
  go_enter Try.func15, Try.ntmps15
  go_wp2_with fail
  refine (table_any _).mono ?_
  rintro e w1 ⟨b1, b2, b3, b4, b5, b6, b7, b8, b9, b10, b11, b12, b13, rfl, hT, hb1⟩
  go_wp2
  go_ret
  exact ⟨rfl, hb1⟩
set_option maxHeartbeats 1000000 in
theorem may_8 (w : World) : Calls Try.prog 15 #[.int .i8 8] w fun e w' => e = .returned (.bool false) ∧ Below w.heap.size w w' := by
  have hix : ∀ (x2 x3 x4 x5 x6 x7 x12 x13 x14 x15 : Value) (w : World), (Instr.index 47 (.agg #[.nilFunc, .nilFunc, x2, x3, x4, x5, x6, x7, .nilFunc, .nilFunc, .nilFunc, .nilFunc, x12, x13, x14, x15]) (.int .i8 8)).run Try.prog w = .ok .nilFunc w := fun _ _ _ _ _ _ _ _ _ _ _ => by kernel_rfl
  have hnn : ∀ w : World, (binOp .neq 46 .nilFunc .nilFunc).run Try.prog w = .ok (.bool false) w := fun _ => by kernel_rfl
  have hnf : ∀ (f : Fn) (x y : Array Value) (w : World), (binOp .neq 46 (.func f x y) .nilFunc).run Try.prog w = .ok (.bool true) w := fun _ _ _ _ => by kernel_rfl
  go_enter Try.func15, Try.ntmps15
  go_wp2_with fail
  refine (table_any _).mono ?_
  rintro e w1 ⟨b1, b2, b3, b4, b5, b6, b7, b8, b9, b10, b11, b12, b13, rfl, hT, hb1⟩
  go_wp2
  go_ret
  exact ⟨rfl, hb1⟩
set_option maxHeartbeats 1000000 in
theorem may_9 (w : World) : Calls Try.prog 15 #[.int .i8 9] w fun e w' => e = .returned (.bool false) ∧ Below w.heap.size w w' := by
  have hix : ∀ (x2 x3 x4 x5 x6 x7 x12 x13 x14 x15 : Value) (w : World), (Instr.index 47 (.agg #[.nilFunc, .nilFunc, x2, x3, x4, x5, x6, x7, .nilFunc, .nilFunc, .nilFunc, .nilFunc, x12, x13, x14, x15]) (.int .i8 9)).run Try.prog w = .ok .nilFunc w := fun _ _ _ _ _ _ _ _ _ _ _ => by kernel_rfl
  have hnn : ∀ w : World, (binOp .neq 46 .nilFunc .nilFunc).run Try.prog w = .ok (.bool false) w := fun _ => by kernel_rfl
  have hnf : ∀ (f : Fn) (x y : Array Value) (w : World), (binOp .neq 46 (.func f x y) .nilFunc).run Try.prog w = .ok (.bool true) w := fun _ _ _ _ => by kernel_rfl
  go_enter Try.func15, Try.ntmps15
  go_wp2_with fail
  refine (table_any _).mono ?_
  rintro e w1 ⟨b1, b2, b3, b4, b5, b6, b7, b8, b9, b10, b11, b12, b13, rfl, hT, hb1⟩
  go_wp2
  go_ret
  exact ⟨rfl, hb1⟩
set_option maxHeartbeats 1000000 in
theorem may_10 (w : World) : Calls Try.prog 15 #[.int .i8 10] w fun e w' => e = .returned (.bool false) ∧ Below w.heap.size w w' := by
  have hix : ∀ (x2 x3 x4 x5 x6 x7 x12 x13 x14 x15 : Value) (w : World), (Instr.index 47 (.agg #[.nilFunc, .nilFunc, x2, x3, x4, x5, x6, x7, .nilFunc, .nilFunc, .nilFunc, .nilFunc, x12, x13, x14, x15]) (.int .i8 10)).run Try.prog w = .ok .nilFunc w := fun _ _ _ _ _ _ _ _ _ _ _ => by kernel_rfl
  have hnn : ∀ w : World, (binOp .neq 46 .nilFunc .nilFunc).run Try.prog w = .ok (.bool false) w := fun _ => by kernel_rfl
  have hnf : ∀ (f : Fn) (x y : Array Value) (w : World), (binOp .neq 46 (.func f x y) .nilFunc).run Try.prog w = .ok (.bool true) w := fun _ _ _ _ => by kernel_rfl
  go_enter Try.func15, Try.ntmps15
  go_wp2_with fail
  refine (table_any _).mono ?_
  rintro e w1 ⟨b1, b2, b3, b4, b5, b6, b7, b8, b9, b10, b11, b12, b13, rfl, hT, hb1⟩
  go_wp2
  go_ret
  exact ⟨rfl, hb1⟩
set_option maxHeartbeats 1000000 in
theorem may_11 (w : World) : Calls Try.prog 15 #[.int .i8 11] w fun e w' => e = .returned (.bool false) ∧ Below w.heap.size w w' := by
  have hix : ∀ (x2 x3 x4 x5 x6 x7 x12 x13 x14 x15 : Value) (w : World), (Instr.index 47 (.agg #[.nilFunc, .nilFunc, x2, x3, x4, x5, x6, x7, .nilFunc, .nilFunc, .nilFunc, .nilFunc, x12, x13, x14, x15]) (.int .i8 11)).run Try.prog w = .ok .nilFunc w := fun _ _ _ _ _ _ _ _ _ _ _ => by kernel_rfl
  have hnn : ∀ w : World, (binOp .neq 46 .nilFunc .nilFunc).run Try.prog w = .ok (.bool false) w := fun _ => by kernel_rfl
  have hnf : ∀ (f : Fn) (x y : Array Value) (w : World), (binOp .neq 46 (.func f x y) .nilFunc).run Try.prog w = .ok (.bool true) w := fun _ _ _ _ => by kernel_rfl
  go_enter Try.func15, Try.ntmps15
  go_wp2_with fail
  refine (table_any _).mono ?_
  rintro e w1 ⟨b1, b2, b3, b4, b5, b6, b7, b8, b9, b10, b11, b12, b13, rfl, hT, hb1⟩
  go_wp2
  go_ret
  exact ⟨rfl, hb1⟩
set_option maxHeartbeats 1000000 in
theorem may_12 (w : World) : Calls Try.prog 15 #[.int .i8 12] w fun e w' => e = .returned (.bool true) ∧ Below w.heap.size w w' := by
  have hix : ∀ (x2 x3 x4 x5 x6 x7 x12 x13 x14 x15 : Value) (w : World), (Instr.index 47 (.agg #[.nilFunc, .nilFunc, x2, x3, x4, x5, x6, x7, .nilFunc, .nilFunc, .nilFunc, .nilFunc, x12, x13, x14, x15]) (.int .i8 12)).run Try.prog w = .ok x12 w := fun _ _ _ _ _ _ _ _ _ _ _ => by kernel_rfl
  have hnn : ∀ w : World, (binOp .neq 46 .nilFunc .nilFunc).run Try.prog w = .ok (.bool false) w := fun _ => by kernel_rfl
  have hnf : ∀ (f : Fn) (x y : Array Value) (w : World), (binOp .neq 46 (.func f x y) .nilFunc).run Try.prog w = .ok (.bool true) w := fun _ _ _ _ => by kernel_rfl
  go_enter Try.func15, Try.ntmps15
  go_wp2_with fail
  refine (table_any _).mono ?_
  rintro e w1 ⟨b1, b2, b3, b4, b5, b6, b7, b8, b9, b10, b11, b12, b13, rfl, hT, hb1⟩
  go_wp2
  go_ret
  exact ⟨rfl, hb1⟩
set_option maxHeartbeats 1000000 in
theorem may_13 (w : World) : Calls Try.prog 15 #[.int .i8 13] w fun e w' => e = .returned (.bool true) ∧ Below w.heap.size w w' := by
  have hix : ∀ (x2 x3 x4 x5 x6 x7 x12 x13 x14 x15 : Value) (w : World), (Instr.index 47 (.agg #[.nilFunc, .nilFunc, x2, x3, x4, x5, x6, x7, .nilFunc, .nilFunc, .nilFunc, .nilFunc, x12, x13, x14, x15]) (.int .i8 13)).run Try.prog w = .ok x13 w := fun _ _ _ _ _ _ _ _ _ _ _ => by kernel_rfl
  have hnn : ∀ w : World, (binOp .neq 46 .nilFunc .nilFunc).run Try.prog w = .ok (.bool false) w := fun _ => by kernel_rfl
  have hnf : ∀ (f : Fn) (x y : Array Value) (w : World), (binOp .neq 46 (.func f x y) .nilFunc).run Try.prog w = .ok (.bool true) w := fun _ _ _ _ => by kernel_rfl
  go_enter Try.func15, Try.ntmps15
  go_wp2_with fail
  refine (table_any _).mono ?_
  rintro e w1 ⟨b1, b2, b3, b4, b5, b6, b7, b8, b9, b10, b11, b12, b13, rfl, hT, hb1⟩
  go_wp2
  go_ret
  exact ⟨rfl, hb1⟩
set_option maxHeartbeats 1000000 in
theorem may_14 (w : World) : Calls Try.prog 15 #[.int .i8 14] w fun e w' => e = .returned (.bool true) ∧ Below w.heap.size w w' := by
  have hix : ∀ (x2 x3 x4 x5 x6 x7 x12 x13 x14 x15 : Value) (w : World), (Instr.index 47 (.agg #[.nilFunc, .nilFunc, x2, x3, x4, x5, x6, x7, .nilFunc, .nilFunc, .nilFunc, .nilFunc, x12, x13, x14, x15]) (.int .i8 14)).run Try.prog w = .ok x14 w := fun _ _ _ _ _ _ _ _ _ _ _ => by kernel_rfl
  have hnn : ∀ w : World, (binOp .neq 46 .nilFunc .nilFunc).run Try.prog w = .ok (.bool false) w := fun _ => by kernel_rfl
  have hnf : ∀ (f : Fn) (x y : Array Value) (w : World), (binOp .neq 46 (.func f x y) .nilFunc).run Try.prog w = .ok (.bool true) w := fun _ _ _ _ => by kernel_rfl
  go_enter Try.func15, Try.ntmps15
  go_wp2_with fail
  refine (table_any _).mono ?_
  rintro e w1 ⟨b1, b2, b3, b4, b5, b6, b7, b8, b9, b10, b11, b12, b13, rfl, hT, hb1⟩
  go_wp2
  go_ret
  exact ⟨rfl, hb1⟩
set_option maxHeartbeats 1000000 in
theorem may_15 (w : World) : Calls Try.prog 15 #[.int .i8 15] w fun e w' => e = .returned (.bool true) ∧ Below w.heap.size w w' := by
  have hix : ∀ (x2 x3 x4 x5 x6 x7 x12 x13 x14 x15 : Value) (w : World), (Instr.index 47 (.agg #[.nilFunc, .nilFunc, x2, x3, x4, x5, x6, x7, .nilFunc, .nilFunc, .nilFunc, .nilFunc, x12, x13, x14, x15]) (.int .i8 15)).run Try.prog w = .ok x15 w := fun _ _ _ _ _ _ _ _ _ _ _ => by kernel_rfl
  have hnn : ∀ w : World, (binOp .neq 46 .nilFunc .nilFunc).run Try.prog w = .ok (.bool false) w := fun _ => by kernel_rfl
  have hnf : ∀ (f : Fn) (x y : Array Value) (w : World), (binOp .neq 46 (.func f x y) .nilFunc).run Try.prog w = .ok (.bool true) w := fun _ _ _ _ => by kernel_rfl
  go_enter Try.func15, Try.ntmps15
  go_wp2_with fail
  refine (table_any _).mono ?_
  rintro e w1 ⟨b1, b2, b3, b4, b5, b6, b7, b8, b9, b10, b11, b12, b13, rfl, hT, hb1⟩
  go_wp2
  go_ret
  exact ⟨rfl, hb1⟩
theorem may_any (cc : Int) (w : World) : Calls Try.prog 15 #[.int .i8 cc] w fun e w' => e = .returned (.bool (mayB cc)) ∧ Below w.heap.size w w' := by
  by_cases h0 : 0 ≤ cc
  · by_cases h1 : cc < 16
    · have h : cc = 0 ∨ cc = 1 ∨ cc = 2 ∨ cc = 3 ∨ cc = 4 ∨ cc = 5 ∨ cc = 6 ∨ cc = 7 ∨ cc = 8 ∨ cc = 9 ∨ cc = 10 ∨ cc = 11 ∨ cc = 12 ∨ cc = 13 ∨ cc = 14 ∨ cc = 15 := by omega
      rcases h with rfl | rfl | rfl | rfl | rfl | rfl | rfl | rfl | rfl | rfl | rfl | rfl | rfl | rfl | rfl | rfl
      · exact may_0 w
      · exact may_1 w
      · exact may_2 w
      · exact may_3 w
      · exact may_4 w
      · exact may_5 w
      · exact may_6 w
      · exact may_7 w
      · exact may_8 w
      · exact may_9 w
      · exact may_10 w
      · exact may_11 w
      · exact may_12 w
      · exact may_13 w
      · exact may_14 w
      · exact may_15 w
    · have h2 : 16 ≤ cc := by omega
      have hm : mayB cc = false := by simp [mayB]; omega
      have HM := hide hm
      clear hm
      go_enter Try.func15, Try.ntmps15
      go_wp2
      go_ret
      exact ⟨by rw [HM.out]; simp, Below.refl _ _⟩
  · have h2 : cc < 0 := by omega
    have hm : mayB cc = false := by simp [mayB]; omega
    have HM := hide hm
    clear hm
    go_enter Try.func15, Try.ntmps15
    go_wp2
    go_ret
    exact ⟨by rw [HM.out]; rfl, Below.refl _ _⟩
end Go.Proofs.Ytejgpgkigcbflaa
