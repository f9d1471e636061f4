/-
  Contracts of bits' order and Holds. Conditions: those written in each statement.
  One more short form. Conditions: those written in each statement.
-/
import Derived.Test.YtepagfkkjlbipaaGreatKag
section
namespace Go.Proofs.YtepagfkkjlbipaaGreat
open Go.RowKit
set_option linter.unusedVariables false
set_option linter.unusedSimpArgs false
set_option maxRecDepth 100000
def ordV (a b : Int) : Int := if a < b then -1 else if b < a then 1 else 0
/-- What a condition says of two words. -/
def holdsU (cc x a b : Int) : Bool :=
 if cc = 10 then bits .and .u64 (cutV x a) (cutV x b) != 0
 else
  let c := if 6 ≤ cc then ordV (wrap64 (signU x (cutV x a))) (wrap64 (signU x (cutV x b))) else ordV (cutV x a) (cutV x b)
  if cc = 0 then c == 0 else if cc = 1 then c != 0 else if cc = 2 ∨ cc = 6 then decide (0 < c) else if cc = 3 ∨ cc = 7 then decide (0 ≤ c) else if cc = 4 ∨ cc = 8 then decide (c < 0) else decide (c ≤ 0)
def holdsOk (cc x : Int) : Bool := decide (0 ≤ cc) && (decide (cc ≤ 10) && longB x)
theorem ord_u (a b : Int) (w : World) : Calls Tryz.prog 150 #[.int .u64 a, .int .u64 b] w fun e w' => e = .returned (.int .i64 (ordV a b)) ∧ w = w' := by
 cases h1 : decide (a < b)
 ·cases h2 : decide (b < a)
  ·go_enter Tryz.func150, Tryz.ntmps150
   go_wp2
   go_ret
   exact ⟨ret_i (by simp at h1 h2; unfold ordV; rw [if_neg (by omega), if_neg (by omega)]), rfl⟩
  ·go_enter Tryz.func150, Tryz.ntmps150
   go_wp2
   go_ret
   exact ⟨ret_i (by simp at h1 h2; unfold ordV; rw [if_neg (by omega), if_pos (by omega)]), rfl⟩
 ·go_enter Tryz.func150, Tryz.ntmps150
  go_wp2
  go_ret
  exact ⟨ret_i (by simp at h1; unfold ordV; rw [if_pos (by omega)]), rfl⟩
theorem ord_i (a b : Int) (w : World) : Calls Tryz.prog 151 #[.int .i64 a, .int .i64 b] w fun e w' => e = .returned (.int .i64 (ordV a b)) ∧ w = w' := by
 cases h1 : decide (a < b)
 ·cases h2 : decide (b < a)
  ·go_enter Tryz.func151, Tryz.ntmps151
   go_wp2
   go_ret
   exact ⟨ret_i (by simp at h1 h2; unfold ordV; rw [if_neg (by omega), if_neg (by omega)]), rfl⟩
  ·go_enter Tryz.func151, Tryz.ntmps151
   go_wp2
   go_ret
   exact ⟨ret_i (by simp at h1 h2; unfold ordV; rw [if_neg (by omega), if_pos (by omega)]), rfl⟩
 ·go_enter Tryz.func151, Tryz.ntmps151
  go_wp2
  go_ret
  exact ⟨ret_i (by simp at h1; unfold ordV; rw [if_pos (by omega)]), rfl⟩
theorem ret_tb {a b : Bool} {k : Int} (h : a = b) : Ending.returned (.tuple #[.bool a, .int .i64 k]) = .returned (.tuple #[.bool b, .int .i64 k]) := by rw [h]
theorem holdsOk_no {cc x : Int} (h : holdsOk cc x = false) : cc < 0 ∨ 10 < cc ∨ longB x = false := by
 unfold holdsOk at h
 cases hl : longB x
 ·exact .inr (.inr rfl)
 ·rw [hl] at h
  simp at h
  by_cases h0 : cc < 0
  ·exact .inl h0
  ·exact .inr (.inl (by omega))
theorem holdsOk_yes {cc x : Int} (h : holdsOk cc x = true) : (x = 32 ∨ x = 64) ∧ 0 ≤ cc ∧ cc ≤ 10 := by
 unfold holdsOk longB at h
 simp at h
 omega
theorem holds_no {cc x : Int} (a b : Int) (w : World) (h0 : holdsOk cc x = false) : Calls Tryz.prog 99 #[.int .i8 cc, .int .i8 x, .int .u64 a, .int .u64 b] w fun e w' => e = .returned (.tuple #[.bool false, .int .i64 2]) ∧ w = w' := by
 have h := holdsOk_no h0
 clear h0
 cases h1 : decide (cc < 0)
 ·cases h2 : decide (10 < cc)
  ·have HL := hide (show longB x = false by simp at h1 h2; rcases h with h | h | h <;> first | exact h | omega)
   clear h
   go_enter Tryz.func99, Tryz.ntmps99
   go_wp2_with fail
   refine (long_any x _).mono ?_
   rintro e w' ⟨rfl, rfl⟩
   rw [HL.out]
   go_wp2
   go_ret2
   exact ⟨rfl, rfl⟩
  ·clear h
   go_enter Tryz.func99, Tryz.ntmps99
   go_wp2
   go_ret2
   exact ⟨rfl, rfl⟩
 ·clear h
  go_enter Tryz.func99, Tryz.ntmps99
  go_wp2
  go_ret2
  exact ⟨rfl, rfl⟩
theorem pick0 (b0 b1 b2 b3 b4 b5 b6 b7 b8 b9 : Bool) (w : World) : (Instr.index 201 (.agg #[.bool b0, .bool b1, .bool b2, .bool b3, .bool b4, .bool b5, .bool b6, .bool b7, .bool b8, .bool b9]) (.int .i8 0)).run Tryz.prog w = .ok (.bool b0) w := by kernel_rfl
theorem pick1 (b0 b1 b2 b3 b4 b5 b6 b7 b8 b9 : Bool) (w : World) : (Instr.index 201 (.agg #[.bool b0, .bool b1, .bool b2, .bool b3, .bool b4, .bool b5, .bool b6, .bool b7, .bool b8, .bool b9]) (.int .i8 1)).run Tryz.prog w = .ok (.bool b1) w := by kernel_rfl
theorem pick2 (b0 b1 b2 b3 b4 b5 b6 b7 b8 b9 : Bool) (w : World) : (Instr.index 201 (.agg #[.bool b0, .bool b1, .bool b2, .bool b3, .bool b4, .bool b5, .bool b6, .bool b7, .bool b8, .bool b9]) (.int .i8 2)).run Tryz.prog w = .ok (.bool b2) w := by kernel_rfl
theorem pick3 (b0 b1 b2 b3 b4 b5 b6 b7 b8 b9 : Bool) (w : World) : (Instr.index 201 (.agg #[.bool b0, .bool b1, .bool b2, .bool b3, .bool b4, .bool b5, .bool b6, .bool b7, .bool b8, .bool b9]) (.int .i8 3)).run Tryz.prog w = .ok (.bool b3) w := by kernel_rfl
theorem pick4 (b0 b1 b2 b3 b4 b5 b6 b7 b8 b9 : Bool) (w : World) : (Instr.index 201 (.agg #[.bool b0, .bool b1, .bool b2, .bool b3, .bool b4, .bool b5, .bool b6, .bool b7, .bool b8, .bool b9]) (.int .i8 4)).run Tryz.prog w = .ok (.bool b4) w := by kernel_rfl
theorem pick5 (b0 b1 b2 b3 b4 b5 b6 b7 b8 b9 : Bool) (w : World) : (Instr.index 201 (.agg #[.bool b0, .bool b1, .bool b2, .bool b3, .bool b4, .bool b5, .bool b6, .bool b7, .bool b8, .bool b9]) (.int .i8 5)).run Tryz.prog w = .ok (.bool b5) w := by kernel_rfl
theorem pick6 (b0 b1 b2 b3 b4 b5 b6 b7 b8 b9 : Bool) (w : World) : (Instr.index 201 (.agg #[.bool b0, .bool b1, .bool b2, .bool b3, .bool b4, .bool b5, .bool b6, .bool b7, .bool b8, .bool b9]) (.int .i8 6)).run Tryz.prog w = .ok (.bool b6) w := by kernel_rfl
theorem pick7 (b0 b1 b2 b3 b4 b5 b6 b7 b8 b9 : Bool) (w : World) : (Instr.index 201 (.agg #[.bool b0, .bool b1, .bool b2, .bool b3, .bool b4, .bool b5, .bool b6, .bool b7, .bool b8, .bool b9]) (.int .i8 7)).run Tryz.prog w = .ok (.bool b7) w := by kernel_rfl
theorem pick8 (b0 b1 b2 b3 b4 b5 b6 b7 b8 b9 : Bool) (w : World) : (Instr.index 201 (.agg #[.bool b0, .bool b1, .bool b2, .bool b3, .bool b4, .bool b5, .bool b6, .bool b7, .bool b8, .bool b9]) (.int .i8 8)).run Tryz.prog w = .ok (.bool b8) w := by kernel_rfl
theorem pick9 (b0 b1 b2 b3 b4 b5 b6 b7 b8 b9 : Bool) (w : World) : (Instr.index 201 (.agg #[.bool b0, .bool b1, .bool b2, .bool b3, .bool b4, .bool b5, .bool b6, .bool b7, .bool b8, .bool b9]) (.int .i8 9)).run Tryz.prog w = .ok (.bool b9) w := by kernel_rfl
set_option maxHeartbeats 1000000 in
theorem holds_0 {x : Int} (a b : Int) (w : World) (h : longB x = true) : Calls Tryz.prog 99 #[.int .i8 0, .int .i8 x, .int .u64 a, .int .u64 b] w fun e w' => e = .returned (.tuple #[.bool (holdsU 0 x a b), .int .i64 0]) ∧ w = w' := by
 have HL := hide h
 clear h
 go_enter Tryz.func99, Tryz.ntmps99
 go_wp2_with fail
 refine (long_any _ _).mono ?_
 rintro e w' ⟨rfl, rfl⟩
 rw [HL.out]
 go_wp2_with fail
 refine (cut_any _ _ _).mono ?_
 rintro e w' ⟨rfl, rfl⟩
 go_wp2_with fail
 refine (cut_any _ _ _).mono ?_
 rintro e w' ⟨rfl, rfl⟩
 go_wp2_with fail
 refine (ord_u _ _ _).mono ?_
 rintro e w' ⟨rfl, rfl⟩
 obtain ⟨c, hc⟩ : ∃ c, ordV (cutV x a) (cutV x b) = c := ⟨_, rfl⟩
 rw [hc]
 have HC := hide hc
 clear hc
 have hix := pick0
 go_wp2
 go_ret2
 exact ⟨ret_tb (by unfold holdsU; simp [HC.out]), rfl⟩
set_option maxHeartbeats 1000000 in
theorem holds_1 {x : Int} (a b : Int) (w : World) (h : longB x = true) : Calls Tryz.prog 99 #[.int .i8 1, .int .i8 x, .int .u64 a, .int .u64 b] w fun e w' => e = .returned (.tuple #[.bool (holdsU 1 x a b), .int .i64 0]) ∧ w = w' := by
 have HL := hide h
 clear h
 go_enter Tryz.func99, Tryz.ntmps99
 go_wp2_with fail
 refine (long_any _ _).mono ?_
 rintro e w' ⟨rfl, rfl⟩
 rw [HL.out]
 go_wp2_with fail
 refine (cut_any _ _ _).mono ?_
 rintro e w' ⟨rfl, rfl⟩
 go_wp2_with fail
 refine (cut_any _ _ _).mono ?_
 rintro e w' ⟨rfl, rfl⟩
 go_wp2_with fail
 refine (ord_u _ _ _).mono ?_
 rintro e w' ⟨rfl, rfl⟩
 obtain ⟨c, hc⟩ : ∃ c, ordV (cutV x a) (cutV x b) = c := ⟨_, rfl⟩
 rw [hc]
 have HC := hide hc
 clear hc
 have hix := pick1
 go_wp2
 go_ret2
 exact ⟨ret_tb (by unfold holdsU; simp [HC.out]), rfl⟩
set_option maxHeartbeats 1000000 in
theorem holds_2 {x : Int} (a b : Int) (w : World) (h : longB x = true) : Calls Tryz.prog 99 #[.int .i8 2, .int .i8 x, .int .u64 a, .int .u64 b] w fun e w' => e = .returned (.tuple #[.bool (holdsU 2 x a b), .int .i64 0]) ∧ w = w' := by
 have HL := hide h
 clear h
 go_enter Tryz.func99, Tryz.ntmps99
 go_wp2_with fail
 refine (long_any _ _).mono ?_
 rintro e w' ⟨rfl, rfl⟩
 rw [HL.out]
 go_wp2_with fail
 refine (cut_any _ _ _).mono ?_
 rintro e w' ⟨rfl, rfl⟩
 go_wp2_with fail
 refine (cut_any _ _ _).mono ?_
 rintro e w' ⟨rfl, rfl⟩
 go_wp2_with fail
 refine (ord_u _ _ _).mono ?_
 rintro e w' ⟨rfl, rfl⟩
 obtain ⟨c, hc⟩ : ∃ c, ordV (cutV x a) (cutV x b) = c := ⟨_, rfl⟩
 rw [hc]
 have HC := hide hc
 clear hc
 have hix := pick2
 go_wp2
 go_ret2
 exact ⟨ret_tb (by unfold holdsU; simp [HC.out]), rfl⟩
set_option maxHeartbeats 1000000 in
theorem holds_3 {x : Int} (a b : Int) (w : World) (h : longB x = true) : Calls Tryz.prog 99 #[.int .i8 3, .int .i8 x, .int .u64 a, .int .u64 b] w fun e w' => e = .returned (.tuple #[.bool (holdsU 3 x a b), .int .i64 0]) ∧ w = w' := by
 have HL := hide h
 clear h
 go_enter Tryz.func99, Tryz.ntmps99
 go_wp2_with fail
 refine (long_any _ _).mono ?_
 rintro e w' ⟨rfl, rfl⟩
 rw [HL.out]
 go_wp2_with fail
 refine (cut_any _ _ _).mono ?_
 rintro e w' ⟨rfl, rfl⟩
 go_wp2_with fail
 refine (cut_any _ _ _).mono ?_
 rintro e w' ⟨rfl, rfl⟩
 go_wp2_with fail
 refine (ord_u _ _ _).mono ?_
 rintro e w' ⟨rfl, rfl⟩
 obtain ⟨c, hc⟩ : ∃ c, ordV (cutV x a) (cutV x b) = c := ⟨_, rfl⟩
 rw [hc]
 have HC := hide hc
 clear hc
 have hix := pick3
 go_wp2
 go_ret2
 exact ⟨ret_tb (by unfold holdsU; simp [HC.out]), rfl⟩
set_option maxHeartbeats 1000000 in
theorem holds_4 {x : Int} (a b : Int) (w : World) (h : longB x = true) : Calls Tryz.prog 99 #[.int .i8 4, .int .i8 x, .int .u64 a, .int .u64 b] w fun e w' => e = .returned (.tuple #[.bool (holdsU 4 x a b), .int .i64 0]) ∧ w = w' := by
 have HL := hide h
 clear h
 go_enter Tryz.func99, Tryz.ntmps99
 go_wp2_with fail
 refine (long_any _ _).mono ?_
 rintro e w' ⟨rfl, rfl⟩
 rw [HL.out]
 go_wp2_with fail
 refine (cut_any _ _ _).mono ?_
 rintro e w' ⟨rfl, rfl⟩
 go_wp2_with fail
 refine (cut_any _ _ _).mono ?_
 rintro e w' ⟨rfl, rfl⟩
 go_wp2_with fail
 refine (ord_u _ _ _).mono ?_
 rintro e w' ⟨rfl, rfl⟩
 obtain ⟨c, hc⟩ : ∃ c, ordV (cutV x a) (cutV x b) = c := ⟨_, rfl⟩
 rw [hc]
 have HC := hide hc
 clear hc
 have hix := pick4
 go_wp2
 go_ret2
 exact ⟨ret_tb (by unfold holdsU; simp [HC.out]), rfl⟩
set_option maxHeartbeats 1000000 in
theorem holds_5 {x : Int} (a b : Int) (w : World) (h : longB x = true) : Calls Tryz.prog 99 #[.int .i8 5, .int .i8 x, .int .u64 a, .int .u64 b] w fun e w' => e = .returned (.tuple #[.bool (holdsU 5 x a b), .int .i64 0]) ∧ w = w' := by
 have HL := hide h
 clear h
 go_enter Tryz.func99, Tryz.ntmps99
 go_wp2_with fail
 refine (long_any _ _).mono ?_
 rintro e w' ⟨rfl, rfl⟩
 rw [HL.out]
 go_wp2_with fail
 refine (cut_any _ _ _).mono ?_
 rintro e w' ⟨rfl, rfl⟩
 go_wp2_with fail
 refine (cut_any _ _ _).mono ?_
 rintro e w' ⟨rfl, rfl⟩
 go_wp2_with fail
 refine (ord_u _ _ _).mono ?_
 rintro e w' ⟨rfl, rfl⟩
 obtain ⟨c, hc⟩ : ∃ c, ordV (cutV x a) (cutV x b) = c := ⟨_, rfl⟩
 rw [hc]
 have HC := hide hc
 clear hc
 have hix := pick5
 go_wp2
 go_ret2
 exact ⟨ret_tb (by unfold holdsU; simp [HC.out]), rfl⟩
set_option maxHeartbeats 1000000 in
theorem holds_6 {x : Int} (a b : Int) (w : World) (h : longB x = true) : Calls Tryz.prog 99 #[.int .i8 6, .int .i8 x, .int .u64 a, .int .u64 b] w fun e w' => e = .returned (.tuple #[.bool (holdsU 6 x a b), .int .i64 0]) ∧ w = w' := by
 have HL := hide h
 clear h
 go_enter Tryz.func99, Tryz.ntmps99
 go_wp2_with fail
 refine (long_any _ _).mono ?_
 rintro e w' ⟨rfl, rfl⟩
 rw [HL.out]
 go_wp2_with fail
 refine (cut_any _ _ _).mono ?_
 rintro e w' ⟨rfl, rfl⟩
 go_wp2_with fail
 refine (cut_any _ _ _).mono ?_
 rintro e w' ⟨rfl, rfl⟩
 go_wp2_with fail
 refine (ord_u _ _ _).mono ?_
 rintro e w' ⟨rfl, rfl⟩
 obtain ⟨c, hc⟩ : ∃ c, ordV (cutV x a) (cutV x b) = c := ⟨_, rfl⟩
 rw [hc]
 have HC := hide hc
 clear hc
 go_wp2_with fail
 refine (sign_any _ _ _).mono ?_
 rintro e w' ⟨rfl, rfl⟩
 go_wp2_with fail
 refine (sign_any _ _ _).mono ?_
 rintro e w' ⟨rfl, rfl⟩
 go_wp2_with fail
 refine (ord_i _ _ _).mono ?_
 rintro e w' ⟨rfl, rfl⟩
 clear HC
 obtain ⟨c, hc⟩ : ∃ c, ordV (wrap64 (signU x (cutV x a))) (wrap64 (signU x (cutV x b))) = c := ⟨_, rfl⟩
 rw [hc]
 have HC := hide hc
 clear hc
 have hix := pick6
 go_wp2
 go_ret2
 exact ⟨ret_tb (by unfold holdsU; simp [HC.out]), rfl⟩
set_option maxHeartbeats 1000000 in
theorem holds_7 {x : Int} (a b : Int) (w : World) (h : longB x = true) : Calls Tryz.prog 99 #[.int .i8 7, .int .i8 x, .int .u64 a, .int .u64 b] w fun e w' => e = .returned (.tuple #[.bool (holdsU 7 x a b), .int .i64 0]) ∧ w = w' := by
 have HL := hide h
 clear h
 go_enter Tryz.func99, Tryz.ntmps99
 go_wp2_with fail
 refine (long_any _ _).mono ?_
 rintro e w' ⟨rfl, rfl⟩
 rw [HL.out]
 go_wp2_with fail
 refine (cut_any _ _ _).mono ?_
 rintro e w' ⟨rfl, rfl⟩
 go_wp2_with fail
 refine (cut_any _ _ _).mono ?_
 rintro e w' ⟨rfl, rfl⟩
 go_wp2_with fail
 refine (ord_u _ _ _).mono ?_
 rintro e w' ⟨rfl, rfl⟩
 obtain ⟨c, hc⟩ : ∃ c, ordV (cutV x a) (cutV x b) = c := ⟨_, rfl⟩
 rw [hc]
 have HC := hide hc
 clear hc
 go_wp2_with fail
 refine (sign_any _ _ _).mono ?_
 rintro e w' ⟨rfl, rfl⟩
 go_wp2_with fail
 refine (sign_any _ _ _).mono ?_
 rintro e w' ⟨rfl, rfl⟩
 go_wp2_with fail
 refine (ord_i _ _ _).mono ?_
 rintro e w' ⟨rfl, rfl⟩
 clear HC
 obtain ⟨c, hc⟩ : ∃ c, ordV (wrap64 (signU x (cutV x a))) (wrap64 (signU x (cutV x b))) = c := ⟨_, rfl⟩
 rw [hc]
 have HC := hide hc
 clear hc
 have hix := pick7
 go_wp2
 go_ret2
 exact ⟨ret_tb (by unfold holdsU; simp [HC.out]), rfl⟩
set_option maxHeartbeats 1000000 in
theorem holds_8 {x : Int} (a b : Int) (w : World) (h : longB x = true) : Calls Tryz.prog 99 #[.int .i8 8, .int .i8 x, .int .u64 a, .int .u64 b] w fun e w' => e = .returned (.tuple #[.bool (holdsU 8 x a b), .int .i64 0]) ∧ w = w' := by
 have HL := hide h
 clear h
 go_enter Tryz.func99, Tryz.ntmps99
 go_wp2_with fail
 refine (long_any _ _).mono ?_
 rintro e w' ⟨rfl, rfl⟩
 rw [HL.out]
 go_wp2_with fail
 refine (cut_any _ _ _).mono ?_
 rintro e w' ⟨rfl, rfl⟩
 go_wp2_with fail
 refine (cut_any _ _ _).mono ?_
 rintro e w' ⟨rfl, rfl⟩
 go_wp2_with fail
 refine (ord_u _ _ _).mono ?_
 rintro e w' ⟨rfl, rfl⟩
 obtain ⟨c, hc⟩ : ∃ c, ordV (cutV x a) (cutV x b) = c := ⟨_, rfl⟩
 rw [hc]
 have HC := hide hc
 clear hc
 go_wp2_with fail
 refine (sign_any _ _ _).mono ?_
 rintro e w' ⟨rfl, rfl⟩
 go_wp2_with fail
 refine (sign_any _ _ _).mono ?_
 rintro e w' ⟨rfl, rfl⟩
 go_wp2_with fail
 refine (ord_i _ _ _).mono ?_
 rintro e w' ⟨rfl, rfl⟩
 clear HC
 obtain ⟨c, hc⟩ : ∃ c, ordV (wrap64 (signU x (cutV x a))) (wrap64 (signU x (cutV x b))) = c := ⟨_, rfl⟩
 rw [hc]
 have HC := hide hc
 clear hc
 have hix := pick8
 go_wp2
 go_ret2
 exact ⟨ret_tb (by unfold holdsU; simp [HC.out]), rfl⟩
set_option maxHeartbeats 1000000 in
theorem holds_9 {x : Int} (a b : Int) (w : World) (h : longB x = true) : Calls Tryz.prog 99 #[.int .i8 9, .int .i8 x, .int .u64 a, .int .u64 b] w fun e w' => e = .returned (.tuple #[.bool (holdsU 9 x a b), .int .i64 0]) ∧ w = w' := by
 have HL := hide h
 clear h
 go_enter Tryz.func99, Tryz.ntmps99
 go_wp2_with fail
 refine (long_any _ _).mono ?_
 rintro e w' ⟨rfl, rfl⟩
 rw [HL.out]
 go_wp2_with fail
 refine (cut_any _ _ _).mono ?_
 rintro e w' ⟨rfl, rfl⟩
 go_wp2_with fail
 refine (cut_any _ _ _).mono ?_
 rintro e w' ⟨rfl, rfl⟩
 go_wp2_with fail
 refine (ord_u _ _ _).mono ?_
 rintro e w' ⟨rfl, rfl⟩
 obtain ⟨c, hc⟩ : ∃ c, ordV (cutV x a) (cutV x b) = c := ⟨_, rfl⟩
 rw [hc]
 have HC := hide hc
 clear hc
 go_wp2_with fail
 refine (sign_any _ _ _).mono ?_
 rintro e w' ⟨rfl, rfl⟩
 go_wp2_with fail
 refine (sign_any _ _ _).mono ?_
 rintro e w' ⟨rfl, rfl⟩
 go_wp2_with fail
 refine (ord_i _ _ _).mono ?_
 rintro e w' ⟨rfl, rfl⟩
 clear HC
 obtain ⟨c, hc⟩ : ∃ c, ordV (wrap64 (signU x (cutV x a))) (wrap64 (signU x (cutV x b))) = c := ⟨_, rfl⟩
 rw [hc]
 have HC := hide hc
 clear hc
 have hix := pick9
 go_wp2
 go_ret2
 exact ⟨ret_tb (by unfold holdsU; simp [HC.out]), rfl⟩
set_option maxHeartbeats 1000000 in
theorem holds_10 {x : Int} (a b : Int) (w : World) (h : longB x = true) : Calls Tryz.prog 99 #[.int .i8 10, .int .i8 x, .int .u64 a, .int .u64 b] w fun e w' => e = .returned (.tuple #[.bool (holdsU 10 x a b), .int .i64 0]) ∧ w = w' := by
 have HL := hide h
 clear h
 go_enter Tryz.func99, Tryz.ntmps99
 go_wp2_with fail
 refine (long_any _ _).mono ?_
 rintro e w' ⟨rfl, rfl⟩
 rw [HL.out]
 go_wp2_with fail
 refine (cut_any _ _ _).mono ?_
 rintro e w' ⟨rfl, rfl⟩
 go_wp2_with fail
 refine (cut_any _ _ _).mono ?_
 rintro e w' ⟨rfl, rfl⟩
 go_wp2
 go_ret2
 exact ⟨rfl, rfl⟩
theorem holds_yes {cc x : Int} (a b : Int) (w : World) (h : holdsOk cc x = true) : Calls Tryz.prog 99 #[.int .i8 cc, .int .i8 x, .int .u64 a, .int .u64 b] w fun e w' => e = .returned (.tuple #[.bool (holdsU cc x a b), .int .i64 0]) ∧ w = w' := by
 obtain ⟨hx, h0, h1⟩ := holdsOk_yes h
 have hL : longB x = true := by rcases hx with rfl | rfl <;> rfl
 have hops : cc = 0 ∨ cc = 1 ∨ cc = 2 ∨ cc = 3 ∨ cc = 4 ∨ cc = 5 ∨ cc = 6 ∨ cc = 7 ∨ cc = 8 ∨ cc = 9 ∨ cc = 10 := by omega
 clear h h0 h1 hx
 rcases hops with rfl | rfl | rfl | rfl | rfl | rfl | rfl | rfl | rfl | rfl | rfl
 ·exact holds_0 a b w hL
 ·exact holds_1 a b w hL
 ·exact holds_2 a b w hL
 ·exact holds_3 a b w hL
 ·exact holds_4 a b w hL
 ·exact holds_5 a b w hL
 ·exact holds_6 a b w hL
 ·exact holds_7 a b w hL
 ·exact holds_8 a b w hL
 ·exact holds_9 a b w hL
 ·exact holds_10 a b w hL
end Go.Proofs.YtepagfkkjlbipaaGreat
end
section
namespace Go.Proofs.YtepagfkkjlbipaaGreat
open Go.RowKit
set_option linter.unusedVariables false
set_option linter.unusedSimpArgs false
section
variable {P : Program} {ops : Array Oper} {Q : Exit → Act → World → Prop} {md : Region.Mode} {T S : World → Prop} {late : List Nat} {fuel : Nat} {listed : Array Bool} {ts : List Value} {ds : List Deferred} {w : World} {t : Nat}
theorem eb (i : Nat) (v : Value) {op : Op} (ho : opAt ops i = some (some t, op)) (hy : ∀ o : Oper, o.op = op → ∀ w, SS T S false w → (execOp (Act.eval ⟨ts.toArray, ds⟩) o).run P w = .ok (.value v) w) (hS : St T S late listed w) (h : wpAnyE P md ops Q T S late fuel (listed.setIfInBounds i true) ⟨(sL ts t v).toArray, ds⟩ w) (hc : checkE md ops late listed i false = true := by kernel_rfl) (hw : wantAt ops i ⟨ts.toArray, ds⟩ = some true := by rfl) (hQ : ∀ c (a : Act) w, Q (.panic c) (a.put (some t) v) w → Q (.panic c) a w := by exact fun _ _ _ h => h) :
  wpAnyE P md ops Q T S late (fuel + 1) listed ⟨ts.toArray, ds⟩ w := E_any false i _ op v ho hc hw hQ hy hS (by rw [pt]; exact h)
theorem ej (i : Nat) (vx vy v : Value) {ty : TypeId} {x y : Operand} (hr : ∀ w, (Instr.indexAt ty vx vy).run P w = .ok v w) (hS : St T S late listed w) (h : wpAnyE P md ops Q T S late fuel (listed.setIfInBounds i true) ⟨(sL ts t v).toArray, ds⟩ w) (ho : opAt ops i = some (some t, .indexAddr ty x y) := by rfl) (hc : checkE md ops late listed i false = true := by kernel_rfl) (hw : wantAt ops i ⟨ts.toArray, ds⟩ = some true := by rfl) (hQ : ∀ c (a : Act) w, Q (.panic c) (a.put (some t) v) w → Q (.panic c) a w := by exact fun _ _ _ h => h)
  (hx : Act.eval ⟨ts.toArray, ds⟩ x = vx := by rfl) (hy : Act.eval ⟨ts.toArray, ds⟩ y = vy := by rfl) : wpAnyE P md ops Q T S late (fuel + 1) listed ⟨ts.toArray, ds⟩ w := E_any false i _ _ v ho hc hw hQ (fun o e w _ => by
  unfold execOp
  simp only [e, hx, hy, Sem.run_bind, hr, Result.andThen_ok, Sem.run_pure]) hS (by rw [pt]; exact h)
end
end Go.Proofs.YtepagfkkjlbipaaGreat
end
