/-
  Contracts of bits' operations and Do. Conditions: those written in each statement.
  norm.Op in plain words; what its laws share in memory. Conditions: those written in each statement.
-/
import Derived.Test.YtepagfkkjlbipaaKai
import Derived.Laws.BitsLemmas
import Derived.Shelf.Abstract
section
namespace Go.Proofs.Ytepagfkkjlbipaa
open Go.RowKit
set_option linter.unusedVariables false
set_option linter.unusedSimpArgs false
set_option maxRecDepth 100000
/-- What an operation makes of two words that are cut; y: how far a shift goes. -/
def doV (op a b y x : Int) : Int :=
  if op = 0 then IntKind.u64.wrap (a + b)
  else if op = 1 then IntKind.u64.wrap (a - b)
  else if op = 2 then IntKind.u64.wrap (a * b)
  else if op = 3 then (if b = 0 then 0 else IntKind.u64.wrap (a.tdiv b))
  else if op = 4 then bits .or .u64 a b
  else if op = 5 then bits .and .u64 a b
  else if op = 6 then IntKind.u64.wrap (a * 2 ^ y.toNat)
  else if op = 7 then a / 2 ^ y.toNat
  else if op = 8 then IntKind.u64.wrap (-a)
  else if op = 9 then (if b = 0 then a else a.tmod b)
  else if op = 10 then bits .xor .u64 a b
  else if op = 11 then b
  else IntKind.u64.wrap (wrap64 (signU x a) / 2 ^ y.toNat)
theorem opc1 (a b y x : Int) (w : World) : Calls Try.prog 93 #[.int .u64 a, .int .u64 b, .int .u64 y, .int .i8 x] w fun e w' => e = .returned (.int .u64 (doV 0 a b y x)) ∧ w = w' := by
  go_enter Try.func93, Try.ntmps93
  go_wp2
  go_ret
  exact ⟨rfl, rfl⟩
theorem opc2 (a b y x : Int) (w : World) : Calls Try.prog 94 #[.int .u64 a, .int .u64 b, .int .u64 y, .int .i8 x] w fun e w' => e = .returned (.int .u64 (doV 1 a b y x)) ∧ w = w' := by
  go_enter Try.func94, Try.ntmps94
  go_wp2
  go_ret
  exact ⟨rfl, rfl⟩
theorem opc3 (a b y x : Int) (w : World) : Calls Try.prog 95 #[.int .u64 a, .int .u64 b, .int .u64 y, .int .i8 x] w fun e w' => e = .returned (.int .u64 (doV 2 a b y x)) ∧ w = w' := by
  go_enter Try.func95, Try.ntmps95
  go_wp2
  go_ret
  exact ⟨rfl, rfl⟩
theorem opc4 (a b y x : Int) (w : World) : Calls Try.prog 96 #[.int .u64 a, .int .u64 b, .int .u64 y, .int .i8 x] w fun e w' => e = .returned (.int .u64 (doV 3 a b y x)) ∧ w = w' := by
  cases hb : (b == 0)
  · have hb' : b ≠ 0 := by simpa using hb
    go_enter Try.func96, Try.ntmps96
    go_wp2
    go_ret
    exact ⟨ret_i (by unfold doV; simp [hb']), rfl⟩
  · obtain rfl : b = 0 := by simpa using hb
    go_enter Try.func96, Try.ntmps96
    go_wp2
    go_ret
    exact ⟨rfl, rfl⟩
theorem opc5 (a b y x : Int) (w : World) : Calls Try.prog 97 #[.int .u64 a, .int .u64 b, .int .u64 y, .int .i8 x] w fun e w' => e = .returned (.int .u64 (doV 4 a b y x)) ∧ w = w' := by
  go_enter Try.func97, Try.ntmps97
  go_wp2
  go_ret
  exact ⟨rfl, rfl⟩
theorem opc6 (a b y x : Int) (w : World) : Calls Try.prog 98 #[.int .u64 a, .int .u64 b, .int .u64 y, .int .i8 x] w fun e w' => e = .returned (.int .u64 (doV 5 a b y x)) ∧ w = w' := by
  go_enter Try.func98, Try.ntmps98
  go_wp2
  go_ret
  exact ⟨rfl, rfl⟩
theorem opc7 (a b y x : Int) (w : World) (h0 : 0 ≤ y) (h1 : y < 64) : Calls Try.prog 99 #[.int .u64 a, .int .u64 b, .int .u64 y, .int .i8 x] w fun e w' => e = .returned (.int .u64 (doV 6 a b y x)) ∧ w = w' := by
  go_enter Try.func99, Try.ntmps99
  go_wp2
  go_ret
  exact ⟨rfl, rfl⟩
theorem opc8 (a b y x : Int) (w : World) (h0 : 0 ≤ y) (h1 : y < 64) : Calls Try.prog 100 #[.int .u64 a, .int .u64 b, .int .u64 y, .int .i8 x] w fun e w' => e = .returned (.int .u64 (doV 7 a b y x)) ∧ w = w' := by
  go_enter Try.func100, Try.ntmps100
  go_wp2
  go_ret
  exact ⟨rfl, rfl⟩
theorem opc9 (a b y x : Int) (w : World) : Calls Try.prog 101 #[.int .u64 a, .int .u64 b, .int .u64 y, .int .i8 x] w fun e w' => e = .returned (.int .u64 (doV 8 a b y x)) ∧ w = w' := by
  go_enter Try.func101, Try.ntmps101
  go_wp2
  go_ret
  exact ⟨rfl, rfl⟩
theorem opc10 (a b y x : Int) (w : World) : Calls Try.prog 102 #[.int .u64 a, .int .u64 b, .int .u64 y, .int .i8 x] w fun e w' => e = .returned (.int .u64 (doV 9 a b y x)) ∧ w = w' := by
  cases hb : (b == 0)
  · have hb' : b ≠ 0 := by simpa using hb
    go_enter Try.func102, Try.ntmps102
    go_wp2
    go_ret
    exact ⟨ret_i (by unfold doV; simp [hb']), rfl⟩
  · obtain rfl : b = 0 := by simpa using hb
    go_enter Try.func102, Try.ntmps102
    go_wp2
    go_ret
    exact ⟨rfl, rfl⟩
theorem opc11 (a b y x : Int) (w : World) : Calls Try.prog 103 #[.int .u64 a, .int .u64 b, .int .u64 y, .int .i8 x] w fun e w' => e = .returned (.int .u64 (doV 10 a b y x)) ∧ w = w' := by
  go_enter Try.func103, Try.ntmps103
  go_wp2
  go_ret
  exact ⟨rfl, rfl⟩
theorem opc12 (a b y x : Int) (w : World) : Calls Try.prog 104 #[.int .u64 a, .int .u64 b, .int .u64 y, .int .i8 x] w fun e w' => e = .returned (.int .u64 (doV 11 a b y x)) ∧ w = w' := by
  go_enter Try.func104, Try.ntmps104
  go_wp2
  go_ret
  exact ⟨rfl, rfl⟩
theorem opc13 (a b y x : Int) (w : World) (h0 : 0 ≤ y) (h1 : y < 64) : Calls Try.prog 105 #[.int .u64 a, .int .u64 b, .int .u64 y, .int .i8 x] w fun e w' => e = .returned (.int .u64 (doV 12 a b y x)) ∧ w = w' := by
  go_enter Try.func105, Try.ntmps105
  go_wp2_with fail
  refine (sign_any _ _ _).mono ?_
  rintro e w' ⟨rfl, rfl⟩
  go_wp2
  go_ret
  exact ⟨rfl, rfl⟩
theorem index1 (w : World) : (Instr.index 134 (.agg opsL.toArray) (.int .i8 0)).run Try.prog w = .ok (.func (.func 93) #[] #[]) w := by kernel_rfl
theorem index2 (w : World) : (Instr.index 134 (.agg opsL.toArray) (.int .i8 1)).run Try.prog w = .ok (.func (.func 94) #[] #[]) w := by kernel_rfl
theorem index3 (w : World) : (Instr.index 134 (.agg opsL.toArray) (.int .i8 2)).run Try.prog w = .ok (.func (.func 95) #[] #[]) w := by kernel_rfl
theorem index4 (w : World) : (Instr.index 134 (.agg opsL.toArray) (.int .i8 3)).run Try.prog w = .ok (.func (.func 96) #[] #[]) w := by kernel_rfl
theorem index5 (w : World) : (Instr.index 134 (.agg opsL.toArray) (.int .i8 4)).run Try.prog w = .ok (.func (.func 97) #[] #[]) w := by kernel_rfl
theorem index6 (w : World) : (Instr.index 134 (.agg opsL.toArray) (.int .i8 5)).run Try.prog w = .ok (.func (.func 98) #[] #[]) w := by kernel_rfl
theorem index7 (w : World) : (Instr.index 134 (.agg opsL.toArray) (.int .i8 6)).run Try.prog w = .ok (.func (.func 99) #[] #[]) w := by kernel_rfl
theorem index8 (w : World) : (Instr.index 134 (.agg opsL.toArray) (.int .i8 7)).run Try.prog w = .ok (.func (.func 100) #[] #[]) w := by kernel_rfl
theorem index9 (w : World) : (Instr.index 134 (.agg opsL.toArray) (.int .i8 8)).run Try.prog w = .ok (.func (.func 101) #[] #[]) w := by kernel_rfl
theorem index10 (w : World) : (Instr.index 134 (.agg opsL.toArray) (.int .i8 9)).run Try.prog w = .ok (.func (.func 102) #[] #[]) w := by kernel_rfl
theorem index11 (w : World) : (Instr.index 134 (.agg opsL.toArray) (.int .i8 10)).run Try.prog w = .ok (.func (.func 103) #[] #[]) w := by kernel_rfl
theorem index12 (w : World) : (Instr.index 134 (.agg opsL.toArray) (.int .i8 11)).run Try.prog w = .ok (.func (.func 104) #[] #[]) w := by kernel_rfl
theorem index13 (w : World) : (Instr.index 134 (.agg opsL.toArray) (.int .i8 12)).run Try.prog w = .ok (.func (.func 105) #[] #[]) w := by kernel_rfl
/-- How far a shift goes. -/
def byV (x b : Int) : Int := bits .and .u64 (cutV x b) (x - 1)
def doU (op x a b : Int) : Int := cutV x (doV op (cutV x a) (cutV x b) (byV x b) x)
def doOk (op x : Int) : Bool := decide (0 ≤ op) && (decide (op ≤ 12) && longB x)
theorem cutV_bd {x b : Int} (hb : U64 b) : 0 ≤ cutV x b ∧ cutV x b < 18446744073709551616 ∧ cutV x b ≤ b := by
  unfold U64 at hb
  unfold cutV
  split
  · omega
  · split
    · omega
    · split <;> omega
theorem byV_eq {x b : Int} (hx : x = 32 ∨ x = 64) (hb : U64 b) : byV x b = cutV x b % x := by
  have h := cutV_bd (x := x) hb
  unfold byV
  rcases hx with rfl | rfl
  · exact bits_mask .u64 64 (by decide) (fun n h0 h1 => by rw [IntKind.wrap_u64]; omega) 5 (by decide) _ h.1 (by have := h.2.1; omega)
  · exact bits_mask .u64 64 (by decide) (fun n h0 h1 => by rw [IntKind.wrap_u64]; omega) 6 (by decide) _ h.1 (by have := h.2.1; omega)
theorem byV_bd {x b : Int} (hx : x = 32 ∨ x = 64) (hb : U64 b) : 0 ≤ byV x b ∧ byV x b < 64 := by
  rw [byV_eq hx hb]
  rcases hx with rfl | rfl <;> omega
theorem doOk_no {op x : Int} (h : doOk op x = false) : op < 0 ∨ 12 < op ∨ longB x = false := by
  unfold doOk at h
  cases hl : longB x
  · exact .inr (.inr rfl)
  · rw [hl] at h
    simp at h
    by_cases h0 : op < 0
    · exact .inl h0
    · exact .inr (.inl (by omega))
theorem doOk_yes {op x : Int} (h : doOk op x = true) : (x = 32 ∨ x = 64) ∧ 0 ≤ op ∧ op ≤ 12 := by
  unfold doOk longB at h
  simp at h
  omega
set_option maxHeartbeats 4000000 in
theorem do_yes {op x : Int} (a b : Int) (w : World) (h : doOk op x = true) (hb : U64 b) : Calls Try.prog 48 #[.int .i8 op, .int .i8 x, .int .u64 a, .int .u64 b] w fun e w' => e = .returned (.tuple #[.int .u64 (doU op x a b), .int .i64 0]) ∧ Below w.heap.size w w' := by
  obtain ⟨hx, h0, h1⟩ := doOk_yes h
  have HY := hide (byV_bd hx hb)
  clear h hb
  have hops : op = 0 ∨ op = 1 ∨ op = 2 ∨ op = 3 ∨ op = 4 ∨ op = 5 ∨ op = 6 ∨ op = 7 ∨ op = 8 ∨ op = 9 ∨ op = 10 ∨ op = 11 ∨ op = 12 := by omega
  clear h0 h1
  rcases hx with rfl | rfl
  · rcases hops with rfl | rfl | rfl | rfl | rfl | rfl | rfl | rfl | rfl | rfl | rfl | rfl | rfl
    · as_aux_lemma =>
        go_enter Try.func48, Try.ntmps48
        go_wp2_with fail
        refine (long_any _ _).mono ?_
        rintro e w' ⟨rfl, rfl⟩
        go_wp2_with fail
        refine (cut_any _ _ _).mono ?_
        rintro e w' ⟨rfl, rfl⟩
        go_wp2_with fail
        refine (cut_any _ _ _).mono ?_
        rintro e w' ⟨rfl, rfl⟩
        go_wp2_with fail
        refine (ops_any _).mono ?_
        rintro e w' ⟨rfl, hb⟩
        have HB := hide hb
        clear hb
        have hix := index1
        go_wp2_with fail
        refine (opc1 _ _ (byV 32 b) _ _).mono ?_
        rintro e w' ⟨rfl, rfl⟩
        go_wp2_with fail
        refine (cut_any _ _ _).mono ?_
        rintro e w' ⟨rfl, rfl⟩
        go_wp2
        go_ret2
        exact ⟨rfl, HB.out⟩
    · as_aux_lemma =>
        go_enter Try.func48, Try.ntmps48
        go_wp2_with fail
        refine (long_any _ _).mono ?_
        rintro e w' ⟨rfl, rfl⟩
        go_wp2_with fail
        refine (cut_any _ _ _).mono ?_
        rintro e w' ⟨rfl, rfl⟩
        go_wp2_with fail
        refine (cut_any _ _ _).mono ?_
        rintro e w' ⟨rfl, rfl⟩
        go_wp2_with fail
        refine (ops_any _).mono ?_
        rintro e w' ⟨rfl, hb⟩
        have HB := hide hb
        clear hb
        have hix := index2
        go_wp2_with fail
        refine (opc2 _ _ (byV 32 b) _ _).mono ?_
        rintro e w' ⟨rfl, rfl⟩
        go_wp2_with fail
        refine (cut_any _ _ _).mono ?_
        rintro e w' ⟨rfl, rfl⟩
        go_wp2
        go_ret2
        exact ⟨rfl, HB.out⟩
    · as_aux_lemma =>
        go_enter Try.func48, Try.ntmps48
        go_wp2_with fail
        refine (long_any _ _).mono ?_
        rintro e w' ⟨rfl, rfl⟩
        go_wp2_with fail
        refine (cut_any _ _ _).mono ?_
        rintro e w' ⟨rfl, rfl⟩
        go_wp2_with fail
        refine (cut_any _ _ _).mono ?_
        rintro e w' ⟨rfl, rfl⟩
        go_wp2_with fail
        refine (ops_any _).mono ?_
        rintro e w' ⟨rfl, hb⟩
        have HB := hide hb
        clear hb
        have hix := index3
        go_wp2_with fail
        refine (opc3 _ _ (byV 32 b) _ _).mono ?_
        rintro e w' ⟨rfl, rfl⟩
        go_wp2_with fail
        refine (cut_any _ _ _).mono ?_
        rintro e w' ⟨rfl, rfl⟩
        go_wp2
        go_ret2
        exact ⟨rfl, HB.out⟩
    · as_aux_lemma =>
        go_enter Try.func48, Try.ntmps48
        go_wp2_with fail
        refine (long_any _ _).mono ?_
        rintro e w' ⟨rfl, rfl⟩
        go_wp2_with fail
        refine (cut_any _ _ _).mono ?_
        rintro e w' ⟨rfl, rfl⟩
        go_wp2_with fail
        refine (cut_any _ _ _).mono ?_
        rintro e w' ⟨rfl, rfl⟩
        go_wp2_with fail
        refine (ops_any _).mono ?_
        rintro e w' ⟨rfl, hb⟩
        have HB := hide hb
        clear hb
        have hix := index4
        go_wp2_with fail
        refine (opc4 _ _ (byV 32 b) _ _).mono ?_
        rintro e w' ⟨rfl, rfl⟩
        go_wp2_with fail
        refine (cut_any _ _ _).mono ?_
        rintro e w' ⟨rfl, rfl⟩
        go_wp2
        go_ret2
        exact ⟨rfl, HB.out⟩
    · as_aux_lemma =>
        go_enter Try.func48, Try.ntmps48
        go_wp2_with fail
        refine (long_any _ _).mono ?_
        rintro e w' ⟨rfl, rfl⟩
        go_wp2_with fail
        refine (cut_any _ _ _).mono ?_
        rintro e w' ⟨rfl, rfl⟩
        go_wp2_with fail
        refine (cut_any _ _ _).mono ?_
        rintro e w' ⟨rfl, rfl⟩
        go_wp2_with fail
        refine (ops_any _).mono ?_
        rintro e w' ⟨rfl, hb⟩
        have HB := hide hb
        clear hb
        have hix := index5
        go_wp2_with fail
        refine (opc5 _ _ (byV 32 b) _ _).mono ?_
        rintro e w' ⟨rfl, rfl⟩
        go_wp2_with fail
        refine (cut_any _ _ _).mono ?_
        rintro e w' ⟨rfl, rfl⟩
        go_wp2
        go_ret2
        exact ⟨rfl, HB.out⟩
    · as_aux_lemma =>
        go_enter Try.func48, Try.ntmps48
        go_wp2_with fail
        refine (long_any _ _).mono ?_
        rintro e w' ⟨rfl, rfl⟩
        go_wp2_with fail
        refine (cut_any _ _ _).mono ?_
        rintro e w' ⟨rfl, rfl⟩
        go_wp2_with fail
        refine (cut_any _ _ _).mono ?_
        rintro e w' ⟨rfl, rfl⟩
        go_wp2_with fail
        refine (ops_any _).mono ?_
        rintro e w' ⟨rfl, hb⟩
        have HB := hide hb
        clear hb
        have hix := index6
        go_wp2_with fail
        refine (opc6 _ _ (byV 32 b) _ _).mono ?_
        rintro e w' ⟨rfl, rfl⟩
        go_wp2_with fail
        refine (cut_any _ _ _).mono ?_
        rintro e w' ⟨rfl, rfl⟩
        go_wp2
        go_ret2
        exact ⟨rfl, HB.out⟩
    · as_aux_lemma =>
        go_enter Try.func48, Try.ntmps48
        go_wp2_with fail
        refine (long_any _ _).mono ?_
        rintro e w' ⟨rfl, rfl⟩
        go_wp2_with fail
        refine (cut_any _ _ _).mono ?_
        rintro e w' ⟨rfl, rfl⟩
        go_wp2_with fail
        refine (cut_any _ _ _).mono ?_
        rintro e w' ⟨rfl, rfl⟩
        go_wp2_with fail
        refine (ops_any _).mono ?_
        rintro e w' ⟨rfl, hb⟩
        have HB := hide hb
        clear hb
        have hix := index7
        go_wp2_with fail
        refine (opc7 _ _ (byV 32 b) _ _ HY.out.1 HY.out.2).mono ?_
        rintro e w' ⟨rfl, rfl⟩
        go_wp2_with fail
        refine (cut_any _ _ _).mono ?_
        rintro e w' ⟨rfl, rfl⟩
        go_wp2
        go_ret2
        exact ⟨rfl, HB.out⟩
    · as_aux_lemma =>
        go_enter Try.func48, Try.ntmps48
        go_wp2_with fail
        refine (long_any _ _).mono ?_
        rintro e w' ⟨rfl, rfl⟩
        go_wp2_with fail
        refine (cut_any _ _ _).mono ?_
        rintro e w' ⟨rfl, rfl⟩
        go_wp2_with fail
        refine (cut_any _ _ _).mono ?_
        rintro e w' ⟨rfl, rfl⟩
        go_wp2_with fail
        refine (ops_any _).mono ?_
        rintro e w' ⟨rfl, hb⟩
        have HB := hide hb
        clear hb
        have hix := index8
        go_wp2_with fail
        refine (opc8 _ _ (byV 32 b) _ _ HY.out.1 HY.out.2).mono ?_
        rintro e w' ⟨rfl, rfl⟩
        go_wp2_with fail
        refine (cut_any _ _ _).mono ?_
        rintro e w' ⟨rfl, rfl⟩
        go_wp2
        go_ret2
        exact ⟨rfl, HB.out⟩
    · as_aux_lemma =>
        go_enter Try.func48, Try.ntmps48
        go_wp2_with fail
        refine (long_any _ _).mono ?_
        rintro e w' ⟨rfl, rfl⟩
        go_wp2_with fail
        refine (cut_any _ _ _).mono ?_
        rintro e w' ⟨rfl, rfl⟩
        go_wp2_with fail
        refine (cut_any _ _ _).mono ?_
        rintro e w' ⟨rfl, rfl⟩
        go_wp2_with fail
        refine (ops_any _).mono ?_
        rintro e w' ⟨rfl, hb⟩
        have HB := hide hb
        clear hb
        have hix := index9
        go_wp2_with fail
        refine (opc9 _ _ (byV 32 b) _ _).mono ?_
        rintro e w' ⟨rfl, rfl⟩
        go_wp2_with fail
        refine (cut_any _ _ _).mono ?_
        rintro e w' ⟨rfl, rfl⟩
        go_wp2
        go_ret2
        exact ⟨rfl, HB.out⟩
    · as_aux_lemma =>
        go_enter Try.func48, Try.ntmps48
        go_wp2_with fail
        refine (long_any _ _).mono ?_
        rintro e w' ⟨rfl, rfl⟩
        go_wp2_with fail
        refine (cut_any _ _ _).mono ?_
        rintro e w' ⟨rfl, rfl⟩
        go_wp2_with fail
        refine (cut_any _ _ _).mono ?_
        rintro e w' ⟨rfl, rfl⟩
        go_wp2_with fail
        refine (ops_any _).mono ?_
        rintro e w' ⟨rfl, hb⟩
        have HB := hide hb
        clear hb
        have hix := index10
        go_wp2_with fail
        refine (opc10 _ _ (byV 32 b) _ _).mono ?_
        rintro e w' ⟨rfl, rfl⟩
        go_wp2_with fail
        refine (cut_any _ _ _).mono ?_
        rintro e w' ⟨rfl, rfl⟩
        go_wp2
        go_ret2
        exact ⟨rfl, HB.out⟩
    · as_aux_lemma =>
        go_enter Try.func48, Try.ntmps48
        go_wp2_with fail
        refine (long_any _ _).mono ?_
        rintro e w' ⟨rfl, rfl⟩
        go_wp2_with fail
        refine (cut_any _ _ _).mono ?_
        rintro e w' ⟨rfl, rfl⟩
        go_wp2_with fail
        refine (cut_any _ _ _).mono ?_
        rintro e w' ⟨rfl, rfl⟩
        go_wp2_with fail
        refine (ops_any _).mono ?_
        rintro e w' ⟨rfl, hb⟩
        have HB := hide hb
        clear hb
        have hix := index11
        go_wp2_with fail
        refine (opc11 _ _ (byV 32 b) _ _).mono ?_
        rintro e w' ⟨rfl, rfl⟩
        go_wp2_with fail
        refine (cut_any _ _ _).mono ?_
        rintro e w' ⟨rfl, rfl⟩
        go_wp2
        go_ret2
        exact ⟨rfl, HB.out⟩
    · as_aux_lemma =>
        go_enter Try.func48, Try.ntmps48
        go_wp2_with fail
        refine (long_any _ _).mono ?_
        rintro e w' ⟨rfl, rfl⟩
        go_wp2_with fail
        refine (cut_any _ _ _).mono ?_
        rintro e w' ⟨rfl, rfl⟩
        go_wp2_with fail
        refine (cut_any _ _ _).mono ?_
        rintro e w' ⟨rfl, rfl⟩
        go_wp2_with fail
        refine (ops_any _).mono ?_
        rintro e w' ⟨rfl, hb⟩
        have HB := hide hb
        clear hb
        have hix := index12
        go_wp2_with fail
        refine (opc12 _ _ (byV 32 b) _ _).mono ?_
        rintro e w' ⟨rfl, rfl⟩
        go_wp2_with fail
        refine (cut_any _ _ _).mono ?_
        rintro e w' ⟨rfl, rfl⟩
        go_wp2
        go_ret2
        exact ⟨rfl, HB.out⟩
    · as_aux_lemma =>
        go_enter Try.func48, Try.ntmps48
        go_wp2_with fail
        refine (long_any _ _).mono ?_
        rintro e w' ⟨rfl, rfl⟩
        go_wp2_with fail
        refine (cut_any _ _ _).mono ?_
        rintro e w' ⟨rfl, rfl⟩
        go_wp2_with fail
        refine (cut_any _ _ _).mono ?_
        rintro e w' ⟨rfl, rfl⟩
        go_wp2_with fail
        refine (ops_any _).mono ?_
        rintro e w' ⟨rfl, hb⟩
        have HB := hide hb
        clear hb
        have hix := index13
        go_wp2_with fail
        refine (opc13 _ _ (byV 32 b) _ _ HY.out.1 HY.out.2).mono ?_
        rintro e w' ⟨rfl, rfl⟩
        go_wp2_with fail
        refine (cut_any _ _ _).mono ?_
        rintro e w' ⟨rfl, rfl⟩
        go_wp2
        go_ret2
        exact ⟨rfl, HB.out⟩
  · rcases hops with rfl | rfl | rfl | rfl | rfl | rfl | rfl | rfl | rfl | rfl | rfl | rfl | rfl
    · as_aux_lemma =>
        go_enter Try.func48, Try.ntmps48
        go_wp2_with fail
        refine (long_any _ _).mono ?_
        rintro e w' ⟨rfl, rfl⟩
        go_wp2_with fail
        refine (cut_any _ _ _).mono ?_
        rintro e w' ⟨rfl, rfl⟩
        go_wp2_with fail
        refine (cut_any _ _ _).mono ?_
        rintro e w' ⟨rfl, rfl⟩
        go_wp2_with fail
        refine (ops_any _).mono ?_
        rintro e w' ⟨rfl, hb⟩
        have HB := hide hb
        clear hb
        have hix := index1
        go_wp2_with fail
        refine (opc1 _ _ (byV 64 b) _ _).mono ?_
        rintro e w' ⟨rfl, rfl⟩
        go_wp2_with fail
        refine (cut_any _ _ _).mono ?_
        rintro e w' ⟨rfl, rfl⟩
        go_wp2
        go_ret2
        exact ⟨rfl, HB.out⟩
    · as_aux_lemma =>
        go_enter Try.func48, Try.ntmps48
        go_wp2_with fail
        refine (long_any _ _).mono ?_
        rintro e w' ⟨rfl, rfl⟩
        go_wp2_with fail
        refine (cut_any _ _ _).mono ?_
        rintro e w' ⟨rfl, rfl⟩
        go_wp2_with fail
        refine (cut_any _ _ _).mono ?_
        rintro e w' ⟨rfl, rfl⟩
        go_wp2_with fail
        refine (ops_any _).mono ?_
        rintro e w' ⟨rfl, hb⟩
        have HB := hide hb
        clear hb
        have hix := index2
        go_wp2_with fail
        refine (opc2 _ _ (byV 64 b) _ _).mono ?_
        rintro e w' ⟨rfl, rfl⟩
        go_wp2_with fail
        refine (cut_any _ _ _).mono ?_
        rintro e w' ⟨rfl, rfl⟩
        go_wp2
        go_ret2
        exact ⟨rfl, HB.out⟩
    · as_aux_lemma =>
        go_enter Try.func48, Try.ntmps48
        go_wp2_with fail
        refine (long_any _ _).mono ?_
        rintro e w' ⟨rfl, rfl⟩
        go_wp2_with fail
        refine (cut_any _ _ _).mono ?_
        rintro e w' ⟨rfl, rfl⟩
        go_wp2_with fail
        refine (cut_any _ _ _).mono ?_
        rintro e w' ⟨rfl, rfl⟩
        go_wp2_with fail
        refine (ops_any _).mono ?_
        rintro e w' ⟨rfl, hb⟩
        have HB := hide hb
        clear hb
        have hix := index3
        go_wp2_with fail
        refine (opc3 _ _ (byV 64 b) _ _).mono ?_
        rintro e w' ⟨rfl, rfl⟩
        go_wp2_with fail
        refine (cut_any _ _ _).mono ?_
        rintro e w' ⟨rfl, rfl⟩
        go_wp2
        go_ret2
        exact ⟨rfl, HB.out⟩
    · as_aux_lemma =>
        go_enter Try.func48, Try.ntmps48
        go_wp2_with fail
        refine (long_any _ _).mono ?_
        rintro e w' ⟨rfl, rfl⟩
        go_wp2_with fail
        refine (cut_any _ _ _).mono ?_
        rintro e w' ⟨rfl, rfl⟩
        go_wp2_with fail
        refine (cut_any _ _ _).mono ?_
        rintro e w' ⟨rfl, rfl⟩
        go_wp2_with fail
        refine (ops_any _).mono ?_
        rintro e w' ⟨rfl, hb⟩
        have HB := hide hb
        clear hb
        have hix := index4
        go_wp2_with fail
        refine (opc4 _ _ (byV 64 b) _ _).mono ?_
        rintro e w' ⟨rfl, rfl⟩
        go_wp2_with fail
        refine (cut_any _ _ _).mono ?_
        rintro e w' ⟨rfl, rfl⟩
        go_wp2
        go_ret2
        exact ⟨rfl, HB.out⟩
    · as_aux_lemma =>
        go_enter Try.func48, Try.ntmps48
        go_wp2_with fail
        refine (long_any _ _).mono ?_
        rintro e w' ⟨rfl, rfl⟩
        go_wp2_with fail
        refine (cut_any _ _ _).mono ?_
        rintro e w' ⟨rfl, rfl⟩
        go_wp2_with fail
        refine (cut_any _ _ _).mono ?_
        rintro e w' ⟨rfl, rfl⟩
        go_wp2_with fail
        refine (ops_any _).mono ?_
        rintro e w' ⟨rfl, hb⟩
        have HB := hide hb
        clear hb
        have hix := index5
        go_wp2_with fail
        refine (opc5 _ _ (byV 64 b) _ _).mono ?_
        rintro e w' ⟨rfl, rfl⟩
        go_wp2_with fail
        refine (cut_any _ _ _).mono ?_
        rintro e w' ⟨rfl, rfl⟩
        go_wp2
        go_ret2
        exact ⟨rfl, HB.out⟩
    · as_aux_lemma =>
        go_enter Try.func48, Try.ntmps48
        go_wp2_with fail
        refine (long_any _ _).mono ?_
        rintro e w' ⟨rfl, rfl⟩
        go_wp2_with fail
        refine (cut_any _ _ _).mono ?_
        rintro e w' ⟨rfl, rfl⟩
        go_wp2_with fail
        refine (cut_any _ _ _).mono ?_
        rintro e w' ⟨rfl, rfl⟩
        go_wp2_with fail
        refine (ops_any _).mono ?_
        rintro e w' ⟨rfl, hb⟩
        have HB := hide hb
        clear hb
        have hix := index6
        go_wp2_with fail
        refine (opc6 _ _ (byV 64 b) _ _).mono ?_
        rintro e w' ⟨rfl, rfl⟩
        go_wp2_with fail
        refine (cut_any _ _ _).mono ?_
        rintro e w' ⟨rfl, rfl⟩
        go_wp2
        go_ret2
        exact ⟨rfl, HB.out⟩
    · as_aux_lemma =>
        go_enter Try.func48, Try.ntmps48
        go_wp2_with fail
        refine (long_any _ _).mono ?_
        rintro e w' ⟨rfl, rfl⟩
        go_wp2_with fail
        refine (cut_any _ _ _).mono ?_
        rintro e w' ⟨rfl, rfl⟩
        go_wp2_with fail
        refine (cut_any _ _ _).mono ?_
        rintro e w' ⟨rfl, rfl⟩
        go_wp2_with fail
        refine (ops_any _).mono ?_
        rintro e w' ⟨rfl, hb⟩
        have HB := hide hb
        clear hb
        have hix := index7
        go_wp2_with fail
        refine (opc7 _ _ (byV 64 b) _ _ HY.out.1 HY.out.2).mono ?_
        rintro e w' ⟨rfl, rfl⟩
        go_wp2_with fail
        refine (cut_any _ _ _).mono ?_
        rintro e w' ⟨rfl, rfl⟩
        go_wp2
        go_ret2
        exact ⟨rfl, HB.out⟩
    · as_aux_lemma =>
        go_enter Try.func48, Try.ntmps48
        go_wp2_with fail
        refine (long_any _ _).mono ?_
        rintro e w' ⟨rfl, rfl⟩
        go_wp2_with fail
        refine (cut_any _ _ _).mono ?_
        rintro e w' ⟨rfl, rfl⟩
        go_wp2_with fail
        refine (cut_any _ _ _).mono ?_
        rintro e w' ⟨rfl, rfl⟩
        go_wp2_with fail
        refine (ops_any _).mono ?_
        rintro e w' ⟨rfl, hb⟩
        have HB := hide hb
        clear hb
        have hix := index8
        go_wp2_with fail
        refine (opc8 _ _ (byV 64 b) _ _ HY.out.1 HY.out.2).mono ?_
        rintro e w' ⟨rfl, rfl⟩
        go_wp2_with fail
        refine (cut_any _ _ _).mono ?_
        rintro e w' ⟨rfl, rfl⟩
        go_wp2
        go_ret2
        exact ⟨rfl, HB.out⟩
    · as_aux_lemma =>
        go_enter Try.func48, Try.ntmps48
        go_wp2_with fail
        refine (long_any _ _).mono ?_
        rintro e w' ⟨rfl, rfl⟩
        go_wp2_with fail
        refine (cut_any _ _ _).mono ?_
        rintro e w' ⟨rfl, rfl⟩
        go_wp2_with fail
        refine (cut_any _ _ _).mono ?_
        rintro e w' ⟨rfl, rfl⟩
        go_wp2_with fail
        refine (ops_any _).mono ?_
        rintro e w' ⟨rfl, hb⟩
        have HB := hide hb
        clear hb
        have hix := index9
        go_wp2_with fail
        refine (opc9 _ _ (byV 64 b) _ _).mono ?_
        rintro e w' ⟨rfl, rfl⟩
        go_wp2_with fail
        refine (cut_any _ _ _).mono ?_
        rintro e w' ⟨rfl, rfl⟩
        go_wp2
        go_ret2
        exact ⟨rfl, HB.out⟩
    · as_aux_lemma =>
        go_enter Try.func48, Try.ntmps48
        go_wp2_with fail
        refine (long_any _ _).mono ?_
        rintro e w' ⟨rfl, rfl⟩
        go_wp2_with fail
        refine (cut_any _ _ _).mono ?_
        rintro e w' ⟨rfl, rfl⟩
        go_wp2_with fail
        refine (cut_any _ _ _).mono ?_
        rintro e w' ⟨rfl, rfl⟩
        go_wp2_with fail
        refine (ops_any _).mono ?_
        rintro e w' ⟨rfl, hb⟩
        have HB := hide hb
        clear hb
        have hix := index10
        go_wp2_with fail
        refine (opc10 _ _ (byV 64 b) _ _).mono ?_
        rintro e w' ⟨rfl, rfl⟩
        go_wp2_with fail
        refine (cut_any _ _ _).mono ?_
        rintro e w' ⟨rfl, rfl⟩
        go_wp2
        go_ret2
        exact ⟨rfl, HB.out⟩
    · as_aux_lemma =>
        go_enter Try.func48, Try.ntmps48
        go_wp2_with fail
        refine (long_any _ _).mono ?_
        rintro e w' ⟨rfl, rfl⟩
        go_wp2_with fail
        refine (cut_any _ _ _).mono ?_
        rintro e w' ⟨rfl, rfl⟩
        go_wp2_with fail
        refine (cut_any _ _ _).mono ?_
        rintro e w' ⟨rfl, rfl⟩
        go_wp2_with fail
        refine (ops_any _).mono ?_
        rintro e w' ⟨rfl, hb⟩
        have HB := hide hb
        clear hb
        have hix := index11
        go_wp2_with fail
        refine (opc11 _ _ (byV 64 b) _ _).mono ?_
        rintro e w' ⟨rfl, rfl⟩
        go_wp2_with fail
        refine (cut_any _ _ _).mono ?_
        rintro e w' ⟨rfl, rfl⟩
        go_wp2
        go_ret2
        exact ⟨rfl, HB.out⟩
    · as_aux_lemma =>
        go_enter Try.func48, Try.ntmps48
        go_wp2_with fail
        refine (long_any _ _).mono ?_
        rintro e w' ⟨rfl, rfl⟩
        go_wp2_with fail
        refine (cut_any _ _ _).mono ?_
        rintro e w' ⟨rfl, rfl⟩
        go_wp2_with fail
        refine (cut_any _ _ _).mono ?_
        rintro e w' ⟨rfl, rfl⟩
        go_wp2_with fail
        refine (ops_any _).mono ?_
        rintro e w' ⟨rfl, hb⟩
        have HB := hide hb
        clear hb
        have hix := index12
        go_wp2_with fail
        refine (opc12 _ _ (byV 64 b) _ _).mono ?_
        rintro e w' ⟨rfl, rfl⟩
        go_wp2_with fail
        refine (cut_any _ _ _).mono ?_
        rintro e w' ⟨rfl, rfl⟩
        go_wp2
        go_ret2
        exact ⟨rfl, HB.out⟩
    · as_aux_lemma =>
        go_enter Try.func48, Try.ntmps48
        go_wp2_with fail
        refine (long_any _ _).mono ?_
        rintro e w' ⟨rfl, rfl⟩
        go_wp2_with fail
        refine (cut_any _ _ _).mono ?_
        rintro e w' ⟨rfl, rfl⟩
        go_wp2_with fail
        refine (cut_any _ _ _).mono ?_
        rintro e w' ⟨rfl, rfl⟩
        go_wp2_with fail
        refine (ops_any _).mono ?_
        rintro e w' ⟨rfl, hb⟩
        have HB := hide hb
        clear hb
        have hix := index13
        go_wp2_with fail
        refine (opc13 _ _ (byV 64 b) _ _ HY.out.1 HY.out.2).mono ?_
        rintro e w' ⟨rfl, rfl⟩
        go_wp2_with fail
        refine (cut_any _ _ _).mono ?_
        rintro e w' ⟨rfl, rfl⟩
        go_wp2
        go_ret2
        exact ⟨rfl, HB.out⟩
end Go.Proofs.Ytepagfkkjlbipaa
end
section
namespace Go.Proofs.Ytepagfkkjlbipaa
open Go.RowKit
set_option linter.unusedVariables false
set_option linter.unusedSimpArgs false
set_option maxRecDepth 100000
def bindR (r : RS) (k : PS → Int → Option RS) : Option RS := if r.2.2 = 0 then k r.1 r.2.1 else some (r.1, 0, r.2.2)
def turnsB (op : Int) : Bool := op == 0 || (op == 2 || (op == 4 || (op == 5 || op == 10)))
def shiftsB (op : Int) : Bool := op == 6 || (op == 7 || op == 12)
/-- A constant on the right that changes nothing. -/
def sameB (op x d : Int) : Bool :=
  (d == 0 && (op == 0 || (op == 4 || (op == 10 || op == 9)))) || ((shiftsB op && bits .and .u64 d (x - 1) == 0) || ((op == 2 && d == 1) || (op == 5 && d == cutV x 18446744073709551615)))
def assocB (T : List TD) (s : TD) (op x : Int) (rt : Bool) : Bool := op == 0 && (rt && ((atP T s.b).kind == 0 && (s.kind == 2 && (s.op == 0 && s.w == x))))
def nilB (op d : Int) : Bool := d == 0 && (op == 2 || (op == 5 || op == 3))
def opL (rec : PS → Int → Int → Int → Option RS) (f : Nat) (p : PS) (op x a b : Int) : Option RS :=
  let s := atP p.T a
  let y := atP p.T b
  let lf := s.kind == 0
  let rt := y.kind == 0
  if (lf && rt) = true then some (putR p (constT (doU op x s.n y.n)))
  else if op = 8 then bindR (putR p (constT 0)) fun q z => rec q 1 z a
  else if op = 11 then zextF f p x b
  else if (op == 1 && rt) = true then bindR (putR p (constT (cutV x (IntKind.u64.wrap (-y.n))))) fun q z => rec q 0 a z
  else if (turnsB op && (lf || (!rt && decide (b < a)))) = true then rec p op b a
  else if assocB p.T s op x rt = true then bindR (putR p (constT (cutV x (IntKind.u64.wrap ((atP p.T s.b).n + y.n))))) fun q z => rec q 0 s.a z
  else if (rt && sameB op x y.n) = true then zextF f p x a
  else if (rt && nilB op y.n) = true then some (putR p (constT 0))
  else if (a == b && (op == 1 || op == 10)) = true then some (putR p (constT 0))
  else if (a == b && (op == 5 || op == 4)) = true then zextF f p x a
  else some (putR p ⟨2, op, x, 0, a, b, 0⟩)
def opF : Nat → PS → Int → Int → Int → Int → Option RS
  | 0, _, _, _, _, _ => none
  | f + 1, p, op, x, a, b =>
    if (hasB p.T a && hasB p.T b) = false then some (p, 0, 2)
    else if doOk op x = false then some (p, 0, 2)
    else
      let r := bothP p x a b
      if r.2.2.2 = 0 then opL (fun q o u v => opF f q o x u v) f r.1 op x r.2.1 r.2.2.1 else some (r.1, 0, r.2.2.2)
/-- Number and error of a result, its pool in memory. -/
def RR (base g : Nat) (F : Nat → Prop) (W : World) (r : RS) (n m : Int) (W' : World) : Prop := n = r.2.1 ∧ m = r.2.2 ∧ ∃ F', PG base g F W F' r.1 W'
section
variable {base g : Nat} {F F1 : Nat → Prop} {W W' W2 : World} {p : PS} {r : RS} {e : Ending}
theorem RR.of (h : RetP base g F W r e W') : ∃ n m, e = .returned (.tuple #[.int .i64 n, .int .i64 m]) ∧ RR base g F W r n m W' := ⟨_, _, h.1, rfl, rfl, h.2⟩
theorem RR.ret {n m : Int} (h : RR base g F W r n m W') : RetP base g F W r (.returned (.tuple #[.int .i64 n, .int .i64 m])) W' := by
  obtain ⟨rfl, rfl, h⟩ := h
  exact ⟨rfl, h⟩
theorem RR.from {n m : Int} (h : PG base g F W F1 p W') (k : RR base g F1 W' r n m W2) : RR base g F W r n m W2 := by
  obtain ⟨h1, h2, F', h3⟩ := k
  exact ⟨h1, h2, F', h.trans h3⟩
end
abbrev ptr (b : Nat) : Value := .pointer (some ⟨b, 0, none⟩)
/-- What the laws of Op have before them: the variables that they share. -/
structure OpE (g : Nat) (op x a b c d : Int) (lf rt tn sh : Bool) (b5 b6 b7 b8 b9 b15 b17 b18 b19 b20 b21 b22 b23 b24 : Nat) (F : Nat → Prop) (W : World) : Prop where
  e5 : Blk W b5 30 #[.pointer (some ⟨g, 0, none⟩)] ∧ ¬ F b5
  e6 : Blk W b6 24 #[.int .i8 op] ∧ ¬ F b6
  e7 : Blk W b7 24 #[.int .i8 x] ∧ ¬ F b7
  e8 : Blk W b8 3 #[.int .i64 a] ∧ ¬ F b8
  e9 : Blk W b9 3 #[.int .i64 b] ∧ ¬ F b9
  e15 : Blk W b15 81 #[.pointer (some ⟨g, 0, none⟩)] ∧ ¬ F b15
  e17 : Blk W b17 46 #[.int .u64 c] ∧ ¬ F b17
  e18 : Blk W b18 4 #[.bool lf] ∧ ¬ F b18
  e19 : Blk W b19 46 #[.int .u64 d] ∧ ¬ F b19
  e20 : Blk W b20 4 #[.bool rt] ∧ ¬ F b20
  e21 : Blk W b21 119 #[.func (.func 58) #[] #[.pointer (some ⟨b5, 0, none⟩)]] ∧ ¬ F b21
  e22 : Blk W b22 121 #[.func (.func 60) #[] #[.pointer (some ⟨b15, 0, none⟩), .pointer (some ⟨b7, 0, none⟩)]] ∧ ¬ F b22
  e23 : Blk W b23 4 #[.bool tn] ∧ ¬ F b23
  e24 : Blk W b24 4 #[.bool sh] ∧ ¬ F b24
section
variable {base g : Nat} {op x a b c d : Int} {lf rt tn sh : Bool} {b5 b6 b7 b8 b9 b15 b17 b18 b19 b20 b21 b22 b23 b24 : Nat} {F F1 : Nat → Prop} {W W' : World} {p : PS}
theorem OpE.pg (h : OpE g op x a b c d lf rt tn sh b5 b6 b7 b8 b9 b15 b17 b18 b19 b20 b21 b22 b23 b24 F W) (k : PG base g F W F1 p W') : OpE g op x a b c d lf rt tn sh b5 b6 b7 b8 b9 b15 b17 b18 b19 b20 b21 b22 b23 b24 F1 W' :=
  ⟨k.blk h.e5.1 h.e5.2, k.blk h.e6.1 h.e6.2, k.blk h.e7.1 h.e7.2, k.blk h.e8.1 h.e8.2, k.blk h.e9.1 h.e9.2, k.blk h.e15.1 h.e15.2, k.blk h.e17.1 h.e17.2, k.blk h.e18.1 h.e18.2, k.blk h.e19.1 h.e19.2, k.blk h.e20.1 h.e20.2, k.blk h.e21.1 h.e21.2, k.blk h.e22.1 h.e22.2, k.blk h.e23.1 h.e23.2, k.blk h.e24.1 h.e24.2⟩
theorem OpE.below (h : OpE g op x a b c d lf rt tn sh b5 b6 b7 b8 b9 b15 b17 b18 b19 b20 b21 b22 b23 b24 F W) (k : Below W.heap.size W W') : OpE g op x a b c d lf rt tn sh b5 b6 b7 b8 b9 b15 b17 b18 b19 b20 b21 b22 b23 b24 F W' :=
  ⟨⟨h.e5.1.below k h.e5.1.lt, h.e5.2⟩, ⟨h.e6.1.below k h.e6.1.lt, h.e6.2⟩, ⟨h.e7.1.below k h.e7.1.lt, h.e7.2⟩, ⟨h.e8.1.below k h.e8.1.lt, h.e8.2⟩, ⟨h.e9.1.below k h.e9.1.lt, h.e9.2⟩, ⟨h.e15.1.below k h.e15.1.lt, h.e15.2⟩, ⟨h.e17.1.below k h.e17.1.lt, h.e17.2⟩, ⟨h.e18.1.below k h.e18.1.lt, h.e18.2⟩, ⟨h.e19.1.below k h.e19.1.lt, h.e19.2⟩, ⟨h.e20.1.below k h.e20.1.lt, h.e20.2⟩, ⟨h.e21.1.below k h.e21.1.lt, h.e21.2⟩, ⟨h.e22.1.below k h.e22.1.lt, h.e22.2⟩, ⟨h.e23.1.below k h.e23.1.lt, h.e23.2⟩, ⟨h.e24.1.below k h.e24.1.lt, h.e24.2⟩⟩
end
theorem enters1_1 : EntersB 59 := enters_of Try.func59 (by kernel_rfl) rfl
theorem enters2_1 : EntersB 61 := enters_of Try.func61 (by kernel_rfl) rfl
theorem enters4_1 : EntersB 67 := enters_of Try.func67 (by kernel_rfl) rfl
theorem enters6_1 : EntersB 70 := enters_of Try.func70 (by kernel_rfl) rfl
theorem enters7_1 : EntersB 72 := enters_of Try.func72 (by kernel_rfl) rfl
theorem enters8_1 : EntersB 75 := enters_of Try.func75 (by kernel_rfl) rfl
/-- number(n): a function that makes a constant. -/
theorem number_any (n : Int) (b5 : Nat) (w : World) : Calls Try.prog 58 #[.int .u64 n, .pointer (some ⟨b5, 0, none⟩)] w fun e w' => e = .returned (.func (.func 59) #[] #[.pointer (some ⟨b5, 0, none⟩), .pointer (some ⟨w.heap.size, 0, none⟩)]) ∧ w' = w.alloc (.cells #[.int .u64 n] 46) := by
  go_enter Try.func58, Try.ntmps58
  go_wp2
  go_ret
  exact ⟨rfl, rfl⟩
/-- as(n): a function that cuts a term. -/
theorem as_any (n : Int) (b15 b7 : Nat) (w : World) : Calls Try.prog 60 #[.int .i64 n, .pointer (some ⟨b15, 0, none⟩), .pointer (some ⟨b7, 0, none⟩)] w fun e w' => e = .returned (.func (.func 61) #[] #[.pointer (some ⟨b15, 0, none⟩), .pointer (some ⟨b7, 0, none⟩), .pointer (some ⟨w.heap.size, 0, none⟩)]) ∧ w' = w.alloc (.cells #[.int .i64 n] 3) := by
  go_enter Try.func60, Try.ntmps60
  go_wp2
  go_ret
  exact ⟨rfl, rfl⟩
section
variable {base g : Nat} {F : Nat → Prop} {p : PS}
theorem number1_any (n : Int) (hn : U64 n) (b5 bn : Nat) (w : World) (h : PoolAt w base F g p) (hbase : base ≤ w.heap.size) (h5 : Blk w b5 30 #[.pointer (some ⟨g, 0, none⟩)]) (hb : Blk w bn 46 #[.int .u64 n]) :
    Calls Try.prog 59 #[.pointer (some ⟨b5, 0, none⟩), .pointer (some ⟨bn, 0, none⟩)] w (RetP base g F w (putR p (constT n))) := by
  have c5 := h5.cell 0
  have cn := hb.cell 0
  simp at c5 cn
  have HP := hide h
  have HN := hide hn
  clear h hn h5 hb
  go_enter Try.func59, Try.ntmps59
  go_wp2_with fail
  refine (const_any n HN.out _ HP.out hbase).mono ?_
  rintro e w1 ⟨rfl, hr⟩
  have HR := hide hr
  clear hr
  go_wp2
  go_ret2
  exact ⟨rfl, HR.out⟩
theorem as1_any (x n : Int) (hx : x = 8 ∨ x = 16 ∨ x = 32 ∨ x = 64) (hn : I64 n) (f : Nat) (r : RS) (hz : zextF f p x n = some r) (b15 b7 bn : Nat) (w : World) (h : PoolAt w base F g p) (hbase : base ≤ w.heap.size) (h15 : Blk w b15 81 #[.pointer (some ⟨g, 0, none⟩)]) (h7 : Blk w b7 24 #[.int .i8 x]) (hb : Blk w bn 3 #[.int .i64 n]) :
    Calls Try.prog 61 #[.pointer (some ⟨b15, 0, none⟩), .pointer (some ⟨b7, 0, none⟩), .pointer (some ⟨bn, 0, none⟩)] w (RetP base g F w r) := by
  have c15 := h15.cell 0
  have c7 := h7.cell 0
  have cn := hb.cell 0
  simp at c15 c7 cn
  have HP := hide h
  have HN := hide hn
  have HX := hide hx
  have HZ := hide hz
  clear h hn h15 h7 hb hx hz
  go_enter Try.func61, Try.ntmps61
  go_wp2_with fail
  refine (zext_any x HX.out f n HN.out _ p r HZ.out _ HP.out hbase).mono ?_
  rintro e w1 ⟨rfl, hr⟩
  have HR := hide hr
  clear hr
  go_wp2
  go_ret2
  exact ⟨rfl, HR.out⟩
end
end Go.Proofs.Ytepagfkkjlbipaa
end
