/-
  Contracts of bits' operations and Do. Conditions: those written in each statement.
-/
import Derived.Test.YtepagfkkjlbipaaGreatKah
set_option linter.unusedVariables false
set_option linter.unusedSimpArgs false
set_option maxHeartbeats 64000000
set_option maxRecDepth 100000
namespace Go.Proofs.YtepagfkkjlbipaaGreat
open Tryz
open Go.RowKit
def doV (op a b y x : Int) : Int :=
 if op = 0 then IntKind.u64.wrap (a + b)
 else if op = 1 then IntKind.u64.wrap (a - b)
 else if op = 2 then IntKind.u64.wrap (a * b)
 else if op = 3 then (if b = 0 then 0 else IntKind.u64.wrap (a.tdiv b))
 else if op = 4 then bits .or .u64 a b
 else if op = 5 then bits .and .u64 a b
 else if op = 6 then IntKind.u64.wrap (a * 2 ^ y.toNat)
 else if op = 7 then a / 2 ^ y.toNat
 else if op = 8 then IntKind.u64.wrap (-a)
 else if op = 9 then (if b = 0 then a else a.tmod b)
 else if op = 10 then bits .xor .u64 a b
 else if op = 11 then b
 else IntKind.u64.wrap (wrap64 (signU x a) / 2 ^ y.toNat)
theorem opc1 (a b y x : Int) (w : World) : Calls prog 159 #[.int .u64 a, .int .u64 b, .int .u64 y, .int .i8 x] w fun e w' => e = .returned (.int .u64 (doV 0 a b y x)) ∧ w = w' := by
 go_enter func159, ntmps159
 go_wp2
 go_ret
 exact ⟨rfl, rfl⟩
theorem opc2 (a b y x : Int) (w : World) : Calls prog 160 #[.int .u64 a, .int .u64 b, .int .u64 y, .int .i8 x] w fun e w' => e = .returned (.int .u64 (doV 1 a b y x)) ∧ w = w' := by
 go_enter func160, ntmps160
 go_wp2
 go_ret
 exact ⟨rfl, rfl⟩
theorem opc3 (a b y x : Int) (w : World) : Calls prog 161 #[.int .u64 a, .int .u64 b, .int .u64 y, .int .i8 x] w fun e w' => e = .returned (.int .u64 (doV 2 a b y x)) ∧ w = w' := by
 go_enter func161, ntmps161
 go_wp2
 go_ret
 exact ⟨rfl, rfl⟩
theorem opc4 (a b y x : Int) (w : World) : Calls prog 162 #[.int .u64 a, .int .u64 b, .int .u64 y, .int .i8 x] w fun e w' => e = .returned (.int .u64 (doV 3 a b y x)) ∧ w = w' := by
 cases hb : (b == 0)
 ·have hb' : b ≠ 0 := by simpa using hb
  go_enter func162, ntmps162
  go_wp2
  go_ret
  exact ⟨ret_i (by unfold doV; simp [hb']), rfl⟩
 ·obtain rfl : b = 0 := by simpa using hb
  go_enter func162, ntmps162
  go_wp2
  go_ret
  exact ⟨rfl, rfl⟩
theorem opc5 (a b y x : Int) (w : World) : Calls prog 163 #[.int .u64 a, .int .u64 b, .int .u64 y, .int .i8 x] w fun e w' => e = .returned (.int .u64 (doV 4 a b y x)) ∧ w = w' := by
 go_enter func163, ntmps163
 go_wp2
 go_ret
 exact ⟨rfl, rfl⟩
theorem opc6 (a b y x : Int) (w : World) : Calls prog 164 #[.int .u64 a, .int .u64 b, .int .u64 y, .int .i8 x] w fun e w' => e = .returned (.int .u64 (doV 5 a b y x)) ∧ w = w' := by
 go_enter func164, ntmps164
 go_wp2
 go_ret
 exact ⟨rfl, rfl⟩
theorem opc7 (a b y x : Int) (w : World) (h0 : 0 ≤ y) (h1 : y < 64) : Calls prog 165 #[.int .u64 a, .int .u64 b, .int .u64 y, .int .i8 x] w fun e w' => e = .returned (.int .u64 (doV 6 a b y x)) ∧ w = w' := by
 go_enter func165, ntmps165
 go_wp2
 go_ret
 exact ⟨rfl, rfl⟩
theorem opc8 (a b y x : Int) (w : World) (h0 : 0 ≤ y) (h1 : y < 64) : Calls prog 166 #[.int .u64 a, .int .u64 b, .int .u64 y, .int .i8 x] w fun e w' => e = .returned (.int .u64 (doV 7 a b y x)) ∧ w = w' := by
 go_enter func166, ntmps166
 go_wp2
 go_ret
 exact ⟨rfl, rfl⟩
theorem opc9 (a b y x : Int) (w : World) : Calls prog 167 #[.int .u64 a, .int .u64 b, .int .u64 y, .int .i8 x] w fun e w' => e = .returned (.int .u64 (doV 8 a b y x)) ∧ w = w' := by
 go_enter func167, ntmps167
 go_wp2
 go_ret
 exact ⟨rfl, rfl⟩
theorem opc10 (a b y x : Int) (w : World) : Calls prog 168 #[.int .u64 a, .int .u64 b, .int .u64 y, .int .i8 x] w fun e w' => e = .returned (.int .u64 (doV 9 a b y x)) ∧ w = w' := by
 cases hb : (b == 0)
 ·have hb' : b ≠ 0 := by simpa using hb
  go_enter func168, ntmps168
  go_wp2
  go_ret
  exact ⟨ret_i (by unfold doV; simp [hb']), rfl⟩
 ·obtain rfl : b = 0 := by simpa using hb
  go_enter func168, ntmps168
  go_wp2
  go_ret
  exact ⟨rfl, rfl⟩
theorem opc11 (a b y x : Int) (w : World) : Calls prog 169 #[.int .u64 a, .int .u64 b, .int .u64 y, .int .i8 x] w fun e w' => e = .returned (.int .u64 (doV 10 a b y x)) ∧ w = w' := by
 go_enter func169, ntmps169
 go_wp2
 go_ret
 exact ⟨rfl, rfl⟩
theorem opc12 (a b y x : Int) (w : World) : Calls prog 170 #[.int .u64 a, .int .u64 b, .int .u64 y, .int .i8 x] w fun e w' => e = .returned (.int .u64 (doV 11 a b y x)) ∧ w = w' := by
 go_enter func170, ntmps170
 go_wp2
 go_ret
 exact ⟨rfl, rfl⟩
theorem opc13 (a b y x : Int) (w : World) (h0 : 0 ≤ y) (h1 : y < 64) : Calls prog 171 #[.int .u64 a, .int .u64 b, .int .u64 y, .int .i8 x] w fun e w' => e = .returned (.int .u64 (doV 12 a b y x)) ∧ w = w' := by
 go_enter func171, ntmps171
 go_wp2_with fail
 refine (sign_any _ _ _).mono ?_
 rintro e w' ⟨rfl, rfl⟩
 go_wp2
 go_ret
 exact ⟨rfl, rfl⟩
theorem index1 (w : World) : (Instr.index 197 (.agg opsL.toArray) (.int .i8 0)).run prog w = .ok (.func (.func 159) #[] #[]) w := by kernel_rfl
theorem index2 (w : World) : (Instr.index 197 (.agg opsL.toArray) (.int .i8 1)).run prog w = .ok (.func (.func 160) #[] #[]) w := by kernel_rfl
theorem index3 (w : World) : (Instr.index 197 (.agg opsL.toArray) (.int .i8 2)).run prog w = .ok (.func (.func 161) #[] #[]) w := by kernel_rfl
theorem index4 (w : World) : (Instr.index 197 (.agg opsL.toArray) (.int .i8 3)).run prog w = .ok (.func (.func 162) #[] #[]) w := by kernel_rfl
theorem index5 (w : World) : (Instr.index 197 (.agg opsL.toArray) (.int .i8 4)).run prog w = .ok (.func (.func 163) #[] #[]) w := by kernel_rfl
theorem index6 (w : World) : (Instr.index 197 (.agg opsL.toArray) (.int .i8 5)).run prog w = .ok (.func (.func 164) #[] #[]) w := by kernel_rfl
theorem index7 (w : World) : (Instr.index 197 (.agg opsL.toArray) (.int .i8 6)).run prog w = .ok (.func (.func 165) #[] #[]) w := by kernel_rfl
theorem index8 (w : World) : (Instr.index 197 (.agg opsL.toArray) (.int .i8 7)).run prog w = .ok (.func (.func 166) #[] #[]) w := by kernel_rfl
theorem index9 (w : World) : (Instr.index 197 (.agg opsL.toArray) (.int .i8 8)).run prog w = .ok (.func (.func 167) #[] #[]) w := by kernel_rfl
theorem index10 (w : World) : (Instr.index 197 (.agg opsL.toArray) (.int .i8 9)).run prog w = .ok (.func (.func 168) #[] #[]) w := by kernel_rfl
theorem index11 (w : World) : (Instr.index 197 (.agg opsL.toArray) (.int .i8 10)).run prog w = .ok (.func (.func 169) #[] #[]) w := by kernel_rfl
theorem index12 (w : World) : (Instr.index 197 (.agg opsL.toArray) (.int .i8 11)).run prog w = .ok (.func (.func 170) #[] #[]) w := by kernel_rfl
theorem index13 (w : World) : (Instr.index 197 (.agg opsL.toArray) (.int .i8 12)).run prog w = .ok (.func (.func 171) #[] #[]) w := by kernel_rfl
def byV (x b : Int) : Int := bits .and .u64 (cutV x b) (x - 1)
def doU (op x a b : Int) : Int := cutV x (doV op (cutV x a) (cutV x b) (byV x b) x)
def doOk (op x : Int) : Bool := decide (0 ≤ op) && (decide (op ≤ 12) && longB x)
theorem cutV_bd {x b : Int} (hb : U64 b) : 0 ≤ cutV x b ∧ cutV x b < 18446744073709551616 ∧ cutV x b ≤ b := by
 unfold U64 at hb
 unfold cutV
 split
 ·omega
 ·split
  ·omega
  ·split <;> omega
theorem byV_eq {x b : Int} (hx : x = 32 ∨ x = 64) (hb : U64 b) : byV x b = cutV x b % x := by
 have h := cutV_bd (x := x) hb
 unfold byV
 rcases hx with rfl | rfl
 ·exact bits_mask .u64 64 (by decide) (fun n h0 h1 => by rw [IntKind.wrap_u64]; omega) 5 (by decide) _ h.1 (by have := h.2.1; omega)
 ·exact bits_mask .u64 64 (by decide) (fun n h0 h1 => by rw [IntKind.wrap_u64]; omega) 6 (by decide) _ h.1 (by have := h.2.1; omega)
theorem byV_bd {x b : Int} (hx : x = 32 ∨ x = 64) (hb : U64 b) : 0 ≤ byV x b ∧ byV x b < 64 := by
 rw [byV_eq hx hb]
 rcases hx with rfl | rfl <;> omega
theorem doOk_no {op x : Int} (h : doOk op x = false) : op < 0 ∨ 12 < op ∨ longB x = false := by
 unfold doOk at h
 cases hl : longB x
 ·exact .inr (.inr rfl)
 ·rw [hl] at h
  simp at h
  by_cases h0 : op < 0
  ·exact .inl h0
  ·exact .inr (.inl (by omega))
theorem doOk_yes {op x : Int} (h : doOk op x = true) : (x = 32 ∨ x = 64) ∧ 0 ≤ op ∧ op ≤ 12 := by
 unfold doOk longB at h
 simp at h
 omega
theorem do_yes {op x : Int} (a b : Int) (w : World) (h : doOk op x = true) (hb : U64 b) : Calls prog 98 #[.int .i8 op, .int .i8 x, .int .u64 a, .int .u64 b] w fun e w' => e = .returned (.tuple #[.int .u64 (doU op x a b), .int .i64 0]) ∧ Below w.heap.size w w' := by
 obtain ⟨hx, h0, h1⟩ := doOk_yes h
 have HY := Hd (byV_bd hx hb)
 clear h hb
 have hops : op = 0 ∨ op = 1 ∨ op = 2 ∨ op = 3 ∨ op = 4 ∨ op = 5 ∨ op = 6 ∨ op = 7 ∨ op = 8 ∨ op = 9 ∨ op = 10 ∨ op = 11 ∨ op = 12 := by omega
 clear h0 h1
 rcases hx with rfl | rfl
 ·rcases hops with rfl | rfl | rfl | rfl | rfl | rfl | rfl | rfl | rfl | rfl | rfl | rfl | rfl
  all_goals as_aux_lemma =>
   go_enter func98, ntmps98
   go_wp2_with fail
   refine (long_any _ _).mono ?_
   rintro e w' ⟨rfl, rfl⟩
   go_wp2_with fail
   refine (cut_any _ _ _).mono ?_
   rintro e w' ⟨rfl, rfl⟩
   go_wp2_with fail
   refine (cut_any _ _ _).mono ?_
   rintro e w' ⟨rfl, rfl⟩
   go_wp2_with fail
   refine (ops_any _).mono ?_
   rintro e w' ⟨rfl, hb⟩
   have HB := Hd hb
   clear hb
   have i1 := index1; have i2 := index2; have i3 := index3; have i4 := index4; have i5 := index5; have i6 := index6; have i7 := index7; have i8 := index8; have i9 := index9; have i10 := index10; have i11 := index11; have i12 := index12; have i13 := index13
   go_wp2_with fail
   first | refine (opc1 _ _ (byV 32 b) _ _).mono ?_ | refine (opc2 _ _ (byV 32 b) _ _).mono ?_ | refine (opc3 _ _ (byV 32 b) _ _).mono ?_ | refine (opc4 _ _ (byV 32 b) _ _).mono ?_ | refine (opc5 _ _ (byV 32 b) _ _).mono ?_ | refine (opc6 _ _ (byV 32 b) _ _).mono ?_ | refine (opc7 _ _ (byV 32 b) _ _ HY.out.1 HY.out.2).mono ?_ | refine (opc8 _ _ (byV 32 b) _ _ HY.out.1 HY.out.2).mono ?_ | refine (opc9 _ _ (byV 32 b) _ _).mono ?_ | refine (opc10 _ _ (byV 32 b) _ _).mono ?_ | refine (opc11 _ _ (byV 32 b) _ _).mono ?_ | refine (opc12 _ _ (byV 32 b) _ _).mono ?_ | refine (opc13 _ _ (byV 32 b) _ _ HY.out.1 HY.out.2).mono ?_
   rintro e w' ⟨rfl, rfl⟩
   go_wp2_with fail
   refine (cut_any _ _ _).mono ?_
   rintro e w' ⟨rfl, rfl⟩
   go_wp2
   go_ret2
   exact ⟨rfl, HB.out⟩
 ·rcases hops with rfl | rfl | rfl | rfl | rfl | rfl | rfl | rfl | rfl | rfl | rfl | rfl | rfl
  all_goals as_aux_lemma =>
   go_enter func98, ntmps98
   go_wp2_with fail
   refine (long_any _ _).mono ?_
   rintro e w' ⟨rfl, rfl⟩
   go_wp2_with fail
   refine (cut_any _ _ _).mono ?_
   rintro e w' ⟨rfl, rfl⟩
   go_wp2_with fail
   refine (cut_any _ _ _).mono ?_
   rintro e w' ⟨rfl, rfl⟩
   go_wp2_with fail
   refine (ops_any _).mono ?_
   rintro e w' ⟨rfl, hb⟩
   have HB := Hd hb
   clear hb
   have i1 := index1; have i2 := index2; have i3 := index3; have i4 := index4; have i5 := index5; have i6 := index6; have i7 := index7; have i8 := index8; have i9 := index9; have i10 := index10; have i11 := index11; have i12 := index12; have i13 := index13
   go_wp2_with fail
   first | refine (opc1 _ _ (byV 64 b) _ _).mono ?_ | refine (opc2 _ _ (byV 64 b) _ _).mono ?_ | refine (opc3 _ _ (byV 64 b) _ _).mono ?_ | refine (opc4 _ _ (byV 64 b) _ _).mono ?_ | refine (opc5 _ _ (byV 64 b) _ _).mono ?_ | refine (opc6 _ _ (byV 64 b) _ _).mono ?_ | refine (opc7 _ _ (byV 64 b) _ _ HY.out.1 HY.out.2).mono ?_ | refine (opc8 _ _ (byV 64 b) _ _ HY.out.1 HY.out.2).mono ?_ | refine (opc9 _ _ (byV 64 b) _ _).mono ?_ | refine (opc10 _ _ (byV 64 b) _ _).mono ?_ | refine (opc11 _ _ (byV 64 b) _ _).mono ?_ | refine (opc12 _ _ (byV 64 b) _ _).mono ?_ | refine (opc13 _ _ (byV 64 b) _ _ HY.out.1 HY.out.2).mono ?_
   rintro e w' ⟨rfl, rfl⟩
   go_wp2_with fail
   refine (cut_any _ _ _).mono ?_
   rintro e w' ⟨rfl, rfl⟩
   go_wp2
   go_ret2
   exact ⟨rfl, HB.out⟩
end Go.Proofs.YtepagfkkjlbipaaGreat
