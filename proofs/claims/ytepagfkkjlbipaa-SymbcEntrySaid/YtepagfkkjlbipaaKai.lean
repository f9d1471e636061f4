/-
  Contracts of norm's then and first: laws asked one after the other. Conditions: those written in each statement.
  Contracts of bits' operations and Do. Conditions: those written in each statement.
-/
import Derived.Test.YtepagfkkjlbipaaKah
import Derived.Laws.BitsLemmas
section
namespace Go.Proofs.Ytepagfkkjlbipaa
open Go.RowKit
set_option linter.unusedVariables false
set_option linter.unusedSimpArgs false
set_option maxRecDepth 100000
/-- A function's number enters that function. -/
def EntersB (k : Nat) : Prop := ∀ args w, (callFunc k args).run Try.prog w = .ok (.enter k args) w
theorem then_no (d : Value) (w : World) : Calls Try.prog 65 #[.bool false, d] w fun e w' => e = .returned (.tuple #[.int .i64 0, .bool false, .int .i64 0]) ∧ w = w' := by
  go_enter Try.func65, Try.ntmps65
  go_wp2
  exact bodyPost_ret (v := .tuple #[.int .i64 0, .bool false, .int .i64 0]) (by simp [results, Try.results65, go_sem]) rfl ⟨rfl, rfl⟩
theorem then_yes (k : Nat) (caps : Array Value) (w : World) (R : Int → Int → World → Prop) (he : EntersB k) (h : Calls Try.prog k caps w fun e w' => ∃ n m, e = .returned (.tuple #[.int .i64 n, .int .i64 m]) ∧ R n m w') :
    Calls Try.prog 65 #[.bool true, .func (.func k) #[] caps] w fun e w' => ∃ n m, e = .returned (.tuple #[.int .i64 n, .bool true, .int .i64 m]) ∧ R n m w' := by
  have he' : ∀ args w, (callFunc k args).run Try.prog w = .ok (.enter k args) w := he
  have H := hide h
  clear h he
  go_enter Try.func65, Try.ntmps65
  go_wp2_with fail
  refine H.out.mono ?_
  rintro e w1 ⟨n, m, rfl, hr⟩
  have HR := hide hr
  clear hr
  go_wp2
  exact bodyPost_ret (v := .tuple #[.int .i64 n, .bool true, .int .i64 m]) (by simp [results, Try.results65, go_sem]) rfl ⟨n, m, rfl, HR.out⟩
/-- A law that does not fit, from whatever world behind W0. -/
def LawNo (W0 : World) (v : Value) : Prop := ∃ k caps, v = .func (.func k) #[] caps ∧ EntersB k ∧ ∀ W, Below W0.heap.size W0 W → Calls Try.prog k caps W fun e W' => e = .returned (.tuple #[.int .i64 0, .bool false, .int .i64 0]) ∧ Below W.heap.size W W'
/-- One that fits. -/
def LawYes (W0 : World) (R : Int → Int → World → Prop) (v : Value) : Prop := ∃ k caps, v = .func (.func k) #[] caps ∧ EntersB k ∧ ∀ W, Below W0.heap.size W0 W → Calls Try.prog k caps W fun e W' => ∃ n m, e = .returned (.tuple #[.int .i64 n, .bool true, .int .i64 m]) ∧ R n m W'
def LawPut (W0 : World) (R : Int → Int → World → Prop) (v : Value) : Prop := ∃ k caps, v = .func (.func k) #[] caps ∧ EntersB k ∧ ∀ W, Below W0.heap.size W0 W → Calls Try.prog k caps W fun e W' => ∃ n m, e = .returned (.tuple #[.int .i64 n, .int .i64 m]) ∧ R n m W'
set_option maxHeartbeats 1000000 in
theorem first_any (W0 : World) (A : Option Addr) (n c : Nat) (L : List Value) (p : Value) (j : Nat) (R : Int → Int → World → Prop) (hL : L.length = n) (hn : n < 1000) (hc : n ≤ c) (hr : Reads W0 W0.heap.size 1 A n L) (hj : j ≤ n)
    (hno : ∀ i v, i < j → L[i]? = some v → LawNo W0 v) (hyes : ∀ v, L[j]? = some v → LawYes W0 R v) (hput : j = n → LawPut W0 R p) :
    Calls Try.prog 63 #[.slice A n c, p] W0 fun e w' => ∃ n m, e = .returned (.tuple #[.int .i64 n, .int .i64 m]) ∧ R n m w' := by
  have HL := hide hL
  have HR := hide hr
  have HNO := hide hno
  have HY := hide hyes
  have HPUT := hide hput
  clear hL hr hno hyes hput
  go_enter Try.func63, Try.ntmps63
  go_wp2
  go_loopw [13] (fun iv wr => ∃ k : Nat, k ≤ j ∧ iv = .int .i64 (k : Int) ∧ Below W0.heap.size W0 wr) (fun iv _ => n - (intOf iv).toNat)
  case atStart => exact ⟨0, by omega, rfl, Below.refl _ _⟩
  case round =>
    obtain ⟨k, hk, rfl, hb⟩ := hrel
    have HB := hide hb
    clear hb
    by_cases hlt : k < n
    · obtain ⟨ad, u, rfl, _, hu, hcl⟩ := (HR.out.below HB.out).at_ hlt
      have hkc : k < c := by omega
      by_cases hkj : k < j
      · obtain ⟨f, caps, rfl, hf, hl⟩ := HNO.out k u hkj hu
        have he' : ∀ args w, (callFunc f args).run Try.prog w = .ok (.enter f args) w := hf
        have HLAW := hide hl
        clear hl hf hu
        go_wp2_with fail
        refine (HLAW.out _ HB.out).mono ?_
        rintro e w1 ⟨rfl, hb⟩
        have HB1 := hide (HB.out.trans (hb.mono HB.out.size))
        clear hb HB
        go_wp2
        go_roundw
        case measure => simp [intOf]; omega
        case rel => exact ⟨k + 1, by omega, by go_num, HB1.out⟩
      · obtain rfl : k = j := by omega
        obtain ⟨f, caps, rfl, hf, hl⟩ := HY.out u hu
        have he' : ∀ args w, (callFunc f args).run Try.prog w = .ok (.enter f args) w := hf
        have HLAW := hide hl
        clear hl hf hu
        go_wp2_with fail
        refine (HLAW.out _ HB.out).mono ?_
        rintro e w1 ⟨a, b, rfl, hr⟩
        have HRR := hide hr
        clear hr HB
        go_wp2
        go_ret2
        exact ⟨a, b, rfl, HRR.out⟩
    · obtain rfl : k = n := by omega
      obtain rfl : j = k := by omega
      obtain ⟨f, caps, rfl, hf, hl⟩ := HPUT.out rfl
      have he' : ∀ args w, (callFunc f args).run Try.prog w = .ok (.enter f args) w := hf
      have HLAW := hide hl
      clear hl hf
      go_wp2_with fail
      refine (HLAW.out _ HB.out).mono ?_
      rintro e w1 ⟨a, b, rfl, hr⟩
      have HRR := hide hr
      clear hr HB
      go_wp2
      go_ret2
      exact ⟨a, b, rfl, HRR.out⟩
end Go.Proofs.Ytepagfkkjlbipaa
end
section
namespace Go.Proofs.Ytepagfkkjlbipaa
open Go.RowKit
set_option linter.unusedVariables false
set_option linter.unusedSimpArgs false
set_option maxRecDepth 100000
/-- What an operation makes of two words that are cut; y: how far a shift goes. -/
def doV (op a b y x : Int) : Int :=
  if op = 0 then IntKind.u64.wrap (a + b)
  else if op = 1 then IntKind.u64.wrap (a - b)
  else if op = 2 then IntKind.u64.wrap (a * b)
  else if op = 3 then (if b = 0 then 0 else IntKind.u64.wrap (a.tdiv b))
  else if op = 4 then bits .or .u64 a b
  else if op = 5 then bits .and .u64 a b
  else if op = 6 then IntKind.u64.wrap (a * 2 ^ y.toNat)
  else if op = 7 then a / 2 ^ y.toNat
  else if op = 8 then IntKind.u64.wrap (-a)
  else if op = 9 then (if b = 0 then a else a.tmod b)
  else if op = 10 then bits .xor .u64 a b
  else if op = 11 then b
  else IntKind.u64.wrap (wrap64 (signU x a) / 2 ^ y.toNat)
theorem opc1 (a b y x : Int) (w : World) : Calls Try.prog 93 #[.int .u64 a, .int .u64 b, .int .u64 y, .int .i8 x] w fun e w' => e = .returned (.int .u64 (doV 0 a b y x)) ∧ w = w' := by
  go_enter Try.func93, Try.ntmps93
  go_wp2
  go_ret
  exact ⟨rfl, rfl⟩
theorem opc2 (a b y x : Int) (w : World) : Calls Try.prog 94 #[.int .u64 a, .int .u64 b, .int .u64 y, .int .i8 x] w fun e w' => e = .returned (.int .u64 (doV 1 a b y x)) ∧ w = w' := by
  go_enter Try.func94, Try.ntmps94
  go_wp2
  go_ret
  exact ⟨rfl, rfl⟩
theorem opc3 (a b y x : Int) (w : World) : Calls Try.prog 95 #[.int .u64 a, .int .u64 b, .int .u64 y, .int .i8 x] w fun e w' => e = .returned (.int .u64 (doV 2 a b y x)) ∧ w = w' := by
  go_enter Try.func95, Try.ntmps95
  go_wp2
  go_ret
  exact ⟨rfl, rfl⟩
theorem opc4 (a b y x : Int) (w : World) : Calls Try.prog 96 #[.int .u64 a, .int .u64 b, .int .u64 y, .int .i8 x] w fun e w' => e = .returned (.int .u64 (doV 3 a b y x)) ∧ w = w' := by
  cases hb : (b == 0)
  · have hb' : b ≠ 0 := by simpa using hb
    go_enter Try.func96, Try.ntmps96
    go_wp2
    go_ret
    exact ⟨ret_i (by unfold doV; simp [hb']), rfl⟩
  · obtain rfl : b = 0 := by simpa using hb
    go_enter Try.func96, Try.ntmps96
    go_wp2
    go_ret
    exact ⟨rfl, rfl⟩
theorem opc5 (a b y x : Int) (w : World) : Calls Try.prog 97 #[.int .u64 a, .int .u64 b, .int .u64 y, .int .i8 x] w fun e w' => e = .returned (.int .u64 (doV 4 a b y x)) ∧ w = w' := by
  go_enter Try.func97, Try.ntmps97
  go_wp2
  go_ret
  exact ⟨rfl, rfl⟩
theorem opc6 (a b y x : Int) (w : World) : Calls Try.prog 98 #[.int .u64 a, .int .u64 b, .int .u64 y, .int .i8 x] w fun e w' => e = .returned (.int .u64 (doV 5 a b y x)) ∧ w = w' := by
  go_enter Try.func98, Try.ntmps98
  go_wp2
  go_ret
  exact ⟨rfl, rfl⟩
theorem opc7 (a b y x : Int) (w : World) (h0 : 0 ≤ y) (h1 : y < 64) : Calls Try.prog 99 #[.int .u64 a, .int .u64 b, .int .u64 y, .int .i8 x] w fun e w' => e = .returned (.int .u64 (doV 6 a b y x)) ∧ w = w' := by
  go_enter Try.func99, Try.ntmps99
  go_wp2
  go_ret
  exact ⟨rfl, rfl⟩
theorem opc8 (a b y x : Int) (w : World) (h0 : 0 ≤ y) (h1 : y < 64) : Calls Try.prog 100 #[.int .u64 a, .int .u64 b, .int .u64 y, .int .i8 x] w fun e w' => e = .returned (.int .u64 (doV 7 a b y x)) ∧ w = w' := by
  go_enter Try.func100, Try.ntmps100
  go_wp2
  go_ret
  exact ⟨rfl, rfl⟩
theorem opc9 (a b y x : Int) (w : World) : Calls Try.prog 101 #[.int .u64 a, .int .u64 b, .int .u64 y, .int .i8 x] w fun e w' => e = .returned (.int .u64 (doV 8 a b y x)) ∧ w = w' := by
  go_enter Try.func101, Try.ntmps101
  go_wp2
  go_ret
  exact ⟨rfl, rfl⟩
theorem opc10 (a b y x : Int) (w : World) : Calls Try.prog 102 #[.int .u64 a, .int .u64 b, .int .u64 y, .int .i8 x] w fun e w' => e = .returned (.int .u64 (doV 9 a b y x)) ∧ w = w' := by
  cases hb : (b == 0)
  · have hb' : b ≠ 0 := by simpa using hb
    go_enter Try.func102, Try.ntmps102
    go_wp2
    go_ret
    exact ⟨ret_i (by unfold doV; simp [hb']), rfl⟩
  · obtain rfl : b = 0 := by simpa using hb
    go_enter Try.func102, Try.ntmps102
    go_wp2
    go_ret
    exact ⟨rfl, rfl⟩
theorem opc11 (a b y x : Int) (w : World) : Calls Try.prog 103 #[.int .u64 a, .int .u64 b, .int .u64 y, .int .i8 x] w fun e w' => e = .returned (.int .u64 (doV 10 a b y x)) ∧ w = w' := by
  go_enter Try.func103, Try.ntmps103
  go_wp2
  go_ret
  exact ⟨rfl, rfl⟩
theorem opc12 (a b y x : Int) (w : World) : Calls Try.prog 104 #[.int .u64 a, .int .u64 b, .int .u64 y, .int .i8 x] w fun e w' => e = .returned (.int .u64 (doV 11 a b y x)) ∧ w = w' := by
  go_enter Try.func104, Try.ntmps104
  go_wp2
  go_ret
  exact ⟨rfl, rfl⟩
theorem opc13 (a b y x : Int) (w : World) (h0 : 0 ≤ y) (h1 : y < 64) : Calls Try.prog 105 #[.int .u64 a, .int .u64 b, .int .u64 y, .int .i8 x] w fun e w' => e = .returned (.int .u64 (doV 12 a b y x)) ∧ w = w' := by
  go_enter Try.func105, Try.ntmps105
  go_wp2_with fail
  refine (sign_any _ _ _).mono ?_
  rintro e w' ⟨rfl, rfl⟩
  go_wp2
  go_ret
  exact ⟨rfl, rfl⟩
theorem index1 (w : World) : (Instr.index 134 (.agg opsL.toArray) (.int .i8 0)).run Try.prog w = .ok (.func (.func 93) #[] #[]) w := by kernel_rfl
theorem index2 (w : World) : (Instr.index 134 (.agg opsL.toArray) (.int .i8 1)).run Try.prog w = .ok (.func (.func 94) #[] #[]) w := by kernel_rfl
theorem index3 (w : World) : (Instr.index 134 (.agg opsL.toArray) (.int .i8 2)).run Try.prog w = .ok (.func (.func 95) #[] #[]) w := by kernel_rfl
theorem index4 (w : World) : (Instr.index 134 (.agg opsL.toArray) (.int .i8 3)).run Try.prog w = .ok (.func (.func 96) #[] #[]) w := by kernel_rfl
theorem index5 (w : World) : (Instr.index 134 (.agg opsL.toArray) (.int .i8 4)).run Try.prog w = .ok (.func (.func 97) #[] #[]) w := by kernel_rfl
theorem index6 (w : World) : (Instr.index 134 (.agg opsL.toArray) (.int .i8 5)).run Try.prog w = .ok (.func (.func 98) #[] #[]) w := by kernel_rfl
theorem index7 (w : World) : (Instr.index 134 (.agg opsL.toArray) (.int .i8 6)).run Try.prog w = .ok (.func (.func 99) #[] #[]) w := by kernel_rfl
theorem index8 (w : World) : (Instr.index 134 (.agg opsL.toArray) (.int .i8 7)).run Try.prog w = .ok (.func (.func 100) #[] #[]) w := by kernel_rfl
theorem index9 (w : World) : (Instr.index 134 (.agg opsL.toArray) (.int .i8 8)).run Try.prog w = .ok (.func (.func 101) #[] #[]) w := by kernel_rfl
theorem index10 (w : World) : (Instr.index 134 (.agg opsL.toArray) (.int .i8 9)).run Try.prog w = .ok (.func (.func 102) #[] #[]) w := by kernel_rfl
theorem index11 (w : World) : (Instr.index 134 (.agg opsL.toArray) (.int .i8 10)).run Try.prog w = .ok (.func (.func 103) #[] #[]) w := by kernel_rfl
theorem index12 (w : World) : (Instr.index 134 (.agg opsL.toArray) (.int .i8 11)).run Try.prog w = .ok (.func (.func 104) #[] #[]) w := by kernel_rfl
theorem index13 (w : World) : (Instr.index 134 (.agg opsL.toArray) (.int .i8 12)).run Try.prog w = .ok (.func (.func 105) #[] #[]) w := by kernel_rfl
/-- How far a shift goes. -/
def byV (x b : Int) : Int := bits .and .u64 (cutV x b) (x - 1)
def doU (op x a b : Int) : Int := cutV x (doV op (cutV x a) (cutV x b) (byV x b) x)
def doOk (op x : Int) : Bool := decide (0 ≤ op) && (decide (op ≤ 12) && longB x)
theorem cutV_bd {x b : Int} (hb : U64 b) : 0 ≤ cutV x b ∧ cutV x b < 18446744073709551616 ∧ cutV x b ≤ b := by
  unfold U64 at hb
  unfold cutV
  split
  · omega
  · split
    · omega
    · split <;> omega
theorem byV_eq {x b : Int} (hx : x = 32 ∨ x = 64) (hb : U64 b) : byV x b = cutV x b % x := by
  have h := cutV_bd (x := x) hb
  unfold byV
  rcases hx with rfl | rfl
  · exact bits_mask .u64 64 (by decide) (fun n h0 h1 => by rw [IntKind.wrap_u64]; omega) 5 (by decide) _ h.1 (by have := h.2.1; omega)
  · exact bits_mask .u64 64 (by decide) (fun n h0 h1 => by rw [IntKind.wrap_u64]; omega) 6 (by decide) _ h.1 (by have := h.2.1; omega)
theorem byV_bd {x b : Int} (hx : x = 32 ∨ x = 64) (hb : U64 b) : 0 ≤ byV x b ∧ byV x b < 64 := by
  rw [byV_eq hx hb]
  rcases hx with rfl | rfl <;> omega
theorem doOk_no {op x : Int} (h : doOk op x = false) : op < 0 ∨ 12 < op ∨ longB x = false := by
  unfold doOk at h
  cases hl : longB x
  · exact .inr (.inr rfl)
  · rw [hl] at h
    simp at h
    by_cases h0 : op < 0
    · exact .inl h0
    · exact .inr (.inl (by omega))
theorem doOk_yes {op x : Int} (h : doOk op x = true) : (x = 32 ∨ x = 64) ∧ 0 ≤ op ∧ op ≤ 12 := by
  unfold doOk longB at h
  simp at h
  omega
set_option maxHeartbeats 4000000 in
theorem do_yes {op x : Int} (a b : Int) (w : World) (h : doOk op x = true) (hb : U64 b) : Calls Try.prog 48 #[.int .i8 op, .int .i8 x, .int .u64 a, .int .u64 b] w fun e w' => e = .returned (.tuple #[.int .u64 (doU op x a b), .int .i64 0]) ∧ Below w.heap.size w w' := by
  obtain ⟨hx, h0, h1⟩ := doOk_yes h
  have HY := hide (byV_bd hx hb)
  clear h hb
  have hops : op = 0 ∨ op = 1 ∨ op = 2 ∨ op = 3 ∨ op = 4 ∨ op = 5 ∨ op = 6 ∨ op = 7 ∨ op = 8 ∨ op = 9 ∨ op = 10 ∨ op = 11 ∨ op = 12 := by omega
  clear h0 h1
  rcases hx with rfl | rfl
  · rcases hops with rfl | rfl | rfl | rfl | rfl | rfl | rfl | rfl | rfl | rfl | rfl | rfl | rfl
    · as_aux_lemma =>
        go_enter Try.func48, Try.ntmps48
        go_wp2_with fail
        refine (long_any _ _).mono ?_
        rintro e w' ⟨rfl, rfl⟩
        go_wp2_with fail
        refine (cut_any _ _ _).mono ?_
        rintro e w' ⟨rfl, rfl⟩
        go_wp2_with fail
        refine (cut_any _ _ _).mono ?_
        rintro e w' ⟨rfl, rfl⟩
        go_wp2_with fail
        refine (ops_any _).mono ?_
        rintro e w' ⟨rfl, hb⟩
        have HB := hide hb
        clear hb
        have hix := index1
        go_wp2_with fail
        refine (opc1 _ _ (byV 32 b) _ _).mono ?_
        rintro e w' ⟨rfl, rfl⟩
        go_wp2_with fail
        refine (cut_any _ _ _).mono ?_
        rintro e w' ⟨rfl, rfl⟩
        go_wp2
        go_ret2
        exact ⟨rfl, HB.out⟩
    · as_aux_lemma =>
        go_enter Try.func48, Try.ntmps48
        go_wp2_with fail
        refine (long_any _ _).mono ?_
        rintro e w' ⟨rfl, rfl⟩
        go_wp2_with fail
        refine (cut_any _ _ _).mono ?_
        rintro e w' ⟨rfl, rfl⟩
        go_wp2_with fail
        refine (cut_any _ _ _).mono ?_
        rintro e w' ⟨rfl, rfl⟩
        go_wp2_with fail
        refine (ops_any _).mono ?_
        rintro e w' ⟨rfl, hb⟩
        have HB := hide hb
        clear hb
        have hix := index2
        go_wp2_with fail
        refine (opc2 _ _ (byV 32 b) _ _).mono ?_
        rintro e w' ⟨rfl, rfl⟩
        go_wp2_with fail
        refine (cut_any _ _ _).mono ?_
        rintro e w' ⟨rfl, rfl⟩
        go_wp2
        go_ret2
        exact ⟨rfl, HB.out⟩
    · as_aux_lemma =>
        go_enter Try.func48, Try.ntmps48
        go_wp2_with fail
        refine (long_any _ _).mono ?_
        rintro e w' ⟨rfl, rfl⟩
        go_wp2_with fail
        refine (cut_any _ _ _).mono ?_
        rintro e w' ⟨rfl, rfl⟩
        go_wp2_with fail
        refine (cut_any _ _ _).mono ?_
        rintro e w' ⟨rfl, rfl⟩
        go_wp2_with fail
        refine (ops_any _).mono ?_
        rintro e w' ⟨rfl, hb⟩
        have HB := hide hb
        clear hb
        have hix := index3
        go_wp2_with fail
        refine (opc3 _ _ (byV 32 b) _ _).mono ?_
        rintro e w' ⟨rfl, rfl⟩
        go_wp2_with fail
        refine (cut_any _ _ _).mono ?_
        rintro e w' ⟨rfl, rfl⟩
        go_wp2
        go_ret2
        exact ⟨rfl, HB.out⟩
    · as_aux_lemma =>
        go_enter Try.func48, Try.ntmps48
        go_wp2_with fail
        refine (long_any _ _).mono ?_
        rintro e w' ⟨rfl, rfl⟩
        go_wp2_with fail
        refine (cut_any _ _ _).mono ?_
        rintro e w' ⟨rfl, rfl⟩
        go_wp2_with fail
        refine (cut_any _ _ _).mono ?_
        rintro e w' ⟨rfl, rfl⟩
        go_wp2_with fail
        refine (ops_any _).mono ?_
        rintro e w' ⟨rfl, hb⟩
        have HB := hide hb
        clear hb
        have hix := index4
        go_wp2_with fail
        refine (opc4 _ _ (byV 32 b) _ _).mono ?_
        rintro e w' ⟨rfl, rfl⟩
        go_wp2_with fail
        refine (cut_any _ _ _).mono ?_
        rintro e w' ⟨rfl, rfl⟩
        go_wp2
        go_ret2
        exact ⟨rfl, HB.out⟩
    · as_aux_lemma =>
        go_enter Try.func48, Try.ntmps48
        go_wp2_with fail
        refine (long_any _ _).mono ?_
        rintro e w' ⟨rfl, rfl⟩
        go_wp2_with fail
        refine (cut_any _ _ _).mono ?_
        rintro e w' ⟨rfl, rfl⟩
        go_wp2_with fail
        refine (cut_any _ _ _).mono ?_
        rintro e w' ⟨rfl, rfl⟩
        go_wp2_with fail
        refine (ops_any _).mono ?_
        rintro e w' ⟨rfl, hb⟩
        have HB := hide hb
        clear hb
        have hix := index5
        go_wp2_with fail
        refine (opc5 _ _ (byV 32 b) _ _).mono ?_
        rintro e w' ⟨rfl, rfl⟩
        go_wp2_with fail
        refine (cut_any _ _ _).mono ?_
        rintro e w' ⟨rfl, rfl⟩
        go_wp2
        go_ret2
        exact ⟨rfl, HB.out⟩
    · as_aux_lemma =>
        go_enter Try.func48, Try.ntmps48
        go_wp2_with fail
        refine (long_any _ _).mono ?_
        rintro e w' ⟨rfl, rfl⟩
        go_wp2_with fail
        refine (cut_any _ _ _).mono ?_
        rintro e w' ⟨rfl, rfl⟩
        go_wp2_with fail
        refine (cut_any _ _ _).mono ?_
        rintro e w' ⟨rfl, rfl⟩
        go_wp2_with fail
        refine (ops_any _).mono ?_
        rintro e w' ⟨rfl, hb⟩
        have HB := hide hb
        clear hb
        have hix := index6
        go_wp2_with fail
        refine (opc6 _ _ (byV 32 b) _ _).mono ?_
        rintro e w' ⟨rfl, rfl⟩
        go_wp2_with fail
        refine (cut_any _ _ _).mono ?_
        rintro e w' ⟨rfl, rfl⟩
        go_wp2
        go_ret2
        exact ⟨rfl, HB.out⟩
    · as_aux_lemma =>
        go_enter Try.func48, Try.ntmps48
        go_wp2_with fail
        refine (long_any _ _).mono ?_
        rintro e w' ⟨rfl, rfl⟩
        go_wp2_with fail
        refine (cut_any _ _ _).mono ?_
        rintro e w' ⟨rfl, rfl⟩
        go_wp2_with fail
        refine (cut_any _ _ _).mono ?_
        rintro e w' ⟨rfl, rfl⟩
        go_wp2_with fail
        refine (ops_any _).mono ?_
        rintro e w' ⟨rfl, hb⟩
        have HB := hide hb
        clear hb
        have hix := index7
        go_wp2_with fail
        refine (opc7 _ _ (byV 32 b) _ _ HY.out.1 HY.out.2).mono ?_
        rintro e w' ⟨rfl, rfl⟩
        go_wp2_with fail
        refine (cut_any _ _ _).mono ?_
        rintro e w' ⟨rfl, rfl⟩
        go_wp2
        go_ret2
        exact ⟨rfl, HB.out⟩
    · as_aux_lemma =>
        go_enter Try.func48, Try.ntmps48
        go_wp2_with fail
        refine (long_any _ _).mono ?_
        rintro e w' ⟨rfl, rfl⟩
        go_wp2_with fail
        refine (cut_any _ _ _).mono ?_
        rintro e w' ⟨rfl, rfl⟩
        go_wp2_with fail
        refine (cut_any _ _ _).mono ?_
        rintro e w' ⟨rfl, rfl⟩
        go_wp2_with fail
        refine (ops_any _).mono ?_
        rintro e w' ⟨rfl, hb⟩
        have HB := hide hb
        clear hb
        have hix := index8
        go_wp2_with fail
        refine (opc8 _ _ (byV 32 b) _ _ HY.out.1 HY.out.2).mono ?_
        rintro e w' ⟨rfl, rfl⟩
        go_wp2_with fail
        refine (cut_any _ _ _).mono ?_
        rintro e w' ⟨rfl, rfl⟩
        go_wp2
        go_ret2
        exact ⟨rfl, HB.out⟩
    · as_aux_lemma =>
        go_enter Try.func48, Try.ntmps48
        go_wp2_with fail
        refine (long_any _ _).mono ?_
        rintro e w' ⟨rfl, rfl⟩
        go_wp2_with fail
        refine (cut_any _ _ _).mono ?_
        rintro e w' ⟨rfl, rfl⟩
        go_wp2_with fail
        refine (cut_any _ _ _).mono ?_
        rintro e w' ⟨rfl, rfl⟩
        go_wp2_with fail
        refine (ops_any _).mono ?_
        rintro e w' ⟨rfl, hb⟩
        have HB := hide hb
        clear hb
        have hix := index9
        go_wp2_with fail
        refine (opc9 _ _ (byV 32 b) _ _).mono ?_
        rintro e w' ⟨rfl, rfl⟩
        go_wp2_with fail
        refine (cut_any _ _ _).mono ?_
        rintro e w' ⟨rfl, rfl⟩
        go_wp2
        go_ret2
        exact ⟨rfl, HB.out⟩
    · as_aux_lemma =>
        go_enter Try.func48, Try.ntmps48
        go_wp2_with fail
        refine (long_any _ _).mono ?_
        rintro e w' ⟨rfl, rfl⟩
        go_wp2_with fail
        refine (cut_any _ _ _).mono ?_
        rintro e w' ⟨rfl, rfl⟩
        go_wp2_with fail
        refine (cut_any _ _ _).mono ?_
        rintro e w' ⟨rfl, rfl⟩
        go_wp2_with fail
        refine (ops_any _).mono ?_
        rintro e w' ⟨rfl, hb⟩
        have HB := hide hb
        clear hb
        have hix := index10
        go_wp2_with fail
        refine (opc10 _ _ (byV 32 b) _ _).mono ?_
        rintro e w' ⟨rfl, rfl⟩
        go_wp2_with fail
        refine (cut_any _ _ _).mono ?_
        rintro e w' ⟨rfl, rfl⟩
        go_wp2
        go_ret2
        exact ⟨rfl, HB.out⟩
    · as_aux_lemma =>
        go_enter Try.func48, Try.ntmps48
        go_wp2_with fail
        refine (long_any _ _).mono ?_
        rintro e w' ⟨rfl, rfl⟩
        go_wp2_with fail
        refine (cut_any _ _ _).mono ?_
        rintro e w' ⟨rfl, rfl⟩
        go_wp2_with fail
        refine (cut_any _ _ _).mono ?_
        rintro e w' ⟨rfl, rfl⟩
        go_wp2_with fail
        refine (ops_any _).mono ?_
        rintro e w' ⟨rfl, hb⟩
        have HB := hide hb
        clear hb
        have hix := index11
        go_wp2_with fail
        refine (opc11 _ _ (byV 32 b) _ _).mono ?_
        rintro e w' ⟨rfl, rfl⟩
        go_wp2_with fail
        refine (cut_any _ _ _).mono ?_
        rintro e w' ⟨rfl, rfl⟩
        go_wp2
        go_ret2
        exact ⟨rfl, HB.out⟩
    · as_aux_lemma =>
        go_enter Try.func48, Try.ntmps48
        go_wp2_with fail
        refine (long_any _ _).mono ?_
        rintro e w' ⟨rfl, rfl⟩
        go_wp2_with fail
        refine (cut_any _ _ _).mono ?_
        rintro e w' ⟨rfl, rfl⟩
        go_wp2_with fail
        refine (cut_any _ _ _).mono ?_
        rintro e w' ⟨rfl, rfl⟩
        go_wp2_with fail
        refine (ops_any _).mono ?_
        rintro e w' ⟨rfl, hb⟩
        have HB := hide hb
        clear hb
        have hix := index12
        go_wp2_with fail
        refine (opc12 _ _ (byV 32 b) _ _).mono ?_
        rintro e w' ⟨rfl, rfl⟩
        go_wp2_with fail
        refine (cut_any _ _ _).mono ?_
        rintro e w' ⟨rfl, rfl⟩
        go_wp2
        go_ret2
        exact ⟨rfl, HB.out⟩
    · as_aux_lemma =>
        go_enter Try.func48, Try.ntmps48
        go_wp2_with fail
        refine (long_any _ _).mono ?_
        rintro e w' ⟨rfl, rfl⟩
        go_wp2_with fail
        refine (cut_any _ _ _).mono ?_
        rintro e w' ⟨rfl, rfl⟩
        go_wp2_with fail
        refine (cut_any _ _ _).mono ?_
        rintro e w' ⟨rfl, rfl⟩
        go_wp2_with fail
        refine (ops_any _).mono ?_
        rintro e w' ⟨rfl, hb⟩
        have HB := hide hb
        clear hb
        have hix := index13
        go_wp2_with fail
        refine (opc13 _ _ (byV 32 b) _ _ HY.out.1 HY.out.2).mono ?_
        rintro e w' ⟨rfl, rfl⟩
        go_wp2_with fail
        refine (cut_any _ _ _).mono ?_
        rintro e w' ⟨rfl, rfl⟩
        go_wp2
        go_ret2
        exact ⟨rfl, HB.out⟩
  · rcases hops with rfl | rfl | rfl | rfl | rfl | rfl | rfl | rfl | rfl | rfl | rfl | rfl | rfl
    · as_aux_lemma =>
        go_enter Try.func48, Try.ntmps48
        go_wp2_with fail
        refine (long_any _ _).mono ?_
        rintro e w' ⟨rfl, rfl⟩
        go_wp2_with fail
        refine (cut_any _ _ _).mono ?_
        rintro e w' ⟨rfl, rfl⟩
        go_wp2_with fail
        refine (cut_any _ _ _).mono ?_
        rintro e w' ⟨rfl, rfl⟩
        go_wp2_with fail
        refine (ops_any _).mono ?_
        rintro e w' ⟨rfl, hb⟩
        have HB := hide hb
        clear hb
        have hix := index1
        go_wp2_with fail
        refine (opc1 _ _ (byV 64 b) _ _).mono ?_
        rintro e w' ⟨rfl, rfl⟩
        go_wp2_with fail
        refine (cut_any _ _ _).mono ?_
        rintro e w' ⟨rfl, rfl⟩
        go_wp2
        go_ret2
        exact ⟨rfl, HB.out⟩
    · as_aux_lemma =>
        go_enter Try.func48, Try.ntmps48
        go_wp2_with fail
        refine (long_any _ _).mono ?_
        rintro e w' ⟨rfl, rfl⟩
        go_wp2_with fail
        refine (cut_any _ _ _).mono ?_
        rintro e w' ⟨rfl, rfl⟩
        go_wp2_with fail
        refine (cut_any _ _ _).mono ?_
        rintro e w' ⟨rfl, rfl⟩
        go_wp2_with fail
        refine (ops_any _).mono ?_
        rintro e w' ⟨rfl, hb⟩
        have HB := hide hb
        clear hb
        have hix := index2
        go_wp2_with fail
        refine (opc2 _ _ (byV 64 b) _ _).mono ?_
        rintro e w' ⟨rfl, rfl⟩
        go_wp2_with fail
        refine (cut_any _ _ _).mono ?_
        rintro e w' ⟨rfl, rfl⟩
        go_wp2
        go_ret2
        exact ⟨rfl, HB.out⟩
    · as_aux_lemma =>
        go_enter Try.func48, Try.ntmps48
        go_wp2_with fail
        refine (long_any _ _).mono ?_
        rintro e w' ⟨rfl, rfl⟩
        go_wp2_with fail
        refine (cut_any _ _ _).mono ?_
        rintro e w' ⟨rfl, rfl⟩
        go_wp2_with fail
        refine (cut_any _ _ _).mono ?_
        rintro e w' ⟨rfl, rfl⟩
        go_wp2_with fail
        refine (ops_any _).mono ?_
        rintro e w' ⟨rfl, hb⟩
        have HB := hide hb
        clear hb
        have hix := index3
        go_wp2_with fail
        refine (opc3 _ _ (byV 64 b) _ _).mono ?_
        rintro e w' ⟨rfl, rfl⟩
        go_wp2_with fail
        refine (cut_any _ _ _).mono ?_
        rintro e w' ⟨rfl, rfl⟩
        go_wp2
        go_ret2
        exact ⟨rfl, HB.out⟩
    · as_aux_lemma =>
        go_enter Try.func48, Try.ntmps48
        go_wp2_with fail
        refine (long_any _ _).mono ?_
        rintro e w' ⟨rfl, rfl⟩
        go_wp2_with fail
        refine (cut_any _ _ _).mono ?_
        rintro e w' ⟨rfl, rfl⟩
        go_wp2_with fail
        refine (cut_any _ _ _).mono ?_
        rintro e w' ⟨rfl, rfl⟩
        go_wp2_with fail
        refine (ops_any _).mono ?_
        rintro e w' ⟨rfl, hb⟩
        have HB := hide hb
        clear hb
        have hix := index4
        go_wp2_with fail
        refine (opc4 _ _ (byV 64 b) _ _).mono ?_
        rintro e w' ⟨rfl, rfl⟩
        go_wp2_with fail
        refine (cut_any _ _ _).mono ?_
        rintro e w' ⟨rfl, rfl⟩
        go_wp2
        go_ret2
        exact ⟨rfl, HB.out⟩
    · as_aux_lemma =>
        go_enter Try.func48, Try.ntmps48
        go_wp2_with fail
        refine (long_any _ _).mono ?_
        rintro e w' ⟨rfl, rfl⟩
        go_wp2_with fail
        refine (cut_any _ _ _).mono ?_
        rintro e w' ⟨rfl, rfl⟩
        go_wp2_with fail
        refine (cut_any _ _ _).mono ?_
        rintro e w' ⟨rfl, rfl⟩
        go_wp2_with fail
        refine (ops_any _).mono ?_
        rintro e w' ⟨rfl, hb⟩
        have HB := hide hb
        clear hb
        have hix := index5
        go_wp2_with fail
        refine (opc5 _ _ (byV 64 b) _ _).mono ?_
        rintro e w' ⟨rfl, rfl⟩
        go_wp2_with fail
        refine (cut_any _ _ _).mono ?_
        rintro e w' ⟨rfl, rfl⟩
        go_wp2
        go_ret2
        exact ⟨rfl, HB.out⟩
    · as_aux_lemma =>
        go_enter Try.func48, Try.ntmps48
        go_wp2_with fail
        refine (long_any _ _).mono ?_
        rintro e w' ⟨rfl, rfl⟩
        go_wp2_with fail
        refine (cut_any _ _ _).mono ?_
        rintro e w' ⟨rfl, rfl⟩
        go_wp2_with fail
        refine (cut_any _ _ _).mono ?_
        rintro e w' ⟨rfl, rfl⟩
        go_wp2_with fail
        refine (ops_any _).mono ?_
        rintro e w' ⟨rfl, hb⟩
        have HB := hide hb
        clear hb
        have hix := index6
        go_wp2_with fail
        refine (opc6 _ _ (byV 64 b) _ _).mono ?_
        rintro e w' ⟨rfl, rfl⟩
        go_wp2_with fail
        refine (cut_any _ _ _).mono ?_
        rintro e w' ⟨rfl, rfl⟩
        go_wp2
        go_ret2
        exact ⟨rfl, HB.out⟩
    · as_aux_lemma =>
        go_enter Try.func48, Try.ntmps48
        go_wp2_with fail
        refine (long_any _ _).mono ?_
        rintro e w' ⟨rfl, rfl⟩
        go_wp2_with fail
        refine (cut_any _ _ _).mono ?_
        rintro e w' ⟨rfl, rfl⟩
        go_wp2_with fail
        refine (cut_any _ _ _).mono ?_
        rintro e w' ⟨rfl, rfl⟩
        go_wp2_with fail
        refine (ops_any _).mono ?_
        rintro e w' ⟨rfl, hb⟩
        have HB := hide hb
        clear hb
        have hix := index7
        go_wp2_with fail
        refine (opc7 _ _ (byV 64 b) _ _ HY.out.1 HY.out.2).mono ?_
        rintro e w' ⟨rfl, rfl⟩
        go_wp2_with fail
        refine (cut_any _ _ _).mono ?_
        rintro e w' ⟨rfl, rfl⟩
        go_wp2
        go_ret2
        exact ⟨rfl, HB.out⟩
    · as_aux_lemma =>
        go_enter Try.func48, Try.ntmps48
        go_wp2_with fail
        refine (long_any _ _).mono ?_
        rintro e w' ⟨rfl, rfl⟩
        go_wp2_with fail
        refine (cut_any _ _ _).mono ?_
        rintro e w' ⟨rfl, rfl⟩
        go_wp2_with fail
        refine (cut_any _ _ _).mono ?_
        rintro e w' ⟨rfl, rfl⟩
        go_wp2_with fail
        refine (ops_any _).mono ?_
        rintro e w' ⟨rfl, hb⟩
        have HB := hide hb
        clear hb
        have hix := index8
        go_wp2_with fail
        refine (opc8 _ _ (byV 64 b) _ _ HY.out.1 HY.out.2).mono ?_
        rintro e w' ⟨rfl, rfl⟩
        go_wp2_with fail
        refine (cut_any _ _ _).mono ?_
        rintro e w' ⟨rfl, rfl⟩
        go_wp2
        go_ret2
        exact ⟨rfl, HB.out⟩
    · as_aux_lemma =>
        go_enter Try.func48, Try.ntmps48
        go_wp2_with fail
        refine (long_any _ _).mono ?_
        rintro e w' ⟨rfl, rfl⟩
        go_wp2_with fail
        refine (cut_any _ _ _).mono ?_
        rintro e w' ⟨rfl, rfl⟩
        go_wp2_with fail
        refine (cut_any _ _ _).mono ?_
        rintro e w' ⟨rfl, rfl⟩
        go_wp2_with fail
        refine (ops_any _).mono ?_
        rintro e w' ⟨rfl, hb⟩
        have HB := hide hb
        clear hb
        have hix := index9
        go_wp2_with fail
        refine (opc9 _ _ (byV 64 b) _ _).mono ?_
        rintro e w' ⟨rfl, rfl⟩
        go_wp2_with fail
        refine (cut_any _ _ _).mono ?_
        rintro e w' ⟨rfl, rfl⟩
        go_wp2
        go_ret2
        exact ⟨rfl, HB.out⟩
    · as_aux_lemma =>
        go_enter Try.func48, Try.ntmps48
        go_wp2_with fail
        refine (long_any _ _).mono ?_
        rintro e w' ⟨rfl, rfl⟩
        go_wp2_with fail
        refine (cut_any _ _ _).mono ?_
        rintro e w' ⟨rfl, rfl⟩
        go_wp2_with fail
        refine (cut_any _ _ _).mono ?_
        rintro e w' ⟨rfl, rfl⟩
        go_wp2_with fail
        refine (ops_any _).mono ?_
        rintro e w' ⟨rfl, hb⟩
        have HB := hide hb
        clear hb
        have hix := index10
        go_wp2_with fail
        refine (opc10 _ _ (byV 64 b) _ _).mono ?_
        rintro e w' ⟨rfl, rfl⟩
        go_wp2_with fail
        refine (cut_any _ _ _).mono ?_
        rintro e w' ⟨rfl, rfl⟩
        go_wp2
        go_ret2
        exact ⟨rfl, HB.out⟩
    · as_aux_lemma =>
        go_enter Try.func48, Try.ntmps48
        go_wp2_with fail
        refine (long_any _ _).mono ?_
        rintro e w' ⟨rfl, rfl⟩
        go_wp2_with fail
        refine (cut_any _ _ _).mono ?_
        rintro e w' ⟨rfl, rfl⟩
        go_wp2_with fail
        refine (cut_any _ _ _).mono ?_
        rintro e w' ⟨rfl, rfl⟩
        go_wp2_with fail
        refine (ops_any _).mono ?_
        rintro e w' ⟨rfl, hb⟩
        have HB := hide hb
        clear hb
        have hix := index11
        go_wp2_with fail
        refine (opc11 _ _ (byV 64 b) _ _).mono ?_
        rintro e w' ⟨rfl, rfl⟩
        go_wp2_with fail
        refine (cut_any _ _ _).mono ?_
        rintro e w' ⟨rfl, rfl⟩
        go_wp2
        go_ret2
        exact ⟨rfl, HB.out⟩
    · as_aux_lemma =>
        go_enter Try.func48, Try.ntmps48
        go_wp2_with fail
        refine (long_any _ _).mono ?_
        rintro e w' ⟨rfl, rfl⟩
        go_wp2_with fail
        refine (cut_any _ _ _).mono ?_
        rintro e w' ⟨rfl, rfl⟩
        go_wp2_with fail
        refine (cut_any _ _ _).mono ?_
        rintro e w' ⟨rfl, rfl⟩
        go_wp2_with fail
        refine (ops_any _).mono ?_
        rintro e w' ⟨rfl, hb⟩
        have HB := hide hb
        clear hb
        have hix := index12
        go_wp2_with fail
        refine (opc12 _ _ (byV 64 b) _ _).mono ?_
        rintro e w' ⟨rfl, rfl⟩
        go_wp2_with fail
        refine (cut_any _ _ _).mono ?_
        rintro e w' ⟨rfl, rfl⟩
        go_wp2
        go_ret2
        exact ⟨rfl, HB.out⟩
    · as_aux_lemma =>
        go_enter Try.func48, Try.ntmps48
        go_wp2_with fail
        refine (long_any _ _).mono ?_
        rintro e w' ⟨rfl, rfl⟩
        go_wp2_with fail
        refine (cut_any _ _ _).mono ?_
        rintro e w' ⟨rfl, rfl⟩
        go_wp2_with fail
        refine (cut_any _ _ _).mono ?_
        rintro e w' ⟨rfl, rfl⟩
        go_wp2_with fail
        refine (ops_any _).mono ?_
        rintro e w' ⟨rfl, hb⟩
        have HB := hide hb
        clear hb
        have hix := index13
        go_wp2_with fail
        refine (opc13 _ _ (byV 64 b) _ _ HY.out.1 HY.out.2).mono ?_
        rintro e w' ⟨rfl, rfl⟩
        go_wp2_with fail
        refine (cut_any _ _ _).mono ?_
        rintro e w' ⟨rfl, rfl⟩
        go_wp2
        go_ret2
        exact ⟨rfl, HB.out⟩
end Go.Proofs.Ytepagfkkjlbipaa
end
