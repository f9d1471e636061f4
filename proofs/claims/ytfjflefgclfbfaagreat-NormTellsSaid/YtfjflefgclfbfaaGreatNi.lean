/-
  Contracts of norm's then and first: laws asked one after the other. Conditions: those written in each statement.
-/
import Derived.Test.YtfjflefgclfbfaaGreatNg
namespace Go.Proofs.YtfjflefgclfbfaaGreat
open Go.RowKit
set_option linter.unusedVariables false
set_option linter.unusedSimpArgs false
set_option maxRecDepth 100000
/-- A function's number enters that function. -/
def EntersB (k : Nat) : Prop := ∀ args w, (callFunc k args).run Tryz.prog w = .ok (.enter k args) w
theorem then_no (d : Value) (w : World) : Calls Tryz.prog 44 #[.bool false, d] w fun e w' => e = .returned (.tuple #[.int .i64 0, .bool false, .int .i64 0]) ∧ w = w' := by
  go_enter Tryz.func44, Tryz.ntmps44
  go_wp2
  exact bodyPost_ret (v := .tuple #[.int .i64 0, .bool false, .int .i64 0]) (by simp [results, Tryz.results44, go_sem]) rfl ⟨rfl, rfl⟩
theorem then_yes (k : Nat) (caps : Array Value) (w : World) (R : Int → Int → World → Prop) (he : EntersB k) (h : Calls Tryz.prog k caps w fun e w' => ∃ n m, e = .returned (.tuple #[.int .i64 n, .int .i64 m]) ∧ R n m w') :
    Calls Tryz.prog 44 #[.bool true, .func (.func k) #[] caps] w fun e w' => ∃ n m, e = .returned (.tuple #[.int .i64 n, .bool true, .int .i64 m]) ∧ R n m w' := by
  have he' : ∀ args w, (callFunc k args).run Tryz.prog w = .ok (.enter k args) w := he
  have H := hide h
  clear h he
  go_enter Tryz.func44, Tryz.ntmps44
  go_wp2_with fail
  refine H.out.mono ?_
  rintro e w1 ⟨n, m, rfl, hr⟩
  have HR := hide hr
  clear hr
  go_wp2
  exact bodyPost_ret (v := .tuple #[.int .i64 n, .bool true, .int .i64 m]) (by simp [results, Tryz.results44, go_sem]) rfl ⟨n, m, rfl, HR.out⟩
/-- A law that does not fit, from whatever world behind W0. -/
def LawNo (W0 : World) (v : Value) : Prop := ∃ k caps, v = .func (.func k) #[] caps ∧ EntersB k ∧ ∀ W, Below W0.heap.size W0 W → Calls Tryz.prog k caps W fun e W' => e = .returned (.tuple #[.int .i64 0, .bool false, .int .i64 0]) ∧ Below W.heap.size W W'
/-- One that fits. -/
def LawYes (W0 : World) (R : Int → Int → World → Prop) (v : Value) : Prop := ∃ k caps, v = .func (.func k) #[] caps ∧ EntersB k ∧ ∀ W, Below W0.heap.size W0 W → Calls Tryz.prog k caps W fun e W' => ∃ n m, e = .returned (.tuple #[.int .i64 n, .bool true, .int .i64 m]) ∧ R n m W'
def LawPut (W0 : World) (R : Int → Int → World → Prop) (v : Value) : Prop := ∃ k caps, v = .func (.func k) #[] caps ∧ EntersB k ∧ ∀ W, Below W0.heap.size W0 W → Calls Tryz.prog k caps W fun e W' => ∃ n m, e = .returned (.tuple #[.int .i64 n, .int .i64 m]) ∧ R n m W'
set_option maxHeartbeats 1000000 in
theorem first_any (W0 : World) (A : Option Addr) (n c : Nat) (L : List Value) (p : Value) (j : Nat) (R : Int → Int → World → Prop) (hL : L.length = n) (hn : n < 1000) (hc : n ≤ c) (hr : Reads W0 W0.heap.size 1 A n L) (hj : j ≤ n)
    (hno : ∀ i v, i < j → L[i]? = some v → LawNo W0 v) (hyes : ∀ v, L[j]? = some v → LawYes W0 R v) (hput : j = n → LawPut W0 R p) :
    Calls Tryz.prog 42 #[.slice A n c, p] W0 fun e w' => ∃ n m, e = .returned (.tuple #[.int .i64 n, .int .i64 m]) ∧ R n m w' := by
  have HL := hide hL
  have HR := hide hr
  have HNO := hide hno
  have HY := hide hyes
  have HPUT := hide hput
  clear hL hr hno hyes hput
  go_enter Tryz.func42, Tryz.ntmps42
  go_wp2
  go_loopw [13] (fun iv wr => ∃ k : Nat, k ≤ j ∧ iv = .int .i64 (k : Int) ∧ Below W0.heap.size W0 wr) (fun iv _ => n - (intOf iv).toNat)
  case atStart => exact ⟨0, by omega, rfl, Below.refl _ _⟩
  case round =>
    obtain ⟨k, hk, rfl, hb⟩ := hrel
    have HB := hide hb
    clear hb
    by_cases hlt : k < n
    · obtain ⟨ad, u, rfl, _, hu, hcl⟩ := (HR.out.below HB.out).at_ hlt
      have hkc : k < c := by omega
      by_cases hkj : k < j
      · obtain ⟨f, caps, rfl, hf, hl⟩ := HNO.out k u hkj hu
        have he' : ∀ args w, (callFunc f args).run Tryz.prog w = .ok (.enter f args) w := hf
        have HLAW := hide hl
        clear hl hf hu
        go_wp2_with fail
        refine (HLAW.out _ HB.out).mono ?_
        rintro e w1 ⟨rfl, hb⟩
        have HB1 := hide (HB.out.trans (hb.mono HB.out.size))
        clear hb HB
        go_wp2
        go_roundw
        case measure => simp [intOf]; omega
        case rel => exact ⟨k + 1, by omega, by go_num, HB1.out⟩
      · obtain rfl : k = j := by omega
        obtain ⟨f, caps, rfl, hf, hl⟩ := HY.out u hu
        have he' : ∀ args w, (callFunc f args).run Tryz.prog w = .ok (.enter f args) w := hf
        have HLAW := hide hl
        clear hl hf hu
        go_wp2_with fail
        refine (HLAW.out _ HB.out).mono ?_
        rintro e w1 ⟨a, b, rfl, hr⟩
        have HRR := hide hr
        clear hr HB
        go_wp2
        go_ret2
        exact ⟨a, b, rfl, HRR.out⟩
    · obtain rfl : k = n := by omega
      obtain rfl : j = k := by omega
      obtain ⟨f, caps, rfl, hf, hl⟩ := HPUT.out rfl
      have he' : ∀ args w, (callFunc f args).run Tryz.prog w = .ok (.enter f args) w := hf
      have HLAW := hide hl
      clear hl hf
      go_wp2_with fail
      refine (HLAW.out _ HB.out).mono ?_
      rintro e w1 ⟨a, b, rfl, hr⟩
      have HRR := hide hr
      clear hr HB
      go_wp2
      go_ret2
      exact ⟨a, b, rfl, HRR.out⟩
end Go.Proofs.YtfjflefgclfbfaaGreat
