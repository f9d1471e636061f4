/-
  Contracts of latheref01's Sign and Holds at a width of arithmetic. Conditions: those written in each statement.
-/
import Derived.Test.YtejgpgkigcbflaaLb
import Derived.Test.YtejgpgkigcbflaaPm
namespace Go.Proofs.Ytejgpgkigcbflaa
open Go.RowKit
theorem sgn_bd {w v : Int} (hw : Wd w) (hv : U v) : -9223372036854775808 ≤ sgn w v ∧ sgn w v < 9223372036854775808 := by
  have h1 := cut_bd hw hv
  unfold sgn
  rcases hw with rfl | rfl
  · simp only [modW, halfW, if_pos] at *
    split <;> omega
  · simp only [modW, halfW, show ¬ ((64 : Int) = 32) by omega, if_false] at *
    split <;> omega
/-- A signed word as a word. -/
def sgnU (w v : Int) : Int := IntKind.u64.wrap (sgn w v)
theorem sgnU_back {w v : Int} (hw : Wd w) (hv : U v) : wrap64 (sgnU w v) = sgn w v := by
  have := sgn_bd hw hv
  unfold sgnU wrap64
  rw [IntKind.wrap_u64]
  omega
set_option maxHeartbeats 400000 in
theorem rwidth_any (w0 : Int) (w : World) (hw : Wd w0) : Calls Try.prog 33 #[.int .i8 w0] w fun e w' => e = .returned (.bool true) ∧ w = w' := by
  rcases hw with rfl | rfl
  all_goals
    go_enter Try.func33, Try.ntmps33
    go_wp2
    go_ret
    exact ⟨rfl, rfl⟩
set_option maxHeartbeats 400000 in
theorem rsign_any (v w0 : Int) (w : World) (hw : Wd w0) (hv : U v) :
    Calls Try.prog 26 #[.int .u64 v, .int .i8 w0] w fun e w' => e = .returned (.int .u64 (sgnU w0 v)) ∧ w = w' := by
  have hw' := hw
  have hbd := cut_bd hw hv
  rcases hw with rfl | rfl
  · have ht := top32 (v := cutW 32 v) hbd.1 (by simpa [modW] using hbd.2)
    have hs : sgnU 32 v = if 2147483648 ≤ cutW 32 v then IntKind.u64.wrap (cutW 32 v - 4294967296) else cutW 32 v := by
      unfold sgnU sgn
      simp only [halfW, modW, if_pos] at *
      split
      · rfl
      · rw [IntKind.wrap_u64]; omega
    have HS := hide hs
    clear hs hbd
    by_cases h : 2147483648 ≤ cutW 32 v
    · have hd : decide (2147483648 ≤ cutW 32 v) = true := by simpa using h
      rw [hd] at ht
      have HH := hide h
      clear hd h
      go_enter Try.func26, Try.ntmps26
      go_wp2_with (first | (go_at_call 33; refine (rwidth_any _ _ hw').mono ?_; rintro e w' ⟨rfl, rfl⟩) | (go_at_call 24; refine (rcut_any _ _ _ hw' hv).mono ?_; rintro e w' ⟨rfl, rfl⟩))
      go_ret
      exact ⟨ret_i (by rw [HS.out, if_pos HH.out]), rfl⟩
    · have hd : decide (2147483648 ≤ cutW 32 v) = false := by simpa using h
      rw [hd] at ht
      have HH := hide h
      clear hd h
      go_enter Try.func26, Try.ntmps26
      go_wp2_with (first | (go_at_call 33; refine (rwidth_any _ _ hw').mono ?_; rintro e w' ⟨rfl, rfl⟩) | (go_at_call 24; refine (rcut_any _ _ _ hw' hv).mono ?_; rintro e w' ⟨rfl, rfl⟩))
      go_ret
      exact ⟨ret_i (by rw [HS.out, if_neg (by have := HH.out; omega)]), rfl⟩
  · have hs : sgnU 64 v = v := by
      unfold sgnU sgn
      unfold U at hv
      simp only [halfW, modW, cutW, show ¬ ((64 : Int) = 32) by omega, if_false] at *
      rw [IntKind.wrap_u64]
      split <;> omega
    have hc : cutW 64 v = v := by simp [cutW]
    have HS := hide hs
    have HC := hide hc
    clear hs hbd hc
    cases h : (bits .and .u64 (v / 9223372036854775808) 1 == 1)
    all_goals
      go_enter Try.func26, Try.ntmps26
      go_wp2_with (first | (go_at_call 33; refine (rwidth_any _ _ hw').mono ?_; rintro e w' ⟨rfl, rfl⟩) | (go_at_call 24; refine (rcut_any _ _ _ hw' hv).mono ?_; rintro e w' ⟨rfl, rfl⟩; rw [HC.out]))
      go_ret
      exact ⟨ret_i HS.out.symm, rfl⟩
end Go.Proofs.Ytejgpgkigcbflaa
