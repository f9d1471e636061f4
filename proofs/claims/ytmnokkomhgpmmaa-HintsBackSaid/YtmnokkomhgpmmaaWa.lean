/-
  Contracts of hints' small functions. Conditions: those written in each statement.
-/
import Derived.Test.YtmnokkomhgpmmaaProg
import Derived.Test.YtmnokkomhgpmmaaPl
namespace Go.Proofs.Ytmnokkomhgpmmaa
open Go.RowKit
set_option linter.unusedVariables false
set_option linter.unusedSimpArgs false
theorem ret_b {a b : Bool} (h : a = b) : Ending.returned (.bool a) = .returned (.bool b) := by rw [h]
set_option maxHeartbeats 400000 in
theorem place_any (k n s : Int) (w : World) (hn : I8 n) :
    Calls Try.prog 23 #[.agg #[.int .i8 k, .int .i8 n], .int .i64 s] w fun e w' => e = .returned (.bool (placeB k n s)) ∧ Below w.heap.size w w' := by
  unfold I8 at hn
  by_cases h0 : k = 0
  · subst h0
    go_enter Try.func23, Try.ntmps23
    go_wp2
    go_ret
    exact ⟨ret_b (by simp [placeB]), (Below.refl _ _).alloc (Nat.le_refl _) _⟩
  have b0 : (k == 0) = false := by simpa using h0
  by_cases h1 : k = 1
  · subst h1
    by_cases n0 : 0 ≤ n
    · by_cases n1 : n < 16
      · go_enter Try.func23, Try.ntmps23
        go_wp2
        go_ret
        exact ⟨ret_b (by simp [placeB, n0, n1]), (Below.refl _ _).alloc (Nat.le_refl _) _⟩
      · go_enter Try.func23, Try.ntmps23
        go_wp2
        go_ret
        exact ⟨ret_b (by simp [placeB]; omega), (Below.refl _ _).alloc (Nat.le_refl _) _⟩
    · go_enter Try.func23, Try.ntmps23
      go_wp2
      go_ret
      exact ⟨ret_b (by simp [placeB]; omega), (Below.refl _ _).alloc (Nat.le_refl _) _⟩
  have b1 : (k == 1) = false := by simpa using h1
  by_cases h2 : k = 2
  · subst h2
    by_cases n0 : 0 ≤ n
    · go_enter Try.func23, Try.ntmps23
      go_wp2
      go_ret
      exact ⟨ret_b (by simp [placeB, n0]), (Below.refl _ _).alloc (Nat.le_refl _) _⟩
    · go_enter Try.func23, Try.ntmps23
      go_wp2
      go_ret
      exact ⟨ret_b (by simp [placeB]; omega), (Below.refl _ _).alloc (Nat.le_refl _) _⟩
  have b2 : (k == 2) = false := by simpa using h2
  clear h0 h1 h2
  go_enter Try.func23, Try.ntmps23
  go_wp2
  go_ret
  exact ⟨ret_b (by have q0 : ¬ k = 0 := by simpa using b0
                   have q1 : ¬ k = 1 := by simpa using b1
                   have q2 : ¬ k = 2 := by simpa using b2
                   simp [placeB, q0, q1, q2]), (Below.refl _ _).alloc (Nat.le_refl _) _⟩
end Go.Proofs.Ytmnokkomhgpmmaa
