/-
  Contracts of bits: Cut, Sign, long, Do, Holds. Conditions: those written in each statement.
-/
import Derived.Test.YtfjflefgclfbfaaNa
import Derived.Laws.EntriesVeiled
namespace Go.Proofs.Ytfjflefgclfbfaa
open Go.RowKit
set_option linter.unusedVariables false
set_option linter.unusedSimpArgs false
theorem ret_i {k : IntKind} {a b : Int} (h : a = b) : Ending.returned (.int k a) = .returned (.int k b) := by rw [h]
theorem cut_any (v x : Int) (w : World) : Calls Try.prog 13 #[.int .u64 v, .int .i8 x] w fun e w' => e = .returned (.int .u64 (cutV x v)) ∧ w = w' := by
  cases h8 : (x == 8)
  · cases h16 : (x == 16)
    · cases h32 : (x == 32)
      · have e : cutV x v = v := by simp at h8 h16 h32; unfold cutV; simp [h8, h16, h32]
        rw [e]
        go_enter Try.func13, Try.ntmps13
        go_wp2
        go_ret
        exact ⟨rfl, rfl⟩
      · obtain rfl : x = 32 := by simpa using h32
        go_enter Try.func13, Try.ntmps13
        go_wp2
        go_ret
        exact ⟨rfl, rfl⟩
    · obtain rfl : x = 16 := by simpa using h16
      go_enter Try.func13, Try.ntmps13
      go_wp2
      go_ret
      exact ⟨ret_i (by rw [IntKind.wrap_u64, IntKind.wrap_u16]; unfold cutV; simp; omega), rfl⟩
  · obtain rfl : x = 8 := by simpa using h8
    go_enter Try.func13, Try.ntmps13
    go_wp2
    go_ret
    exact ⟨rfl, rfl⟩
theorem long_any (x : Int) (w : World) : Calls Try.prog 26 #[.int .i8 x] w fun e w' => e = .returned (.bool (longB x)) ∧ w = w' := by
  cases h32 : (x == 32)
  · go_enter Try.func26, Try.ntmps26
    go_wp2
    go_ret
    exact ⟨by unfold longB; simp [h32], rfl⟩
  · go_enter Try.func26, Try.ntmps26
    go_wp2
    go_ret
    exact ⟨by unfold longB; simp [h32], rfl⟩
def signU (x v : Int) : Int := if x = 8 then IntKind.u64.wrap (wrap64 (IntKind.i8.wrap v)) else if x = 16 then IntKind.u64.wrap (wrap64 (IntKind.i16.wrap v)) else if x = 32 then IntKind.u64.wrap (wrap64 (wrap32 v)) else v
theorem sign_any (v x : Int) (w : World) : Calls Try.prog 30 #[.int .u64 v, .int .i8 x] w fun e w' => e = .returned (.int .u64 (signU x v)) ∧ w = w' := by
  cases h8 : (x == 8)
  · cases h16 : (x == 16)
    · cases h32 : (x == 32)
      · have e : signU x v = v := by simp at h8 h16 h32; unfold signU; simp [h8, h16, h32]
        rw [e]
        go_enter Try.func30, Try.ntmps30
        go_wp2
        go_ret
        exact ⟨rfl, rfl⟩
      · obtain rfl : x = 32 := by simpa using h32
        go_enter Try.func30, Try.ntmps30
        go_wp2
        go_ret
        exact ⟨rfl, rfl⟩
    · obtain rfl : x = 16 := by simpa using h16
      go_enter Try.func30, Try.ntmps30
      go_wp2
      go_ret
      exact ⟨rfl, rfl⟩
  · obtain rfl : x = 8 := by simpa using h8
    go_enter Try.func30, Try.ntmps30
    go_wp2
    go_ret
    exact ⟨rfl, rfl⟩
theorem wdB_any (x : Int) (w : World) : Calls Try.prog 18 #[.int .i8 x] w fun e w' => e = .returned (.bool (wdB x)) ∧ w = w' := width_any x w
set_option maxHeartbeats 1000000 in
theorem do_no {op x : Int} (a b : Int) (w : World) (h : op < 0 ∨ 12 < op ∨ longB x = false) : Calls Try.prog 14 #[.int .i8 op, .int .i8 x, .int .u64 a, .int .u64 b] w fun e w' => e = .returned (.tuple #[.int .u64 0, .int .i64 2]) ∧ w = w' := by
  cases h1 : decide (op < 0)
  · cases h2 : decide (12 < op)
    · have HL := hide (show longB x = false by simp at h1 h2; rcases h with h | h | h <;> first | exact h | omega)
      clear h
      go_enter Try.func14, Try.ntmps14
      go_wp2_with fail
      refine (long_any x _).mono ?_
      rintro e w' ⟨rfl, rfl⟩
      rw [HL.out]
      go_wp2
      go_ret2
      exact ⟨rfl, rfl⟩
    · clear h
      go_enter Try.func14, Try.ntmps14
      go_wp2
      go_ret2
      exact ⟨rfl, rfl⟩
  · clear h
    go_enter Try.func14, Try.ntmps14
    go_wp2
    go_ret2
    exact ⟨rfl, rfl⟩
def opsL : List Value := [.func (.func 73) #[] #[], .func (.func 74) #[] #[], .func (.func 75) #[] #[], .func (.func 76) #[] #[], .func (.func 77) #[] #[], .func (.func 78) #[] #[], .func (.func 79) #[] #[], .func (.func 80) #[] #[], .func (.func 81) #[] #[], .func (.func 82) #[] #[], .func (.func 83) #[] #[], .func (.func 84) #[] #[], .func (.func 85) #[] #[]]
theorem ops_any (w : World) : Calls Try.prog 27 #[] w fun e w' => e = .returned (.agg opsL.toArray) ∧ Below w.heap.size w w' := by
  have hb := Blk.new w 68 opsL.toArray
  have hrl := run_loadVar_at (P := Try.prog) _ ⟨w.heap.size, 0, none⟩ 68 opsL _ (blk_list hb) Try.underlying68 rfl (by kernel_rfl)
  unfold opsL at hrl ⊢
  go_enter Try.func27, Try.ntmps27
  go_wp2
  exact bodyPost_ret (by simp [results, Try.results27, Act.put, asAddr, Result.andThen, hrl]) rfl ⟨rfl, (Below.refl _ _).alloc (Nat.le_refl _) _⟩
end Go.Proofs.Ytfjflefgclfbfaa
