/-
  Contracts of bits: Cut, Sign, long, Do, Holds. Conditions: those written in each statement.
-/
import Derived.Test.YtfjflefgclfbfaaGreatNa
import Derived.Laws.EntriesVeiled
namespace Go.Proofs.YtfjflefgclfbfaaGreat
open Go.RowKit
set_option linter.unusedVariables false
set_option linter.unusedSimpArgs false
theorem ret_i {k : IntKind} {a b : Int} (h : a = b) : Ending.returned (.int k a) = .returned (.int k b) := by rw [h]
theorem cut_any (v x : Int) (w : World) : Calls Tryz.prog 50 #[.int .u64 v, .int .i8 x] w fun e w' => e = .returned (.int .u64 (cutV x v)) ∧ w = w' := by
  cases h8 : (x == 8)
  · cases h16 : (x == 16)
    · cases h32 : (x == 32)
      · have e : cutV x v = v := by simp at h8 h16 h32; unfold cutV; simp [h8, h16, h32]
        rw [e]
        go_enter Tryz.func50, Tryz.ntmps50
        go_wp2
        go_ret
        exact ⟨rfl, rfl⟩
      · obtain rfl : x = 32 := by simpa using h32
        go_enter Tryz.func50, Tryz.ntmps50
        go_wp2
        go_ret
        exact ⟨rfl, rfl⟩
    · obtain rfl : x = 16 := by simpa using h16
      go_enter Tryz.func50, Tryz.ntmps50
      go_wp2
      go_ret
      exact ⟨ret_i (by rw [IntKind.wrap_u64, IntKind.wrap_u16]; unfold cutV; simp; omega), rfl⟩
  · obtain rfl : x = 8 := by simpa using h8
    go_enter Tryz.func50, Tryz.ntmps50
    go_wp2
    go_ret
    exact ⟨rfl, rfl⟩
theorem long_any (x : Int) (w : World) : Calls Tryz.prog 91 #[.int .i8 x] w fun e w' => e = .returned (.bool (longB x)) ∧ w = w' := by
  cases h32 : (x == 32)
  · go_enter Tryz.func91, Tryz.ntmps91
    go_wp2
    go_ret
    exact ⟨by unfold longB; simp [h32], rfl⟩
  · go_enter Tryz.func91, Tryz.ntmps91
    go_wp2
    go_ret
    exact ⟨by unfold longB; simp [h32], rfl⟩
def signU (x v : Int) : Int := if x = 8 then IntKind.u64.wrap (wrap64 (IntKind.i8.wrap v)) else if x = 16 then IntKind.u64.wrap (wrap64 (IntKind.i16.wrap v)) else if x = 32 then IntKind.u64.wrap (wrap64 (wrap32 v)) else v
theorem sign_any (v x : Int) (w : World) : Calls Tryz.prog 96 #[.int .u64 v, .int .i8 x] w fun e w' => e = .returned (.int .u64 (signU x v)) ∧ w = w' := by
  cases h8 : (x == 8)
  · cases h16 : (x == 16)
    · cases h32 : (x == 32)
      · have e : signU x v = v := by simp at h8 h16 h32; unfold signU; simp [h8, h16, h32]
        rw [e]
        go_enter Tryz.func96, Tryz.ntmps96
        go_wp2
        go_ret
        exact ⟨rfl, rfl⟩
      · obtain rfl : x = 32 := by simpa using h32
        go_enter Tryz.func96, Tryz.ntmps96
        go_wp2
        go_ret
        exact ⟨rfl, rfl⟩
    · obtain rfl : x = 16 := by simpa using h16
      go_enter Tryz.func96, Tryz.ntmps96
      go_wp2
      go_ret
      exact ⟨rfl, rfl⟩
  · obtain rfl : x = 8 := by simpa using h8
    go_enter Tryz.func96, Tryz.ntmps96
    go_wp2
    go_ret
    exact ⟨rfl, rfl⟩
set_option maxHeartbeats 1000000 in
theorem do_no {op x : Int} (a b : Int) (w : World) (h : op < 0 ∨ 12 < op ∨ longB x = false) : Calls Tryz.prog 34 #[.int .i8 op, .int .i8 x, .int .u64 a, .int .u64 b] w fun e w' => e = .returned (.tuple #[.int .u64 0, .int .i64 2]) ∧ w = w' := by
  cases h1 : decide (op < 0)
  · cases h2 : decide (12 < op)
    · have HL := hide (show longB x = false by simp at h1 h2; rcases h with h | h | h <;> first | exact h | omega)
      clear h
      go_enter Tryz.func34, Tryz.ntmps34
      go_wp2_with fail
      refine (long_any x _).mono ?_
      rintro e w' ⟨rfl, rfl⟩
      rw [HL.out]
      go_wp2
      go_ret2
      exact ⟨rfl, rfl⟩
    · clear h
      go_enter Tryz.func34, Tryz.ntmps34
      go_wp2
      go_ret2
      exact ⟨rfl, rfl⟩
  · clear h
    go_enter Tryz.func34, Tryz.ntmps34
    go_wp2
    go_ret2
    exact ⟨rfl, rfl⟩
def opsL : List Value := [.func (.func 105) #[] #[], .func (.func 106) #[] #[], .func (.func 107) #[] #[], .func (.func 108) #[] #[], .func (.func 109) #[] #[], .func (.func 110) #[] #[], .func (.func 111) #[] #[], .func (.func 112) #[] #[], .func (.func 113) #[] #[], .func (.func 114) #[] #[], .func (.func 115) #[] #[], .func (.func 116) #[] #[], .func (.func 117) #[] #[]]
theorem ops_any (w : World) : Calls Tryz.prog 92 #[] w fun e w' => e = .returned (.agg opsL.toArray) ∧ Below w.heap.size w w' := by
  have hb := Blk.new w 113 opsL.toArray
  have hrl := run_loadVar_at (P := Tryz.prog) _ ⟨w.heap.size, 0, none⟩ 113 opsL _ (blk_list hb) Tryz.underlying113 rfl (by kernel_rfl)
  unfold opsL at hrl ⊢
  go_enter Tryz.func92, Tryz.ntmps92
  go_wp2
  exact bodyPost_ret (by simp [results, Tryz.results92, Act.put, asAddr, Result.andThen, hrl]) rfl ⟨rfl, (Below.refl _ _).alloc (Nat.le_refl _) _⟩
end Go.Proofs.YtfjflefgclfbfaaGreat
