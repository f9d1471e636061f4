/-
  The walks of ModrmRexes and ModrmLens: they answer true. Conditions: none but that numbers fit their kinds.
-/
import Derived.Test.YtladeiighbbioaaLc
namespace Go.Proofs.Ytladeiighbbioaa
open Go.RowKit
/-- How many bytes below k are a REX; how many of these say that it is wide. -/
def cntOk (k : Nat) : Nat := (List.range k).countP fun j : Nat => rxOk (j : Int)
def cntW (k : Nat) : Nat := (List.range k).countP fun j : Nat => rxOk (j : Int) && rxW (j : Int)
theorem cntOk_succ (k : Nat) : cntOk (k + 1) = cntOk k + if rxOk k then 1 else 0 := by simp [cntOk, List.range_succ, List.countP_append, List.countP_cons]
theorem cntW_succ (k : Nat) : cntW (k + 1) = cntW k + if (rxOk k && rxW k) then 1 else 0 := by simp [cntW, List.range_succ, List.countP_append, List.countP_cons]
theorem cnt_le (k : Nat) : cntOk k ≤ k ∧ cntW k ≤ k := by
  constructor
  · have := List.countP_le_length (p := fun j : Nat => rxOk (j : Int)) (l := List.range k); simpa [cntOk] using this
  · have := List.countP_le_length (p := fun j : Nat => rxOk (j : Int) && rxW (j : Int)) (l := List.range k); simpa [cntW] using this
theorem rex_again : ∀ k : Fin 256, rxOk k.val = true → rexE (rxR k.val) (rxA k.val) = 0 ∧ rexV (rxW k.val) (rxR k.val) (rxA k.val) = (k.val : Int) := by decide +kernel
def RexRel (n wd i : Value) : Prop := ∃ k : Nat, k ≤ 256 ∧ i = .int .i64 k ∧ n = .int .i64 (cntOk k) ∧ wd = .int .i64 (cntW k)
set_option maxRecDepth 100000 in
set_option maxHeartbeats 1000000 in
theorem rexes_walk (b : Int) (hb : (Lit.int .u8 b).wf = true) (w : World) :
    Calls Try.prog 4 #[.int .u8 b] w fun e w' => e = .returned (.bool true) ∧ Below w.heap.size w w' := by
  have hb0 := bounds_u8 hb
  clear hb
  go_enter Try.func4, Try.ntmps4
  go_wp2
  go_loop [3, 4, 5] (fun n wd i => RexRel n wd i) (fun _ _ i => 256 - (intOf i).toNat)
  case atStart => exact ⟨0, by omega, rfl, rfl, rfl⟩
  case round =>
    obtain ⟨k, hk, rfl, rfl, rfl⟩ := hrel
    by_cases hlt : k < 256
    · have hle := cnt_le k
      have HO := hide (cntOk_succ k)
      have HW := hide (cntW_succ k)
      have hag := rex_again ⟨k, hlt⟩
      simp only at hag
      have HAG := hide hag
      clear hag
      generalize cntOk k = N at *
      generalize cntW k = M at *
      cases hok : rxOk k
      · go_wp2_with (go_at_call 12; refine (readrex_any _ _ (by omega) (by omega)).mono ?_; rintro e w' ⟨rfl, rfl⟩)
        go_round
        case rel => exact ⟨k + 1, by omega, by go_num, by rw [HO.out, hok]; rfl, by rw [HW.out, hok]; rfl⟩
        case measure => simp [intOf]; omega
      · obtain ⟨hE, hV⟩ := HAG.out hok
        cases hw : rxW k
        all_goals
          rw [hw] at hV
          go_wp2_with (first | (go_at_call 12; refine (readrex_any _ _ (by omega) (by omega)).mono ?_; rintro e w' ⟨rfl, rfl⟩) | (go_at_call 13; refine (rex_all _ _ _ _).mono ?_; rintro e w' ⟨rfl, rfl⟩))
          go_round
          case rel => exact ⟨k + 1, by omega, by go_num, by rw [HO.out, hok]; rfl, by rw [HW.out, hok, hw]; rfl⟩
          case measure => simp [intOf]; omega
    · obtain rfl : k = 256 := by omega
      rw [show cntOk 256 = 8 by decide +kernel, show cntW 256 = 4 by decide +kernel]
      have hR : rxOk b = false → rxR b = 0 ∧ rxA b = 0 := fun h => by simp [rxR, rxA, h]
      have HR := hide hR
      clear hR
      cases hok : rxOk b
      · have h2 := HR.out hok
        have e1 : (rxR b == 0) = true := by rw [h2.1]; rfl
        have e2 : (rxA b == 0) = true := by rw [h2.2]; rfl
        clear h2
        go_wp2_with (first | (go_at_call 12; refine (readrex_any _ _ (by omega) (by omega)).mono ?_; rintro e w' ⟨rfl, rfl⟩) | (go_at_call 11; refine (wakes_any _).mono ?_; rintro e w7 ⟨rfl, hb7⟩))
        go_ret
        exact ⟨rfl, hb7⟩
      · go_wp2_with (first | (go_at_call 12; refine (readrex_any _ _ (by omega) (by omega)).mono ?_; rintro e w' ⟨rfl, rfl⟩) | (go_at_call 11; refine (wakes_any _).mono ?_; rintro e w7 ⟨rfl, hb7⟩))
        go_ret
        exact ⟨rfl, hb7⟩
end Go.Proofs.Ytladeiighbbioaa
