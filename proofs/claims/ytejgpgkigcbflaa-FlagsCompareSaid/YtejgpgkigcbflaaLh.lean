/-
  Contracts of latheref01.Holds at each comparison. Conditions: those written in each statement.
-/
import Derived.Test.YtejgpgkigcbflaaLg
namespace Go.Proofs.Ytejgpgkigcbflaa
open Go.RowKit
theorem sgnU_cut {w v : Int} : sgnU w (cutW w v) = sgnU w v := by unfold sgnU sgn; rw [cut_cut]
set_option maxHeartbeats 400000 in
theorem rlong_any (w0 : Int) (w : World) (hw : Wd w0) : Calls Try.prog 34 #[.int .i8 w0] w fun e w' => e = .returned (.bool true) ∧ w = w' := by
  rcases hw with rfl | rfl
  all_goals
    go_enter Try.func34, Try.ntmps34
    go_wp2
    go_ret
    exact ⟨rfl, rfl⟩
set_option maxHeartbeats 1000000 in
theorem rcmp_0 (w0 a b : Int) (w : World) (hw : Wd w0) (ha : U a) (hb : U b) :
    Calls Try.prog 25 #[.int .i8 0, .int .i8 w0, .int .u64 a, .int .u64 b] w fun e w' => e = .returned (.tuple #[.bool (cutW w0 a == cutW w0 b), .int .i64 0]) ∧ w = w' := by
  have A := hide (sgnU_back hw ha)
  have B := hide (sgnU_back hw hb)
  have UA := U_cut hw ha
  have UB := U_cut hw hb
  have HS := hide (p := ∀ v, sgnU w0 (cutW w0 v) = sgnU w0 v) (fun v => sgnU_cut)
  go_enter Try.func25, Try.ntmps25
  go_wp2_with (first | (go_at_call 34; refine (rlong_any _ _ hw).mono ?_; rintro e w' ⟨rfl, rfl⟩))
  refine (rcut_any a _ _ hw ha).mono ?_
  rintro e w' ⟨rfl, rfl⟩
  go_wp2_with fail
  refine (rcut_any b _ _ hw hb).mono ?_
  rintro e w' ⟨rfl, rfl⟩
  go_wp2_with fail
  refine (rsign_any _ _ _ hw UA).mono ?_
  rintro e w' ⟨rfl, rfl⟩
  rw [HS.out]
  go_wp2_with fail
  refine (rsign_any _ _ _ hw UB).mono ?_
  rintro e w' ⟨rfl, rfl⟩
  rw [HS.out]
  go_wp2
  go_ret2
  exact ⟨ret_bi (by first | rfl | (rw [A.out, B.out])), rfl⟩
set_option maxHeartbeats 1000000 in
theorem rcmp_1 (w0 a b : Int) (w : World) (hw : Wd w0) (ha : U a) (hb : U b) :
    Calls Try.prog 25 #[.int .i8 1, .int .i8 w0, .int .u64 a, .int .u64 b] w fun e w' => e = .returned (.tuple #[.bool (cutW w0 a != cutW w0 b), .int .i64 0]) ∧ w = w' := by
  have A := hide (sgnU_back hw ha)
  have B := hide (sgnU_back hw hb)
  have UA := U_cut hw ha
  have UB := U_cut hw hb
  have HS := hide (p := ∀ v, sgnU w0 (cutW w0 v) = sgnU w0 v) (fun v => sgnU_cut)
  go_enter Try.func25, Try.ntmps25
  go_wp2_with (first | (go_at_call 34; refine (rlong_any _ _ hw).mono ?_; rintro e w' ⟨rfl, rfl⟩))
  refine (rcut_any a _ _ hw ha).mono ?_
  rintro e w' ⟨rfl, rfl⟩
  go_wp2_with fail
  refine (rcut_any b _ _ hw hb).mono ?_
  rintro e w' ⟨rfl, rfl⟩
  go_wp2_with fail
  refine (rsign_any _ _ _ hw UA).mono ?_
  rintro e w' ⟨rfl, rfl⟩
  rw [HS.out]
  go_wp2_with fail
  refine (rsign_any _ _ _ hw UB).mono ?_
  rintro e w' ⟨rfl, rfl⟩
  rw [HS.out]
  go_wp2
  go_ret2
  exact ⟨ret_bi (by first | rfl | (rw [A.out, B.out])), rfl⟩
set_option maxHeartbeats 1000000 in
theorem rcmp_2 (w0 a b : Int) (w : World) (hw : Wd w0) (ha : U a) (hb : U b) :
    Calls Try.prog 25 #[.int .i8 2, .int .i8 w0, .int .u64 a, .int .u64 b] w fun e w' => e = .returned (.tuple #[.bool (decide (cutW w0 b < cutW w0 a)), .int .i64 0]) ∧ w = w' := by
  have A := hide (sgnU_back hw ha)
  have B := hide (sgnU_back hw hb)
  have UA := U_cut hw ha
  have UB := U_cut hw hb
  have HS := hide (p := ∀ v, sgnU w0 (cutW w0 v) = sgnU w0 v) (fun v => sgnU_cut)
  go_enter Try.func25, Try.ntmps25
  go_wp2_with (first | (go_at_call 34; refine (rlong_any _ _ hw).mono ?_; rintro e w' ⟨rfl, rfl⟩))
  refine (rcut_any a _ _ hw ha).mono ?_
  rintro e w' ⟨rfl, rfl⟩
  go_wp2_with fail
  refine (rcut_any b _ _ hw hb).mono ?_
  rintro e w' ⟨rfl, rfl⟩
  go_wp2_with fail
  refine (rsign_any _ _ _ hw UA).mono ?_
  rintro e w' ⟨rfl, rfl⟩
  rw [HS.out]
  go_wp2_with fail
  refine (rsign_any _ _ _ hw UB).mono ?_
  rintro e w' ⟨rfl, rfl⟩
  rw [HS.out]
  go_wp2
  go_ret2
  exact ⟨ret_bi (by first | rfl | (rw [A.out, B.out])), rfl⟩
set_option maxHeartbeats 1000000 in
theorem rcmp_3 (w0 a b : Int) (w : World) (hw : Wd w0) (ha : U a) (hb : U b) :
    Calls Try.prog 25 #[.int .i8 3, .int .i8 w0, .int .u64 a, .int .u64 b] w fun e w' => e = .returned (.tuple #[.bool (decide (cutW w0 b ≤ cutW w0 a)), .int .i64 0]) ∧ w = w' := by
  have A := hide (sgnU_back hw ha)
  have B := hide (sgnU_back hw hb)
  have UA := U_cut hw ha
  have UB := U_cut hw hb
  have HS := hide (p := ∀ v, sgnU w0 (cutW w0 v) = sgnU w0 v) (fun v => sgnU_cut)
  go_enter Try.func25, Try.ntmps25
  go_wp2_with (first | (go_at_call 34; refine (rlong_any _ _ hw).mono ?_; rintro e w' ⟨rfl, rfl⟩))
  refine (rcut_any a _ _ hw ha).mono ?_
  rintro e w' ⟨rfl, rfl⟩
  go_wp2_with fail
  refine (rcut_any b _ _ hw hb).mono ?_
  rintro e w' ⟨rfl, rfl⟩
  go_wp2_with fail
  refine (rsign_any _ _ _ hw UA).mono ?_
  rintro e w' ⟨rfl, rfl⟩
  rw [HS.out]
  go_wp2_with fail
  refine (rsign_any _ _ _ hw UB).mono ?_
  rintro e w' ⟨rfl, rfl⟩
  rw [HS.out]
  go_wp2
  go_ret2
  exact ⟨ret_bi (by first | rfl | (rw [A.out, B.out])), rfl⟩
set_option maxHeartbeats 1000000 in
theorem rcmp_4 (w0 a b : Int) (w : World) (hw : Wd w0) (ha : U a) (hb : U b) :
    Calls Try.prog 25 #[.int .i8 4, .int .i8 w0, .int .u64 a, .int .u64 b] w fun e w' => e = .returned (.tuple #[.bool (decide (cutW w0 a < cutW w0 b)), .int .i64 0]) ∧ w = w' := by
  have A := hide (sgnU_back hw ha)
  have B := hide (sgnU_back hw hb)
  have UA := U_cut hw ha
  have UB := U_cut hw hb
  have HS := hide (p := ∀ v, sgnU w0 (cutW w0 v) = sgnU w0 v) (fun v => sgnU_cut)
  go_enter Try.func25, Try.ntmps25
  go_wp2_with (first | (go_at_call 34; refine (rlong_any _ _ hw).mono ?_; rintro e w' ⟨rfl, rfl⟩))
  refine (rcut_any a _ _ hw ha).mono ?_
  rintro e w' ⟨rfl, rfl⟩
  go_wp2_with fail
  refine (rcut_any b _ _ hw hb).mono ?_
  rintro e w' ⟨rfl, rfl⟩
  go_wp2_with fail
  refine (rsign_any _ _ _ hw UA).mono ?_
  rintro e w' ⟨rfl, rfl⟩
  rw [HS.out]
  go_wp2_with fail
  refine (rsign_any _ _ _ hw UB).mono ?_
  rintro e w' ⟨rfl, rfl⟩
  rw [HS.out]
  go_wp2
  go_ret2
  exact ⟨ret_bi (by first | rfl | (rw [A.out, B.out])), rfl⟩
set_option maxHeartbeats 1000000 in
theorem rcmp_5 (w0 a b : Int) (w : World) (hw : Wd w0) (ha : U a) (hb : U b) :
    Calls Try.prog 25 #[.int .i8 5, .int .i8 w0, .int .u64 a, .int .u64 b] w fun e w' => e = .returned (.tuple #[.bool (decide (cutW w0 a ≤ cutW w0 b)), .int .i64 0]) ∧ w = w' := by
  have A := hide (sgnU_back hw ha)
  have B := hide (sgnU_back hw hb)
  have UA := U_cut hw ha
  have UB := U_cut hw hb
  have HS := hide (p := ∀ v, sgnU w0 (cutW w0 v) = sgnU w0 v) (fun v => sgnU_cut)
  go_enter Try.func25, Try.ntmps25
  go_wp2_with (first | (go_at_call 34; refine (rlong_any _ _ hw).mono ?_; rintro e w' ⟨rfl, rfl⟩))
  refine (rcut_any a _ _ hw ha).mono ?_
  rintro e w' ⟨rfl, rfl⟩
  go_wp2_with fail
  refine (rcut_any b _ _ hw hb).mono ?_
  rintro e w' ⟨rfl, rfl⟩
  go_wp2_with fail
  refine (rsign_any _ _ _ hw UA).mono ?_
  rintro e w' ⟨rfl, rfl⟩
  rw [HS.out]
  go_wp2_with fail
  refine (rsign_any _ _ _ hw UB).mono ?_
  rintro e w' ⟨rfl, rfl⟩
  rw [HS.out]
  go_wp2
  go_ret2
  exact ⟨ret_bi (by first | rfl | (rw [A.out, B.out])), rfl⟩
set_option maxHeartbeats 1000000 in
theorem rcmp_6 (w0 a b : Int) (w : World) (hw : Wd w0) (ha : U a) (hb : U b) :
    Calls Try.prog 25 #[.int .i8 6, .int .i8 w0, .int .u64 a, .int .u64 b] w fun e w' => e = .returned (.tuple #[.bool (decide (sgn w0 b < sgn w0 a)), .int .i64 0]) ∧ w = w' := by
  have A := hide (sgnU_back hw ha)
  have B := hide (sgnU_back hw hb)
  have UA := U_cut hw ha
  have UB := U_cut hw hb
  have HS := hide (p := ∀ v, sgnU w0 (cutW w0 v) = sgnU w0 v) (fun v => sgnU_cut)
  go_enter Try.func25, Try.ntmps25
  go_wp2_with (first | (go_at_call 34; refine (rlong_any _ _ hw).mono ?_; rintro e w' ⟨rfl, rfl⟩))
  refine (rcut_any a _ _ hw ha).mono ?_
  rintro e w' ⟨rfl, rfl⟩
  go_wp2_with fail
  refine (rcut_any b _ _ hw hb).mono ?_
  rintro e w' ⟨rfl, rfl⟩
  go_wp2_with fail
  refine (rsign_any _ _ _ hw UA).mono ?_
  rintro e w' ⟨rfl, rfl⟩
  rw [HS.out]
  go_wp2_with fail
  refine (rsign_any _ _ _ hw UB).mono ?_
  rintro e w' ⟨rfl, rfl⟩
  rw [HS.out]
  go_wp2
  go_ret2
  exact ⟨ret_bi (by first | rfl | (rw [A.out, B.out])), rfl⟩
set_option maxHeartbeats 1000000 in
theorem rcmp_7 (w0 a b : Int) (w : World) (hw : Wd w0) (ha : U a) (hb : U b) :
    Calls Try.prog 25 #[.int .i8 7, .int .i8 w0, .int .u64 a, .int .u64 b] w fun e w' => e = .returned (.tuple #[.bool (decide (sgn w0 b ≤ sgn w0 a)), .int .i64 0]) ∧ w = w' := by
  have A := hide (sgnU_back hw ha)
  have B := hide (sgnU_back hw hb)
  have UA := U_cut hw ha
  have UB := U_cut hw hb
  have HS := hide (p := ∀ v, sgnU w0 (cutW w0 v) = sgnU w0 v) (fun v => sgnU_cut)
  go_enter Try.func25, Try.ntmps25
  go_wp2_with (first | (go_at_call 34; refine (rlong_any _ _ hw).mono ?_; rintro e w' ⟨rfl, rfl⟩))
  refine (rcut_any a _ _ hw ha).mono ?_
  rintro e w' ⟨rfl, rfl⟩
  go_wp2_with fail
  refine (rcut_any b _ _ hw hb).mono ?_
  rintro e w' ⟨rfl, rfl⟩
  go_wp2_with fail
  refine (rsign_any _ _ _ hw UA).mono ?_
  rintro e w' ⟨rfl, rfl⟩
  rw [HS.out]
  go_wp2_with fail
  refine (rsign_any _ _ _ hw UB).mono ?_
  rintro e w' ⟨rfl, rfl⟩
  rw [HS.out]
  go_wp2
  go_ret2
  exact ⟨ret_bi (by first | rfl | (rw [A.out, B.out])), rfl⟩
set_option maxHeartbeats 1000000 in
theorem rcmp_8 (w0 a b : Int) (w : World) (hw : Wd w0) (ha : U a) (hb : U b) :
    Calls Try.prog 25 #[.int .i8 8, .int .i8 w0, .int .u64 a, .int .u64 b] w fun e w' => e = .returned (.tuple #[.bool (decide (sgn w0 a < sgn w0 b)), .int .i64 0]) ∧ w = w' := by
  have A := hide (sgnU_back hw ha)
  have B := hide (sgnU_back hw hb)
  have UA := U_cut hw ha
  have UB := U_cut hw hb
  have HS := hide (p := ∀ v, sgnU w0 (cutW w0 v) = sgnU w0 v) (fun v => sgnU_cut)
  go_enter Try.func25, Try.ntmps25
  go_wp2_with (first | (go_at_call 34; refine (rlong_any _ _ hw).mono ?_; rintro e w' ⟨rfl, rfl⟩))
  refine (rcut_any a _ _ hw ha).mono ?_
  rintro e w' ⟨rfl, rfl⟩
  go_wp2_with fail
  refine (rcut_any b _ _ hw hb).mono ?_
  rintro e w' ⟨rfl, rfl⟩
  go_wp2_with fail
  refine (rsign_any _ _ _ hw UA).mono ?_
  rintro e w' ⟨rfl, rfl⟩
  rw [HS.out]
  go_wp2_with fail
  refine (rsign_any _ _ _ hw UB).mono ?_
  rintro e w' ⟨rfl, rfl⟩
  rw [HS.out]
  go_wp2
  go_ret2
  exact ⟨ret_bi (by first | rfl | (rw [A.out, B.out])), rfl⟩
set_option maxHeartbeats 1000000 in
theorem rcmp_9 (w0 a b : Int) (w : World) (hw : Wd w0) (ha : U a) (hb : U b) :
    Calls Try.prog 25 #[.int .i8 9, .int .i8 w0, .int .u64 a, .int .u64 b] w fun e w' => e = .returned (.tuple #[.bool (decide (sgn w0 a ≤ sgn w0 b)), .int .i64 0]) ∧ w = w' := by
  have A := hide (sgnU_back hw ha)
  have B := hide (sgnU_back hw hb)
  have UA := U_cut hw ha
  have UB := U_cut hw hb
  have HS := hide (p := ∀ v, sgnU w0 (cutW w0 v) = sgnU w0 v) (fun v => sgnU_cut)
  go_enter Try.func25, Try.ntmps25
  go_wp2_with (first | (go_at_call 34; refine (rlong_any _ _ hw).mono ?_; rintro e w' ⟨rfl, rfl⟩))
  refine (rcut_any a _ _ hw ha).mono ?_
  rintro e w' ⟨rfl, rfl⟩
  go_wp2_with fail
  refine (rcut_any b _ _ hw hb).mono ?_
  rintro e w' ⟨rfl, rfl⟩
  go_wp2_with fail
  refine (rsign_any _ _ _ hw UA).mono ?_
  rintro e w' ⟨rfl, rfl⟩
  rw [HS.out]
  go_wp2_with fail
  refine (rsign_any _ _ _ hw UB).mono ?_
  rintro e w' ⟨rfl, rfl⟩
  rw [HS.out]
  go_wp2
  go_ret2
  exact ⟨ret_bi (by first | rfl | (rw [A.out, B.out])), rfl⟩
end Go.Proofs.Ytejgpgkigcbflaa
