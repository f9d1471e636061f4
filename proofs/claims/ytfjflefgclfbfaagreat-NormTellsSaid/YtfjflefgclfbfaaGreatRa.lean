/-
  The document's bits: Width, Cut, long, Sign, Do, Holds. Conditions: those written in each statement.
-/
import Derived.Test.YtfjflefgclfbfaaGreatNc
import Derived.Test.YtfjflefgclfbfaaGreatNd
namespace Go.Proofs.YtfjflefgclfbfaaGreat
open Go.RowKit
set_option linter.unusedVariables false
set_option linter.unusedSimpArgs false
set_option maxRecDepth 100000
theorem rwidth_any (x : Int) (w : World) : Calls Tryz.prog 32 #[.int .i8 x] w fun e w' => e = .returned (.bool (wdB x)) ∧ w = w' := by
  cases h8 : (x == 8)
  · cases h16 : (x == 16)
    · cases h32 : (x == 32)
      · cases h64 : (x == 64)
        all_goals
          go_enter Tryz.func32, Tryz.ntmps32
          go_wp2
          go_ret
          exact ⟨by unfold wdB; simp [h8, h16, h32, h64], rfl⟩
      · go_enter Tryz.func32, Tryz.ntmps32
        go_wp2
        go_ret
        exact ⟨by unfold wdB; simp [h8, h16, h32], rfl⟩
    · go_enter Tryz.func32, Tryz.ntmps32
      go_wp2
      go_ret
      exact ⟨by unfold wdB; simp [h8, h16], rfl⟩
  · go_enter Tryz.func32, Tryz.ntmps32
    go_wp2
    go_ret
    exact ⟨by unfold wdB; simp [h8], rfl⟩
theorem rlong_any (x : Int) (w : World) : Calls Tryz.prog 102 #[.int .i8 x] w fun e w' => e = .returned (.bool (longB x)) ∧ w = w' := by
  cases h32 : (x == 32)
  · go_enter Tryz.func102, Tryz.ntmps102
    go_wp2
    go_ret
    exact ⟨by unfold longB; simp [h32], rfl⟩
  · go_enter Tryz.func102, Tryz.ntmps102
    go_wp2
    go_ret
    exact ⟨by unfold longB; simp [h32], rfl⟩
theorem wraps64 (n : Int) (h0 : 0 ≤ n) (h1 : n < 2 ^ 64) : IntKind.u64.wrap n = n := by rw [IntKind.wrap_u64]; omega
theorem mask_cut {v : Int} (hv : 0 ≤ v ∧ v < 18446744073709551616) : bits .and .u64 v 255 = v % 256 ∧ bits .and .u64 v 65535 = v % 65536 ∧ bits .and .u64 v 4294967295 = v % 4294967296 := by
  refine ⟨?_, ?_, ?_⟩
  · exact bits_mask .u64 64 (by decide) wraps64 8 (by decide) v hv.1 (by omega)
  · exact bits_mask .u64 64 (by decide) wraps64 16 (by decide) v hv.1 (by omega)
  · exact bits_mask .u64 64 (by decide) wraps64 32 (by decide) v hv.1 (by omega)
theorem rcut_any (v x : Int) (hv : U64 v) (w : World) : Calls Tryz.prog 78 #[.int .u64 v, .int .i8 x] w fun e w' => e = .returned (.int .u64 (cutV x v)) ∧ w = w' := by
  have hm := hide (mask_cut hv)
  clear hv
  cases h8 : (x == 8)
  rotate_left
  · obtain rfl : x = 8 := by simpa using h8
    go_enter Tryz.func78, Tryz.ntmps78
    go_wp2_with fail
    refine (rwidth_any _ _).mono ?_
    rintro e w' ⟨rfl, rfl⟩
    go_wp2
    go_ret
    exact ⟨ret_i (by have := hm.out; unfold cutV; simp; omega), rfl⟩
  cases h16 : (x == 16)
  rotate_left
  · obtain rfl : x = 16 := by simpa using h16
    go_enter Tryz.func78, Tryz.ntmps78
    go_wp2_with fail
    refine (rwidth_any _ _).mono ?_
    rintro e w' ⟨rfl, rfl⟩
    go_wp2
    go_ret
    exact ⟨ret_i (by have := hm.out; unfold cutV; simp; omega), rfl⟩
  cases h32 : (x == 32)
  rotate_left
  · obtain rfl : x = 32 := by simpa using h32
    go_enter Tryz.func78, Tryz.ntmps78
    go_wp2_with fail
    refine (rwidth_any _ _).mono ?_
    rintro e w' ⟨rfl, rfl⟩
    go_wp2
    go_ret
    exact ⟨ret_i (by have := hm.out; unfold cutV; simp; omega), rfl⟩
  cases h64 : (x == 64)
  rotate_left
  · obtain rfl : x = 64 := by simpa using h64
    go_enter Tryz.func78, Tryz.ntmps78
    go_wp2_with fail
    refine (rwidth_any _ _).mono ?_
    rintro e w' ⟨rfl, rfl⟩
    go_wp2
    go_ret
    exact ⟨rfl, rfl⟩
  have hw : wdB x = false := by unfold wdB; simp [h8, h16, h32, h64]
  have e : cutV x v = v := by simp at h8 h16 h32; unfold cutV; simp [h8, h16, h32]
  rw [e]
  clear e
  go_enter Tryz.func78, Tryz.ntmps78
  go_wp2_with fail
  refine (rwidth_any _ _).mono ?_
  rintro e w' ⟨rfl, rfl⟩
  rw [hw]
  go_wp2
  go_ret
  exact ⟨rfl, rfl⟩
theorem rsign_any {x : Int} (v : Int) (hx : x = 32 ∨ x = 64) (hv : U64 v) (w : World) : Calls Tryz.prog 103 #[.int .u64 v, .int .i8 x] w fun e w' => e = .returned (.int .u64 (signU x v)) ∧ w = w' := by
  have hc := cutV_bd (x := x) hv
  rcases hx with rfl | rfl
  · have hv2 : cutV 32 v = v % 4294967296 := by unfold cutV; simp
    have HVU := hide hv
    have hb : bits .and .u64 (cutV 32 v / 2147483648) 1 = cutV 32 v / 2147483648 % 2 := bits_mask .u64 64 (by decide) wraps64 1 (by decide) _ (by omega) (by omega)
    cases hs : (cutV 32 v / 2147483648 % 2 == 1)
    · have hs' : ¬ cutV 32 v / 2147483648 % 2 = 1 := by simpa using hs
      have HC := hide hc
      have HS := hide hs'
      have HV2 := hide hv2
      clear hc hv hv2
      go_enter Tryz.func103, Tryz.ntmps103
      go_wp2_with fail
      refine (rwidth_any _ _).mono ?_
      rintro e w' ⟨rfl, rfl⟩
      go_wp2_with fail
      refine (rcut_any _ _ HVU.out _).mono ?_
      rintro e w' ⟨rfl, rfl⟩
      go_wp2
      go_ret
      exact ⟨ret_i (by
        have h1 := HC.out; have h2 := HS.out; have h3 := HV2.out
        unfold signU wrap64
        simp [IntKind.wrap_u64, IntKind.wrap_i32, wrap32]
        omega), rfl⟩
    · have hs' : cutV 32 v / 2147483648 % 2 = 1 := by simpa using hs
      have HC := hide hc
      have HS := hide hs'
      have HV2 := hide hv2
      clear hc hv hv2
      go_enter Tryz.func103, Tryz.ntmps103
      go_wp2_with fail
      refine (rwidth_any _ _).mono ?_
      rintro e w' ⟨rfl, rfl⟩
      go_wp2_with fail
      refine (rcut_any _ _ HVU.out _).mono ?_
      rintro e w' ⟨rfl, rfl⟩
      go_wp2
      go_ret
      exact ⟨ret_i (by
        have h1 := HC.out; have h2 := HS.out; have h3 := HV2.out
        unfold signU wrap64
        simp [IntKind.wrap_u64, IntKind.wrap_i32, wrap32]
        omega), rfl⟩
  · have HVU := hide hv
    have hc64 : cutV 64 v = v := by unfold cutV; simp
    have hsg : signU 64 v = v := by unfold signU; simp
    have hb : bits .and .u64 (v / 9223372036854775808) 1 = v / 9223372036854775808 % 2 := bits_mask .u64 64 (by decide) wraps64 1 (by decide) _ (by unfold U64 at hv; omega) (by unfold U64 at hv; omega)
    rw [hsg]
    cases hs : (v / 9223372036854775808 % 2 == 1)
    all_goals
      go_enter Tryz.func103, Tryz.ntmps103
      go_wp2_with fail
      refine (rwidth_any _ _).mono ?_
      rintro e w' ⟨rfl, rfl⟩
      go_wp2_with fail
      refine (rcut_any _ _ HVU.out _).mono ?_
      rintro e w' ⟨rfl, rfl⟩
      rw [hc64]
      go_wp2
      go_ret
      exact ⟨rfl, rfl⟩
theorem rw_u64 (n : Int) : U64 (IntKind.u64.wrap n) := by unfold U64; rw [IntKind.wrap_u64]; omega
theorem rb_u64 (o : BinOp) (a b : Int) : U64 (bits o .u64 a b) := by
  have h := bits_within o .u64 a b
  have h1 : IntKind.u64.min = 0 := rfl
  have h2 : IntKind.u64.max = 18446744073709551615 := rfl
  unfold U64
  rw [h1, h2] at h
  omega
theorem rc_u64 {x v : Int} (h : U64 v) : U64 (cutV x v) := by
  have := cutV_bd (x := x) h
  unfold U64
  omega
theorem rs_u64 {a : Int} (y : Int) (ha : U64 a) : U64 (a / 2 ^ y.toNat) := by
  unfold U64 at *
  have h1 : (0 : Int) < 2 ^ y.toNat := Int.pow_pos (by omega)
  exact ⟨Int.ediv_nonneg ha.1 (by omega), Int.lt_of_le_of_lt (Int.ediv_le_self _ ha.1) ha.2⟩
theorem rm_u64 {a b : Int} (ha : U64 a) (hb : U64 b) (h0 : 0 < b) : U64 (a.tmod b) := by
  unfold U64 at *
  rw [Int.tmod_eq_emod_of_nonneg ha.1]
  have := Int.emod_lt_of_pos a h0
  exact ⟨Int.emod_nonneg _ (by omega), by omega⟩
theorem ret_t {a b k : Int} (h : a = b) : Ending.returned (.tuple #[.int .u64 a, .int .i64 k]) = .returned (.tuple #[.int .u64 b, .int .i64 k]) := by rw [h]
theorem rdo_0_32 (a b : Int) (hA : U64 a) (hB : U64 b) (w : World) : Calls Tryz.prog 74 #[.int .i8 0, .int .i8 32, .int .u64 a, .int .u64 b] w fun e w' => e = .returned (.tuple #[.int .u64 (doU 0 32 a b), .int .i64 0]) ∧ w = w' := by
  have HA := hide hA
  have HB := hide hB
  have HCA := hide (rc_u64 (x := 32) hA)
  have HCB := hide (rc_u64 (x := 32) hB)
  have hyb := byV_bd (x := 32) (by omega) hB
  obtain ⟨y, hy⟩ : ∃ y, bits .and .u64 (cutV 32 b) 31 = y := ⟨_, rfl⟩
  have HBY := hide (show y = byV 32 b from hy.symm)
  rw [← HBY.out] at hyb
  obtain ⟨hy0, hy1⟩ := hyb
  clear hA hB
  go_enter Tryz.func74, Tryz.ntmps74
  go_wp2_with fail
  refine (rlong_any _ _).mono ?_
  rintro e w' ⟨rfl, rfl⟩
  go_wp2_with fail
  refine (rcut_any a 32 HA.out _).mono ?_
  rintro e w' ⟨rfl, rfl⟩
  go_wp2_with fail
  refine (rcut_any b 32 HB.out _).mono ?_
  rintro e w' ⟨rfl, rfl⟩
  go_wp2_with fail
  refine (rcut_any _ 32 (rw_u64 _) _).mono ?_
  rintro e w' ⟨rfl, rfl⟩
  go_wp2
  go_ret2
  exact ⟨ret_t (by unfold doU; rw [← HBY.out]; rfl), rfl⟩
theorem rdo_0_64 (a b : Int) (hA : U64 a) (hB : U64 b) (w : World) : Calls Tryz.prog 74 #[.int .i8 0, .int .i8 64, .int .u64 a, .int .u64 b] w fun e w' => e = .returned (.tuple #[.int .u64 (doU 0 64 a b), .int .i64 0]) ∧ w = w' := by
  have HA := hide hA
  have HB := hide hB
  have HCA := hide (rc_u64 (x := 64) hA)
  have HCB := hide (rc_u64 (x := 64) hB)
  have hyb := byV_bd (x := 64) (by omega) hB
  obtain ⟨y, hy⟩ : ∃ y, bits .and .u64 (cutV 64 b) 63 = y := ⟨_, rfl⟩
  have HBY := hide (show y = byV 64 b from hy.symm)
  rw [← HBY.out] at hyb
  obtain ⟨hy0, hy1⟩ := hyb
  clear hA hB
  go_enter Tryz.func74, Tryz.ntmps74
  go_wp2_with fail
  refine (rlong_any _ _).mono ?_
  rintro e w' ⟨rfl, rfl⟩
  go_wp2_with fail
  refine (rcut_any a 64 HA.out _).mono ?_
  rintro e w' ⟨rfl, rfl⟩
  go_wp2_with fail
  refine (rcut_any b 64 HB.out _).mono ?_
  rintro e w' ⟨rfl, rfl⟩
  go_wp2_with fail
  refine (rcut_any _ 64 (rw_u64 _) _).mono ?_
  rintro e w' ⟨rfl, rfl⟩
  go_wp2
  go_ret2
  exact ⟨ret_t (by unfold doU; rw [← HBY.out]; rfl), rfl⟩
theorem rdo_1_32 (a b : Int) (hA : U64 a) (hB : U64 b) (w : World) : Calls Tryz.prog 74 #[.int .i8 1, .int .i8 32, .int .u64 a, .int .u64 b] w fun e w' => e = .returned (.tuple #[.int .u64 (doU 1 32 a b), .int .i64 0]) ∧ w = w' := by
  have HA := hide hA
  have HB := hide hB
  have HCA := hide (rc_u64 (x := 32) hA)
  have HCB := hide (rc_u64 (x := 32) hB)
  have hyb := byV_bd (x := 32) (by omega) hB
  obtain ⟨y, hy⟩ : ∃ y, bits .and .u64 (cutV 32 b) 31 = y := ⟨_, rfl⟩
  have HBY := hide (show y = byV 32 b from hy.symm)
  rw [← HBY.out] at hyb
  obtain ⟨hy0, hy1⟩ := hyb
  clear hA hB
  go_enter Tryz.func74, Tryz.ntmps74
  go_wp2_with fail
  refine (rlong_any _ _).mono ?_
  rintro e w' ⟨rfl, rfl⟩
  go_wp2_with fail
  refine (rcut_any a 32 HA.out _).mono ?_
  rintro e w' ⟨rfl, rfl⟩
  go_wp2_with fail
  refine (rcut_any b 32 HB.out _).mono ?_
  rintro e w' ⟨rfl, rfl⟩
  go_wp2_with fail
  refine (rcut_any _ 32 (rw_u64 _) _).mono ?_
  rintro e w' ⟨rfl, rfl⟩
  go_wp2
  go_ret2
  exact ⟨ret_t (by unfold doU; rw [← HBY.out]; rfl), rfl⟩
theorem rdo_1_64 (a b : Int) (hA : U64 a) (hB : U64 b) (w : World) : Calls Tryz.prog 74 #[.int .i8 1, .int .i8 64, .int .u64 a, .int .u64 b] w fun e w' => e = .returned (.tuple #[.int .u64 (doU 1 64 a b), .int .i64 0]) ∧ w = w' := by
  have HA := hide hA
  have HB := hide hB
  have HCA := hide (rc_u64 (x := 64) hA)
  have HCB := hide (rc_u64 (x := 64) hB)
  have hyb := byV_bd (x := 64) (by omega) hB
  obtain ⟨y, hy⟩ : ∃ y, bits .and .u64 (cutV 64 b) 63 = y := ⟨_, rfl⟩
  have HBY := hide (show y = byV 64 b from hy.symm)
  rw [← HBY.out] at hyb
  obtain ⟨hy0, hy1⟩ := hyb
  clear hA hB
  go_enter Tryz.func74, Tryz.ntmps74
  go_wp2_with fail
  refine (rlong_any _ _).mono ?_
  rintro e w' ⟨rfl, rfl⟩
  go_wp2_with fail
  refine (rcut_any a 64 HA.out _).mono ?_
  rintro e w' ⟨rfl, rfl⟩
  go_wp2_with fail
  refine (rcut_any b 64 HB.out _).mono ?_
  rintro e w' ⟨rfl, rfl⟩
  go_wp2_with fail
  refine (rcut_any _ 64 (rw_u64 _) _).mono ?_
  rintro e w' ⟨rfl, rfl⟩
  go_wp2
  go_ret2
  exact ⟨ret_t (by unfold doU; rw [← HBY.out]; rfl), rfl⟩
theorem rdo_2_32 (a b : Int) (hA : U64 a) (hB : U64 b) (w : World) : Calls Tryz.prog 74 #[.int .i8 2, .int .i8 32, .int .u64 a, .int .u64 b] w fun e w' => e = .returned (.tuple #[.int .u64 (doU 2 32 a b), .int .i64 0]) ∧ w = w' := by
  have HA := hide hA
  have HB := hide hB
  have HCA := hide (rc_u64 (x := 32) hA)
  have HCB := hide (rc_u64 (x := 32) hB)
  have hyb := byV_bd (x := 32) (by omega) hB
  obtain ⟨y, hy⟩ : ∃ y, bits .and .u64 (cutV 32 b) 31 = y := ⟨_, rfl⟩
  have HBY := hide (show y = byV 32 b from hy.symm)
  rw [← HBY.out] at hyb
  obtain ⟨hy0, hy1⟩ := hyb
  clear hA hB
  go_enter Tryz.func74, Tryz.ntmps74
  go_wp2_with fail
  refine (rlong_any _ _).mono ?_
  rintro e w' ⟨rfl, rfl⟩
  go_wp2_with fail
  refine (rcut_any a 32 HA.out _).mono ?_
  rintro e w' ⟨rfl, rfl⟩
  go_wp2_with fail
  refine (rcut_any b 32 HB.out _).mono ?_
  rintro e w' ⟨rfl, rfl⟩
  go_wp2_with fail
  refine (rcut_any _ 32 (rw_u64 _) _).mono ?_
  rintro e w' ⟨rfl, rfl⟩
  go_wp2
  go_ret2
  exact ⟨ret_t (by unfold doU; rw [← HBY.out]; rfl), rfl⟩
theorem rdo_2_64 (a b : Int) (hA : U64 a) (hB : U64 b) (w : World) : Calls Tryz.prog 74 #[.int .i8 2, .int .i8 64, .int .u64 a, .int .u64 b] w fun e w' => e = .returned (.tuple #[.int .u64 (doU 2 64 a b), .int .i64 0]) ∧ w = w' := by
  have HA := hide hA
  have HB := hide hB
  have HCA := hide (rc_u64 (x := 64) hA)
  have HCB := hide (rc_u64 (x := 64) hB)
  have hyb := byV_bd (x := 64) (by omega) hB
  obtain ⟨y, hy⟩ : ∃ y, bits .and .u64 (cutV 64 b) 63 = y := ⟨_, rfl⟩
  have HBY := hide (show y = byV 64 b from hy.symm)
  rw [← HBY.out] at hyb
  obtain ⟨hy0, hy1⟩ := hyb
  clear hA hB
  go_enter Tryz.func74, Tryz.ntmps74
  go_wp2_with fail
  refine (rlong_any _ _).mono ?_
  rintro e w' ⟨rfl, rfl⟩
  go_wp2_with fail
  refine (rcut_any a 64 HA.out _).mono ?_
  rintro e w' ⟨rfl, rfl⟩
  go_wp2_with fail
  refine (rcut_any b 64 HB.out _).mono ?_
  rintro e w' ⟨rfl, rfl⟩
  go_wp2_with fail
  refine (rcut_any _ 64 (rw_u64 _) _).mono ?_
  rintro e w' ⟨rfl, rfl⟩
  go_wp2
  go_ret2
  exact ⟨ret_t (by unfold doU; rw [← HBY.out]; rfl), rfl⟩
theorem rdo_3_32 (a b : Int) (hA : U64 a) (hB : U64 b) (w : World) : Calls Tryz.prog 74 #[.int .i8 3, .int .i8 32, .int .u64 a, .int .u64 b] w fun e w' => e = .returned (.tuple #[.int .u64 (doU 3 32 a b), .int .i64 0]) ∧ w = w' := by
  have HA := hide hA
  have HB := hide hB
  have HCA := hide (rc_u64 (x := 32) hA)
  have HCB := hide (rc_u64 (x := 32) hB)
  have hyb := byV_bd (x := 32) (by omega) hB
  obtain ⟨y, hy⟩ : ∃ y, bits .and .u64 (cutV 32 b) 31 = y := ⟨_, rfl⟩
  have HBY := hide (show y = byV 32 b from hy.symm)
  rw [← HBY.out] at hyb
  obtain ⟨hy0, hy1⟩ := hyb
  clear hA hB
  cases hz : decide (0 < cutV 32 b)
  · have HZ := hide (show cutV 32 b = 0 by have := HCB.out; unfold U64 at this; simp at hz; omega)
    go_enter Tryz.func74, Tryz.ntmps74
    go_wp2_with fail
    refine (rlong_any _ _).mono ?_
    rintro e w' ⟨rfl, rfl⟩
    go_wp2_with fail
    refine (rcut_any a 32 HA.out _).mono ?_
    rintro e w' ⟨rfl, rfl⟩
    go_wp2_with fail
    refine (rcut_any b 32 HB.out _).mono ?_
    rintro e w' ⟨rfl, rfl⟩
    go_wp2_with fail
    refine (rcut_any _ 32 (by unfold U64; omega) _).mono ?_
    rintro e w' ⟨rfl, rfl⟩
    go_wp2
    go_ret2
    exact ⟨ret_t (by unfold doU doV; rw [HZ.out]; simp), rfl⟩
  · have HZ := hide (show 0 < cutV 32 b by simpa using hz)
    have hz0 : ¬ cutV 32 b = 0 := by have := HZ.out; omega
    go_enter Tryz.func74, Tryz.ntmps74
    go_wp2_with fail
    refine (rlong_any _ _).mono ?_
    rintro e w' ⟨rfl, rfl⟩
    go_wp2_with fail
    refine (rcut_any a 32 HA.out _).mono ?_
    rintro e w' ⟨rfl, rfl⟩
    go_wp2_with fail
    refine (rcut_any b 32 HB.out _).mono ?_
    rintro e w' ⟨rfl, rfl⟩
    go_wp2_with fail
    refine (rcut_any _ 32 (rw_u64 _) _).mono ?_
    rintro e w' ⟨rfl, rfl⟩
    go_wp2
    go_ret2
    exact ⟨ret_t (by have h := HZ.out; have h2 : ¬ cutV 32 b = 0 := (by omega); unfold doU doV; simp [h2]), rfl⟩
theorem rdo_3_64 (a b : Int) (hA : U64 a) (hB : U64 b) (w : World) : Calls Tryz.prog 74 #[.int .i8 3, .int .i8 64, .int .u64 a, .int .u64 b] w fun e w' => e = .returned (.tuple #[.int .u64 (doU 3 64 a b), .int .i64 0]) ∧ w = w' := by
  have HA := hide hA
  have HB := hide hB
  have HCA := hide (rc_u64 (x := 64) hA)
  have HCB := hide (rc_u64 (x := 64) hB)
  have hyb := byV_bd (x := 64) (by omega) hB
  obtain ⟨y, hy⟩ : ∃ y, bits .and .u64 (cutV 64 b) 63 = y := ⟨_, rfl⟩
  have HBY := hide (show y = byV 64 b from hy.symm)
  rw [← HBY.out] at hyb
  obtain ⟨hy0, hy1⟩ := hyb
  clear hA hB
  cases hz : decide (0 < cutV 64 b)
  · have HZ := hide (show cutV 64 b = 0 by have := HCB.out; unfold U64 at this; simp at hz; omega)
    go_enter Tryz.func74, Tryz.ntmps74
    go_wp2_with fail
    refine (rlong_any _ _).mono ?_
    rintro e w' ⟨rfl, rfl⟩
    go_wp2_with fail
    refine (rcut_any a 64 HA.out _).mono ?_
    rintro e w' ⟨rfl, rfl⟩
    go_wp2_with fail
    refine (rcut_any b 64 HB.out _).mono ?_
    rintro e w' ⟨rfl, rfl⟩
    go_wp2_with fail
    refine (rcut_any _ 64 (by unfold U64; omega) _).mono ?_
    rintro e w' ⟨rfl, rfl⟩
    go_wp2
    go_ret2
    exact ⟨ret_t (by unfold doU doV; rw [HZ.out]; simp), rfl⟩
  · have HZ := hide (show 0 < cutV 64 b by simpa using hz)
    have hz0 : ¬ cutV 64 b = 0 := by have := HZ.out; omega
    go_enter Tryz.func74, Tryz.ntmps74
    go_wp2_with fail
    refine (rlong_any _ _).mono ?_
    rintro e w' ⟨rfl, rfl⟩
    go_wp2_with fail
    refine (rcut_any a 64 HA.out _).mono ?_
    rintro e w' ⟨rfl, rfl⟩
    go_wp2_with fail
    refine (rcut_any b 64 HB.out _).mono ?_
    rintro e w' ⟨rfl, rfl⟩
    go_wp2_with fail
    refine (rcut_any _ 64 (rw_u64 _) _).mono ?_
    rintro e w' ⟨rfl, rfl⟩
    go_wp2
    go_ret2
    exact ⟨ret_t (by have h := HZ.out; have h2 : ¬ cutV 64 b = 0 := (by omega); unfold doU doV; simp [h2]), rfl⟩
theorem rdo_4_32 (a b : Int) (hA : U64 a) (hB : U64 b) (w : World) : Calls Tryz.prog 74 #[.int .i8 4, .int .i8 32, .int .u64 a, .int .u64 b] w fun e w' => e = .returned (.tuple #[.int .u64 (doU 4 32 a b), .int .i64 0]) ∧ w = w' := by
  have HA := hide hA
  have HB := hide hB
  have HCA := hide (rc_u64 (x := 32) hA)
  have HCB := hide (rc_u64 (x := 32) hB)
  have hyb := byV_bd (x := 32) (by omega) hB
  obtain ⟨y, hy⟩ : ∃ y, bits .and .u64 (cutV 32 b) 31 = y := ⟨_, rfl⟩
  have HBY := hide (show y = byV 32 b from hy.symm)
  rw [← HBY.out] at hyb
  obtain ⟨hy0, hy1⟩ := hyb
  clear hA hB
  go_enter Tryz.func74, Tryz.ntmps74
  go_wp2_with fail
  refine (rlong_any _ _).mono ?_
  rintro e w' ⟨rfl, rfl⟩
  go_wp2_with fail
  refine (rcut_any a 32 HA.out _).mono ?_
  rintro e w' ⟨rfl, rfl⟩
  go_wp2_with fail
  refine (rcut_any b 32 HB.out _).mono ?_
  rintro e w' ⟨rfl, rfl⟩
  go_wp2_with fail
  refine (rcut_any _ 32 (rb_u64 _ _ _) _).mono ?_
  rintro e w' ⟨rfl, rfl⟩
  go_wp2
  go_ret2
  exact ⟨ret_t (by unfold doU; rw [← HBY.out]; rfl), rfl⟩
theorem rdo_4_64 (a b : Int) (hA : U64 a) (hB : U64 b) (w : World) : Calls Tryz.prog 74 #[.int .i8 4, .int .i8 64, .int .u64 a, .int .u64 b] w fun e w' => e = .returned (.tuple #[.int .u64 (doU 4 64 a b), .int .i64 0]) ∧ w = w' := by
  have HA := hide hA
  have HB := hide hB
  have HCA := hide (rc_u64 (x := 64) hA)
  have HCB := hide (rc_u64 (x := 64) hB)
  have hyb := byV_bd (x := 64) (by omega) hB
  obtain ⟨y, hy⟩ : ∃ y, bits .and .u64 (cutV 64 b) 63 = y := ⟨_, rfl⟩
  have HBY := hide (show y = byV 64 b from hy.symm)
  rw [← HBY.out] at hyb
  obtain ⟨hy0, hy1⟩ := hyb
  clear hA hB
  go_enter Tryz.func74, Tryz.ntmps74
  go_wp2_with fail
  refine (rlong_any _ _).mono ?_
  rintro e w' ⟨rfl, rfl⟩
  go_wp2_with fail
  refine (rcut_any a 64 HA.out _).mono ?_
  rintro e w' ⟨rfl, rfl⟩
  go_wp2_with fail
  refine (rcut_any b 64 HB.out _).mono ?_
  rintro e w' ⟨rfl, rfl⟩
  go_wp2_with fail
  refine (rcut_any _ 64 (rb_u64 _ _ _) _).mono ?_
  rintro e w' ⟨rfl, rfl⟩
  go_wp2
  go_ret2
  exact ⟨ret_t (by unfold doU; rw [← HBY.out]; rfl), rfl⟩
theorem rdo_5_32 (a b : Int) (hA : U64 a) (hB : U64 b) (w : World) : Calls Tryz.prog 74 #[.int .i8 5, .int .i8 32, .int .u64 a, .int .u64 b] w fun e w' => e = .returned (.tuple #[.int .u64 (doU 5 32 a b), .int .i64 0]) ∧ w = w' := by
  have HA := hide hA
  have HB := hide hB
  have HCA := hide (rc_u64 (x := 32) hA)
  have HCB := hide (rc_u64 (x := 32) hB)
  have hyb := byV_bd (x := 32) (by omega) hB
  obtain ⟨y, hy⟩ : ∃ y, bits .and .u64 (cutV 32 b) 31 = y := ⟨_, rfl⟩
  have HBY := hide (show y = byV 32 b from hy.symm)
  rw [← HBY.out] at hyb
  obtain ⟨hy0, hy1⟩ := hyb
  clear hA hB
  go_enter Tryz.func74, Tryz.ntmps74
  go_wp2_with fail
  refine (rlong_any _ _).mono ?_
  rintro e w' ⟨rfl, rfl⟩
  go_wp2_with fail
  refine (rcut_any a 32 HA.out _).mono ?_
  rintro e w' ⟨rfl, rfl⟩
  go_wp2_with fail
  refine (rcut_any b 32 HB.out _).mono ?_
  rintro e w' ⟨rfl, rfl⟩
  go_wp2_with fail
  refine (rcut_any _ 32 (rb_u64 _ _ _) _).mono ?_
  rintro e w' ⟨rfl, rfl⟩
  go_wp2
  go_ret2
  exact ⟨ret_t (by unfold doU; rw [← HBY.out]; rfl), rfl⟩
theorem rdo_5_64 (a b : Int) (hA : U64 a) (hB : U64 b) (w : World) : Calls Tryz.prog 74 #[.int .i8 5, .int .i8 64, .int .u64 a, .int .u64 b] w fun e w' => e = .returned (.tuple #[.int .u64 (doU 5 64 a b), .int .i64 0]) ∧ w = w' := by
  have HA := hide hA
  have HB := hide hB
  have HCA := hide (rc_u64 (x := 64) hA)
  have HCB := hide (rc_u64 (x := 64) hB)
  have hyb := byV_bd (x := 64) (by omega) hB
  obtain ⟨y, hy⟩ : ∃ y, bits .and .u64 (cutV 64 b) 63 = y := ⟨_, rfl⟩
  have HBY := hide (show y = byV 64 b from hy.symm)
  rw [← HBY.out] at hyb
  obtain ⟨hy0, hy1⟩ := hyb
  clear hA hB
  go_enter Tryz.func74, Tryz.ntmps74
  go_wp2_with fail
  refine (rlong_any _ _).mono ?_
  rintro e w' ⟨rfl, rfl⟩
  go_wp2_with fail
  refine (rcut_any a 64 HA.out _).mono ?_
  rintro e w' ⟨rfl, rfl⟩
  go_wp2_with fail
  refine (rcut_any b 64 HB.out _).mono ?_
  rintro e w' ⟨rfl, rfl⟩
  go_wp2_with fail
  refine (rcut_any _ 64 (rb_u64 _ _ _) _).mono ?_
  rintro e w' ⟨rfl, rfl⟩
  go_wp2
  go_ret2
  exact ⟨ret_t (by unfold doU; rw [← HBY.out]; rfl), rfl⟩
theorem rdo_6_32 (a b : Int) (hA : U64 a) (hB : U64 b) (w : World) : Calls Tryz.prog 74 #[.int .i8 6, .int .i8 32, .int .u64 a, .int .u64 b] w fun e w' => e = .returned (.tuple #[.int .u64 (doU 6 32 a b), .int .i64 0]) ∧ w = w' := by
  have HA := hide hA
  have HB := hide hB
  have HCA := hide (rc_u64 (x := 32) hA)
  have HCB := hide (rc_u64 (x := 32) hB)
  have hyb := byV_bd (x := 32) (by omega) hB
  obtain ⟨y, hy⟩ : ∃ y, bits .and .u64 (cutV 32 b) 31 = y := ⟨_, rfl⟩
  have HBY := hide (show y = byV 32 b from hy.symm)
  rw [← HBY.out] at hyb
  obtain ⟨hy0, hy1⟩ := hyb
  clear hA hB
  go_enter Tryz.func74, Tryz.ntmps74
  go_wp2_with fail
  refine (rlong_any _ _).mono ?_
  rintro e w' ⟨rfl, rfl⟩
  go_wp2_with fail
  refine (rcut_any a 32 HA.out _).mono ?_
  rintro e w' ⟨rfl, rfl⟩
  go_wp2_with fail
  refine (rcut_any b 32 HB.out _).mono ?_
  rintro e w' ⟨rfl, rfl⟩
  go_wp2_with fail
  refine (rcut_any _ 32 (rw_u64 _) _).mono ?_
  rintro e w' ⟨rfl, rfl⟩
  go_wp2
  go_ret2
  exact ⟨ret_t (by unfold doU; rw [← HBY.out]; rfl), rfl⟩
theorem rdo_6_64 (a b : Int) (hA : U64 a) (hB : U64 b) (w : World) : Calls Tryz.prog 74 #[.int .i8 6, .int .i8 64, .int .u64 a, .int .u64 b] w fun e w' => e = .returned (.tuple #[.int .u64 (doU 6 64 a b), .int .i64 0]) ∧ w = w' := by
  have HA := hide hA
  have HB := hide hB
  have HCA := hide (rc_u64 (x := 64) hA)
  have HCB := hide (rc_u64 (x := 64) hB)
  have hyb := byV_bd (x := 64) (by omega) hB
  obtain ⟨y, hy⟩ : ∃ y, bits .and .u64 (cutV 64 b) 63 = y := ⟨_, rfl⟩
  have HBY := hide (show y = byV 64 b from hy.symm)
  rw [← HBY.out] at hyb
  obtain ⟨hy0, hy1⟩ := hyb
  clear hA hB
  go_enter Tryz.func74, Tryz.ntmps74
  go_wp2_with fail
  refine (rlong_any _ _).mono ?_
  rintro e w' ⟨rfl, rfl⟩
  go_wp2_with fail
  refine (rcut_any a 64 HA.out _).mono ?_
  rintro e w' ⟨rfl, rfl⟩
  go_wp2_with fail
  refine (rcut_any b 64 HB.out _).mono ?_
  rintro e w' ⟨rfl, rfl⟩
  go_wp2_with fail
  refine (rcut_any _ 64 (rw_u64 _) _).mono ?_
  rintro e w' ⟨rfl, rfl⟩
  go_wp2
  go_ret2
  exact ⟨ret_t (by unfold doU; rw [← HBY.out]; rfl), rfl⟩
theorem rdo_7_32 (a b : Int) (hA : U64 a) (hB : U64 b) (w : World) : Calls Tryz.prog 74 #[.int .i8 7, .int .i8 32, .int .u64 a, .int .u64 b] w fun e w' => e = .returned (.tuple #[.int .u64 (doU 7 32 a b), .int .i64 0]) ∧ w = w' := by
  have HA := hide hA
  have HB := hide hB
  have HCA := hide (rc_u64 (x := 32) hA)
  have HCB := hide (rc_u64 (x := 32) hB)
  have hyb := byV_bd (x := 32) (by omega) hB
  obtain ⟨y, hy⟩ : ∃ y, bits .and .u64 (cutV 32 b) 31 = y := ⟨_, rfl⟩
  have HBY := hide (show y = byV 32 b from hy.symm)
  rw [← HBY.out] at hyb
  obtain ⟨hy0, hy1⟩ := hyb
  clear hA hB
  go_enter Tryz.func74, Tryz.ntmps74
  go_wp2_with fail
  refine (rlong_any _ _).mono ?_
  rintro e w' ⟨rfl, rfl⟩
  go_wp2_with fail
  refine (rcut_any a 32 HA.out _).mono ?_
  rintro e w' ⟨rfl, rfl⟩
  go_wp2_with fail
  refine (rcut_any b 32 HB.out _).mono ?_
  rintro e w' ⟨rfl, rfl⟩
  go_wp2_with fail
  refine (rcut_any _ 32 (rs_u64 _ HCA.out) _).mono ?_
  rintro e w' ⟨rfl, rfl⟩
  go_wp2
  go_ret2
  exact ⟨ret_t (by unfold doU; rw [← HBY.out]; rfl), rfl⟩
theorem rdo_7_64 (a b : Int) (hA : U64 a) (hB : U64 b) (w : World) : Calls Tryz.prog 74 #[.int .i8 7, .int .i8 64, .int .u64 a, .int .u64 b] w fun e w' => e = .returned (.tuple #[.int .u64 (doU 7 64 a b), .int .i64 0]) ∧ w = w' := by
  have HA := hide hA
  have HB := hide hB
  have HCA := hide (rc_u64 (x := 64) hA)
  have HCB := hide (rc_u64 (x := 64) hB)
  have hyb := byV_bd (x := 64) (by omega) hB
  obtain ⟨y, hy⟩ : ∃ y, bits .and .u64 (cutV 64 b) 63 = y := ⟨_, rfl⟩
  have HBY := hide (show y = byV 64 b from hy.symm)
  rw [← HBY.out] at hyb
  obtain ⟨hy0, hy1⟩ := hyb
  clear hA hB
  go_enter Tryz.func74, Tryz.ntmps74
  go_wp2_with fail
  refine (rlong_any _ _).mono ?_
  rintro e w' ⟨rfl, rfl⟩
  go_wp2_with fail
  refine (rcut_any a 64 HA.out _).mono ?_
  rintro e w' ⟨rfl, rfl⟩
  go_wp2_with fail
  refine (rcut_any b 64 HB.out _).mono ?_
  rintro e w' ⟨rfl, rfl⟩
  go_wp2_with fail
  refine (rcut_any _ 64 (rs_u64 _ HCA.out) _).mono ?_
  rintro e w' ⟨rfl, rfl⟩
  go_wp2
  go_ret2
  exact ⟨ret_t (by unfold doU; rw [← HBY.out]; rfl), rfl⟩
theorem rdo_8_32 (a b : Int) (hA : U64 a) (hB : U64 b) (w : World) : Calls Tryz.prog 74 #[.int .i8 8, .int .i8 32, .int .u64 a, .int .u64 b] w fun e w' => e = .returned (.tuple #[.int .u64 (doU 8 32 a b), .int .i64 0]) ∧ w = w' := by
  have HA := hide hA
  have HB := hide hB
  have HCA := hide (rc_u64 (x := 32) hA)
  have HCB := hide (rc_u64 (x := 32) hB)
  have hyb := byV_bd (x := 32) (by omega) hB
  obtain ⟨y, hy⟩ : ∃ y, bits .and .u64 (cutV 32 b) 31 = y := ⟨_, rfl⟩
  have HBY := hide (show y = byV 32 b from hy.symm)
  rw [← HBY.out] at hyb
  obtain ⟨hy0, hy1⟩ := hyb
  clear hA hB
  go_enter Tryz.func74, Tryz.ntmps74
  go_wp2_with fail
  refine (rlong_any _ _).mono ?_
  rintro e w' ⟨rfl, rfl⟩
  go_wp2_with fail
  refine (rcut_any a 32 HA.out _).mono ?_
  rintro e w' ⟨rfl, rfl⟩
  go_wp2_with fail
  refine (rcut_any b 32 HB.out _).mono ?_
  rintro e w' ⟨rfl, rfl⟩
  go_wp2_with fail
  refine (rcut_any _ 32 (rw_u64 _) _).mono ?_
  rintro e w' ⟨rfl, rfl⟩
  go_wp2
  go_ret2
  exact ⟨ret_t (by unfold doU; rw [← HBY.out]; rfl), rfl⟩
theorem rdo_8_64 (a b : Int) (hA : U64 a) (hB : U64 b) (w : World) : Calls Tryz.prog 74 #[.int .i8 8, .int .i8 64, .int .u64 a, .int .u64 b] w fun e w' => e = .returned (.tuple #[.int .u64 (doU 8 64 a b), .int .i64 0]) ∧ w = w' := by
  have HA := hide hA
  have HB := hide hB
  have HCA := hide (rc_u64 (x := 64) hA)
  have HCB := hide (rc_u64 (x := 64) hB)
  have hyb := byV_bd (x := 64) (by omega) hB
  obtain ⟨y, hy⟩ : ∃ y, bits .and .u64 (cutV 64 b) 63 = y := ⟨_, rfl⟩
  have HBY := hide (show y = byV 64 b from hy.symm)
  rw [← HBY.out] at hyb
  obtain ⟨hy0, hy1⟩ := hyb
  clear hA hB
  go_enter Tryz.func74, Tryz.ntmps74
  go_wp2_with fail
  refine (rlong_any _ _).mono ?_
  rintro e w' ⟨rfl, rfl⟩
  go_wp2_with fail
  refine (rcut_any a 64 HA.out _).mono ?_
  rintro e w' ⟨rfl, rfl⟩
  go_wp2_with fail
  refine (rcut_any b 64 HB.out _).mono ?_
  rintro e w' ⟨rfl, rfl⟩
  go_wp2_with fail
  refine (rcut_any _ 64 (rw_u64 _) _).mono ?_
  rintro e w' ⟨rfl, rfl⟩
  go_wp2
  go_ret2
  exact ⟨ret_t (by unfold doU; rw [← HBY.out]; rfl), rfl⟩
theorem rdo_9_32 (a b : Int) (hA : U64 a) (hB : U64 b) (w : World) : Calls Tryz.prog 74 #[.int .i8 9, .int .i8 32, .int .u64 a, .int .u64 b] w fun e w' => e = .returned (.tuple #[.int .u64 (doU 9 32 a b), .int .i64 0]) ∧ w = w' := by
  have HA := hide hA
  have HB := hide hB
  have HCA := hide (rc_u64 (x := 32) hA)
  have HCB := hide (rc_u64 (x := 32) hB)
  have hyb := byV_bd (x := 32) (by omega) hB
  obtain ⟨y, hy⟩ : ∃ y, bits .and .u64 (cutV 32 b) 31 = y := ⟨_, rfl⟩
  have HBY := hide (show y = byV 32 b from hy.symm)
  rw [← HBY.out] at hyb
  obtain ⟨hy0, hy1⟩ := hyb
  clear hA hB
  cases hz : decide (0 < cutV 32 b)
  · have HZ := hide (show cutV 32 b = 0 by have := HCB.out; unfold U64 at this; simp at hz; omega)
    go_enter Tryz.func74, Tryz.ntmps74
    go_wp2_with fail
    refine (rlong_any _ _).mono ?_
    rintro e w' ⟨rfl, rfl⟩
    go_wp2_with fail
    refine (rcut_any a 32 HA.out _).mono ?_
    rintro e w' ⟨rfl, rfl⟩
    go_wp2_with fail
    refine (rcut_any b 32 HB.out _).mono ?_
    rintro e w' ⟨rfl, rfl⟩
    go_wp2_with fail
    refine (rcut_any _ 32 (HCA.out) _).mono ?_
    rintro e w' ⟨rfl, rfl⟩
    go_wp2
    go_ret2
    exact ⟨ret_t (by unfold doU doV; rw [HZ.out]; simp), rfl⟩
  · have HZ := hide (show 0 < cutV 32 b by simpa using hz)
    have hz0 : ¬ cutV 32 b = 0 := by have := HZ.out; omega
    go_enter Tryz.func74, Tryz.ntmps74
    go_wp2_with fail
    refine (rlong_any _ _).mono ?_
    rintro e w' ⟨rfl, rfl⟩
    go_wp2_with fail
    refine (rcut_any a 32 HA.out _).mono ?_
    rintro e w' ⟨rfl, rfl⟩
    go_wp2_with fail
    refine (rcut_any b 32 HB.out _).mono ?_
    rintro e w' ⟨rfl, rfl⟩
    go_wp2_with fail
    refine (rcut_any _ 32 (rm_u64 HCA.out HCB.out HZ.out) _).mono ?_
    rintro e w' ⟨rfl, rfl⟩
    go_wp2
    go_ret2
    exact ⟨ret_t (by have h := HZ.out; have h2 : ¬ cutV 32 b = 0 := (by omega); unfold doU doV; simp [h2]), rfl⟩
theorem rdo_9_64 (a b : Int) (hA : U64 a) (hB : U64 b) (w : World) : Calls Tryz.prog 74 #[.int .i8 9, .int .i8 64, .int .u64 a, .int .u64 b] w fun e w' => e = .returned (.tuple #[.int .u64 (doU 9 64 a b), .int .i64 0]) ∧ w = w' := by
  have HA := hide hA
  have HB := hide hB
  have HCA := hide (rc_u64 (x := 64) hA)
  have HCB := hide (rc_u64 (x := 64) hB)
  have hyb := byV_bd (x := 64) (by omega) hB
  obtain ⟨y, hy⟩ : ∃ y, bits .and .u64 (cutV 64 b) 63 = y := ⟨_, rfl⟩
  have HBY := hide (show y = byV 64 b from hy.symm)
  rw [← HBY.out] at hyb
  obtain ⟨hy0, hy1⟩ := hyb
  clear hA hB
  cases hz : decide (0 < cutV 64 b)
  · have HZ := hide (show cutV 64 b = 0 by have := HCB.out; unfold U64 at this; simp at hz; omega)
    go_enter Tryz.func74, Tryz.ntmps74
    go_wp2_with fail
    refine (rlong_any _ _).mono ?_
    rintro e w' ⟨rfl, rfl⟩
    go_wp2_with fail
    refine (rcut_any a 64 HA.out _).mono ?_
    rintro e w' ⟨rfl, rfl⟩
    go_wp2_with fail
    refine (rcut_any b 64 HB.out _).mono ?_
    rintro e w' ⟨rfl, rfl⟩
    go_wp2_with fail
    refine (rcut_any _ 64 (HCA.out) _).mono ?_
    rintro e w' ⟨rfl, rfl⟩
    go_wp2
    go_ret2
    exact ⟨ret_t (by unfold doU doV; rw [HZ.out]; simp), rfl⟩
  · have HZ := hide (show 0 < cutV 64 b by simpa using hz)
    have hz0 : ¬ cutV 64 b = 0 := by have := HZ.out; omega
    go_enter Tryz.func74, Tryz.ntmps74
    go_wp2_with fail
    refine (rlong_any _ _).mono ?_
    rintro e w' ⟨rfl, rfl⟩
    go_wp2_with fail
    refine (rcut_any a 64 HA.out _).mono ?_
    rintro e w' ⟨rfl, rfl⟩
    go_wp2_with fail
    refine (rcut_any b 64 HB.out _).mono ?_
    rintro e w' ⟨rfl, rfl⟩
    go_wp2_with fail
    refine (rcut_any _ 64 (rm_u64 HCA.out HCB.out HZ.out) _).mono ?_
    rintro e w' ⟨rfl, rfl⟩
    go_wp2
    go_ret2
    exact ⟨ret_t (by have h := HZ.out; have h2 : ¬ cutV 64 b = 0 := (by omega); unfold doU doV; simp [h2]), rfl⟩
theorem rdo_10_32 (a b : Int) (hA : U64 a) (hB : U64 b) (w : World) : Calls Tryz.prog 74 #[.int .i8 10, .int .i8 32, .int .u64 a, .int .u64 b] w fun e w' => e = .returned (.tuple #[.int .u64 (doU 10 32 a b), .int .i64 0]) ∧ w = w' := by
  have HA := hide hA
  have HB := hide hB
  have HCA := hide (rc_u64 (x := 32) hA)
  have HCB := hide (rc_u64 (x := 32) hB)
  have hyb := byV_bd (x := 32) (by omega) hB
  obtain ⟨y, hy⟩ : ∃ y, bits .and .u64 (cutV 32 b) 31 = y := ⟨_, rfl⟩
  have HBY := hide (show y = byV 32 b from hy.symm)
  rw [← HBY.out] at hyb
  obtain ⟨hy0, hy1⟩ := hyb
  clear hA hB
  go_enter Tryz.func74, Tryz.ntmps74
  go_wp2_with fail
  refine (rlong_any _ _).mono ?_
  rintro e w' ⟨rfl, rfl⟩
  go_wp2_with fail
  refine (rcut_any a 32 HA.out _).mono ?_
  rintro e w' ⟨rfl, rfl⟩
  go_wp2_with fail
  refine (rcut_any b 32 HB.out _).mono ?_
  rintro e w' ⟨rfl, rfl⟩
  go_wp2_with fail
  refine (rcut_any _ 32 (rb_u64 _ _ _) _).mono ?_
  rintro e w' ⟨rfl, rfl⟩
  go_wp2
  go_ret2
  exact ⟨ret_t (by unfold doU; rw [← HBY.out]; rfl), rfl⟩
theorem rdo_10_64 (a b : Int) (hA : U64 a) (hB : U64 b) (w : World) : Calls Tryz.prog 74 #[.int .i8 10, .int .i8 64, .int .u64 a, .int .u64 b] w fun e w' => e = .returned (.tuple #[.int .u64 (doU 10 64 a b), .int .i64 0]) ∧ w = w' := by
  have HA := hide hA
  have HB := hide hB
  have HCA := hide (rc_u64 (x := 64) hA)
  have HCB := hide (rc_u64 (x := 64) hB)
  have hyb := byV_bd (x := 64) (by omega) hB
  obtain ⟨y, hy⟩ : ∃ y, bits .and .u64 (cutV 64 b) 63 = y := ⟨_, rfl⟩
  have HBY := hide (show y = byV 64 b from hy.symm)
  rw [← HBY.out] at hyb
  obtain ⟨hy0, hy1⟩ := hyb
  clear hA hB
  go_enter Tryz.func74, Tryz.ntmps74
  go_wp2_with fail
  refine (rlong_any _ _).mono ?_
  rintro e w' ⟨rfl, rfl⟩
  go_wp2_with fail
  refine (rcut_any a 64 HA.out _).mono ?_
  rintro e w' ⟨rfl, rfl⟩
  go_wp2_with fail
  refine (rcut_any b 64 HB.out _).mono ?_
  rintro e w' ⟨rfl, rfl⟩
  go_wp2_with fail
  refine (rcut_any _ 64 (rb_u64 _ _ _) _).mono ?_
  rintro e w' ⟨rfl, rfl⟩
  go_wp2
  go_ret2
  exact ⟨ret_t (by unfold doU; rw [← HBY.out]; rfl), rfl⟩
theorem rdo_11_32 (a b : Int) (hA : U64 a) (hB : U64 b) (w : World) : Calls Tryz.prog 74 #[.int .i8 11, .int .i8 32, .int .u64 a, .int .u64 b] w fun e w' => e = .returned (.tuple #[.int .u64 (doU 11 32 a b), .int .i64 0]) ∧ w = w' := by
  have HA := hide hA
  have HB := hide hB
  have HCA := hide (rc_u64 (x := 32) hA)
  have HCB := hide (rc_u64 (x := 32) hB)
  have hyb := byV_bd (x := 32) (by omega) hB
  obtain ⟨y, hy⟩ : ∃ y, bits .and .u64 (cutV 32 b) 31 = y := ⟨_, rfl⟩
  have HBY := hide (show y = byV 32 b from hy.symm)
  rw [← HBY.out] at hyb
  obtain ⟨hy0, hy1⟩ := hyb
  clear hA hB
  go_enter Tryz.func74, Tryz.ntmps74
  go_wp2_with fail
  refine (rlong_any _ _).mono ?_
  rintro e w' ⟨rfl, rfl⟩
  go_wp2_with fail
  refine (rcut_any a 32 HA.out _).mono ?_
  rintro e w' ⟨rfl, rfl⟩
  go_wp2_with fail
  refine (rcut_any b 32 HB.out _).mono ?_
  rintro e w' ⟨rfl, rfl⟩
  go_wp2_with fail
  refine (rcut_any _ 32 (HCB.out) _).mono ?_
  rintro e w' ⟨rfl, rfl⟩
  go_wp2
  go_ret2
  exact ⟨ret_t (by unfold doU; rw [← HBY.out]; rfl), rfl⟩
theorem rdo_11_64 (a b : Int) (hA : U64 a) (hB : U64 b) (w : World) : Calls Tryz.prog 74 #[.int .i8 11, .int .i8 64, .int .u64 a, .int .u64 b] w fun e w' => e = .returned (.tuple #[.int .u64 (doU 11 64 a b), .int .i64 0]) ∧ w = w' := by
  have HA := hide hA
  have HB := hide hB
  have HCA := hide (rc_u64 (x := 64) hA)
  have HCB := hide (rc_u64 (x := 64) hB)
  have hyb := byV_bd (x := 64) (by omega) hB
  obtain ⟨y, hy⟩ : ∃ y, bits .and .u64 (cutV 64 b) 63 = y := ⟨_, rfl⟩
  have HBY := hide (show y = byV 64 b from hy.symm)
  rw [← HBY.out] at hyb
  obtain ⟨hy0, hy1⟩ := hyb
  clear hA hB
  go_enter Tryz.func74, Tryz.ntmps74
  go_wp2_with fail
  refine (rlong_any _ _).mono ?_
  rintro e w' ⟨rfl, rfl⟩
  go_wp2_with fail
  refine (rcut_any a 64 HA.out _).mono ?_
  rintro e w' ⟨rfl, rfl⟩
  go_wp2_with fail
  refine (rcut_any b 64 HB.out _).mono ?_
  rintro e w' ⟨rfl, rfl⟩
  go_wp2_with fail
  refine (rcut_any _ 64 (HCB.out) _).mono ?_
  rintro e w' ⟨rfl, rfl⟩
  go_wp2
  go_ret2
  exact ⟨ret_t (by unfold doU; rw [← HBY.out]; rfl), rfl⟩
theorem rdo_12_32 (a b : Int) (hA : U64 a) (hB : U64 b) (w : World) : Calls Tryz.prog 74 #[.int .i8 12, .int .i8 32, .int .u64 a, .int .u64 b] w fun e w' => e = .returned (.tuple #[.int .u64 (doU 12 32 a b), .int .i64 0]) ∧ w = w' := by
  have HA := hide hA
  have HB := hide hB
  have HCA := hide (rc_u64 (x := 32) hA)
  have HCB := hide (rc_u64 (x := 32) hB)
  have hyb := byV_bd (x := 32) (by omega) hB
  obtain ⟨y, hy⟩ : ∃ y, bits .and .u64 (cutV 32 b) 31 = y := ⟨_, rfl⟩
  have HBY := hide (show y = byV 32 b from hy.symm)
  rw [← HBY.out] at hyb
  obtain ⟨hy0, hy1⟩ := hyb
  clear hA hB
  go_enter Tryz.func74, Tryz.ntmps74
  go_wp2_with fail
  refine (rlong_any _ _).mono ?_
  rintro e w' ⟨rfl, rfl⟩
  go_wp2_with fail
  refine (rcut_any a 32 HA.out _).mono ?_
  rintro e w' ⟨rfl, rfl⟩
  go_wp2_with fail
  refine (rcut_any b 32 HB.out _).mono ?_
  rintro e w' ⟨rfl, rfl⟩
  go_wp2_with fail
  refine (rsign_any (x := 32) _ (by omega) HCA.out _).mono ?_
  rintro e w' ⟨rfl, rfl⟩
  go_wp2_with fail
  refine (rcut_any _ 32 (rw_u64 _) _).mono ?_
  rintro e w' ⟨rfl, rfl⟩
  go_wp2
  go_ret2
  exact ⟨ret_t (by unfold doU; rw [← HBY.out]; rfl), rfl⟩
theorem rdo_12_64 (a b : Int) (hA : U64 a) (hB : U64 b) (w : World) : Calls Tryz.prog 74 #[.int .i8 12, .int .i8 64, .int .u64 a, .int .u64 b] w fun e w' => e = .returned (.tuple #[.int .u64 (doU 12 64 a b), .int .i64 0]) ∧ w = w' := by
  have HA := hide hA
  have HB := hide hB
  have HCA := hide (rc_u64 (x := 64) hA)
  have HCB := hide (rc_u64 (x := 64) hB)
  have hyb := byV_bd (x := 64) (by omega) hB
  obtain ⟨y, hy⟩ : ∃ y, bits .and .u64 (cutV 64 b) 63 = y := ⟨_, rfl⟩
  have HBY := hide (show y = byV 64 b from hy.symm)
  rw [← HBY.out] at hyb
  obtain ⟨hy0, hy1⟩ := hyb
  clear hA hB
  go_enter Tryz.func74, Tryz.ntmps74
  go_wp2_with fail
  refine (rlong_any _ _).mono ?_
  rintro e w' ⟨rfl, rfl⟩
  go_wp2_with fail
  refine (rcut_any a 64 HA.out _).mono ?_
  rintro e w' ⟨rfl, rfl⟩
  go_wp2_with fail
  refine (rcut_any b 64 HB.out _).mono ?_
  rintro e w' ⟨rfl, rfl⟩
  go_wp2_with fail
  refine (rsign_any (x := 64) _ (by omega) HCA.out _).mono ?_
  rintro e w' ⟨rfl, rfl⟩
  go_wp2_with fail
  refine (rcut_any _ 64 (rw_u64 _) _).mono ?_
  rintro e w' ⟨rfl, rfl⟩
  go_wp2
  go_ret2
  exact ⟨ret_t (by unfold doU; rw [← HBY.out]; rfl), rfl⟩
theorem ho_val (u v : Int) : (ordV u v == 0) = (u == v) ∧ (ordV u v != 0) = (u != v) ∧ decide (0 < ordV u v) = decide (v < u) ∧ decide (0 ≤ ordV u v) = decide (v ≤ u) ∧ decide (ordV u v < 0) = decide (u < v) ∧ decide (ordV u v ≤ 0) = decide (u ≤ v) := by
  unfold ordV bne
  by_cases h1 : u < v
  · rw [if_pos h1]
    have h2 : (u == v) = false := by simp; omega
    have h3 : ¬ v < u := by omega
    have h4 : ¬ v ≤ u := by omega
    have h5 : u ≤ v := by omega
    simp [h1, h2, h3, h4, h5]
  · rw [if_neg h1]
    by_cases h2 : v < u
    · rw [if_pos h2]
      have h3 : (u == v) = false := by simp; omega
      have h4 : v ≤ u := by omega
      have h5 : ¬ u ≤ v := by omega
      simp [h1, h2, h3, h4, h5]
    · rw [if_neg h2]
      have h3 : u = v := by omega
      subst h3
      simp
theorem ret_hb {a b : Bool} {k : Int} (h : a = b) : Ending.returned (.tuple #[.bool a, .int .i64 k]) = .returned (.tuple #[.bool b, .int .i64 k]) := by rw [h]
theorem rholds_0_32 (a b : Int) (hA : U64 a) (hB : U64 b) (w : World) : Calls Tryz.prog 81 #[.int .i8 0, .int .i8 32, .int .u64 a, .int .u64 b] w fun e w' => e = .returned (.tuple #[.bool (holdsU 0 32 a b), .int .i64 0]) ∧ w = w' := by
  have HA := hide hA
  have HB := hide hB
  have HCA := hide (rc_u64 (x := 32) hA)
  have HCB := hide (rc_u64 (x := 32) hB)
  clear hA hB
  go_enter Tryz.func81, Tryz.ntmps81
  go_wp2_with fail
  refine (rlong_any _ _).mono ?_
  rintro e w' ⟨rfl, rfl⟩
  go_wp2_with fail
  refine (rcut_any a 32 HA.out _).mono ?_
  rintro e w' ⟨rfl, rfl⟩
  go_wp2_with fail
  refine (rcut_any b 32 HB.out _).mono ?_
  rintro e w' ⟨rfl, rfl⟩
  go_wp2_with fail
  refine (rsign_any (x := 32) _ (by omega) HCA.out _).mono ?_
  rintro e w' ⟨rfl, rfl⟩
  go_wp2_with fail
  refine (rsign_any (x := 32) _ (by omega) HCB.out _).mono ?_
  rintro e w' ⟨rfl, rfl⟩
  go_wp2
  go_ret2
  exact ⟨ret_hb (by show _ = (ordV (cutV 32 a) (cutV 32 b) == 0); rw [(ho_val (cutV 32 a) (cutV 32 b)).1]), rfl⟩
theorem rholds_0_64 (a b : Int) (hA : U64 a) (hB : U64 b) (w : World) : Calls Tryz.prog 81 #[.int .i8 0, .int .i8 64, .int .u64 a, .int .u64 b] w fun e w' => e = .returned (.tuple #[.bool (holdsU 0 64 a b), .int .i64 0]) ∧ w = w' := by
  have HA := hide hA
  have HB := hide hB
  have HCA := hide (rc_u64 (x := 64) hA)
  have HCB := hide (rc_u64 (x := 64) hB)
  clear hA hB
  go_enter Tryz.func81, Tryz.ntmps81
  go_wp2_with fail
  refine (rlong_any _ _).mono ?_
  rintro e w' ⟨rfl, rfl⟩
  go_wp2_with fail
  refine (rcut_any a 64 HA.out _).mono ?_
  rintro e w' ⟨rfl, rfl⟩
  go_wp2_with fail
  refine (rcut_any b 64 HB.out _).mono ?_
  rintro e w' ⟨rfl, rfl⟩
  go_wp2_with fail
  refine (rsign_any (x := 64) _ (by omega) HCA.out _).mono ?_
  rintro e w' ⟨rfl, rfl⟩
  go_wp2_with fail
  refine (rsign_any (x := 64) _ (by omega) HCB.out _).mono ?_
  rintro e w' ⟨rfl, rfl⟩
  go_wp2
  go_ret2
  exact ⟨ret_hb (by show _ = (ordV (cutV 64 a) (cutV 64 b) == 0); rw [(ho_val (cutV 64 a) (cutV 64 b)).1]), rfl⟩
theorem rholds_1_32 (a b : Int) (hA : U64 a) (hB : U64 b) (w : World) : Calls Tryz.prog 81 #[.int .i8 1, .int .i8 32, .int .u64 a, .int .u64 b] w fun e w' => e = .returned (.tuple #[.bool (holdsU 1 32 a b), .int .i64 0]) ∧ w = w' := by
  have HA := hide hA
  have HB := hide hB
  have HCA := hide (rc_u64 (x := 32) hA)
  have HCB := hide (rc_u64 (x := 32) hB)
  clear hA hB
  go_enter Tryz.func81, Tryz.ntmps81
  go_wp2_with fail
  refine (rlong_any _ _).mono ?_
  rintro e w' ⟨rfl, rfl⟩
  go_wp2_with fail
  refine (rcut_any a 32 HA.out _).mono ?_
  rintro e w' ⟨rfl, rfl⟩
  go_wp2_with fail
  refine (rcut_any b 32 HB.out _).mono ?_
  rintro e w' ⟨rfl, rfl⟩
  go_wp2_with fail
  refine (rsign_any (x := 32) _ (by omega) HCA.out _).mono ?_
  rintro e w' ⟨rfl, rfl⟩
  go_wp2_with fail
  refine (rsign_any (x := 32) _ (by omega) HCB.out _).mono ?_
  rintro e w' ⟨rfl, rfl⟩
  go_wp2
  go_ret2
  exact ⟨ret_hb (by show _ = (ordV (cutV 32 a) (cutV 32 b) != 0); rw [(ho_val (cutV 32 a) (cutV 32 b)).2.1]), rfl⟩
theorem rholds_1_64 (a b : Int) (hA : U64 a) (hB : U64 b) (w : World) : Calls Tryz.prog 81 #[.int .i8 1, .int .i8 64, .int .u64 a, .int .u64 b] w fun e w' => e = .returned (.tuple #[.bool (holdsU 1 64 a b), .int .i64 0]) ∧ w = w' := by
  have HA := hide hA
  have HB := hide hB
  have HCA := hide (rc_u64 (x := 64) hA)
  have HCB := hide (rc_u64 (x := 64) hB)
  clear hA hB
  go_enter Tryz.func81, Tryz.ntmps81
  go_wp2_with fail
  refine (rlong_any _ _).mono ?_
  rintro e w' ⟨rfl, rfl⟩
  go_wp2_with fail
  refine (rcut_any a 64 HA.out _).mono ?_
  rintro e w' ⟨rfl, rfl⟩
  go_wp2_with fail
  refine (rcut_any b 64 HB.out _).mono ?_
  rintro e w' ⟨rfl, rfl⟩
  go_wp2_with fail
  refine (rsign_any (x := 64) _ (by omega) HCA.out _).mono ?_
  rintro e w' ⟨rfl, rfl⟩
  go_wp2_with fail
  refine (rsign_any (x := 64) _ (by omega) HCB.out _).mono ?_
  rintro e w' ⟨rfl, rfl⟩
  go_wp2
  go_ret2
  exact ⟨ret_hb (by show _ = (ordV (cutV 64 a) (cutV 64 b) != 0); rw [(ho_val (cutV 64 a) (cutV 64 b)).2.1]), rfl⟩
theorem rholds_2_32 (a b : Int) (hA : U64 a) (hB : U64 b) (w : World) : Calls Tryz.prog 81 #[.int .i8 2, .int .i8 32, .int .u64 a, .int .u64 b] w fun e w' => e = .returned (.tuple #[.bool (holdsU 2 32 a b), .int .i64 0]) ∧ w = w' := by
  have HA := hide hA
  have HB := hide hB
  have HCA := hide (rc_u64 (x := 32) hA)
  have HCB := hide (rc_u64 (x := 32) hB)
  clear hA hB
  go_enter Tryz.func81, Tryz.ntmps81
  go_wp2_with fail
  refine (rlong_any _ _).mono ?_
  rintro e w' ⟨rfl, rfl⟩
  go_wp2_with fail
  refine (rcut_any a 32 HA.out _).mono ?_
  rintro e w' ⟨rfl, rfl⟩
  go_wp2_with fail
  refine (rcut_any b 32 HB.out _).mono ?_
  rintro e w' ⟨rfl, rfl⟩
  go_wp2_with fail
  refine (rsign_any (x := 32) _ (by omega) HCA.out _).mono ?_
  rintro e w' ⟨rfl, rfl⟩
  go_wp2_with fail
  refine (rsign_any (x := 32) _ (by omega) HCB.out _).mono ?_
  rintro e w' ⟨rfl, rfl⟩
  go_wp2
  go_ret2
  exact ⟨ret_hb (by show _ = decide (0 < ordV (cutV 32 a) (cutV 32 b)); rw [(ho_val (cutV 32 a) (cutV 32 b)).2.2.1]), rfl⟩
theorem rholds_2_64 (a b : Int) (hA : U64 a) (hB : U64 b) (w : World) : Calls Tryz.prog 81 #[.int .i8 2, .int .i8 64, .int .u64 a, .int .u64 b] w fun e w' => e = .returned (.tuple #[.bool (holdsU 2 64 a b), .int .i64 0]) ∧ w = w' := by
  have HA := hide hA
  have HB := hide hB
  have HCA := hide (rc_u64 (x := 64) hA)
  have HCB := hide (rc_u64 (x := 64) hB)
  clear hA hB
  go_enter Tryz.func81, Tryz.ntmps81
  go_wp2_with fail
  refine (rlong_any _ _).mono ?_
  rintro e w' ⟨rfl, rfl⟩
  go_wp2_with fail
  refine (rcut_any a 64 HA.out _).mono ?_
  rintro e w' ⟨rfl, rfl⟩
  go_wp2_with fail
  refine (rcut_any b 64 HB.out _).mono ?_
  rintro e w' ⟨rfl, rfl⟩
  go_wp2_with fail
  refine (rsign_any (x := 64) _ (by omega) HCA.out _).mono ?_
  rintro e w' ⟨rfl, rfl⟩
  go_wp2_with fail
  refine (rsign_any (x := 64) _ (by omega) HCB.out _).mono ?_
  rintro e w' ⟨rfl, rfl⟩
  go_wp2
  go_ret2
  exact ⟨ret_hb (by show _ = decide (0 < ordV (cutV 64 a) (cutV 64 b)); rw [(ho_val (cutV 64 a) (cutV 64 b)).2.2.1]), rfl⟩
theorem rholds_3_32 (a b : Int) (hA : U64 a) (hB : U64 b) (w : World) : Calls Tryz.prog 81 #[.int .i8 3, .int .i8 32, .int .u64 a, .int .u64 b] w fun e w' => e = .returned (.tuple #[.bool (holdsU 3 32 a b), .int .i64 0]) ∧ w = w' := by
  have HA := hide hA
  have HB := hide hB
  have HCA := hide (rc_u64 (x := 32) hA)
  have HCB := hide (rc_u64 (x := 32) hB)
  clear hA hB
  go_enter Tryz.func81, Tryz.ntmps81
  go_wp2_with fail
  refine (rlong_any _ _).mono ?_
  rintro e w' ⟨rfl, rfl⟩
  go_wp2_with fail
  refine (rcut_any a 32 HA.out _).mono ?_
  rintro e w' ⟨rfl, rfl⟩
  go_wp2_with fail
  refine (rcut_any b 32 HB.out _).mono ?_
  rintro e w' ⟨rfl, rfl⟩
  go_wp2_with fail
  refine (rsign_any (x := 32) _ (by omega) HCA.out _).mono ?_
  rintro e w' ⟨rfl, rfl⟩
  go_wp2_with fail
  refine (rsign_any (x := 32) _ (by omega) HCB.out _).mono ?_
  rintro e w' ⟨rfl, rfl⟩
  go_wp2
  go_ret2
  exact ⟨ret_hb (by show _ = decide (0 ≤ ordV (cutV 32 a) (cutV 32 b)); rw [(ho_val (cutV 32 a) (cutV 32 b)).2.2.2.1]), rfl⟩
theorem rholds_3_64 (a b : Int) (hA : U64 a) (hB : U64 b) (w : World) : Calls Tryz.prog 81 #[.int .i8 3, .int .i8 64, .int .u64 a, .int .u64 b] w fun e w' => e = .returned (.tuple #[.bool (holdsU 3 64 a b), .int .i64 0]) ∧ w = w' := by
  have HA := hide hA
  have HB := hide hB
  have HCA := hide (rc_u64 (x := 64) hA)
  have HCB := hide (rc_u64 (x := 64) hB)
  clear hA hB
  go_enter Tryz.func81, Tryz.ntmps81
  go_wp2_with fail
  refine (rlong_any _ _).mono ?_
  rintro e w' ⟨rfl, rfl⟩
  go_wp2_with fail
  refine (rcut_any a 64 HA.out _).mono ?_
  rintro e w' ⟨rfl, rfl⟩
  go_wp2_with fail
  refine (rcut_any b 64 HB.out _).mono ?_
  rintro e w' ⟨rfl, rfl⟩
  go_wp2_with fail
  refine (rsign_any (x := 64) _ (by omega) HCA.out _).mono ?_
  rintro e w' ⟨rfl, rfl⟩
  go_wp2_with fail
  refine (rsign_any (x := 64) _ (by omega) HCB.out _).mono ?_
  rintro e w' ⟨rfl, rfl⟩
  go_wp2
  go_ret2
  exact ⟨ret_hb (by show _ = decide (0 ≤ ordV (cutV 64 a) (cutV 64 b)); rw [(ho_val (cutV 64 a) (cutV 64 b)).2.2.2.1]), rfl⟩
theorem rholds_4_32 (a b : Int) (hA : U64 a) (hB : U64 b) (w : World) : Calls Tryz.prog 81 #[.int .i8 4, .int .i8 32, .int .u64 a, .int .u64 b] w fun e w' => e = .returned (.tuple #[.bool (holdsU 4 32 a b), .int .i64 0]) ∧ w = w' := by
  have HA := hide hA
  have HB := hide hB
  have HCA := hide (rc_u64 (x := 32) hA)
  have HCB := hide (rc_u64 (x := 32) hB)
  clear hA hB
  go_enter Tryz.func81, Tryz.ntmps81
  go_wp2_with fail
  refine (rlong_any _ _).mono ?_
  rintro e w' ⟨rfl, rfl⟩
  go_wp2_with fail
  refine (rcut_any a 32 HA.out _).mono ?_
  rintro e w' ⟨rfl, rfl⟩
  go_wp2_with fail
  refine (rcut_any b 32 HB.out _).mono ?_
  rintro e w' ⟨rfl, rfl⟩
  go_wp2_with fail
  refine (rsign_any (x := 32) _ (by omega) HCA.out _).mono ?_
  rintro e w' ⟨rfl, rfl⟩
  go_wp2_with fail
  refine (rsign_any (x := 32) _ (by omega) HCB.out _).mono ?_
  rintro e w' ⟨rfl, rfl⟩
  go_wp2
  go_ret2
  exact ⟨ret_hb (by show _ = decide (ordV (cutV 32 a) (cutV 32 b) < 0); rw [(ho_val (cutV 32 a) (cutV 32 b)).2.2.2.2.1]), rfl⟩
theorem rholds_4_64 (a b : Int) (hA : U64 a) (hB : U64 b) (w : World) : Calls Tryz.prog 81 #[.int .i8 4, .int .i8 64, .int .u64 a, .int .u64 b] w fun e w' => e = .returned (.tuple #[.bool (holdsU 4 64 a b), .int .i64 0]) ∧ w = w' := by
  have HA := hide hA
  have HB := hide hB
  have HCA := hide (rc_u64 (x := 64) hA)
  have HCB := hide (rc_u64 (x := 64) hB)
  clear hA hB
  go_enter Tryz.func81, Tryz.ntmps81
  go_wp2_with fail
  refine (rlong_any _ _).mono ?_
  rintro e w' ⟨rfl, rfl⟩
  go_wp2_with fail
  refine (rcut_any a 64 HA.out _).mono ?_
  rintro e w' ⟨rfl, rfl⟩
  go_wp2_with fail
  refine (rcut_any b 64 HB.out _).mono ?_
  rintro e w' ⟨rfl, rfl⟩
  go_wp2_with fail
  refine (rsign_any (x := 64) _ (by omega) HCA.out _).mono ?_
  rintro e w' ⟨rfl, rfl⟩
  go_wp2_with fail
  refine (rsign_any (x := 64) _ (by omega) HCB.out _).mono ?_
  rintro e w' ⟨rfl, rfl⟩
  go_wp2
  go_ret2
  exact ⟨ret_hb (by show _ = decide (ordV (cutV 64 a) (cutV 64 b) < 0); rw [(ho_val (cutV 64 a) (cutV 64 b)).2.2.2.2.1]), rfl⟩
theorem rholds_5_32 (a b : Int) (hA : U64 a) (hB : U64 b) (w : World) : Calls Tryz.prog 81 #[.int .i8 5, .int .i8 32, .int .u64 a, .int .u64 b] w fun e w' => e = .returned (.tuple #[.bool (holdsU 5 32 a b), .int .i64 0]) ∧ w = w' := by
  have HA := hide hA
  have HB := hide hB
  have HCA := hide (rc_u64 (x := 32) hA)
  have HCB := hide (rc_u64 (x := 32) hB)
  clear hA hB
  go_enter Tryz.func81, Tryz.ntmps81
  go_wp2_with fail
  refine (rlong_any _ _).mono ?_
  rintro e w' ⟨rfl, rfl⟩
  go_wp2_with fail
  refine (rcut_any a 32 HA.out _).mono ?_
  rintro e w' ⟨rfl, rfl⟩
  go_wp2_with fail
  refine (rcut_any b 32 HB.out _).mono ?_
  rintro e w' ⟨rfl, rfl⟩
  go_wp2_with fail
  refine (rsign_any (x := 32) _ (by omega) HCA.out _).mono ?_
  rintro e w' ⟨rfl, rfl⟩
  go_wp2_with fail
  refine (rsign_any (x := 32) _ (by omega) HCB.out _).mono ?_
  rintro e w' ⟨rfl, rfl⟩
  go_wp2
  go_ret2
  exact ⟨ret_hb (by show _ = decide (ordV (cutV 32 a) (cutV 32 b) ≤ 0); rw [(ho_val (cutV 32 a) (cutV 32 b)).2.2.2.2.2]), rfl⟩
theorem rholds_5_64 (a b : Int) (hA : U64 a) (hB : U64 b) (w : World) : Calls Tryz.prog 81 #[.int .i8 5, .int .i8 64, .int .u64 a, .int .u64 b] w fun e w' => e = .returned (.tuple #[.bool (holdsU 5 64 a b), .int .i64 0]) ∧ w = w' := by
  have HA := hide hA
  have HB := hide hB
  have HCA := hide (rc_u64 (x := 64) hA)
  have HCB := hide (rc_u64 (x := 64) hB)
  clear hA hB
  go_enter Tryz.func81, Tryz.ntmps81
  go_wp2_with fail
  refine (rlong_any _ _).mono ?_
  rintro e w' ⟨rfl, rfl⟩
  go_wp2_with fail
  refine (rcut_any a 64 HA.out _).mono ?_
  rintro e w' ⟨rfl, rfl⟩
  go_wp2_with fail
  refine (rcut_any b 64 HB.out _).mono ?_
  rintro e w' ⟨rfl, rfl⟩
  go_wp2_with fail
  refine (rsign_any (x := 64) _ (by omega) HCA.out _).mono ?_
  rintro e w' ⟨rfl, rfl⟩
  go_wp2_with fail
  refine (rsign_any (x := 64) _ (by omega) HCB.out _).mono ?_
  rintro e w' ⟨rfl, rfl⟩
  go_wp2
  go_ret2
  exact ⟨ret_hb (by show _ = decide (ordV (cutV 64 a) (cutV 64 b) ≤ 0); rw [(ho_val (cutV 64 a) (cutV 64 b)).2.2.2.2.2]), rfl⟩
theorem rholds_6_32 (a b : Int) (hA : U64 a) (hB : U64 b) (w : World) : Calls Tryz.prog 81 #[.int .i8 6, .int .i8 32, .int .u64 a, .int .u64 b] w fun e w' => e = .returned (.tuple #[.bool (holdsU 6 32 a b), .int .i64 0]) ∧ w = w' := by
  have HA := hide hA
  have HB := hide hB
  have HCA := hide (rc_u64 (x := 32) hA)
  have HCB := hide (rc_u64 (x := 32) hB)
  clear hA hB
  go_enter Tryz.func81, Tryz.ntmps81
  go_wp2_with fail
  refine (rlong_any _ _).mono ?_
  rintro e w' ⟨rfl, rfl⟩
  go_wp2_with fail
  refine (rcut_any a 32 HA.out _).mono ?_
  rintro e w' ⟨rfl, rfl⟩
  go_wp2_with fail
  refine (rcut_any b 32 HB.out _).mono ?_
  rintro e w' ⟨rfl, rfl⟩
  go_wp2_with fail
  refine (rsign_any (x := 32) _ (by omega) HCA.out _).mono ?_
  rintro e w' ⟨rfl, rfl⟩
  go_wp2_with fail
  refine (rsign_any (x := 32) _ (by omega) HCB.out _).mono ?_
  rintro e w' ⟨rfl, rfl⟩
  go_wp2
  go_ret2
  exact ⟨ret_hb (by show _ = decide (0 < ordV (wrap64 (signU 32 (cutV 32 a))) (wrap64 (signU 32 (cutV 32 b)))); rw [(ho_val (wrap64 (signU 32 (cutV 32 a))) (wrap64 (signU 32 (cutV 32 b)))).2.2.1]), rfl⟩
theorem rholds_6_64 (a b : Int) (hA : U64 a) (hB : U64 b) (w : World) : Calls Tryz.prog 81 #[.int .i8 6, .int .i8 64, .int .u64 a, .int .u64 b] w fun e w' => e = .returned (.tuple #[.bool (holdsU 6 64 a b), .int .i64 0]) ∧ w = w' := by
  have HA := hide hA
  have HB := hide hB
  have HCA := hide (rc_u64 (x := 64) hA)
  have HCB := hide (rc_u64 (x := 64) hB)
  clear hA hB
  go_enter Tryz.func81, Tryz.ntmps81
  go_wp2_with fail
  refine (rlong_any _ _).mono ?_
  rintro e w' ⟨rfl, rfl⟩
  go_wp2_with fail
  refine (rcut_any a 64 HA.out _).mono ?_
  rintro e w' ⟨rfl, rfl⟩
  go_wp2_with fail
  refine (rcut_any b 64 HB.out _).mono ?_
  rintro e w' ⟨rfl, rfl⟩
  go_wp2_with fail
  refine (rsign_any (x := 64) _ (by omega) HCA.out _).mono ?_
  rintro e w' ⟨rfl, rfl⟩
  go_wp2_with fail
  refine (rsign_any (x := 64) _ (by omega) HCB.out _).mono ?_
  rintro e w' ⟨rfl, rfl⟩
  go_wp2
  go_ret2
  exact ⟨ret_hb (by show _ = decide (0 < ordV (wrap64 (signU 64 (cutV 64 a))) (wrap64 (signU 64 (cutV 64 b)))); rw [(ho_val (wrap64 (signU 64 (cutV 64 a))) (wrap64 (signU 64 (cutV 64 b)))).2.2.1]), rfl⟩
theorem rholds_7_32 (a b : Int) (hA : U64 a) (hB : U64 b) (w : World) : Calls Tryz.prog 81 #[.int .i8 7, .int .i8 32, .int .u64 a, .int .u64 b] w fun e w' => e = .returned (.tuple #[.bool (holdsU 7 32 a b), .int .i64 0]) ∧ w = w' := by
  have HA := hide hA
  have HB := hide hB
  have HCA := hide (rc_u64 (x := 32) hA)
  have HCB := hide (rc_u64 (x := 32) hB)
  clear hA hB
  go_enter Tryz.func81, Tryz.ntmps81
  go_wp2_with fail
  refine (rlong_any _ _).mono ?_
  rintro e w' ⟨rfl, rfl⟩
  go_wp2_with fail
  refine (rcut_any a 32 HA.out _).mono ?_
  rintro e w' ⟨rfl, rfl⟩
  go_wp2_with fail
  refine (rcut_any b 32 HB.out _).mono ?_
  rintro e w' ⟨rfl, rfl⟩
  go_wp2_with fail
  refine (rsign_any (x := 32) _ (by omega) HCA.out _).mono ?_
  rintro e w' ⟨rfl, rfl⟩
  go_wp2_with fail
  refine (rsign_any (x := 32) _ (by omega) HCB.out _).mono ?_
  rintro e w' ⟨rfl, rfl⟩
  go_wp2
  go_ret2
  exact ⟨ret_hb (by show _ = decide (0 ≤ ordV (wrap64 (signU 32 (cutV 32 a))) (wrap64 (signU 32 (cutV 32 b)))); rw [(ho_val (wrap64 (signU 32 (cutV 32 a))) (wrap64 (signU 32 (cutV 32 b)))).2.2.2.1]), rfl⟩
theorem rholds_7_64 (a b : Int) (hA : U64 a) (hB : U64 b) (w : World) : Calls Tryz.prog 81 #[.int .i8 7, .int .i8 64, .int .u64 a, .int .u64 b] w fun e w' => e = .returned (.tuple #[.bool (holdsU 7 64 a b), .int .i64 0]) ∧ w = w' := by
  have HA := hide hA
  have HB := hide hB
  have HCA := hide (rc_u64 (x := 64) hA)
  have HCB := hide (rc_u64 (x := 64) hB)
  clear hA hB
  go_enter Tryz.func81, Tryz.ntmps81
  go_wp2_with fail
  refine (rlong_any _ _).mono ?_
  rintro e w' ⟨rfl, rfl⟩
  go_wp2_with fail
  refine (rcut_any a 64 HA.out _).mono ?_
  rintro e w' ⟨rfl, rfl⟩
  go_wp2_with fail
  refine (rcut_any b 64 HB.out _).mono ?_
  rintro e w' ⟨rfl, rfl⟩
  go_wp2_with fail
  refine (rsign_any (x := 64) _ (by omega) HCA.out _).mono ?_
  rintro e w' ⟨rfl, rfl⟩
  go_wp2_with fail
  refine (rsign_any (x := 64) _ (by omega) HCB.out _).mono ?_
  rintro e w' ⟨rfl, rfl⟩
  go_wp2
  go_ret2
  exact ⟨ret_hb (by show _ = decide (0 ≤ ordV (wrap64 (signU 64 (cutV 64 a))) (wrap64 (signU 64 (cutV 64 b)))); rw [(ho_val (wrap64 (signU 64 (cutV 64 a))) (wrap64 (signU 64 (cutV 64 b)))).2.2.2.1]), rfl⟩
theorem rholds_8_32 (a b : Int) (hA : U64 a) (hB : U64 b) (w : World) : Calls Tryz.prog 81 #[.int .i8 8, .int .i8 32, .int .u64 a, .int .u64 b] w fun e w' => e = .returned (.tuple #[.bool (holdsU 8 32 a b), .int .i64 0]) ∧ w = w' := by
  have HA := hide hA
  have HB := hide hB
  have HCA := hide (rc_u64 (x := 32) hA)
  have HCB := hide (rc_u64 (x := 32) hB)
  clear hA hB
  go_enter Tryz.func81, Tryz.ntmps81
  go_wp2_with fail
  refine (rlong_any _ _).mono ?_
  rintro e w' ⟨rfl, rfl⟩
  go_wp2_with fail
  refine (rcut_any a 32 HA.out _).mono ?_
  rintro e w' ⟨rfl, rfl⟩
  go_wp2_with fail
  refine (rcut_any b 32 HB.out _).mono ?_
  rintro e w' ⟨rfl, rfl⟩
  go_wp2_with fail
  refine (rsign_any (x := 32) _ (by omega) HCA.out _).mono ?_
  rintro e w' ⟨rfl, rfl⟩
  go_wp2_with fail
  refine (rsign_any (x := 32) _ (by omega) HCB.out _).mono ?_
  rintro e w' ⟨rfl, rfl⟩
  go_wp2
  go_ret2
  exact ⟨ret_hb (by show _ = decide (ordV (wrap64 (signU 32 (cutV 32 a))) (wrap64 (signU 32 (cutV 32 b))) < 0); rw [(ho_val (wrap64 (signU 32 (cutV 32 a))) (wrap64 (signU 32 (cutV 32 b)))).2.2.2.2.1]), rfl⟩
theorem rholds_8_64 (a b : Int) (hA : U64 a) (hB : U64 b) (w : World) : Calls Tryz.prog 81 #[.int .i8 8, .int .i8 64, .int .u64 a, .int .u64 b] w fun e w' => e = .returned (.tuple #[.bool (holdsU 8 64 a b), .int .i64 0]) ∧ w = w' := by
  have HA := hide hA
  have HB := hide hB
  have HCA := hide (rc_u64 (x := 64) hA)
  have HCB := hide (rc_u64 (x := 64) hB)
  clear hA hB
  go_enter Tryz.func81, Tryz.ntmps81
  go_wp2_with fail
  refine (rlong_any _ _).mono ?_
  rintro e w' ⟨rfl, rfl⟩
  go_wp2_with fail
  refine (rcut_any a 64 HA.out _).mono ?_
  rintro e w' ⟨rfl, rfl⟩
  go_wp2_with fail
  refine (rcut_any b 64 HB.out _).mono ?_
  rintro e w' ⟨rfl, rfl⟩
  go_wp2_with fail
  refine (rsign_any (x := 64) _ (by omega) HCA.out _).mono ?_
  rintro e w' ⟨rfl, rfl⟩
  go_wp2_with fail
  refine (rsign_any (x := 64) _ (by omega) HCB.out _).mono ?_
  rintro e w' ⟨rfl, rfl⟩
  go_wp2
  go_ret2
  exact ⟨ret_hb (by show _ = decide (ordV (wrap64 (signU 64 (cutV 64 a))) (wrap64 (signU 64 (cutV 64 b))) < 0); rw [(ho_val (wrap64 (signU 64 (cutV 64 a))) (wrap64 (signU 64 (cutV 64 b)))).2.2.2.2.1]), rfl⟩
theorem rholds_9_32 (a b : Int) (hA : U64 a) (hB : U64 b) (w : World) : Calls Tryz.prog 81 #[.int .i8 9, .int .i8 32, .int .u64 a, .int .u64 b] w fun e w' => e = .returned (.tuple #[.bool (holdsU 9 32 a b), .int .i64 0]) ∧ w = w' := by
  have HA := hide hA
  have HB := hide hB
  have HCA := hide (rc_u64 (x := 32) hA)
  have HCB := hide (rc_u64 (x := 32) hB)
  clear hA hB
  go_enter Tryz.func81, Tryz.ntmps81
  go_wp2_with fail
  refine (rlong_any _ _).mono ?_
  rintro e w' ⟨rfl, rfl⟩
  go_wp2_with fail
  refine (rcut_any a 32 HA.out _).mono ?_
  rintro e w' ⟨rfl, rfl⟩
  go_wp2_with fail
  refine (rcut_any b 32 HB.out _).mono ?_
  rintro e w' ⟨rfl, rfl⟩
  go_wp2_with fail
  refine (rsign_any (x := 32) _ (by omega) HCA.out _).mono ?_
  rintro e w' ⟨rfl, rfl⟩
  go_wp2_with fail
  refine (rsign_any (x := 32) _ (by omega) HCB.out _).mono ?_
  rintro e w' ⟨rfl, rfl⟩
  go_wp2
  go_ret2
  exact ⟨ret_hb (by show _ = decide (ordV (wrap64 (signU 32 (cutV 32 a))) (wrap64 (signU 32 (cutV 32 b))) ≤ 0); rw [(ho_val (wrap64 (signU 32 (cutV 32 a))) (wrap64 (signU 32 (cutV 32 b)))).2.2.2.2.2]), rfl⟩
theorem rholds_9_64 (a b : Int) (hA : U64 a) (hB : U64 b) (w : World) : Calls Tryz.prog 81 #[.int .i8 9, .int .i8 64, .int .u64 a, .int .u64 b] w fun e w' => e = .returned (.tuple #[.bool (holdsU 9 64 a b), .int .i64 0]) ∧ w = w' := by
  have HA := hide hA
  have HB := hide hB
  have HCA := hide (rc_u64 (x := 64) hA)
  have HCB := hide (rc_u64 (x := 64) hB)
  clear hA hB
  go_enter Tryz.func81, Tryz.ntmps81
  go_wp2_with fail
  refine (rlong_any _ _).mono ?_
  rintro e w' ⟨rfl, rfl⟩
  go_wp2_with fail
  refine (rcut_any a 64 HA.out _).mono ?_
  rintro e w' ⟨rfl, rfl⟩
  go_wp2_with fail
  refine (rcut_any b 64 HB.out _).mono ?_
  rintro e w' ⟨rfl, rfl⟩
  go_wp2_with fail
  refine (rsign_any (x := 64) _ (by omega) HCA.out _).mono ?_
  rintro e w' ⟨rfl, rfl⟩
  go_wp2_with fail
  refine (rsign_any (x := 64) _ (by omega) HCB.out _).mono ?_
  rintro e w' ⟨rfl, rfl⟩
  go_wp2
  go_ret2
  exact ⟨ret_hb (by show _ = decide (ordV (wrap64 (signU 64 (cutV 64 a))) (wrap64 (signU 64 (cutV 64 b))) ≤ 0); rw [(ho_val (wrap64 (signU 64 (cutV 64 a))) (wrap64 (signU 64 (cutV 64 b)))).2.2.2.2.2]), rfl⟩
theorem rholds_10_32 (a b : Int) (hA : U64 a) (hB : U64 b) (w : World) : Calls Tryz.prog 81 #[.int .i8 10, .int .i8 32, .int .u64 a, .int .u64 b] w fun e w' => e = .returned (.tuple #[.bool (holdsU 10 32 a b), .int .i64 0]) ∧ w = w' := by
  have HA := hide hA
  have HB := hide hB
  have HCA := hide (rc_u64 (x := 32) hA)
  have HCB := hide (rc_u64 (x := 32) hB)
  clear hA hB
  go_enter Tryz.func81, Tryz.ntmps81
  go_wp2_with fail
  refine (rlong_any _ _).mono ?_
  rintro e w' ⟨rfl, rfl⟩
  go_wp2_with fail
  refine (rcut_any a 32 HA.out _).mono ?_
  rintro e w' ⟨rfl, rfl⟩
  go_wp2_with fail
  refine (rcut_any b 32 HB.out _).mono ?_
  rintro e w' ⟨rfl, rfl⟩
  go_wp2_with fail
  refine (rsign_any (x := 32) _ (by omega) HCA.out _).mono ?_
  rintro e w' ⟨rfl, rfl⟩
  go_wp2_with fail
  refine (rsign_any (x := 32) _ (by omega) HCB.out _).mono ?_
  rintro e w' ⟨rfl, rfl⟩
  go_wp2
  go_ret2
  exact ⟨rfl, rfl⟩
theorem rholds_10_64 (a b : Int) (hA : U64 a) (hB : U64 b) (w : World) : Calls Tryz.prog 81 #[.int .i8 10, .int .i8 64, .int .u64 a, .int .u64 b] w fun e w' => e = .returned (.tuple #[.bool (holdsU 10 64 a b), .int .i64 0]) ∧ w = w' := by
  have HA := hide hA
  have HB := hide hB
  have HCA := hide (rc_u64 (x := 64) hA)
  have HCB := hide (rc_u64 (x := 64) hB)
  clear hA hB
  go_enter Tryz.func81, Tryz.ntmps81
  go_wp2_with fail
  refine (rlong_any _ _).mono ?_
  rintro e w' ⟨rfl, rfl⟩
  go_wp2_with fail
  refine (rcut_any a 64 HA.out _).mono ?_
  rintro e w' ⟨rfl, rfl⟩
  go_wp2_with fail
  refine (rcut_any b 64 HB.out _).mono ?_
  rintro e w' ⟨rfl, rfl⟩
  go_wp2_with fail
  refine (rsign_any (x := 64) _ (by omega) HCA.out _).mono ?_
  rintro e w' ⟨rfl, rfl⟩
  go_wp2_with fail
  refine (rsign_any (x := 64) _ (by omega) HCB.out _).mono ?_
  rintro e w' ⟨rfl, rfl⟩
  go_wp2
  go_ret2
  exact ⟨rfl, rfl⟩
end Go.Proofs.YtfjflefgclfbfaaGreat
