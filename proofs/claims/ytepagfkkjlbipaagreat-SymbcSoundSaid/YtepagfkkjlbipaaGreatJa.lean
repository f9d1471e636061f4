/-
  The document's bits: Width, Cut, long, Sign, Do, Holds. Conditions: those written in each statement.
-/
import Derived.Test.YtepagfkkjlbipaaGreatNc
import Derived.Test.YtepagfkkjlbipaaGreatKai
set_option linter.unusedVariables false
set_option linter.unusedSimpArgs false
set_option maxHeartbeats 64000000
set_option maxRecDepth 100000
namespace Go.Proofs.YtepagfkkjlbipaaGreat
open Tryz
open Go.RowKit
theorem rwidth_any (x : Int) (w : World) : Calls prog 68 #[.int .i8 x] w fun e w' => e = .returned (.bool (wdB x)) ∧ w = w' := by
 cases h8 : (x == 8)
 ·cases h16 : (x == 16)
  ·cases h32 : (x == 32)
   ·cases h64 : (x == 64)
    all_goals
     go_enter func68, ntmps68
     go_wp2
     go_ret
     exact ⟨by unfold wdB; simp [h8, h16, h32, h64], rfl⟩
   ·go_enter func68, ntmps68
    go_wp2
    go_ret
    exact ⟨by unfold wdB; simp [h8, h16, h32], rfl⟩
  ·go_enter func68, ntmps68
   go_wp2
   go_ret
   exact ⟨by unfold wdB; simp [h8, h16], rfl⟩
 ·go_enter func68, ntmps68
  go_wp2
  go_ret
  exact ⟨by unfold wdB; simp [h8], rfl⟩
theorem rlong_any (x : Int) (w : World) : Calls prog 101 #[.int .i8 x] w fun e w' => e = .returned (.bool (longB x)) ∧ w = w' := by
 cases h32 : (x == 32)
 ·go_enter func101, ntmps101
  go_wp2
  go_ret
  exact ⟨by unfold longB; simp [h32], rfl⟩
 ·go_enter func101, ntmps101
  go_wp2
  go_ret
  exact ⟨by unfold longB; simp [h32], rfl⟩
theorem wraps64 (n : Int) (h0 : 0 ≤ n) (h1 : n < 2 ^ 64) : IntKind.u64.wrap n = n := by rw [IntKind.wrap_u64]; omega
theorem mask_cut {v : Int} (hv : 0 ≤ v ∧ v < 18446744073709551616) : bits .and .u64 v 255 = v % 256 ∧ bits .and .u64 v 65535 = v % 65536 ∧ bits .and .u64 v 4294967295 = v % 4294967296 := by
 refine ⟨?_, ?_, ?_⟩
 ·exact bits_mask .u64 64 (by decide) wraps64 8 (by decide) v hv.1 (by omega)
 ·exact bits_mask .u64 64 (by decide) wraps64 16 (by decide) v hv.1 (by omega)
 ·exact bits_mask .u64 64 (by decide) wraps64 32 (by decide) v hv.1 (by omega)
theorem rcut_any (v x : Int) (hv : U64 v) (w : World) : Calls prog 32 #[.int .u64 v, .int .i8 x] w fun e w' => e = .returned (.int .u64 (cutV x v)) ∧ w = w' := by
 have hm := Hd (mask_cut hv)
 clear hv
 cases h8 : (x == 8)
 rotate_left
 ·obtain rfl : x = 8 := by simpa using h8
  go_enter func32, ntmps32
  go_wp2_with fail
  refine (rwidth_any _ _).mono ?_
  rintro e w' ⟨rfl, rfl⟩
  go_wp2
  go_ret
  exact ⟨ret_i (by have := hm.out; unfold cutV; simp; omega), rfl⟩
 cases h16 : (x == 16)
 rotate_left
 ·obtain rfl : x = 16 := by simpa using h16
  go_enter func32, ntmps32
  go_wp2_with fail
  refine (rwidth_any _ _).mono ?_
  rintro e w' ⟨rfl, rfl⟩
  go_wp2
  go_ret
  exact ⟨ret_i (by have := hm.out; unfold cutV; simp; omega), rfl⟩
 cases h32 : (x == 32)
 rotate_left
 ·obtain rfl : x = 32 := by simpa using h32
  go_enter func32, ntmps32
  go_wp2_with fail
  refine (rwidth_any _ _).mono ?_
  rintro e w' ⟨rfl, rfl⟩
  go_wp2
  go_ret
  exact ⟨ret_i (by have := hm.out; unfold cutV; simp; omega), rfl⟩
 cases h64 : (x == 64)
 rotate_left
 ·obtain rfl : x = 64 := by simpa using h64
  go_enter func32, ntmps32
  go_wp2_with fail
  refine (rwidth_any _ _).mono ?_
  rintro e w' ⟨rfl, rfl⟩
  go_wp2
  go_ret
  exact ⟨rfl, rfl⟩
 have hw : wdB x = false := by unfold wdB; simp [h8, h16, h32, h64]
 have e : cutV x v = v := by simp at h8 h16 h32; unfold cutV; simp [h8, h16, h32]
 rw [e]
 clear e
 go_enter func32, ntmps32
 go_wp2_with fail
 refine (rwidth_any _ _).mono ?_
 rintro e w' ⟨rfl, rfl⟩
 rw [hw]
 go_wp2
 go_ret
 exact ⟨rfl, rfl⟩
theorem rsign_any {x : Int} (v : Int) (hx : x = 32 ∨ x = 64) (hv : U64 v) (w : World) : Calls prog 102 #[.int .u64 v, .int .i8 x] w fun e w' => e = .returned (.int .u64 (signU x v)) ∧ w = w' := by
 have hc := cutV_bd (x := x) hv
 rcases hx with rfl | rfl
 ·have hv2 : cutV 32 v = v % 4294967296 := by unfold cutV; simp
  have HVU := Hd hv
  have hb : bits .and .u64 (cutV 32 v / 2147483648) 1 = cutV 32 v / 2147483648 % 2 := bits_mask .u64 64 (by decide) wraps64 1 (by decide) _ (by omega) (by omega)
  cases hs : (cutV 32 v / 2147483648 % 2 == 1)
  ·have hs' : ¬ cutV 32 v / 2147483648 % 2 = 1 := by simpa using hs
   have HC := Hd hc
   have HS := Hd hs'
   have HV2 := Hd hv2
   clear hc hv hv2
   go_enter func102, ntmps102
   go_wp2_with fail
   refine (rwidth_any _ _).mono ?_
   rintro e w' ⟨rfl, rfl⟩
   go_wp2_with fail
   refine (rcut_any _ _ HVU.out _).mono ?_
   rintro e w' ⟨rfl, rfl⟩
   go_wp2
   go_ret
   exact ⟨ret_i (by
    have h1 := HC.out; have h2 := HS.out; have h3 := HV2.out
    unfold signU wrap64
    simp [IntKind.wrap_u64, IntKind.wrap_i32, wrap32]
    omega), rfl⟩
  ·have hs' : cutV 32 v / 2147483648 % 2 = 1 := by simpa using hs
   have HC := Hd hc
   have HS := Hd hs'
   have HV2 := Hd hv2
   clear hc hv hv2
   go_enter func102, ntmps102
   go_wp2_with fail
   refine (rwidth_any _ _).mono ?_
   rintro e w' ⟨rfl, rfl⟩
   go_wp2_with fail
   refine (rcut_any _ _ HVU.out _).mono ?_
   rintro e w' ⟨rfl, rfl⟩
   go_wp2
   go_ret
   exact ⟨ret_i (by
    have h1 := HC.out; have h2 := HS.out; have h3 := HV2.out
    unfold signU wrap64
    simp [IntKind.wrap_u64, IntKind.wrap_i32, wrap32]
    omega), rfl⟩
 ·have HVU := Hd hv
  have hc64 : cutV 64 v = v := by unfold cutV; simp
  have hsg : signU 64 v = v := by unfold signU; simp
  have hb : bits .and .u64 (v / 9223372036854775808) 1 = v / 9223372036854775808 % 2 := bits_mask .u64 64 (by decide) wraps64 1 (by decide) _ (by unfold U64 at hv; omega) (by unfold U64 at hv; omega)
  rw [hsg]
  cases hs : (v / 9223372036854775808 % 2 == 1)
  all_goals
   go_enter func102, ntmps102
   go_wp2_with fail
   refine (rwidth_any _ _).mono ?_
   rintro e w' ⟨rfl, rfl⟩
   go_wp2_with fail
   refine (rcut_any _ _ HVU.out _).mono ?_
   rintro e w' ⟨rfl, rfl⟩
   rw [hc64]
   go_wp2
   go_ret
   exact ⟨rfl, rfl⟩
theorem rw_u64 (n : Int) : U64 (IntKind.u64.wrap n) := by unfold U64; rw [IntKind.wrap_u64]; omega
theorem rb_u64 (o : BinOp) (a b : Int) : U64 (bits o .u64 a b) := by
 have h := bits_within o .u64 a b
 have h1 : IntKind.u64.min = 0 := rfl
 have h2 : IntKind.u64.max = 18446744073709551615 := rfl
 unfold U64
 rw [h1, h2] at h
 omega
theorem rc_u64 {x v : Int} (h : U64 v) : U64 (cutV x v) := by
 have := cutV_bd (x := x) h
 unfold U64
 omega
theorem rs_u64 {a : Int} (y : Int) (ha : U64 a) : U64 (a / 2 ^ y.toNat) := by
 unfold U64 at *
 have h1 : (0 : Int) < 2 ^ y.toNat := Int.pow_pos (by omega)
 exact ⟨Int.ediv_nonneg ha.1 (by omega), Int.lt_of_le_of_lt (Int.ediv_le_self _ ha.1) ha.2⟩
theorem rm_u64 {a b : Int} (ha : U64 a) (hb : U64 b) (h0 : 0 < b) : U64 (a.tmod b) := by
 unfold U64 at *
 rw [Int.tmod_eq_emod_of_nonneg ha.1]
 have := Int.emod_lt_of_pos a h0
 exact ⟨Int.emod_nonneg _ (by omega), by omega⟩
theorem ret_t {a b k : Int} (h : a = b) : Ending.returned (.tuple #[.int .u64 a, .int .i64 k]) = .returned (.tuple #[.int .u64 b, .int .i64 k]) := by rw [h]
theorem rdo_32 {op : Int} (h : 0 ≤ op ∧ op ≤ 12) (a b : Int) (hA : U64 a) (hB : U64 b) (w : World) : Calls prog 59 #[.int .i8 op, .int .i8 32, .int .u64 a, .int .u64 b] w fun e w' => e = .returned (.tuple #[.int .u64 (doU op 32 a b), .int .i64 0]) ∧ w = w' := by
 have HA := Hd hA
 have HB := Hd hB
 have HCA := Hd (rc_u64 (x := 32) hA)
 have HCB := Hd (rc_u64 (x := 32) hB)
 have hyb := byV_bd (x := 32) (by omega) hB
 obtain ⟨y, hy⟩ : ∃ y, bits .and .u64 (cutV 32 b) 31 = y := ⟨_, rfl⟩
 have HBY := Hd (show y = byV 32 b from hy.symm)
 rw [← HBY.out] at hyb
 obtain ⟨hy0, hy1⟩ := hyb
 clear hA hB
 have hops : (op = 3 ∨ op = 9) ∨ (op = 0 ∨ op = 1 ∨ op = 2 ∨ op = 4 ∨ op = 5 ∨ op = 6 ∨ op = 7 ∨ op = 8 ∨ op = 10 ∨ op = 11 ∨ op = 12) := by omega
 clear h
 rcases hops with hops | hops
 ·cases hz : decide (0 < cutV 32 b)
  ·have HZ := Hd (show cutV 32 b = 0 by have := HCB.out; unfold U64 at this; simp at hz; omega)
   rcases hops with rfl | rfl
   all_goals
    go_enter func59, ntmps59
    go_wp2_with fail
    refine (rlong_any _ _).mono ?_
    rintro e w' ⟨rfl, rfl⟩
    go_wp2_with fail
    refine (rcut_any a 32 HA.out _).mono ?_
    rintro e w' ⟨rfl, rfl⟩
    go_wp2_with fail
    refine (rcut_any b 32 HB.out _).mono ?_
    rintro e w' ⟨rfl, rfl⟩
    go_wp2_with fail
    try
     refine (rsign_any (x := 32) _ (by omega) HCA.out _).mono ?_
     rintro e w' ⟨rfl, rfl⟩
     go_wp2_with fail
    refine (rcut_any _ 32 (by first | exact rw_u64 _ | exact rb_u64 _ _ _ | exact rs_u64 _ HCA.out | exact HCB.out | exact HCA.out | exact rm_u64 HCA.out HCB.out HZ.out | (unfold U64; omega)) _).mono ?_
    rintro e w' ⟨rfl, rfl⟩
    go_wp2
    go_ret2
    exact ⟨ret_t (by unfold doU doV; rw [HZ.out]; simp), rfl⟩
  ·have HZ := Hd (show 0 < cutV 32 b by simpa using hz)
   have hz0 : ¬ cutV 32 b = 0 := by have := HZ.out; omega
   rcases hops with rfl | rfl
   all_goals
    go_enter func59, ntmps59
    go_wp2_with fail
    refine (rlong_any _ _).mono ?_
    rintro e w' ⟨rfl, rfl⟩
    go_wp2_with fail
    refine (rcut_any a 32 HA.out _).mono ?_
    rintro e w' ⟨rfl, rfl⟩
    go_wp2_with fail
    refine (rcut_any b 32 HB.out _).mono ?_
    rintro e w' ⟨rfl, rfl⟩
    go_wp2_with fail
    try
     refine (rsign_any (x := 32) _ (by omega) HCA.out _).mono ?_
     rintro e w' ⟨rfl, rfl⟩
     go_wp2_with fail
    refine (rcut_any _ 32 (by first | exact rw_u64 _ | exact rb_u64 _ _ _ | exact rs_u64 _ HCA.out | exact HCB.out | exact HCA.out | exact rm_u64 HCA.out HCB.out HZ.out | (unfold U64; omega)) _).mono ?_
    rintro e w' ⟨rfl, rfl⟩
    go_wp2
    go_ret2
    exact ⟨ret_t (by have h := HZ.out; have h2 : ¬ cutV 32 b = 0 := (by omega); unfold doU doV; simp [h2]), rfl⟩
 ·rcases hops with rfl | rfl | rfl | rfl | rfl | rfl | rfl | rfl | rfl | rfl | rfl
  all_goals
   go_enter func59, ntmps59
   go_wp2_with fail
   refine (rlong_any _ _).mono ?_
   rintro e w' ⟨rfl, rfl⟩
   go_wp2_with fail
   refine (rcut_any a 32 HA.out _).mono ?_
   rintro e w' ⟨rfl, rfl⟩
   go_wp2_with fail
   refine (rcut_any b 32 HB.out _).mono ?_
   rintro e w' ⟨rfl, rfl⟩
   go_wp2_with fail
   try
    refine (rsign_any (x := 32) _ (by omega) HCA.out _).mono ?_
    rintro e w' ⟨rfl, rfl⟩
    go_wp2_with fail
   refine (rcut_any _ 32 (by first | exact rw_u64 _ | exact rb_u64 _ _ _ | exact rs_u64 _ HCA.out | exact HCB.out | exact HCA.out | exact rm_u64 HCA.out HCB.out HZ.out | (unfold U64; omega)) _).mono ?_
   rintro e w' ⟨rfl, rfl⟩
   go_wp2
   go_ret2
   exact ⟨ret_t (by unfold doU; rw [← HBY.out]; rfl), rfl⟩
theorem rdo_64 {op : Int} (h : 0 ≤ op ∧ op ≤ 12) (a b : Int) (hA : U64 a) (hB : U64 b) (w : World) : Calls prog 59 #[.int .i8 op, .int .i8 64, .int .u64 a, .int .u64 b] w fun e w' => e = .returned (.tuple #[.int .u64 (doU op 64 a b), .int .i64 0]) ∧ w = w' := by
 have HA := Hd hA
 have HB := Hd hB
 have HCA := Hd (rc_u64 (x := 64) hA)
 have HCB := Hd (rc_u64 (x := 64) hB)
 have hyb := byV_bd (x := 64) (by omega) hB
 obtain ⟨y, hy⟩ : ∃ y, bits .and .u64 (cutV 64 b) 63 = y := ⟨_, rfl⟩
 have HBY := Hd (show y = byV 64 b from hy.symm)
 rw [← HBY.out] at hyb
 obtain ⟨hy0, hy1⟩ := hyb
 clear hA hB
 have hops : (op = 3 ∨ op = 9) ∨ (op = 0 ∨ op = 1 ∨ op = 2 ∨ op = 4 ∨ op = 5 ∨ op = 6 ∨ op = 7 ∨ op = 8 ∨ op = 10 ∨ op = 11 ∨ op = 12) := by omega
 clear h
 rcases hops with hops | hops
 ·cases hz : decide (0 < cutV 64 b)
  ·have HZ := Hd (show cutV 64 b = 0 by have := HCB.out; unfold U64 at this; simp at hz; omega)
   rcases hops with rfl | rfl
   all_goals
    go_enter func59, ntmps59
    go_wp2_with fail
    refine (rlong_any _ _).mono ?_
    rintro e w' ⟨rfl, rfl⟩
    go_wp2_with fail
    refine (rcut_any a 64 HA.out _).mono ?_
    rintro e w' ⟨rfl, rfl⟩
    go_wp2_with fail
    refine (rcut_any b 64 HB.out _).mono ?_
    rintro e w' ⟨rfl, rfl⟩
    go_wp2_with fail
    try
     refine (rsign_any (x := 64) _ (by omega) HCA.out _).mono ?_
     rintro e w' ⟨rfl, rfl⟩
     go_wp2_with fail
    refine (rcut_any _ 64 (by first | exact rw_u64 _ | exact rb_u64 _ _ _ | exact rs_u64 _ HCA.out | exact HCB.out | exact HCA.out | exact rm_u64 HCA.out HCB.out HZ.out | (unfold U64; omega)) _).mono ?_
    rintro e w' ⟨rfl, rfl⟩
    go_wp2
    go_ret2
    exact ⟨ret_t (by unfold doU doV; rw [HZ.out]; simp), rfl⟩
  ·have HZ := Hd (show 0 < cutV 64 b by simpa using hz)
   have hz0 : ¬ cutV 64 b = 0 := by have := HZ.out; omega
   rcases hops with rfl | rfl
   all_goals
    go_enter func59, ntmps59
    go_wp2_with fail
    refine (rlong_any _ _).mono ?_
    rintro e w' ⟨rfl, rfl⟩
    go_wp2_with fail
    refine (rcut_any a 64 HA.out _).mono ?_
    rintro e w' ⟨rfl, rfl⟩
    go_wp2_with fail
    refine (rcut_any b 64 HB.out _).mono ?_
    rintro e w' ⟨rfl, rfl⟩
    go_wp2_with fail
    try
     refine (rsign_any (x := 64) _ (by omega) HCA.out _).mono ?_
     rintro e w' ⟨rfl, rfl⟩
     go_wp2_with fail
    refine (rcut_any _ 64 (by first | exact rw_u64 _ | exact rb_u64 _ _ _ | exact rs_u64 _ HCA.out | exact HCB.out | exact HCA.out | exact rm_u64 HCA.out HCB.out HZ.out | (unfold U64; omega)) _).mono ?_
    rintro e w' ⟨rfl, rfl⟩
    go_wp2
    go_ret2
    exact ⟨ret_t (by have h := HZ.out; have h2 : ¬ cutV 64 b = 0 := (by omega); unfold doU doV; simp [h2]), rfl⟩
 ·rcases hops with rfl | rfl | rfl | rfl | rfl | rfl | rfl | rfl | rfl | rfl | rfl
  all_goals
   go_enter func59, ntmps59
   go_wp2_with fail
   refine (rlong_any _ _).mono ?_
   rintro e w' ⟨rfl, rfl⟩
   go_wp2_with fail
   refine (rcut_any a 64 HA.out _).mono ?_
   rintro e w' ⟨rfl, rfl⟩
   go_wp2_with fail
   refine (rcut_any b 64 HB.out _).mono ?_
   rintro e w' ⟨rfl, rfl⟩
   go_wp2_with fail
   try
    refine (rsign_any (x := 64) _ (by omega) HCA.out _).mono ?_
    rintro e w' ⟨rfl, rfl⟩
    go_wp2_with fail
   refine (rcut_any _ 64 (by first | exact rw_u64 _ | exact rb_u64 _ _ _ | exact rs_u64 _ HCA.out | exact HCB.out | exact HCA.out | exact rm_u64 HCA.out HCB.out HZ.out | (unfold U64; omega)) _).mono ?_
   rintro e w' ⟨rfl, rfl⟩
   go_wp2
   go_ret2
   exact ⟨ret_t (by unfold doU; rw [← HBY.out]; rfl), rfl⟩
theorem ho_val (u v : Int) : (ordV u v == 0) = (u == v) ∧ (ordV u v != 0) = (u != v) ∧ decide (0 < ordV u v) = decide (v < u) ∧ decide (0 ≤ ordV u v) = decide (v ≤ u) ∧ decide (ordV u v < 0) = decide (u < v) ∧ decide (ordV u v ≤ 0) = decide (u ≤ v) := by
 unfold ordV bne
 by_cases h1 : u < v
 ·rw [if_pos h1]
  have h2 : (u == v) = false := by simp; omega
  have h3 : ¬ v < u := by omega
  have h4 : ¬ v ≤ u := by omega
  have h5 : u ≤ v := by omega
  simp [h1, h2, h3, h4, h5]
 ·rw [if_neg h1]
  by_cases h2 : v < u
  ·rw [if_pos h2]
   have h3 : (u == v) = false := by simp; omega
   have h4 : v ≤ u := by omega
   have h5 : ¬ u ≤ v := by omega
   simp [h1, h2, h3, h4, h5]
  ·rw [if_neg h2]
   have h3 : u = v := by omega
   subst h3
   simp
theorem ret_hb {a b : Bool} {k : Int} (h : a = b) : Ending.returned (.tuple #[.bool a, .int .i64 k]) = .returned (.tuple #[.bool b, .int .i64 k]) := by rw [h]
theorem rholds_32 {cc : Int} (h : 0 ≤ cc ∧ cc ≤ 10) (a b : Int) (hA : U64 a) (hB : U64 b) (w : World) : Calls prog 65 #[.int .i8 cc, .int .i8 32, .int .u64 a, .int .u64 b] w fun e w' => e = .returned (.tuple #[.bool (holdsU cc 32 a b), .int .i64 0]) ∧ w = w' := by
 have HA := Hd hA
 have HB := Hd hB
 have HCA := Hd (rc_u64 (x := 32) hA)
 have HCB := Hd (rc_u64 (x := 32) hB)
 clear hA hB
 have hops : cc = 0 ∨ cc = 1 ∨ cc = 2 ∨ cc = 3 ∨ cc = 4 ∨ cc = 5 ∨ cc = 6 ∨ cc = 7 ∨ cc = 8 ∨ cc = 9 ∨ cc = 10 := by omega
 clear h
 rcases hops with rfl | rfl | rfl | rfl | rfl | rfl | rfl | rfl | rfl | rfl | rfl
 all_goals
  go_enter func65, ntmps65
  go_wp2_with fail
  refine (rlong_any _ _).mono ?_
  rintro e w' ⟨rfl, rfl⟩
  go_wp2_with fail
  refine (rcut_any a 32 HA.out _).mono ?_
  rintro e w' ⟨rfl, rfl⟩
  go_wp2_with fail
  refine (rcut_any b 32 HB.out _).mono ?_
  rintro e w' ⟨rfl, rfl⟩
  go_wp2_with fail
  refine (rsign_any (x := 32) _ (by omega) HCA.out _).mono ?_
  rintro e w' ⟨rfl, rfl⟩
  go_wp2_with fail
  refine (rsign_any (x := 32) _ (by omega) HCB.out _).mono ?_
  rintro e w' ⟨rfl, rfl⟩
  go_wp2
  go_ret2
  exact ⟨by first | rfl | exact ret_hb (by show _ = (ordV (cutV 32 a) (cutV 32 b) == 0); rw [(ho_val (cutV 32 a) (cutV 32 b)).1]) | exact ret_hb (by show _ = (ordV (cutV 32 a) (cutV 32 b) != 0); rw [(ho_val (cutV 32 a) (cutV 32 b)).2.1]) | exact ret_hb (by show _ = decide (0 < ordV (cutV 32 a) (cutV 32 b)); rw [(ho_val (cutV 32 a) (cutV 32 b)).2.2.1]) | exact ret_hb (by show _ = decide (0 ≤ ordV (cutV 32 a) (cutV 32 b)); rw [(ho_val (cutV 32 a) (cutV 32 b)).2.2.2.1]) | exact ret_hb (by show _ = decide (ordV (cutV 32 a) (cutV 32 b) < 0); rw [(ho_val (cutV 32 a) (cutV 32 b)).2.2.2.2.1]) | exact ret_hb (by show _ = decide (ordV (cutV 32 a) (cutV 32 b) ≤ 0); rw [(ho_val (cutV 32 a) (cutV 32 b)).2.2.2.2.2]) | exact ret_hb (by show _ = decide (0 < ordV (wrap64 (signU 32 (cutV 32 a))) (wrap64 (signU 32 (cutV 32 b)))); rw [(ho_val (wrap64 (signU 32 (cutV 32 a))) (wrap64 (signU 32 (cutV 32 b)))).2.2.1]) | exact ret_hb (by show _ = decide (0 ≤ ordV (wrap64 (signU 32 (cutV 32 a))) (wrap64 (signU 32 (cutV 32 b)))); rw [(ho_val (wrap64 (signU 32 (cutV 32 a))) (wrap64 (signU 32 (cutV 32 b)))).2.2.2.1]) | exact ret_hb (by show _ = decide (ordV (wrap64 (signU 32 (cutV 32 a))) (wrap64 (signU 32 (cutV 32 b))) < 0); rw [(ho_val (wrap64 (signU 32 (cutV 32 a))) (wrap64 (signU 32 (cutV 32 b)))).2.2.2.2.1]) | exact ret_hb (by show _ = decide (ordV (wrap64 (signU 32 (cutV 32 a))) (wrap64 (signU 32 (cutV 32 b))) ≤ 0); rw [(ho_val (wrap64 (signU 32 (cutV 32 a))) (wrap64 (signU 32 (cutV 32 b)))).2.2.2.2.2]), rfl⟩
theorem rholds_64 {cc : Int} (h : 0 ≤ cc ∧ cc ≤ 10) (a b : Int) (hA : U64 a) (hB : U64 b) (w : World) : Calls prog 65 #[.int .i8 cc, .int .i8 64, .int .u64 a, .int .u64 b] w fun e w' => e = .returned (.tuple #[.bool (holdsU cc 64 a b), .int .i64 0]) ∧ w = w' := by
 have HA := Hd hA
 have HB := Hd hB
 have HCA := Hd (rc_u64 (x := 64) hA)
 have HCB := Hd (rc_u64 (x := 64) hB)
 clear hA hB
 have hops : cc = 0 ∨ cc = 1 ∨ cc = 2 ∨ cc = 3 ∨ cc = 4 ∨ cc = 5 ∨ cc = 6 ∨ cc = 7 ∨ cc = 8 ∨ cc = 9 ∨ cc = 10 := by omega
 clear h
 rcases hops with rfl | rfl | rfl | rfl | rfl | rfl | rfl | rfl | rfl | rfl | rfl
 all_goals
  go_enter func65, ntmps65
  go_wp2_with fail
  refine (rlong_any _ _).mono ?_
  rintro e w' ⟨rfl, rfl⟩
  go_wp2_with fail
  refine (rcut_any a 64 HA.out _).mono ?_
  rintro e w' ⟨rfl, rfl⟩
  go_wp2_with fail
  refine (rcut_any b 64 HB.out _).mono ?_
  rintro e w' ⟨rfl, rfl⟩
  go_wp2_with fail
  refine (rsign_any (x := 64) _ (by omega) HCA.out _).mono ?_
  rintro e w' ⟨rfl, rfl⟩
  go_wp2_with fail
  refine (rsign_any (x := 64) _ (by omega) HCB.out _).mono ?_
  rintro e w' ⟨rfl, rfl⟩
  go_wp2
  go_ret2
  exact ⟨by first | rfl | exact ret_hb (by show _ = (ordV (cutV 64 a) (cutV 64 b) == 0); rw [(ho_val (cutV 64 a) (cutV 64 b)).1]) | exact ret_hb (by show _ = (ordV (cutV 64 a) (cutV 64 b) != 0); rw [(ho_val (cutV 64 a) (cutV 64 b)).2.1]) | exact ret_hb (by show _ = decide (0 < ordV (cutV 64 a) (cutV 64 b)); rw [(ho_val (cutV 64 a) (cutV 64 b)).2.2.1]) | exact ret_hb (by show _ = decide (0 ≤ ordV (cutV 64 a) (cutV 64 b)); rw [(ho_val (cutV 64 a) (cutV 64 b)).2.2.2.1]) | exact ret_hb (by show _ = decide (ordV (cutV 64 a) (cutV 64 b) < 0); rw [(ho_val (cutV 64 a) (cutV 64 b)).2.2.2.2.1]) | exact ret_hb (by show _ = decide (ordV (cutV 64 a) (cutV 64 b) ≤ 0); rw [(ho_val (cutV 64 a) (cutV 64 b)).2.2.2.2.2]) | exact ret_hb (by show _ = decide (0 < ordV (wrap64 (signU 64 (cutV 64 a))) (wrap64 (signU 64 (cutV 64 b)))); rw [(ho_val (wrap64 (signU 64 (cutV 64 a))) (wrap64 (signU 64 (cutV 64 b)))).2.2.1]) | exact ret_hb (by show _ = decide (0 ≤ ordV (wrap64 (signU 64 (cutV 64 a))) (wrap64 (signU 64 (cutV 64 b)))); rw [(ho_val (wrap64 (signU 64 (cutV 64 a))) (wrap64 (signU 64 (cutV 64 b)))).2.2.2.1]) | exact ret_hb (by show _ = decide (ordV (wrap64 (signU 64 (cutV 64 a))) (wrap64 (signU 64 (cutV 64 b))) < 0); rw [(ho_val (wrap64 (signU 64 (cutV 64 a))) (wrap64 (signU 64 (cutV 64 b)))).2.2.2.2.1]) | exact ret_hb (by show _ = decide (ordV (wrap64 (signU 64 (cutV 64 a))) (wrap64 (signU 64 (cutV 64 b))) ≤ 0); rw [(ho_val (wrap64 (signU 64 (cutV 64 a))) (wrap64 (signU 64 (cutV 64 b)))).2.2.2.2.2]), rfl⟩
theorem rdo_yes {op x : Int} (a b : Int) (hA : U64 a) (hB : U64 b) (w : World) (h : doOk op x = true) : Calls prog 59 #[.int .i8 op, .int .i8 x, .int .u64 a, .int .u64 b] w fun e w' => e = .returned (.tuple #[.int .u64 (doU op x a b), .int .i64 0]) ∧ w = w' := by
 obtain ⟨hx, h0, h1⟩ := doOk_yes h
 rcases hx with rfl | rfl
 ·exact rdo_32 ⟨h0, h1⟩ a b hA hB w
 ·exact rdo_64 ⟨h0, h1⟩ a b hA hB w
theorem rholds_yes {cc x : Int} (a b : Int) (hA : U64 a) (hB : U64 b) (w : World) (h : holdsOk cc x = true) : Calls prog 65 #[.int .i8 cc, .int .i8 x, .int .u64 a, .int .u64 b] w fun e w' => e = .returned (.tuple #[.bool (holdsU cc x a b), .int .i64 0]) ∧ w = w' := by
 obtain ⟨hx, h0, h1⟩ := holdsOk_yes h
 rcases hx with rfl | rfl
 ·exact rholds_32 ⟨h0, h1⟩ a b hA hB w
 ·exact rholds_64 ⟨h0, h1⟩ a b hA hB w
end Go.Proofs.YtepagfkkjlbipaaGreat
