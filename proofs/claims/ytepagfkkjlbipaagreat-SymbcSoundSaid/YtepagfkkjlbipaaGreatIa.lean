/-
  instr.May and what it calls: which instructions may be. Conditions: those written in each statement.
-/
import Derived.Test.YtepagfkkjlbipaaGreatProg
import Derived.Test.YtepagfkkjlbipaaGreatKac
import Derived.Deep.DeepCutAuto
import Derived.Deep.RegionWith
import Derived.Deep.RegionLaw
import Derived.Deep.CutBlock
set_option linter.unusedVariables false
set_option linter.unusedSimpArgs false
set_option maxHeartbeats 64000000
set_option maxRecDepth 100000
namespace Go.Proofs.YtepagfkkjlbipaaGreat
open Tryz
open Go.RowKit
theorem ret_b {a b : Bool} (h : a = b) : Ending.returned (.bool a) = .returned (.bool b) := by rw [h]
theorem ret_ia {k : IntKind} {a b : Int} (h : a = b) : Ending.returned (.int k a) = .returned (.int k b) := by rw [h]
theorem all_one {cs : List Value} (h : ∀ v ∈ cs, v.oneCell' = true) : cs.toArray.all (·.oneCell') = true :=
 Array.all_eq_true_iff_forall_mem.2 (fun v hv => h v (by simpa using hv))
theorem infI : (prog.info? 47).map (fun i => (i.zero, i.size, i.bytes)) = some (some (.agg #[.int .i8 0, .int .i8 0, .int .i8 0, .int .i8 0, .bool false, .int .i8 0, .int .i8 0, .int .i64 0, .int .i64 0]), 9, 24) := by kernel_rfl
theorem flatI : flatK prog 4 47 = some instrK := by kernel_rfl
theorem okI : eqOk prog 4 47 = true := by kernel_rfl
theorem aggI : aggT prog 47 = true := by kernel_rfl
theorem sizI : (prog.info? 47).map (·.size) = some 9 := by kernel_rfl
theorem eql_id {x y : ID} (hx : x.wf) (hy : y.wf) (w : World) : (binOp .eql 47 (.agg x.cells.toArray) (.agg y.cells.toArray)).run prog w = .ok (.bool (eqL x.cells y.cells)) w :=
 run_eql_flat (by omega) flatI okI aggI (ID.all hx) (ID.all hy) w
theorem neq_id {x y : ID} (hx : x.wf) (hy : y.wf) (w : World) : (binOp .neq 47 (.agg x.cells.toArray) (.agg y.cells.toArray)).run prog w = .ok (.bool (!eqL x.cells y.cells)) w :=
 run_neq_flat (by omega) flatI okI aggI (ID.all hx) (ID.all hy) w
theorem within8 (n a b : Int) (w : World) : Calls prog 155 #[.int .i8 n, .int .i8 a, .int .i8 b] w fun e w' => e = .returned (.bool (inB n a b)) ∧ w = w' := by
 by_cases h : a ≤ n
 ·go_enter func155, ntmps155
  go_wp2
  go_ret
  exact ⟨ret_b (by unfold inB; simp [h] <;> omega), rfl⟩
 ·go_enter func155, ntmps155
  go_wp2
  go_ret
  exact ⟨ret_b (by unfold inB; simp [h] <;> omega), rfl⟩
theorem within64 (n a b : Int) (w : World) : Calls prog 109 #[.int .i64 n, .int .i64 a, .int .i64 b] w fun e w' => e = .returned (.bool (inB n a b)) ∧ w = w' := by
 by_cases h : a ≤ n
 ·go_enter func109, ntmps109
  go_wp2
  go_ret
  exact ⟨ret_b (by unfold inB; simp [h] <;> omega), rfl⟩
 ·go_enter func109, ntmps109
  go_wp2
  go_ret
  exact ⟨ret_b (by unfold inB; simp [h] <;> omega), rfl⟩
theorem sized_any (n : Int) (w : World) : Calls prog 173 #[.int .i8 n] w fun e w' => e = .returned (.bool (szB n)) ∧ w = w' := by
 go_enter func173, ntmps173
 go_wp2
 all_goals
  go_ret
  exact ⟨ret_b (by unfold szB; simp_all), rfl⟩
def BareP (x : ID) (w : World) (e : Ending) (w' : World) : Prop := e = .returned (.tuple #[.agg (bareR x).cells.toArray, .bool (bareM x)]) ∧ Below w.heap.size w w'
theorem imm_any (k op wd sz : Int) (br : Bool) (dst src off imm : Int) (g : Nat) (w : World) (hB : Blk w g 47 #[.int .i8 k, .int .i8 op, .int .i8 wd, .int .i8 sz, .bool br, .int .i8 dst, .int .i8 src, .int .i64 off, .int .i64 imm]) :
 Calls prog 172 #[.pointer (some ⟨g, 0, none⟩)] w fun e w' => e = .returned (.tuple #[]) ∧ (if br then w.setCell ⟨g, 6, none⟩ (.int .i8 0) else w.setCell ⟨g, 8, none⟩ (.int .i64 0)).setCell ⟨g, 4, none⟩ (.bool false) = w' := by
 have c4 : w.cell? ⟨g, 4, none⟩ = some (.bool br) := hB.cell 4
 have c6 : w.cell? ⟨g, 6, none⟩ = some (.int .i8 src) := hB.cell 6
 have c8 : w.cell? ⟨g, 8, none⟩ = some (.int .i64 imm) := hB.cell 8
 have f4 := hB.frozen 4
 have f6 := hB.frozen 6
 have f8 := hB.frozen 8
 clear hB
 cases br
 all_goals
  go_enter func172, ntmps172
  go_wp2
  go_end0
  exact ⟨rfl, rfl⟩
theorem bare_0 (op wd sz dst src off imm : Int) (br : Bool) (w : World) : Calls prog 156 #[.agg #[.int .i8 0, .int .i8 op, .int .i8 wd, .int .i8 sz, .bool br, .int .i8 dst, .int .i8 src, .int .i64 off, .int .i64 imm]] w (BareP ⟨0, op, wd, sz, br, dst, src, off, imm⟩ w) := by
 go_enter func156, ntmps156
 go_upto_region 4 with fail
 go_cut [3] (fun v wc => v = .bool (bareM ⟨0, op, wd, sz, br, dst, src, off, imm⟩) ∧ wc = (w.alloc (.cells #[.int .i8 0, .int .i8 op, .int .i8 wd, .int .i8 sz, .bool br, .int .i8 dst, .int .i8 src, .int .i64 off, .int .i64 imm] 47)).alloc (.cells #[.int .i8 0, .int .i8 0, .int .i8 0, .int .i8 0, .bool false, .int .i8 0, .int .i8 0, .int .i64 0, .int .i64 0] 47))
 case first =>
  cases hin : inB op 0 12
  ·go_wp2_with (go_at_call 155; refine (within8 _ _ _ _).mono ?_; rintro e w' ⟨rfl, rfl⟩; rw [hin])
   go_meet
   exact ⟨by simp [bareM, hin], rfl⟩
  ·cases h32 : (wd == 32)
   ·cases h64 : (wd == 64)
    ·go_wp2_with (go_at_call 155; refine (within8 _ _ _ _).mono ?_; rintro e w' ⟨rfl, rfl⟩; rw [hin])
     go_meet
     exact ⟨by simp [bareM, hin, h32, h64], rfl⟩
    ·cases hd : decide (dst < 10)
     ·go_wp2_with (go_at_call 155; refine (within8 _ _ _ _).mono ?_; rintro e w' ⟨rfl, rfl⟩; rw [hin])
      go_meet
      exact ⟨by simp [bareM, hin, h32, h64, hd], rfl⟩
     ·cases h8 : (op == 8)
      ·have h8' : (op != 8) = true := by simp [bne, h8]
       go_wp2_with (go_at_call 155; refine (within8 _ _ _ _).mono ?_; rintro e w' ⟨rfl, rfl⟩; rw [hin])
       go_meet
       exact ⟨by simp [bareM, hin, h32, h64, hd, h8, h8'], rfl⟩
      ·have h8' : (op != 8) = false := by simp [bne, h8]
       cases br
       ·go_wp2_with (go_at_call 155; refine (within8 _ _ _ _).mono ?_; rintro e w' ⟨rfl, rfl⟩; rw [hin])
        go_meet
        exact ⟨by simp [bareM, hin, h32, h64, hd, h8, h8'], rfl⟩
       ·go_wp2_with (go_at_call 155; refine (within8 _ _ _ _).mono ?_; rintro e w' ⟨rfl, rfl⟩; rw [hin])
        go_meet
        exact ⟨by simp [bareM, hin, h32, h64, hd, h8, h8'], rfl⟩
   ·cases hd : decide (dst < 10)
    ·go_wp2_with (go_at_call 155; refine (within8 _ _ _ _).mono ?_; rintro e w' ⟨rfl, rfl⟩; rw [hin])
     go_meet
     exact ⟨by simp [bareM, hin, h32, hd], rfl⟩
    ·cases h8 : (op == 8)
     ·have h8' : (op != 8) = true := by simp [bne, h8]
      go_wp2_with (go_at_call 155; refine (within8 _ _ _ _).mono ?_; rintro e w' ⟨rfl, rfl⟩; rw [hin])
      go_meet
      exact ⟨by simp [bareM, hin, h32, hd, h8, h8'], rfl⟩
     ·have h8' : (op != 8) = false := by simp [bne, h8]
      cases br
      ·go_wp2_with (go_at_call 155; refine (within8 _ _ _ _).mono ?_; rintro e w' ⟨rfl, rfl⟩; rw [hin])
       go_meet
       exact ⟨by simp [bareM, hin, h32, hd, h8, h8'], rfl⟩
      ·go_wp2_with (go_at_call 155; refine (within8 _ _ _ _).mono ?_; rintro e w' ⟨rfl, rfl⟩; rw [hin])
       go_meet
       exact ⟨by simp [bareM, hin, h32, hd, h8, h8'], rfl⟩
 case rest =>
  obtain ⟨rfl, rfl⟩ := hcut
  obtain ⟨m, hm⟩ : ∃ m, bareM ⟨0, op, wd, sz, br, dst, src, off, imm⟩ = m := ⟨_, rfl⟩
  rw [hm]
  have HM := Hd hm
  clear hm
  cases br
  ·go_wp2_with (go_at_call 172; refine (imm_any 0 op wd sz _ dst src off imm _ _ ((Blk.new w _ _).alloc _)).mono ?_; rintro e w' ⟨rfl, rfl⟩)
   refine bodyPost_ret (v := .tuple #[.agg (bareR ⟨0, op, wd, sz, false, dst, src, off, imm⟩).cells.toArray, .bool m]) (by simp [results, results156, go_sem, bareR, immR, ID.cells]) rfl ⟨by rw [HM.out], ?_⟩
   exact ((Below.refl _ _).alloc (Nat.le_refl _) _).alloc (le_alloc _ (Nat.le_refl _)) _
  ·go_wp2_with (go_at_call 172; refine (imm_any 0 op wd sz _ dst src off imm _ _ ((Blk.new w _ _).alloc _)).mono ?_; rintro e w' ⟨rfl, rfl⟩)
   refine bodyPost_ret (v := .tuple #[.agg (bareR ⟨0, op, wd, sz, true, dst, src, off, imm⟩).cells.toArray, .bool m]) (by simp [results, results156, go_sem, bareR, immR, ID.cells]) rfl ⟨by rw [HM.out], ?_⟩
   exact ((Below.refl _ _).alloc (Nat.le_refl _) _).alloc (le_alloc _ (Nat.le_refl _)) _
theorem bare_3 (op wd sz dst src off imm : Int) (br : Bool) (w : World) : Calls prog 156 #[.agg #[.int .i8 3, .int .i8 op, .int .i8 wd, .int .i8 sz, .bool br, .int .i8 dst, .int .i8 src, .int .i64 off, .int .i64 imm]] w (BareP ⟨3, op, wd, sz, br, dst, src, off, imm⟩ w) := by
 go_enter func156, ntmps156
 go_upto_region 14 with fail
 go_cut [3] (fun v wc => v = .bool (bareM ⟨3, op, wd, sz, br, dst, src, off, imm⟩) ∧ wc = (w.alloc (.cells #[.int .i8 3, .int .i8 op, .int .i8 wd, .int .i8 sz, .bool br, .int .i8 dst, .int .i8 src, .int .i64 off, .int .i64 imm] 47)).alloc (.cells #[.int .i8 0, .int .i8 0, .int .i8 0, .int .i8 0, .bool false, .int .i8 0, .int .i8 0, .int .i64 0, .int .i64 0] 47))
 case first =>
  cases hin : inB op 0 10
  all_goals
   go_wp2_with (go_at_call 155; refine (within8 _ _ _ _).mono ?_; rintro e w' ⟨rfl, rfl⟩; rw [hin])
   go_meet
   exact ⟨by simp [bareM, hin], rfl⟩
 case rest =>
  obtain ⟨rfl, rfl⟩ := hcut
  obtain ⟨m, hm⟩ : ∃ m, bareM ⟨3, op, wd, sz, br, dst, src, off, imm⟩ = m := ⟨_, rfl⟩
  rw [hm]
  have HM := Hd hm
  clear hm
  cases br
  ·go_wp2_with (go_at_call 172; refine (imm_any 3 op wd sz _ dst src off imm _ _ ((Blk.new w _ _).alloc _)).mono ?_; rintro e w' ⟨rfl, rfl⟩)
   refine bodyPost_ret (v := .tuple #[.agg (bareR ⟨3, op, wd, sz, false, dst, src, off, imm⟩).cells.toArray, .bool m]) (by simp [results, results156, go_sem, bareR, immR, ID.cells]) rfl ⟨by rw [HM.out], ?_⟩
   exact ((Below.refl _ _).alloc (Nat.le_refl _) _).alloc (le_alloc _ (Nat.le_refl _)) _
  ·go_wp2_with (go_at_call 172; refine (imm_any 3 op wd sz _ dst src off imm _ _ ((Blk.new w _ _).alloc _)).mono ?_; rintro e w' ⟨rfl, rfl⟩)
   refine bodyPost_ret (v := .tuple #[.agg (bareR ⟨3, op, wd, sz, true, dst, src, off, imm⟩).cells.toArray, .bool m]) (by simp [results, results156, go_sem, bareR, immR, ID.cells]) rfl ⟨by rw [HM.out], ?_⟩
   exact ((Below.refl _ _).alloc (Nat.le_refl _) _).alloc (le_alloc _ (Nat.le_refl _)) _
theorem bare_k (k op wd sz dst src off imm : Int) (br : Bool) (w : World) (hk : k = 1 ∨ k = 2 ∨ k = 4 ∨ k = 5 ∨ k = 6) : Calls prog 156 #[.agg #[.int .i8 k, .int .i8 op, .int .i8 wd, .int .i8 sz, .bool br, .int .i8 dst, .int .i8 src, .int .i64 off, .int .i64 imm]] w (BareP ⟨k, op, wd, sz, br, dst, src, off, imm⟩ w) := by
 obtain ⟨y, hy⟩ : ∃ y, (⟨k, op, wd, sz, br, dst, src, off, imm⟩ : ID) = y := ⟨_, rfl⟩
 rw [hy]
 have HY := Hd hy
 clear hy
 rcases hk with rfl | rfl | rfl | rfl | rfl
 all_goals
  go_enter func156, ntmps156
  go_wp2_with (first
   | (go_at_call 155; refine (within8 _ _ _ _).mono ?_; rintro e w' ⟨rfl, rfl⟩; cases hin : inB op 0 12)
   | (go_at_call 109; refine (within64 _ _ _ _).mono ?_; rintro e w' ⟨rfl, rfl⟩; cases hin : inB imm 0 15)
   | (go_at_call 173; refine (sized_any _ _).mono ?_; rintro e w' ⟨rfl, rfl⟩; cases hsz : szB sz)
   | go_in
   | go_back)
  all_goals
   refine bodyPost_ret (v := .tuple #[.agg (bareR y).cells.toArray, .bool (bareM y)]) (by rw [← HY.out]; simp [results, results156, go_sem, bareR, bareM, immR, ID.cells, *]) rfl ⟨rfl, ?_⟩
   exact ((Below.refl _ _).alloc (Nat.le_refl _) _).alloc (le_alloc _ (Nat.le_refl _)) _
theorem bare_x (k op wd sz dst src off imm : Int) (br : Bool) (w : World) (h0 : ¬ k = 0) (h1 : ¬ k = 1) (h2 : ¬ k = 2) (h3 : ¬ k = 3) (h4 : ¬ k = 4) (h5 : ¬ k = 5) (h6 : ¬ k = 6) : Calls prog 156 #[.agg #[.int .i8 k, .int .i8 op, .int .i8 wd, .int .i8 sz, .bool br, .int .i8 dst, .int .i8 src, .int .i64 off, .int .i64 imm]] w (BareP ⟨k, op, wd, sz, br, dst, src, off, imm⟩ w) := by
 go_enter func156, ntmps156
 go_wp2_with (first
  | (go_at_call 155; refine (within8 _ _ _ _).mono ?_; rintro e w' ⟨rfl, rfl⟩; cases hin : inB op 0 12)
  | (go_at_call 109; refine (within64 _ _ _ _).mono ?_; rintro e w' ⟨rfl, rfl⟩; cases hin : inB imm 0 15)
  | (go_at_call 173; refine (sized_any _ _).mono ?_; rintro e w' ⟨rfl, rfl⟩; cases hsz : szB sz)
  | go_in
  | go_back)
 all_goals
  refine bodyPost_ret (v := .tuple #[.agg (bareR ⟨k, op, wd, sz, br, dst, src, off, imm⟩).cells.toArray, .bool (bareM ⟨k, op, wd, sz, br, dst, src, off, imm⟩)]) (by simp [results, results156, go_sem, bareR, bareM, immR, ID.cells, *]) rfl ⟨rfl, ?_⟩
  exact ((Below.refl _ _).alloc (Nat.le_refl _) _).alloc (le_alloc _ (Nat.le_refl _)) _
theorem bare_any (x : ID) (w : World) : Calls prog 156 #[.agg x.cells.toArray] w (BareP x w) := by
 obtain ⟨k, op, wd, sz, br, dst, src, off, imm⟩ := x
 rcases Decidable.em (k = 0) with rfl | h0
 ·exact bare_0 op wd sz dst src off imm br w
 rcases Decidable.em (k = 1) with rfl | h1
 ·exact bare_k 1 op wd sz dst src off imm br w (by omega)
 rcases Decidable.em (k = 2) with rfl | h2
 ·exact bare_k 2 op wd sz dst src off imm br w (by omega)
 rcases Decidable.em (k = 3) with rfl | h3
 ·exact bare_3 op wd sz dst src off imm br w
 rcases Decidable.em (k = 4) with rfl | h4
 ·exact bare_k 4 op wd sz dst src off imm br w (by omega)
 rcases Decidable.em (k = 5) with rfl | h5
 ·exact bare_k 5 op wd sz dst src off imm br w (by omega)
 rcases Decidable.em (k = 6) with rfl | h6
 ·exact bare_k 6 op wd sz dst src off imm br w (by omega)
 exact bare_x k op wd sz dst src off imm br w h0 h1 h2 h3 h4 h5 h6
/-! behind bare -/
end Go.Proofs.YtepagfkkjlbipaaGreat
