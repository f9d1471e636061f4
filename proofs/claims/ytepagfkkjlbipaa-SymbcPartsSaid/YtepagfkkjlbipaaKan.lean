/-
  instr.May and what it calls: which instructions may be. Conditions: those written in each statement.
  Plain words on programs: which may be. Conditions: those written in each statement.
  How many arguments a host takes. Conditions: those written in each statement.
  symbc in plain words: the machine that goes through a block. Conditions: those written in each statement.
  What puts of terms other than variables keep, norm keeps. Conditions: those written in each statement.
-/
import Derived.Test.YtepagfkkjlbipaaProg
import Derived.Test.YtepagfkkjlbipaaKad
import Derived.Deep.DeepCutAuto
import Derived.Deep.RegionWith
import Derived.Deep.RegionLaw
import Derived.Deep.CutBlock
import Derived.Test.YtepagfkkjlbipaaKam
section
namespace Go.Proofs.Ytepagfkkjlbipaa
open Go.RowKit
set_option linter.unusedVariables false
set_option linter.unusedSimpArgs false
theorem ret_b {a b : Bool} (h : a = b) : Ending.returned (.bool a) = .returned (.bool b) := by rw [h]
theorem ret_ia {k : IntKind} {a b : Int} (h : a = b) : Ending.returned (.int k a) = .returned (.int k b) := by rw [h]
theorem all_one {cs : List Value} (h : ∀ v ∈ cs, v.oneCell' = true) : cs.toArray.all (·.oneCell') = true :=
  Array.all_eq_true_iff_forall_mem.2 (fun v hv => h v (by simpa using hv))
theorem infI : (Try.prog.info? 26).map (fun i => (i.zero, i.size, i.bytes)) = some (some (.agg #[.int .i8 0, .int .i8 0, .int .i8 0, .int .i8 0, .bool false, .int .i8 0, .int .i8 0, .int .i64 0, .int .i64 0]), 9, 24) := by kernel_rfl
theorem flatI : flatK Try.prog 4 26 = some instrK := by kernel_rfl
theorem okI : eqOk Try.prog 4 26 = true := by kernel_rfl
theorem aggI : aggT Try.prog 26 = true := by kernel_rfl
theorem sizI : (Try.prog.info? 26).map (·.size) = some 9 := by kernel_rfl
theorem eql_id {x y : ID} (hx : x.wf) (hy : y.wf) (w : World) : (binOp .eql 26 (.agg x.cells.toArray) (.agg y.cells.toArray)).run Try.prog w = .ok (.bool (eqL x.cells y.cells)) w :=
  run_eql_flat (by omega) flatI okI aggI (ID.all hx) (ID.all hy) w
theorem neq_id {x y : ID} (hx : x.wf) (hy : y.wf) (w : World) : (binOp .neq 26 (.agg x.cells.toArray) (.agg y.cells.toArray)).run Try.prog w = .ok (.bool (!eqL x.cells y.cells)) w :=
  run_neq_flat (by omega) flatI okI aggI (ID.all hx) (ID.all hy) w
set_option maxHeartbeats 400000 in
theorem within8 (n a b : Int) (w : World) : Calls Try.prog 89 #[.int .i8 n, .int .i8 a, .int .i8 b] w fun e w' => e = .returned (.bool (inB n a b)) ∧ w = w' := by
  by_cases h : a ≤ n
  · go_enter Try.func89, Try.ntmps89
    go_wp2
    go_ret
    exact ⟨ret_b (by unfold inB; simp [h] <;> omega), rfl⟩
  · go_enter Try.func89, Try.ntmps89
    go_wp2
    go_ret
    exact ⟨ret_b (by unfold inB; simp [h] <;> omega), rfl⟩
set_option maxHeartbeats 400000 in
theorem within64 (n a b : Int) (w : World) : Calls Try.prog 53 #[.int .i64 n, .int .i64 a, .int .i64 b] w fun e w' => e = .returned (.bool (inB n a b)) ∧ w = w' := by
  by_cases h : a ≤ n
  · go_enter Try.func53, Try.ntmps53
    go_wp2
    go_ret
    exact ⟨ret_b (by unfold inB; simp [h] <;> omega), rfl⟩
  · go_enter Try.func53, Try.ntmps53
    go_wp2
    go_ret
    exact ⟨ret_b (by unfold inB; simp [h] <;> omega), rfl⟩
set_option maxHeartbeats 400000 in
theorem sized_any (n : Int) (w : World) : Calls Try.prog 107 #[.int .i8 n] w fun e w' => e = .returned (.bool (szB n)) ∧ w = w' := by
  go_enter Try.func107, Try.ntmps107
  go_wp2
  all_goals
    go_ret
    exact ⟨ret_b (by unfold szB; simp_all), rfl⟩
/-- What bare gives. -/
def BareP (x : ID) (w : World) (e : Ending) (w' : World) : Prop := e = .returned (.tuple #[.agg (bareR x).cells.toArray, .bool (bareM x)]) ∧ Below w.heap.size w w'
set_option maxHeartbeats 400000 in
theorem imm_any (k op wd sz : Int) (br : Bool) (dst src off imm : Int) (g : Nat) (w : World) (hB : Blk w g 26 #[.int .i8 k, .int .i8 op, .int .i8 wd, .int .i8 sz, .bool br, .int .i8 dst, .int .i8 src, .int .i64 off, .int .i64 imm]) :
    Calls Try.prog 106 #[.pointer (some ⟨g, 0, none⟩)] w fun e w' => e = .returned (.tuple #[]) ∧ (if br then w.setCell ⟨g, 6, none⟩ (.int .i8 0) else w.setCell ⟨g, 8, none⟩ (.int .i64 0)).setCell ⟨g, 4, none⟩ (.bool false) = w' := by
  have c4 : w.cell? ⟨g, 4, none⟩ = some (.bool br) := hB.cell 4
  have c6 : w.cell? ⟨g, 6, none⟩ = some (.int .i8 src) := hB.cell 6
  have c8 : w.cell? ⟨g, 8, none⟩ = some (.int .i64 imm) := hB.cell 8
  have f4 := hB.frozen 4
  have f6 := hB.frozen 6
  have f8 := hB.frozen 8
  clear hB
  cases br
  all_goals
    go_enter Try.func106, Try.ntmps106
    go_wp2
    go_end0
    exact ⟨rfl, rfl⟩
set_option maxRecDepth 100000 in
set_option maxHeartbeats 2000000 in
theorem bare_0 (op wd sz dst src off imm : Int) (br : Bool) (w : World) : Calls Try.prog 90 #[.agg #[.int .i8 0, .int .i8 op, .int .i8 wd, .int .i8 sz, .bool br, .int .i8 dst, .int .i8 src, .int .i64 off, .int .i64 imm]] w (BareP ⟨0, op, wd, sz, br, dst, src, off, imm⟩ w) := by
  go_enter Try.func90, Try.ntmps90
  go_upto_region 4 with fail
  go_cut [3] (fun v wc => v = .bool (bareM ⟨0, op, wd, sz, br, dst, src, off, imm⟩) ∧ wc = (w.alloc (.cells #[.int .i8 0, .int .i8 op, .int .i8 wd, .int .i8 sz, .bool br, .int .i8 dst, .int .i8 src, .int .i64 off, .int .i64 imm] 26)).alloc (.cells #[.int .i8 0, .int .i8 0, .int .i8 0, .int .i8 0, .bool false, .int .i8 0, .int .i8 0, .int .i64 0, .int .i64 0] 26))
  case first =>
    cases hin : inB op 0 12
    · go_wp2_with (go_at_call 89; refine (within8 _ _ _ _).mono ?_; rintro e w' ⟨rfl, rfl⟩; rw [hin])
      go_meet
      exact ⟨by simp [bareM, hin], rfl⟩
    · cases h32 : (wd == 32)
      · cases h64 : (wd == 64)
        · go_wp2_with (go_at_call 89; refine (within8 _ _ _ _).mono ?_; rintro e w' ⟨rfl, rfl⟩; rw [hin])
          go_meet
          exact ⟨by simp [bareM, hin, h32, h64], rfl⟩
        · cases hd : decide (dst < 10)
          · go_wp2_with (go_at_call 89; refine (within8 _ _ _ _).mono ?_; rintro e w' ⟨rfl, rfl⟩; rw [hin])
            go_meet
            exact ⟨by simp [bareM, hin, h32, h64, hd], rfl⟩
          · cases h8 : (op == 8)
            · have h8' : (op != 8) = true := by simp [bne, h8]
              go_wp2_with (go_at_call 89; refine (within8 _ _ _ _).mono ?_; rintro e w' ⟨rfl, rfl⟩; rw [hin])
              go_meet
              exact ⟨by simp [bareM, hin, h32, h64, hd, h8, h8'], rfl⟩
            · have h8' : (op != 8) = false := by simp [bne, h8]
              cases br
              · go_wp2_with (go_at_call 89; refine (within8 _ _ _ _).mono ?_; rintro e w' ⟨rfl, rfl⟩; rw [hin])
                go_meet
                exact ⟨by simp [bareM, hin, h32, h64, hd, h8, h8'], rfl⟩
              · go_wp2_with (go_at_call 89; refine (within8 _ _ _ _).mono ?_; rintro e w' ⟨rfl, rfl⟩; rw [hin])
                go_meet
                exact ⟨by simp [bareM, hin, h32, h64, hd, h8, h8'], rfl⟩
      · cases hd : decide (dst < 10)
        · go_wp2_with (go_at_call 89; refine (within8 _ _ _ _).mono ?_; rintro e w' ⟨rfl, rfl⟩; rw [hin])
          go_meet
          exact ⟨by simp [bareM, hin, h32, hd], rfl⟩
        · cases h8 : (op == 8)
          · have h8' : (op != 8) = true := by simp [bne, h8]
            go_wp2_with (go_at_call 89; refine (within8 _ _ _ _).mono ?_; rintro e w' ⟨rfl, rfl⟩; rw [hin])
            go_meet
            exact ⟨by simp [bareM, hin, h32, hd, h8, h8'], rfl⟩
          · have h8' : (op != 8) = false := by simp [bne, h8]
            cases br
            · go_wp2_with (go_at_call 89; refine (within8 _ _ _ _).mono ?_; rintro e w' ⟨rfl, rfl⟩; rw [hin])
              go_meet
              exact ⟨by simp [bareM, hin, h32, hd, h8, h8'], rfl⟩
            · go_wp2_with (go_at_call 89; refine (within8 _ _ _ _).mono ?_; rintro e w' ⟨rfl, rfl⟩; rw [hin])
              go_meet
              exact ⟨by simp [bareM, hin, h32, hd, h8, h8'], rfl⟩
  case rest =>
    obtain ⟨rfl, rfl⟩ := hcut
    obtain ⟨m, hm⟩ : ∃ m, bareM ⟨0, op, wd, sz, br, dst, src, off, imm⟩ = m := ⟨_, rfl⟩
    rw [hm]
    have HM := hide hm
    clear hm
    cases br
    · go_wp2_with (go_at_call 106; refine (imm_any 0 op wd sz _ dst src off imm _ _ ((Blk.new w _ _).alloc _)).mono ?_; rintro e w' ⟨rfl, rfl⟩)
      refine bodyPost_ret (v := .tuple #[.agg (bareR ⟨0, op, wd, sz, false, dst, src, off, imm⟩).cells.toArray, .bool m]) (by simp [results, Try.results90, go_sem, bareR, immR, ID.cells]) rfl ⟨by rw [HM.out], ?_⟩
      exact ((Below.refl _ _).alloc (Nat.le_refl _) _).alloc (le_alloc _ (Nat.le_refl _)) _
    · go_wp2_with (go_at_call 106; refine (imm_any 0 op wd sz _ dst src off imm _ _ ((Blk.new w _ _).alloc _)).mono ?_; rintro e w' ⟨rfl, rfl⟩)
      refine bodyPost_ret (v := .tuple #[.agg (bareR ⟨0, op, wd, sz, true, dst, src, off, imm⟩).cells.toArray, .bool m]) (by simp [results, Try.results90, go_sem, bareR, immR, ID.cells]) rfl ⟨by rw [HM.out], ?_⟩
      exact ((Below.refl _ _).alloc (Nat.le_refl _) _).alloc (le_alloc _ (Nat.le_refl _)) _
set_option maxRecDepth 100000 in
set_option maxHeartbeats 2000000 in
theorem bare_3 (op wd sz dst src off imm : Int) (br : Bool) (w : World) : Calls Try.prog 90 #[.agg #[.int .i8 3, .int .i8 op, .int .i8 wd, .int .i8 sz, .bool br, .int .i8 dst, .int .i8 src, .int .i64 off, .int .i64 imm]] w (BareP ⟨3, op, wd, sz, br, dst, src, off, imm⟩ w) := by
  go_enter Try.func90, Try.ntmps90
  go_upto_region 14 with fail
  go_cut [3] (fun v wc => v = .bool (bareM ⟨3, op, wd, sz, br, dst, src, off, imm⟩) ∧ wc = (w.alloc (.cells #[.int .i8 3, .int .i8 op, .int .i8 wd, .int .i8 sz, .bool br, .int .i8 dst, .int .i8 src, .int .i64 off, .int .i64 imm] 26)).alloc (.cells #[.int .i8 0, .int .i8 0, .int .i8 0, .int .i8 0, .bool false, .int .i8 0, .int .i8 0, .int .i64 0, .int .i64 0] 26))
  case first =>
    cases hin : inB op 0 10
    all_goals
      go_wp2_with (go_at_call 89; refine (within8 _ _ _ _).mono ?_; rintro e w' ⟨rfl, rfl⟩; rw [hin])
      go_meet
      exact ⟨by simp [bareM, hin], rfl⟩
  case rest =>
    obtain ⟨rfl, rfl⟩ := hcut
    obtain ⟨m, hm⟩ : ∃ m, bareM ⟨3, op, wd, sz, br, dst, src, off, imm⟩ = m := ⟨_, rfl⟩
    rw [hm]
    have HM := hide hm
    clear hm
    cases br
    · go_wp2_with (go_at_call 106; refine (imm_any 3 op wd sz _ dst src off imm _ _ ((Blk.new w _ _).alloc _)).mono ?_; rintro e w' ⟨rfl, rfl⟩)
      refine bodyPost_ret (v := .tuple #[.agg (bareR ⟨3, op, wd, sz, false, dst, src, off, imm⟩).cells.toArray, .bool m]) (by simp [results, Try.results90, go_sem, bareR, immR, ID.cells]) rfl ⟨by rw [HM.out], ?_⟩
      exact ((Below.refl _ _).alloc (Nat.le_refl _) _).alloc (le_alloc _ (Nat.le_refl _)) _
    · go_wp2_with (go_at_call 106; refine (imm_any 3 op wd sz _ dst src off imm _ _ ((Blk.new w _ _).alloc _)).mono ?_; rintro e w' ⟨rfl, rfl⟩)
      refine bodyPost_ret (v := .tuple #[.agg (bareR ⟨3, op, wd, sz, true, dst, src, off, imm⟩).cells.toArray, .bool m]) (by simp [results, Try.results90, go_sem, bareR, immR, ID.cells]) rfl ⟨by rw [HM.out], ?_⟩
      exact ((Below.refl _ _).alloc (Nat.le_refl _) _).alloc (le_alloc _ (Nat.le_refl _)) _
set_option maxRecDepth 100000 in
set_option maxHeartbeats 2000000 in
theorem bare_1 (op wd sz dst src off imm : Int) (br : Bool) (w : World) : Calls Try.prog 90 #[.agg #[.int .i8 1, .int .i8 op, .int .i8 wd, .int .i8 sz, .bool br, .int .i8 dst, .int .i8 src, .int .i64 off, .int .i64 imm]] w (BareP ⟨1, op, wd, sz, br, dst, src, off, imm⟩ w) := by
  go_enter Try.func90, Try.ntmps90
  go_wp2_with (first
    | (go_at_call 89; refine (within8 _ _ _ _).mono ?_; rintro e w' ⟨rfl, rfl⟩; cases hin : inB op 0 12)
    | (go_at_call 53; refine (within64 _ _ _ _).mono ?_; rintro e w' ⟨rfl, rfl⟩; cases hin : inB imm 0 15)
    | (go_at_call 107; refine (sized_any _ _).mono ?_; rintro e w' ⟨rfl, rfl⟩; cases hsz : szB sz)
    | go_in
    | go_back)
  all_goals
    refine bodyPost_ret (v := .tuple #[.agg (bareR ⟨1, op, wd, sz, br, dst, src, off, imm⟩).cells.toArray, .bool (bareM ⟨1, op, wd, sz, br, dst, src, off, imm⟩)]) (by simp [results, Try.results90, go_sem, bareR, bareM, immR, ID.cells, *]) rfl ⟨rfl, ?_⟩
    exact ((Below.refl _ _).alloc (Nat.le_refl _) _).alloc (le_alloc _ (Nat.le_refl _)) _
set_option maxRecDepth 100000 in
set_option maxHeartbeats 2000000 in
theorem bare_2 (op wd sz dst src off imm : Int) (br : Bool) (w : World) : Calls Try.prog 90 #[.agg #[.int .i8 2, .int .i8 op, .int .i8 wd, .int .i8 sz, .bool br, .int .i8 dst, .int .i8 src, .int .i64 off, .int .i64 imm]] w (BareP ⟨2, op, wd, sz, br, dst, src, off, imm⟩ w) := by
  go_enter Try.func90, Try.ntmps90
  go_wp2_with (first
    | (go_at_call 89; refine (within8 _ _ _ _).mono ?_; rintro e w' ⟨rfl, rfl⟩; cases hin : inB op 0 12)
    | (go_at_call 53; refine (within64 _ _ _ _).mono ?_; rintro e w' ⟨rfl, rfl⟩; cases hin : inB imm 0 15)
    | (go_at_call 107; refine (sized_any _ _).mono ?_; rintro e w' ⟨rfl, rfl⟩; cases hsz : szB sz)
    | go_in
    | go_back)
  all_goals
    refine bodyPost_ret (v := .tuple #[.agg (bareR ⟨2, op, wd, sz, br, dst, src, off, imm⟩).cells.toArray, .bool (bareM ⟨2, op, wd, sz, br, dst, src, off, imm⟩)]) (by simp [results, Try.results90, go_sem, bareR, bareM, immR, ID.cells, *]) rfl ⟨rfl, ?_⟩
    exact ((Below.refl _ _).alloc (Nat.le_refl _) _).alloc (le_alloc _ (Nat.le_refl _)) _
set_option maxRecDepth 100000 in
set_option maxHeartbeats 2000000 in
theorem bare_4 (op wd sz dst src off imm : Int) (br : Bool) (w : World) : Calls Try.prog 90 #[.agg #[.int .i8 4, .int .i8 op, .int .i8 wd, .int .i8 sz, .bool br, .int .i8 dst, .int .i8 src, .int .i64 off, .int .i64 imm]] w (BareP ⟨4, op, wd, sz, br, dst, src, off, imm⟩ w) := by
  go_enter Try.func90, Try.ntmps90
  go_wp2_with (first
    | (go_at_call 89; refine (within8 _ _ _ _).mono ?_; rintro e w' ⟨rfl, rfl⟩; cases hin : inB op 0 12)
    | (go_at_call 53; refine (within64 _ _ _ _).mono ?_; rintro e w' ⟨rfl, rfl⟩; cases hin : inB imm 0 15)
    | (go_at_call 107; refine (sized_any _ _).mono ?_; rintro e w' ⟨rfl, rfl⟩; cases hsz : szB sz)
    | go_in
    | go_back)
  all_goals
    refine bodyPost_ret (v := .tuple #[.agg (bareR ⟨4, op, wd, sz, br, dst, src, off, imm⟩).cells.toArray, .bool (bareM ⟨4, op, wd, sz, br, dst, src, off, imm⟩)]) (by simp [results, Try.results90, go_sem, bareR, bareM, immR, ID.cells, *]) rfl ⟨rfl, ?_⟩
    exact ((Below.refl _ _).alloc (Nat.le_refl _) _).alloc (le_alloc _ (Nat.le_refl _)) _
set_option maxRecDepth 100000 in
set_option maxHeartbeats 2000000 in
theorem bare_5 (op wd sz dst src off imm : Int) (br : Bool) (w : World) : Calls Try.prog 90 #[.agg #[.int .i8 5, .int .i8 op, .int .i8 wd, .int .i8 sz, .bool br, .int .i8 dst, .int .i8 src, .int .i64 off, .int .i64 imm]] w (BareP ⟨5, op, wd, sz, br, dst, src, off, imm⟩ w) := by
  go_enter Try.func90, Try.ntmps90
  go_wp2_with (first
    | (go_at_call 89; refine (within8 _ _ _ _).mono ?_; rintro e w' ⟨rfl, rfl⟩; cases hin : inB op 0 12)
    | (go_at_call 53; refine (within64 _ _ _ _).mono ?_; rintro e w' ⟨rfl, rfl⟩; cases hin : inB imm 0 15)
    | (go_at_call 107; refine (sized_any _ _).mono ?_; rintro e w' ⟨rfl, rfl⟩; cases hsz : szB sz)
    | go_in
    | go_back)
  all_goals
    refine bodyPost_ret (v := .tuple #[.agg (bareR ⟨5, op, wd, sz, br, dst, src, off, imm⟩).cells.toArray, .bool (bareM ⟨5, op, wd, sz, br, dst, src, off, imm⟩)]) (by simp [results, Try.results90, go_sem, bareR, bareM, immR, ID.cells, *]) rfl ⟨rfl, ?_⟩
    exact ((Below.refl _ _).alloc (Nat.le_refl _) _).alloc (le_alloc _ (Nat.le_refl _)) _
set_option maxRecDepth 100000 in
set_option maxHeartbeats 2000000 in
theorem bare_6 (op wd sz dst src off imm : Int) (br : Bool) (w : World) : Calls Try.prog 90 #[.agg #[.int .i8 6, .int .i8 op, .int .i8 wd, .int .i8 sz, .bool br, .int .i8 dst, .int .i8 src, .int .i64 off, .int .i64 imm]] w (BareP ⟨6, op, wd, sz, br, dst, src, off, imm⟩ w) := by
  go_enter Try.func90, Try.ntmps90
  go_wp2_with (first
    | (go_at_call 89; refine (within8 _ _ _ _).mono ?_; rintro e w' ⟨rfl, rfl⟩; cases hin : inB op 0 12)
    | (go_at_call 53; refine (within64 _ _ _ _).mono ?_; rintro e w' ⟨rfl, rfl⟩; cases hin : inB imm 0 15)
    | (go_at_call 107; refine (sized_any _ _).mono ?_; rintro e w' ⟨rfl, rfl⟩; cases hsz : szB sz)
    | go_in
    | go_back)
  all_goals
    refine bodyPost_ret (v := .tuple #[.agg (bareR ⟨6, op, wd, sz, br, dst, src, off, imm⟩).cells.toArray, .bool (bareM ⟨6, op, wd, sz, br, dst, src, off, imm⟩)]) (by simp [results, Try.results90, go_sem, bareR, bareM, immR, ID.cells, *]) rfl ⟨rfl, ?_⟩
    exact ((Below.refl _ _).alloc (Nat.le_refl _) _).alloc (le_alloc _ (Nat.le_refl _)) _
set_option maxRecDepth 100000 in
set_option maxHeartbeats 2000000 in
theorem bare_x (k op wd sz dst src off imm : Int) (br : Bool) (w : World) (h0 : ¬ k = 0) (h1 : ¬ k = 1) (h2 : ¬ k = 2) (h3 : ¬ k = 3) (h4 : ¬ k = 4) (h5 : ¬ k = 5) (h6 : ¬ k = 6) : Calls Try.prog 90 #[.agg #[.int .i8 k, .int .i8 op, .int .i8 wd, .int .i8 sz, .bool br, .int .i8 dst, .int .i8 src, .int .i64 off, .int .i64 imm]] w (BareP ⟨k, op, wd, sz, br, dst, src, off, imm⟩ w) := by
  go_enter Try.func90, Try.ntmps90
  go_wp2_with (first
    | (go_at_call 89; refine (within8 _ _ _ _).mono ?_; rintro e w' ⟨rfl, rfl⟩; cases hin : inB op 0 12)
    | (go_at_call 53; refine (within64 _ _ _ _).mono ?_; rintro e w' ⟨rfl, rfl⟩; cases hin : inB imm 0 15)
    | (go_at_call 107; refine (sized_any _ _).mono ?_; rintro e w' ⟨rfl, rfl⟩; cases hsz : szB sz)
    | go_in
    | go_back)
  all_goals
    refine bodyPost_ret (v := .tuple #[.agg (bareR ⟨k, op, wd, sz, br, dst, src, off, imm⟩).cells.toArray, .bool (bareM ⟨k, op, wd, sz, br, dst, src, off, imm⟩)]) (by simp [results, Try.results90, go_sem, bareR, bareM, immR, ID.cells, *]) rfl ⟨rfl, ?_⟩
    exact ((Below.refl _ _).alloc (Nat.le_refl _) _).alloc (le_alloc _ (Nat.le_refl _)) _
theorem bare_any (x : ID) (w : World) : Calls Try.prog 90 #[.agg x.cells.toArray] w (BareP x w) := by
  obtain ⟨k, op, wd, sz, br, dst, src, off, imm⟩ := x
  rcases Decidable.em (k = 0) with rfl | h0
  · exact bare_0 op wd sz dst src off imm br w
  rcases Decidable.em (k = 1) with rfl | h1
  · exact bare_1 op wd sz dst src off imm br w
  rcases Decidable.em (k = 2) with rfl | h2
  · exact bare_2 op wd sz dst src off imm br w
  rcases Decidable.em (k = 3) with rfl | h3
  · exact bare_3 op wd sz dst src off imm br w
  rcases Decidable.em (k = 4) with rfl | h4
  · exact bare_4 op wd sz dst src off imm br w
  rcases Decidable.em (k = 5) with rfl | h5
  · exact bare_5 op wd sz dst src off imm br w
  rcases Decidable.em (k = 6) with rfl | h6
  · exact bare_6 op wd sz dst src off imm br w
  exact bare_x k op wd sz dst src off imm br w h0 h1 h2 h3 h4 h5 h6
/-! behind bare -/
end Go.Proofs.Ytepagfkkjlbipaa
end
section
namespace Go.Proofs.Ytepagfkkjlbipaa
open Go.RowKit
set_option linter.unusedVariables false
set_option linter.unusedSimpArgs false
theorem inB_iff {n a b : Int} : inB n a b = true ↔ a ≤ n ∧ n ≤ b := by unfold inB; simp
theorem inB_no {n a b : Int} : inB n a b = false ↔ ¬ (a ≤ n ∧ n ≤ b) := by rw [← inB_iff]; simp
def okAt (n : Nat) (i : Nat) (x : ID) : Bool := mayB x && !(tgtB i x && !inB (tgtN i x) 0 ((n : Int) - 1))
def badAt (n : Nat) : List ID → Nat → Option (Int × Int)
  | [], _ => none
  | x :: r, i => if mayB x = false then some ((i : Int), 31) else if (tgtB i x && !inB (tgtN i x) 0 ((n : Int) - 1)) = true then some ((i : Int), 32) else badAt n r (i + 1)
def lastK (l : List ID) : Int := ((l[l.length - 1]?).map ID.kind).getD 0
def chkP (c : Int) (l : List ID) : Int × Int :=
  if inB c 0 256 = false then (0, 2)
  else if inB ((l.length : Int) - 1) 0 63 = false then (0, 3)
  else match badAt l.length l 0 with
    | some r => r
    | none => if lastK l ≠ 4 ∧ lastK l ≠ 6 then ((l.length : Int) - 1, 33) else (0, 0)
theorem bad_none {n : Nat} : ∀ (l : List ID) (k : Nat), (∀ j x, l[j]? = some x → okAt n (k + j) x = true) → badAt n l k = none
  | [], _, _ => rfl
  | x :: r, k, h => by
    have h0 := h 0 x rfl
    unfold okAt at h0
    simp only [Nat.add_zero, Bool.and_eq_true, Bool.not_eq_true'] at h0
    rw [badAt, if_neg (by rw [h0.1]; simp), if_neg (by rw [h0.2]; simp)]
    exact bad_none r (k + 1) fun j y hy => by
      have := h (j + 1) y (by simpa using hy)
      rwa [show k + (j + 1) = k + 1 + j by omega] at this
theorem bad_some {n : Nat} : ∀ (l : List ID) (k j : Nat) (x : ID), l[j]? = some x → (∀ i y, i < j → l[i]? = some y → okAt n (k + i) y = true) → okAt n (k + j) x = false →
    badAt n l k = some (((k + j : Nat) : Int), if mayB x then 32 else 31)
  | [], _, j, x, h, _, _ => by simp at h
  | y :: r, k, 0, x, h, _, h0 => by
    simp at h
    subst h
    unfold okAt at h0
    rw [badAt]
    cases hm : mayB y
    · rw [if_pos rfl]; rfl
    · rw [hm] at h0
      simp only [Bool.true_and, Bool.not_eq_false'] at h0
      rw [if_neg (by simp), if_pos (by simpa using h0)]
      rfl
  | y :: r, k, j + 1, x, h, hb, h0 => by
    have h1 := hb 0 y (by omega) rfl
    unfold okAt at h1
    simp only [Nat.add_zero, Bool.and_eq_true, Bool.not_eq_true'] at h1
    rw [badAt, if_neg (by rw [h1.1]; simp), if_neg (by rw [h1.2]; simp)]
    have := bad_some r (k + 1) j x (by simpa using h) (fun i z hi hz => by
      have := hb (i + 1) z (by omega) (by simpa using hz)
      rwa [show k + (i + 1) = k + 1 + i by omega] at this) (by rwa [show k + 1 + j = k + (j + 1) by omega])
    rw [this, show k + 1 + j = k + (j + 1) by omega]
theorem bad_none_inv {n : Nat} : ∀ (l : List ID) (k : Nat), badAt n l k = none → ∀ j x, l[j]? = some x → okAt n (k + j) x = true
  | [], _, _, j, x, hx => by simp at hx
  | y :: r, k, h, j, x, hx => by
    rw [badAt] at h
    split at h
    · cases h
    · rename_i h1
      split at h
      · cases h
      · rename_i h2
        cases j with
        | zero =>
          simp at hx
          subst hx
          unfold okAt
          simp only [Bool.not_eq_false, Bool.not_eq_true] at h1 h2
          rw [Nat.add_zero, h1, h2]
          rfl
        | succ j =>
          have := bad_none_inv r (k + 1) h j x (by simpa using hx)
          rwa [show k + 1 + j = k + (j + 1) by omega] at this
theorem bad_pos {n : Nat} : ∀ (l : List ID) (k : Nat) (r : Int × Int), badAt n l k = some r → r.2 = 31 ∨ r.2 = 32
  | [], _, r, h => by simp [badAt] at h
  | y :: t, k, r, h => by
    rw [badAt] at h
    split at h
    · injection h with h; subst h; exact .inl rfl
    · split at h
      · injection h with h; subst h; exact .inr rfl
      · exact bad_pos t (k + 1) r h
/-- What a program that may be is. -/
theorem chk_ok {c : Int} {l : List ID} (h : (chkP c l).2 = 0) : 0 ≤ c ∧ c ≤ 256 ∧ 1 ≤ l.length ∧ l.length ≤ 64 ∧ (∀ (j : Nat) (x : ID), l[j]? = some x → okAt l.length j x = true) ∧ (lastK l = 4 ∨ lastK l = 6) ∧ chkP c l = (0, 0) := by
  have h' := h
  unfold chkP at h
  split at h
  · cases h
  · rename_i h1
    split at h
    · cases h
    · rename_i h2
      simp only [Bool.not_eq_false] at h1 h2
      rw [inB_iff] at h1 h2
      cases hb : badAt l.length l 0 with
      | some r =>
        rw [hb] at h
        have := bad_pos l 0 r hb
        dsimp only at h
        omega
      | none =>
        rw [hb] at h
        dsimp only at h
        split at h
        · cases h
        · rename_i h3
          refine ⟨by omega, by omega, by omega, by omega, fun j x hx => by simpa using bad_none_inv l 0 hb j x hx, by omega, ?_⟩
          unfold chkP
          rw [if_neg (by rw [inB_no]; omega), if_neg (by rw [inB_no]; omega), hb]
          dsimp only
          rw [if_neg h3]
theorem chk_ctx {c : Int} {l : List ID} (h : inB c 0 256 = false) : chkP c l = (0, 2) := by unfold chkP; rw [if_pos h]
theorem chk_long {c : Int} {l : List ID} (h : inB c 0 256 = true) (h2 : inB ((l.length : Int) - 1) 0 63 = false) : chkP c l = (0, 3) := by unfold chkP; rw [if_neg (by rw [h]; simp), if_pos h2]
theorem chk_bad {c : Int} {l : List ID} {j : Nat} {x : ID} (h : inB c 0 256 = true) (h2 : inB ((l.length : Int) - 1) 0 63 = true) (hx : l[j]? = some x) (hb : ∀ i y, i < j → l[i]? = some y → okAt l.length i y = true) (h0 : okAt l.length j x = false) :
    chkP c l = ((j : Int), if mayB x then 32 else 31) := by
  have := bad_some (n := l.length) l 0 j x hx (fun i y hi hy => by simpa using hb i y hi hy) (by simpa using h0)
  unfold chkP
  rw [if_neg (by rw [h]; simp), if_neg (by rw [h2]; simp), this]
  simp
theorem chk_end {c : Int} {l : List ID} (h : inB c 0 256 = true) (h2 : inB ((l.length : Int) - 1) 0 63 = true) (hb : ∀ i y, l[i]? = some y → okAt l.length i y = true) :
    chkP c l = if lastK l ≠ 4 ∧ lastK l ≠ 6 then ((l.length : Int) - 1, 33) else (0, 0) := by
  have := bad_none (n := l.length) l 0 (fun i y hy => by simpa using hb i y hy)
  unfold chkP
  rw [if_neg (by rw [h]; simp), if_neg (by rw [h2]; simp), this]
theorem bareR_wf {x : ID} (h : x.wf) : (bareR x).wf := by
  have := h
  unfold ID.wf I8 I64 at this ⊢
  unfold bareR immR
  repeat' split
  all_goals (first | omega | (dsimp only; omega))
theorem kz_wf {k : Int} (h : I8 k) : (kz k).wf := by
  unfold kz ID.wf I8 I64
  unfold I8 at h
  dsimp only
  omega
end Go.Proofs.Ytepagfkkjlbipaa
end
section
namespace Go.Proofs.Ytepagfkkjlbipaa
open Go.RowKit
set_option linter.unusedVariables false
set_option linter.unusedSimpArgs false
set_option maxRecDepth 100000
def argsN (n : Int) : Int := if inB n 0 15 then n % 6 else 0
theorem argsN_bd (n : Int) : 0 ≤ argsN n ∧ argsN n ≤ 5 := by
  unfold argsN
  split <;> omega
theorem args_any (n : Int) (w : World) : Calls Try.prog 42 #[.int .i64 n] w fun e w' => e = .returned (.int .i64 (argsN n)) ∧ w = w' := by
  cases h : inB n 0 15
  · have HN := hide (show argsN n = 0 by unfold argsN; rw [h]; rfl)
    go_enter Try.func42, Try.ntmps42
    go_wp2_with fail
    refine (within64 _ _ _ _).mono ?_; rintro e w' ⟨rfl, rfl⟩; rw [h]
    go_wp2
    go_ret
    exact ⟨ret_ia HN.out.symm, rfl⟩
  · obtain ⟨h0, h1⟩ := inB_iff.1 h
    have HN := hide (show argsN n = n % 6 by unfold argsN; rw [h]; rfl)
    go_enter Try.func42, Try.ntmps42
    go_wp2_with fail
    refine (within64 _ _ _ _).mono ?_; rintro e w' ⟨rfl, rfl⟩; rw [h]
    go_wp2
    go_ret
    exact ⟨ret_ia HN.out.symm, rfl⟩
end Go.Proofs.Ytepagfkkjlbipaa
end
section
namespace Go.Proofs.Ytepagfkkjlbipaa
open Go.RowKit
set_option linter.unusedVariables false
set_option linter.unusedSimpArgs false
set_option maxRecDepth 100000
/-- What Op comes to, whatever fuel reaches. -/
noncomputable def opV (p : PS) (op x a b : Int) : RS := open Classical in if h : ∃ r, ∃ f, opF f p op x a b = some r then Classical.choose h else (p, 0, 2)
theorem opV_of {f : Nat} {p : PS} {op x a b : Int} {r : RS} (h : opF f p op x a b = some r) : opV p op x a b = r := by
  have hx : ∃ r, ∃ f, opF f p op x a b = some r := ⟨r, f, h⟩
  unfold opV
  rw [dif_pos hx]
  obtain ⟨g, hg⟩ := Classical.choose_spec hx
  have h1 := opF_mono g (g := max f g) p op x a b _ (Nat.le_max_right _ _) hg
  have h2 := opF_mono f (g := max f g) p op x a b _ (Nat.le_max_left _ _) h
  rw [h1] at h2
  exact Option.some.inj h2
theorem opV_some {p : PS} (hw : WfP p) (hr : ∀ t ∈ p.T, t.wf) (op x a b : Int) : ∃ f, opF f p op x a b = some (opV p op x a b) := by
  obtain ⟨f, r, h⟩ := op_some op x p hw hr a b
  exact ⟨f, by rw [opV_of h]; exact h⟩
def zextV (p : PS) (x a : Int) : RS := (zextO (a.toNat + 1) p x a).getD (p, 0, 2)
theorem zextV_some {p : PS} (hw : WfP p) (x a : Int) : zextO (a.toNat + 1) p x a = some (zextV p x a) := by
  obtain ⟨r, h⟩ := zextO_some hw x a
  unfold zextV
  rw [h]
  rfl
def condV (p : PS) (cc x a b : Int) : RS := (condF 2 p cc x a b).getD (p, 0, 2)
theorem condV_some (p : PS) (cc x a b : Int) : condF 2 p cc x a b = some (condV p cc x a b) := by
  obtain ⟨r, h⟩ := cond_some p cc x a b
  unfold condV
  rw [h]
  rfl
/-- An event. -/
structure EvD where
  kind : Int
  size : Int
  a : Int
  v : Int
  num : Int
  args : List Int
deriving DecidableEq
def bringB (e : EvD) : Bool := e.kind == 0 || e.kind == 2
def bringsN (l : List EvD) : Nat := (l.filter bringB).length
/-- An exit. -/
structure ExD where
  kind : Int
  v : Int
  tgt : Int
  els : Int
deriving DecidableEq
/-- The machine: its pool, the registers' terms, the events, the first error. -/
structure SM where
  p : PS
  regs : List Int
  evs : List EvD
  err : Int
def SM.keep (m : SM) (r : RS) : SM × Int := (⟨r.1, m.regs, m.evs, if m.err = 0 then r.2.2 else m.err⟩, r.2.1)
def SM.reg (m : SM) (i : Int) : Int := m.regs.getD i.toNat 0
def SM.set (m : SM) (i n : Int) : SM := { m with regs := m.regs.set i.toNat n }
def SM.event (m : SM) (e : EvD) : SM := { m with evs := m.evs ++ [e] }
def SM.num (m : SM) (n : Int) : SM × Int := m.keep (putR m.p (constT (IntKind.u64.wrap n)))
def SM.next (m : SM) (wide : Int) : SM × Int := m.keep (putR m.p (varT (38 + 3 * (bringsN m.evs : Int)) wide))
def SM.second (m : SM) (x : ID) : SM × Int :=
  if x.byReg = true then (m, m.reg x.src)
  else if x.kind = 0 ∧ shiftsB x.op = true then m.num (bits .and .i64 x.imm (x.width - 1))
  else m.num x.imm
noncomputable def SM.place (m : SM) (reg off : Int) : SM × Int := (m.num off).1.keep (opV (m.num off).1.p 0 64 (m.reg reg) (m.num off).2)
noncomputable def SM.alu (m : SM) (x : ID) : SM :=
  let q := m.second x
  let s := q.1.keep (opV q.1.p x.op x.width (m.reg x.dst) q.2)
  s.1.set x.dst s.2
noncomputable def SM.load (m : SM) (x : ID) : SM :=
  let q := m.place x.src x.off
  let v := q.1.next (8 * x.size)
  (v.1.event ⟨0, x.size, q.2, v.2, 0, []⟩).set x.dst v.2
noncomputable def SM.store (m : SM) (x : ID) : SM :=
  let q := m.place x.dst x.off
  let v := q.1.keep (zextV q.1.p (8 * x.size) (m.reg x.src))
  v.1.event ⟨1, x.size, q.2, v.2, 0, []⟩
/-- r1 to r5 all the same. -/
def fiveL (l : List Int) (n : Int) : List Int := ((((l.set 1 n).set 2 n).set 3 n).set 4 n).set 5 n
def SM.call (m : SM) (x : ID) : SM :=
  let v := m.next 64
  let e := (v.1.event ⟨2, 0, 0, v.2, x.imm, (m.regs.drop 1).take (argsN x.imm).toNat⟩).set 0 v.2
  let z := e.num 0
  { z.1 with regs := fiveL z.1.regs z.2 }
noncomputable def SM.step (m : SM) (x : ID) : SM :=
  if m.err ≠ 0 then m
  else if x.kind = 0 then m.alu x
  else if x.kind = 1 then m.load x
  else if x.kind = 2 then m.store x
  else if x.kind = 5 then m.call x
  else m
noncomputable def SM.go (m : SM) : List ID → SM
  | [] => m
  | x :: r => (m.step x).go r
/-- A condition on two terms: a test of bits asks whether their And is another than nought. -/
noncomputable def SM.ask (m : SM) (cc a b : Int) : SM × Int :=
  if cc = 10 then
    let t := m.keep (opV m.p 5 64 a b)
    let z := t.1.num 0
    z.1.keep (condV z.1.p 1 64 t.2 z.2)
  else m.keep (condV m.p cc 64 a b)
/-- The exit; next: the blocks that are next. -/
noncomputable def SM.ends (m : SM) (x : ID) (next : List Int) : SM × ExD :=
  if x.kind = 6 then (m, ⟨0, m.reg 0, 0, 0⟩)
  else if x.kind = 3 ∧ next.getD 0 0 ≠ next.getD 1 0 then
    let q := m.second x
    let c := q.1.ask x.op (m.reg x.dst) q.2
    (c.1, ⟨2, c.2, next.getD 0 0, next.getD 1 0⟩)
  else (m, ⟨1, 0, next.getD 0 0, 0⟩)
end Go.Proofs.Ytepagfkkjlbipaa
end
section
namespace Go.Proofs.Ytepagfkkjlbipaa
open Go.RowKit
set_option linter.unusedVariables false
set_option linter.unusedSimpArgs false
set_option maxRecDepth 100000
/-- Kept by puts of terms that are no variables. -/
def PutI (I : PS → Prop) : Prop := ∀ (q : PS) (t : TD), t.kind ≠ 1 → I q → I (putP q t)
section
variable {I : PS → Prop}
theorem I_bind {r s : RS} {k : PS → Int → Option RS} (h : I r.1) (hk : ∀ s, k r.1 r.2.1 = some s → I s.1) (hs : bindR r k = some s) : I s.1 := by
  unfold bindR at hs
  split at hs
  · exact hk s hs
  · injection hs with hs
    subst hs
    exact h
theorem const_inv (hI : PutI I) {p : PS} (h : I p) (n : Int) : I (putR p (constT n)).1 := hI p _ (by show (0 : Int) ≠ 1; decide) h
theorem zext_inv (hI : PutI I) : ∀ (f : Nat) {p : PS} {x a : Int} {r : RS}, zextF f p x a = some r → I p → I r.1
  | 0, _, _, _, _, h, _ => by cases h
  | f + 1, p, x, a, r, h, hp => by
    rw [zextF_succ] at h
    split at h
    · injection h with h; subst h; exact hp
    split at h
    · injection h with h; subst h; exact const_inv hI hp _
    split at h
    · injection h with h; subst h; exact hp
    split at h
    · exact zext_inv hI f h hp
    · injection h with h; subst h; exact hI p _ (by show (3 : Int) ≠ 1; decide) hp
theorem operand_inv (hI : PutI I) {p : PS} (h : I p) (x a : Int) : I (operandP p x a).1 := by
  rcases operand_cases p x a with ⟨_, e⟩ | ⟨_, e⟩ | ⟨_, e⟩ <;> rw [e]
  · exact const_inv hI h _
  · exact h
  · exact h
theorem both_inv (hI : PutI I) {p : PS} (h : I p) (x a b : Int) : I (bothP p x a b).1 := by
  have h1 := operand_inv hI h x a
  unfold bothP
  dsimp only
  split
  · exact operand_inv hI h1 x b
  · exact h1
theorem op_inv (hI : PutI I) : ∀ (f : Nat) {p : PS} {op x a b : Int} {r : RS}, opF f p op x a b = some r → I p → I r.1
  | 0, _, _, _, _, _, _, h, _ => by cases h
  | f + 1, p, op, x, a, b, r, h, hp => by
    rw [opF_succ] at h
    split at h
    · injection h with h; subst h; exact hp
    split at h
    · injection h with h; subst h; exact hp
    have h1 := both_inv hI hp x a b
    split at h
    · generalize bothP p x a b = z at h h1
      obtain ⟨p1, a1, b1, e1⟩ := z
      dsimp only at h h1
      unfold opL at h
      dsimp only at h
      split at h
      · injection h with h; subst h; exact const_inv hI h1 _
      split at h
      · exact I_bind (const_inv hI h1 _) (fun s hs => op_inv hI f hs (const_inv hI h1 _)) h
      split at h
      · exact zext_inv hI f h h1
      split at h
      · exact I_bind (const_inv hI h1 _) (fun s hs => op_inv hI f hs (const_inv hI h1 _)) h
      split at h
      · exact op_inv hI f h h1
      split at h
      · exact I_bind (const_inv hI h1 _) (fun s hs => op_inv hI f hs (const_inv hI h1 _)) h
      split at h
      · exact zext_inv hI f h h1
      split at h
      · injection h with h; subst h; exact const_inv hI h1 _
      split at h
      · injection h with h; subst h; exact const_inv hI h1 _
      split at h
      · exact zext_inv hI f h h1
      · injection h with h; subst h; exact hI p1 _ (by show (2 : Int) ≠ 1; decide) h1
    · injection h with h; subst h; exact h1
end
/-- Variables are the registers', or were brought before the n-th event that brings. -/
def VarsM (n : Nat) (p : PS) : Prop := ∀ t ∈ p.T, t.kind = 1 → t.n < 38 + 3 * (n : Int)
end Go.Proofs.Ytepagfkkjlbipaa
end
