/-
  The walk of NormNil: no pool has no terms. Conditions: those written in each statement.
-/
import Derived.Test.YtfjflefgclfbfaaUf
namespace Go.Proofs.Ytfjflefgclfbfaa
open Go.RowKit
set_option linter.unusedVariables false
set_option linter.unusedSimpArgs false
set_option maxRecDepth 100000
theorem op_nil (op x a b : Int) (w : World) : Calls Try.prog 23 #[.pointer none, .int .i8 op, .int .i8 x, .int .i64 a, .int .i64 b] w fun e w' => e = .returned (.tuple #[.int .i64 0, .int .i64 1]) ∧ Below w.heap.size w w' := by
  go_enter Try.func23, Try.ntmps23
  go_wp2_with fail
  refine (there_nil _ _ _ _).mono ?_
  rintro e w1 ⟨rfl, rfl⟩
  go_wp2
  go_ret2
  refine ⟨rfl, ?_⟩
  exact ((((((Below.refl _ w).alloc (Nat.le_refl _) _).alloc (by simp) _).alloc (by simp; omega) _).alloc (by simp; omega) _).alloc (by simp; omega) _).alloc (by simp; omega) _
theorem cond_nil (op x a b : Int) (w : World) : Calls Try.prog 19 #[.pointer none, .int .i8 op, .int .i8 x, .int .i64 a, .int .i64 b] w fun e w' => e = .returned (.tuple #[.int .i64 0, .int .i64 1]) ∧ Below w.heap.size w w' := by
  go_enter Try.func19, Try.ntmps19
  go_wp2_with fail
  refine (there_nil _ _ _ _).mono ?_
  rintro e w1 ⟨rfl, rfl⟩
  go_wp2
  go_ret2
  exact ⟨rfl, (Below.refl _ w).alloc (Nat.le_refl _) _⟩
theorem ite_nil (a b c : Int) (w : World) : Calls Try.prog 24 #[.pointer none, .int .i64 a, .int .i64 b, .int .i64 c] w fun e w' => e = .returned (.tuple #[.int .i64 0, .int .i64 1]) ∧ Below w.heap.size w w' := by
  go_enter Try.func24, Try.ntmps24
  go_wp2_with fail
  refine (there_nil _ _ _ _).mono ?_
  rintro e w1 ⟨rfl, rfl⟩
  go_wp2
  go_ret2
  refine ⟨rfl, ?_⟩
  exact (((((Below.refl _ w).alloc (Nat.le_refl _) _).alloc (by simp) _).alloc (by simp; omega) _).alloc (by simp; omega) _).alloc (by simp; omega) _
set_option maxHeartbeats 8000000 in
theorem mine_nil (x : MD) (hx : x.wf) (W : World) : Calls Try.prog 10 #[.pointer none, .agg x.cells.toArray, .slice none 0 0] W fun e w' => e = .returned (.tuple #[.int .i64 0, .int .i64 1]) ∧ Below W.heap.size W w' := by
  have HX := hide hx
  have HPA := hide (fun w : World => pick_any [] none 0 0 w.heap.size w Reads.none_ rfl (Nat.le_refl _) (by omega) x.a hx.2.2.2.1)
  have HPB := hide (fun w : World => pick_any [] none 0 0 w.heap.size w Reads.none_ rfl (Nat.le_refl _) (by omega) x.b hx.2.2.2.2.1)
  have HPC := hide (fun w : World => pick_any [] none 0 0 w.heap.size w Reads.none_ rfl (Nat.le_refl _) (by omega) x.c hx.2.2.2.2.2.1)
  generalize pickP [] x.a = pa at HPA
  generalize pickP [] x.b = pb at HPB
  generalize pickP [] x.c = pc at HPC
  have HB1 := hide (bl_alloc W (.cells x.cells.toArray 31))
  have HBX := hide (Blk.new W 31 x.cells.toArray)
  clear hx
  go_enter Try.func10, Try.ntmps10
  go_upto_region 1 with fail
  generalize W.alloc (.cells x.cells.toArray 31) = W1 at HB1 HBX ⊢
  obtain ⟨bx, hbx⟩ : ∃ b, W.heap.size = b := ⟨_, rfl⟩
  rw [hbx] at HBX ⊢
  clear hbx
  refine wp_region_E (fun w' => Blk w' bx 31 x.cells.toArray) (fun _ => True) [] (by kernel_rfl) ?_
  have HBd := hide (HB1.out.drew)
  have HT := hide (HBX.out.below ((Below.refl _ _).drew) HBX.out.lt)
  clear HB1 HBX
  generalize W1.drew = Wd at HBd HT ⊢
  refine E_move 0 (some 11) _ (.slice none 0 0) rfl (by kernel_rfl) (by rfl) (fun _ _ _ h => h) (by rfl) (.both HT.out trivial) ?_
  simp only [Act.put, List.setIfInBounds_toArray, List.set_cons_zero, List.set_cons_succ]
  refine E_any false 1 (some 12) _ (.pointer (some ⟨bx, 3, none⟩)) rfl (by kernel_rfl) (by rfl) (fun _ _ _ h => h) (fun o e w _ => by unfold execOp; simp only [e]; go_simp) (.both HT.out trivial) ?_
  simp only [Act.put, List.setIfInBounds_toArray, List.set_cons_zero, List.set_cons_succ]
  refine E_load1 false 2 (some 13) 3 _ ⟨bx, 3, none⟩ (.int .i64 x.a) rfl (by kernel_rfl) (by rfl) (fun _ _ _ h => h) (by rfl) (fun w hS => run_loadVar_one _ _ _ _ Try.underlying3 rfl (hS.1.cell 3)) (.both HT.out trivial) ?_
  simp only [Act.put, List.setIfInBounds_toArray, List.set_cons_zero, List.set_cons_succ]
  refine E_move 4 (some 15) _ (.slice none 0 0) rfl (by kernel_rfl) (by rfl) (fun _ _ _ h => h) (by rfl) (.both HT.out trivial) ?_
  simp only [Act.put, List.setIfInBounds_toArray, List.set_cons_zero, List.set_cons_succ]
  refine E_any false 5 (some 16) _ (.pointer (some ⟨bx, 4, none⟩)) rfl (by kernel_rfl) (by rfl) (fun _ _ _ h => h) (fun o e w _ => by unfold execOp; simp only [e]; go_simp) (.both HT.out trivial) ?_
  simp only [Act.put, List.setIfInBounds_toArray, List.set_cons_zero, List.set_cons_succ]
  refine E_load1 false 6 (some 17) 3 _ ⟨bx, 4, none⟩ (.int .i64 x.b) rfl (by kernel_rfl) (by rfl) (fun _ _ _ h => h) (by rfl) (fun w hS => run_loadVar_one _ _ _ _ Try.underlying3 rfl (hS.1.cell 4)) (.both HT.out trivial) ?_
  simp only [Act.put, List.setIfInBounds_toArray, List.set_cons_zero, List.set_cons_succ]
  refine E_move 8 (some 19) _ (.slice none 0 0) rfl (by kernel_rfl) (by rfl) (fun _ _ _ h => h) (by rfl) (.both HT.out trivial) ?_
  simp only [Act.put, List.setIfInBounds_toArray, List.set_cons_zero, List.set_cons_succ]
  refine E_any false 9 (some 20) _ (.pointer (some ⟨bx, 5, none⟩)) rfl (by kernel_rfl) (by rfl) (fun _ _ _ h => h) (fun o e w _ => by unfold execOp; simp only [e]; go_simp) (.both HT.out trivial) ?_
  simp only [Act.put, List.setIfInBounds_toArray, List.set_cons_zero, List.set_cons_succ]
  refine E_load1 false 10 (some 21) 3 _ ⟨bx, 5, none⟩ (.int .i64 x.c) rfl (by kernel_rfl) (by rfl) (fun _ _ _ h => h) (by rfl) (fun w hS => run_loadVar_one _ _ _ _ Try.underlying3 rfl (hS.1.cell 5)) (.both HT.out trivial) ?_
  simp only [Act.put, List.setIfInBounds_toArray, List.set_cons_zero, List.set_cons_succ]
  refine E_one 3 (by kernel_rfl) (StepE.of 3 (some 14) _ rfl (by rfl) fun o K h2 h3 hKK => ?_)
  unfold Oper.wp execOp
  simp only [h3]
  go_simp
  refine (HPA.out _).mono ?_
  rintro e w8 ⟨rfl, rfl⟩
  dsimp only
  refine hKK _ _ (.both HT.out trivial) ?_
  clear hKK h2 h3 K o
  try simp only [Act.put, List.setIfInBounds_toArray, List.set_cons_zero, List.set_cons_succ]
  refine E_one 7 (by kernel_rfl) (StepE.of 7 (some 18) _ rfl (by rfl) fun o K h2 h3 hKK => ?_)
  unfold Oper.wp execOp
  simp only [h3]
  go_simp
  refine (HPB.out _).mono ?_
  rintro e w8 ⟨rfl, rfl⟩
  dsimp only
  refine hKK _ _ (.both HT.out trivial) ?_
  clear hKK h2 h3 K o
  try simp only [Act.put, List.setIfInBounds_toArray, List.set_cons_zero, List.set_cons_succ]
  refine E_one 11 (by kernel_rfl) (StepE.of 11 (some 22) _ rfl (by rfl) fun o K h2 h3 hKK => ?_)
  unfold Oper.wp execOp
  simp only [h3]
  go_simp
  refine (HPC.out _).mono ?_
  rintro e w8 ⟨rfl, rfl⟩
  dsimp only
  refine hKK _ _ (.both HT.out trivial) ?_
  clear hKK h2 h3 K o
  try simp only [Act.put, List.setIfInBounds_toArray, List.set_cons_zero, List.set_cons_succ]
  refine E_one 12 (by kernel_rfl) (StepE.assign 12 (some 8) _ (.int .i64 pa) rfl (by rfl) (by rfl) (.both HT.out trivial) ?_)
  simp only [Act.put, List.setIfInBounds_toArray, List.set_cons_zero, List.set_cons_succ]
  refine E_one 13 (by kernel_rfl) (StepE.assign 13 (some 9) _ (.int .i64 pb) rfl (by rfl) (by rfl) (.both HT.out trivial) ?_)
  simp only [Act.put, List.setIfInBounds_toArray, List.set_cons_zero, List.set_cons_succ]
  refine E_one 14 (by kernel_rfl) (StepE.assign 14 (some 10) _ (.int .i64 pc) rfl (by rfl) (by rfl) (.both HT.out trivial) ?_)
  simp only [Act.put, List.setIfInBounds_toArray, List.set_cons_zero, List.set_cons_succ]
  refine wpAnyE_done (by kernel_rfl) ?_ _
  have c0 := HT.out.cell 0
  have c1 := HT.out.cell 1
  have c2 := HT.out.cell 2
  have c6 := HT.out.cell 6
  simp [MD.cells] at c0 c1 c2 c6
  cases k0 : (x.kind == 0)
  rotate_left
  · go_wp2_with fail
    refine (const_nil _ _).mono ?_
    rintro e w9 ⟨rfl, rfl⟩
    have HB9 := hide HBd.out
    go_wp2
    go_ret2
    exact ⟨rfl, HB9.out⟩
  cases k1 : (x.kind == 1)
  rotate_left
  · have hu := HX.out.2.2.2.2.2.2
    have hm : x.n.tmod 64 = x.n % 64 := Int.tmod_eq_emod_of_nonneg hu.1
    have hw1 : IntKind.u64.wrap (x.n % 64) = x.n % 64 := by rw [IntKind.wrap_u64]; omega
    have hw2 : wrap64 (x.n % 64) = x.n % 64 := by unfold wrap64; omega
    go_wp2_with fail
    refine (var_nil _ _ _).mono ?_
    rintro e w9 ⟨rfl, rfl⟩
    have HB9 := hide HBd.out
    go_wp2
    go_ret2
    exact ⟨rfl, HB9.out⟩
  cases k2 : (x.kind == 2)
  rotate_left
  · go_wp2_with fail
    refine (op_nil _ _ _ _ _).mono ?_
    rintro e w9 ⟨rfl, hb⟩
    have HB9 := hide (HBd.out.trans (hb.mono HBd.out.size))
    go_wp2
    go_ret2
    exact ⟨rfl, HB9.out⟩
  cases k3 : (x.kind == 3)
  rotate_left
  · go_wp2_with fail
    refine (Zext_nil _ _ _).mono ?_
    rintro e w9 ⟨rfl, hb⟩
    have HB9 := hide (HBd.out.trans (hb.mono HBd.out.size))
    go_wp2
    go_ret2
    exact ⟨rfl, HB9.out⟩
  cases k4 : (x.kind == 4)
  rotate_left
  · go_wp2_with fail
    refine (cond_nil _ _ _ _ _).mono ?_
    rintro e w9 ⟨rfl, hb⟩
    have HB9 := hide (HBd.out.trans (hb.mono HBd.out.size))
    go_wp2
    go_ret2
    exact ⟨rfl, HB9.out⟩
  · go_wp2_with fail
    refine (ite_nil _ _ _ _).mono ?_
    rintro e w9 ⟨rfl, hb⟩
    have HB9 := hide (HBd.out.trans (hb.mono HBd.out.size))
    go_wp2
    go_ret2
    exact ⟨rfl, HB9.out⟩
theorem sizMk : (Try.prog.info? 31).map (·.size) = some 7 := by kernel_rfl
theorem evP_nil (vs : List Int) : evP [] vs 0 = none := rfl
set_option maxHeartbeats 4000000 in
theorem nil27_walk (x : MD) (A : Option Addr) (n c : Nat) (l : List Int) (W : World) (hx : x.wf) (hr : l.length = n ∧ (∀ x ∈ l, U64 x) ∧ Reads W W.heap.size 1 A n (l.map (Value.int .u64))) (hm : n < 9223372036854775808) (hc : n ≤ c) :
    Calls Try.prog 5 #[.agg x.cells.toArray, .slice A n c] W fun e w' => e = .returned (.bool true) ∧ Below W.heap.size W w' := by
  have HX := hide hx
  have HR := hide hr
  have HC := hide (And.intro hm hc)
  have HXC := hide (show x.cells.length = 7 by simp [MD.cells])
  have HB1 := hide (bl_alloc W (.cells x.cells.toArray 31))
  have HBX := hide (Blk.new W 31 x.cells.toArray)
  clear hx hr hm hc
  go_enter Try.func5, Try.ntmps5
  cases hlt : decide (80 < n)
  rotate_left
  · have hlt' : decide ((80 : Int) < (n : Int)) = true := by simp at hlt ⊢; omega
    go_wp2_with fail
    refine (wakes_any _).mono ?_
    rintro e w9 ⟨rfl, hb⟩
    have HB9 := hide (HB1.out.trans (hb.mono HB1.out.size))
    go_wp2
    go_ret
    exact ⟨rfl, HB9.out⟩
  · have hlt' : decide ((80 : Int) < (n : Int)) = false := by simp at hlt ⊢; omega
    go_wp2_with (first
      | (refine wpList_load_at rfl 31 (.tmp 2) rfl _ (by rfl) x.cells _ (blk_list HBX.out) Try.underlying31 rfl sizMk ?_)
      | fail)
    refine (mine_nil x HX.out _).mono ?_
    rintro e w2 ⟨rfl, hb⟩
    have HB2 := hide (HB1.out.trans (hb.mono HB1.out.size))
    clear hb HB1 HBX
    go_wp2_with fail
    refine (eval_nil _ _).mono ?_
    rintro e w3 ⟨rfl, rfl⟩
    go_wp2_with fail
    refine (new_any _).mono ?_
    rintro e w3 ⟨g, F, rfl, hp, hb⟩
    have HB3 := hide (HB2.out.trans (hb.mono HB2.out.size))
    have HP := hide hp
    clear hb hp HB2
    go_wp2_with fail
    refine (Eval_any 0 (by unfold I64; omega) _ HP.out (reads_up (HR.out.2.2.below HB3.out) HB3.out.size) HR.out.1 HC.out.2 HC.out.1 HR.out.2.1).mono ?_
    rintro e w4 ⟨rfl, hb⟩
    rw [evP_nil]
    dsimp only [resV]
    have HB4 := hide (HB3.out.trans (hb.mono HB3.out.size))
    clear hb HB3 HP
    go_wp2_with fail
    refine (Narrow_nil _ _ _).mono ?_
    rintro e w5 ⟨rfl, hb⟩
    have HB5 := hide (HB4.out.trans (hb.mono HB4.out.size))
    clear hb HB4
    go_wp2_with fail
    refine (wakes_any _).mono ?_
    rintro e w6 ⟨rfl, hb⟩
    have HB6 := hide (HB5.out.trans (hb.mono HB5.out.size))
    clear hb HB5
    go_wp2
    go_ret
    exact ⟨rfl, HB6.out⟩
end Go.Proofs.Ytfjflefgclfbfaa
