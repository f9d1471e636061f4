/-
  latheref03.fields: an instruction with just what its kind names, the document's; sized. Conditions: those written in each statement.
  Plain words on instructions: which may be, in numbers; there and back. Conditions: those written in each statement.
-/
import Derived.Test.YtepagfkkjlbipaaKap
import Derived.Test.YtepagfkkjlbipaaKan
import Derived.Test.YtepagfkkjlbipaaKan
section
namespace Go.Proofs.Ytepagfkkjlbipaa
open Go.RowKit
set_option linter.unusedVariables false
set_option linter.unusedSimpArgs false
def fieldsR (x : ID) : ID :=
  if x.kind = 0 then ⟨0, x.op, x.width, 0, x.byReg && x.op != 8, x.dst, if x.byReg && x.op != 8 then x.src else 0, 0, if x.byReg && x.op != 8 then 0 else if x.op != 8 then x.imm else 0⟩
  else if x.kind = 1 then ⟨1, 0, 0, x.size, false, x.dst, x.src, x.off, 0⟩
  else if x.kind = 2 then ⟨2, 0, 0, x.size, false, x.dst, x.src, x.off, 0⟩
  else if x.kind = 3 then ⟨3, x.op, 0, 0, x.byReg, x.dst, if x.byReg then x.src else 0, x.off, if x.byReg then 0 else x.imm⟩
  else if x.kind = 4 then ⟨4, 0, 0, 0, false, 0, 0, x.off, 0⟩
  else if x.kind = 5 then ⟨5, 0, 0, 0, false, 0, 0, 0, x.imm⟩
  else kz x.kind
def FieldsP (x : ID) (w : World) (e : Ending) (w' : World) : Prop := e = .returned (.agg (fieldsR x).cells.toArray) ∧ Below w.heap.size w w'
set_option maxRecDepth 100000 in
set_option maxHeartbeats 2000000 in
theorem fields_0t (op wd sz dst src off imm : Int) (w : World) : Calls Try.prog 16 #[.agg #[.int .i8 0, .int .i8 op, .int .i8 wd, .int .i8 sz, .bool true, .int .i8 dst, .int .i8 src, .int .i64 off, .int .i64 imm]] w (FieldsP ⟨0, op, wd, sz, true, dst, src, off, imm⟩ w) := by
  have h8 : (op == 8) = true ∧ (op != 8) = false ∨ (op == 8) = false ∧ (op != 8) = true := by cases h : (op == 8) <;> simp [bne, h]
  rcases h8 with ⟨h8, h8'⟩ | ⟨h8, h8'⟩
  all_goals
    go_enter Try.func16, Try.ntmps16
    go_wp2
    refine bodyPost_ret (v := .agg (fieldsR ⟨0, op, wd, sz, true, dst, src, off, imm⟩).cells.toArray) (by simp [results, Try.results16, go_sem, fieldsR, kz, ID.cells, *]) rfl ⟨rfl, ?_⟩
    exact (((Below.refl _ _).alloc (Nat.le_refl _) _).alloc (le_alloc _ (Nat.le_refl _)) _).alloc (le_alloc _ (le_alloc _ (Nat.le_refl _))) _
set_option maxRecDepth 100000 in
set_option maxHeartbeats 2000000 in
theorem fields_0f (op wd sz dst src off imm : Int) (w : World) : Calls Try.prog 16 #[.agg #[.int .i8 0, .int .i8 op, .int .i8 wd, .int .i8 sz, .bool false, .int .i8 dst, .int .i8 src, .int .i64 off, .int .i64 imm]] w (FieldsP ⟨0, op, wd, sz, false, dst, src, off, imm⟩ w) := by
  have h8 : (op == 8) = true ∧ (op != 8) = false ∨ (op == 8) = false ∧ (op != 8) = true := by cases h : (op == 8) <;> simp [bne, h]
  rcases h8 with ⟨h8, h8'⟩ | ⟨h8, h8'⟩
  all_goals
    go_enter Try.func16, Try.ntmps16
    go_wp2
    refine bodyPost_ret (v := .agg (fieldsR ⟨0, op, wd, sz, false, dst, src, off, imm⟩).cells.toArray) (by simp [results, Try.results16, go_sem, fieldsR, kz, ID.cells, *]) rfl ⟨rfl, ?_⟩
    exact (((Below.refl _ _).alloc (Nat.le_refl _) _).alloc (le_alloc _ (Nat.le_refl _)) _).alloc (le_alloc _ (le_alloc _ (Nat.le_refl _))) _
set_option maxRecDepth 100000 in
set_option maxHeartbeats 2000000 in
theorem fields_1 (op wd sz dst src off imm : Int) (br : Bool) (w : World) : Calls Try.prog 16 #[.agg #[.int .i8 1, .int .i8 op, .int .i8 wd, .int .i8 sz, .bool br, .int .i8 dst, .int .i8 src, .int .i64 off, .int .i64 imm]] w (FieldsP ⟨1, op, wd, sz, br, dst, src, off, imm⟩ w) := by
  go_enter Try.func16, Try.ntmps16
  go_wp2
  refine bodyPost_ret (v := .agg (fieldsR ⟨1, op, wd, sz, br, dst, src, off, imm⟩).cells.toArray) (by simp [results, Try.results16, go_sem, fieldsR, kz, ID.cells, *]) rfl ⟨rfl, ?_⟩
  exact (((Below.refl _ _).alloc (Nat.le_refl _) _).alloc (le_alloc _ (Nat.le_refl _)) _).alloc (le_alloc _ (le_alloc _ (Nat.le_refl _))) _
set_option maxRecDepth 100000 in
set_option maxHeartbeats 2000000 in
theorem fields_2 (op wd sz dst src off imm : Int) (br : Bool) (w : World) : Calls Try.prog 16 #[.agg #[.int .i8 2, .int .i8 op, .int .i8 wd, .int .i8 sz, .bool br, .int .i8 dst, .int .i8 src, .int .i64 off, .int .i64 imm]] w (FieldsP ⟨2, op, wd, sz, br, dst, src, off, imm⟩ w) := by
  go_enter Try.func16, Try.ntmps16
  go_wp2
  refine bodyPost_ret (v := .agg (fieldsR ⟨2, op, wd, sz, br, dst, src, off, imm⟩).cells.toArray) (by simp [results, Try.results16, go_sem, fieldsR, kz, ID.cells, *]) rfl ⟨rfl, ?_⟩
  exact (((Below.refl _ _).alloc (Nat.le_refl _) _).alloc (le_alloc _ (Nat.le_refl _)) _).alloc (le_alloc _ (le_alloc _ (Nat.le_refl _))) _
set_option maxRecDepth 100000 in
set_option maxHeartbeats 2000000 in
theorem fields_3t (op wd sz dst src off imm : Int) (w : World) : Calls Try.prog 16 #[.agg #[.int .i8 3, .int .i8 op, .int .i8 wd, .int .i8 sz, .bool true, .int .i8 dst, .int .i8 src, .int .i64 off, .int .i64 imm]] w (FieldsP ⟨3, op, wd, sz, true, dst, src, off, imm⟩ w) := by
  go_enter Try.func16, Try.ntmps16
  go_wp2
  refine bodyPost_ret (v := .agg (fieldsR ⟨3, op, wd, sz, true, dst, src, off, imm⟩).cells.toArray) (by simp [results, Try.results16, go_sem, fieldsR, kz, ID.cells, *]) rfl ⟨rfl, ?_⟩
  exact (((Below.refl _ _).alloc (Nat.le_refl _) _).alloc (le_alloc _ (Nat.le_refl _)) _).alloc (le_alloc _ (le_alloc _ (Nat.le_refl _))) _
set_option maxRecDepth 100000 in
set_option maxHeartbeats 2000000 in
theorem fields_3f (op wd sz dst src off imm : Int) (w : World) : Calls Try.prog 16 #[.agg #[.int .i8 3, .int .i8 op, .int .i8 wd, .int .i8 sz, .bool false, .int .i8 dst, .int .i8 src, .int .i64 off, .int .i64 imm]] w (FieldsP ⟨3, op, wd, sz, false, dst, src, off, imm⟩ w) := by
  go_enter Try.func16, Try.ntmps16
  go_wp2
  refine bodyPost_ret (v := .agg (fieldsR ⟨3, op, wd, sz, false, dst, src, off, imm⟩).cells.toArray) (by simp [results, Try.results16, go_sem, fieldsR, kz, ID.cells, *]) rfl ⟨rfl, ?_⟩
  exact (((Below.refl _ _).alloc (Nat.le_refl _) _).alloc (le_alloc _ (Nat.le_refl _)) _).alloc (le_alloc _ (le_alloc _ (Nat.le_refl _))) _
set_option maxRecDepth 100000 in
set_option maxHeartbeats 2000000 in
theorem fields_4 (op wd sz dst src off imm : Int) (br : Bool) (w : World) : Calls Try.prog 16 #[.agg #[.int .i8 4, .int .i8 op, .int .i8 wd, .int .i8 sz, .bool br, .int .i8 dst, .int .i8 src, .int .i64 off, .int .i64 imm]] w (FieldsP ⟨4, op, wd, sz, br, dst, src, off, imm⟩ w) := by
  go_enter Try.func16, Try.ntmps16
  go_wp2
  refine bodyPost_ret (v := .agg (fieldsR ⟨4, op, wd, sz, br, dst, src, off, imm⟩).cells.toArray) (by simp [results, Try.results16, go_sem, fieldsR, kz, ID.cells, *]) rfl ⟨rfl, ?_⟩
  exact (((Below.refl _ _).alloc (Nat.le_refl _) _).alloc (le_alloc _ (Nat.le_refl _)) _).alloc (le_alloc _ (le_alloc _ (Nat.le_refl _))) _
set_option maxRecDepth 100000 in
set_option maxHeartbeats 2000000 in
theorem fields_5 (op wd sz dst src off imm : Int) (br : Bool) (w : World) : Calls Try.prog 16 #[.agg #[.int .i8 5, .int .i8 op, .int .i8 wd, .int .i8 sz, .bool br, .int .i8 dst, .int .i8 src, .int .i64 off, .int .i64 imm]] w (FieldsP ⟨5, op, wd, sz, br, dst, src, off, imm⟩ w) := by
  go_enter Try.func16, Try.ntmps16
  go_wp2
  refine bodyPost_ret (v := .agg (fieldsR ⟨5, op, wd, sz, br, dst, src, off, imm⟩).cells.toArray) (by simp [results, Try.results16, go_sem, fieldsR, kz, ID.cells, *]) rfl ⟨rfl, ?_⟩
  exact (((Below.refl _ _).alloc (Nat.le_refl _) _).alloc (le_alloc _ (Nat.le_refl _)) _).alloc (le_alloc _ (le_alloc _ (Nat.le_refl _))) _
set_option maxRecDepth 100000 in
set_option maxHeartbeats 2000000 in
theorem fields_x (k op wd sz dst src off imm : Int) (br : Bool) (w : World) (h0 : ¬ k = 0) (h1 : ¬ k = 1) (h2 : ¬ k = 2) (h3 : ¬ k = 3) (h4 : ¬ k = 4) (h5 : ¬ k = 5) : Calls Try.prog 16 #[.agg #[.int .i8 k, .int .i8 op, .int .i8 wd, .int .i8 sz, .bool br, .int .i8 dst, .int .i8 src, .int .i64 off, .int .i64 imm]] w (FieldsP ⟨k, op, wd, sz, br, dst, src, off, imm⟩ w) := by
  go_enter Try.func16, Try.ntmps16
  go_wp2
  refine bodyPost_ret (v := .agg (fieldsR ⟨k, op, wd, sz, br, dst, src, off, imm⟩).cells.toArray) (by simp [results, Try.results16, go_sem, fieldsR, kz, ID.cells, *]) rfl ⟨rfl, ?_⟩
  exact (((Below.refl _ _).alloc (Nat.le_refl _) _).alloc (le_alloc _ (Nat.le_refl _)) _).alloc (le_alloc _ (le_alloc _ (Nat.le_refl _))) _
theorem fields_any (x : ID) (w : World) : Calls Try.prog 16 #[.agg x.cells.toArray] w (FieldsP x w) := by
  obtain ⟨k, op, wd, sz, br, dst, src, off, imm⟩ := x
  rcases Decidable.em (k = 0) with rfl | h0
  · cases br
    · exact fields_0f op wd sz dst src off imm w
    · exact fields_0t op wd sz dst src off imm w
  rcases Decidable.em (k = 1) with rfl | h1
  · exact fields_1 op wd sz dst src off imm br w
  rcases Decidable.em (k = 2) with rfl | h2
  · exact fields_2 op wd sz dst src off imm br w
  rcases Decidable.em (k = 3) with rfl | h3
  · cases br
    · exact fields_3f op wd sz dst src off imm w
    · exact fields_3t op wd sz dst src off imm w
  rcases Decidable.em (k = 4) with rfl | h4
  · exact fields_4 op wd sz dst src off imm br w
  rcases Decidable.em (k = 5) with rfl | h5
  · exact fields_5 op wd sz dst src off imm br w
  exact fields_x k op wd sz dst src off imm br w h0 h1 h2 h3 h4 h5
theorem rsized_any (n : Int) (w : World) : Calls Try.prog 17 #[.int .i8 n] w fun e w' => e = .returned (.bool (szB n)) ∧ w = w' := by
  go_enter Try.func17, Try.ntmps17
  go_wp2
  all_goals
    go_ret
    exact ⟨ret_b (by unfold szB; simp_all), rfl⟩
end Go.Proofs.Ytepagfkkjlbipaa
end
section
namespace Go.Proofs.Ytepagfkkjlbipaa
open Go.RowKit
set_option linter.unusedVariables false
set_option linter.unusedSimpArgs false
def Rng (x : ID) : Prop := 0 ≤ x.dst ∧ x.dst ≤ 10 ∧ 0 ≤ x.src ∧ x.src ≤ 10 ∧ -32768 ≤ x.off ∧ x.off ≤ 32767 ∧ -2147483648 ≤ x.imm ∧ x.imm ≤ 2147483647
def MayK (x : ID) : Prop :=
  (x.kind = 0 ∧ 0 ≤ x.op ∧ x.op ≤ 12 ∧ (x.width = 32 ∨ x.width = 64) ∧ x.dst < 10 ∧ x.size = 0 ∧ x.off = 0 ∧ ((x.byReg = true ∧ x.op ≠ 8 ∧ x.imm = 0) ∨ (x.byReg = false ∧ x.src = 0 ∧ (x.op = 8 → x.imm = 0))))
  ∨ (x.kind = 1 ∧ (x.size = 1 ∨ x.size = 2 ∨ x.size = 4 ∨ x.size = 8) ∧ x.dst < 10 ∧ x.op = 0 ∧ x.width = 0 ∧ x.byReg = false ∧ x.imm = 0)
  ∨ (x.kind = 2 ∧ (x.size = 1 ∨ x.size = 2 ∨ x.size = 4 ∨ x.size = 8) ∧ x.op = 0 ∧ x.width = 0 ∧ x.byReg = false ∧ x.imm = 0)
  ∨ (x.kind = 3 ∧ 0 ≤ x.op ∧ x.op ≤ 10 ∧ x.width = 0 ∧ x.size = 0 ∧ ((x.byReg = true ∧ x.imm = 0) ∨ (x.byReg = false ∧ x.src = 0)))
  ∨ (x.kind = 4 ∧ x.op = 0 ∧ x.width = 0 ∧ x.size = 0 ∧ x.byReg = false ∧ x.dst = 0 ∧ x.src = 0 ∧ x.imm = 0)
  ∨ (x.kind = 5 ∧ x.op = 0 ∧ x.width = 0 ∧ x.size = 0 ∧ x.byReg = false ∧ x.dst = 0 ∧ x.src = 0 ∧ x.off = 0 ∧ 0 ≤ x.imm ∧ x.imm ≤ 15)
  ∨ (x.kind = 6 ∧ x.op = 0 ∧ x.width = 0 ∧ x.size = 0 ∧ x.byReg = false ∧ x.dst = 0 ∧ x.src = 0 ∧ x.off = 0 ∧ x.imm = 0)
theorem rng_iff (x : ID) : rngB x = true ↔ Rng x := by
  unfold rngB Rng
  simp only [Bool.and_eq_true, inB_iff]
  omega
theorem mayk_iff (x : ID) : (bareM x && eqL (bareR x).cells (kz x.kind).cells) = true ↔ MayK x := by
  obtain ⟨k, op, wd, sz, br, dst, src, off, imm⟩ := x
  unfold MayK bareM bareR immR kz ID.cells
  dsimp only
  by_cases h0 : k = 0
  · subst h0
    cases br <;> simp [eqL, eqV, inB] <;> omega
  by_cases h1 : k = 1
  · subst h1
    cases br <;> simp [eqL, eqV, inB, szB] <;> omega
  by_cases h2 : k = 2
  · subst h2
    cases br <;> simp [eqL, eqV, inB, szB] <;> omega
  by_cases h3 : k = 3
  · subst h3
    cases br <;> simp [eqL, eqV, inB] <;> omega
  by_cases h4 : k = 4
  · subst h4
    cases br <;> simp [eqL, eqV, inB] <;> omega
  by_cases h5 : k = 5
  · subst h5
    cases br <;> simp [eqL, eqV, inB] <;> omega
  by_cases h6 : k = 6
  · subst h6
    cases br <;> simp [eqL, eqV, inB] <;> omega
  · simp [h0, h1, h2, h3, h4, h5, h6]
theorem may_iff (x : ID) : mayB x = true ↔ Rng x ∧ MayK x := by
  unfold mayB
  rw [Bool.and_eq_true, rng_iff, mayk_iff]
theorem eq_id_iff {x y : ID} (hx : x.wf) (hy : y.wf) : eqL x.cells y.cells = true ↔ x = y := by
  rw [eqL_iff instrK _ _ (ID.all hx) (ID.all hy)]
  exact ⟨ID.cells_inj, fun h => by rw [h]⟩
end Go.Proofs.Ytepagfkkjlbipaa
end
