/-
  Terms compared; laws for taking loads first in a region that draws. Conditions: those written in each statement.
-/
import Derived.Test.YtafbjcnonhpldaaWa
import Derived.Test.YtafbjcnonhpldaaFlat
import Derived.Test.YtafbjcnonhpldaaEq
import Derived.Test.YtafbjcnonhpldaaOrs
import Derived.RegionTactic
import Derived.Laws.StructEq
namespace Go.Proofs.Ytafbjcnonhpldaa
open Go.RowKit
set_option linter.unusedVariables false
set_option linter.unusedSimpArgs false
theorem flatTm : flatK Try.prog 4 32 = some [some .i8, some .i8, some .i8, some .u64, some .i64, some .i64, some .i64] := by kernel_rfl
theorem okTm : eqOk Try.prog 4 32 = true := by kernel_rfl
theorem aggTm : aggT Try.prog 32 = true := by kernel_rfl
theorem tm_all {x : TD} (h : x.wf) : AllK [some .i8, some .i8, some .i8, some .u64, some .i64, some .i64, some .i64] x.cells := by
  obtain ⟨h0, h1, h2, h3, h4, h5, h6⟩ := h
  refine ⟨rfl, fun i k v hk hv => ?_⟩
  match i with
  | 0 => simp [TD.cells] at hk hv; subst hk hv; exact ⟨_, rfl, wf_i8 h0⟩
  | 1 => simp [TD.cells] at hk hv; subst hk hv; exact ⟨_, rfl, wf_i8 h1⟩
  | 2 => simp [TD.cells] at hk hv; subst hk hv; exact ⟨_, rfl, wf_i8 h2⟩
  | 3 => simp [TD.cells] at hk hv; subst hk hv; exact ⟨_, rfl, wf_u64 h3⟩
  | 4 => simp [TD.cells] at hk hv; subst hk hv; exact ⟨_, rfl, wf_i64 h4⟩
  | 5 => simp [TD.cells] at hk hv; subst hk hv; exact ⟨_, rfl, wf_i64 h5⟩
  | 6 => simp [TD.cells] at hk hv; subst hk hv; exact ⟨_, rfl, wf_i64 h6⟩
  | i + 7 => simp at hk
theorem eqL_tm {x y : TD} (hx : x.wf) (hy : y.wf) : eqL x.cells y.cells = decide (x = y) := by
  have := eqL_iff _ _ _ (tm_all hx) (tm_all hy)
  rw [Bool.eq_iff_iff, this]
  simp only [decide_eq_true_eq]
  exact ⟨TD.cells_inj, fun h => by rw [h]⟩
theorem eql_tm {x y : TD} (hx : x.wf) (hy : y.wf) (w : World) : (binOp .eql 32 (.agg x.cells.toArray) (.agg y.cells.toArray)).run Try.prog w = .ok (.bool (decide (x = y))) w := by
  rw [run_eql_flat (by omega) flatTm okTm aggTm (tm_all hx) (tm_all hy) w, eqL_tm hx hy]
theorem neq_tm {x y : TD} (hx : x.wf) (hy : y.wf) (w : World) : (binOp .neq 32 (.agg x.cells.toArray) (.agg y.cells.toArray)).run Try.prog w = .ok (.bool (!decide (x = y))) w := by
  rw [run_neq_flat (by omega) flatTm okTm aggTm (tm_all hx) (tm_all hy) w, eqL_tm hx hy]
theorem eql_tmG {x y : TD} (hx : x.wf) (hy : y.wf) (p q : Operand) (w : World) : (do eqGuard .eql 32 p q (.agg x.cells.toArray) (.agg y.cells.toArray); binOp .eql 32 (.agg x.cells.toArray) (.agg y.cells.toArray) : Sem Value).run Try.prog w = .ok (.bool (decide (x = y))) w := by
  have := eql_tm hx hy w
  simp only [Sem.run_bind]
  rw [show (eqGuard .eql 32 p q (.agg x.cells.toArray) (.agg y.cells.toArray)).run Try.prog w = .ok () w from run_eqGuard_agg (w := w) .eql 32 p q _ _ Try.eqGuardType32]
  exact this
end Go.Proofs.Ytafbjcnonhpldaa
