/-
  Places as keys of a map. Conditions: those written in each statement.
-/
import Derived.Test.YtmnokkomhgpmmaaProg
import Derived.Test.YtmnokkomhgpmmaaPl
import Derived.Test.YtmnokkomhgpmmaaKeys
namespace Go.Proofs.Ytmnokkomhgpmmaa
open Go.RowKit
set_option linter.unusedVariables false
set_option linter.unusedSimpArgs false
open Go.Maps (Keyed)
theorem laidOut_ : laidOutB Try.prog = true := by kernel_rfl
theorem sizeT_ : Nat.ble 1 Try.prog.types.size = true := by kernel_rfl
theorem keyT : Try.prog.keyType 31 = true := by kernel_rfl
theorem cellsT : Try.prog.cellsOf 31 = 2 := by kernel_rfl
theorem cells8 : Try.prog.cellsOf 29 = 1 := by kernel_rfl
def placeV (p : Int × Int) : Value := .agg #[.int .i8 p.1, .int .i8 p.2]
theorem wf_i8 {x : Int} (h : I8 x) : (Lit.int .i8 x).wf = true := by unfold I8 at h; exact WalkArith.wf_i8 (by omega)
theorem placeK_reads (p : Int × Int) (h : I8 p.1 ∧ I8 p.2) : ∃ l, keyOf Try.prog 31 (placeV p) = some l := by
  refine keyOf_struct (cs := [.int .i8 p.1, .int .i8 p.2]) Try.underlying31 keyT cellsT (by kernel_rfl) sizeT_ ?_
  intro f hf
  simp at hf
  rcases hf with rfl | rfl
  · exact ⟨.i8, p.1, Try.underlying29, cells8, rfl, wf_i8 h.1⟩
  · exact ⟨.i8, p.2, Try.underlying29, cells8, rfl, wf_i8 h.2⟩
theorem placeK_inj (p q : Int × Int) (h : placeV p = placeV q) : p = q := by
  unfold placeV at h
  injection h with h
  simp at h
  exact Prod.ext h.1 h.2
theorem placeK : KeyEnc Try.prog 31 placeV (fun p => I8 p.1 ∧ I8 p.2) where
  keyed := Keyed.of_law (deep_law_gate laidOut_ (of_decide_eq_true (by kernel_rfl)) (of_decide_eq_true (by kernel_rfl)) (by kernel_rfl) (by kernel_rfl))
  reads := placeK_reads
  inj := fun p q _ _ h => placeK_inj p q h
end Go.Proofs.Ytmnokkomhgpmmaa
