/-
  Plain words on instructions: which may be, in numbers; there and back. Conditions: those written in each statement.
-/
import Derived.Test.YtbdofidapddgaaaIb
namespace Go.Proofs.Ytbdofidapddgaaa
open Go.RowKit
set_option linter.unusedVariables false
set_option linter.unusedSimpArgs false
def Rng (x : ID) : Prop := 0 ≤ x.dst ∧ x.dst ≤ 10 ∧ 0 ≤ x.src ∧ x.src ≤ 10 ∧ -32768 ≤ x.off ∧ x.off ≤ 32767 ∧ -2147483648 ≤ x.imm ∧ x.imm ≤ 2147483647
def MayK (x : ID) : Prop :=
  (x.kind = 0 ∧ 0 ≤ x.op ∧ x.op ≤ 12 ∧ (x.width = 32 ∨ x.width = 64) ∧ x.dst < 10 ∧ x.size = 0 ∧ x.off = 0 ∧ ((x.byReg = true ∧ x.op ≠ 8 ∧ x.imm = 0) ∨ (x.byReg = false ∧ x.src = 0 ∧ (x.op = 8 → x.imm = 0))))
  ∨ (x.kind = 1 ∧ (x.size = 1 ∨ x.size = 2 ∨ x.size = 4 ∨ x.size = 8) ∧ x.dst < 10 ∧ x.op = 0 ∧ x.width = 0 ∧ x.byReg = false ∧ x.imm = 0)
  ∨ (x.kind = 2 ∧ (x.size = 1 ∨ x.size = 2 ∨ x.size = 4 ∨ x.size = 8) ∧ x.op = 0 ∧ x.width = 0 ∧ x.byReg = false ∧ x.imm = 0)
  ∨ (x.kind = 3 ∧ 0 ≤ x.op ∧ x.op ≤ 10 ∧ x.width = 0 ∧ x.size = 0 ∧ ((x.byReg = true ∧ x.imm = 0) ∨ (x.byReg = false ∧ x.src = 0)))
  ∨ (x.kind = 4 ∧ x.op = 0 ∧ x.width = 0 ∧ x.size = 0 ∧ x.byReg = false ∧ x.dst = 0 ∧ x.src = 0 ∧ x.imm = 0)
  ∨ (x.kind = 5 ∧ x.op = 0 ∧ x.width = 0 ∧ x.size = 0 ∧ x.byReg = false ∧ x.dst = 0 ∧ x.src = 0 ∧ x.off = 0 ∧ 0 ≤ x.imm ∧ x.imm ≤ 15)
  ∨ (x.kind = 6 ∧ x.op = 0 ∧ x.width = 0 ∧ x.size = 0 ∧ x.byReg = false ∧ x.dst = 0 ∧ x.src = 0 ∧ x.off = 0 ∧ x.imm = 0)
theorem rng_iff (x : ID) : rngB x = true ↔ Rng x := by
  unfold rngB Rng
  simp only [Bool.and_eq_true, inB_iff]
  omega
theorem mayk_iff (x : ID) : (bareM x && eqL (bareR x).cells (kz x.kind).cells) = true ↔ MayK x := by
  obtain ⟨k, op, wd, sz, br, dst, src, off, imm⟩ := x
  unfold MayK bareM bareR immR kz ID.cells
  dsimp only
  by_cases h0 : k = 0
  · subst h0
    cases br <;> simp [eqL, eqV, inB] <;> omega
  by_cases h1 : k = 1
  · subst h1
    cases br <;> simp [eqL, eqV, inB, szB] <;> omega
  by_cases h2 : k = 2
  · subst h2
    cases br <;> simp [eqL, eqV, inB, szB] <;> omega
  by_cases h3 : k = 3
  · subst h3
    cases br <;> simp [eqL, eqV, inB] <;> omega
  by_cases h4 : k = 4
  · subst h4
    cases br <;> simp [eqL, eqV, inB] <;> omega
  by_cases h5 : k = 5
  · subst h5
    cases br <;> simp [eqL, eqV, inB] <;> omega
  by_cases h6 : k = 6
  · subst h6
    cases br <;> simp [eqL, eqV, inB] <;> omega
  · simp [h0, h1, h2, h3, h4, h5, h6]
theorem may_iff (x : ID) : mayB x = true ↔ Rng x ∧ MayK x := by
  unfold mayB
  rw [Bool.and_eq_true, rng_iff, mayk_iff]
/-! ### there and back -/
end Go.Proofs.Ytbdofidapddgaaa
