/-
  Plain words on instructions: what is read has the bytes that it was read from. Conditions: those written in each statement.
-/
import Derived.Test.YtopanomcbkhbnaaIr
namespace Go.Proofs.Ytopanomcbkhbnaa
open Go.RowKit
set_option linter.unusedVariables false
set_option linter.unusedSimpArgs false
theorem u_sg16 (p q : Int) (hp : 0 ≤ p ∧ p < 256) (hq : 0 ≤ q ∧ q < 256) : uOf (sg16 (p + 256 * (q + 256 * 0))) % 256 = p ∧ uOf (sg16 (p + 256 * (q + 256 * 0))) / 256 % 256 = q := by
  unfold uOf sg16
  omega
theorem u_sg32 (p q r s : Int) (hp : 0 ≤ p ∧ p < 256) (hq : 0 ≤ q ∧ q < 256) (hr : 0 ≤ r ∧ r < 256) (hs : 0 ≤ s ∧ s < 256) :
    uOf (sg32 (p + 256 * (q + 256 * (r + 256 * (s + 256 * 0))))) % 256 = p ∧ uOf (sg32 (p + 256 * (q + 256 * (r + 256 * (s + 256 * 0))))) / 256 % 256 = q ∧ uOf (sg32 (p + 256 * (q + 256 * (r + 256 * (s + 256 * 0))))) / 65536 % 256 = r ∧ uOf (sg32 (p + 256 * (q + 256 * (r + 256 * (s + 256 * 0))))) / 16777216 % 256 = s := by
  unfold uOf sg32
  omega
theorem lg_sz (k : Int) (h : 0 ≤ k ∧ k ≤ 3) : lgN 4 (szOf k) = k := by
  have : k = 0 ∨ k = 1 ∨ k = 2 ∨ k = 3 := by omega
  rcases this with rfl | rfl | rfl | rfl <;> rfl
theorem code_rd (b0 b1 b2 b3 b4 b5 b6 b7 : Int) (h0 : 0 ≤ b0 ∧ b0 < 256) (hop : rdOp b0 = true) : codeN (rdX [b0, b1, b2, b3, b4, b5, b6, b7]) = b0 := by
  unfold rdOp at hop
  simp at hop
  unfold rdX
  simp only [List.getD_cons_zero]
  by_cases h64 : b0 < 64
  · rw [if_pos h64]
    unfold codeN byN
    dsimp only
    rw [if_pos rfl]
    by_cases hw : b0 % 64 / 32 = 1
    · rw [if_pos hw, if_pos rfl]
      by_cases hb : b0 % 32 / 16 = 1
      · simp [hb]; omega
      · simp [hb]; omega
    · rw [if_neg hw]
      by_cases hb : b0 % 32 / 16 = 1
      · simp [hb]; omega
      · simp [hb]; omega
  · rw [if_neg h64]
    by_cases h68 : b0 < 68
    · rw [if_pos h68]
      unfold codeN
      dsimp only
      rw [if_neg (by omega), if_pos rfl, lg_sz _ (by omega)]
      omega
    · rw [if_neg h68]
      by_cases h76 : b0 < 76
      · rw [if_pos h76]
        unfold codeN
        dsimp only
        rw [if_neg (by omega), if_neg (by omega), if_pos rfl, lg_sz _ (by omega)]
        omega
      · rw [if_neg h76]
        by_cases h112 : b0 < 112 ∧ b0 % 16 ≤ 10
        · rw [if_pos h112]
          unfold codeN byN
          dsimp only
          rw [if_neg (by omega), if_neg (by omega), if_neg (by omega), if_pos rfl]
          by_cases h96 : 96 ≤ b0
          · simp [h96]; omega
          · simp [h96]; omega
        · rw [if_neg h112]
          unfold codeN
          dsimp only
          rw [if_neg (by omega), if_neg (by omega), if_neg (by omega), if_neg (by omega)]
          omega
theorem rd_fields (b0 b1 b2 b3 b4 b5 b6 b7 : Int) : (rdX [b0, b1, b2, b3, b4, b5, b6, b7]).dst = b1 % 16 ∧ (rdX [b0, b1, b2, b3, b4, b5, b6, b7]).src = b1 / 16 ∧ (rdX [b0, b1, b2, b3, b4, b5, b6, b7]).off = sg16 (b2 + 256 * (b3 + 256 * 0)) ∧ (rdX [b0, b1, b2, b3, b4, b5, b6, b7]).imm = sg32 (b4 + 256 * (b5 + 256 * (b6 + 256 * (b7 + 256 * 0)))) := by
  unfold rdX
  simp only [List.getD_cons_zero, List.getD_cons_succ, List.drop_succ_cons, List.drop_zero, List.take_succ_cons, List.take_zero, getB]
  repeat' split
  all_goals exact ⟨rfl, rfl, rfl, rfl⟩
theorem ins_rd {b : List Int} (hb : IsBytes b) (hl : b.length = 8) (hop : rdOp (b.getD 0 0) = true) : insB (rdX b) = b := by
  match b, hl with
  | [b0, b1, b2, b3, b4, b5, b6, b7], _ =>
    have B0 := hb b0 (by simp)
    have B1 := hb b1 (by simp)
    have B2 := hb b2 (by simp)
    have B3 := hb b3 (by simp)
    have B4 := hb b4 (by simp)
    have B5 := hb b5 (by simp)
    have B6 := hb b6 (by simp)
    have B7 := hb b7 (by simp)
    obtain ⟨e1, e2, e3, e4⟩ := rd_fields b0 b1 b2 b3 b4 b5 b6 b7
    have a16 := u_sg16 b2 b3 B2 B3
    have a32 := u_sg32 b4 b5 b6 b7 B4 B5 B6 B7
    rw [insB_eq, code_rd b0 b1 b2 b3 b4 b5 b6 b7 B0 hop, e1, e2, e3, e4, a16.1, a16.2, a32.1, a32.2.1, a32.2.2.1, a32.2.2.2]
    rw [show b1 % 16 + 16 * (b1 / 16) = b1 by omega]
end Go.Proofs.Ytopanomcbkhbnaa
