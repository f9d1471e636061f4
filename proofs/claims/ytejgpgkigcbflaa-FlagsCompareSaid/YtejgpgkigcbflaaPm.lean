/-
  Plain words on comparisons of words of a width, with the sign and without. Conditions: those written in each statement.
-/
import Derived.Test.YtejgpgkigcbflaaPl
namespace Go.Proofs.Ytejgpgkigcbflaa
open Go.RowKit
/-- A cut word with its sign. -/
def sgn (w v : Int) : Int := if halfW w ≤ cutW w v then cutW w v - modW w else cutW w v
theorem less_core (F M x y d : Int) (hM : M = 2 * F) (hx0 : 0 ≤ x) (hx1 : x < M) (hy0 : 0 ≤ y) (hy1 : y < M) (hd0 : 0 ≤ d) (hd1 : d < M) (hd : d = x - y ∨ d = x - y + M) :
    (decide (F ≤ d) != ((decide (F ≤ x) != decide (F ≤ y)) && (decide (F ≤ d) != decide (F ≤ x)))) = decide ((if F ≤ x then x - M else x) < (if F ≤ y then y - M else y)) := by
  by_cases h1 : F ≤ x <;> by_cases h2 : F ≤ y <;> by_cases h3 : F ≤ d <;> simp [h1, h2, h3] <;> omega
theorem dif_form {w a b : Int} (hw : Wd w) (ha : U a) (hb : U b) : 0 ≤ difW w a b ∧ difW w a b < modW w ∧ (difW w a b = cutW w a - cutW w b ∨ difW w a b = cutW w a - cutW w b + modW w) ∧ (difW w a b = 0 ↔ cutW w a = cutW w b) := by
  have h1 := cut_bd hw ha
  have h2 := cut_bd hw hb
  unfold difW
  generalize cutW w a = x at *
  generalize cutW w b = y at *
  rcases hw with rfl | rfl
  · simp [modW] at *; omega
  · simp [modW] at *; omega
theorem mod_half {w : Int} (hw : Wd w) : modW w = 2 * halfW w := by rcases hw with rfl | rfl <;> rfl
theorem sub_less {w a b : Int} (hw : Wd w) (ha : U a) (hb : U b) : (subS w a b != subO w a b) = decide (sgn w a < sgn w b) := by
  have h1 := cut_bd hw ha
  have h2 := cut_bd hw hb
  have h3 := dif_form hw ha hb
  exact less_core (halfW w) (modW w) (cutW w a) (cutW w b) (difW w a b) (mod_half hw) h1.1 h1.2 h2.1 h2.2 h3.1 h3.2.1 h3.2.2.1
theorem sub_zero {w a b : Int} (hw : Wd w) (ha : U a) (hb : U b) : subZ w a b = decide (cutW w a = cutW w b) := by
  rw [subZ, Bool.eq_iff_iff]
  simp [(dif_form hw ha hb).2.2.2]
theorem sgn_inj {w a b : Int} (hw : Wd w) (ha : U a) (hb : U b) : sgn w a = sgn w b ↔ cutW w a = cutW w b := by
  have h1 := cut_bd hw ha
  have h2 := cut_bd hw hb
  have h3 := mod_half hw
  unfold sgn
  generalize cutW w a = x at *
  generalize cutW w b = y at *
  generalize modW w = M at *
  generalize halfW w = F at *
  by_cases h4 : F ≤ x <;> by_cases h5 : F ≤ y <;> simp [h4, h5] <;> omega
/-- A difference turned about. -/
theorem turned {w a b : Int} (hw : Wd w) (ha : U a) (hb : U b) :
    subZ w b a = subZ w a b ∧ subC w a b = (!(subC w b a || subZ w b a)) ∧ (!subC w a b) = (subC w b a || subZ w b a) ∧
    (subS w a b != subO w a b) = (!(subZ w b a || (subS w b a != subO w b a))) ∧ (!(subS w a b != subO w a b)) = (subZ w b a || (subS w b a != subO w b a)) ∧ (subC w a b && subC w b a) = false := by
  have hs := sgn_inj hw ha hb
  rw [sub_less hw ha hb, sub_less hw hb ha, sub_zero hw hb ha, sub_zero hw ha hb]
  unfold subC
  generalize cutW w a = x at *
  generalize cutW w b = y at *
  generalize sgn w a = p at *
  generalize sgn w b = q at *
  refine ⟨?_, ?_, ?_, ?_, ?_, ?_⟩
  all_goals
    rw [Bool.eq_iff_iff]
    simp
    try omega
end Go.Proofs.Ytejgpgkigcbflaa
