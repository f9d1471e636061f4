/-
  Plain words for FlagsCompare: conditions behind a difference are the words' comparisons; sums. Conditions: those written in each statement.
-/
import Derived.Test.YtejgpgkigcbflaaLh
namespace Go.Proofs.Ytejgpgkigcbflaa
open Go.RowKit
def CRel (w0 a b : Int) (gf gp : Nat) (w : World) (i : Value) (wr : World) : Prop :=
  ∃ k : Nat, k ≤ 10 ∧ i = .int .i64 k ∧ Blk wr gf 25 #[.bool true, .bool (subC w0 a b), .bool (subZ w0 a b), .bool (subS w0 a b), .bool (subO w0 a b)] ∧ Blk wr gp 29 #[.int .i8 4, .int .i8 0, .int .i8 5, .int .i8 1, .int .i8 2, .int .i8 4, .int .i8 3, .int .i8 3, .int .i8 6, .int .i8 5, .int .i8 7, .int .i8 2, .int .i8 12, .int .i8 8, .int .i8 13, .int .i8 7, .int .i8 14, .int .i8 9, .int .i8 15, .int .i8 6] ∧ Below w.heap.size w wr
theorem cmp_4 {w0 a b : Int} (hw : Wd w0) (ha : U a) (hb : U b) : hB 4 true (subC w0 a b) (subZ w0 a b) (subS w0 a b) (subO w0 a b) = (cutW w0 a == cutW w0 b) ∧ hB 5 true (subC w0 a b) (subZ w0 a b) (subS w0 a b) (subO w0 a b) = !(cutW w0 a == cutW w0 b) := by
  have hs := sgn_inj hw ha hb
  have h1 : hB 4 true (subC w0 a b) (subZ w0 a b) (subS w0 a b) (subO w0 a b) = condB 4 (subC w0 a b) (subZ w0 a b) (subS w0 a b) (subO w0 a b) := rfl
  have h2 : hB 5 true (subC w0 a b) (subZ w0 a b) (subS w0 a b) (subO w0 a b) = condB 5 (subC w0 a b) (subZ w0 a b) (subS w0 a b) (subO w0 a b) := rfl
  rw [h1, h2]
  simp only [condB]
  simp only [sub_less hw ha hb, sub_zero hw ha hb]
  unfold subC
  generalize cutW w0 a = x at *
  generalize cutW w0 b = y at *
  generalize sgn w0 a = p at *
  generalize sgn w0 b = q at *
  constructor
  all_goals
    rw [Bool.eq_iff_iff]
    simp
    try omega
theorem cmp_5 {w0 a b : Int} (hw : Wd w0) (ha : U a) (hb : U b) : hB 5 true (subC w0 a b) (subZ w0 a b) (subS w0 a b) (subO w0 a b) = (cutW w0 a != cutW w0 b) ∧ hB 4 true (subC w0 a b) (subZ w0 a b) (subS w0 a b) (subO w0 a b) = !(cutW w0 a != cutW w0 b) := by
  have hs := sgn_inj hw ha hb
  have h1 : hB 5 true (subC w0 a b) (subZ w0 a b) (subS w0 a b) (subO w0 a b) = condB 5 (subC w0 a b) (subZ w0 a b) (subS w0 a b) (subO w0 a b) := rfl
  have h2 : hB 4 true (subC w0 a b) (subZ w0 a b) (subS w0 a b) (subO w0 a b) = condB 4 (subC w0 a b) (subZ w0 a b) (subS w0 a b) (subO w0 a b) := rfl
  rw [h1, h2]
  simp only [condB]
  simp only [sub_less hw ha hb, sub_zero hw ha hb]
  unfold subC
  generalize cutW w0 a = x at *
  generalize cutW w0 b = y at *
  generalize sgn w0 a = p at *
  generalize sgn w0 b = q at *
  constructor
  all_goals
    rw [Bool.eq_iff_iff]
    simp
    try omega
theorem cmp_2 {w0 a b : Int} (hw : Wd w0) (ha : U a) (hb : U b) : hB 2 true (subC w0 a b) (subZ w0 a b) (subS w0 a b) (subO w0 a b) = (decide (cutW w0 a < cutW w0 b)) ∧ hB 3 true (subC w0 a b) (subZ w0 a b) (subS w0 a b) (subO w0 a b) = !(decide (cutW w0 a < cutW w0 b)) := by
  have hs := sgn_inj hw ha hb
  have h1 : hB 2 true (subC w0 a b) (subZ w0 a b) (subS w0 a b) (subO w0 a b) = condB 2 (subC w0 a b) (subZ w0 a b) (subS w0 a b) (subO w0 a b) := rfl
  have h2 : hB 3 true (subC w0 a b) (subZ w0 a b) (subS w0 a b) (subO w0 a b) = condB 3 (subC w0 a b) (subZ w0 a b) (subS w0 a b) (subO w0 a b) := rfl
  rw [h1, h2]
  simp only [condB]
  simp only [sub_less hw ha hb, sub_zero hw ha hb]
  unfold subC
  generalize cutW w0 a = x at *
  generalize cutW w0 b = y at *
  generalize sgn w0 a = p at *
  generalize sgn w0 b = q at *
  constructor
  all_goals
    rw [Bool.eq_iff_iff]
    simp
    try omega
theorem cmp_3 {w0 a b : Int} (hw : Wd w0) (ha : U a) (hb : U b) : hB 3 true (subC w0 a b) (subZ w0 a b) (subS w0 a b) (subO w0 a b) = (decide (cutW w0 b ≤ cutW w0 a)) ∧ hB 2 true (subC w0 a b) (subZ w0 a b) (subS w0 a b) (subO w0 a b) = !(decide (cutW w0 b ≤ cutW w0 a)) := by
  have hs := sgn_inj hw ha hb
  have h1 : hB 3 true (subC w0 a b) (subZ w0 a b) (subS w0 a b) (subO w0 a b) = condB 3 (subC w0 a b) (subZ w0 a b) (subS w0 a b) (subO w0 a b) := rfl
  have h2 : hB 2 true (subC w0 a b) (subZ w0 a b) (subS w0 a b) (subO w0 a b) = condB 2 (subC w0 a b) (subZ w0 a b) (subS w0 a b) (subO w0 a b) := rfl
  rw [h1, h2]
  simp only [condB]
  simp only [sub_less hw ha hb, sub_zero hw ha hb]
  unfold subC
  generalize cutW w0 a = x at *
  generalize cutW w0 b = y at *
  generalize sgn w0 a = p at *
  generalize sgn w0 b = q at *
  constructor
  all_goals
    rw [Bool.eq_iff_iff]
    simp
    try omega
theorem cmp_6 {w0 a b : Int} (hw : Wd w0) (ha : U a) (hb : U b) : hB 6 true (subC w0 a b) (subZ w0 a b) (subS w0 a b) (subO w0 a b) = (decide (cutW w0 a ≤ cutW w0 b)) ∧ hB 7 true (subC w0 a b) (subZ w0 a b) (subS w0 a b) (subO w0 a b) = !(decide (cutW w0 a ≤ cutW w0 b)) := by
  have hs := sgn_inj hw ha hb
  have h1 : hB 6 true (subC w0 a b) (subZ w0 a b) (subS w0 a b) (subO w0 a b) = condB 6 (subC w0 a b) (subZ w0 a b) (subS w0 a b) (subO w0 a b) := rfl
  have h2 : hB 7 true (subC w0 a b) (subZ w0 a b) (subS w0 a b) (subO w0 a b) = condB 7 (subC w0 a b) (subZ w0 a b) (subS w0 a b) (subO w0 a b) := rfl
  rw [h1, h2]
  simp only [condB]
  simp only [sub_less hw ha hb, sub_zero hw ha hb]
  unfold subC
  generalize cutW w0 a = x at *
  generalize cutW w0 b = y at *
  generalize sgn w0 a = p at *
  generalize sgn w0 b = q at *
  constructor
  all_goals
    rw [Bool.eq_iff_iff]
    simp
    try omega
theorem cmp_7 {w0 a b : Int} (hw : Wd w0) (ha : U a) (hb : U b) : hB 7 true (subC w0 a b) (subZ w0 a b) (subS w0 a b) (subO w0 a b) = (decide (cutW w0 b < cutW w0 a)) ∧ hB 6 true (subC w0 a b) (subZ w0 a b) (subS w0 a b) (subO w0 a b) = !(decide (cutW w0 b < cutW w0 a)) := by
  have hs := sgn_inj hw ha hb
  have h1 : hB 7 true (subC w0 a b) (subZ w0 a b) (subS w0 a b) (subO w0 a b) = condB 7 (subC w0 a b) (subZ w0 a b) (subS w0 a b) (subO w0 a b) := rfl
  have h2 : hB 6 true (subC w0 a b) (subZ w0 a b) (subS w0 a b) (subO w0 a b) = condB 6 (subC w0 a b) (subZ w0 a b) (subS w0 a b) (subO w0 a b) := rfl
  rw [h1, h2]
  simp only [condB]
  simp only [sub_less hw ha hb, sub_zero hw ha hb]
  unfold subC
  generalize cutW w0 a = x at *
  generalize cutW w0 b = y at *
  generalize sgn w0 a = p at *
  generalize sgn w0 b = q at *
  constructor
  all_goals
    rw [Bool.eq_iff_iff]
    simp
    try omega
theorem cmp_12 {w0 a b : Int} (hw : Wd w0) (ha : U a) (hb : U b) : hB 12 true (subC w0 a b) (subZ w0 a b) (subS w0 a b) (subO w0 a b) = (decide (sgn w0 a < sgn w0 b)) ∧ hB 13 true (subC w0 a b) (subZ w0 a b) (subS w0 a b) (subO w0 a b) = !(decide (sgn w0 a < sgn w0 b)) := by
  have hs := sgn_inj hw ha hb
  have h1 : hB 12 true (subC w0 a b) (subZ w0 a b) (subS w0 a b) (subO w0 a b) = condB 12 (subC w0 a b) (subZ w0 a b) (subS w0 a b) (subO w0 a b) := rfl
  have h2 : hB 13 true (subC w0 a b) (subZ w0 a b) (subS w0 a b) (subO w0 a b) = condB 13 (subC w0 a b) (subZ w0 a b) (subS w0 a b) (subO w0 a b) := rfl
  rw [h1, h2]
  simp only [condB]
  simp only [sub_less hw ha hb, sub_zero hw ha hb]
  unfold subC
  generalize cutW w0 a = x at *
  generalize cutW w0 b = y at *
  generalize sgn w0 a = p at *
  generalize sgn w0 b = q at *
  constructor
  all_goals
    rw [Bool.eq_iff_iff]
    simp
    try omega
theorem cmp_13 {w0 a b : Int} (hw : Wd w0) (ha : U a) (hb : U b) : hB 13 true (subC w0 a b) (subZ w0 a b) (subS w0 a b) (subO w0 a b) = (decide (sgn w0 b ≤ sgn w0 a)) ∧ hB 12 true (subC w0 a b) (subZ w0 a b) (subS w0 a b) (subO w0 a b) = !(decide (sgn w0 b ≤ sgn w0 a)) := by
  have hs := sgn_inj hw ha hb
  have h1 : hB 13 true (subC w0 a b) (subZ w0 a b) (subS w0 a b) (subO w0 a b) = condB 13 (subC w0 a b) (subZ w0 a b) (subS w0 a b) (subO w0 a b) := rfl
  have h2 : hB 12 true (subC w0 a b) (subZ w0 a b) (subS w0 a b) (subO w0 a b) = condB 12 (subC w0 a b) (subZ w0 a b) (subS w0 a b) (subO w0 a b) := rfl
  rw [h1, h2]
  simp only [condB]
  simp only [sub_less hw ha hb, sub_zero hw ha hb]
  unfold subC
  generalize cutW w0 a = x at *
  generalize cutW w0 b = y at *
  generalize sgn w0 a = p at *
  generalize sgn w0 b = q at *
  constructor
  all_goals
    rw [Bool.eq_iff_iff]
    simp
    try omega
theorem cmp_14 {w0 a b : Int} (hw : Wd w0) (ha : U a) (hb : U b) : hB 14 true (subC w0 a b) (subZ w0 a b) (subS w0 a b) (subO w0 a b) = (decide (sgn w0 a ≤ sgn w0 b)) ∧ hB 15 true (subC w0 a b) (subZ w0 a b) (subS w0 a b) (subO w0 a b) = !(decide (sgn w0 a ≤ sgn w0 b)) := by
  have hs := sgn_inj hw ha hb
  have h1 : hB 14 true (subC w0 a b) (subZ w0 a b) (subS w0 a b) (subO w0 a b) = condB 14 (subC w0 a b) (subZ w0 a b) (subS w0 a b) (subO w0 a b) := rfl
  have h2 : hB 15 true (subC w0 a b) (subZ w0 a b) (subS w0 a b) (subO w0 a b) = condB 15 (subC w0 a b) (subZ w0 a b) (subS w0 a b) (subO w0 a b) := rfl
  rw [h1, h2]
  simp only [condB]
  simp only [sub_less hw ha hb, sub_zero hw ha hb]
  unfold subC
  generalize cutW w0 a = x at *
  generalize cutW w0 b = y at *
  generalize sgn w0 a = p at *
  generalize sgn w0 b = q at *
  constructor
  all_goals
    rw [Bool.eq_iff_iff]
    simp
    try omega
theorem cmp_15 {w0 a b : Int} (hw : Wd w0) (ha : U a) (hb : U b) : hB 15 true (subC w0 a b) (subZ w0 a b) (subS w0 a b) (subO w0 a b) = (decide (sgn w0 b < sgn w0 a)) ∧ hB 14 true (subC w0 a b) (subZ w0 a b) (subS w0 a b) (subO w0 a b) = !(decide (sgn w0 b < sgn w0 a)) := by
  have hs := sgn_inj hw ha hb
  have h1 : hB 15 true (subC w0 a b) (subZ w0 a b) (subS w0 a b) (subO w0 a b) = condB 15 (subC w0 a b) (subZ w0 a b) (subS w0 a b) (subO w0 a b) := rfl
  have h2 : hB 14 true (subC w0 a b) (subZ w0 a b) (subS w0 a b) (subO w0 a b) = condB 14 (subC w0 a b) (subZ w0 a b) (subS w0 a b) (subO w0 a b) := rfl
  rw [h1, h2]
  simp only [condB]
  simp only [sub_less hw ha hb, sub_zero hw ha hb]
  unfold subC
  generalize cutW w0 a = x at *
  generalize cutW w0 b = y at *
  generalize sgn w0 a = p at *
  generalize sgn w0 b = q at *
  constructor
  all_goals
    rw [Bool.eq_iff_iff]
    simp
    try omega
theorem neg_sgn {w v : Int} (hw : Wd w) (hv : U v) : decide (wrap64 (sgnU w v) < 0) = negW w v := by
  rw [sgnU_back hw hv, Bool.eq_iff_iff]
  have h1 := cut_bd hw hv
  have h2 := mod_half hw
  unfold sgn negW
  simp only [decide_eq_true_eq]
  split <;> omega
end Go.Proofs.Ytejgpgkigcbflaa
