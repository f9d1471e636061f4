/-
  Contracts of latheref14 on sums, differences, results, of None, May, Not. Conditions: those written in each statement.
-/
import Derived.Test.YtejgpgkigcbflaaWd
namespace Go.Proofs.Ytejgpgkigcbflaa
open Go.RowKit
set_option maxHeartbeats 400000 in
theorem width_yes (w0 : Int) (w : World) (hw : Wd w0) : Calls Try.prog 30 #[.int .i8 w0] w fun e w' => e = .returned (.bool true) ∧ w = w' := by
  rcases hw with rfl | rfl
  all_goals
    go_enter Try.func30, Try.ntmps30
    go_wp2
    go_ret
    exact ⟨rfl, rfl⟩
set_option maxHeartbeats 400000 in
theorem width_no (w0 : Int) (w : World) (hw : ¬ Wd w0) : Calls Try.prog 30 #[.int .i8 w0] w fun e w' => e = .returned (.bool false) ∧ w = w' := by
  have h1 : (w0 == 32) = false := beq_eq_false_iff_ne.2 fun h => hw (.inl h)
  have h2 : (w0 == 64) = false := beq_eq_false_iff_ne.2 fun h => hw (.inr h)
  clear hw
  go_enter Try.func30, Try.ntmps30
  go_wp2
  go_ret
  exact ⟨by first | rfl | simp [h1, h2], rfl⟩
theorem five_set {w w1 : World} {g : Nat} (h : Below g w w1) (v0 v1 v2 v3 v4 : Value) :
    Below g w (((((w1.setCell ⟨g, 0, none⟩ v0).setCell ⟨g, 1, none⟩ v1).setCell ⟨g, 2, none⟩ v2).setCell ⟨g, 3, none⟩ v3).setCell ⟨g, 4, none⟩ v4) :=
  ((((h.setCell (Nat.le_refl _) _).setCell (Nat.le_refl _) _).setCell (Nat.le_refl _) _).setCell (Nat.le_refl _) _).setCell (Nat.le_refl _) _
set_option maxHeartbeats 400000 in
theorem rof_no (v : Int) (w0 : Int) (w : World) (hw : ¬ Wd w0) :
    Calls Try.prog 21 #[.int .i8 w0, .int .u64 v] w fun e w' => e = .returned (.tuple #[.agg #[.bool false, .bool false, .bool false, .bool false, .bool false], .int .i64 2]) ∧ Below w.heap.size w w' := by
  go_enter Try.func21, Try.ntmps21
  go_wp2_with (go_at_call 30; refine (width_no _ _ hw).mono ?_; rintro e w' ⟨rfl, rfl⟩)
  refine bodyPost_ret (v := .tuple #[.agg #[.bool false, .bool false, .bool false, .bool false, .bool false], .int .i64 2]) (by simp [results, Try.results21, go_sem]) rfl ⟨rfl, (Below.refl _ _).alloc (Nat.le_refl _) _⟩
set_option maxHeartbeats 400000 in
theorem radd_no (a b : Int) (w0 : Int) (w : World) (hw : ¬ Wd w0) :
    Calls Try.prog 18 #[.int .i8 w0, .int .u64 a, .int .u64 b] w fun e w' => e = .returned (.tuple #[.agg #[.bool false, .bool false, .bool false, .bool false, .bool false], .int .i64 2]) ∧ Below w.heap.size w w' := by
  go_enter Try.func18, Try.ntmps18
  go_wp2_with (go_at_call 30; refine (width_no _ _ hw).mono ?_; rintro e w' ⟨rfl, rfl⟩)
  refine bodyPost_ret (v := .tuple #[.agg #[.bool false, .bool false, .bool false, .bool false, .bool false], .int .i64 2]) (by simp [results, Try.results18, go_sem]) rfl ⟨rfl, (Below.refl _ _).alloc (Nat.le_refl _) _⟩
set_option maxHeartbeats 400000 in
theorem rsub_no (a b : Int) (w0 : Int) (w : World) (hw : ¬ Wd w0) :
    Calls Try.prog 19 #[.int .i8 w0, .int .u64 a, .int .u64 b] w fun e w' => e = .returned (.tuple #[.agg #[.bool false, .bool false, .bool false, .bool false, .bool false], .int .i64 2]) ∧ Below w.heap.size w w' := by
  go_enter Try.func19, Try.ntmps19
  go_wp2_with (go_at_call 30; refine (width_no _ _ hw).mono ?_; rintro e w' ⟨rfl, rfl⟩)
  refine bodyPost_ret (v := .tuple #[.agg #[.bool false, .bool false, .bool false, .bool false, .bool false], .int .i64 2]) (by simp [results, Try.results19, go_sem]) rfl ⟨rfl, (Below.refl _ _).alloc (Nat.le_refl _) _⟩
set_option maxHeartbeats 400000 in
theorem rof_yes (v w0 : Int) (w : World) (hw : Wd w0) (hv : U v) :
    Calls Try.prog 21 #[.int .i8 w0, .int .u64 v] w fun e w' => e = .returned (.tuple #[.agg #[.bool true, .bool false, .bool (cutW w0 v == 0), .bool (negW w0 v), .bool false], .int .i64 0]) ∧ Below w.heap.size w w' := by
  go_enter Try.func21, Try.ntmps21
  go_wp2_with (go_at_call 30; refine (width_yes _ _ hw).mono ?_; rintro e w' ⟨rfl, rfl⟩)
  refine (made_any _ _ _ _ _ hw hv).mono ?_
  rintro e w1 ⟨rfl, hb1⟩
  have B1 : Blk w1 w.heap.size 25 #[.bool false, .bool false, .bool false, .bool false, .bool false] := (Blk.new w _ _).below hb1 (by simp)
  have q0 : w1.cell? ⟨w.heap.size, 0, none⟩ = some (.bool false) := B1.cell 0
  have f0 := B1.frozen 0
  have q1 : w1.cell? ⟨w.heap.size, 1, none⟩ = some (.bool false) := B1.cell 1
  have f1 := B1.frozen 1
  have q2 : w1.cell? ⟨w.heap.size, 2, none⟩ = some (.bool false) := B1.cell 2
  have f2 := B1.frozen 2
  have q3 : w1.cell? ⟨w.heap.size, 3, none⟩ = some (.bool false) := B1.cell 3
  have f3 := B1.frozen 3
  have q4 : w1.cell? ⟨w.heap.size, 4, none⟩ = some (.bool false) := B1.cell 4
  have f4 := B1.frozen 4
  have hlt := B1.lt
  clear B1
  go_wp2
  refine bodyPost_ret (v := .tuple #[.agg #[.bool true, .bool false, .bool (cutW w0 v == 0), .bool (negW w0 v), .bool false], .int .i64 0]) (by simp [results, Try.results21, go_sem, q0, q1, q2, q3, q4]) rfl ⟨rfl, (five_set (((Below.refl _ _).alloc (Nat.le_refl _) _).trans (hb1.mono (by simp))) _ _ _ _ _)⟩
set_option maxHeartbeats 1000000 in
theorem radd_yes (a b w0 : Int) (w : World) (hw : Wd w0) (ha : U a) (hb : U b) :
    Calls Try.prog 18 #[.int .i8 w0, .int .u64 a, .int .u64 b] w fun e w' => e = .returned (.tuple #[.agg #[.bool true, .bool (addC w0 a b), .bool (addZ w0 a b), .bool (addS w0 a b), .bool (addO w0 a b)], .int .i64 0]) ∧ Below w.heap.size w w' := by
  have hA := hide (cut_bd hw ha)
  have hB := hide (cut_bd hw hb)
  have hS : cutW w0 (IntKind.u64.wrap (cutW w0 a + cutW w0 b)) = sumW w0 a b := by rw [cut_sum hw]; exact sum_cut
  have HS := hide hS
  clear hS
  go_enter Try.func18, Try.ntmps18
  go_wp2_with (first | (go_at_call 30; refine (width_yes _ _ hw).mono ?_; rintro e w' ⟨rfl, rfl⟩) | (go_at_call 24; first | ((with_reducible refine (rcut_any a _ _ hw ha).mono ?_); rintro e w' ⟨rfl, rfl⟩) | ((with_reducible refine (rcut_any b _ _ hw hb).mono ?_); rintro e w' ⟨rfl, rfl⟩)))
  refine (rcut_any _ _ _ hw (U_wrap _)).mono ?_
  rintro e w' ⟨rfl, rfl⟩
  rw [HS.out]
  have hSb : 0 ≤ sumW w0 a b ∧ sumW w0 a b < modW w0 := by have := cut_bd hw (U_wrap (cutW w0 a + cutW w0 b)); rw [HS.out] at this; exact this
  have hSB := hide hSb
  have hUS : U (sumW w0 a b) := by have := U_cut hw (U_wrap (cutW w0 a + cutW w0 b)); rw [HS.out] at this; exact this
  have tS : topB w0 (sumW w0 a b) = addS w0 a b := rfl
  have hcz : cutW w0 (sumW w0 a b) = sumW w0 a b := by have := cut_cut (w := w0) (v := IntKind.u64.wrap (cutW w0 a + cutW w0 b)); rw [HS.out] at this; exact this
  have hZ : (cutW w0 (sumW w0 a b) == 0) = addZ w0 a b := by rw [hcz]; rfl
  have hN : negW w0 (sumW w0 a b) = addS w0 a b := by rw [negW, hcz]; rfl
  have hC : decide (sumW w0 a b < cutW w0 a) = addC w0 a b := by rw [← c_sum hw ha hb, cut_sum hw]
  have hO : ((negW w0 a == negW w0 b) && (addS w0 a b != negW w0 a)) = addO w0 a b := rfl
  have HT := hide (And.intro tS (And.intro hZ (And.intro hN (And.intro hC hO))))
  clear hSb tS hcz hZ hN hC hO
  cases ta : topB w0 (cutW w0 a)
  all_goals
    cases tb : topB w0 (cutW w0 b)
    all_goals
      have na : negW w0 a = _ := ta
      have nb : negW w0 b = _ := tb
      have HNA := hide na
      have HNB := hide nb
      clear na nb
      go_wp2_with (first | (go_at_call 32; refine (top_any _ _ _ hw (by first | exact hA.out.1 | exact hB.out.1 | exact hSB.out.1) (by first | exact hA.out.2 | exact hB.out.2 | exact hSB.out.2)).mono ?_; rintro e w' ⟨rfl, rfl⟩))
      refine (made_any _ _ _ _ _ hw hUS).mono ?_
      rintro e w1 ⟨rfl, hb1⟩
      have B1 : Blk w1 w.heap.size 25 #[.bool false, .bool false, .bool false, .bool false, .bool false] := (Blk.new w _ _).below hb1 (by simp)
      have q0 : w1.cell? ⟨w.heap.size, 0, none⟩ = some (.bool false) := B1.cell 0
      have f0 := B1.frozen 0
      have q1 : w1.cell? ⟨w.heap.size, 1, none⟩ = some (.bool false) := B1.cell 1
      have f1 := B1.frozen 1
      have q2 : w1.cell? ⟨w.heap.size, 2, none⟩ = some (.bool false) := B1.cell 2
      have f2 := B1.frozen 2
      have q3 : w1.cell? ⟨w.heap.size, 3, none⟩ = some (.bool false) := B1.cell 3
      have f3 := B1.frozen 3
      have q4 : w1.cell? ⟨w.heap.size, 4, none⟩ = some (.bool false) := B1.cell 4
      have f4 := B1.frozen 4
      have hlt := B1.lt
      clear B1
      go_wp2
      refine bodyPost_ret (v := .tuple #[.agg #[.bool true, .bool (decide (sumW w0 a b < cutW w0 a)), .bool (cutW w0 (sumW w0 a b) == 0), .bool (negW w0 (sumW w0 a b)), .bool ((topB w0 (cutW w0 a) == topB w0 (cutW w0 b)) && (topB w0 (sumW w0 a b) != topB w0 (cutW w0 a)))], .int .i64 0]) (by simp [results, Try.results18, go_sem, q0, q1, q2, q3, q4, ta, tb]) rfl ⟨?_, (five_set (((Below.refl _ _).alloc (Nat.le_refl _) _).trans (hb1.mono (by simp))) _ _ _ _ _)⟩
      rw [HT.out.2.1, HT.out.2.2.1, HT.out.2.2.2.1]
      rfl
set_option maxHeartbeats 1000000 in
theorem rsub_yes (a b w0 : Int) (w : World) (hw : Wd w0) (ha : U a) (hb : U b) :
    Calls Try.prog 19 #[.int .i8 w0, .int .u64 a, .int .u64 b] w fun e w' => e = .returned (.tuple #[.agg #[.bool true, .bool (subC w0 a b), .bool (subZ w0 a b), .bool (subS w0 a b), .bool (subO w0 a b)], .int .i64 0]) ∧ Below w.heap.size w w' := by
  have hA := hide (cut_bd hw ha)
  have hB := hide (cut_bd hw hb)
  have hS : cutW w0 (IntKind.u64.wrap (cutW w0 a - cutW w0 b)) = difW w0 a b := by rw [cut_dif hw]; exact dif_cut
  have HS := hide hS
  clear hS
  go_enter Try.func19, Try.ntmps19
  go_wp2_with (first | (go_at_call 30; refine (width_yes _ _ hw).mono ?_; rintro e w' ⟨rfl, rfl⟩) | (go_at_call 24; first | ((with_reducible refine (rcut_any a _ _ hw ha).mono ?_); rintro e w' ⟨rfl, rfl⟩) | ((with_reducible refine (rcut_any b _ _ hw hb).mono ?_); rintro e w' ⟨rfl, rfl⟩)))
  refine (rcut_any _ _ _ hw (U_wrap _)).mono ?_
  rintro e w' ⟨rfl, rfl⟩
  rw [HS.out]
  have hSb : 0 ≤ difW w0 a b ∧ difW w0 a b < modW w0 := by have := cut_bd hw (U_wrap (cutW w0 a - cutW w0 b)); rw [HS.out] at this; exact this
  have hSB := hide hSb
  have hUS : U (difW w0 a b) := by have := U_cut hw (U_wrap (cutW w0 a - cutW w0 b)); rw [HS.out] at this; exact this
  have tS : topB w0 (difW w0 a b) = subS w0 a b := rfl
  have hcz : cutW w0 (difW w0 a b) = difW w0 a b := by have := cut_cut (w := w0) (v := IntKind.u64.wrap (cutW w0 a - cutW w0 b)); rw [HS.out] at this; exact this
  have hZ : (cutW w0 (difW w0 a b) == 0) = subZ w0 a b := by rw [hcz]; rfl
  have hN : negW w0 (difW w0 a b) = subS w0 a b := by rw [negW, hcz]; rfl
  have hC : decide (cutW w0 a < cutW w0 b) = subC w0 a b := rfl
  have hO : ((negW w0 a != negW w0 b) && (subS w0 a b != negW w0 a)) = subO w0 a b := rfl
  have HT := hide (And.intro tS (And.intro hZ (And.intro hN (And.intro hC hO))))
  clear hSb tS hcz hZ hN hC hO
  cases ta : topB w0 (cutW w0 a)
  all_goals
    cases tb : topB w0 (cutW w0 b)
    all_goals
      have na : negW w0 a = _ := ta
      have nb : negW w0 b = _ := tb
      have HNA := hide na
      have HNB := hide nb
      clear na nb
      go_wp2_with (first | (go_at_call 32; refine (top_any _ _ _ hw (by first | exact hA.out.1 | exact hB.out.1 | exact hSB.out.1) (by first | exact hA.out.2 | exact hB.out.2 | exact hSB.out.2)).mono ?_; rintro e w' ⟨rfl, rfl⟩))
      refine (made_any _ _ _ _ _ hw hUS).mono ?_
      rintro e w1 ⟨rfl, hb1⟩
      have B1 : Blk w1 w.heap.size 25 #[.bool false, .bool false, .bool false, .bool false, .bool false] := (Blk.new w _ _).below hb1 (by simp)
      have q0 : w1.cell? ⟨w.heap.size, 0, none⟩ = some (.bool false) := B1.cell 0
      have f0 := B1.frozen 0
      have q1 : w1.cell? ⟨w.heap.size, 1, none⟩ = some (.bool false) := B1.cell 1
      have f1 := B1.frozen 1
      have q2 : w1.cell? ⟨w.heap.size, 2, none⟩ = some (.bool false) := B1.cell 2
      have f2 := B1.frozen 2
      have q3 : w1.cell? ⟨w.heap.size, 3, none⟩ = some (.bool false) := B1.cell 3
      have f3 := B1.frozen 3
      have q4 : w1.cell? ⟨w.heap.size, 4, none⟩ = some (.bool false) := B1.cell 4
      have f4 := B1.frozen 4
      have hlt := B1.lt
      clear B1
      go_wp2
      refine bodyPost_ret (v := .tuple #[.agg #[.bool true, .bool (decide (cutW w0 a < cutW w0 b)), .bool (cutW w0 (difW w0 a b) == 0), .bool (negW w0 (difW w0 a b)), .bool ((topB w0 (cutW w0 a) != topB w0 (cutW w0 b)) && (topB w0 (difW w0 a b) != topB w0 (cutW w0 a)))], .int .i64 0]) (by simp [results, Try.results19, go_sem, q0, q1, q2, q3, q4, ta, tb]) rfl ⟨?_, (five_set (((Below.refl _ _).alloc (Nat.le_refl _) _).trans (hb1.mono (by simp))) _ _ _ _ _)⟩
      rw [HT.out.2.1, HT.out.2.2.1, HT.out.2.2.2.1]
      rfl
end Go.Proofs.Ytejgpgkigcbflaa
