/-
  Contracts of flags and latheref14 on sums, differences, results. Conditions: those written in each statement.
-/
import Derived.Test.YtejgpgkigcbflaaProg
import Derived.Test.YtejgpgkigcbflaaPl
namespace Go.Proofs.Ytejgpgkigcbflaa
open Go.RowKit
set_option maxHeartbeats 400000 in
theorem cut_any (v w0 : Int) (w : World) (hw : Wd w0) :
    Calls Try.prog 27 #[.int .u64 v, .int .i8 w0] w fun e w' => e = .returned (.int .u64 (cutW w0 v)) ∧ w = w' := by
  rcases hw with rfl | rfl
  all_goals
    go_enter Try.func27, Try.ntmps27
    go_wp2
    go_ret
    exact ⟨rfl, rfl⟩
theorem ret_b {a b : Bool} (h : a = b) : Ending.returned (.bool a) = .returned (.bool b) := by rw [h]
theorem ret_i {k : IntKind} {a b : Int} (h : a = b) : Ending.returned (.int k a) = .returned (.int k b) := by rw [h]
theorem neg32 (v : Int) : decide (wrap64 (IntKind.u64.wrap (wrap64 (wrap32 v))) < 0) = negW 32 v := by
  rw [IntKind.wrap_u64]
  unfold wrap64 wrap32 negW halfW cutW
  simp
  omega
theorem neg64 {v : Int} (hv : U v) : decide (wrap64 v < 0) = negW 64 v := by
  unfold U at hv
  unfold wrap64 negW halfW cutW
  simp
  omega
set_option maxHeartbeats 400000 in
theorem minus_any (v w0 : Int) (w : World) (hw : Wd w0) (hv : U v) :
    Calls Try.prog 28 #[.int .u64 v, .int .i8 w0] w fun e w' => e = .returned (.bool (negW w0 v)) ∧ w = w' := by
  rcases hw with rfl | rfl
  · have H := hide (neg32 v)
    clear hv
    go_enter Try.func28, Try.ntmps28
    go_wp2
    go_ret
    exact ⟨ret_b H.out, rfl⟩
  · have H := hide (neg64 hv)
    clear hv
    go_enter Try.func28, Try.ntmps28
    go_wp2
    go_ret
    exact ⟨ret_b H.out, rfl⟩
/-- Flags that are known. -/
def flV (c z s o : Bool) : Value := .agg #[.bool true, .bool c, .bool z, .bool s, .bool o]
def flNo : Value := .agg #[.bool false, .bool false, .bool false, .bool false, .bool false]
set_option maxHeartbeats 400000 in
theorem of_yes (v w0 : Int) (w : World) (hw : Wd w0) (hv : U v) :
    Calls Try.prog 20 #[.int .i8 w0, .int .u64 v] w fun e w' => e = .returned (.tuple #[.agg #[.bool true, .bool false, .bool (cutW w0 v == 0), .bool (negW w0 v), .bool false], .int .i64 0]) ∧ Below w.heap.size w w' := by
  have hw' := hw
  rcases hw with rfl | rfl
  all_goals
    go_enter Try.func20, Try.ntmps20
    go_wp2_with (first | (go_at_call 27; refine (cut_any _ _ _ hw').mono ?_; rintro e w' ⟨rfl, rfl⟩) | (go_at_call 28; refine (minus_any _ _ _ hw' hv).mono ?_; rintro e w' ⟨rfl, rfl⟩))
    refine bodyPost_ret (v := .tuple #[.agg #[.bool true, .bool false, .bool (cutW _ v == 0), .bool (negW _ v), .bool false], .int .i64 0]) (by simp [results, Try.results20, go_sem]) rfl ⟨rfl, (Below.refl _ _).alloc (Nat.le_refl _) _⟩
set_option maxHeartbeats 400000 in
theorem of_no (v w0 : Int) (w : World) (hw : ¬ Wd w0) :
    Calls Try.prog 20 #[.int .i8 w0, .int .u64 v] w fun e w' => e = .returned (.tuple #[.agg #[.bool false, .bool false, .bool false, .bool false, .bool false], .int .i64 2]) ∧ Below w.heap.size w w' := by
  have h1 : (w0 != 32) = true := bne_iff_ne.2 fun h => hw (.inl h)
  have h2 : (w0 != 64) = true := bne_iff_ne.2 fun h => hw (.inr h)
  clear hw
  go_enter Try.func20, Try.ntmps20
  go_wp2
  refine bodyPost_ret (v := .tuple #[.agg #[.bool false, .bool false, .bool false, .bool false, .bool false], .int .i64 2]) (by simp [results, Try.results20, go_sem]) rfl ⟨rfl, (Below.refl _ _).alloc (Nat.le_refl _) _⟩
theorem five_cells {w w1 : World} {g : Nat} (h : Below g w w1) (hs : g ≤ w1.heap.size) (v0 v1 v2 v3 v4 : Value) (o : Obj) :
    Below g w ((((((w1.setCell ⟨g, 0, none⟩ v0).setCell ⟨g, 1, none⟩ v1).setCell ⟨g, 2, none⟩ v2).setCell ⟨g, 3, none⟩ v3).setCell ⟨g, 4, none⟩ v4).alloc o) :=
  (((((h.setCell (Nat.le_refl _) _).setCell (Nat.le_refl _) _).setCell (Nat.le_refl _) _).setCell (Nat.le_refl _) _).setCell (Nat.le_refl _) _).alloc (by simpa [World.setCell] using hs) _
set_option maxHeartbeats 400000 in
theorem add_yes (a b w0 : Int) (w : World) (hw : Wd w0) (ha : U a) (hb : U b) :
    Calls Try.prog 17 #[.int .i8 w0, .int .u64 a, .int .u64 b] w fun e w' => e = .returned (.tuple #[.agg #[.bool true, .bool (addC w0 a b), .bool (addZ w0 a b), .bool (addS w0 a b), .bool (addO w0 a b)], .int .i64 0]) ∧ Below w.heap.size w w' := by
  go_enter Try.func17, Try.ntmps17
  go_wp2_with fail
  refine (of_yes _ _ _ hw (U_wrap _)).mono ?_
  rintro e w1 ⟨rfl, hb1⟩
  have B1 : Blk w1 w.heap.size 25 #[.bool false, .bool false, .bool false, .bool false, .bool false] := (Blk.new w _ _).below hb1 (by simp)
  have q0 : w1.cell? ⟨w.heap.size, 0, none⟩ = some (.bool false) := B1.cell 0
  have f0 := B1.frozen 0
  have q1 : w1.cell? ⟨w.heap.size, 1, none⟩ = some (.bool false) := B1.cell 1
  have f1 := B1.frozen 1
  have q2 : w1.cell? ⟨w.heap.size, 2, none⟩ = some (.bool false) := B1.cell 2
  have f2 := B1.frozen 2
  have q3 : w1.cell? ⟨w.heap.size, 3, none⟩ = some (.bool false) := B1.cell 3
  have f3 := B1.frozen 3
  have q4 : w1.cell? ⟨w.heap.size, 4, none⟩ = some (.bool false) := B1.cell 4
  have f4 := B1.frozen 4
  have hlt := B1.lt
  clear B1
  have OO := hide (o_sum hw ha hb)
  go_wp2_with (first | (go_at_call 27; refine (cut_any _ _ _ hw).mono ?_; rintro e w' ⟨rfl, rfl⟩))
  refine (minus_any _ _ _ hw (U_and (U_xor ha (U_wrap _)) (U_xor hb (U_wrap _)))).mono ?_
  rintro e w' ⟨rfl, rfl⟩
  rw [OO.out]
  go_wp2
  refine bodyPost_ret (v := .tuple #[.agg #[.bool true, .bool (decide (cutW w0 (IntKind.u64.wrap (a + b)) < cutW w0 a)), .bool (cutW w0 (IntKind.u64.wrap (a + b)) == 0), .bool (negW w0 (IntKind.u64.wrap (a + b))), .bool (addO w0 a b)], .int .i64 0]) (by simp [results, Try.results17, go_sem, q0, q1, q2, q3, q4, hlt]) rfl ⟨?_, five_cells (((Below.refl _ _).alloc (Nat.le_refl _) _).trans (hb1.mono (by simp))) (Nat.le_of_lt hlt) _ _ _ _ _ _⟩
  rw [c_sum hw ha hb, cut_sum hw, neg_sum hw]; rfl
set_option maxHeartbeats 400000 in
theorem add_no (a b w0 : Int) (w : World) (hw : ¬ Wd w0) :
    Calls Try.prog 17 #[.int .i8 w0, .int .u64 a, .int .u64 b] w fun e w' => e = .returned (.tuple #[.agg #[.bool false, .bool false, .bool false, .bool false, .bool false], .int .i64 2]) ∧ Below w.heap.size w w' := by
  go_enter Try.func17, Try.ntmps17
  go_wp2_with fail
  refine (of_no _ _ _ hw).mono ?_
  rintro e w1 ⟨rfl, hb1⟩
  have B1 : Blk w1 w.heap.size 25 #[.bool false, .bool false, .bool false, .bool false, .bool false] := (Blk.new w _ _).below hb1 (by simp)
  have q0 : w1.cell? ⟨w.heap.size, 0, none⟩ = some (.bool false) := B1.cell 0
  have f0 := B1.frozen 0
  have q1 : w1.cell? ⟨w.heap.size, 1, none⟩ = some (.bool false) := B1.cell 1
  have f1 := B1.frozen 1
  have q2 : w1.cell? ⟨w.heap.size, 2, none⟩ = some (.bool false) := B1.cell 2
  have f2 := B1.frozen 2
  have q3 : w1.cell? ⟨w.heap.size, 3, none⟩ = some (.bool false) := B1.cell 3
  have f3 := B1.frozen 3
  have q4 : w1.cell? ⟨w.heap.size, 4, none⟩ = some (.bool false) := B1.cell 4
  have f4 := B1.frozen 4
  have hlt := B1.lt
  clear B1
  go_wp2
  refine bodyPost_ret (v := .tuple #[.agg #[.bool false, .bool false, .bool false, .bool false, .bool false], .int .i64 2]) (by simp [results, Try.results17, go_sem, q0, q1, q2, q3, q4, hlt]) rfl ⟨rfl, five_cells (((Below.refl _ _).alloc (Nat.le_refl _) _).trans (hb1.mono (by simp))) (Nat.le_of_lt hlt) _ _ _ _ _ _⟩
set_option maxHeartbeats 400000 in
theorem sub_yes (a b w0 : Int) (w : World) (hw : Wd w0) (ha : U a) (hb : U b) :
    Calls Try.prog 9 #[.int .i8 w0, .int .u64 a, .int .u64 b] w fun e w' => e = .returned (.tuple #[.agg #[.bool true, .bool (subC w0 a b), .bool (subZ w0 a b), .bool (subS w0 a b), .bool (subO w0 a b)], .int .i64 0]) ∧ Below w.heap.size w w' := by
  go_enter Try.func9, Try.ntmps9
  go_wp2_with fail
  refine (of_yes _ _ _ hw (U_wrap _)).mono ?_
  rintro e w1 ⟨rfl, hb1⟩
  have B1 : Blk w1 w.heap.size 25 #[.bool false, .bool false, .bool false, .bool false, .bool false] := (Blk.new w _ _).below hb1 (by simp)
  have q0 : w1.cell? ⟨w.heap.size, 0, none⟩ = some (.bool false) := B1.cell 0
  have f0 := B1.frozen 0
  have q1 : w1.cell? ⟨w.heap.size, 1, none⟩ = some (.bool false) := B1.cell 1
  have f1 := B1.frozen 1
  have q2 : w1.cell? ⟨w.heap.size, 2, none⟩ = some (.bool false) := B1.cell 2
  have f2 := B1.frozen 2
  have q3 : w1.cell? ⟨w.heap.size, 3, none⟩ = some (.bool false) := B1.cell 3
  have f3 := B1.frozen 3
  have q4 : w1.cell? ⟨w.heap.size, 4, none⟩ = some (.bool false) := B1.cell 4
  have f4 := B1.frozen 4
  have hlt := B1.lt
  clear B1
  have OO := hide (o_dif hw ha hb)
  go_wp2_with (first | (go_at_call 27; refine (cut_any _ _ _ hw).mono ?_; rintro e w' ⟨rfl, rfl⟩))
  refine (minus_any _ _ _ hw (U_and (U_xor ha hb) (U_xor ha (U_wrap _)))).mono ?_
  rintro e w' ⟨rfl, rfl⟩
  rw [OO.out]
  go_wp2
  refine bodyPost_ret (v := .tuple #[.agg #[.bool true, .bool (decide (cutW w0 a < cutW w0 b)), .bool (cutW w0 (IntKind.u64.wrap (a - b)) == 0), .bool (negW w0 (IntKind.u64.wrap (a - b))), .bool (subO w0 a b)], .int .i64 0]) (by simp [results, Try.results9, go_sem, q0, q1, q2, q3, q4, hlt]) rfl ⟨?_, five_cells (((Below.refl _ _).alloc (Nat.le_refl _) _).trans (hb1.mono (by simp))) (Nat.le_of_lt hlt) _ _ _ _ _ _⟩
  rw [cut_dif hw, neg_dif hw]; rfl
set_option maxHeartbeats 400000 in
theorem sub_no (a b w0 : Int) (w : World) (hw : ¬ Wd w0) :
    Calls Try.prog 9 #[.int .i8 w0, .int .u64 a, .int .u64 b] w fun e w' => e = .returned (.tuple #[.agg #[.bool false, .bool false, .bool false, .bool false, .bool false], .int .i64 2]) ∧ Below w.heap.size w w' := by
  go_enter Try.func9, Try.ntmps9
  go_wp2_with fail
  refine (of_no _ _ _ hw).mono ?_
  rintro e w1 ⟨rfl, hb1⟩
  have B1 : Blk w1 w.heap.size 25 #[.bool false, .bool false, .bool false, .bool false, .bool false] := (Blk.new w _ _).below hb1 (by simp)
  have q0 : w1.cell? ⟨w.heap.size, 0, none⟩ = some (.bool false) := B1.cell 0
  have f0 := B1.frozen 0
  have q1 : w1.cell? ⟨w.heap.size, 1, none⟩ = some (.bool false) := B1.cell 1
  have f1 := B1.frozen 1
  have q2 : w1.cell? ⟨w.heap.size, 2, none⟩ = some (.bool false) := B1.cell 2
  have f2 := B1.frozen 2
  have q3 : w1.cell? ⟨w.heap.size, 3, none⟩ = some (.bool false) := B1.cell 3
  have f3 := B1.frozen 3
  have q4 : w1.cell? ⟨w.heap.size, 4, none⟩ = some (.bool false) := B1.cell 4
  have f4 := B1.frozen 4
  have hlt := B1.lt
  clear B1
  go_wp2
  refine bodyPost_ret (v := .tuple #[.agg #[.bool false, .bool false, .bool false, .bool false, .bool false], .int .i64 2]) (by simp [results, Try.results9, go_sem, q0, q1, q2, q3, q4, hlt]) rfl ⟨rfl, five_cells (((Below.refl _ _).alloc (Nat.le_refl _) _).trans (hb1.mono (by simp))) (Nat.le_of_lt hlt) _ _ _ _ _ _⟩
theorem and32 {v : Int} (hv : U v) : bits .and .u64 v 4294967295 = cutW 32 v := by
  unfold U at hv
  rw [u64_and v 4294967295 hv.1 hv.2 (by omega) (by omega), show (4294967295 : Int).toNat = 4294967295 from rfl, nat_mask32]
  unfold cutW
  rw [if_pos rfl]
  omega
set_option maxHeartbeats 400000 in
theorem rcut_any (v w0 : Int) (w : World) (hw : Wd w0) (hv : U v) :
    Calls Try.prog 24 #[.int .u64 v, .int .i8 w0] w fun e w' => e = .returned (.int .u64 (cutW w0 v)) ∧ w = w' := by
  have H := hide (and32 hv)
  clear hv
  rcases hw with rfl | rfl
  · go_enter Try.func24, Try.ntmps24
    go_wp2
    go_ret
    exact ⟨ret_i H.out, rfl⟩
  · go_enter Try.func24, Try.ntmps24
    go_wp2
    go_ret
    exact ⟨rfl, rfl⟩
theorem one64 (x : Int) (h0 : 0 ≤ x) (h1 : x < 18446744073709551616) : bits .and .u64 x 1 = x % 2 := by
  rw [u64_and x 1 h0 h1 (by omega) (by omega), show (1 : Int).toNat = 1 from rfl, nat_mask1]
  omega
/-- A cut word's highest bit. -/
theorem top32 {v : Int} (h0 : 0 ≤ v) (h1 : v < 4294967296) : (bits .and .u64 (v / 2147483648) 1 == 1) = decide (2147483648 ≤ v) := by
  rw [one64 _ (by omega) (by omega), Bool.eq_iff_iff]
  simp
  omega
theorem top64 {v : Int} (h : U v) : (bits .and .u64 (v / 9223372036854775808) 1 == 1) = decide (9223372036854775808 ≤ v) := by
  unfold U at h
  rw [one64 _ (by omega) (by omega), Bool.eq_iff_iff]
  simp
  omega
/-- The highest bit of a word that is cut. -/
def topB (w v : Int) : Bool := decide (halfW w ≤ v)
set_option maxHeartbeats 400000 in
theorem top_any (v w0 : Int) (w : World) (hw : Wd w0) (h0 : 0 ≤ v) (h1 : v < modW w0) :
    Calls Try.prog 32 #[.int .u64 v, .int .i8 w0] w fun e w' => e = .returned (.bool (topB w0 v)) ∧ w = w' := by
  rcases hw with rfl | rfl
  · have H := hide (top32 h0 h1)
    clear h1
    go_enter Try.func32, Try.ntmps32
    go_wp2
    go_ret
    exact ⟨ret_b H.out, rfl⟩
  · have H := hide (top64 ⟨h0, h1⟩)
    clear h1
    go_enter Try.func32, Try.ntmps32
    go_wp2
    go_ret
    exact ⟨ret_b H.out, rfl⟩
theorem top_cut {w v : Int} : topB w (cutW w v) = negW w v := rfl
set_option maxHeartbeats 400000 in
theorem made_any (v w0 : Int) (c o : Bool) (w : World) (hw : Wd w0) (hv : U v) :
    Calls Try.prog 31 #[.int .i8 w0, .int .u64 v, .bool c, .bool o] w fun e w' => e = .returned (.agg #[.bool true, .bool c, .bool (cutW w0 v == 0), .bool (negW w0 v), .bool o]) ∧ Below w.heap.size w w' := by
  have hbd := hide (cut_bd hw hv)
  go_enter Try.func31, Try.ntmps31
  go_wp2_with (first | (go_at_call 24; refine (rcut_any _ _ _ hw hv).mono ?_; rintro e w' ⟨rfl, rfl⟩) | (go_at_call 32; refine (top_any _ _ _ hw hbd.out.1 hbd.out.2).mono ?_; rintro e w' ⟨rfl, rfl⟩))
  refine bodyPost_ret (v := .agg #[.bool true, .bool c, .bool (cutW w0 v == 0), .bool (negW w0 v), .bool o]) (by simp [results, Try.results31, go_sem, top_cut]) rfl ⟨rfl, (Below.refl _ _).alloc (Nat.le_refl _) _⟩
end Go.Proofs.Ytejgpgkigcbflaa
