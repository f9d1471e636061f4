/-
  Contracts of None and Holds. Conditions: those written in each statement.
-/
import Derived.Test.YtejgpgkigcbflaaWd
namespace Go.Proofs.Ytejgpgkigcbflaa
open Go.RowKit
set_option maxHeartbeats 400000 in
theorem none_any (w : World) : Calls Try.prog 22 #[] w fun e w' => e = .returned (.agg #[.bool false, .bool false, .bool false, .bool false, .bool false]) ∧ Below w.heap.size w w' := by
  go_enter Try.func22, Try.ntmps22
  go_wp2
  refine bodyPost_ret (v := .agg #[.bool false, .bool false, .bool false, .bool false, .bool false]) (by simp [results, Try.results22, go_sem]) rfl ⟨rfl, (Below.refl _ _).alloc (Nat.le_refl _) _⟩
set_option maxHeartbeats 400000 in
theorem holds_not (cc : Int) (k c z s o : Bool) (w : World) (hm : mayB cc = false) :
    Calls Try.prog 10 #[.int .i8 cc, .agg #[.bool k, .bool c, .bool z, .bool s, .bool o]] w fun e w' => e = .returned (.tuple #[.bool false, .int .i64 2]) ∧ Below w.heap.size w w' := by
  go_enter Try.func10, Try.ntmps10
  go_wp2_with fail
  refine (may_any _ _).mono ?_
  rintro e w1 ⟨rfl, hb1⟩
  rw [hm]
  go_wp2
  go_ret2
  exact ⟨rfl, ((Below.refl _ _).alloc (Nat.le_refl _) _).trans (hb1.mono (by simp))⟩
theorem ret_bi {a b : Bool} {k : IntKind} {n : Int} (h : a = b) : Ending.returned (.tuple #[.bool a, .int k n]) = .returned (.tuple #[.bool b, .int k n]) := by rw [h]
theorem eq_none (k c z s o : Bool) : ∀ w : World, (binOp .eql 25 (.agg #[.bool k, .bool c, .bool z, .bool s, .bool o]) (.agg #[.bool false, .bool false, .bool false, .bool false, .bool false])).run Try.prog w = .ok (.bool (!k && (!c && (!z && (!s && !o))))) w := by
  intro w
  cases k <;> cases c <;> cases z <;> cases s <;> cases o <;> kernel_rfl
set_option maxHeartbeats 2000000 in
theorem holds_unknown (cc : Int) (c z s o : Bool) (w : World) (hm : mayB cc = true) :
    Calls Try.prog 10 #[.int .i8 cc, .agg #[.bool false, .bool c, .bool z, .bool s, .bool o]] w fun e w' => e = .returned (.tuple #[.bool false, .int .i64 20]) ∧ Below w.heap.size w w' := by
  have he := eq_none false c z s o
  obtain ⟨b, hb⟩ : ∃ b : Bool, b = (!false && (!c && (!z && (!s && !o)))) := ⟨_, rfl⟩
  rw [← hb] at he
  clear hb
  go_enter Try.func10, Try.ntmps10
  go_wp2_with fail
  refine (may_any _ _).mono ?_
  rintro e w1 ⟨rfl, hb1⟩
  rw [hm]
  have B1 : Blk w1 w.heap.size 25 _ := (Blk.new w _ _).below hb1 (by simp)
  have q0 := B1.cell 0
  have q1 := B1.cell 1
  have q2 := B1.cell 2
  have q3 := B1.cell 3
  have q4 := B1.cell 4
  simp at q0 q1 q2 q3 q4
  have HB := hide B1
  have H1 : Below w.heap.size w w1 := ((Below.refl _ _).alloc (Nat.le_refl _) _).trans (hb1.mono (by simp))
  clear B1
  cases b
  all_goals
    go_wp2_with fail
    first | go_region_with ((go_at_call 22; refine (none_any _).mono ?_; rintro e w2 ⟨rfl, hb2⟩; have B2 : Blk w2 w.heap.size 25 #[.bool false, .bool c, .bool z, .bool s, .bool o] := Blk.below (by exact HB.out) hb2 (by exact HB.out.lt); have p0 := B2.cell 0; have p1 := B2.cell 1; have p2 := B2.cell 2; have p3 := B2.cell 3; have p4 := B2.cell 4; simp at p0 p1 p2 p3 p4; clear B2)) | fail
    all_goals
      go_wp2
      go_ret2
      exact ⟨rfl, below_two H1.drew hb2 H1.size⟩
end Go.Proofs.Ytejgpgkigcbflaa
