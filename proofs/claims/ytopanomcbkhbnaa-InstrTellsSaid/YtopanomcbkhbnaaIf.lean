/-
  instr.Bytes: an instruction's bytes, or none; what the laws of instructions share. Conditions: those written in each statement.
-/
import Derived.Test.YtopanomcbkhbnaaIe
namespace Go.Proofs.Ytopanomcbkhbnaa
open Go.RowKit
set_option linter.unusedVariables false
set_option linter.unusedSimpArgs false
def insO (x : ID) : List Int := if mayB x then insB x else []
def insE (x : ID) : Int := if mayB x then 0 else 31
theorem insB_len (x : ID) : (insB x).length = 8 := by unfold insB; simp [putB]
set_option maxRecDepth 100000 in
set_option maxHeartbeats 1000000 in
theorem bytes_any (x : ID) (w : World) (hx : x.wf) :
    Calls Try.prog 13 #[.agg x.cells.toArray] w fun e w' => ∃ A c, e = .returned (.tuple #[.slice A (insO x).length c, .int .i64 (insE x)]) ∧ (insO x).length ≤ c ∧ Reads w' w'.heap.size 1 A (insO x).length ((insO x).map (Value.int .u8)) ∧ Below w.heap.size w w' := by
  cases hm : mayB x
  · have hO : insO x = [] := by unfold insO; rw [hm]; rfl
    have hE : insE x = 31 := by unfold insE; rw [hm]; rfl
    rw [hO, hE]
    have HM := hide hm
    have HMY := hide (fun w => may_any x w hx)
    clear hm hO hE hx
    obtain ⟨k, op, wd, sz, br, dst, src, off, imm⟩ := x
    show Calls Try.prog 13 #[.agg #[.int .i8 k, .int .i8 op, .int .i8 wd, .int .i8 sz, .bool br, .int .i8 dst, .int .i8 src, .int .i64 off, .int .i64 imm]] w _
    go_enter Try.func13, Try.ntmps13
    go_wp2_with fail
    refine (HMY.out _).mono ?_
    rintro e w1 ⟨rfl, hb⟩
    rw [HM.out]
    have HB1 := hide (((Below.refl w.heap.size w).alloc (Nat.le_refl _) _).trans (hb.mono (le_alloc _ (Nat.le_refl _))))
    clear hb
    go_wp2
    go_ret2
    exact ⟨none, 0, rfl, Nat.le_refl _, Reads.none_, HB1.out⟩
  · have hO : insO x = insB x := by unfold insO; rw [hm]; rfl
    have hE : insE x = 0 := by unfold insE; rw [hm]; rfl
    rw [hO, hE, insB_len]
    refine (bytes_yes x w hx hm).mono ?_
    rintro e w' ⟨sv, rfl, hown, hb⟩
    obtain ⟨A, c, rfl, hc, hr⟩ := own_slice hown (by omega)
    exact ⟨A, c, rfl, hc, hr, hb⟩
set_option maxHeartbeats 400000 in
theorem great_any (c : Int) (A : Option Addr) (n cap : Nat) (w : World) (hm : n < 9223372036854775808) :
    Calls Try.prog 8 #[.agg #[.int .i64 c, .slice A n cap]] w fun e w' => e = .returned (.bool (decide (100 < n))) ∧ Below w.heap.size w w' := by
  go_enter Try.func8, Try.ntmps8
  go_wp2
  go_ret
  exact ⟨ret_b (by rw [Bool.eq_iff_iff]; simp; omega), (Below.refl _ _).alloc (Nat.le_refl _) _⟩
def xA : ID := ⟨0, 0, 64, 0, false, 1, 0, 0, -1⟩
def xB : ID := ⟨6, 0, 0, 0, false, 0, 0, 0, 0⟩
theorem xA_wf : xA.wf := by unfold ID.wf xA I8 I64; dsimp only; omega
theorem xB_wf : xB.wf := by unfold ID.wf xB I8 I64; dsimp only; omega
theorem oA : insO xA = [0, 1, 0, 0, 255, 255, 255, 255] := by decide +kernel
theorem oB : insO xB = [113, 0, 0, 0, 0, 0, 0, 0] := by decide +kernel
theorem eA : insE xA = 0 := by decide +kernel
theorem eB : insE xB = 0 := by decide +kernel
set_option maxRecDepth 100000 in
set_option maxHeartbeats 1000000 in
theorem wakes_any (w : World) : Calls Try.prog 9 #[] w fun e w' => e = .returned (.bool true) ∧ Below w.heap.size w w' := by
  have hA := hide (fun w => bytes_any xA w xA_wf)
  have hB := hide (fun w => bytes_any xB w xB_wf)
  go_enter Try.func9, Try.ntmps9
  go_wp2_with fail
  refine (hA.out _).mono ?_
  rintro e w1 ⟨A1, c1, rfl, hc1, hr1, hb1⟩
  rw [eA]
  rw [oA] at hr1 hc1 ⊢
  have HR1 := hide hr1
  have HB1 := hide hb1
  clear hr1 hb1
  simp only [List.length_cons, List.length_nil, Nat.zero_add, Nat.reduceAdd] at HR1 hc1 ⊢
  go_wp2_with fail
  refine (hB.out _).mono ?_
  rintro e w2 ⟨A2, c2, rfl, hc2, hr2, hb2⟩
  rw [eB]
  rw [oB] at hr2 hc2 ⊢
  simp only [List.length_cons, List.length_nil, Nat.zero_add, Nat.reduceAdd] at hr2 hc2 ⊢
  have cv1 := run_convert_reads w2 36 9 5 Try.underlying36 Try.underlying5 Try.underlying9 _ _ c1 _ _ (HR1.out.below hb2)
  have cv2 := run_convert_reads w2 36 9 5 Try.underlying36 Try.underlying5 Try.underlying9 _ _ c2 _ _ hr2
  rw [show strOfNums [0, 1, 0, 0, 255, 255, 255, 255] = ⟨#[0, 1, 0, 0, 255, 255, 255, 255]⟩ from by decide +kernel] at cv1
  rw [show strOfNums [113, 0, 0, 0, 0, 0, 0, 0] = ⟨#[113, 0, 0, 0, 0, 0, 0, 0]⟩ from by decide +kernel] at cv2
  have HB2 := hide (HB1.out.trans (hb2.mono HB1.out.size))
  clear hr2 hb2 HR1
  go_wp2
  go_ret
  exact ⟨rfl, HB2.out⟩
end Go.Proofs.Ytopanomcbkhbnaa
