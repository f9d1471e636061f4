/-
  The walk of BlocksRun: it answers true. Conditions: those written in each statement.
-/
import Derived.Test.YtbdofidapddgaaaBp
import Derived.Test.YtbdofidapddgaaaBo
namespace Go.Proofs.Ytbdofidapddgaaa
open Go.RowKit
set_option linter.unusedVariables false
set_option linter.unusedSimpArgs false
theorem blkR_len (c : Int) (l : List ID) : (blkR c l).length ≤ l.length := by
  unfold blkR
  split
  · rename_i h
    obtain ⟨_, _, h1, _⟩ := chk_ok h
    rw [blkL_len]
    exact (blk_inv (begB_zero l) l.length (by omega)).le
  · simp
set_option maxRecDepth 100000 in
set_option maxHeartbeats 8000000 in
theorem runlaw_walk (c : Int) (A : Option Addr) (n cap : Nat) (l : List ID) (i : Int) (w : World) (hh : InsAt w w.heap.size A n l) (hc : n ≤ cap) (hm : n < 9223372036854775808) :
    Calls Try.prog 4 #[.agg #[.int .i64 c, .slice A n cap], .int .i64 i] w fun e w' => e = .returned (.bool true) ∧ Below w.heap.size w w' := by
  have HL := hide hh.1
  have HE := hide (EnF.new (c := c) (cap := cap) hh)
  clear hh
  go_enter Try.func4, Try.ntmps4
  go_wp2_with fail
  refine (pgreat_any c A n cap _ hm).mono ?_
  rintro e w1 ⟨rfl, hb⟩
  replace HE := hide (HE.out.step hb)
  clear hb
  cases hg : decide (100 < n)
  · have hn100 : n ≤ 100 := by simpa using hg
    have hbl := blkR_len c l
    rw [HL.out] at hbl
    have c0 := HE.out.box0
    have c1 := HE.out.box1
    clear hg
    go_wp2_with fail
    refine (run_any c A n cap l _ HE.out.at_ hc hm).mono ?_
    rintro e w2 ⟨A2, cap2, rfl, hc2, hb2, hb⟩
    replace HE := hide (HE.out.step hb)
    have HB2 := hide hb2
    clear hb hb2 c0 c1
    have c0 := HE.out.box0
    have c1 := HE.out.box1
    obtain ⟨er, her⟩ : ∃ v, (chkP c l).2 = v := ⟨_, rfl⟩
    obtain ⟨R, hR⟩ : ∃ v, blkR c l = v := ⟨_, rfl⟩
    rw [her]
    rw [hR] at HB2 hc2 hbl ⊢
    obtain ⟨m, hmR⟩ : ∃ v, R.length = v := ⟨_, rfl⟩
    rw [hmR] at HB2 hc2 hbl ⊢
    go_wp2_with fail
    refine (drun_any c A n cap l _ HE.out.at_ hc hm).mono ?_
    rintro e w3 ⟨A3, cap3, rfl, hc3, hb3, hb⟩
    rw [hR, hmR] at hc3 hb3
    rw [hR, hmR, her]
    replace HE := hide (HE.out.step hb)
    replace HB2 := hide (HB2.out.up hb hb.size)
    have HB3 := hide hb3
    clear hb hb3 hR hmR her c0 c1
    go_wp2_with fail
    refine (of_any A3 m cap3 R i _ HB3.out (by omega)).mono ?_
    rintro e w4 ⟨rfl, hb⟩
    replace HE := hide (HE.out.step hb)
    replace HB2 := hide (HB2.out.up hb hb.size)
    replace HB3 := hide (HB3.out.up hb hb.size)
    clear hb
    obtain ⟨on, hon⟩ : ∃ v, ofN R i = v := ⟨_, rfl⟩
    obtain ⟨ob, hob⟩ : ∃ v, ofB R i = v := ⟨_, rfl⟩
    rw [hon, hob]
    go_wp2_with fail
    refine (dof_any A3 m cap3 w4.heap.size R i _ HB3.out (by omega)).mono ?_
    rintro e w' ⟨rfl, rfl⟩
    rw [hon, hob]
    clear hon hob
    go_wp2_with fail
    refine (dsame_any A2 A3 m cap2 m cap3 R R _ HB2.out HB3.out (by omega) (by omega)).mono ?_
    rintro e w5 ⟨rfl, hb⟩
    rw [sameL_iff.2 rfl]
    replace HE := hide (HE.out.step hb)
    clear hb HB2 HB3
    go_wp2_with fail
    refine (wakes_any _).mono ?_
    rintro e w12 ⟨rfl, hb⟩
    replace HE := hide (HE.out.step hb)
    clear hb
    go_wp2
    go_ret
    exact ⟨rfl, HE.out.below⟩
  · clear hg
    go_wp2_with fail
    refine (wakes_any _).mono ?_
    rintro e w12 ⟨rfl, hb⟩
    replace HE := hide (HE.out.step hb)
    clear hb
    go_wp2
    go_ret
    exact ⟨rfl, HE.out.below⟩
end Go.Proofs.Ytbdofidapddgaaa
