/-
  The walk of ModrmApart: it answers true. Conditions: none.
-/
import Derived.Test.YtladeiighbbioaaLe
namespace Go.Proofs.Ytladeiighbbioaa
open Go.RowKit
theorem sg_numB {v n : Int} (h : numOk v n = true) : sg (numB v n.toNat) = v := by
  simp [numOk] at h
  rcases h with ⟨rfl, h0, h1⟩ | ⟨rfl, h0, h1⟩ | ⟨rfl, h0, h1⟩
  · simp only [show (1 : Int).toNat = 1 from rfl, numB, List.range, List.range.loop, List.map, byI, sg]
    split <;> omega
  · simp only [show (2 : Int).toNat = 2 from rfl, numB, List.range, List.range.loop, List.map, byI, sg]
    split <;> omega
  · simp only [show (4 : Int).toNat = 4 from rfl, numB, List.range, List.range.loop, List.map, byI, sg]
    split <;> omega
theorem lo_inj {f r a r' a' : Int} (h : lo f r a = lo f r' a') : r % 8 = r' % 8 ∧ a % 8 = a' % 8 := by unfold lo at h; omega
theorem lo_eq (f r a r' a' : Int) : ([lo f r a] == [lo f r' a']) = (decide (r % 8 = r' % 8) && decide (a % 8 = a' % 8)) := by
  rw [Bool.eq_iff_iff]
  simp only [beq_iff_eq, List.cons.injEq, and_true, Bool.and_eq_true, decide_eq_true_eq]
  exact ⟨lo_inj, fun h => by unfold lo; omega⟩
theorem memB_eq {r a d r' a' d' : Int} (h : numOk d 4 = true) (h' : numOk d' 4 = true) : (memB r a d == memB r' a' d') = (decide (r % 8 = r' % 8) && (decide (a % 8 = a' % 8) && (d == d'))) := by
  rw [Bool.eq_iff_iff]
  simp only [beq_iff_eq, Bool.and_eq_true, decide_eq_true_eq]
  constructor
  · intro e
    have hm : ∀ r a d, memB r a d = lo 128 r a :: (sibB a ++ numB d 4) := fun _ _ _ => rfl
    rw [hm, hm, List.cons.injEq] at e
    have hl := lo_inj e.1
    have hs : sibB a = sibB a' := by unfold sibB; rw [hl.2]
    have e2 := e.2
    rw [hs] at e2
    have e3 := List.append_cancel_left e2
    have g1 := sg_numB h
    have g2 := sg_numB h'
    rw [show (4 : Int).toNat = 4 from rfl] at g1 g2
    rw [e3] at g1
    exact ⟨hl.1, hl.2, g1.symm.trans g2⟩
  · rintro ⟨h1, h2, rfl⟩
    unfold memB
    have : lo 128 r a = lo 128 r' a' := by unfold lo; omega
    rw [this, show sibB a = sibB a' by unfold sibB; rw [h2]]
theorem mem_ne_reg (r a d r' a' : Int) : (memB r a d == [lo 192 r' a']) = false := by
  simp only [beq_eq_false_iff_ne, ne_eq]
  intro h
  have := congrArg List.length h
  rw [memB_len] at this
  simp only [memN] at this
  split at this <;> simp at this
theorem bits7_eq {x y : Int} (hx : regB x = true) (hy : regB y = true) : (bits .and .i8 x 7 == bits .and .i8 y 7) = decide (x % 8 = y % 8) := by
  rw [i8_and7 x (regB_iff.1 hx).1 (regB_iff.1 hx).2, i8_and7 y (regB_iff.1 hy).1 (regB_iff.1 hy).2]
  rw [Bool.eq_iff_iff]
  simp
theorem memE_of {r a d : Int} {b : Bool} (h : memOk r a d = b) : memE r a d = if b then 0 else 2 := by rw [memE, h]
theorem memOk_reg {r a d : Int} (h : regOk r a = false) : memOk r a d = false := by
  have : (regB r && regB a) = false := h
  simp [memOk, this]
theorem memOk_t {r a d : Int} (h : memOk r a d = true) : numOk d 4 = true ∧ regB r = true ∧ regB a = true := by simpa [memOk] using h
set_option maxRecDepth 100000 in
set_option maxHeartbeats 1000000 in
theorem apart_A (a b c d x y : Int) (w : World) (hr : regOk a b = false) :
    Calls Try.prog 3 #[.int .i8 a, .int .i8 b, .int .i8 c, .int .i8 d, .int .i64 x, .int .i64 y] w fun e w' => e = .returned (.bool true) ∧ Below w.heap.size w w' := by
  have G := hide (regE_of hr)
  have E := hide (memE_of (memOk_reg (d := x) hr))
  clear hr
  go_enter Try.func3, Try.ntmps3
  go_wp2_with fail
  refine (mem_all _ _ _ _).mono ?_
  rintro e w1 ⟨A1, c1, rfl, hc1, hr1, hb1⟩
  rw [E.out]
  go_wp2_with fail
  refine (mem_all _ _ _ _).mono ?_
  rintro e w2 ⟨A2, c2, rfl, hc2, hr2, hb2⟩
  replace hr1 := keepReads hr1 hb2 hb2.size
  replace hb1 := hb1.trans (hb2.mono hb1.size)
  clear hb2
  go_wp2_with fail
  refine (regs_all _ _ _).mono ?_
  rintro e w3 ⟨A3, c3, rfl, hc3, hr3, hb3⟩
  replace hr1 := keepReads hr1 hb3 hb3.size
  replace hr2 := keepReads hr2 hb3 hb3.size
  replace hb1 := hb1.trans (hb3.mono hb1.size)
  clear hb3
  rw [G.out]
  go_wp2_with fail
  refine (regs_all _ _ _).mono ?_
  rintro e w4 ⟨A4, c4, rfl, hc4, hr4, hb4⟩
  replace hr1 := keepReads hr1 hb4 hb4.size
  replace hr2 := keepReads hr2 hb4 hb4.size
  replace hr3 := keepReads hr3 hb4 hb4.size
  replace hb1 := hb1.trans (hb4.mono hb1.size)
  clear hb4
  generalize memE c d y = e2, regE c d = e4 at *
  clear hc1 hc2 hc3 hc4
  generalize memK a b x = n1, memK c d y = n2, regK a b = n3, regK c d = n4 at *
  go_wp2_with (first | (go_at_call 11; refine (wakes_any _).mono ?_; rintro e w7 ⟨rfl, hb7⟩))
  go_ret
  exact ⟨rfl, hb1.trans (hb7.mono hb1.size)⟩
set_option maxRecDepth 100000 in
set_option maxHeartbeats 1000000 in
theorem apart_B (a b c d x y : Int) (w : World) (hr : regOk a b = true) (hr2 : regOk c d = false) :
    Calls Try.prog 3 #[.int .i8 a, .int .i8 b, .int .i8 c, .int .i8 d, .int .i64 x, .int .i64 y] w fun e w' => e = .returned (.bool true) ∧ Below w.heap.size w w' := by
  have G := hide (regE_of hr)
  have G2 := hide (regE_of hr2)
  have E2 := hide (memE_of (memOk_reg (d := y) hr2))
  clear hr hr2
  cases hm : memOk a b x
  all_goals
    have E := hide (memE_of hm)
    clear hm
    go_enter Try.func3, Try.ntmps3
    go_wp2_with fail
    refine (mem_all _ _ _ _).mono ?_
    rintro e w1 ⟨A1, c1, rfl, hc1, hr1, hb1⟩
    rw [E.out]
    go_wp2_with fail
    refine (mem_all _ _ _ _).mono ?_
    rintro e w2 ⟨A2, c2, rfl, hc2, hr2, hb2⟩
    replace hr1 := keepReads hr1 hb2 hb2.size
    replace hb1 := hb1.trans (hb2.mono hb1.size)
    clear hb2
    rw [E2.out]
    go_wp2_with fail
    refine (regs_all _ _ _).mono ?_
    rintro e w3 ⟨A3, c3, rfl, hc3, hr3, hb3⟩
    replace hr1 := keepReads hr1 hb3 hb3.size
    replace hr2 := keepReads hr2 hb3 hb3.size
    replace hb1 := hb1.trans (hb3.mono hb1.size)
    clear hb3
    rw [G.out]
    go_wp2_with fail
    refine (regs_all _ _ _).mono ?_
    rintro e w4 ⟨A4, c4, rfl, hc4, hr4, hb4⟩
    replace hr1 := keepReads hr1 hb4 hb4.size
    replace hr2 := keepReads hr2 hb4 hb4.size
    replace hr3 := keepReads hr3 hb4 hb4.size
    replace hb1 := hb1.trans (hb4.mono hb1.size)
    clear hb4
    rw [G2.out]
    clear hc1 hc2 hc3 hc4
    generalize memK a b x = n1, memK c d y = n2, regK a b = n3, regK c d = n4 at *
    go_wp2_with (first | (go_at_call 11; refine (wakes_any _).mono ?_; rintro e w7 ⟨rfl, hb7⟩))
    go_ret
    exact ⟨rfl, hb1.trans (hb7.mono hb1.size)⟩
set_option maxRecDepth 100000 in
set_option maxHeartbeats 1000000 in
theorem apart_C (a b c d x y : Int) (w : World) (hr : regOk a b = true) (hr2 : regOk c d = true) (hm : (memOk a b x && memOk c d y) = false) :
    Calls Try.prog 3 #[.int .i8 a, .int .i8 b, .int .i8 c, .int .i8 d, .int .i64 x, .int .i64 y] w fun e w' => e = .returned (.bool true) ∧ Below w.heap.size w w' := by
  obtain ⟨hra, hrb⟩ : regB a = true ∧ regB b = true := by simpa [regOk] using hr
  obtain ⟨hrc, hrd⟩ : regB c = true ∧ regB d = true := by simpa [regOk] using hr2
  have hP := bits7_eq hra hrc
  have hQ := bits7_eq hrb hrd
  have G := hide (regE_of hr)
  have G2 := hide (regE_of hr2)
  have LR : Hid (regL a b = [lo 192 a b] ∧ regL c d = [lo 192 c d]) := hide ⟨by simp [regL, hr], by simp [regL, hr2]⟩
  clear hr hr2 hra hrb hrc hrd
  have hm2 : (memOk a b x = false) ∨ (memOk a b x = true ∧ memOk c d y = false) := by cases h1 : memOk a b x <;> simp_all
  clear hm
  rcases hm2 with hm1 | ⟨hm1, hm2⟩
  · have E := hide (memE_of hm1)
    clear hm1
    go_enter Try.func3, Try.ntmps3
    go_wp2_with fail
    refine (mem_all _ _ _ _).mono ?_
    rintro e w1 ⟨A1, c1, rfl, hc1, hr1, hb1⟩
    rw [E.out]
    go_wp2_with fail
    refine (mem_all _ _ _ _).mono ?_
    rintro e w2 ⟨A2, c2, rfl, hc2, hr2, hb2⟩
    replace hr1 := keepReads hr1 hb2 hb2.size
    replace hb1 := hb1.trans (hb2.mono hb1.size)
    clear hb2
    go_wp2_with fail
    refine (regs_all _ _ _).mono ?_
    rintro e w3 ⟨A3, c3, rfl, hc3, hr3, hb3⟩
    replace hr1 := keepReads hr1 hb3 hb3.size
    replace hr2 := keepReads hr2 hb3 hb3.size
    replace hb1 := hb1.trans (hb3.mono hb1.size)
    clear hb3
    rw [G.out]
    go_wp2_with fail
    refine (regs_all _ _ _).mono ?_
    rintro e w4 ⟨A4, c4, rfl, hc4, hr4, hb4⟩
    replace hr1 := keepReads hr1 hb4 hb4.size
    replace hr2 := keepReads hr2 hb4 hb4.size
    replace hr3 := keepReads hr3 hb4 hb4.size
    replace hb1 := hb1.trans (hb4.mono hb1.size)
    clear hb4
    rw [G2.out]
    obtain ⟨s3, S3, cv3⟩ := conv (c := c3) w4 hr3
    obtain ⟨s4, S4, cv4⟩ := conv (c := c4) w4 hr4
    have e34 : (s3.toList == s4.toList) = (decide (a % 8 = c % 8) && decide (b % 8 = d % 8)) := by
      rw [S3.out, S4.out, str_eq (isB_regL _ _) (isB_regL _ _), LR.out.1, LR.out.2, lo_eq]
    clear hc1 hc2 hc3 hc4
    generalize memE c d y = e2, memK a b x = n1, memK c d y = n2, regK a b = n3, regK c d = n4 at *
    clear S3 S4 hr1 hr2 hr3 hr4
    generalize decide (a % 8 = c % 8) = p, decide (b % 8 = d % 8) = q at *
    cases p
    all_goals
      cases q
      all_goals
        go_wp2_with (first | (go_at_call 11; refine (wakes_any _).mono ?_; rintro e w7 ⟨rfl, hb7⟩))
        go_ret
        exact ⟨rfl, hb1.trans (hb7.mono hb1.size)⟩
  · have E := hide (memE_of hm1)
    have E2 := hide (memE_of hm2)
    clear hm1 hm2
    go_enter Try.func3, Try.ntmps3
    go_wp2_with fail
    refine (mem_all _ _ _ _).mono ?_
    rintro e w1 ⟨A1, c1, rfl, hc1, hr1, hb1⟩
    rw [E.out]
    go_wp2_with fail
    refine (mem_all _ _ _ _).mono ?_
    rintro e w2 ⟨A2, c2, rfl, hc2, hr2, hb2⟩
    replace hr1 := keepReads hr1 hb2 hb2.size
    replace hb1 := hb1.trans (hb2.mono hb1.size)
    clear hb2
    rw [E2.out]
    go_wp2_with fail
    refine (regs_all _ _ _).mono ?_
    rintro e w3 ⟨A3, c3, rfl, hc3, hr3, hb3⟩
    replace hr1 := keepReads hr1 hb3 hb3.size
    replace hr2 := keepReads hr2 hb3 hb3.size
    replace hb1 := hb1.trans (hb3.mono hb1.size)
    clear hb3
    rw [G.out]
    go_wp2_with fail
    refine (regs_all _ _ _).mono ?_
    rintro e w4 ⟨A4, c4, rfl, hc4, hr4, hb4⟩
    replace hr1 := keepReads hr1 hb4 hb4.size
    replace hr2 := keepReads hr2 hb4 hb4.size
    replace hr3 := keepReads hr3 hb4 hb4.size
    replace hb1 := hb1.trans (hb4.mono hb1.size)
    clear hb4
    rw [G2.out]
    obtain ⟨s3, S3, cv3⟩ := conv (c := c3) w4 hr3
    obtain ⟨s4, S4, cv4⟩ := conv (c := c4) w4 hr4
    have e34 : (s3.toList == s4.toList) = (decide (a % 8 = c % 8) && decide (b % 8 = d % 8)) := by
      rw [S3.out, S4.out, str_eq (isB_regL _ _) (isB_regL _ _), LR.out.1, LR.out.2, lo_eq]
    clear hc1 hc2 hc3 hc4
    generalize memK a b x = n1, memK c d y = n2, regK a b = n3, regK c d = n4 at *
    clear S3 S4 hr1 hr2 hr3 hr4
    generalize decide (a % 8 = c % 8) = p, decide (b % 8 = d % 8) = q at *
    cases p
    all_goals
      cases q
      all_goals
        go_wp2_with (first | (go_at_call 11; refine (wakes_any _).mono ?_; rintro e w7 ⟨rfl, hb7⟩))
        go_ret
        exact ⟨rfl, hb1.trans (hb7.mono hb1.size)⟩
set_option maxRecDepth 100000 in
set_option maxHeartbeats 1000000 in
theorem apart_D (a b c d x y : Int) (w : World) (hm1 : memOk a b x = true) (hm2 : memOk c d y = true) :
    Calls Try.prog 3 #[.int .i8 a, .int .i8 b, .int .i8 c, .int .i8 d, .int .i64 x, .int .i64 y] w fun e w' => e = .returned (.bool true) ∧ Below w.heap.size w w' := by
  obtain ⟨hx, hra, hrb⟩ := memOk_t hm1
  obtain ⟨hy, hrc, hrd⟩ := memOk_t hm2
  have hr : regOk a b = true := by simp [regOk, hra, hrb]
  have hr2 : regOk c d = true := by simp [regOk, hrc, hrd]
  have hP := bits7_eq hra hrc
  have hQ := bits7_eq hrb hrd
  have G := hide (regE_of hr)
  have G2 := hide (regE_of hr2)
  have LR : Hid (regL a b = [lo 192 a b] ∧ regL c d = [lo 192 c d]) := hide ⟨by simp [regL, hr], by simp [regL, hr2]⟩
  have E := hide (memE_of hm1)
  have E2 := hide (memE_of hm2)
  have LM : Hid (memL a b x = memB a b x ∧ memL c d y = memB c d y) := hide ⟨by simp [memL, hm1], by simp [memL, hm2]⟩
  have ME := hide (memB_eq (r := a) (a := b) (r' := c) (a' := d) hx hy)
  clear hr hr2 hra hrb hrc hrd hm1 hm2 hx hy
  go_enter Try.func3, Try.ntmps3
  go_wp2_with fail
  refine (mem_all _ _ _ _).mono ?_
  rintro e w1 ⟨A1, c1, rfl, hc1, hr1, hb1⟩
  rw [E.out]
  go_wp2_with fail
  refine (mem_all _ _ _ _).mono ?_
  rintro e w2 ⟨A2, c2, rfl, hc2, hr2, hb2⟩
  replace hr1 := keepReads hr1 hb2 hb2.size
  replace hb1 := hb1.trans (hb2.mono hb1.size)
  clear hb2
  rw [E2.out]
  go_wp2_with fail
  refine (regs_all _ _ _).mono ?_
  rintro e w3 ⟨A3, c3, rfl, hc3, hr3, hb3⟩
  replace hr1 := keepReads hr1 hb3 hb3.size
  replace hr2 := keepReads hr2 hb3 hb3.size
  replace hb1 := hb1.trans (hb3.mono hb1.size)
  clear hb3
  rw [G.out]
  go_wp2_with fail
  refine (regs_all _ _ _).mono ?_
  rintro e w4 ⟨A4, c4, rfl, hc4, hr4, hb4⟩
  replace hr1 := keepReads hr1 hb4 hb4.size
  replace hr2 := keepReads hr2 hb4 hb4.size
  replace hr3 := keepReads hr3 hb4 hb4.size
  replace hb1 := hb1.trans (hb4.mono hb1.size)
  clear hb4
  rw [G2.out]
  obtain ⟨s3, S3, cv3⟩ := conv (c := c3) w4 hr3
  obtain ⟨s4, S4, cv4⟩ := conv (c := c4) w4 hr4
  have e34 : (s3.toList == s4.toList) = (decide (a % 8 = c % 8) && decide (b % 8 = d % 8)) := by
    rw [S3.out, S4.out, str_eq (isB_regL _ _) (isB_regL _ _), LR.out.1, LR.out.2, lo_eq]
  obtain ⟨s1, S1, cv1⟩ := conv (c := c1) w4 hr1
  obtain ⟨s2, S2, cv2⟩ := conv (c := c2) w4 hr2
  have e12 : (s1.toList == s2.toList) = (decide (a % 8 = c % 8) && (decide (b % 8 = d % 8) && (x == y))) := by
    rw [S1.out, S2.out, str_eq (isB_memL _ _ _) (isB_memL _ _ _), LM.out.1, LM.out.2, ME.out]
  have e13 : (s1.toList == s3.toList) = false := by
    rw [S1.out, S3.out, str_eq (isB_memL _ _ _) (isB_regL _ _), LM.out.1, LR.out.1, mem_ne_reg]
  clear S1 S2
  clear hc1 hc2 hc3 hc4
  generalize memK a b x = n1, memK c d y = n2, regK a b = n3, regK c d = n4 at *
  clear LM ME LR S3 S4 hr1 hr2 hr3 hr4
  generalize decide (a % 8 = c % 8) = p, decide (b % 8 = d % 8) = q at *
  cases p
  all_goals
    cases q
    all_goals
      cases hxy : (x == y)
      all_goals
        rw [hxy] at e12
        go_wp2_with (first | (go_at_call 11; refine (wakes_any _).mono ?_; rintro e w7 ⟨rfl, hb7⟩))
        go_ret
        exact ⟨rfl, hb1.trans (hb7.mono hb1.size)⟩
theorem apart_walk (a b c d x y : Int) (w : World) :
    Calls Try.prog 3 #[.int .i8 a, .int .i8 b, .int .i8 c, .int .i8 d, .int .i64 x, .int .i64 y] w fun e w' => e = .returned (.bool true) ∧ Below w.heap.size w w' := by
  cases hr : regOk a b
  · exact apart_A a b c d x y w hr
  cases hr2 : regOk c d
  · exact apart_B a b c d x y w hr hr2
  cases hm : (memOk a b x && memOk c d y)
  · exact apart_C a b c d x y w hr hr2 hm
  · rw [Bool.and_eq_true] at hm
    exact apart_D a b c d x y w hm.1 hm.2
end Go.Proofs.Ytladeiighbbioaa
