/-
  The walk of ModrmBytes: it answers true. Conditions: none.
-/
import Derived.Test.YtladeiighbbioaaLa
namespace Go.Proofs.Ytladeiighbbioaa
open Go.RowKit
theorem same_str {s t : ByteArray} {l : List Int} (hs : Hid (s = strOfNums l)) (ht : Hid (t = strOfNums l)) : (s.toList == t.toList) = true := by rw [hs.out, ht.out]; simp
set_option maxHeartbeats 400000 in
theorem bytes_walk (wide : Bool) (r a d v n : Int) (w : World) :
    Calls Try.prog 5 #[.bool wide, .int .i8 r, .int .i8 a, .int .i64 d, .int .i64 v, .int .i64 n] w fun e w' => e = .returned (.bool true) ∧ Below w.heap.size w w' := by
  go_enter Try.func5, Try.ntmps5
  go_wp2_with fail
  refine (rex_all _ _ _ _).mono ?_
  rintro e w' ⟨rfl, rfl⟩
  go_wp2_with fail
  refine (rrex_all _ _ _ _).mono ?_
  rintro e w' ⟨rfl, rfl⟩
  go_wp2_with fail
  refine (regs_all _ _ _).mono ?_
  rintro e w1 ⟨A1, c1, rfl, hc1, hr1, hb1⟩
  go_wp2_with fail
  refine (rregs_all _ _ _).mono ?_
  rintro e w2 ⟨A2, c2, rfl, hc2, hr2, hb2⟩
  replace hr1 := keepReads hr1 hb2 hb2.size
  replace hb1 := hb1.trans (hb2.mono hb1.size)
  clear hb2
  go_wp2_with fail
  refine (mem_all _ _ _ _).mono ?_
  rintro e w3 ⟨A3, c3, rfl, hc3, hr3, hb3⟩
  replace hr1 := keepReads hr1 hb3 hb3.size
  replace hr2 := keepReads hr2 hb3 hb3.size
  replace hb1 := hb1.trans (hb3.mono hb1.size)
  clear hb3
  go_wp2_with fail
  refine (rmem_all _ _ _ _).mono ?_
  rintro e w4 ⟨A4, c4, rfl, hc4, hr4, hb4⟩
  replace hr1 := keepReads hr1 hb4 hb4.size
  replace hr2 := keepReads hr2 hb4 hb4.size
  replace hr3 := keepReads hr3 hb4 hb4.size
  replace hb1 := hb1.trans (hb4.mono hb1.size)
  clear hb4
  go_wp2_with fail
  refine (num_all _ _ _).mono ?_
  rintro e w5 ⟨A5, c5, rfl, hc5, hr5, hb5⟩
  replace hr1 := keepReads hr1 hb5 hb5.size
  replace hr2 := keepReads hr2 hb5 hb5.size
  replace hr3 := keepReads hr3 hb5 hb5.size
  replace hr4 := keepReads hr4 hb5 hb5.size
  replace hb1 := hb1.trans (hb5.mono hb1.size)
  clear hb5
  go_wp2_with fail
  refine (rnum_all _ _ _).mono ?_
  rintro e w6 ⟨A6, c6, rfl, hc6, hr6, hb6⟩
  replace hr1 := keepReads hr1 hb6 hb6.size
  replace hr2 := keepReads hr2 hb6 hb6.size
  replace hr3 := keepReads hr3 hb6 hb6.size
  replace hr4 := keepReads hr4 hb6 hb6.size
  replace hr5 := keepReads hr5 hb6 hb6.size
  replace hb1 := hb1.trans (hb6.mono hb1.size)
  clear hb6
  obtain ⟨s1, HS1, cv1⟩ := conv (c := c1) w6 hr1
  obtain ⟨s2, HS2, cv2⟩ := conv (c := c2) w6 hr2
  obtain ⟨s3, HS3, cv3⟩ := conv (c := c3) w6 hr3
  obtain ⟨s4, HS4, cv4⟩ := conv (c := c4) w6 hr4
  obtain ⟨s5, HS5, cv5⟩ := conv (c := c5) w6 hr5
  obtain ⟨s6, HS6, cv6⟩ := conv (c := c6) w6 hr6
  have e12 := same_str HS1 HS2
  have e34 := same_str HS3 HS4
  have e56 := same_str HS5 HS6
  clear hr1 hr2 hr3 hr4 hr5 hr6 hc1 hc2 hc3 hc4 hc5 hc6
  generalize rexV wide r a = x1, rexE r a = x2, regE r a = x3, memE r a d = x4, numE v n = x5, regK r a = x6, memK r a d = x7, numK v n = x8 at *
  go_wp2_with (first | (go_at_call 19; refine (needs_any _ _ _).mono ?_; rintro e w' ⟨rfl, rfl⟩) | (go_at_call 20; refine (rneeds_any _ _ _).mono ?_; rintro e w' ⟨rfl, rfl⟩) | (go_at_call 11; refine (wakes_any _).mono ?_; rintro e w7 ⟨rfl, hb7⟩))
  go_ret
  exact ⟨rfl, hb1.trans (hb7.mono hb1.size)⟩
end Go.Proofs.Ytladeiighbbioaa
