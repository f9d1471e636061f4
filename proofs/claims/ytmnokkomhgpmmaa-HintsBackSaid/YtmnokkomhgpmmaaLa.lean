/-
  What the laws of hints share: the first hints' wake. Conditions: those written in each statement.
-/
import Derived.Test.YtmnokkomhgpmmaaWe
namespace Go.Proofs.Ytmnokkomhgpmmaa
open Go.RowKit
set_option linter.unusedVariables false
set_option linter.unusedSimpArgs false
theorem chk0 : chkB 0 [hd0] = true := by decide +kernel
set_option maxHeartbeats 400000 in
theorem wakes_any (w : World) : Calls Try.prog 8 #[] w fun e w' => e = .returned (.bool true) ∧ Below w.heap.size w w' := by
  go_enter Try.func8, Try.ntmps8
  go_wp2_with fail
  refine (first_any _).mono ?_
  rintro e w1 ⟨A1, rfl, hh1, hb1⟩
  have HB1 := hide hb1
  clear hb1
  go_wp2_with fail
  refine (bytes_yes 0 A1 1 1 [hd0] _ hh1 (by omega) (by omega) chk0).mono ?_
  rintro e w2 ⟨sv, rfl, hown, hb2⟩
  obtain ⟨A2, c2, rfl, _, _⟩ := own_slice hown (by omega)
  have HB2 := hide (HB1.out.trans (hb2.mono HB1.out.size))
  clear hown hb2 hh1
  go_wp2_with fail
  refine (first_any _).mono ?_
  rintro e w3 ⟨A3, rfl, hh3, hb3⟩
  have HB3 := hide (HB2.out.trans (hb3.mono HB2.out.size))
  clear hb3
  go_wp2_with fail
  refine (check_any 0 A3 1 1 [hd0] _ hh3 (by omega) (by omega)).mono ?_
  rintro e w4 ⟨rfl, hb4⟩
  have HB4 := hide (HB3.out.trans (hb4.mono HB3.out.size))
  clear hb4 hh3
  rw [chk0, show errC true = 0 from rfl]
  go_wp2_with fail
  refine (check_any 0 none 0 0 [] _ ⟨rfl, by simp, Reads.none_⟩ (by omega) (by omega)).mono ?_
  rintro e w5 ⟨rfl, hb5⟩
  have HB5 := hide (HB4.out.trans (hb5.mono HB4.out.size))
  clear hb5
  rw [show errC (chkB 0 []) = 250 from rfl]
  go_wp2
  go_ret
  exact ⟨rfl, HB5.out⟩
end Go.Proofs.Ytmnokkomhgpmmaa
