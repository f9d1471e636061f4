/-
  instr.Same: are two programs the same. Conditions: those written in each statement.
-/
import Derived.Test.YtopanomcbkhbnaaIh
namespace Go.Proofs.Ytopanomcbkhbnaa
open Go.RowKit
set_option linter.unusedVariables false
set_option linter.unusedSimpArgs false
set_option maxRecDepth 100000 in
set_option maxHeartbeats 1000000 in
theorem same_any (c d : Int) (A A2 : Option Addr) (n cap n2 cap2 : Nat) (l m : List ID) (w : World) (hh : InsAt w w.heap.size A n l) (hh2 : InsAt w w.heap.size A2 n2 m) (hc : n ≤ cap) (hc2 : n2 ≤ cap2) (hm : n < 9223372036854775808) (hm2 : n2 < 9223372036854775808) :
    Calls Try.prog 15 #[.agg #[.int .i64 c, .slice A n cap], .agg #[.int .i64 d, .slice A2 n2 cap2]] w fun e w' => e = .returned (.bool (sameB c d l m)) ∧ Below w.heap.size w w' := by
  have HH := hide hh
  have HH2 := hide hh2
  clear hh hh2
  have hbl : Below w.heap.size w ((w.alloc (.cells #[.int .i64 c, .slice A n cap] 24)).alloc (.cells #[.int .i64 d, .slice A2 n2 cap2] 24)) := ((Below.refl _ _).alloc (Nat.le_refl _) _).alloc (le_alloc _ (Nat.le_refl _)) _
  have HBL := hide hbl
  clear hbl
  cases hcd : (c == d)
  · have HCD := hide hcd
    go_enter Try.func15, Try.ntmps15
    go_wp2
    go_ret
    exact ⟨ret_b (by unfold sameB; rw [HCD.out]; rfl), HBL.out⟩
  · have HCD := hide hcd
    go_enter Try.func15, Try.ntmps15
    go_wp2_with fail
    refine (equal_any A A2 n cap n2 cap2 l m _ w.heap.size (HH.out.below HBL.out) (HH2.out.below HBL.out) hc hc2 hm hm2).mono ?_
    rintro e w1 ⟨rfl, hd⟩
    have hb : Below w.heap.size w w1 := by
      obtain ⟨k, rfl⟩ := hd
      exact below_drewN HBL.out k
    have HB := hide hb
    clear hb hd
    go_wp2
    go_ret
    exact ⟨ret_b (by unfold sameB; rw [HCD.out]; rfl), HB.out⟩
end Go.Proofs.Ytopanomcbkhbnaa
