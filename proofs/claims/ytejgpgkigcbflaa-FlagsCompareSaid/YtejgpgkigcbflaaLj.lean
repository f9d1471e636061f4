/-
  The walk of FlagsCompare: it answers true. Conditions: none but that numbers fit their kinds.
-/
import Derived.Test.YtejgpgkigcbflaaLi32
import Derived.Test.YtejgpgkigcbflaaLi64
namespace Go.Proofs.Ytejgpgkigcbflaa
open Go.RowKit
theorem compare_walk (wide : Bool) (a b : Int) (wa : (Lit.int .u64 a).wf = true) (wb : (Lit.int .u64 b).wf = true) (w : World) :
    Calls Try.prog 8 #[.bool wide, .int .u64 a, .int .u64 b] w fun e w' => e = .returned (.bool true) ∧ Below w.heap.size w w' := by
  cases wide
  · exact compare_walk32 a b (U_ok wa) (U_ok wb) w
  · exact compare_walk64 a b (U_ok wa) (U_ok wb) w
end Go.Proofs.Ytejgpgkigcbflaa
