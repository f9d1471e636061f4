/-
  The walk of FlagsTurned: it answers true. Conditions: none but that numbers fit their kinds.
-/
import Derived.Test.YtejgpgkigcbflaaLb
import Derived.Test.YtejgpgkigcbflaaPm
import Derived.StillTailTactics
namespace Go.Proofs.Ytejgpgkigcbflaa
open Go.RowKit
def TRel (w0 a b : Int) (gf gg gp : Nat) (w : World) (i : Value) (wr : World) : Prop :=
  ∃ k : Nat, k ≤ 5 ∧ i = .int .i64 k ∧ Blk wr gf 25 #[.bool true, .bool (subC w0 a b), .bool (subZ w0 a b), .bool (subS w0 a b), .bool (subO w0 a b)] ∧ Blk wr gg 25 #[.bool true, .bool (subC w0 b a), .bool (subZ w0 b a), .bool (subS w0 b a), .bool (subO w0 b a)] ∧ Blk wr gp 29 #[.int .i8 4, .int .i8 4, .int .i8 2, .int .i8 7, .int .i8 3, .int .i8 6, .int .i8 12, .int .i8 15, .int .i8 13, .int .i8 14] ∧ Below w.heap.size w wr
theorem turned_at {w a b : Int} (hw : Wd w) (ha : U a) (hb : U b) :
    hB 4 true (subC w a b) (subZ w a b) (subS w a b) (subO w a b) = hB 4 true (subC w b a) (subZ w b a) (subS w b a) (subO w b a) ∧
    hB 2 true (subC w a b) (subZ w a b) (subS w a b) (subO w a b) = hB 7 true (subC w b a) (subZ w b a) (subS w b a) (subO w b a) ∧
    hB 3 true (subC w a b) (subZ w a b) (subS w a b) (subO w a b) = hB 6 true (subC w b a) (subZ w b a) (subS w b a) (subO w b a) ∧
    hB 12 true (subC w a b) (subZ w a b) (subS w a b) (subO w a b) = hB 15 true (subC w b a) (subZ w b a) (subS w b a) (subO w b a) ∧
    hB 13 true (subC w a b) (subZ w a b) (subS w a b) (subO w a b) = hB 14 true (subC w b a) (subZ w b a) (subS w b a) (subO w b a) := by
  have h := turned hw ha hb
  exact ⟨h.1.symm, h.2.1, h.2.2.1, h.2.2.2.1, h.2.2.2.2.1⟩
end Go.Proofs.Ytejgpgkigcbflaa
