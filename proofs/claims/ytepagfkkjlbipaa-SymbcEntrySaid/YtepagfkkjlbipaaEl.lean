/-
  Two rows of numbers, the same? Two events? Conditions: those written in each statement.
-/
import Derived.Test.YtepagfkkjlbipaaLaa
import Derived.Test.YtepagfkkjlbipaaLah
import Derived.BigQuiet
namespace Go.Proofs.Ytepagfkkjlbipaa
open Go.RowKit
set_option linter.unusedVariables false
set_option linter.unusedSimpArgs false
def sameI (a b : List Int) : Bool := decide (a = b)
/-- A bool comes back; the world drew. -/
def DrP (b : Bool) (w : World) (e : Ending) (w' : World) : Prop := e = .returned (.bool b) ∧ ∃ d, w' = w.drewN d
/-- Two events, the same? -/
def sameE (x y : EvD) : Bool := x.kind == y.kind && (x.size == y.size && (x.a == y.a && (x.v == y.v && (x.num == y.num && sameI x.args y.args))))
theorem NumsF.nx {w : World} {F : Nat → Prop} {s : Value} {l : List Int} (h : NumsF w F s l) : NxAt w w.heap.size s l := by
  obtain ⟨A, c, h1, h2, h3, h4, h5⟩ := h
  exact ⟨A, c, h1, h2, h3.reads, h4, by omega⟩
end Go.Proofs.Ytepagfkkjlbipaa
