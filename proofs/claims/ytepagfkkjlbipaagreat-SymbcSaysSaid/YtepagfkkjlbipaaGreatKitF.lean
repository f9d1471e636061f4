/-
  Arguments of a law opened: a slice of bytes. Conditions: those written in each statement.
-/
import Derived.Test.YtepagfkkjlbipaaGreatKit
import Derived.ChangeOld
namespace Go.Proofs.YtepagfkkjlbipaaGreat
open Go.RowKit Go.WideShapes Go.ChangeShapes
section
variable {H : Type} {enc : TypeId × Value → H} {P : Program} {w : World} {base : Nat} {spare : Nat → Bool} {held : Bool}
end
end Go.Proofs.YtepagfkkjlbipaaGreat
