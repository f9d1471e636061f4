/-
  No cell of these rows narrows 'for every input' (looked for: loops, veiled, ifaces, maps, wideKeys, modest, calm, conditions, laid).
  DERIVED. THE GIVEN ROWS OF THIS SEAT. 5 by the template 'for every input the law returns true; each argument reads behind the call as it read before'; 0 by the template 'total and deterministic' (their statements: YtopanomcbkhbnaaTotals.lean).
  GIVEN WITH THE SEED: the statements are not yours to turn. If you find one false, say at which input.
  Laid BY PROGRAM, IN A SANDBOX (cutbox-rows.mjs): the forced cells as the released guide's own fill.sh prints them over the translation 811d20aa5187b16f… (all of the seat's roots in one cut). By AI agents, Wed Nov 11 2026. No macro, syntax, notation, axiom, sorry.
-/
import Derived.Test.YtopanomcbkhbnaaChecked
import GoSem.Claim
import GoSem.ClaimJoined
import GoSem.ClaimMapViews
import Derived.JoinedTies
import Derived.KernelRfl
namespace Go.Proofs.Ytopanomcbkhbnaa
/- THE CELL 'sum', in the pinned program and in every row, IS THE sha256 OF THE DUMP (.gsa) THAT YtopanomcbkhbnaaProg.lean LOADS. Nothing in Lean hashes anything: it is a label: what it is worth is what the hold of that sum in a sandbox is worth. -/
noncomputable def Try.pinned : Pinned := { name := "ytopanomcbkhbnaa", sum := "811d20aa5187b16fe353dba2e0bbf79da75d1f03c8ed7b7bbbf2a240097614ff", checked := Try.checked }
namespace Rows
def none {H : Type} : Left H := { results := [], args := [] }

/-- 'lathelaw03.InstrEnds': WHATEVER THE INPUT: true; the input reads as it did. -/
def instrEndsSpec : ChangeSpec := { name := "instrEnds", fn := fun _ => fun
  | [d] => { results := [.lit (.bool true)], args := [d] }
  | _ => none }
def instrEndsRow : OpenClaim := { program := "ytopanomcbkhbnaa", sum := "811d20aa5187b16fe353dba2e0bbf79da75d1f03c8ed7b7bbbf2a240097614ff", func := "lathe/lathelaw03.InstrEnds", spec := "instrEnds", unfollowed := true, recurses := true, apart := false }
def InstrEndsSaid : Prop := instrEndsRow.holds Try.pinned (OpenSpec.ofChange instrEndsSpec)

/-- ITS FALSE NEIGHBOUR: 'it returns false'. Refute it at one input. -/
def instrEndsWrong : ChangeSpec := { name := "instrEnds", fn := fun _ => fun
  | [d] => { results := [.lit (.bool false)], args := [d] }
  | _ => none }
def InstrEndsWrongFalsely : Prop := instrEndsRow.holds Try.pinned (OpenSpec.ofChange instrEndsWrong)

/-- 'lathelaw03.InstrApart': WHATEVER THE INPUT: true; the input reads as it did. -/
def instrApartSpec : ChangeSpec := { name := "instrApart", fn := fun _ => fun
  | [d1, d2, d3, d4] => { results := [.lit (.bool true)], args := [d1, d2, d3, d4] }
  | _ => none }
def instrApartRow : OpenClaim := { program := "ytopanomcbkhbnaa", sum := "811d20aa5187b16fe353dba2e0bbf79da75d1f03c8ed7b7bbbf2a240097614ff", func := "lathe/lathelaw03.InstrApart", spec := "instrApart", unfollowed := true, recurses := true, apart := false }
def InstrApartSaid : Prop := instrApartRow.holds Try.pinned (OpenSpec.ofChange instrApartSpec)

/-- ITS FALSE NEIGHBOUR: 'it returns false'. Refute it at one input. -/
def instrApartWrong : ChangeSpec := { name := "instrApart", fn := fun _ => fun
  | [d1, d2, d3, d4] => { results := [.lit (.bool false)], args := [d1, d2, d3, d4] }
  | _ => none }
def InstrApartWrongFalsely : Prop := instrApartRow.holds Try.pinned (OpenSpec.ofChange instrApartWrong)

/-- 'lathelaw03.InstrTells': WHATEVER THE INPUT: true; the input reads as it did. -/
def instrTellsSpec : ChangeSpec := { name := "instrTells", fn := fun _ => fun
  | [d1, d2, d3, d4, d5] => { results := [.lit (.bool true)], args := [d1, d2, d3, d4, d5] }
  | _ => none }
def instrTellsRow : OpenClaim := { program := "ytopanomcbkhbnaa", sum := "811d20aa5187b16fe353dba2e0bbf79da75d1f03c8ed7b7bbbf2a240097614ff", func := "lathe/lathelaw03.InstrTells", spec := "instrTells", unfollowed := true, recurses := true, apart := false }
def InstrTellsSaid : Prop := instrTellsRow.holds Try.pinned (OpenSpec.ofChange instrTellsSpec)

/-- ITS FALSE NEIGHBOUR: 'it returns false'. Refute it at one input. -/
def instrTellsWrong : ChangeSpec := { name := "instrTells", fn := fun _ => fun
  | [d1, d2, d3, d4, d5] => { results := [.lit (.bool false)], args := [d1, d2, d3, d4, d5] }
  | _ => none }
def InstrTellsWrongFalsely : Prop := instrTellsRow.holds Try.pinned (OpenSpec.ofChange instrTellsWrong)

/-- 'lathelaw03.InstrReads': WHATEVER THE INPUT: true; the input reads as it did. -/
def instrReadsSpec : ChangeSpec := { name := "instrReads", fn := fun _ => fun
  | [d] => { results := [.lit (.bool true)], args := [d] }
  | _ => none }
def instrReadsRow : OpenClaim := { program := "ytopanomcbkhbnaa", sum := "811d20aa5187b16fe353dba2e0bbf79da75d1f03c8ed7b7bbbf2a240097614ff", func := "lathe/lathelaw03.InstrReads", spec := "instrReads", unfollowed := true, recurses := true, apart := false }
def InstrReadsSaid : Prop := instrReadsRow.holds Try.pinned (OpenSpec.ofChange instrReadsSpec)

/-- ITS FALSE NEIGHBOUR: 'it returns false'. Refute it at one input. -/
def instrReadsWrong : ChangeSpec := { name := "instrReads", fn := fun _ => fun
  | [d] => { results := [.lit (.bool false)], args := [d] }
  | _ => none }
def InstrReadsWrongFalsely : Prop := instrReadsRow.holds Try.pinned (OpenSpec.ofChange instrReadsWrong)

/-- 'lathelaw03.InstrBack': WHATEVER THE INPUT: true; the input reads as it did. -/
def instrBackSpec : ChangeSpec := { name := "instrBack", fn := fun _ => fun
  | [d1, d2, d3] => { results := [.lit (.bool true)], args := [d1, d2, d3] }
  | _ => none }
def instrBackRow : OpenClaim := { program := "ytopanomcbkhbnaa", sum := "811d20aa5187b16fe353dba2e0bbf79da75d1f03c8ed7b7bbbf2a240097614ff", func := "lathe/lathelaw03.InstrBack", spec := "instrBack", unfollowed := true, recurses := true, apart := false }
def InstrBackSaid : Prop := instrBackRow.holds Try.pinned (OpenSpec.ofChange instrBackSpec)

/-- ITS FALSE NEIGHBOUR: 'it returns false'. Refute it at one input. -/
def instrBackWrong : ChangeSpec := { name := "instrBack", fn := fun _ => fun
  | [d1, d2, d3] => { results := [.lit (.bool false)], args := [d1, d2, d3] }
  | _ => none }
def InstrBackWrongFalsely : Prop := instrBackRow.holds Try.pinned (OpenSpec.ofChange instrBackWrong)

/- THE SECOND FORM. 'bulk': how many values and letters a reading holds, each counted each time it is reached (what is shared counts as often as it is met; a slice's spare places count too). A statement '..UptoSaid' is the law's where the arguments, and the package variables that the reading takes, are together of bulk at most 1048576: NARROWER than '..Said'. Prove '..Said' where nothing that the law and all that it calls make is longer than what came in: it says more and counts as full. Else prove '..UptoSaid'. A law counts once. -/
mutual
def uptoBulk {H : Type} : DataW H → Nat
  | .lit (.string bytes) => bytes.length + 1
  | .lit _ => 1
  | .nil => 1
  | .ptr d => uptoBulk d + 1
  | .slice elems spare => uptoBulkAll elems + uptoBulkAll spare + 1
  | .agg parts => uptoBulkAll parts + 1
  | .iface _ d => uptoBulk d + 1
  | .map entries => uptoBulkEntries entries + 1
  | .held _ => 1
def uptoBulkAll {H : Type} : List (DataW H) → Nat
  | [] => 0
  | d :: r => uptoBulk d + uptoBulkAll r
def uptoBulkEntries {H : Type} : List (Lit × DataW H) → Nat
  | [] => 0
  | x :: r => uptoBulkEntry x + uptoBulkEntries r
def uptoBulkEntry {H : Type} : Lit × DataW H → Nat
  | (.string bytes, d) => bytes.length + uptoBulk d + 1
  | (_, d) => uptoBulk d + 1
 end
def uptoSmall : (H : Type) → List (DataW H) → Bool := fun _ ds => decide (uptoBulkAll ds ≤ 1048576)
def OpenSpec.upto (s : _root_.Go.ChangeSpec) : _root_.Go.OpenSpec := { _root_.Go.OpenSpec.ofChange s with cond := some uptoSmall }

/-- 'lathelaw03.InstrEnds', WHERE WHAT IT READS IS OF BULK AT MOST 1048576: true; the input reads as it did. -/
def instrEndsUptoRow : OpenClaim := { program := "ytopanomcbkhbnaa", sum := "811d20aa5187b16fe353dba2e0bbf79da75d1f03c8ed7b7bbbf2a240097614ff", func := "lathe/lathelaw03.InstrEnds", spec := "instrEnds", unfollowed := true, recurses := true, apart := false, narrowed := true }
def InstrEndsUptoSaid : Prop := instrEndsUptoRow.holds Try.pinned (OpenSpec.upto instrEndsSpec)

/-- 'lathelaw03.InstrApart', WHERE WHAT IT READS IS OF BULK AT MOST 1048576: true; the input reads as it did. -/
def instrApartUptoRow : OpenClaim := { program := "ytopanomcbkhbnaa", sum := "811d20aa5187b16fe353dba2e0bbf79da75d1f03c8ed7b7bbbf2a240097614ff", func := "lathe/lathelaw03.InstrApart", spec := "instrApart", unfollowed := true, recurses := true, apart := false, narrowed := true }
def InstrApartUptoSaid : Prop := instrApartUptoRow.holds Try.pinned (OpenSpec.upto instrApartSpec)

/-- 'lathelaw03.InstrTells', WHERE WHAT IT READS IS OF BULK AT MOST 1048576: true; the input reads as it did. -/
def instrTellsUptoRow : OpenClaim := { program := "ytopanomcbkhbnaa", sum := "811d20aa5187b16fe353dba2e0bbf79da75d1f03c8ed7b7bbbf2a240097614ff", func := "lathe/lathelaw03.InstrTells", spec := "instrTells", unfollowed := true, recurses := true, apart := false, narrowed := true }
def InstrTellsUptoSaid : Prop := instrTellsUptoRow.holds Try.pinned (OpenSpec.upto instrTellsSpec)

/-- 'lathelaw03.InstrReads', WHERE WHAT IT READS IS OF BULK AT MOST 1048576: true; the input reads as it did. -/
def instrReadsUptoRow : OpenClaim := { program := "ytopanomcbkhbnaa", sum := "811d20aa5187b16fe353dba2e0bbf79da75d1f03c8ed7b7bbbf2a240097614ff", func := "lathe/lathelaw03.InstrReads", spec := "instrReads", unfollowed := true, recurses := true, apart := false, narrowed := true }
def InstrReadsUptoSaid : Prop := instrReadsUptoRow.holds Try.pinned (OpenSpec.upto instrReadsSpec)

/-- 'lathelaw03.InstrBack', WHERE WHAT IT READS IS OF BULK AT MOST 1048576: true; the input reads as it did. -/
def instrBackUptoRow : OpenClaim := { program := "ytopanomcbkhbnaa", sum := "811d20aa5187b16fe353dba2e0bbf79da75d1f03c8ed7b7bbbf2a240097614ff", func := "lathe/lathelaw03.InstrBack", spec := "instrBack", unfollowed := true, recurses := true, apart := false, narrowed := true }
def InstrBackUptoSaid : Prop := instrBackUptoRow.holds Try.pinned (OpenSpec.upto instrBackSpec)

end Rows
end Go.Proofs.Ytopanomcbkhbnaa
