/-
  No cell of these rows narrows 'for every input' (looked for: loops, veiled, ifaces, maps, wideKeys, modest, calm, conditions, laid).
  DERIVED. THE GIVEN ROWS OF THIS SEAT. 6 by the template 'for every input the law returns true; each argument reads behind the call as it read before'; 0 by the template 'total and deterministic' (their statements: YtbdofidapddgaaaTotals.lean).
  GIVEN WITH THE SEED: the statements are not yours to turn. If you find one false, say at which input.
  Laid BY PROGRAM, IN A SANDBOX (cutbox-rows.mjs): the forced cells as the released guide's own fill.sh prints them over the translation 1a28828d7cb228e0… (all of the seat's roots in one cut). By AI agents, Wed Nov 11 2026. No macro, syntax, notation, axiom, sorry.
-/
import Derived.Test.YtbdofidapddgaaaChecked
import GoSem.Claim
import GoSem.ClaimJoined
import GoSem.ClaimMapViews
import Derived.JoinedTies
import Derived.KernelRfl
namespace Go.Proofs.Ytbdofidapddgaaa
/- THE CELL 'sum', in the pinned program and in every row, IS THE sha256 OF THE DUMP (.gsa) THAT YtbdofidapddgaaaProg.lean LOADS. Nothing in Lean hashes anything: it is a label: what it is worth is what the hold of that sum in a sandbox is worth. -/
noncomputable def Try.pinned : Pinned := { name := "ytbdofidapddgaaa", sum := "1a28828d7cb228e0b4f35b887e48cd1b4a54b3305e68d32fbe5ae335ae2ac8dd", checked := Try.checked }
namespace Rows
def none {H : Type} : Left H := { results := [], args := [] }

/-- 'lathelaw04.BlocksFew': WHATEVER THE INPUT: true; the input reads as it did. -/
def blocksFewSpec : ChangeSpec := { name := "blocksFew", fn := fun _ => fun
  | [d] => { results := [.lit (.bool true)], args := [d] }
  | _ => none }
def blocksFewRow : OpenClaim := { program := "ytbdofidapddgaaa", sum := "1a28828d7cb228e0b4f35b887e48cd1b4a54b3305e68d32fbe5ae335ae2ac8dd", func := "lathe/lathelaw04.BlocksFew", spec := "blocksFew", unfollowed := true, recurses := true, apart := false }
def BlocksFewSaid : Prop := blocksFewRow.holds Try.pinned (OpenSpec.ofChange blocksFewSpec)

/-- ITS FALSE NEIGHBOUR: 'it returns false'. Refute it at one input. -/
def blocksFewWrong : ChangeSpec := { name := "blocksFew", fn := fun _ => fun
  | [d] => { results := [.lit (.bool false)], args := [d] }
  | _ => none }
def BlocksFewWrongFalsely : Prop := blocksFewRow.holds Try.pinned (OpenSpec.ofChange blocksFewWrong)

/-- 'lathelaw04.BlocksRun': WHATEVER THE INPUT: true; the input reads as it did. -/
def blocksRunSpec : ChangeSpec := { name := "blocksRun", fn := fun _ => fun
  | [d1, d2] => { results := [.lit (.bool true)], args := [d1, d2] }
  | _ => none }
def blocksRunRow : OpenClaim := { program := "ytbdofidapddgaaa", sum := "1a28828d7cb228e0b4f35b887e48cd1b4a54b3305e68d32fbe5ae335ae2ac8dd", func := "lathe/lathelaw04.BlocksRun", spec := "blocksRun", unfollowed := true, recurses := true, apart := false }
def BlocksRunSaid : Prop := blocksRunRow.holds Try.pinned (OpenSpec.ofChange blocksRunSpec)

/-- ITS FALSE NEIGHBOUR: 'it returns false'. Refute it at one input. -/
def blocksRunWrong : ChangeSpec := { name := "blocksRun", fn := fun _ => fun
  | [d1, d2] => { results := [.lit (.bool false)], args := [d1, d2] }
  | _ => none }
def BlocksRunWrongFalsely : Prop := blocksRunRow.holds Try.pinned (OpenSpec.ofChange blocksRunWrong)

/-- 'lathelaw04.BlocksWhole': WHATEVER THE INPUT: true; the input reads as it did. -/
def blocksWholeSpec : ChangeSpec := { name := "blocksWhole", fn := fun _ => fun
  | [d] => { results := [.lit (.bool true)], args := [d] }
  | _ => none }
def blocksWholeRow : OpenClaim := { program := "ytbdofidapddgaaa", sum := "1a28828d7cb228e0b4f35b887e48cd1b4a54b3305e68d32fbe5ae335ae2ac8dd", func := "lathe/lathelaw04.BlocksWhole", spec := "blocksWhole", unfollowed := true, recurses := true, apart := false }
def BlocksWholeSaid : Prop := blocksWholeRow.holds Try.pinned (OpenSpec.ofChange blocksWholeSpec)

/-- ITS FALSE NEIGHBOUR: 'it returns false'. Refute it at one input. -/
def blocksWholeWrong : ChangeSpec := { name := "blocksWhole", fn := fun _ => fun
  | [d] => { results := [.lit (.bool false)], args := [d] }
  | _ => none }
def BlocksWholeWrongFalsely : Prop := blocksWholeRow.holds Try.pinned (OpenSpec.ofChange blocksWholeWrong)

/-- 'lathelaw04.BlocksBehind': WHATEVER THE INPUT: true; the input reads as it did. -/
def blocksBehindSpec : ChangeSpec := { name := "blocksBehind", fn := fun _ => fun
  | [d] => { results := [.lit (.bool true)], args := [d] }
  | _ => none }
def blocksBehindRow : OpenClaim := { program := "ytbdofidapddgaaa", sum := "1a28828d7cb228e0b4f35b887e48cd1b4a54b3305e68d32fbe5ae335ae2ac8dd", func := "lathe/lathelaw04.BlocksBehind", spec := "blocksBehind", unfollowed := true, recurses := true, apart := false }
def BlocksBehindSaid : Prop := blocksBehindRow.holds Try.pinned (OpenSpec.ofChange blocksBehindSpec)

/-- ITS FALSE NEIGHBOUR: 'it returns false'. Refute it at one input. -/
def blocksBehindWrong : ChangeSpec := { name := "blocksBehind", fn := fun _ => fun
  | [d] => { results := [.lit (.bool false)], args := [d] }
  | _ => none }
def BlocksBehindWrongFalsely : Prop := blocksBehindRow.holds Try.pinned (OpenSpec.ofChange blocksBehindWrong)

/-- 'lathelaw04.BlocksReach': WHATEVER THE INPUT: true; the input reads as it did. -/
def blocksReachSpec : ChangeSpec := { name := "blocksReach", fn := fun _ => fun
  | [d] => { results := [.lit (.bool true)], args := [d] }
  | _ => none }
def blocksReachRow : OpenClaim := { program := "ytbdofidapddgaaa", sum := "1a28828d7cb228e0b4f35b887e48cd1b4a54b3305e68d32fbe5ae335ae2ac8dd", func := "lathe/lathelaw04.BlocksReach", spec := "blocksReach", unfollowed := true, recurses := true, apart := false }
def BlocksReachSaid : Prop := blocksReachRow.holds Try.pinned (OpenSpec.ofChange blocksReachSpec)

/-- ITS FALSE NEIGHBOUR: 'it returns false'. Refute it at one input. -/
def blocksReachWrong : ChangeSpec := { name := "blocksReach", fn := fun _ => fun
  | [d] => { results := [.lit (.bool false)], args := [d] }
  | _ => none }
def BlocksReachWrongFalsely : Prop := blocksReachRow.holds Try.pinned (OpenSpec.ofChange blocksReachWrong)

/-- 'lathelaw04.BlocksWays': WHATEVER THE INPUT: true; the input reads as it did. -/
def blocksWaysSpec : ChangeSpec := { name := "blocksWays", fn := fun _ => fun
  | [d1, d2, d3] => { results := [.lit (.bool true)], args := [d1, d2, d3] }
  | _ => none }
def blocksWaysRow : OpenClaim := { program := "ytbdofidapddgaaa", sum := "1a28828d7cb228e0b4f35b887e48cd1b4a54b3305e68d32fbe5ae335ae2ac8dd", func := "lathe/lathelaw04.BlocksWays", spec := "blocksWays", unfollowed := true, recurses := true, apart := false }
def BlocksWaysSaid : Prop := blocksWaysRow.holds Try.pinned (OpenSpec.ofChange blocksWaysSpec)

/-- ITS FALSE NEIGHBOUR: 'it returns false'. Refute it at one input. -/
def blocksWaysWrong : ChangeSpec := { name := "blocksWays", fn := fun _ => fun
  | [d1, d2, d3] => { results := [.lit (.bool false)], args := [d1, d2, d3] }
  | _ => none }
def BlocksWaysWrongFalsely : Prop := blocksWaysRow.holds Try.pinned (OpenSpec.ofChange blocksWaysWrong)

/- THE SECOND FORM. 'bulk': how many values and letters a reading holds, each counted each time it is reached (what is shared counts as often as it is met; a slice's spare places count too). A statement '..UptoSaid' is the law's where the arguments, and the package variables that the reading takes, are together of bulk at most 1048576: NARROWER than '..Said'. Prove '..Said' where nothing that the law and all that it calls make is longer than what came in: it says more and counts as full. Else prove '..UptoSaid'. A law counts once. -/
mutual
def uptoBulk {H : Type} : DataW H → Nat
  | .lit (.string bytes) => bytes.length + 1
  | .lit _ => 1
  | .nil => 1
  | .ptr d => uptoBulk d + 1
  | .slice elems spare => uptoBulkAll elems + uptoBulkAll spare + 1
  | .agg parts => uptoBulkAll parts + 1
  | .iface _ d => uptoBulk d + 1
  | .map entries => uptoBulkEntries entries + 1
  | .held _ => 1
def uptoBulkAll {H : Type} : List (DataW H) → Nat
  | [] => 0
  | d :: r => uptoBulk d + uptoBulkAll r
def uptoBulkEntries {H : Type} : List (Lit × DataW H) → Nat
  | [] => 0
  | x :: r => uptoBulkEntry x + uptoBulkEntries r
def uptoBulkEntry {H : Type} : Lit × DataW H → Nat
  | (.string bytes, d) => bytes.length + uptoBulk d + 1
  | (_, d) => uptoBulk d + 1
 end
def uptoSmall : (H : Type) → List (DataW H) → Bool := fun _ ds => decide (uptoBulkAll ds ≤ 1048576)
def OpenSpec.upto (s : _root_.Go.ChangeSpec) : _root_.Go.OpenSpec := { _root_.Go.OpenSpec.ofChange s with cond := some uptoSmall }

/-- 'lathelaw04.BlocksFew', WHERE WHAT IT READS IS OF BULK AT MOST 1048576: true; the input reads as it did. -/
def blocksFewUptoRow : OpenClaim := { program := "ytbdofidapddgaaa", sum := "1a28828d7cb228e0b4f35b887e48cd1b4a54b3305e68d32fbe5ae335ae2ac8dd", func := "lathe/lathelaw04.BlocksFew", spec := "blocksFew", unfollowed := true, recurses := true, apart := false, narrowed := true }
def BlocksFewUptoSaid : Prop := blocksFewUptoRow.holds Try.pinned (OpenSpec.upto blocksFewSpec)

/-- 'lathelaw04.BlocksRun', WHERE WHAT IT READS IS OF BULK AT MOST 1048576: true; the input reads as it did. -/
def blocksRunUptoRow : OpenClaim := { program := "ytbdofidapddgaaa", sum := "1a28828d7cb228e0b4f35b887e48cd1b4a54b3305e68d32fbe5ae335ae2ac8dd", func := "lathe/lathelaw04.BlocksRun", spec := "blocksRun", unfollowed := true, recurses := true, apart := false, narrowed := true }
def BlocksRunUptoSaid : Prop := blocksRunUptoRow.holds Try.pinned (OpenSpec.upto blocksRunSpec)

/-- 'lathelaw04.BlocksWhole', WHERE WHAT IT READS IS OF BULK AT MOST 1048576: true; the input reads as it did. -/
def blocksWholeUptoRow : OpenClaim := { program := "ytbdofidapddgaaa", sum := "1a28828d7cb228e0b4f35b887e48cd1b4a54b3305e68d32fbe5ae335ae2ac8dd", func := "lathe/lathelaw04.BlocksWhole", spec := "blocksWhole", unfollowed := true, recurses := true, apart := false, narrowed := true }
def BlocksWholeUptoSaid : Prop := blocksWholeUptoRow.holds Try.pinned (OpenSpec.upto blocksWholeSpec)

/-- 'lathelaw04.BlocksBehind', WHERE WHAT IT READS IS OF BULK AT MOST 1048576: true; the input reads as it did. -/
def blocksBehindUptoRow : OpenClaim := { program := "ytbdofidapddgaaa", sum := "1a28828d7cb228e0b4f35b887e48cd1b4a54b3305e68d32fbe5ae335ae2ac8dd", func := "lathe/lathelaw04.BlocksBehind", spec := "blocksBehind", unfollowed := true, recurses := true, apart := false, narrowed := true }
def BlocksBehindUptoSaid : Prop := blocksBehindUptoRow.holds Try.pinned (OpenSpec.upto blocksBehindSpec)

/-- 'lathelaw04.BlocksReach', WHERE WHAT IT READS IS OF BULK AT MOST 1048576: true; the input reads as it did. -/
def blocksReachUptoRow : OpenClaim := { program := "ytbdofidapddgaaa", sum := "1a28828d7cb228e0b4f35b887e48cd1b4a54b3305e68d32fbe5ae335ae2ac8dd", func := "lathe/lathelaw04.BlocksReach", spec := "blocksReach", unfollowed := true, recurses := true, apart := false, narrowed := true }
def BlocksReachUptoSaid : Prop := blocksReachUptoRow.holds Try.pinned (OpenSpec.upto blocksReachSpec)

/-- 'lathelaw04.BlocksWays', WHERE WHAT IT READS IS OF BULK AT MOST 1048576: true; the input reads as it did. -/
def blocksWaysUptoRow : OpenClaim := { program := "ytbdofidapddgaaa", sum := "1a28828d7cb228e0b4f35b887e48cd1b4a54b3305e68d32fbe5ae335ae2ac8dd", func := "lathe/lathelaw04.BlocksWays", spec := "blocksWays", unfollowed := true, recurses := true, apart := false, narrowed := true }
def BlocksWaysUptoSaid : Prop := blocksWaysUptoRow.holds Try.pinned (OpenSpec.upto blocksWaysSpec)

end Rows
end Go.Proofs.Ytbdofidapddgaaa
