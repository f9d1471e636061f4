/-
  No cell of these rows narrows 'for every input' (looked for: loops, veiled, ifaces, maps, wideKeys, modest, calm, conditions, laid).
  DERIVED. THE GIVEN ROWS OF THIS SEAT. 4 by the template 'for every input the law returns true; each argument reads behind the call as it read before'; 0 by the template 'total and deterministic' (their statements: YtdnibhcpbdjhlaaTotals.lean).
  GIVEN WITH THE SEED: the statements are not yours to turn. If you find one false, say at which input.
  Laid BY PROGRAM, IN A SANDBOX (cutbox-rows.mjs): the forced cells as the released guide's own fill.sh prints them over the translation ce88f51d7e184345… (all of the seat's roots in one cut). By AI agents, Wed Nov 11 2026. No macro, syntax, notation, axiom, sorry.
-/
import Derived.Test.YtdnibhcpbdjhlaaChecked
import GoSem.Claim
import GoSem.ClaimJoined
import GoSem.ClaimMapViews
import Derived.JoinedTies
import Derived.KernelRfl
namespace Go.Proofs.Ytdnibhcpbdjhlaa
/- THE CELL 'sum', in the pinned program and in every row, IS THE sha256 OF THE DUMP (.gsa) THAT YtdnibhcpbdjhlaaProg.lean LOADS. Nothing in Lean hashes anything: it is a label: what it is worth is what the hold of that sum in a sandbox is worth. -/
noncomputable def Try.pinned : Pinned := { name := "ytdnibhcpbdjhlaa", sum := "ce88f51d7e1843455ebc09efa8140085879cda9bb2ee42267f8aa23641b896bc", checked := Try.checked }
namespace Rows
def none {H : Type} : Left H := { results := [], args := [] }

/-- 'lathelaw22.MovesStay': WHATEVER THE INPUT: true; the input reads as it did. -/
def movesStaySpec : ChangeSpec := { name := "movesStay", fn := fun _ => fun
  | [d1, d2, d3] => { results := [.lit (.bool true)], args := [d1, d2, d3] }
  | _ => none }
def movesStayRow : OpenClaim := { program := "ytdnibhcpbdjhlaa", sum := "ce88f51d7e1843455ebc09efa8140085879cda9bb2ee42267f8aa23641b896bc", func := "lathe/lathelaw22.MovesStay", spec := "movesStay", plainKeys := false, apart := false }
def MovesStaySaid : Prop := movesStayRow.holds Try.pinned (OpenSpec.ofChange movesStaySpec)

/-- ITS FALSE NEIGHBOUR: 'it returns false'. Refute it at one input. -/
def movesStayWrong : ChangeSpec := { name := "movesStay", fn := fun _ => fun
  | [d1, d2, d3] => { results := [.lit (.bool false)], args := [d1, d2, d3] }
  | _ => none }
def MovesStayWrongFalsely : Prop := movesStayRow.holds Try.pinned (OpenSpec.ofChange movesStayWrong)

/-- 'lathelaw22.MovesRun': WHATEVER THE INPUT: true; the input reads as it did. -/
def movesRunSpec : ChangeSpec := { name := "movesRun", fn := fun _ => fun
  | [d1, d2] => { results := [.lit (.bool true)], args := [d1, d2] }
  | _ => none }
def movesRunRow : OpenClaim := { program := "ytdnibhcpbdjhlaa", sum := "ce88f51d7e1843455ebc09efa8140085879cda9bb2ee42267f8aa23641b896bc", func := "lathe/lathelaw22.MovesRun", spec := "movesRun", plainKeys := false, apart := false }
def MovesRunSaid : Prop := movesRunRow.holds Try.pinned (OpenSpec.ofChange movesRunSpec)

/-- ITS FALSE NEIGHBOUR: 'it returns false'. Refute it at one input. -/
def movesRunWrong : ChangeSpec := { name := "movesRun", fn := fun _ => fun
  | [d1, d2] => { results := [.lit (.bool false)], args := [d1, d2] }
  | _ => none }
def MovesRunWrongFalsely : Prop := movesRunRow.holds Try.pinned (OpenSpec.ofChange movesRunWrong)

/-- 'lathelaw22.MovesBack': WHATEVER THE INPUT: true; the input reads as it did. -/
def movesBackSpec : ChangeSpec := { name := "movesBack", fn := fun _ => fun
  | [d1, d2, d3] => { results := [.lit (.bool true)], args := [d1, d2, d3] }
  | _ => none }
def movesBackRow : OpenClaim := { program := "ytdnibhcpbdjhlaa", sum := "ce88f51d7e1843455ebc09efa8140085879cda9bb2ee42267f8aa23641b896bc", func := "lathe/lathelaw22.MovesBack", spec := "movesBack", plainKeys := false, apart := false }
def MovesBackSaid : Prop := movesBackRow.holds Try.pinned (OpenSpec.ofChange movesBackSpec)

/-- ITS FALSE NEIGHBOUR: 'it returns false'. Refute it at one input. -/
def movesBackWrong : ChangeSpec := { name := "movesBack", fn := fun _ => fun
  | [d1, d2, d3] => { results := [.lit (.bool false)], args := [d1, d2, d3] }
  | _ => none }
def MovesBackWrongFalsely : Prop := movesBackRow.holds Try.pinned (OpenSpec.ofChange movesBackWrong)

/-- 'lathelaw22.MovesOnce': WHATEVER THE INPUT: true; the input reads as it did. -/
def movesOnceSpec : ChangeSpec := { name := "movesOnce", fn := fun _ => fun
  | [d1, d2, d3] => { results := [.lit (.bool true)], args := [d1, d2, d3] }
  | _ => none }
def movesOnceRow : OpenClaim := { program := "ytdnibhcpbdjhlaa", sum := "ce88f51d7e1843455ebc09efa8140085879cda9bb2ee42267f8aa23641b896bc", func := "lathe/lathelaw22.MovesOnce", spec := "movesOnce", plainKeys := false, apart := false }
def MovesOnceSaid : Prop := movesOnceRow.holds Try.pinned (OpenSpec.ofChange movesOnceSpec)

/-- ITS FALSE NEIGHBOUR: 'it returns false'. Refute it at one input. -/
def movesOnceWrong : ChangeSpec := { name := "movesOnce", fn := fun _ => fun
  | [d1, d2, d3] => { results := [.lit (.bool false)], args := [d1, d2, d3] }
  | _ => none }
def MovesOnceWrongFalsely : Prop := movesOnceRow.holds Try.pinned (OpenSpec.ofChange movesOnceWrong)

/- THE SECOND FORM. 'bulk': how many values and letters a reading holds, each counted each time it is reached (what is shared counts as often as it is met; a slice's spare places count too). A statement '..UptoSaid' is the law's where the arguments, and the package variables that the reading takes, are together of bulk at most 1048576: NARROWER than '..Said'. Prove '..Said' where nothing that the law and all that it calls make is longer than what came in: it says more and counts as full. Else prove '..UptoSaid'. A law counts once. -/
mutual
def uptoBulk {H : Type} : DataW H → Nat
  | .lit (.string bytes) => bytes.length + 1
  | .lit _ => 1
  | .nil => 1
  | .ptr d => uptoBulk d + 1
  | .slice elems spare => uptoBulkAll elems + uptoBulkAll spare + 1
  | .agg parts => uptoBulkAll parts + 1
  | .iface _ d => uptoBulk d + 1
  | .map entries => uptoBulkEntries entries + 1
  | .held _ => 1
def uptoBulkAll {H : Type} : List (DataW H) → Nat
  | [] => 0
  | d :: r => uptoBulk d + uptoBulkAll r
def uptoBulkEntries {H : Type} : List (Lit × DataW H) → Nat
  | [] => 0
  | x :: r => uptoBulkEntry x + uptoBulkEntries r
def uptoBulkEntry {H : Type} : Lit × DataW H → Nat
  | (.string bytes, d) => bytes.length + uptoBulk d + 1
  | (_, d) => uptoBulk d + 1
 end
def uptoSmall : (H : Type) → List (DataW H) → Bool := fun _ ds => decide (uptoBulkAll ds ≤ 1048576)
def OpenSpec.upto (s : _root_.Go.ChangeSpec) : _root_.Go.OpenSpec := { _root_.Go.OpenSpec.ofChange s with cond := some uptoSmall }

/-- 'lathelaw22.MovesStay', WHERE WHAT IT READS IS OF BULK AT MOST 1048576: true; the input reads as it did. -/
def movesStayUptoRow : OpenClaim := { program := "ytdnibhcpbdjhlaa", sum := "ce88f51d7e1843455ebc09efa8140085879cda9bb2ee42267f8aa23641b896bc", func := "lathe/lathelaw22.MovesStay", spec := "movesStay", plainKeys := false, apart := false, narrowed := true }
def MovesStayUptoSaid : Prop := movesStayUptoRow.holds Try.pinned (OpenSpec.upto movesStaySpec)

/-- 'lathelaw22.MovesRun', WHERE WHAT IT READS IS OF BULK AT MOST 1048576: true; the input reads as it did. -/
def movesRunUptoRow : OpenClaim := { program := "ytdnibhcpbdjhlaa", sum := "ce88f51d7e1843455ebc09efa8140085879cda9bb2ee42267f8aa23641b896bc", func := "lathe/lathelaw22.MovesRun", spec := "movesRun", plainKeys := false, apart := false, narrowed := true }
def MovesRunUptoSaid : Prop := movesRunUptoRow.holds Try.pinned (OpenSpec.upto movesRunSpec)

/-- 'lathelaw22.MovesBack', WHERE WHAT IT READS IS OF BULK AT MOST 1048576: true; the input reads as it did. -/
def movesBackUptoRow : OpenClaim := { program := "ytdnibhcpbdjhlaa", sum := "ce88f51d7e1843455ebc09efa8140085879cda9bb2ee42267f8aa23641b896bc", func := "lathe/lathelaw22.MovesBack", spec := "movesBack", plainKeys := false, apart := false, narrowed := true }
def MovesBackUptoSaid : Prop := movesBackUptoRow.holds Try.pinned (OpenSpec.upto movesBackSpec)

/-- 'lathelaw22.MovesOnce', WHERE WHAT IT READS IS OF BULK AT MOST 1048576: true; the input reads as it did. -/
def movesOnceUptoRow : OpenClaim := { program := "ytdnibhcpbdjhlaa", sum := "ce88f51d7e1843455ebc09efa8140085879cda9bb2ee42267f8aa23641b896bc", func := "lathe/lathelaw22.MovesOnce", spec := "movesOnce", plainKeys := false, apart := false, narrowed := true }
def MovesOnceUptoSaid : Prop := movesOnceUptoRow.holds Try.pinned (OpenSpec.upto movesOnceSpec)

end Rows
end Go.Proofs.Ytdnibhcpbdjhlaa
