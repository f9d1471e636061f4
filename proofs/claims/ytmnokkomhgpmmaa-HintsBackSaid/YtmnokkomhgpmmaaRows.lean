/-
  No cell of these rows narrows 'for every input' (looked for: loops, veiled, ifaces, maps, wideKeys, modest, calm, conditions, laid).
  DERIVED. THE GIVEN ROWS OF THIS SEAT. 4 by the template 'for every input the law returns true; each argument reads behind the call as it read before'; 0 by the template 'total and deterministic' (their statements: YtmnokkomhgpmmaaTotals.lean).
  GIVEN WITH THE SEED: the statements are not yours to turn. If you find one false, say at which input.
  Laid BY PROGRAM, IN A SANDBOX (cutbox-rows.mjs): the forced cells as the released guide's own fill.sh prints them over the translation 8bd6a878c592ddd4… (all of the seat's roots in one cut). By AI agents, Wed Nov 11 2026. No macro, syntax, notation, axiom, sorry.
-/
import Derived.Test.YtmnokkomhgpmmaaChecked
import GoSem.Claim
import GoSem.ClaimJoined
import GoSem.ClaimMapViews
import Derived.JoinedTies
import Derived.KernelRfl
namespace Go.Proofs.Ytmnokkomhgpmmaa
/- THE CELL 'sum', in the pinned program and in every row, IS THE sha256 OF THE DUMP (.gsa) THAT YtmnokkomhgpmmaaProg.lean LOADS. Nothing in Lean hashes anything: it is a label: what it is worth is what the hold of that sum in a sandbox is worth. -/
noncomputable def Try.pinned : Pinned := { name := "ytmnokkomhgpmmaa", sum := "8bd6a878c592ddd446a845ab6165fc4d056cbcff7a90c34f97d23dc7a035185a", checked := Try.checked }
namespace Rows
def none {H : Type} : Left H := { results := [], args := [] }

/-- 'lathelaw25.HintsBlock': WHATEVER THE INPUT: true; the input reads as it did. -/
def hintsBlockSpec : ChangeSpec := { name := "hintsBlock", fn := fun _ => fun
  | [d1, d2] => { results := [.lit (.bool true)], args := [d1, d2] }
  | _ => none }
def hintsBlockRow : OpenClaim := { program := "ytmnokkomhgpmmaa", sum := "8bd6a878c592ddd446a845ab6165fc4d056cbcff7a90c34f97d23dc7a035185a", func := "lathe/lathelaw25.HintsBlock", spec := "hintsBlock", unfollowed := true, recurses := true, plainKeys := false, apart := false }
def HintsBlockSaid : Prop := hintsBlockRow.holds Try.pinned (OpenSpec.ofChange hintsBlockSpec)

/-- ITS FALSE NEIGHBOUR: 'it returns false'. Refute it at one input. -/
def hintsBlockWrong : ChangeSpec := { name := "hintsBlock", fn := fun _ => fun
  | [d1, d2] => { results := [.lit (.bool false)], args := [d1, d2] }
  | _ => none }
def HintsBlockWrongFalsely : Prop := hintsBlockRow.holds Try.pinned (OpenSpec.ofChange hintsBlockWrong)

/-- 'lathelaw25.HintsTell': WHATEVER THE INPUT: true; the input reads as it did. -/
def hintsTellSpec : ChangeSpec := { name := "hintsTell", fn := fun _ => fun
  | [d1, d2, d3] => { results := [.lit (.bool true)], args := [d1, d2, d3] }
  | _ => none }
def hintsTellRow : OpenClaim := { program := "ytmnokkomhgpmmaa", sum := "8bd6a878c592ddd446a845ab6165fc4d056cbcff7a90c34f97d23dc7a035185a", func := "lathe/lathelaw25.HintsTell", spec := "hintsTell", unfollowed := true, recurses := true, plainKeys := false, apart := false }
def HintsTellSaid : Prop := hintsTellRow.holds Try.pinned (OpenSpec.ofChange hintsTellSpec)

/-- ITS FALSE NEIGHBOUR: 'it returns false'. Refute it at one input. -/
def hintsTellWrong : ChangeSpec := { name := "hintsTell", fn := fun _ => fun
  | [d1, d2, d3] => { results := [.lit (.bool false)], args := [d1, d2, d3] }
  | _ => none }
def HintsTellWrongFalsely : Prop := hintsTellRow.holds Try.pinned (OpenSpec.ofChange hintsTellWrong)

/-- 'lathelaw25.HintsRead': WHATEVER THE INPUT: true; the input reads as it did. -/
def hintsReadSpec : ChangeSpec := { name := "hintsRead", fn := fun _ => fun
  | [d] => { results := [.lit (.bool true)], args := [d] }
  | _ => none }
def hintsReadRow : OpenClaim := { program := "ytmnokkomhgpmmaa", sum := "8bd6a878c592ddd446a845ab6165fc4d056cbcff7a90c34f97d23dc7a035185a", func := "lathe/lathelaw25.HintsRead", spec := "hintsRead", plainKeys := false, apart := false }
def HintsReadSaid : Prop := hintsReadRow.holds Try.pinned (OpenSpec.ofChange hintsReadSpec)

/-- ITS FALSE NEIGHBOUR: 'it returns false'. Refute it at one input. -/
def hintsReadWrong : ChangeSpec := { name := "hintsRead", fn := fun _ => fun
  | [d] => { results := [.lit (.bool false)], args := [d] }
  | _ => none }
def HintsReadWrongFalsely : Prop := hintsReadRow.holds Try.pinned (OpenSpec.ofChange hintsReadWrong)

/-- 'lathelaw25.HintsBack': WHATEVER THE INPUT: true; the input reads as it did. -/
def hintsBackSpec : ChangeSpec := { name := "hintsBack", fn := fun _ => fun
  | [d1, d2] => { results := [.lit (.bool true)], args := [d1, d2] }
  | _ => none }
def hintsBackRow : OpenClaim := { program := "ytmnokkomhgpmmaa", sum := "8bd6a878c592ddd446a845ab6165fc4d056cbcff7a90c34f97d23dc7a035185a", func := "lathe/lathelaw25.HintsBack", spec := "hintsBack", unfollowed := true, recurses := true, plainKeys := false, apart := false }
def HintsBackSaid : Prop := hintsBackRow.holds Try.pinned (OpenSpec.ofChange hintsBackSpec)

/-- ITS FALSE NEIGHBOUR: 'it returns false'. Refute it at one input. -/
def hintsBackWrong : ChangeSpec := { name := "hintsBack", fn := fun _ => fun
  | [d1, d2] => { results := [.lit (.bool false)], args := [d1, d2] }
  | _ => none }
def HintsBackWrongFalsely : Prop := hintsBackRow.holds Try.pinned (OpenSpec.ofChange hintsBackWrong)

/- THE SECOND FORM. 'bulk': how many values and letters a reading holds, each counted each time it is reached (what is shared counts as often as it is met; a slice's spare places count too). A statement '..UptoSaid' is the law's where the arguments, and the package variables that the reading takes, are together of bulk at most 1048576: NARROWER than '..Said'. Prove '..Said' where nothing that the law and all that it calls make is longer than what came in: it says more and counts as full. Else prove '..UptoSaid'. A law counts once. -/
mutual
def uptoBulk {H : Type} : DataW H → Nat
  | .lit (.string bytes) => bytes.length + 1
  | .lit _ => 1
  | .nil => 1
  | .ptr d => uptoBulk d + 1
  | .slice elems spare => uptoBulkAll elems + uptoBulkAll spare + 1
  | .agg parts => uptoBulkAll parts + 1
  | .iface _ d => uptoBulk d + 1
  | .map entries => uptoBulkEntries entries + 1
  | .held _ => 1
def uptoBulkAll {H : Type} : List (DataW H) → Nat
  | [] => 0
  | d :: r => uptoBulk d + uptoBulkAll r
def uptoBulkEntries {H : Type} : List (Lit × DataW H) → Nat
  | [] => 0
  | x :: r => uptoBulkEntry x + uptoBulkEntries r
def uptoBulkEntry {H : Type} : Lit × DataW H → Nat
  | (.string bytes, d) => bytes.length + uptoBulk d + 1
  | (_, d) => uptoBulk d + 1
 end
def uptoSmall : (H : Type) → List (DataW H) → Bool := fun _ ds => decide (uptoBulkAll ds ≤ 1048576)
def OpenSpec.upto (s : _root_.Go.ChangeSpec) : _root_.Go.OpenSpec := { _root_.Go.OpenSpec.ofChange s with cond := some uptoSmall }

/-- 'lathelaw25.HintsBlock', WHERE WHAT IT READS IS OF BULK AT MOST 1048576: true; the input reads as it did. -/
def hintsBlockUptoRow : OpenClaim := { program := "ytmnokkomhgpmmaa", sum := "8bd6a878c592ddd446a845ab6165fc4d056cbcff7a90c34f97d23dc7a035185a", func := "lathe/lathelaw25.HintsBlock", spec := "hintsBlock", unfollowed := true, recurses := true, plainKeys := false, apart := false, narrowed := true }
def HintsBlockUptoSaid : Prop := hintsBlockUptoRow.holds Try.pinned (OpenSpec.upto hintsBlockSpec)

/-- 'lathelaw25.HintsTell', WHERE WHAT IT READS IS OF BULK AT MOST 1048576: true; the input reads as it did. -/
def hintsTellUptoRow : OpenClaim := { program := "ytmnokkomhgpmmaa", sum := "8bd6a878c592ddd446a845ab6165fc4d056cbcff7a90c34f97d23dc7a035185a", func := "lathe/lathelaw25.HintsTell", spec := "hintsTell", unfollowed := true, recurses := true, plainKeys := false, apart := false, narrowed := true }
def HintsTellUptoSaid : Prop := hintsTellUptoRow.holds Try.pinned (OpenSpec.upto hintsTellSpec)

/-- 'lathelaw25.HintsRead', WHERE WHAT IT READS IS OF BULK AT MOST 1048576: true; the input reads as it did. -/
def hintsReadUptoRow : OpenClaim := { program := "ytmnokkomhgpmmaa", sum := "8bd6a878c592ddd446a845ab6165fc4d056cbcff7a90c34f97d23dc7a035185a", func := "lathe/lathelaw25.HintsRead", spec := "hintsRead", plainKeys := false, apart := false, narrowed := true }
def HintsReadUptoSaid : Prop := hintsReadUptoRow.holds Try.pinned (OpenSpec.upto hintsReadSpec)

/-- 'lathelaw25.HintsBack', WHERE WHAT IT READS IS OF BULK AT MOST 1048576: true; the input reads as it did. -/
def hintsBackUptoRow : OpenClaim := { program := "ytmnokkomhgpmmaa", sum := "8bd6a878c592ddd446a845ab6165fc4d056cbcff7a90c34f97d23dc7a035185a", func := "lathe/lathelaw25.HintsBack", spec := "hintsBack", unfollowed := true, recurses := true, plainKeys := false, apart := false, narrowed := true }
def HintsBackUptoSaid : Prop := hintsBackUptoRow.holds Try.pinned (OpenSpec.upto hintsBackSpec)

end Rows
end Go.Proofs.Ytmnokkomhgpmmaa
