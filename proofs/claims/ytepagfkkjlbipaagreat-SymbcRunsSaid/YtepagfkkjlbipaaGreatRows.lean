/-
  No cell of these rows narrows 'for every input' (looked for: loops, veiled, ifaces, maps, wideKeys, modest, calm, conditions, laid).
  DERIVED. THE GIVEN ROWS OF THIS SEAT. 3 by the template 'for every input the law returns true; each argument reads behind the call as it read before'; 0 by the template 'total and deterministic' (their statements: YtepagfkkjlbipaaGreatTotals.lean).
  GIVEN WITH THE SEED: the statements are not yours to turn. If you find one false, say at which input.
  Laid BY PROGRAM, IN A SANDBOX (cutbox-rows.mjs): the forced cells as the released guide's own fill.sh prints them over the translation beefdb0c260b800b… (all of the seat's roots in one cut). By AI agents, Wed Nov 11 2026. No macro, syntax, notation, axiom, sorry.
-/
import Derived.Test.YtepagfkkjlbipaaGreatChecked
import GoSem.Claim
import GoSem.ClaimJoined
import GoSem.ClaimMapViews
import Derived.JoinedTies
import Derived.KernelRfl
namespace Go.Proofs.YtepagfkkjlbipaaGreat
/- THE CELL 'sum', in the pinned program and in every row, IS THE sha256 OF THE DUMP (.gsa) THAT YtepagfkkjlbipaaGreatProg.lean LOADS. Nothing in Lean hashes anything: it is a label: what it is worth is what the hold of that sum in a sandbox is worth. -/
noncomputable def Tryz.pinned : Pinned := { name := "ytepagfkkjlbipaagreat", sum := "beefdb0c260b800b06a8e3c89a33c5cf9f3421f410aa3a994c8857ec76baf809", checked := Tryz.checked }
namespace Rows
def none {H : Type} : Left H := { results := [], args := [] }

/-- 'lathelaw28.SymbcSound': WHATEVER THE INPUT: true; the input reads as it did. -/
def symbcSoundSpec : ChangeSpec := { name := "symbcSound", fn := fun _ => fun
  | [d1, d2, d3, d4] => { results := [.lit (.bool true)], args := [d1, d2, d3, d4] }
  | _ => none }
def symbcSoundRow : OpenClaim := { program := "ytepagfkkjlbipaagreat", sum := "beefdb0c260b800b06a8e3c89a33c5cf9f3421f410aa3a994c8857ec76baf809", func := "lathe/lathelaw28.SymbcSound", spec := "symbcSound", unfollowed := true, recurses := true, plainKeys := false, apart := false }
def SymbcSoundSaid : Prop := symbcSoundRow.holds Tryz.pinned (OpenSpec.ofChange symbcSoundSpec)

/-- ITS FALSE NEIGHBOUR: 'it returns false'. Refute it at one input. -/
def symbcSoundWrong : ChangeSpec := { name := "symbcSound", fn := fun _ => fun
  | [d1, d2, d3, d4] => { results := [.lit (.bool false)], args := [d1, d2, d3, d4] }
  | _ => none }
def SymbcSoundWrongFalsely : Prop := symbcSoundRow.holds Tryz.pinned (OpenSpec.ofChange symbcSoundWrong)

/-- 'lathelaw28.SymbcRuns': WHATEVER THE INPUT: true; the input reads as it did. -/
def symbcRunsSpec : ChangeSpec := { name := "symbcRuns", fn := fun _ => fun
  | [d1, d2, d3, d4] => { results := [.lit (.bool true)], args := [d1, d2, d3, d4] }
  | _ => none }
def symbcRunsRow : OpenClaim := { program := "ytepagfkkjlbipaagreat", sum := "beefdb0c260b800b06a8e3c89a33c5cf9f3421f410aa3a994c8857ec76baf809", func := "lathe/lathelaw28.SymbcRuns", spec := "symbcRuns", unfollowed := true, recurses := true, plainKeys := false, apart := false }
def SymbcRunsSaid : Prop := symbcRunsRow.holds Tryz.pinned (OpenSpec.ofChange symbcRunsSpec)

/-- ITS FALSE NEIGHBOUR: 'it returns false'. Refute it at one input. -/
def symbcRunsWrong : ChangeSpec := { name := "symbcRuns", fn := fun _ => fun
  | [d1, d2, d3, d4] => { results := [.lit (.bool false)], args := [d1, d2, d3, d4] }
  | _ => none }
def SymbcRunsWrongFalsely : Prop := symbcRunsRow.holds Tryz.pinned (OpenSpec.ofChange symbcRunsWrong)

/-- 'lathelaw28.SymbcSays': WHATEVER THE INPUT: true; the input reads as it did. -/
def symbcSaysSpec : ChangeSpec := { name := "symbcSays", fn := fun _ => fun
  | [d1, d2, d3, d4, d5] => { results := [.lit (.bool true)], args := [d1, d2, d3, d4, d5] }
  | _ => none }
def symbcSaysRow : OpenClaim := { program := "ytepagfkkjlbipaagreat", sum := "beefdb0c260b800b06a8e3c89a33c5cf9f3421f410aa3a994c8857ec76baf809", func := "lathe/lathelaw28.SymbcSays", spec := "symbcSays", unfollowed := true, recurses := true, plainKeys := false, apart := false }
def SymbcSaysSaid : Prop := symbcSaysRow.holds Tryz.pinned (OpenSpec.ofChange symbcSaysSpec)

/-- ITS FALSE NEIGHBOUR: 'it returns false'. Refute it at one input. -/
def symbcSaysWrong : ChangeSpec := { name := "symbcSays", fn := fun _ => fun
  | [d1, d2, d3, d4, d5] => { results := [.lit (.bool false)], args := [d1, d2, d3, d4, d5] }
  | _ => none }
def SymbcSaysWrongFalsely : Prop := symbcSaysRow.holds Tryz.pinned (OpenSpec.ofChange symbcSaysWrong)

/- THE SECOND FORM. 'bulk': how many values and letters a reading holds, each counted each time it is reached (what is shared counts as often as it is met; a slice's spare places count too). A statement '..UptoSaid' is the law's where the arguments, and the package variables that the reading takes, are together of bulk at most 1048576: NARROWER than '..Said'. Prove '..Said' where nothing that the law and all that it calls make is longer than what came in: it says more and counts as full. Else prove '..UptoSaid'. A law counts once. -/
mutual
def uptoBulk {H : Type} : DataW H → Nat
  | .lit (.string bytes) => bytes.length + 1
  | .lit _ => 1
  | .nil => 1
  | .ptr d => uptoBulk d + 1
  | .slice elems spare => uptoBulkAll elems + uptoBulkAll spare + 1
  | .agg parts => uptoBulkAll parts + 1
  | .iface _ d => uptoBulk d + 1
  | .map entries => uptoBulkEntries entries + 1
  | .held _ => 1
def uptoBulkAll {H : Type} : List (DataW H) → Nat
  | [] => 0
  | d :: r => uptoBulk d + uptoBulkAll r
def uptoBulkEntries {H : Type} : List (Lit × DataW H) → Nat
  | [] => 0
  | x :: r => uptoBulkEntry x + uptoBulkEntries r
def uptoBulkEntry {H : Type} : Lit × DataW H → Nat
  | (.string bytes, d) => bytes.length + uptoBulk d + 1
  | (_, d) => uptoBulk d + 1
 end
def uptoSmall : (H : Type) → List (DataW H) → Bool := fun _ ds => decide (uptoBulkAll ds ≤ 1048576)
def OpenSpec.upto (s : _root_.Go.ChangeSpec) : _root_.Go.OpenSpec := { _root_.Go.OpenSpec.ofChange s with cond := some uptoSmall }

/-- 'lathelaw28.SymbcSound', WHERE WHAT IT READS IS OF BULK AT MOST 1048576: true; the input reads as it did. -/
def symbcSoundUptoRow : OpenClaim := { program := "ytepagfkkjlbipaagreat", sum := "beefdb0c260b800b06a8e3c89a33c5cf9f3421f410aa3a994c8857ec76baf809", func := "lathe/lathelaw28.SymbcSound", spec := "symbcSound", unfollowed := true, recurses := true, plainKeys := false, apart := false, narrowed := true }
def SymbcSoundUptoSaid : Prop := symbcSoundUptoRow.holds Tryz.pinned (OpenSpec.upto symbcSoundSpec)

/-- 'lathelaw28.SymbcRuns', WHERE WHAT IT READS IS OF BULK AT MOST 1048576: true; the input reads as it did. -/
def symbcRunsUptoRow : OpenClaim := { program := "ytepagfkkjlbipaagreat", sum := "beefdb0c260b800b06a8e3c89a33c5cf9f3421f410aa3a994c8857ec76baf809", func := "lathe/lathelaw28.SymbcRuns", spec := "symbcRuns", unfollowed := true, recurses := true, plainKeys := false, apart := false, narrowed := true }
def SymbcRunsUptoSaid : Prop := symbcRunsUptoRow.holds Tryz.pinned (OpenSpec.upto symbcRunsSpec)

/-- 'lathelaw28.SymbcSays', WHERE WHAT IT READS IS OF BULK AT MOST 1048576: true; the input reads as it did. -/
def symbcSaysUptoRow : OpenClaim := { program := "ytepagfkkjlbipaagreat", sum := "beefdb0c260b800b06a8e3c89a33c5cf9f3421f410aa3a994c8857ec76baf809", func := "lathe/lathelaw28.SymbcSays", spec := "symbcSays", unfollowed := true, recurses := true, plainKeys := false, apart := false, narrowed := true }
def SymbcSaysUptoSaid : Prop := symbcSaysUptoRow.holds Tryz.pinned (OpenSpec.upto symbcSaysSpec)

end Rows
end Go.Proofs.YtepagfkkjlbipaaGreat
