/-
  No cell of these rows narrows 'for every input' (looked for: loops, veiled, ifaces, maps, wideKeys, modest, calm, conditions, laid).
  DERIVED. THE GIVEN ROWS OF THIS SEAT. 3 by the template 'for every input the law returns true; each argument reads behind the call as it read before'; 0 by the template 'total and deterministic' (their statements: YtepagfkkjlbipaaTotals.lean).
  GIVEN WITH THE SEED: the statements are not yours to turn. If you find one false, say at which input.
  Laid BY PROGRAM, IN A SANDBOX (cutbox-rows.mjs): the forced cells as the released guide's own fill.sh prints them over the translation 21268417d104a2dd… (all of the seat's roots in one cut). By AI agents, Wed Nov 11 2026. No macro, syntax, notation, axiom, sorry.
-/
import Derived.Test.YtepagfkkjlbipaaChecked
import GoSem.Claim
import GoSem.ClaimJoined
import GoSem.ClaimMapViews
import Derived.JoinedTies
import Derived.KernelRfl
namespace Go.Proofs.Ytepagfkkjlbipaa
/- THE CELL 'sum', in the pinned program and in every row, IS THE sha256 OF THE DUMP (.gsa) THAT YtepagfkkjlbipaaProg.lean LOADS. Nothing in Lean hashes anything: it is a label: what it is worth is what the hold of that sum in a sandbox is worth. -/
noncomputable def Try.pinned : Pinned := { name := "ytepagfkkjlbipaa", sum := "21268417d104a2dd3efd0975604a31f64b46d203f4ea251854fe9fdfb56135ff", checked := Try.checked }
namespace Rows
def none {H : Type} : Left H := { results := [], args := [] }

/-- 'lathelaw28.SymbcParts': WHATEVER THE INPUT: true; the input reads as it did. -/
def symbcPartsSpec : ChangeSpec := { name := "symbcParts", fn := fun _ => fun
  | [d1, d2] => { results := [.lit (.bool true)], args := [d1, d2] }
  | _ => none }
def symbcPartsRow : OpenClaim := { program := "ytepagfkkjlbipaa", sum := "21268417d104a2dd3efd0975604a31f64b46d203f4ea251854fe9fdfb56135ff", func := "lathe/lathelaw28.SymbcParts", spec := "symbcParts", unfollowed := true, recurses := true, plainKeys := false, apart := false }
def SymbcPartsSaid : Prop := symbcPartsRow.holds Try.pinned (OpenSpec.ofChange symbcPartsSpec)

/-- ITS FALSE NEIGHBOUR: 'it returns false'. Refute it at one input. -/
def symbcPartsWrong : ChangeSpec := { name := "symbcParts", fn := fun _ => fun
  | [d1, d2] => { results := [.lit (.bool false)], args := [d1, d2] }
  | _ => none }
def SymbcPartsWrongFalsely : Prop := symbcPartsRow.holds Try.pinned (OpenSpec.ofChange symbcPartsWrong)

/-- 'lathelaw28.SymbcEntry': WHATEVER THE INPUT: true; the input reads as it did. -/
def symbcEntrySpec : ChangeSpec := { name := "symbcEntry", fn := fun _ => fun
  | [d1, d2, d3] => { results := [.lit (.bool true)], args := [d1, d2, d3] }
  | _ => none }
def symbcEntryRow : OpenClaim := { program := "ytepagfkkjlbipaa", sum := "21268417d104a2dd3efd0975604a31f64b46d203f4ea251854fe9fdfb56135ff", func := "lathe/lathelaw28.SymbcEntry", spec := "symbcEntry", unfollowed := true, recurses := true, plainKeys := false, apart := false }
def SymbcEntrySaid : Prop := symbcEntryRow.holds Try.pinned (OpenSpec.ofChange symbcEntrySpec)

/-- ITS FALSE NEIGHBOUR: 'it returns false'. Refute it at one input. -/
def symbcEntryWrong : ChangeSpec := { name := "symbcEntry", fn := fun _ => fun
  | [d1, d2, d3] => { results := [.lit (.bool false)], args := [d1, d2, d3] }
  | _ => none }
def SymbcEntryWrongFalsely : Prop := symbcEntryRow.holds Try.pinned (OpenSpec.ofChange symbcEntryWrong)

/-- 'lathelaw28.SymbcTwice': WHATEVER THE INPUT: true; the input reads as it did. -/
def symbcTwiceSpec : ChangeSpec := { name := "symbcTwice", fn := fun _ => fun
  | [d1, d2] => { results := [.lit (.bool true)], args := [d1, d2] }
  | _ => none }
def symbcTwiceRow : OpenClaim := { program := "ytepagfkkjlbipaa", sum := "21268417d104a2dd3efd0975604a31f64b46d203f4ea251854fe9fdfb56135ff", func := "lathe/lathelaw28.SymbcTwice", spec := "symbcTwice", unfollowed := true, recurses := true, plainKeys := false, apart := false }
def SymbcTwiceSaid : Prop := symbcTwiceRow.holds Try.pinned (OpenSpec.ofChange symbcTwiceSpec)

/-- ITS FALSE NEIGHBOUR: 'it returns false'. Refute it at one input. -/
def symbcTwiceWrong : ChangeSpec := { name := "symbcTwice", fn := fun _ => fun
  | [d1, d2] => { results := [.lit (.bool false)], args := [d1, d2] }
  | _ => none }
def SymbcTwiceWrongFalsely : Prop := symbcTwiceRow.holds Try.pinned (OpenSpec.ofChange symbcTwiceWrong)

/- THE SECOND FORM. 'bulk': how many values and letters a reading holds, each counted each time it is reached (what is shared counts as often as it is met; a slice's spare places count too). A statement '..UptoSaid' is the law's where the arguments, and the package variables that the reading takes, are together of bulk at most 1048576: NARROWER than '..Said'. Prove '..Said' where nothing that the law and all that it calls make is longer than what came in: it says more and counts as full. Else prove '..UptoSaid'. A law counts once. -/
mutual
def uptoBulk {H : Type} : DataW H → Nat
  | .lit (.string bytes) => bytes.length + 1
  | .lit _ => 1
  | .nil => 1
  | .ptr d => uptoBulk d + 1
  | .slice elems spare => uptoBulkAll elems + uptoBulkAll spare + 1
  | .agg parts => uptoBulkAll parts + 1
  | .iface _ d => uptoBulk d + 1
  | .map entries => uptoBulkEntries entries + 1
  | .held _ => 1
def uptoBulkAll {H : Type} : List (DataW H) → Nat
  | [] => 0
  | d :: r => uptoBulk d + uptoBulkAll r
def uptoBulkEntries {H : Type} : List (Lit × DataW H) → Nat
  | [] => 0
  | x :: r => uptoBulkEntry x + uptoBulkEntries r
def uptoBulkEntry {H : Type} : Lit × DataW H → Nat
  | (.string bytes, d) => bytes.length + uptoBulk d + 1
  | (_, d) => uptoBulk d + 1
 end
def uptoSmall : (H : Type) → List (DataW H) → Bool := fun _ ds => decide (uptoBulkAll ds ≤ 1048576)
def OpenSpec.upto (s : _root_.Go.ChangeSpec) : _root_.Go.OpenSpec := { _root_.Go.OpenSpec.ofChange s with cond := some uptoSmall }

/-- 'lathelaw28.SymbcParts', WHERE WHAT IT READS IS OF BULK AT MOST 1048576: true; the input reads as it did. -/
def symbcPartsUptoRow : OpenClaim := { program := "ytepagfkkjlbipaa", sum := "21268417d104a2dd3efd0975604a31f64b46d203f4ea251854fe9fdfb56135ff", func := "lathe/lathelaw28.SymbcParts", spec := "symbcParts", unfollowed := true, recurses := true, plainKeys := false, apart := false, narrowed := true }
def SymbcPartsUptoSaid : Prop := symbcPartsUptoRow.holds Try.pinned (OpenSpec.upto symbcPartsSpec)

/-- 'lathelaw28.SymbcEntry', WHERE WHAT IT READS IS OF BULK AT MOST 1048576: true; the input reads as it did. -/
def symbcEntryUptoRow : OpenClaim := { program := "ytepagfkkjlbipaa", sum := "21268417d104a2dd3efd0975604a31f64b46d203f4ea251854fe9fdfb56135ff", func := "lathe/lathelaw28.SymbcEntry", spec := "symbcEntry", unfollowed := true, recurses := true, plainKeys := false, apart := false, narrowed := true }
def SymbcEntryUptoSaid : Prop := symbcEntryUptoRow.holds Try.pinned (OpenSpec.upto symbcEntrySpec)

/-- 'lathelaw28.SymbcTwice', WHERE WHAT IT READS IS OF BULK AT MOST 1048576: true; the input reads as it did. -/
def symbcTwiceUptoRow : OpenClaim := { program := "ytepagfkkjlbipaa", sum := "21268417d104a2dd3efd0975604a31f64b46d203f4ea251854fe9fdfb56135ff", func := "lathe/lathelaw28.SymbcTwice", spec := "symbcTwice", unfollowed := true, recurses := true, plainKeys := false, apart := false, narrowed := true }
def SymbcTwiceUptoSaid : Prop := symbcTwiceUptoRow.holds Try.pinned (OpenSpec.upto symbcTwiceSpec)

end Rows
end Go.Proofs.Ytepagfkkjlbipaa
