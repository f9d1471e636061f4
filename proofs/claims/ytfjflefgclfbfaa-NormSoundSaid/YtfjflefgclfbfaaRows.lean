/-
  No cell of these rows narrows 'for every input' (looked for: loops, veiled, ifaces, maps, wideKeys, modest, calm, conditions, laid).
  DERIVED. THE GIVEN ROWS OF THIS SEAT. 5 by the template 'for every input the law returns true; each argument reads behind the call as it read before'; 0 by the template 'total and deterministic' (their statements: YtfjflefgclfbfaaTotals.lean).
  GIVEN WITH THE SEED: the statements are not yours to turn. If you find one false, say at which input.
  Laid BY PROGRAM, IN A SANDBOX (cutbox-rows.mjs): the forced cells as the released guide's own fill.sh prints them over the translation 061716660bfc0e60… (all of the seat's roots in one cut). By AI agents, Wed Nov 11 2026. No macro, syntax, notation, axiom, sorry.
-/
import Derived.Test.YtfjflefgclfbfaaChecked
import GoSem.Claim
import GoSem.ClaimJoined
import GoSem.ClaimMapViews
import Derived.JoinedTies
import Derived.KernelRfl
namespace Go.Proofs.Ytfjflefgclfbfaa
/- THE CELL 'sum', in the pinned program and in every row, IS THE sha256 OF THE DUMP (.gsa) THAT YtfjflefgclfbfaaProg.lean LOADS. Nothing in Lean hashes anything: it is a label: what it is worth is what the hold of that sum in a sandbox is worth. -/
noncomputable def Try.pinned : Pinned := { name := "ytfjflefgclfbfaa", sum := "061716660bfc0e603d8256fba718aa7b0b9e30a213d75ea03bf570ab011bbd93", checked := Try.checked }
namespace Rows
def none {H : Type} : Left H := { results := [], args := [] }

/-- 'lathelaw27.NormSound': WHATEVER THE INPUT: true; the input reads as it did. -/
def normSoundSpec : ChangeSpec := { name := "normSound", fn := fun _ => fun
  | [d1, d2] => { results := [.lit (.bool true)], args := [d1, d2] }
  | _ => none }
def normSoundRow : OpenClaim := { program := "ytfjflefgclfbfaa", sum := "061716660bfc0e603d8256fba718aa7b0b9e30a213d75ea03bf570ab011bbd93", func := "lathe/lathelaw27.NormSound", spec := "normSound", unfollowed := true, recurses := true, plainKeys := false, apart := false }
def NormSoundSaid : Prop := normSoundRow.holds Try.pinned (OpenSpec.ofChange normSoundSpec)

/-- ITS FALSE NEIGHBOUR: 'it returns false'. Refute it at one input. -/
def normSoundWrong : ChangeSpec := { name := "normSound", fn := fun _ => fun
  | [d1, d2] => { results := [.lit (.bool false)], args := [d1, d2] }
  | _ => none }
def NormSoundWrongFalsely : Prop := normSoundRow.holds Try.pinned (OpenSpec.ofChange normSoundWrong)

/-- 'lathelaw27.NormSame': WHATEVER THE INPUT: true; the input reads as it did. -/
def normSameSpec : ChangeSpec := { name := "normSame", fn := fun _ => fun
  | [d] => { results := [.lit (.bool true)], args := [d] }
  | _ => none }
def normSameRow : OpenClaim := { program := "ytfjflefgclfbfaa", sum := "061716660bfc0e603d8256fba718aa7b0b9e30a213d75ea03bf570ab011bbd93", func := "lathe/lathelaw27.NormSame", spec := "normSame", unfollowed := true, recurses := true, plainKeys := false, apart := false }
def NormSameSaid : Prop := normSameRow.holds Try.pinned (OpenSpec.ofChange normSameSpec)

/-- ITS FALSE NEIGHBOUR: 'it returns false'. Refute it at one input. -/
def normSameWrong : ChangeSpec := { name := "normSame", fn := fun _ => fun
  | [d] => { results := [.lit (.bool false)], args := [d] }
  | _ => none }
def NormSameWrongFalsely : Prop := normSameRow.holds Try.pinned (OpenSpec.ofChange normSameWrong)

/-- 'lathelaw27.NormNil': WHATEVER THE INPUT: true; the input reads as it did. -/
def normNilSpec : ChangeSpec := { name := "normNil", fn := fun _ => fun
  | [d1, d2] => { results := [.lit (.bool true)], args := [d1, d2] }
  | _ => none }
def normNilRow : OpenClaim := { program := "ytfjflefgclfbfaa", sum := "061716660bfc0e603d8256fba718aa7b0b9e30a213d75ea03bf570ab011bbd93", func := "lathe/lathelaw27.NormNil", spec := "normNil", unfollowed := true, recurses := true, plainKeys := false, apart := false }
def NormNilSaid : Prop := normNilRow.holds Try.pinned (OpenSpec.ofChange normNilSpec)

/-- ITS FALSE NEIGHBOUR: 'it returns false'. Refute it at one input. -/
def normNilWrong : ChangeSpec := { name := "normNil", fn := fun _ => fun
  | [d1, d2] => { results := [.lit (.bool false)], args := [d1, d2] }
  | _ => none }
def NormNilWrongFalsely : Prop := normNilRow.holds Try.pinned (OpenSpec.ofChange normNilWrong)

/-- 'lathelaw27.NormZexts': WHATEVER THE INPUT: true; the input reads as it did. -/
def normZextsSpec : ChangeSpec := { name := "normZexts", fn := fun _ => fun
  | [d1, d2, d3] => { results := [.lit (.bool true)], args := [d1, d2, d3] }
  | _ => none }
def normZextsRow : OpenClaim := { program := "ytfjflefgclfbfaa", sum := "061716660bfc0e603d8256fba718aa7b0b9e30a213d75ea03bf570ab011bbd93", func := "lathe/lathelaw27.NormZexts", spec := "normZexts", unfollowed := true, recurses := true, plainKeys := false, apart := false }
def NormZextsSaid : Prop := normZextsRow.holds Try.pinned (OpenSpec.ofChange normZextsSpec)

/-- ITS FALSE NEIGHBOUR: 'it returns false'. Refute it at one input. -/
def normZextsWrong : ChangeSpec := { name := "normZexts", fn := fun _ => fun
  | [d1, d2, d3] => { results := [.lit (.bool false)], args := [d1, d2, d3] }
  | _ => none }
def NormZextsWrongFalsely : Prop := normZextsRow.holds Try.pinned (OpenSpec.ofChange normZextsWrong)

/-- 'lathelaw27.NormCopies': WHATEVER THE INPUT: true; the input reads as it did. -/
def normCopiesSpec : ChangeSpec := { name := "normCopies", fn := fun _ => fun
  | [d1, d2] => { results := [.lit (.bool true)], args := [d1, d2] }
  | _ => none }
def normCopiesRow : OpenClaim := { program := "ytfjflefgclfbfaa", sum := "061716660bfc0e603d8256fba718aa7b0b9e30a213d75ea03bf570ab011bbd93", func := "lathe/lathelaw27.NormCopies", spec := "normCopies", unfollowed := true, recurses := true, plainKeys := false, apart := false }
def NormCopiesSaid : Prop := normCopiesRow.holds Try.pinned (OpenSpec.ofChange normCopiesSpec)

/-- ITS FALSE NEIGHBOUR: 'it returns false'. Refute it at one input. -/
def normCopiesWrong : ChangeSpec := { name := "normCopies", fn := fun _ => fun
  | [d1, d2] => { results := [.lit (.bool false)], args := [d1, d2] }
  | _ => none }
def NormCopiesWrongFalsely : Prop := normCopiesRow.holds Try.pinned (OpenSpec.ofChange normCopiesWrong)

/- THE SECOND FORM. 'bulk': how many values and letters a reading holds, each counted each time it is reached (what is shared counts as often as it is met; a slice's spare places count too). A statement '..UptoSaid' is the law's where the arguments, and the package variables that the reading takes, are together of bulk at most 1048576: NARROWER than '..Said'. Prove '..Said' where nothing that the law and all that it calls make is longer than what came in: it says more and counts as full. Else prove '..UptoSaid'. A law counts once. -/
mutual
def uptoBulk {H : Type} : DataW H → Nat
  | .lit (.string bytes) => bytes.length + 1
  | .lit _ => 1
  | .nil => 1
  | .ptr d => uptoBulk d + 1
  | .slice elems spare => uptoBulkAll elems + uptoBulkAll spare + 1
  | .agg parts => uptoBulkAll parts + 1
  | .iface _ d => uptoBulk d + 1
  | .map entries => uptoBulkEntries entries + 1
  | .held _ => 1
def uptoBulkAll {H : Type} : List (DataW H) → Nat
  | [] => 0
  | d :: r => uptoBulk d + uptoBulkAll r
def uptoBulkEntries {H : Type} : List (Lit × DataW H) → Nat
  | [] => 0
  | x :: r => uptoBulkEntry x + uptoBulkEntries r
def uptoBulkEntry {H : Type} : Lit × DataW H → Nat
  | (.string bytes, d) => bytes.length + uptoBulk d + 1
  | (_, d) => uptoBulk d + 1
 end
def uptoSmall : (H : Type) → List (DataW H) → Bool := fun _ ds => decide (uptoBulkAll ds ≤ 1048576)
def OpenSpec.upto (s : _root_.Go.ChangeSpec) : _root_.Go.OpenSpec := { _root_.Go.OpenSpec.ofChange s with cond := some uptoSmall }

/-- 'lathelaw27.NormSound', WHERE WHAT IT READS IS OF BULK AT MOST 1048576: true; the input reads as it did. -/
def normSoundUptoRow : OpenClaim := { program := "ytfjflefgclfbfaa", sum := "061716660bfc0e603d8256fba718aa7b0b9e30a213d75ea03bf570ab011bbd93", func := "lathe/lathelaw27.NormSound", spec := "normSound", unfollowed := true, recurses := true, plainKeys := false, apart := false, narrowed := true }
def NormSoundUptoSaid : Prop := normSoundUptoRow.holds Try.pinned (OpenSpec.upto normSoundSpec)

/-- 'lathelaw27.NormSame', WHERE WHAT IT READS IS OF BULK AT MOST 1048576: true; the input reads as it did. -/
def normSameUptoRow : OpenClaim := { program := "ytfjflefgclfbfaa", sum := "061716660bfc0e603d8256fba718aa7b0b9e30a213d75ea03bf570ab011bbd93", func := "lathe/lathelaw27.NormSame", spec := "normSame", unfollowed := true, recurses := true, plainKeys := false, apart := false, narrowed := true }
def NormSameUptoSaid : Prop := normSameUptoRow.holds Try.pinned (OpenSpec.upto normSameSpec)

/-- 'lathelaw27.NormNil', WHERE WHAT IT READS IS OF BULK AT MOST 1048576: true; the input reads as it did. -/
def normNilUptoRow : OpenClaim := { program := "ytfjflefgclfbfaa", sum := "061716660bfc0e603d8256fba718aa7b0b9e30a213d75ea03bf570ab011bbd93", func := "lathe/lathelaw27.NormNil", spec := "normNil", unfollowed := true, recurses := true, plainKeys := false, apart := false, narrowed := true }
def NormNilUptoSaid : Prop := normNilUptoRow.holds Try.pinned (OpenSpec.upto normNilSpec)

/-- 'lathelaw27.NormZexts', WHERE WHAT IT READS IS OF BULK AT MOST 1048576: true; the input reads as it did. -/
def normZextsUptoRow : OpenClaim := { program := "ytfjflefgclfbfaa", sum := "061716660bfc0e603d8256fba718aa7b0b9e30a213d75ea03bf570ab011bbd93", func := "lathe/lathelaw27.NormZexts", spec := "normZexts", unfollowed := true, recurses := true, plainKeys := false, apart := false, narrowed := true }
def NormZextsUptoSaid : Prop := normZextsUptoRow.holds Try.pinned (OpenSpec.upto normZextsSpec)

/-- 'lathelaw27.NormCopies', WHERE WHAT IT READS IS OF BULK AT MOST 1048576: true; the input reads as it did. -/
def normCopiesUptoRow : OpenClaim := { program := "ytfjflefgclfbfaa", sum := "061716660bfc0e603d8256fba718aa7b0b9e30a213d75ea03bf570ab011bbd93", func := "lathe/lathelaw27.NormCopies", spec := "normCopies", unfollowed := true, recurses := true, plainKeys := false, apart := false, narrowed := true }
def NormCopiesUptoSaid : Prop := normCopiesUptoRow.holds Try.pinned (OpenSpec.upto normCopiesSpec)

end Rows
end Go.Proofs.Ytfjflefgclfbfaa
