/-
  norm in plain words: what its functions make of a pool. Conditions: those written in each statement.
-/
import Derived.Test.YtfjflefgclfbfaaGreatKb
namespace Go.Proofs.YtfjflefgclfbfaaGreat
set_option linter.unusedVariables false
set_option linter.unusedSimpArgs false
/-- A pool, a number, an error. -/
abbrev RS := PS × Int × Int
def putR (p : PS) (t : TD) : RS := (putP p t, (putN p t).1, (putN p t).2)
/-- The term at a number; one of noughts, if there is none. -/
def atP (T : List TD) (n : Int) : TD := if hasB T n = true then T.getD n.toNat zeroT else zeroT
def constT (n : Int) : TD := ⟨0, 0, 0, n, 0, 0, 0⟩
def cutV (w v : Int) : Int := if w = 8 then v % 256 else if w = 16 then v % 65536 else if w = 32 then v % 4294967296 else v
def longB (w : Int) : Bool := w == 32 || w == 64
def narrowP (T : List TD) (n w : Int) : Bool :=
  let t := atP T n
  if w = 64 ∨ t.kind = 4 then true
  else if t.kind = 0 then decide (t.n = cutV w t.n)
  else if t.kind = 3 ∨ t.kind = 1 then decide (t.w ≤ w)
  else decide (t.kind = 2 ∧ t.w = 32 ∧ w = 32)
def zextF : Nat → PS → Int → Int → Option RS
  | 0, _, _, _ => none
  | f + 1, p, w, a =>
    let t := atP p.T a
    if w = 64 then some (p, a, 0)
    else if t.kind = 0 then some (putR p (constT (cutV w t.n)))
    else if narrowP p.T a w = true then some (p, a, 0)
    else if t.kind = 3 then zextF f p w t.a
    else some (putR p ⟨3, 0, w, 0, a, 0, 0⟩)
def operandP (p : PS) (w a : Int) : RS :=
  let t := atP p.T a
  if t.kind = 0 then putR p (constT (cutV w t.n))
  else if w = 32 ∧ t.kind = 3 ∧ t.w = 32 then (p, t.a, 0)
  else (p, a, 0)
def bothP (p : PS) (w a b : Int) : PS × Int × Int × Int :=
  let r := operandP p w a
  if r.2.2 = 0 then let s := operandP r.1 w b; (s.1, r.2.1, s.2.1, s.2.2) else (r.1, r.2.1, 0, r.2.2)
end Go.Proofs.YtfjflefgclfbfaaGreat
