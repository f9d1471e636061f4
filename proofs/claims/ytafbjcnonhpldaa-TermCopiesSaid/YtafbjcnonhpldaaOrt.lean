/-
  Maps written at an operation of a region that draws its order. Conditions: those written in each statement.
-/
import Derived.Test.YtafbjcnonhpldaaOrs
namespace Go.Proofs.Ytafbjcnonhpldaa
open Go.RowKit
set_option linter.unusedVariables false
set_option linter.unusedSimpArgs false
section
variable {P : Program} {ops : Array Oper} {Q : Exit → Act → World → Prop} {md : Region.Mode} {T S : World → Prop} {late : List Nat} {fuel : Nat} {listed : Array Bool} {a : Act} {w : World}
/-- A map's entry. -/
theorem StepE.entry (i : Nat) (d : Option Tmp) (t : TypeId) (m k : Operand) (mv kv v : Value) (w1 : World) (ho : opAt ops i = some (d, .mapEntry t m k)) (hw : wantAt ops i a = some true) (hm : a.eval m = mv) (hk : a.eval k = kv) (hr : (Instr.mapEntry t mv kv).run P w = .ok v w1)
    (hS : St T S late (listed.setIfInBounds i true) w1) (h : wpAnyE P md ops Q T S late fuel (listed.setIfInBounds i true) (a.put d v) w1) : StepE P md ops Q T S late fuel listed a w i :=
  StepE.run i d _ v w1 ho hw (fun o e => by
    unfold execOp
    simp only [e, hm, hk, Sem.run_bind, hr, Result.andThen_ok, Sem.run_pure]) hS h
theorem StepE.entrySet (i : Nat) (t : TypeId) (m k x : Operand) (mv kv v : Value) (w1 : World) (ho : opAt ops i = some (none, .entryStore t m k x)) (hw : wantAt ops i a = some true) (hm : a.eval m = mv) (hk : a.eval k = kv) (hx : a.eval x = v) (hr : (Instr.entryStore t mv kv v).run P w = .ok () w1)
    (hS : St T S late (listed.setIfInBounds i true) w1) (h : wpAnyE P md ops Q T S late fuel (listed.setIfInBounds i true) (a.put none undef) w1) : StepE P md ops Q T S late fuel listed a w i :=
  StepE.skip i _ w1 ho hw (fun o e => by
    unfold execOp
    simp only [e, hm, hk, hx, Sem.run_bind, hr, Result.andThen_ok, Sem.run_pure]) hS h
/-- A map written at a key. -/
theorem StepE.mapSet (i : Nat) (t : TypeId) (m k x : Operand) (mv kv v : Value) (w1 : World) (ho : opAt ops i = some (none, .mapUpdate t m k x)) (hw : wantAt ops i a = some true) (hm : a.eval m = mv) (hk : a.eval k = kv) (hx : a.eval x = v) (hr : (Instr.mapUpdate t mv kv v).run P w = .ok () w1)
    (hS : St T S late (listed.setIfInBounds i true) w1) (h : wpAnyE P md ops Q T S late fuel (listed.setIfInBounds i true) (a.put none undef) w1) : StepE P md ops Q T S late fuel listed a w i :=
  StepE.skip i _ w1 ho hw (fun o e => by
    unfold execOp
    simp only [e, hm, hk, hx, Sem.run_bind, hr, Result.andThen_ok, Sem.run_pure]) hS h
end
end Go.Proofs.Ytafbjcnonhpldaa
