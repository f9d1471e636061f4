/-
  More laws on aggregates stored: a variable just made. Conditions: those written in each statement.
-/
import Derived.Test.YtafbjcnonhpldaaMid
namespace Go.Proofs.Ytafbjcnonhpldaa
open Go.RowKit
set_option linter.unusedVariables false
set_option linter.unusedSimpArgs false
section
variable {P : Program}
/-- .. all of a variable just made, the world under a name. -/
theorem wpList_store_new {ops : Array Oper} {rest : List Oper} {o : Oper} {a : Act} {w : World} {Q : Exit → Act → World → Prop} (hgd : o.guard = none) (ty : TypeId) (x y : Operand) (ho : o.op = .store ty x y)
    (cs : Array Value) (vs : List Value) (v : Value) (hx : a.eval x = .pointer (some ⟨w.heap.size, 0, none⟩)) (hy : a.eval y = v) (hv : v.cells = vs.toArray) (hi : (P.info? ty).map (·.size) = some vs.length)
    (hl : cs.size = vs.length) (h1 : ∀ u ∈ vs, u.oneCell' = true)
    (h : ∀ w', Blk w' w.heap.size ty vs.toArray → Below w.heap.size w w' → w'.heap.size = w.heap.size + 1 → wpList P ops Q rest (a.put o.dst undef) w') : wpList P ops Q (o :: rest) a (w.alloc (.cells cs ty)) := by
  refine wpList_store_at hgd ty x y ho w.heap.size 0 ty cs.toList vs v (by simpa using Blk.new w ty cs) hx hy hv hi (by simp [hl]) h1 fun w' hB hg hs => ?_
  have he : overC cs.toList 0 vs = vs := by
    unfold overC
    rw [List.take_zero, List.nil_append, Nat.zero_add, List.drop_of_length_le (by simp [hl]), List.append_nil]
  rw [he] at hB
  exact h w' hB (((Below.refl _ _).alloc (Nat.le_refl _) _).grown hg (le_alloc _ (Nat.le_refl _)) (fun g e => by injection e with e; omega)) (by simpa using hs)
end
end Go.Proofs.Ytafbjcnonhpldaa
