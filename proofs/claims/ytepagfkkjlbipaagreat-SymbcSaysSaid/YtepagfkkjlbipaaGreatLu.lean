/-
  What symbc.Run answers: its length, its numbers, the cells that it lies in. Conditions: those written in each statement.
-/
import Derived.Test.YtepagfkkjlbipaaGreatEl
import Derived.Test.YtepagfkkjlbipaaGreatKaw
namespace Go.Proofs.YtepagfkkjlbipaaGreat
open Go.RowKit
set_option linter.unusedVariables false
set_option linter.unusedSimpArgs false
set_option maxRecDepth 100000
/-- An event of each, as they lie. -/
def TF (b8 b13 : Nat) (e1 e2 : Value) (a1 a2 : Addr) (x : EvD) (v1 v2 : Value) (w : World) : Prop := w.cell? ⟨b8, 11, none⟩ = some e1 ∧ w.cell? ⟨b13, 11, none⟩ = some e2 ∧ (∀ j u, (evC (x, v1))[j]? = some u → w.cell? (a1.add j) = some u) ∧ (∀ j u, (evC (x, v2))[j]? = some u → w.cell? (a2.add j) = some u) ∧ NxAt w w.heap.size v1 x.args ∧ NxAt w w.heap.size v2 x.args ∧ b8 < w.heap.size ∧ b13 < w.heap.size ∧ a1.block < w.heap.size ∧ a2.block < w.heap.size
theorem TF.step {b8 b13 : Nat} {e1 e2 : Value} {a1 a2 : Addr} {x : EvD} {v1 v2 : Value} {w w' : World} (h : TF b8 b13 e1 e2 a1 a2 x v1 v2 w) (hb : Below w.heap.size w w') : TF b8 b13 e1 e2 a1 a2 x v1 v2 w' := by
 obtain ⟨h1, h2, h3, h4, h5, h6, h7, h8, h9, h10⟩ := h
 have hz := hb.size
 have hw : ∀ {v l}, NxAt w w.heap.size v l → NxAt w' w'.heap.size v l := fun q => (q.below hb).more hz
 exact ⟨(hb.cell (by exact h7)).trans h1, (hb.cell (by exact h8)).trans h2, fun j u hu => (hb.cell (by rw [block_of_add]; exact h9)).trans (h3 j u hu), fun j u hu => (hb.cell (by rw [block_of_add]; exact h10)).trans (h4 j u hu), hw h5, hw h6, by omega, by omega, by omega, by omega⟩
end Go.Proofs.YtepagfkkjlbipaaGreat
