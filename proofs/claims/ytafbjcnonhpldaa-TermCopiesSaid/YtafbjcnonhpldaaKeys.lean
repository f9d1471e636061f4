/-
  Structs and arrays of integers as keys of a map. Conditions: those written in each statement.
-/
import Derived.Test.YtafbjcnonhpldaaMap
namespace Go.Proofs.Ytafbjcnonhpldaa
open Go.RowKit
set_option linter.unusedVariables false
set_option linter.unusedSimpArgs false
theorem mapM_some {α β : Type} (g : α → Option β) : ∀ l : List α, (∀ x ∈ l, ∃ y, g x = some y) → ∃ ys, l.mapM g = some ys
  | [], _ => ⟨[], rfl⟩
  | x :: r, h => by
    obtain ⟨y, hy⟩ := h x (by simp)
    obtain ⟨ys, hys⟩ := mapM_some g r (fun z hz => h z (by simp [hz]))
    exact ⟨y :: ys, by simp [List.mapM_cons, hy, hys]⟩
/-- One cell that is an integer. -/
theorem keyLits_one {P : Program} {m : Nat} {e : TypeId} {q : IntKind} {n : Int} {cs : List Value} {i : Nat} (he : P.underlying e = some (.int q)) (hi : cs[i]? = some (.int q n)) (hw : (Lit.int q n).wf = true) :
    ∃ l, P.keyLits (m + 1) e ((cs.drop i).take 1) = some l := by
  have h1 : (cs.drop i).take 1 = [.int q n] := by
    have hl : i < cs.length := (List.getElem?_eq_some_iff.1 hi).1
    rw [List.drop_eq_getElem_cons hl]
    rw [List.getElem?_eq_getElem hl] at hi
    simp [Option.some.inj hi]
  rw [h1]
  exact ⟨[.int q n], by simp [Program.keyLits, he, hw]⟩
theorem keyOf_struct {P : Program} {k : TypeId} {fs : Array Field} {cs : List Value} (hu : P.underlying k = some (.struct fs)) (hk : P.keyType k = true) (hc : P.cellsOf k = cs.length) (hn : fs.all (·.name != "_") = true)
    (hs : Nat.ble 1 P.types.size = true) (hf : ∀ f ∈ fs.toList, ∃ q n, P.underlying f.type = some (.int q) ∧ P.cellsOf f.type = 1 ∧ cs[f.offset]? = some (.int q n) ∧ (Lit.int q n).wf = true) : ∃ l, keyOf P k (.agg cs.toArray) = some l := by
  obtain ⟨m, hm⟩ : ∃ m, P.types.size = m + 1 := ⟨P.types.size - 1, by have := Nat.le_of_ble_eq_true hs; omega⟩
  obtain ⟨ys, hys⟩ := mapM_some (fun f : Field => P.keyLits (m + 1) f.type ((cs.drop f.offset).take (P.cellsOf f.type))) fs.toList (fun f hfm => by
    obtain ⟨q, n, h1, h2, h3, h4⟩ := hf f hfm
    rw [h2]
    exact keyLits_one h1 h3 h4)
  have hl : P.keyLits (P.types.size + 1) k cs = some ys.flatten := by
    rw [hm]
    unfold Program.keyLits
    simp only [hu, hc, hn, and_self, if_true, hys, Option.map_some]
  have hform : (Value.agg cs.toArray).formed P k = true := by simp [Value.formed, hu, hc]
  refine ⟨.string (keyBytes ys.flatten), ?_⟩
  unfold keyOf
  rw [hu]
  simp only [hk, hform, Bool.and_self, if_true, Value.cells, hl, Option.map_some]
theorem keyOf_array {P : Program} {k e : TypeId} {n : Nat} {q : IntKind} {cs : List Value} (hu : P.underlying k = some (.array n e)) (he : P.underlying e = some (.int q)) (hk : P.keyType k = true) (hc : P.cellsOf k = cs.length) (hc1 : P.cellsOf e = 1)
    (hs : Nat.ble 1 P.types.size = true) (hf : ∀ i, i < n → ∃ x, cs[i]? = some (.int q x) ∧ (Lit.int q x).wf = true) : ∃ l, keyOf P k (.agg cs.toArray) = some l := by
  obtain ⟨m, hm⟩ : ∃ m, P.types.size = m + 1 := ⟨P.types.size - 1, by have := Nat.le_of_ble_eq_true hs; omega⟩
  obtain ⟨ys, hys⟩ := mapM_some (fun i : Nat => P.keyLits (m + 1) e ((cs.drop (i * P.cellsOf e)).take (P.cellsOf e))) (List.range n) (fun i hi => by
    obtain ⟨x, h3, h4⟩ := hf i (List.mem_range.1 hi)
    rw [hc1, Nat.mul_one]
    exact keyLits_one he h3 h4)
  have hl : P.keyLits (P.types.size + 1) k cs = some ys.flatten := by
    rw [hm]
    unfold Program.keyLits
    simp only [hu, hc, if_true, hys, Option.map_some]
  have hform : (Value.agg cs.toArray).formed P k = true := by simp [Value.formed, hu, hc]
  refine ⟨.string (keyBytes ys.flatten), ?_⟩
  unfold keyOf
  rw [hu]
  simp only [hk, hform, Bool.and_self, if_true, Value.cells, hl, Option.map_some]
end Go.Proofs.Ytafbjcnonhpldaa
