/-
  Arguments of a law opened: a slice of bytes. Conditions: those written in each statement.
-/
import Derived.Test.YtopanomcbkhbnaaKit
import Derived.ChangeOld
namespace Go.Proofs.Ytopanomcbkhbnaa
open Go.RowKit Go.WideShapes Go.ChangeShapes
section
variable {H : Type} {enc : TypeId × Value → H} {P : Program} {w : World} {base : Nat} {spare : Nat → Bool} {held : Bool}
/-- A slice of bytes that came in. -/
theorem bytes_in {t e : TypeId} {fuel : Nat} {A : Option Addr} {n c : Nat} {x : DataW H × List MemPlace} (ht : P.underlying t = some (.slice e)) (he : P.underlying e = some (.int .u8)) (hC : P.cellsOf e = 1)
    (h : DataW.trod enc P w base spare held fuel t (Value.slice A n c).cells.toList = some x) : ∃ l, Reads w w.heap.size 1 A n (l.map (Value.int .u8)) ∧ IsBytes l ∧ n ≤ c := by
  rcases open_ints ht he hC h with ⟨hcs, _⟩ | ⟨a, l, cp, zs, hcs, _, hl, hm, hz, _, hcell, hwz⟩
  · simp [Value.cells] at hcs
    obtain ⟨rfl, rfl, rfl⟩ := hcs
    exact ⟨[], Reads.none_, (fun x hx => by simp at hx), Nat.le_refl _⟩
  · simp [Value.cells] at hcs
    obtain ⟨rfl, rfl, rfl⟩ := hcs
    have hlz : n ≤ zs.length := by rw [hz]; split <;> omega
    refine ⟨zs.take n, ⟨by simp; omega, fun h0 => ?_⟩, fun x hx => by have := bounds_u8 (hwz x (List.mem_of_mem_take hx)); omega, hl⟩
    have h1 := hcell 0 (by omega)
    refine ⟨a, rfl, ?_, fun j u hj => ?_⟩
    · have := World.block_lt_of_cell? w _ h1
      rwa [block_of_add] at this
    · have hjn : j < n := by
        rcases Nat.lt_or_ge j n with h2 | h2
        · exact h2
        · rw [List.getElem?_eq_none (by simp; omega)] at hj; cases hj
      rw [hcell j (by omega)]
      have hjz : j < zs.length := by omega
      simp [hjn, hjz] at hj
      rw [← hj]
      simp [hjz]
end
end Go.Proofs.Ytopanomcbkhbnaa
