/-
  Instructions and programs that came in, opened. Conditions: those written in each statement.
  Rows of instructions and of words that came in, opened. Conditions: those written in each statement.
-/
import Derived.Test.YtepagfkkjlbipaaKan
import Derived.Test.YtepagfkkjlbipaaKac
section
namespace Go.Proofs.Ytepagfkkjlbipaa
open Go.RowKit Go.WideShapes Go.ChangeShapes Go.Deep
set_option linter.unusedVariables false
set_option maxRecDepth 100000
set_option linter.unusedSimpArgs false
section
variable {H : Type} {enc : TypeId × Value → H} {w : World} {base b0 : Nat} {re : Reach} {spare : Nat → Bool} {held : Bool}
end
end Go.Proofs.Ytepagfkkjlbipaa
end
section
namespace Go.Proofs.Ytepagfkkjlbipaa
open Go.RowKit Go.WideShapes Go.ChangeShapes Go.Deep
set_option linter.unusedVariables false
set_option maxRecDepth 100000
set_option linter.unusedSimpArgs false
section
variable {H : Type} {enc : TypeId × Value → H} {w : World} {base b0 : Nat} {re : Reach} {spare : Nat → Bool} {held : Bool}
theorem instrs_in {v : Value} {d : DataW H} {p : List MemPlace} (hv : Value.okWide Try.prog w re b0 22 v) (h : DataW.Trod enc Try.prog w base spare held 22 v d p) :
    ∃ A n cap, ∃ l : List ID, v = .slice A n cap ∧ InsAt w w.heap.size A n l ∧ n ≤ cap ∧ n < 9223372036854775808 := by
  obtain ⟨fuel, hf⟩ := h
  rcases DataW.trod_slice Try.underlying22 hf with ⟨hc, _⟩ | ⟨a, len, cap, _, _, _, _, hc, _⟩
  · have hv0 : v = .slice none 0 0 := by
      obtain ⟨A, n, c, rfl⟩ := okWide_slice Try.underlying22 hv
      simp [Value.cells] at hc
      simp [hc]
    subst hv0
    exact ⟨none, 0, 0, [], rfl, ⟨rfl, by simp, Reads.none_⟩, Nat.le_refl _, by omega⟩
  · obtain ⟨A, n, c, rfl⟩ := okWide_slice Try.underlying22 hv
    have hf' : DataW.trod enc Try.prog w base spare held fuel 22 [.slice A n c] = some (d, p) := by simpa [Value.cells] using hf
    obtain ⟨rows, hr, hA, hR, hc', hm⟩ := open_flat (A := A) (n := n) (c := c) Try.underlying22 flatI (by decide) hf'
    obtain ⟨l, h1, h2, h3⟩ := rows_id rows hA
    rw [h3] at hR
    unfold maxLen at hm
    exact ⟨A, n, c, l, rfl, ⟨by omega, h2, hR⟩, hc', by omega⟩
end
end Go.Proofs.Ytepagfkkjlbipaa
end
