/-
  Moves and registers' values that came in, opened. Conditions: those written in each statement.
-/
import Derived.Test.YtdnibhcpbdjhlaaMu
import Derived.Test.YtdnibhcpbdjhlaaFlat
namespace Go.Proofs.Ytdnibhcpbdjhlaa
open Go.RowKit Go.WideShapes Go.ChangeShapes Go.Deep
set_option linter.unusedVariables false
set_option linter.unusedSimpArgs false
theorem flatR : flatK Try.prog 4 25 = some (List.replicate 16 (some .u64)) := by kernel_rfl
theorem okWide_array {P : Program} {w : World} {r : Reach} {base : Nat} {t : TypeId} {n : Nat} {e : TypeId} {v : Value} (ht : P.underlying t = some (.array n e)) (h : Value.okWide P w r base t v) : ∃ cs, v = .agg cs ∧ cs.size = P.cellsOf t := by
  simp only [Value.okWide, ht] at h
  obtain ⟨cs, h1, h2, _⟩ := h
  exact ⟨cs, h1, h2⟩
section
variable {H : Type} {enc : TypeId × Value → H} {w : World} {base b0 : Nat} {re : Reach} {spare : Nat → Bool} {held : Bool}
theorem mvs_in {v : Value} {d : DataW H} {p : List MemPlace} (hv : Value.okWide Try.prog w re b0 22 v) (h : DataW.Trod enc Try.prog w base spare held 22 v d p) :
    ∃ A n cap l, v = .slice A n cap ∧ MvsAt w w.heap.size A n l ∧ n ≤ cap ∧ n < 9223372036854775808 := by
  obtain ⟨fuel, hf⟩ := h
  rcases DataW.trod_slice Try.underlying22 hf with ⟨hc, _⟩ | ⟨a, len, cap, _, _, _, _, hc, _⟩
  · have hv0 : v = .slice none 0 0 := by
      obtain ⟨A, n, c, rfl⟩ := okWide_slice Try.underlying22 hv
      simp [Value.cells] at hc
      simp [hc]
    subst hv0
    exact ⟨none, 0, 0, [], rfl, ⟨rfl, by simp, Reads.none_⟩, Nat.le_refl _, by omega⟩
  · obtain ⟨A, n, c, rfl⟩ := okWide_slice Try.underlying22 hv
    have hf' : DataW.trod enc Try.prog w base spare held fuel 22 [.slice A n c] = some (d, p) := by simpa [Value.cells] using hf
    obtain ⟨rows, hr, hA, hR, hc', hm⟩ := open_flat (A := A) (n := n) (c := c) Try.underlying22 flatM (by decide) hf'
    obtain ⟨l, h1, h2, h3⟩ := rows_mv rows hA
    rw [h3] at hR
    unfold maxLen at hm
    exact ⟨A, n, c, l, rfl, ⟨by omega, h2, hR⟩, hc', by omega⟩
theorem regs_in {v : Value} {d : DataW H} {p : List MemPlace} (hv : Value.okWide Try.prog w re b0 25 v) (h : DataW.Trod enc Try.prog w base spare held 25 v d p) : ∃ R : List Int, v = .agg (uC R).toArray ∧ R.length = 16 ∧ ∀ x ∈ R, U64 x := by
  obtain ⟨cs, rfl, hsz⟩ := okWide_array Try.underlying25 hv
  obtain ⟨fuel, hf⟩ := h
  have hA := trod_flat 4 _ (List.replicate 16 (some .u64)) _ _ _ flatR hf
  obtain ⟨hl, hk⟩ := hA
  have hl16 : cs.toList.length = 16 := by simpa [Value.cells] using hl
  have hall : ∀ i (hi : i < cs.toList.length), ∃ n, cs.toList[i] = .int .u64 n ∧ U64 n := by
    intro i hi
    obtain ⟨n, e, hw⟩ := hk i (some .u64) cs.toList[i] (by rw [List.getElem?_replicate, if_pos (by omega)]) (by have := List.getElem?_eq_getElem hi; simpa only [Value.cells] using this)
    exact ⟨n, e, by have := bounds_u64 hw; unfold U64; omega⟩
  refine ⟨cs.toList.map (fun u => match u with | .int _ n => n | _ => 0), ?_, by rw [List.length_map, hl16], ?_⟩
  · have : uC (cs.toList.map (fun u => match u with | .int _ n => n | _ => 0)) = cs.toList := by
      unfold uC
      rw [List.map_map]
      refine List.ext_getElem (by simp) fun i h1 h2 => ?_
      rw [List.getElem_map]
      obtain ⟨n, e, _⟩ := hall i h2
      simp only [Function.comp_apply]
      rw [e]
    rw [this]
  · intro x hx
    obtain ⟨u, hu, rfl⟩ := List.mem_map.1 hx
    obtain ⟨i, hi, rfl⟩ := List.getElem_of_mem hu
    obtain ⟨n, e, hn⟩ := hall i hi
    rw [e]
    exact hn
end
end Go.Proofs.Ytdnibhcpbdjhlaa
