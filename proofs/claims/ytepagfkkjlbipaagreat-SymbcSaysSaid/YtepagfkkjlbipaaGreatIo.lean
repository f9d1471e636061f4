/-
  Instructions and programs that came in, opened. Conditions: those written in each statement.
-/
import Derived.Test.YtepagfkkjlbipaaGreatIa
import Derived.Test.YtepagfkkjlbipaaGreatKab
namespace Go.Proofs.YtepagfkkjlbipaaGreat
open Go.RowKit Go.WideShapes Go.ChangeShapes Go.Deep
set_option linter.unusedVariables false
set_option maxRecDepth 100000
set_option linter.unusedSimpArgs false
theorem cellsPg : Tryz.prog.cellsOf 24 = 2 := by kernel_rfl
theorem cellsIt : Tryz.prog.cellsOf 3 = 1 := by kernel_rfl
theorem cellsLi : Tryz.prog.cellsOf 22 = 1 := by kernel_rfl
section
variable {H : Type} {enc : TypeId × Value → H} {w : World} {base b0 : Nat} {re : Reach} {spare : Nat → Bool} {held : Bool}
theorem prog_in {v : Value} {d : DataW H} {p : List MemPlace} (hv : Value.okWide Tryz.prog w re b0 24 v) (h : DataW.Trod enc Tryz.prog w base spare held 24 v d p) :
  ∃ c A n cap l, v = .agg #[.int .i64 c, .slice A n cap] ∧ InsAt w w.heap.size A n l ∧ n ≤ cap ∧ n < 9223372036854775808 ∧ I64 c := by
 obtain ⟨cs, rfl, hsz⟩ := okWide_struct Tryz.underlying24 hv
 obtain ⟨l⟩ := cs
 match l, hsz.trans cellsPg with
 | [c0, c1], _ =>
  obtain ⟨fuel, hf⟩ := h
  obtain ⟨xs, n, _, hx, _, hlen, hg⟩ := DataW.trod_struct Tryz.underlying24 hf
  have g0 := hg 0 _ rfl
  have g1 := hg 1 _ rfl
  match xs, hlen with
  | [y0, y1], _ =>
   simp only [cellsIt, cellsLi, Value.cells] at g0 g1
   obtain ⟨s, hs0, _, hw⟩ := DataW.trod_int (cs := [c0]) Tryz.underlying3 g0
   injection hs0 with hs0 _
   subst hs0
   have hb := bounds_i64 hw
   rcases DataW.trod_slice (cs := [c1]) Tryz.underlying22 g1 with ⟨hc, _⟩ | ⟨a, len, cap, _, _, _, _, hc, _⟩
   ·injection hc with hc _
    subst hc
    exact ⟨s, none, 0, 0, [], rfl, ⟨rfl, by simp, Reads.none_⟩, Nat.le_refl _, by omega, by unfold I64; omega⟩
   ·injection hc with hc _
    subst hc
    obtain ⟨rows, hr, hA, hR, hc, hm⟩ := open_flat (A := some a) (n := len) (c := cap) Tryz.underlying22 flatI (by decide) g1
    obtain ⟨l, h1, h2, h3⟩ := rows_id rows hA
    rw [h3] at hR
    unfold maxLen at hm
    exact ⟨s, some a, len, cap, l, rfl, ⟨by omega, h2, hR⟩, hc, by omega, by unfold I64; omega⟩
end
end Go.Proofs.YtepagfkkjlbipaaGreat
