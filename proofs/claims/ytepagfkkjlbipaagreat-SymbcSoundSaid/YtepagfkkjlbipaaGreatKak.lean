/-
  Parts of the proof of SymbcSound. Conditions: those written in each statement.
-/
import Derived.Test.YtepagfkkjlbipaaGreatIa
import Derived.Test.YtepagfkkjlbipaaGreatKaf
set_option linter.unusedVariables false
set_option linter.unusedSimpArgs false
set_option maxHeartbeats 64000000
set_option maxRecDepth 100000
namespace Go.Proofs.YtepagfkkjlbipaaGreat
open Tryz
section
open Go.RowKit Go.WideShapes Go.ChangeShapes Go.Deep
theorem cellsPg : prog.cellsOf 24 = 2 := by kernel_rfl
theorem cellsIt : prog.cellsOf 3 = 1 := by kernel_rfl
theorem cellsLi : prog.cellsOf 22 = 1 := by kernel_rfl
section
variable {H : Type} {enc : TypeId × Value → H} {w : World} {base b0 : Nat} {re : Reach} {spare : Nat → Bool} {held : Bool}
theorem prog_in {v : Value} {d : DataW H} {p : List MemPlace} (hv : Value.okWide prog w re b0 24 v) (h : DataW.Trod enc prog w base spare held 24 v d p) :
  ∃ c A n cap l, v = .agg #[.int .i64 c, .slice A n cap] ∧ InsAt w w.heap.size A n l ∧ n ≤ cap ∧ n < 9223372036854775808 ∧ I64 c := by
 obtain ⟨cs, rfl, hsz⟩ := okWide_struct underlying24 hv
 obtain ⟨l⟩ := cs
 match l, hsz.trans cellsPg with
 | [c0, c1], _ =>
  obtain ⟨fuel, hf⟩ := h
  obtain ⟨xs, n, _, hx, _, hlen, hg⟩ := DataW.trod_struct underlying24 hf
  have g0 := hg 0 _ rfl
  have g1 := hg 1 _ rfl
  match xs, hlen with
  | [y0, y1], _ =>
   simp only [cellsIt, cellsLi, Value.cells] at g0 g1
   obtain ⟨s, hs0, _, hw⟩ := DataW.trod_int (cs := [c0]) underlying3 g0
   injection hs0 with hs0 _
   subst hs0
   have hb := bounds_i64 hw
   rcases DataW.trod_slice (cs := [c1]) underlying22 g1 with ⟨hc, _⟩ | ⟨a, len, cap, _, _, _, _, hc, _⟩
   ·injection hc with hc _
    subst hc
    exact ⟨s, none, 0, 0, [], rfl, ⟨rfl, by simp, Reads.none_⟩, Nat.le_refl _, by omega, by unfold I64; omega⟩
   ·injection hc with hc _
    subst hc
    obtain ⟨rows, hr, hA, hR, hc, hm⟩ := open_flat (A := some a) (n := len) (c := cap) underlying22 flatI (by decide) g1
    obtain ⟨l, h1, h2, h3⟩ := rows_id rows hA
    rw [h3] at hR
    unfold maxLen at hm
    exact ⟨s, some a, len, cap, l, rfl, ⟨by omega, h2, hR⟩, hc, by omega, by unfold I64; omega⟩
end
end
section
open Go.RowKit Go.WideShapes Go.ChangeShapes Go.Deep
theorem flatUw : flatK prog 4 31 = some [some .u64] := by kernel_rfl
theorem rows_uw : ∀ rows : List (List Value), (∀ r ∈ rows, AllK [some .u64] r) → ∃ l : List Int, l.length = rows.length ∧ (∀ x ∈ l, U64 x) ∧ rows.flatten = l.map (Value.int .u64)
 | [], _ => ⟨[], rfl, by simp, rfl⟩
 | r :: t, h => by
  obtain ⟨l, h1, h2, h3⟩ := rows_uw t (fun q hq => h q (by simp [hq]))
  obtain ⟨hl, hk⟩ := h r (by simp)
  match r, hl with
  | [c0], _ =>
   obtain ⟨n0, rfl, w0⟩ := hk 0 _ _ rfl rfl
   have a0 := bounds_u64 w0
   refine ⟨n0 :: l, by simp [h1], fun y hy => ?_, by simp [h3]⟩
   rcases List.mem_cons.1 hy with rfl | hy
   ·unfold U64; omega
   ·exact h2 y hy
section
variable {H : Type} {enc : TypeId × Value → H} {w : World} {base b0 : Nat} {re : Reach} {spare : Nat → Bool} {held : Bool}
theorem words_in {v : Value} {d : DataW H} {p : List MemPlace} (hv : Value.okWide prog w re b0 26 v) (h : DataW.Trod enc prog w base spare held 26 v d p) :
  ∃ A n cap, ∃ l : List Int, v = .slice A n cap ∧ (l.length = n ∧ (∀ x ∈ l, U64 x) ∧ Reads w w.heap.size 1 A n (l.map (Value.int .u64))) ∧ n ≤ cap ∧ n < 9223372036854775808 := by
 obtain ⟨fuel, hf⟩ := h
 rcases DataW.trod_slice underlying26 hf with ⟨hc, _⟩ | ⟨a, len, cap, _, _, _, _, hc, _⟩
 ·have hv0 : v = .slice none 0 0 := by
   obtain ⟨A, n, c, rfl⟩ := okWide_slice underlying26 hv
   simp [Value.cells] at hc
   simp [hc]
  subst hv0
  exact ⟨none, 0, 0, [], rfl, ⟨rfl, by simp, Reads.none_⟩, Nat.le_refl _, by omega⟩
 ·obtain ⟨A, n, c, rfl⟩ := okWide_slice underlying26 hv
  have hf' : DataW.trod enc prog w base spare held fuel 26 [.slice A n c] = some (d, p) := by simpa [Value.cells] using hf
  obtain ⟨rows, hr, hA, hR, hc', hm⟩ := open_flat (A := A) (n := n) (c := c) underlying26 flatUw (by decide) hf'
  obtain ⟨l, h1, h2, h3⟩ := rows_uw rows hA
  rw [h3] at hR
  unfold maxLen at hm
  exact ⟨A, n, c, l, rfl, ⟨by omega, h2, hR⟩, hc', by omega⟩
end
end
end Go.Proofs.YtepagfkkjlbipaaGreat
