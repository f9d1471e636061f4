/-
  What the laws of making terms share: how terms are made, words, as they came in. Conditions: those written in each statement.
-/
import Derived.Test.YtfjflefgclfbfaaGreatUd
import Derived.Test.YtfjflefgclfbfaaGreatUe
import Derived.Test.YtfjflefgclfbfaaGreatKa
namespace Go.Proofs.YtfjflefgclfbfaaGreat
open Go.RowKit Go.WideShapes Go.ChangeShapes Go.Deep
set_option linter.unusedVariables false
set_option linter.unusedSimpArgs false
set_option maxRecDepth 100000
theorem reads_up {w : World} {B B' size n : Nat} {A : Option Addr} {xs : List Value} (h : Reads w B size A n xs) (hB : B ≤ B') : Reads w B' size A n xs :=
  ⟨h.1, fun q => by obtain ⟨ad, e, hb, hc⟩ := h.2 q; exact ⟨ad, e, by omega, hc⟩⟩
def makeKs : List (Option IntKind) := [some .i64, some .i8, some .i8, some .i64, some .i64, some .i64, some .u64]
theorem flatMk : flatK Tryz.prog 4 33 = some makeKs := by kernel_rfl
theorem flatUw : flatK Tryz.prog 4 31 = some [some .u64] := by kernel_rfl
theorem row_mk {r : List Value} (h : AllK makeKs r) : ∃ x : MD, x.wf ∧ r = x.cells := by
  obtain ⟨hl, hk⟩ := h
  match r, hl with
  | [c0, c1, c2, c3, c4, c5, c6], _ =>
    obtain ⟨n0, rfl, w0⟩ := hk 0 _ _ rfl rfl
    obtain ⟨n1, rfl, w1⟩ := hk 1 _ _ rfl rfl
    obtain ⟨n2, rfl, w2⟩ := hk 2 _ _ rfl rfl
    obtain ⟨n3, rfl, w3⟩ := hk 3 _ _ rfl rfl
    obtain ⟨n4, rfl, w4⟩ := hk 4 _ _ rfl rfl
    obtain ⟨n5, rfl, w5⟩ := hk 5 _ _ rfl rfl
    obtain ⟨n6, rfl, w6⟩ := hk 6 _ _ rfl rfl
    have a0 := bounds_i64 w0; have a1 := bounds_i8 w1; have a2 := bounds_i8 w2; have a3 := bounds_i64 w3; have a4 := bounds_i64 w4; have a5 := bounds_i64 w5; have a6 := bounds_u64 w6
    refine ⟨⟨n0, n1, n2, n3, n4, n5, n6⟩, ?_, rfl⟩
    unfold MD.wf I8 I64 U64
    dsimp only
    omega
theorem rows_mk : ∀ rows : List (List Value), (∀ r ∈ rows, AllK makeKs r) → ∃ l : List MD, l.length = rows.length ∧ (∀ x ∈ l, x.wf) ∧ rows.flatten = l.flatMap MD.cells
  | [], _ => ⟨[], rfl, by simp, rfl⟩
  | r :: t, h => by
    obtain ⟨x, hx, rfl⟩ := row_mk (h r (by simp))
    obtain ⟨l, h1, h2, h3⟩ := rows_mk t (fun q hq => h q (by simp [hq]))
    refine ⟨x :: l, by simp [h1], fun y hy => ?_, by simp [h3]⟩
    rcases List.mem_cons.1 hy with rfl | hy
    · exact hx
    · exact h2 y hy
/-- Ways that a slice reads as. -/
def MksAt (w : World) (B : Nat) (A : Option Addr) (n : Nat) (l : List MD) : Prop := l.length = n ∧ (∀ x ∈ l, x.wf) ∧ Reads w B 7 A n (l.flatMap MD.cells)
section
variable {w w' : World} {B n : Nat} {A : Option Addr} {l : List MD}
theorem MksAt.at_ {k : Nat} (h : MksAt w B A n l) (hk : k < n) : ∃ ad x, A = some ad ∧ ad.block < B ∧ l[k]? = some x ∧ x.wf ∧ ∀ j u, x.cells[j]? = some u → w.cell? ((ad.add (k * 7)).add j) = some u := by
  obtain ⟨h1, h2, h3⟩ := h
  obtain ⟨ad, e, hb, hc⟩ := h3.2 (by omega)
  have hx : l[k]? = some l[k] := List.getElem?_eq_getElem (by omega)
  refine ⟨ad, l[k], e, hb, hx, h2 _ (List.getElem_mem _), fun j u hu => ?_⟩
  rw [add_of_add]
  exact hc _ u (flat_at MD.cells 7 l (fun z hz => rfl) k j _ u hx hu)
theorem MksAt.below (h : MksAt w B A n l) (hb : Below B w w') : MksAt w' B A n l := ⟨h.1, h.2.1, h.2.2.below hb⟩
end
section
variable {H : Type} {enc : TypeId × Value → H} {w : World} {base b0 : Nat} {re : Reach} {spare : Nat → Bool} {held : Bool}
theorem mks_in {v : Value} {d : DataW H} {p : List MemPlace} (hv : Value.okWide Tryz.prog w re b0 22 v) (h : DataW.Trod enc Tryz.prog w base spare held 22 v d p) :
    ∃ A n cap l, v = .slice A n cap ∧ MksAt w w.heap.size A n l ∧ n ≤ cap ∧ n < 9223372036854775808 := by
  obtain ⟨fuel, hf⟩ := h
  rcases DataW.trod_slice Tryz.underlying22 hf with ⟨hc, _⟩ | ⟨a, len, cap, _, _, _, _, hc, _⟩
  · have hv0 : v = .slice none 0 0 := by
      obtain ⟨A, n, c, rfl⟩ := okWide_slice Tryz.underlying22 hv
      simp [Value.cells] at hc
      simp [hc]
    subst hv0
    exact ⟨none, 0, 0, [], rfl, ⟨rfl, by simp, Reads.none_⟩, Nat.le_refl _, by omega⟩
  · obtain ⟨A, n, c, rfl⟩ := okWide_slice Tryz.underlying22 hv
    have hf' : DataW.trod enc Tryz.prog w base spare held fuel 22 [.slice A n c] = some (d, p) := by simpa [Value.cells] using hf
    obtain ⟨rows, hr, hA, hR, hc', hm⟩ := open_flat (A := A) (n := n) (c := c) Tryz.underlying22 flatMk (by decide) hf'
    obtain ⟨l, h1, h2, h3⟩ := rows_mk rows hA
    rw [h3] at hR
    unfold maxLen at hm
    exact ⟨A, n, c, l, rfl, ⟨by omega, h2, hR⟩, hc', by omega⟩
theorem rows_uw : ∀ rows : List (List Value), (∀ r ∈ rows, AllK [some .u64] r) → ∃ l : List Int, l.length = rows.length ∧ (∀ x ∈ l, U64 x) ∧ rows.flatten = l.map (Value.int .u64)
  | [], _ => ⟨[], rfl, by simp, rfl⟩
  | r :: t, h => by
    obtain ⟨l, h1, h2, h3⟩ := rows_uw t (fun q hq => h q (by simp [hq]))
    obtain ⟨hl, hk⟩ := h r (by simp)
    match r, hl with
    | [c0], _ =>
      obtain ⟨n0, rfl, w0⟩ := hk 0 _ _ rfl rfl
      have a0 := bounds_u64 w0
      refine ⟨n0 :: l, by simp [h1], fun y hy => ?_, by simp [h3]⟩
      rcases List.mem_cons.1 hy with rfl | hy
      · unfold U64; omega
      · exact h2 y hy
theorem words_in {v : Value} {d : DataW H} {p : List MemPlace} (hv : Value.okWide Tryz.prog w re b0 23 v) (h : DataW.Trod enc Tryz.prog w base spare held 23 v d p) :
    ∃ A n cap, ∃ l : List Int, v = .slice A n cap ∧ (l.length = n ∧ (∀ x ∈ l, U64 x) ∧ Reads w w.heap.size 1 A n (l.map (Value.int .u64))) ∧ n ≤ cap ∧ n < 9223372036854775808 := by
  obtain ⟨fuel, hf⟩ := h
  rcases DataW.trod_slice Tryz.underlying23 hf with ⟨hc, _⟩ | ⟨a, len, cap, _, _, _, _, hc, _⟩
  · have hv0 : v = .slice none 0 0 := by
      obtain ⟨A, n, c, rfl⟩ := okWide_slice Tryz.underlying23 hv
      simp [Value.cells] at hc
      simp [hc]
    subst hv0
    exact ⟨none, 0, 0, [], rfl, ⟨rfl, by simp, Reads.none_⟩, Nat.le_refl _, by omega⟩
  · obtain ⟨A, n, c, rfl⟩ := okWide_slice Tryz.underlying23 hv
    have hf' : DataW.trod enc Tryz.prog w base spare held fuel 23 [.slice A n c] = some (d, p) := by simpa [Value.cells] using hf
    obtain ⟨rows, hr, hA, hR, hc', hm⟩ := open_flat (A := A) (n := n) (c := c) Tryz.underlying23 flatUw (by decide) hf'
    obtain ⟨l, h1, h2, h3⟩ := rows_uw rows hA
    rw [h3] at hR
    unfold maxLen at hm
    exact ⟨A, n, c, l, rfl, ⟨by omega, h2, hR⟩, hc', by omega⟩
end
end Go.Proofs.YtfjflefgclfbfaaGreat
