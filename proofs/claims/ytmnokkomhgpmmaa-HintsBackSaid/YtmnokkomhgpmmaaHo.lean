/-
  Hints that came in, opened. Conditions: those written in each statement.
-/
import Derived.Test.YtmnokkomhgpmmaaLb
import Derived.Test.YtmnokkomhgpmmaaFlat
namespace Go.Proofs.Ytmnokkomhgpmmaa
open Go.RowKit Go.WideShapes Go.ChangeShapes Go.Deep
set_option linter.unusedVariables false
set_option linter.unusedSimpArgs false
def hintKs : List (Option IntKind) := some .i64 :: List.replicate 22 (some .i8)
theorem flatH : flatK Try.prog 4 34 = some hintKs := by kernel_rfl
theorem row_hd {r : List Value} (h : AllK hintKs r) : ∃ x : HD, x.wf ∧ r = x.cells := by
  obtain ⟨hl, hk⟩ := h
  match r, hl with
  | [c0, c1, c2, c3, c4, c5, c6, c7, c8, c9, c10, c11, c12, c13, c14, c15, c16, c17, c18, c19, c20, c21, c22], _ =>
    obtain ⟨n0, rfl, w0⟩ := hk 0 _ _ rfl rfl
    obtain ⟨n1, rfl, w1⟩ := hk 1 _ _ rfl rfl
    obtain ⟨n2, rfl, w2⟩ := hk 2 _ _ rfl rfl
    obtain ⟨n3, rfl, w3⟩ := hk 3 _ _ rfl rfl
    obtain ⟨n4, rfl, w4⟩ := hk 4 _ _ rfl rfl
    obtain ⟨n5, rfl, w5⟩ := hk 5 _ _ rfl rfl
    obtain ⟨n6, rfl, w6⟩ := hk 6 _ _ rfl rfl
    obtain ⟨n7, rfl, w7⟩ := hk 7 _ _ rfl rfl
    obtain ⟨n8, rfl, w8⟩ := hk 8 _ _ rfl rfl
    obtain ⟨n9, rfl, w9⟩ := hk 9 _ _ rfl rfl
    obtain ⟨n10, rfl, w10⟩ := hk 10 _ _ rfl rfl
    obtain ⟨n11, rfl, w11⟩ := hk 11 _ _ rfl rfl
    obtain ⟨n12, rfl, w12⟩ := hk 12 _ _ rfl rfl
    obtain ⟨n13, rfl, w13⟩ := hk 13 _ _ rfl rfl
    obtain ⟨n14, rfl, w14⟩ := hk 14 _ _ rfl rfl
    obtain ⟨n15, rfl, w15⟩ := hk 15 _ _ rfl rfl
    obtain ⟨n16, rfl, w16⟩ := hk 16 _ _ rfl rfl
    obtain ⟨n17, rfl, w17⟩ := hk 17 _ _ rfl rfl
    obtain ⟨n18, rfl, w18⟩ := hk 18 _ _ rfl rfl
    obtain ⟨n19, rfl, w19⟩ := hk 19 _ _ rfl rfl
    obtain ⟨n20, rfl, w20⟩ := hk 20 _ _ rfl rfl
    obtain ⟨n21, rfl, w21⟩ := hk 21 _ _ rfl rfl
    obtain ⟨n22, rfl, w22⟩ := hk 22 _ _ rfl rfl
    refine ⟨⟨n0, [(n1, n2), (n3, n4), (n5, n6), (n7, n8), (n9, n10), (n11, n12), (n13, n14), (n15, n16), (n17, n18), (n19, n20), (n21, n22)]⟩, ⟨?_, rfl, ?_⟩, rfl⟩
    · have := bounds_i64 w0; exact ⟨by show -9223372036854775808 ≤ n0; omega, by show n0 < 9223372036854775808; omega⟩
    · intro p hp
      simp only [List.mem_cons, List.not_mem_nil, or_false] at hp
      rcases hp with rfl | rfl | rfl | rfl | rfl | rfl | rfl | rfl | rfl | rfl | rfl
      · have a1 := bounds_i8 w1; have a2 := bounds_i8 w2; exact ⟨⟨by show -128 ≤ n1; omega, by show n1 < 128; omega⟩, ⟨by show -128 ≤ n2; omega, by show n2 < 128; omega⟩⟩
      · have a1 := bounds_i8 w3; have a2 := bounds_i8 w4; exact ⟨⟨by show -128 ≤ n3; omega, by show n3 < 128; omega⟩, ⟨by show -128 ≤ n4; omega, by show n4 < 128; omega⟩⟩
      · have a1 := bounds_i8 w5; have a2 := bounds_i8 w6; exact ⟨⟨by show -128 ≤ n5; omega, by show n5 < 128; omega⟩, ⟨by show -128 ≤ n6; omega, by show n6 < 128; omega⟩⟩
      · have a1 := bounds_i8 w7; have a2 := bounds_i8 w8; exact ⟨⟨by show -128 ≤ n7; omega, by show n7 < 128; omega⟩, ⟨by show -128 ≤ n8; omega, by show n8 < 128; omega⟩⟩
      · have a1 := bounds_i8 w9; have a2 := bounds_i8 w10; exact ⟨⟨by show -128 ≤ n9; omega, by show n9 < 128; omega⟩, ⟨by show -128 ≤ n10; omega, by show n10 < 128; omega⟩⟩
      · have a1 := bounds_i8 w11; have a2 := bounds_i8 w12; exact ⟨⟨by show -128 ≤ n11; omega, by show n11 < 128; omega⟩, ⟨by show -128 ≤ n12; omega, by show n12 < 128; omega⟩⟩
      · have a1 := bounds_i8 w13; have a2 := bounds_i8 w14; exact ⟨⟨by show -128 ≤ n13; omega, by show n13 < 128; omega⟩, ⟨by show -128 ≤ n14; omega, by show n14 < 128; omega⟩⟩
      · have a1 := bounds_i8 w15; have a2 := bounds_i8 w16; exact ⟨⟨by show -128 ≤ n15; omega, by show n15 < 128; omega⟩, ⟨by show -128 ≤ n16; omega, by show n16 < 128; omega⟩⟩
      · have a1 := bounds_i8 w17; have a2 := bounds_i8 w18; exact ⟨⟨by show -128 ≤ n17; omega, by show n17 < 128; omega⟩, ⟨by show -128 ≤ n18; omega, by show n18 < 128; omega⟩⟩
      · have a1 := bounds_i8 w19; have a2 := bounds_i8 w20; exact ⟨⟨by show -128 ≤ n19; omega, by show n19 < 128; omega⟩, ⟨by show -128 ≤ n20; omega, by show n20 < 128; omega⟩⟩
      · have a1 := bounds_i8 w21; have a2 := bounds_i8 w22; exact ⟨⟨by show -128 ≤ n21; omega, by show n21 < 128; omega⟩, ⟨by show -128 ≤ n22; omega, by show n22 < 128; omega⟩⟩
theorem rows_hd : ∀ rows : List (List Value), (∀ r ∈ rows, AllK hintKs r) → ∃ hs : List HD, hs.length = rows.length ∧ (∀ h ∈ hs, h.wf) ∧ rows.flatten = hs.flatMap HD.cells
  | [], _ => ⟨[], rfl, by simp, rfl⟩
  | r :: t, h => by
    obtain ⟨x, hx, rfl⟩ := row_hd (h r (by simp))
    obtain ⟨hs, h1, h2, h3⟩ := rows_hd t (fun q hq => h q (by simp [hq]))
    refine ⟨x :: hs, by simp [h1], fun y hy => ?_, by simp [h3]⟩
    rcases List.mem_cons.1 hy with rfl | hy
    · exact hx
    · exact h2 y hy
theorem cellsHs : Try.prog.cellsOf 24 = 2 := by kernel_rfl
theorem cellsI : Try.prog.cellsOf 3 = 1 := by kernel_rfl
theorem cellsL : Try.prog.cellsOf 22 = 1 := by kernel_rfl
section
variable {H : Type} {enc : TypeId × Value → H} {w : World} {base b0 : Nat} {spare : Nat → Bool} {held : Bool} {re : Reach}
theorem hints_in {v : Value} {d : DataW H} {p : List MemPlace} (hv : Value.okWide Try.prog w re b0 24 v) (h : DataW.Trod enc Try.prog w base spare held 24 v d p) :
    ∃ s A n c hs, v = .agg #[.int .i64 s, .slice A n c] ∧ HintsAt w w.heap.size A n hs ∧ n ≤ c ∧ n < 9223372036854775808 ∧ I64 s := by
  obtain ⟨cs, rfl, hsz⟩ := okWide_struct Try.underlying24 hv
  obtain ⟨l⟩ := cs
  match l, hsz.trans cellsHs with
  | [c0, c1], _ =>
    obtain ⟨fuel, hf⟩ := h
    obtain ⟨xs, n, _, hx, _, hlen, hg⟩ := DataW.trod_struct Try.underlying24 hf
    have g0 := hg 0 _ rfl
    have g1 := hg 1 _ rfl
    match xs, hlen with
    | [y0, y1], _ =>
      simp only [cellsI, cellsL, Value.cells] at g0 g1
      obtain ⟨s, hs0, _, hw⟩ := DataW.trod_int (cs := [c0]) Try.underlying3 g0
      injection hs0 with hs0 _
      subst hs0
      have hb := bounds_i64 hw
      rcases DataW.trod_slice (cs := [c1]) Try.underlying22 g1 with ⟨hc, _⟩ | ⟨a, len, cap, _, _, _, _, hc, _⟩
      · injection hc with hc _
        subst hc
        exact ⟨s, none, 0, 0, [], rfl, ⟨rfl, by simp, Reads.none_⟩, Nat.le_refl _, by omega, by unfold I64; omega⟩
      · injection hc with hc _
        subst hc
        obtain ⟨rows, hr, hA, hR, hc, hm⟩ := open_flat (A := some a) (n := len) (c := cap) Try.underlying22 flatH (by decide) g1
        obtain ⟨hs, h1, h2, h3⟩ := rows_hd rows hA
        rw [h3] at hR
        unfold maxLen at hm
        exact ⟨s, some a, len, cap, hs, rfl, ⟨by omega, h2, hR⟩, hc, by omega, by unfold I64; omega⟩
end
end Go.Proofs.Ytmnokkomhgpmmaa
