/-
  What the laws of terms share: terms that came in, great, wakes. Conditions: those written in each statement.
-/
import Derived.Test.YtafbjcnonhpldaaVa
import Derived.Test.YtafbjcnonhpldaaTe
namespace Go.Proofs.Ytafbjcnonhpldaa
open Go.RowKit Go.WideShapes Go.ChangeShapes Go.Deep
set_option linter.unusedVariables false
set_option linter.unusedSimpArgs false
def termKs : List (Option IntKind) := [some .i8, some .i8, some .i8, some .u64, some .i64, some .i64, some .i64]
theorem row_tm {r : List Value} (h : AllK termKs r) : ∃ x : TD, x.wf ∧ r = x.cells := by
  obtain ⟨hl, hk⟩ := h
  match r, hl with
  | [c0, c1, c2, c3, c4, c5, c6], _ =>
    obtain ⟨n0, rfl, w0⟩ := hk 0 _ _ rfl rfl
    obtain ⟨n1, rfl, w1⟩ := hk 1 _ _ rfl rfl
    obtain ⟨n2, rfl, w2⟩ := hk 2 _ _ rfl rfl
    obtain ⟨n3, rfl, w3⟩ := hk 3 _ _ rfl rfl
    obtain ⟨n4, rfl, w4⟩ := hk 4 _ _ rfl rfl
    obtain ⟨n5, rfl, w5⟩ := hk 5 _ _ rfl rfl
    obtain ⟨n6, rfl, w6⟩ := hk 6 _ _ rfl rfl
    have a0 := bounds_i8 w0; have a1 := bounds_i8 w1; have a2 := bounds_i8 w2; have a3 := bounds_u64 w3; have a4 := bounds_i64 w4; have a5 := bounds_i64 w5; have a6 := bounds_i64 w6
    refine ⟨⟨n0, n1, n2, n3, n4, n5, n6⟩, ?_, rfl⟩
    unfold TD.wf I8 I64 U64
    dsimp only
    omega
theorem rows_tm : ∀ rows : List (List Value), (∀ r ∈ rows, AllK termKs r) → ∃ l : List TD, l.length = rows.length ∧ (∀ x ∈ l, x.wf) ∧ rows.flatten = l.flatMap TD.cells
  | [], _ => ⟨[], rfl, by simp, rfl⟩
  | r :: t, h => by
    obtain ⟨x, hx, rfl⟩ := row_tm (h r (by simp))
    obtain ⟨l, h1, h2, h3⟩ := rows_tm t (fun q hq => h q (by simp [hq]))
    refine ⟨x :: l, by simp [h1], fun y hy => ?_, by simp [h3]⟩
    rcases List.mem_cons.1 hy with rfl | hy
    · exact hx
    · exact h2 y hy
/-- Terms that a slice reads as. -/
def TmsAt (w : World) (B : Nat) (A : Option Addr) (n : Nat) (l : List TD) : Prop := l.length = n ∧ (∀ x ∈ l, x.wf) ∧ Reads w B 7 A n (l.flatMap TD.cells)
section
variable {w w' : World} {B n : Nat} {A : Option Addr} {l : List TD}
theorem TmsAt.at_ {k : Nat} (h : TmsAt w B A n l) (hk : k < n) : ∃ ad x, A = some ad ∧ ad.block < B ∧ l[k]? = some x ∧ x.wf ∧ ∀ j u, x.cells[j]? = some u → w.cell? ((ad.add (k * 7)).add j) = some u := by
  obtain ⟨h1, h2, h3⟩ := h
  obtain ⟨ad, e, hb, hc⟩ := h3.2 (by omega)
  have hx : l[k]? = some l[k] := List.getElem?_eq_getElem (by omega)
  refine ⟨ad, l[k], e, hb, hx, h2 _ (List.getElem_mem _), fun j u hu => ?_⟩
  rw [add_of_add]
  exact hc _ u (flat_at TD.cells 7 l (fun z hz => rfl) k j _ u hx hu)
theorem TmsAt.below (h : TmsAt w B A n l) (hb : Below B w w') : TmsAt w' B A n l := ⟨h.1, h.2.1, h.2.2.below hb⟩
end
section
variable {H : Type} {enc : TypeId × Value → H} {w : World} {base b0 : Nat} {re : Reach} {spare : Nat → Bool} {held : Bool}
theorem tms_in {v : Value} {d : DataW H} {p : List MemPlace} (hv : Value.okWide Try.prog w re b0 22 v) (h : DataW.Trod enc Try.prog w base spare held 22 v d p) :
    ∃ A n cap l, v = .slice A n cap ∧ TmsAt w w.heap.size A n l ∧ n ≤ cap ∧ n < 9223372036854775808 := by
  obtain ⟨fuel, hf⟩ := h
  rcases DataW.trod_slice Try.underlying22 hf with ⟨hc, _⟩ | ⟨a, len, cap, _, _, _, _, hc, _⟩
  · have hv0 : v = .slice none 0 0 := by
      obtain ⟨A, n, c, rfl⟩ := okWide_slice Try.underlying22 hv
      simp [Value.cells] at hc
      simp [hc]
    subst hv0
    exact ⟨none, 0, 0, [], rfl, ⟨rfl, by simp, Reads.none_⟩, Nat.le_refl _, by omega⟩
  · obtain ⟨A, n, c, rfl⟩ := okWide_slice Try.underlying22 hv
    have hf' : DataW.trod enc Try.prog w base spare held fuel 22 [.slice A n c] = some (d, p) := by simpa [Value.cells] using hf
    obtain ⟨rows, hr, hA, hR, hc', hm⟩ := open_flat (A := A) (n := n) (c := c) Try.underlying22 flatTm (by decide) hf'
    obtain ⟨l, h1, h2, h3⟩ := rows_tm rows hA
    rw [h3] at hR
    unfold maxLen at hm
    exact ⟨A, n, c, l, rfl, ⟨by omega, h2, hR⟩, hc', by omega⟩
end
theorem great_any (A : Option Addr) (n c : Nat) (w : World) (hm : n < 9223372036854775808) : Calls Try.prog 14 #[.slice A n c] w fun e w' => e = .returned (.bool (decide (400 < n))) ∧ w = w' := by
  go_enter Try.func14, Try.ntmps14
  go_wp2
  go_ret
  refine ⟨?_, rfl⟩
  first
    | rfl
    | (congr 2; simp; try omega)
def fiveT : TD := ⟨0, 0, 0, 5, 0, 0, 0⟩
def xT : TD := ⟨1, 0, 64, 0, 0, 0, 0⟩
theorem build_five (w : World) : (Instr.build 32 #[(0, .int .i8 0), (3, .int .u64 5)]).run Try.prog w = .ok (termV fiveT) w := run_build w 32 _ _ (by kernel_rfl)
theorem build_x (w : World) : (Instr.build 32 #[(0, .int .i8 1), (2, .int .i8 64)]).run Try.prog w = .ok (termV xT) w := run_build w 32 _ _ (by kernel_rfl)
theorem wk1 : putN ⟨[], []⟩ fiveT = (0, 0) ∧ putP ⟨[], []⟩ fiveT = ⟨[fiveT], [1]⟩ := by
  constructor
  · decide +kernel
  · have h : okP [] fiveT = true ∧ atT [] fiveT = none ∧ dmax [] (prtL fiveT) = 1 := by decide +kernel
    unfold putP
    rw [if_pos ⟨h.1, h.2.1, by simp, by rw [h.2.2]; omega⟩, h.2.2]
    rfl
theorem wk2 : putN ⟨[fiveT], [1]⟩ xT = (1, 0) ∧ putP ⟨[fiveT], [1]⟩ xT = ⟨[fiveT, xT], [1, 1]⟩ := by
  constructor
  · decide +kernel
  · have h : okP [fiveT] xT = true ∧ atT [fiveT] xT = none ∧ dmax [1] (prtL xT) = 1 := by decide +kernel
    unfold putP
    rw [if_pos ⟨h.1, h.2.1, by simp, by rw [h.2.2]; omega⟩, h.2.2]
    rfl
theorem wk3 : putN ⟨[fiveT, xT], [1, 1]⟩ fiveT = (0, 0) := by decide +kernel
theorem five_wf : fiveT.wf := by unfold TD.wf I8 U64 I64 fiveT; dsimp only; omega
theorem x_wf : xT.wf := by unfold TD.wf I8 U64 I64 xT; dsimp only; omega
set_option maxRecDepth 100000 in
set_option maxHeartbeats 4000000 in
theorem wakes_any (w : World) : Calls Try.prog 7 #[] w fun e w' => e = .returned (.bool true) ∧ Below w.heap.size w w' := by
  have q1 := fun (w : World) => build_five w
  have q2 := fun (w : World) => build_x w
  go_enter Try.func7, Try.ntmps7
  go_wp2_with fail
  refine (new_any _).mono ?_
  rintro e w1 ⟨g, F, rfl, hp, hb⟩
  have HP := hide hp
  have HB := hide hb
  have HF := hide (fun b q => (hp.fb b q).2 : ∀ b, F b → b < w1.heap.size)
  clear hp hb
  go_wp2_with (first
    | (refine wpList_store_new rfl 32 (.tmp 2) (.tmp 10) rfl _ fiveT.cells (termV fiveT) (by rfl) (by rfl) rfl sizT rfl (TD.one _) ?_
       intro w2 G2 L2 Z2
       replace HP := hide (HP.out.below L2)
       replace HB := hide (HB.out.trans (L2.mono HB.out.size))
       have HG := hide G2
       clear G2 L2 Z2)
    | (have _tok := HG
       clear _tok
       refine wpList_load_at rfl 32 (.tmp 13) rfl _ (by rfl) fiveT.cells _ (blk_list HG.out) Try.underlying32 rfl sizT ?_)
    | (have _tok := HG
       clear _tok
       refine wpList_load_at rfl 32 (.tmp 2) rfl _ (by rfl) fiveT.cells _ (blk_list HG.out) Try.underlying32 rfl sizT ?_)
    | fail)
  refine (put_any fiveT five_wf _ HP.out HB.out.size).mono ?_
  rintro e w3 ⟨rfl, F2, hp, hc, hf⟩
  rw [wk1.2] at hp
  rw [wk1.1]
  have HP2 := hide hp
  have HB2 := hide (HB.out.trans (hc.below (fun b q => (HP.out.fb b q).1) HB.out.size))
  have HG2 := hide (hc.blk HG.out (fun q => by have := HF.out _ q; omega))
  have HF2 := hide (fun q => by
    have := HG.out.lt
    rcases hf _ q with q | q
    · have := HF.out _ q; omega
    · omega : ¬ F2 w1.heap.size)
  clear hp hc hf HP HB HG HF
  go_wp2_with fail
  refine (put_any xT x_wf _ HP2.out HB2.out.size).mono ?_
  rintro e w4 ⟨rfl, F4, hp, hc, hf⟩
  rw [wk2.2] at hp
  rw [wk2.1]
  have HP4 := hide hp
  have HB4 := hide (HB2.out.trans (hc.below (fun b q => (HP2.out.fb b q).1) HB2.out.size))
  have HG := hide (hc.blk HG2.out HF2.out)
  clear hp hc hf HP2 HB2 HG2 HF2
  go_wp2_with (first
    | (refine wpList_load_at rfl 32 (.tmp 2) rfl _ (by rfl) fiveT.cells _ (blk_list HG.out) Try.underlying32 rfl sizT ?_)
    | fail)
  refine (put_any fiveT five_wf _ HP4.out HB4.out.size).mono ?_
  rintro e w5 ⟨rfl, F5, hp, hc, hf⟩
  rw [wk3]
  have HB5 := hide (HB4.out.trans (hc.below (fun b q => (HP4.out.fb b q).1) HB4.out.size))
  clear hp hc hf HP4 HB4 HG
  go_wp2
  go_ret
  exact ⟨rfl, HB5.out⟩
end Go.Proofs.Ytafbjcnonhpldaa
