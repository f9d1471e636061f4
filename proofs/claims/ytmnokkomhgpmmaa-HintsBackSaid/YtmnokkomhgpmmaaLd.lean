/-
  The walks of HintsRead and HintsBack: they answer true. Conditions: those written in each statement.
-/
import Derived.Test.YtmnokkomhgpmmaaPq
import Derived.Test.YtmnokkomhgpmmaaWl
namespace Go.Proofs.Ytmnokkomhgpmmaa
open Go.RowKit
set_option linter.unusedVariables false
set_option linter.unusedSimpArgs false
def rdSo (b : List Int) : Int := if rdGood b then rdS b else 0
def rdLo (b : List Int) : List HD := if rdGood b then rdL b else []
def rdE (b : List Int) : Int := if rdGood b then 0 else 30
theorem gives_ex {b : List Int} {w w' : World} {e : Ending} (h : GivesHints b w e w') : ∃ A n c, n ≤ c ∧ n < 256 ∧ e = .returned (.tuple #[.agg #[.int .i64 (rdSo b), .slice A n c], .int .i64 (rdE b)]) ∧ HintsAt w' w'.heap.size A n (rdLo b) ∧ Below w.heap.size w w' := by
  obtain ⟨hb, ⟨hg, A, n, c, h1, h2, h3, h4⟩ | ⟨hg, h3⟩⟩ := h
  · exact ⟨A, n, c, h1, h2, by unfold rdSo rdE; rw [hg]; exact h3, by unfold rdLo; rw [hg]; exact h4, hb⟩
  · exact ⟨none, 0, 0, by omega, by omega, by unfold rdSo rdE; rw [hg]; exact h3, by unfold rdLo; rw [hg]; exact ⟨rfl, by simp, Reads.none_⟩, hb⟩
set_option maxRecDepth 100000 in
set_option maxHeartbeats 1000000 in
theorem read_walk (A : Option Addr) (n c : Nat) (l : List Int) (w : World) (hr : Reads w w.heap.size 1 A n (l.map (Value.int .u8))) (hb : IsBytes l) (hc : n ≤ c) :
    Calls Try.prog 5 #[.slice A n c] w fun e w' => e = .returned (.bool true) ∧ Below w.heap.size w w' := by
  have hl : l.length = n := by have := hr.1; simpa using this
  have HL := hide hl
  have HR := hide hr
  have HB := hide hb
  clear hl hr hb
  by_cases h2 : 2000 < n
  · go_enter Try.func5, Try.ntmps5
    go_wp2_with fail
    refine (wakes_any _).mono ?_
    rintro e w5 ⟨rfl, hb⟩
    have HF := hide hb
    clear hb
    go_wp2
    go_ret
    exact ⟨rfl, HF.out⟩
  · have h2' : n ≤ 2000 := by omega
    have h2d : decide ((2000 : Int) < (n : Int)) = false := by simp; omega
    clear h2
    go_enter Try.func5, Try.ntmps5
    go_wp2_with fail
    refine (read_any l A n c _ HL.out HR.out HB.out hc (by omega)).mono ?_
    rintro e w1 hg
    obtain ⟨A1, n1, c1, hc1, hn1, rfl, hh1, hb1⟩ := gives_ex hg
    have HH1 := hide hh1
    have HB1 := hide hb1
    clear hg hh1 hb1
    obtain ⟨so, hso⟩ : ∃ s, rdSo l = s := ⟨_, rfl⟩
    obtain ⟨eo, heo⟩ : ∃ s, rdE l = s := ⟨_, rfl⟩
    have HSO := hide hso
    have HEO := hide heo
    rw [hso, heo]
    clear hso heo
    go_wp2_with fail
    have hb2 : Below w1.heap.size w1 (w1.alloc (.cells #[.int .i64 so, .slice A1 n1 c1] 24)) := (Below.refl _ _).alloc (Nat.le_refl _) _
    refine (rread_any l A n c _ HL.out (((HR.out.below HB1.out).below (hb2.mono HB1.out.size)).more (Nat.le_trans HB1.out.size hb2.size)) HB.out hc (by omega)).mono ?_
    rintro e w2 hg
    obtain ⟨A2, n2, c2, hc2, hn2, rfl, hh2, hb3⟩ := gives_ex hg
    have HH2 := hide hh2
    have c10 : w2.cell? ⟨w1.heap.size, 0, none⟩ = some (.int .i64 so) := by rw [hb3.cell (by simp)]; simp
    have c11 : w2.cell? ⟨w1.heap.size, 1, none⟩ = some (.slice A1 n1 c1) := by rw [hb3.cell (by simp)]; simp
    have hb12 := hb2.trans (hb3.mono hb2.size)
    have HH1' := hide (HH1.out.up hb12 hb12.size)
    have HB2 := hide (HB1.out.trans (hb12.mono HB1.out.size))
    have hsz : w1.heap.size < w2.heap.size := by have := hb3.size; simp at this; omega
    rw [HSO.out, HEO.out]
    clear hg hh2 hb2 hb3 hb12
    go_wp2_with fail
    have hb4 : Below w2.heap.size w2 (w2.alloc (.cells #[.int .i64 so, .slice A2 n2 c2] 24)) := (Below.refl _ _).alloc (Nat.le_refl _) _
    refine (rsame_any so so A1 A2 n1 c1 n2 c2 _ _ _ (HH1'.out.up hb4 hb4.size) (HH2.out.up hb4 hb4.size) hc1 hc2 (by omega) (by omega)).mono ?_
    rintro e w3 ⟨rfl, hb5⟩
    rw [sameB_refl so HH1.out.2.1]
    have HB3 := hide (HB2.out.trans ((hb4.trans (hb5.mono hb4.size)).mono HB2.out.size))
    clear hb4 hb5 c10 c11
    go_wp2_with fail
    refine (wakes_any _).mono ?_
    rintro e w5 ⟨rfl, hb⟩
    have HF := hide (HB3.out.trans (hb.mono HB3.out.size))
    clear hb
    go_wp2
    go_ret
    exact ⟨rfl, HF.out⟩
end Go.Proofs.Ytmnokkomhgpmmaa
