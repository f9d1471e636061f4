/-
  instr.Same: are two programs the same. Conditions: those written in each statement.
-/
import Derived.Test.YtbdofidapddgaaaIb
import Derived.Test.YtbdofidapddgaaaMie
import Derived.Test.YtbdofidapddgaaaQuiet
import Derived.Deep.QuietTactic
import Derived.BigQuiet
namespace Go.Proofs.Ytbdofidapddgaaa
open Go.RowKit
set_option linter.unusedVariables false
set_option linter.unusedSimpArgs false
def sameR : List ID → List ID → Bool
  | [], [] => true
  | x :: r, y :: t => eqL x.cells y.cells && sameR r t
  | _, _ => false
theorem sameR_iff : ∀ (a b : List ID), sameR a b = true ↔ a.length = b.length ∧ ∀ (k : Nat) (x y : ID), a[k]? = some x → b[k]? = some y → eqL x.cells y.cells = true
  | [], [] => by simp [sameR]
  | [], y :: t => by simp [sameR]
  | x :: r, [] => by simp [sameR]
  | x :: r, y :: t => by
    simp only [sameR, Bool.and_eq_true, sameR_iff r t, List.length_cons]
    constructor
    · rintro ⟨h1, h2, h3⟩
      refine ⟨by omega, fun k p q hp hq => ?_⟩
      cases k with
      | zero => simp at hp hq; subst hp hq; exact h1
      | succ k => exact h3 k p q (by simpa using hp) (by simpa using hq)
    · rintro ⟨h1, h2⟩
      exact ⟨h2 0 x y rfl rfl, by omega, fun k p q hp hq => h2 (k + 1) p q (by simpa using hp) (by simpa using hq)⟩
theorem eq_id_iff {x y : ID} (hx : x.wf) (hy : y.wf) : eqL x.cells y.cells = true ↔ x = y := by
  rw [eqL_iff instrK _ _ (ID.all hx) (ID.all hy)]
  exact ⟨ID.cells_inj, fun h => by rw [h]⟩
theorem sameR_eq {a b : List ID} (ha : ∀ x ∈ a, x.wf) (hb : ∀ x ∈ b, x.wf) : sameR a b = true ↔ a = b := by
  rw [sameR_iff]
  constructor
  · rintro ⟨hl, h⟩
    refine List.ext_getElem hl fun i h1 h2 => ?_
    have := h i _ _ (List.getElem?_eq_getElem h1) (List.getElem?_eq_getElem h2)
    exact (eq_id_iff (ha _ (List.getElem_mem h1)) (hb _ (List.getElem_mem h2))).1 this
  · rintro rfl
    refine ⟨rfl, fun k x y hx hy => ?_⟩
    rw [hx] at hy
    obtain rfl := Option.some.inj hy
    exact (eq_id_iff (ha _ (List.mem_of_getElem? hx)) (ha _ (List.mem_of_getElem? hx))).2 rfl
def sameB (c d : Int) (a b : List ID) : Bool := c == d && sameR a b
theorem sameB_eq {c d : Int} {a b : List ID} (ha : ∀ x ∈ a, x.wf) (hb : ∀ x ∈ b, x.wf) : sameB c d a b = true ↔ c = d ∧ a = b := by
  unfold sameB
  rw [Bool.and_eq_true, beq_iff_eq, sameR_eq ha hb]
theorem drewN_ex {w wr : World} (h : ∃ d, wr = w.drewN d) (k : Nat) : ∃ d, wr.drewN k = w.drewN d := by
  obtain ⟨d, rfl⟩ := h
  exact ⟨d + k, by rw [World.drewN_drewN]⟩
theorem InsAt.drewN {w : World} {B n : Nat} {A : Option Addr} {l : List ID} (h : InsAt w B A n l) (k : Nat) : InsAt (w.drewN k) B A n l := h
end Go.Proofs.Ytbdofidapddgaaa
