/-
  Plain words on hints: places, blocks, which may be; how blocks lie in memory. Conditions: those written in each statement.
-/
import Derived.Test.YtmnokkomhgpmmaaRow
import Derived.Test.YtmnokkomhgpmmaaMap
namespace Go.Proofs.Ytmnokkomhgpmmaa
open Go.RowKit
set_option linter.unusedVariables false
set_option linter.unusedSimpArgs false
def I8 (x : Int) : Prop := -128 ≤ x ∧ x < 128
def I64 (x : Int) : Prop := -9223372036854775808 ≤ x ∧ x < 9223372036854775808
/-- May a place be? -/
def placeB (k n s : Int) : Bool :=
  if k = 0 then n == 0 else if k = 1 then decide (0 ≤ n) && decide (n < 16) && (n != 4) else if k = 2 then decide (0 ≤ n) && decide (n * 8 < s) else false
/-- A block's hint: where it is, its registers' places. -/
structure HD where
  at_ : Int
  pl : List (Int × Int)
def plCells (l : List (Int × Int)) : List Value := l.flatMap fun p => [.int .i8 p.1, .int .i8 p.2]
def HD.cells (h : HD) : List Value := .int .i64 h.at_ :: plCells h.pl
def HD.wf (h : HD) : Prop := I64 h.at_ ∧ h.pl.length = 11 ∧ ∀ p ∈ h.pl, I8 p.1 ∧ I8 p.2
theorem plCells_len (l : List (Int × Int)) : (plCells l).length = 2 * l.length := by
  induction l with
  | nil => rfl
  | cons p r ih => simp only [plCells, List.flatMap_cons, List.length_append, List.length_cons, List.length_nil] at ih ⊢; omega
theorem HD.cells_len {h : HD} (hw : h.wf) : h.cells.length = 23 := by
  unfold HD.cells
  rw [List.length_cons, plCells_len, hw.2.1]
/-- The k-th of rows of one length, in all of them behind one another. -/
theorem flat_at {α β : Type} (f : α → List β) (m : Nat) : ∀ (l : List α), (∀ x ∈ l, (f x).length = m) → ∀ (k j : Nat) (x : α) (u : β), l[k]? = some x → (f x)[j]? = some u → (l.flatMap f)[k * m + j]? = some u
  | [], _, k, j, x, u, hk, _ => by simp at hk
  | y :: r, hl, k, j, x, u, hk, hu => by
    rw [List.flatMap_cons]
    have hy := hl y (by simp)
    cases k with
    | zero =>
      simp at hk
      subst hk
      have hj : j < (f y).length := (List.getElem?_eq_some_iff.1 hu).1
      rw [Nat.zero_mul, Nat.zero_add, List.getElem?_append_left hj, hu]
    | succ k =>
      have := flat_at f m r (fun z hz => hl z (by simp [hz])) k j x u (by simpa using hk) hu
      rw [List.getElem?_append_right (by rw [hy, Nat.succ_mul]; omega), hy, show (k + 1) * m + j - m = k * m + j by rw [Nat.succ_mul]; omega]
      exact this
/-- Blocks that a slice reads as. -/
def HintsAt (w : World) (B : Nat) (A : Option Addr) (n : Nat) (hs : List HD) : Prop := hs.length = n ∧ (∀ h ∈ hs, h.wf) ∧ Reads w B 23 A n (hs.flatMap HD.cells)
section
variable {w w' : World} {B n : Nat} {A : Option Addr} {hs : List HD}
theorem HintsAt.at_ {k : Nat} (h : HintsAt w B A n hs) (hk : k < n) : ∃ ad x, A = some ad ∧ ad.block < B ∧ hs[k]? = some x ∧ x.wf ∧ ∀ j u, x.cells[j]? = some u → w.cell? ((ad.add (k * 23)).add j) = some u := by
  obtain ⟨h1, h2, h3⟩ := h
  obtain ⟨ad, e, hb, hc⟩ := h3.2 (by omega)
  have hx : hs[k]? = some hs[k] := List.getElem?_eq_getElem (by omega)
  refine ⟨ad, hs[k], e, hb, hx, h2 _ (List.getElem_mem _), fun j u hu => ?_⟩
  rw [add_of_add]
  exact hc _ u (flat_at HD.cells 23 hs (fun z hz => HD.cells_len (h2 z hz)) k j _ u hx hu)
theorem HintsAt.keep (h : HintsAt w B A n hs) (hk : ∀ p : Addr, p.block < B → w'.cell? p = w.cell? p) : HintsAt w' B A n hs := ⟨h.1, h.2.1, h.2.2.keep hk⟩
theorem HintsAt.below (h : HintsAt w B A n hs) (hb : Below B w w') : HintsAt w' B A n hs := ⟨h.1, h.2.1, h.2.2.below hb⟩
theorem HintsAt.drew (h : HintsAt w B A n hs) : HintsAt w.drew B A n hs := h
theorem HintsAt.alloc (h : HintsAt w B A n hs) (hB : B ≤ w.heap.size) (o : Obj) : HintsAt (w.alloc o) B A n hs := ⟨h.1, h.2.1, h.2.2.alloc hB o⟩
end
/-- May the i-th of places be? -/
def plD (l : List (Int × Int)) (i : Nat) : Int × Int := l.getD i (0, 0)
def pOk (s : Int) (l : List (Int × Int)) (i : Nat) : Bool := placeB (plD l i).1 (plD l i).2 s && !((plD l i).1 != 0 && (l.take i).contains (plD l i))
def hOk (s : Int) (h : HD) : Bool := decide (0 ≤ h.at_) && decide (h.at_ < 16384) && (List.range 11).all (pOk s h.pl)
def chkB (s : Int) (hs : List HD) : Bool := decide (0 ≤ s) && decide (s ≤ 88) && (s % 8 == 0) && decide (0 < hs.length) && decide (hs.length ≤ 65) && hs.all (hOk s)
def errC (b : Bool) : Int := if b then 0 else 250
theorem chk_no_h {s : Int} {hs : List HD} {k : Nat} {x : HD} (hx : hs[k]? = some x) (h : hOk s x = false) : chkB s hs = false := by
  unfold chkB
  rw [Bool.and_eq_false_iff]
  right
  rw [List.all_eq_false]
  exact ⟨x, List.mem_of_getElem? hx, by simp [h]⟩
theorem hok_no {s : Int} {x : HD} {i : Nat} (hi : i < 11) (h : pOk s x.pl i = false) : hOk s x = false := by
  unfold hOk
  rw [Bool.and_eq_false_iff]
  right
  rw [List.all_eq_false]
  exact ⟨i, List.mem_range.2 hi, by simp [h]⟩
theorem hok_yes {s : Int} {x : HD} (h0 : 0 ≤ x.at_) (h1 : x.at_ < 16384) (h : ∀ i, i < 11 → pOk s x.pl i = true) : hOk s x = true := by
  unfold hOk
  simp only [h0, h1, decide_true, Bool.true_and]
  rw [List.all_eq_true]
  intro i hi
  exact h i (List.mem_range.1 hi)
/-- What is marked taken behind the first j places. -/
def tkF (l : List (Int × Int)) (j : Nat) : Int × Int → Option Value := fun p => if p ∈ l.take j then some (.bool (p.1 != 0)) else none
theorem plD_at {l : List (Int × Int)} {j : Nat} {p : Int × Int} (hj : j < l.length) (hp : plD l j = p) : l[j]? = some p := by
  subst hp
  simp [plD, hj]
theorem tk_put {l : List (Int × Int)} {j : Nat} {p : Int × Int} (hj : j < l.length) (hp : plD l j = p) (q : Int × Int) : tkF l (j + 1) q = putF (tkF l j) p (.bool (p.1 != 0)) q := by
  have h := plD_at hj hp
  have ht : l.take (j + 1) = l.take j ++ [p] := by
    rw [List.take_add_one, h]
    rfl
  unfold putF tkF
  rw [ht]
  by_cases hq : q = p
  · subst hq; simp
  · simp [hq]
theorem tk_look {l : List (Int × Int)} {j : Nat} {p : Int × Int} : (tkF l j p).getD (.bool false) = .bool (p.1 != 0 && (l.take j).contains p) := by
  unfold tkF
  by_cases h : p ∈ l.take j
  · simp [h]
  · simp [h]
theorem plCells_at (l : List (Int × Int)) : ∀ (j : Nat) (p : Int × Int), l[j]? = some p → (plCells l).toArray.extract (j * 2) (j * 2 + 2) = #[.int .i8 p.1, .int .i8 p.2] := by
  intro j p h
  have hj : j < l.length := (List.getElem?_eq_some_iff.1 h).1
  have h0 := flat_at (fun p : Int × Int => [Value.int .i8 p.1, .int .i8 p.2]) 2 l (fun x _ => rfl) j 0 p _ h rfl
  have h1 := flat_at (fun p : Int × Int => [Value.int .i8 p.1, .int .i8 p.2]) 2 l (fun x _ => rfl) j 1 p _ h rfl
  have hl := plCells_len l
  refine Array.ext_getElem? fun i => ?_
  rw [Array.getElem?_extract]
  simp only [List.size_toArray, List.getElem?_toArray]
  change (plCells l)[j * 2 + 0]? = _ at h0
  change (plCells l)[j * 2 + 1]? = _ at h1
  rcases i with _ | _ | i
  · rw [if_pos (by omega), h0]; rfl
  · rw [if_pos (by omega), h1]; rfl
  · rw [if_neg (by omega)]; simp
theorem and7 (s : Int) (h0 : 0 ≤ s) (h1 : s ≤ 88) : bits .and .i64 s 7 = s % 8 := by
  obtain ⟨m, rfl⟩ := Int.eq_ofNat_of_zero_le h0
  have := i64_and_nat m 7 (by omega) (by omega)
  rw [show ((7 : Nat) : Int) = 7 from rfl] at this
  rw [this, show m &&& 7 = m % 8 from Nat.and_two_pow_sub_one_eq_mod m 3]
  omega
end Go.Proofs.Ytmnokkomhgpmmaa
