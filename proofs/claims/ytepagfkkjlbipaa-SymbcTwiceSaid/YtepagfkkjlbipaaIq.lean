/-
  Plain words on programs: which may be. Conditions: those written in each statement.
-/
import Derived.Test.YtepagfkkjlbipaaKac
namespace Go.Proofs.Ytepagfkkjlbipaa
open Go.RowKit
set_option linter.unusedVariables false
set_option linter.unusedSimpArgs false
theorem inB_iff {n a b : Int} : inB n a b = true ↔ a ≤ n ∧ n ≤ b := by unfold inB; simp
theorem inB_no {n a b : Int} : inB n a b = false ↔ ¬ (a ≤ n ∧ n ≤ b) := by rw [← inB_iff]; simp
def okAt (n : Nat) (i : Nat) (x : ID) : Bool := mayB x && !(tgtB i x && !inB (tgtN i x) 0 ((n : Int) - 1))
def badAt (n : Nat) : List ID → Nat → Option (Int × Int)
  | [], _ => none
  | x :: r, i => if mayB x = false then some ((i : Int), 31) else if (tgtB i x && !inB (tgtN i x) 0 ((n : Int) - 1)) = true then some ((i : Int), 32) else badAt n r (i + 1)
def lastK (l : List ID) : Int := ((l[l.length - 1]?).map ID.kind).getD 0
def chkP (c : Int) (l : List ID) : Int × Int :=
  if inB c 0 256 = false then (0, 2)
  else if inB ((l.length : Int) - 1) 0 63 = false then (0, 3)
  else match badAt l.length l 0 with
    | some r => r
    | none => if lastK l ≠ 4 ∧ lastK l ≠ 6 then ((l.length : Int) - 1, 33) else (0, 0)
theorem bad_none {n : Nat} : ∀ (l : List ID) (k : Nat), (∀ j x, l[j]? = some x → okAt n (k + j) x = true) → badAt n l k = none
  | [], _, _ => rfl
  | x :: r, k, h => by
    have h0 := h 0 x rfl
    unfold okAt at h0
    simp only [Nat.add_zero, Bool.and_eq_true, Bool.not_eq_true'] at h0
    rw [badAt, if_neg (by rw [h0.1]; simp), if_neg (by rw [h0.2]; simp)]
    exact bad_none r (k + 1) fun j y hy => by
      have := h (j + 1) y (by simpa using hy)
      rwa [show k + (j + 1) = k + 1 + j by omega] at this
theorem bad_some {n : Nat} : ∀ (l : List ID) (k j : Nat) (x : ID), l[j]? = some x → (∀ i y, i < j → l[i]? = some y → okAt n (k + i) y = true) → okAt n (k + j) x = false →
    badAt n l k = some (((k + j : Nat) : Int), if mayB x then 32 else 31)
  | [], _, j, x, h, _, _ => by simp at h
  | y :: r, k, 0, x, h, _, h0 => by
    simp at h
    subst h
    unfold okAt at h0
    rw [badAt]
    cases hm : mayB y
    · rw [if_pos rfl]; rfl
    · rw [hm] at h0
      simp only [Bool.true_and, Bool.not_eq_false'] at h0
      rw [if_neg (by simp), if_pos (by simpa using h0)]
      rfl
  | y :: r, k, j + 1, x, h, hb, h0 => by
    have h1 := hb 0 y (by omega) rfl
    unfold okAt at h1
    simp only [Nat.add_zero, Bool.and_eq_true, Bool.not_eq_true'] at h1
    rw [badAt, if_neg (by rw [h1.1]; simp), if_neg (by rw [h1.2]; simp)]
    have := bad_some r (k + 1) j x (by simpa using h) (fun i z hi hz => by
      have := hb (i + 1) z (by omega) (by simpa using hz)
      rwa [show k + (i + 1) = k + 1 + i by omega] at this) (by rwa [show k + 1 + j = k + (j + 1) by omega])
    rw [this, show k + 1 + j = k + (j + 1) by omega]
theorem bad_none_inv {n : Nat} : ∀ (l : List ID) (k : Nat), badAt n l k = none → ∀ j x, l[j]? = some x → okAt n (k + j) x = true
  | [], _, _, j, x, hx => by simp at hx
  | y :: r, k, h, j, x, hx => by
    rw [badAt] at h
    split at h
    · cases h
    · rename_i h1
      split at h
      · cases h
      · rename_i h2
        cases j with
        | zero =>
          simp at hx
          subst hx
          unfold okAt
          simp only [Bool.not_eq_false, Bool.not_eq_true] at h1 h2
          rw [Nat.add_zero, h1, h2]
          rfl
        | succ j =>
          have := bad_none_inv r (k + 1) h j x (by simpa using hx)
          rwa [show k + 1 + j = k + (j + 1) by omega] at this
theorem bad_pos {n : Nat} : ∀ (l : List ID) (k : Nat) (r : Int × Int), badAt n l k = some r → r.2 = 31 ∨ r.2 = 32
  | [], _, r, h => by simp [badAt] at h
  | y :: t, k, r, h => by
    rw [badAt] at h
    split at h
    · injection h with h; subst h; exact .inl rfl
    · split at h
      · injection h with h; subst h; exact .inr rfl
      · exact bad_pos t (k + 1) r h
/-- What a program that may be is. -/
theorem chk_ok {c : Int} {l : List ID} (h : (chkP c l).2 = 0) : 0 ≤ c ∧ c ≤ 256 ∧ 1 ≤ l.length ∧ l.length ≤ 64 ∧ (∀ (j : Nat) (x : ID), l[j]? = some x → okAt l.length j x = true) ∧ (lastK l = 4 ∨ lastK l = 6) ∧ chkP c l = (0, 0) := by
  have h' := h
  unfold chkP at h
  split at h
  · cases h
  · rename_i h1
    split at h
    · cases h
    · rename_i h2
      simp only [Bool.not_eq_false] at h1 h2
      rw [inB_iff] at h1 h2
      cases hb : badAt l.length l 0 with
      | some r =>
        rw [hb] at h
        have := bad_pos l 0 r hb
        dsimp only at h
        omega
      | none =>
        rw [hb] at h
        dsimp only at h
        split at h
        · cases h
        · rename_i h3
          refine ⟨by omega, by omega, by omega, by omega, fun j x hx => by simpa using bad_none_inv l 0 hb j x hx, by omega, ?_⟩
          unfold chkP
          rw [if_neg (by rw [inB_no]; omega), if_neg (by rw [inB_no]; omega), hb]
          dsimp only
          rw [if_neg h3]
theorem chk_ctx {c : Int} {l : List ID} (h : inB c 0 256 = false) : chkP c l = (0, 2) := by unfold chkP; rw [if_pos h]
theorem chk_long {c : Int} {l : List ID} (h : inB c 0 256 = true) (h2 : inB ((l.length : Int) - 1) 0 63 = false) : chkP c l = (0, 3) := by unfold chkP; rw [if_neg (by rw [h]; simp), if_pos h2]
theorem chk_bad {c : Int} {l : List ID} {j : Nat} {x : ID} (h : inB c 0 256 = true) (h2 : inB ((l.length : Int) - 1) 0 63 = true) (hx : l[j]? = some x) (hb : ∀ i y, i < j → l[i]? = some y → okAt l.length i y = true) (h0 : okAt l.length j x = false) :
    chkP c l = ((j : Int), if mayB x then 32 else 31) := by
  have := bad_some (n := l.length) l 0 j x hx (fun i y hi hy => by simpa using hb i y hi hy) (by simpa using h0)
  unfold chkP
  rw [if_neg (by rw [h]; simp), if_neg (by rw [h2]; simp), this]
  simp
theorem chk_end {c : Int} {l : List ID} (h : inB c 0 256 = true) (h2 : inB ((l.length : Int) - 1) 0 63 = true) (hb : ∀ i y, l[i]? = some y → okAt l.length i y = true) :
    chkP c l = if lastK l ≠ 4 ∧ lastK l ≠ 6 then ((l.length : Int) - 1, 33) else (0, 0) := by
  have := bad_none (n := l.length) l 0 (fun i y hy => by simpa using hb i y hy)
  unfold chkP
  rw [if_neg (by rw [h]; simp), if_neg (by rw [h2]; simp), this]
theorem bareR_wf {x : ID} (h : x.wf) : (bareR x).wf := by
  have := h
  unfold ID.wf I8 I64 at this ⊢
  unfold bareR immR
  repeat' split
  all_goals (first | omega | (dsimp only; omega))
theorem kz_wf {k : Int} (h : I8 k) : (kz k).wf := by
  unfold kz ID.wf I8 I64
  unfold I8 at h
  dsimp only
  omega
end Go.Proofs.Ytepagfkkjlbipaa
