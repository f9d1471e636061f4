/-
  Plain words on programs read from bytes. Conditions: those written in each statement.
-/
import Derived.Test.YtopanomcbkhbnaaIj
import Derived.Test.YtopanomcbkhbnaaIk
import Derived.Test.YtopanomcbkhbnaaIg
namespace Go.Proofs.Ytopanomcbkhbnaa
open Go.RowKit
set_option linter.unusedVariables false
set_option linter.unusedSimpArgs false
/-- The i-th eight bytes behind the first two. -/
def chunk (b : List Int) (i : Nat) : List Int := (b.drop (2 + 8 * i)).take 8
/-- The first eight bytes that read as no instruction: where, why. -/
def rdBad (b : List Int) : Nat → Nat → Option (Int × Int)
  | 0, _ => none
  | k + 1, i => if rdE (chunk b i) ≠ 0 then some ((i : Int), rdE (chunk b i)) else rdBad b k (i + 1)
def decI (b : List Int) (n : Nat) : List ID := (List.range n).map fun i => rdO (chunk b i)
def decN (b : List Int) : Nat := (b.length - 2) / 8
/-- What bytes read as: a program, or where not, and why. -/
def decR (b : List Int) : (Int × List ID) × Int × Int :=
  if ¬ (2 ≤ b.length ∧ b.length % 8 = 2) then ((0, []), 0, 30)
  else if 256 < getB (b.take 2) then ((0, []), 0, 2)
  else if inB (decN b) 1 64 = false then ((0, []), 0, 3)
  else match rdBad b (decN b) 0 with
    | some r => ((0, []), r.1, r.2)
    | none => if (chkP (getB (b.take 2)) (decI b (decN b))).2 ≠ 0 then ((0, []), chkP (getB (b.take 2)) (decI b (decN b))) else ((getB (b.take 2), decI b (decN b)), 0, 0)
theorem rdBad_none {b : List Int} : ∀ (k i : Nat), (∀ j, j < k → rdE (chunk b (i + j)) = 0) → rdBad b k i = none
  | 0, _, _ => rfl
  | k + 1, i, h => by
    rw [rdBad, if_neg (by have := h 0 (by omega); simpa using this)]
    exact rdBad_none k (i + 1) fun j hj => by
      have := h (j + 1) (by omega)
      rwa [show i + (j + 1) = i + 1 + j by omega] at this
theorem rdBad_some {b : List Int} : ∀ (k i j : Nat), j < k → (∀ q, q < j → rdE (chunk b (i + q)) = 0) → rdE (chunk b (i + j)) ≠ 0 → rdBad b k i = some (((i + j : Nat) : Int), rdE (chunk b (i + j)))
  | 0, _, _, h, _, _ => by omega
  | k + 1, i, 0, _, _, h0 => by
    rw [rdBad, if_pos (by simpa using h0)]
    rfl
  | k + 1, i, j + 1, hj, hb, h0 => by
    rw [rdBad, if_neg (by have := hb 0 (by omega); simpa using this)]
    have := rdBad_some (b := b) k (i + 1) j (by omega) (fun q hq => by
      have := hb (q + 1) (by omega)
      rwa [show i + (q + 1) = i + 1 + q by omega] at this) (by rwa [show i + 1 + j = i + (j + 1) by omega])
    rw [this, show i + 1 + j = i + (j + 1) by omega]
theorem decI_succ (b : List Int) (n : Nat) : decI b (n + 1) = decI b n ++ [rdO (chunk b n)] := by simp [decI, List.range_succ]
theorem decI_len (b : List Int) (n : Nat) : (decI b n).length = n := by simp [decI]
/-- A program's bytes, cut into eights. -/
theorem chunk_enc {c : Int} {l : List ID} {i : Nat} {x : ID} (hx : l[i]? = some x) : chunk (encB c l) i = insB x := by
  unfold chunk encB
  have h2 : (putB c 2).length = 2 := by simp [putB]
  rw [List.drop_append, List.drop_of_length_le (by omega), List.nil_append, h2, show 2 + 8 * i - 2 = 8 * i by omega]
  have : ∀ (l : List ID) (i : Nat) (x : ID), l[i]? = some x → ((l.flatMap insB).drop (8 * i)).take 8 = insB x := by
    intro l
    induction l with
    | nil => intro i x h; simp at h
    | cons y r ih =>
      intro i x h
      cases i with
      | zero =>
        simp at h
        subst h
        rw [List.flatMap_cons, Nat.mul_zero, List.drop_zero, List.take_append_of_le_length (by rw [insB_len]; omega), List.take_of_length_le (by rw [insB_len]; omega)]
      | succ i =>
        rw [List.flatMap_cons, List.drop_append, List.drop_of_length_le (by rw [insB_len]; omega), List.nil_append, insB_len, show 8 * (i + 1) - 8 = 8 * i by omega]
        exact ih i x (by simpa using h)
  exact this l i x hx
end Go.Proofs.Ytopanomcbkhbnaa
