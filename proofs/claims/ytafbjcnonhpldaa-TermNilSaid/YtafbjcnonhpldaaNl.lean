/-
  A pool at its deepest, in plain words; a term that came in. Conditions: those written in each statement.
-/
import Derived.Test.YtafbjcnonhpldaaLw
namespace Go.Proofs.Ytafbjcnonhpldaa
open Go.RowKit Go.WideShapes Go.ChangeShapes Go.Deep
set_option linter.unusedVariables false
set_option linter.unusedSimpArgs false
section
variable {H : Type} {enc : TypeId × Value → H} {w : World} {base b0 : Nat} {re : Reach} {spare : Nat → Bool} {held : Bool}
theorem term_in {v : Value} {d : DataW H} {p : List MemPlace} (hv : Value.okWide Try.prog w re b0 32 v) (h : DataW.Trod enc Try.prog w base spare held 32 v d p) : ∃ x : TD, v = termV x ∧ x.wf := by
  obtain ⟨cs, rfl, hsz⟩ := okWide_struct Try.underlying32 hv
  obtain ⟨fuel, hf⟩ := h
  have hA := trod_flat 4 _ termKs _ _ _ flatTm hf
  obtain ⟨x, hx, he⟩ := row_tm hA
  refine ⟨x, ?_, hx⟩
  unfold termV
  rw [← he]
  simp [Value.cells]
end
def zxT (a : Nat) : TD := ⟨3, 0, 32, 0, a, 0, 0⟩
def chainP : Nat → PS
  | 0 => ⟨[xT], [1]⟩
  | k + 1 => ⟨(chainP k).T ++ [zxT k], (chainP k).D ++ [(k : Int) + 2]⟩
theorem chain_len : ∀ k, (chainP k).T.length = k + 1 ∧ (chainP k).D.length = k + 1
  | 0 => ⟨rfl, rfl⟩
  | k + 1 => by
    have := chain_len k
    unfold chainP
    simp [this.1, this.2]
theorem chain_mem : ∀ k, ∀ t ∈ (chainP k).T, t = xT ∨ ∃ j, j < k ∧ t = zxT j
  | 0, t, h => .inl (by simpa [chainP] using h)
  | k + 1, t, h => by
    unfold chainP at h
    simp only [List.mem_append, List.mem_singleton] at h
    rcases h with h | h
    · rcases chain_mem k t h with e | ⟨j, hj, e⟩
      · exact .inl e
      · exact .inr ⟨j, by omega, e⟩
    · exact .inr ⟨k, by omega, h⟩
theorem chain_top : ∀ k, (chainP k).D[k]? = some ((k : Int) + 1)
  | 0 => rfl
  | k + 1 => by
    have := (chain_len k).2
    unfold chainP
    simp only
    rw [List.getElem?_append_right (by omega), this]
    simp
    omega
theorem zx_ok (k : Nat) : okP (chainP k).T (zxT k) = true ∧ atT (chainP k).T (zxT k) = none ∧ dmax (chainP k).D (prtL (zxT k)) = (k : Int) + 2 := by
  have hp : prtL (zxT k) = [(k : Int)] := by unfold prtL zxT; simp
  refine ⟨?_, ?_, ?_⟩
  · unfold okP
    rw [hp]
    have h1 : okF (zxT k) = true := by unfold okF askT likeT zxT wdB; simp
    have h2 : clashB (chainP k).T (zxT k) = false := by unfold clashB zxT; simp
    rw [h1, h2]
    simp [hasB, (chain_len k).1]
    omega
  · cases e : atT (chainP k).T (zxT k) with
    | none => rfl
    | some i =>
      exfalso
      rcases chain_mem k _ (List.mem_of_getElem? (atT_some e)) with h | ⟨j, hj, h⟩
      · unfold zxT xT at h; simp at h
      · unfold zxT at h; simp at h; omega
  · rw [hp]
    unfold dmax
    rw [List.foldl_cons, List.foldl_nil, List.getD_eq_getElem?_getD, Int.toNat_natCast, chain_top k]
    simp
    omega
theorem chain_put {k : Nat} (h : k < 255) : putP (chainP k) (zxT k) = chainP (k + 1) ∧ putN (chainP k) (zxT k) = (((k + 1 : Nat) : Int), 0) := by
  obtain ⟨h1, h2, h3⟩ := zx_ok k
  have hl := (chain_len k).1
  constructor
  · unfold putP
    rw [if_pos ⟨h1, h2, by omega, by rw [h3]; omega⟩, h3]
    rfl
  · unfold putN
    rw [h1, h2, h3, hl]
    simp
    omega
theorem chain_full : putN (chainP 255) (zxT 255) = (0, 260) := by
  obtain ⟨h1, h2, h3⟩ := zx_ok 255
  unfold putN
  rw [h1, h2, h3]
  simp
theorem zx_wf {k : Nat} (h : k < 1000) : (zxT k).wf := by unfold TD.wf I8 U64 I64 zxT; dsimp only; omega
theorem chain_zero : putP ⟨[], []⟩ xT = chainP 0 ∧ putN ⟨[], []⟩ xT = (0, 0) := by
  constructor
  · have h : okP [] xT = true ∧ atT [] xT = none ∧ dmax [] (prtL xT) = 1 := by decide +kernel
    unfold putP
    rw [if_pos ⟨h.1, h.2.1, by simp, by rw [h.2.2]; omega⟩, h.2.2]
    rfl
  · decide +kernel
end Go.Proofs.Ytafbjcnonhpldaa
