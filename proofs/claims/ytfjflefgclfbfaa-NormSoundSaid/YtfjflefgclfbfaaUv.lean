/-
  Sixty-four words as they came in; what a making that succeeded asks. Conditions: those written in each statement.
-/
import Derived.Test.YtfjflefgclfbfaaUi
import Derived.Test.YtfjflefgclfbfaaKf
namespace Go.Proofs.Ytfjflefgclfbfaa
open Go.RowKit Go.WideShapes Go.ChangeShapes Go.Deep
set_option linter.unusedVariables false
set_option linter.unusedSimpArgs false
set_option maxRecDepth 100000
theorem okWide_array {P : Program} {w : World} {r : Reach} {base : Nat} {t : TypeId} {n : Nat} {e : TypeId} {v : Value} (ht : P.underlying t = some (.array n e)) (h : Value.okWide P w r base t v) : ∃ cs, v = .agg cs ∧ cs.size = P.cellsOf t := by
  simp only [Value.okWide, ht] at h
  obtain ⟨cs, h1, h2, _⟩ := h
  exact ⟨cs, h1, h2⟩
def uW (R : List Int) : List Value := R.map (Value.int .u64)
theorem flatV : flatK Try.prog 4 24 = some (List.replicate 64 (some .u64)) := by kernel_rfl
theorem uW_one (R : List Int) : ∀ u ∈ uW R, u.oneCell' = true := by
  intro u hu
  obtain ⟨n, _, rfl⟩ := List.mem_map.1 hu
  rfl
section
variable {H : Type} {enc : TypeId × Value → H} {w : World} {base b0 : Nat} {re : Reach} {spare : Nat → Bool} {held : Bool}
theorem vars64_in {v : Value} {d : DataW H} {p : List MemPlace} (hv : Value.okWide Try.prog w re b0 24 v) (h : DataW.Trod enc Try.prog w base spare held 24 v d p) : ∃ R : List Int, v = .agg (uW R).toArray ∧ R.length = 64 ∧ ∀ x ∈ R, U64 x := by
  obtain ⟨cs, rfl, hsz⟩ := okWide_array Try.underlying24 hv
  obtain ⟨fuel, hf⟩ := h
  have hA := trod_flat 4 _ (List.replicate 64 (some .u64)) _ _ _ flatV hf
  obtain ⟨hl, hk⟩ := hA
  have hl16 : cs.toList.length = 64 := by simpa [Value.cells] using hl
  have hall : ∀ i (hi : i < cs.toList.length), ∃ n, cs.toList[i] = .int .u64 n ∧ U64 n := by
    intro i hi
    obtain ⟨n, e, hw⟩ := hk i (some .u64) cs.toList[i] (by rw [List.getElem?_replicate, if_pos (by omega)]) (by have := List.getElem?_eq_getElem hi; simpa only [Value.cells] using this)
    exact ⟨n, e, by have := bounds_u64 hw; unfold U64; omega⟩
  refine ⟨cs.toList.map (fun u => match u with | .int _ n => n | _ => 0), ?_, by rw [List.length_map, hl16], ?_⟩
  · have : uW (cs.toList.map (fun u => match u with | .int _ n => n | _ => 0)) = cs.toList := by
      unfold uW
      rw [List.map_map]
      refine List.ext_getElem (by simp) fun i h1 h2 => ?_
      rw [List.getElem_map]
      obtain ⟨n, e, _⟩ := hall i h2
      simp only [Function.comp_apply]
      rw [e]
    rw [this]
  · intro x hx
    obtain ⟨u, hu, rfl⟩ := List.mem_map.1 hx
    obtain ⟨i, hi, rfl⟩ := List.getElem_of_mem hu
    obtain ⟨n, e, hn⟩ := hall i hi
    rw [e]
    exact hn
end
/-- What a making that was no error asks of its way. -/
theorem mk_asks {p : PS} {x : MD} {l : List Int} {r : RS} (h : MkS p x l r) (h0 : r.2.2 = 0) : (x.kind = 2 → doOk x.op x.w = true ∧ l.length ≠ 0) ∧ (x.kind = 3 → l.length ≠ 0) ∧ (x.kind = 4 → holdsOk x.op x.w = true ∧ l.length ≠ 0) ∧ (x.kind ≠ 0 → x.kind ≠ 1 → l.length ≠ 0) := by
  have hno : ∀ k, l.length = 0 → hasB p.T (pickP l k) = false := fun k h => by
    unfold pickP
    rw [if_pos h]
    unfold hasB
    simp
  obtain ⟨f, h⟩ := h
  unfold mkF at h
  have k2 : x.kind = 2 → doOk x.op x.w = true ∧ l.length ≠ 0 := fun k => by
    rw [if_neg (by omega), if_neg (by omega), if_pos k] at h
    cases f with
    | zero => cases h
    | succ f =>
      rw [opF_succ] at h
      split at h
      · injection h with h; subst h; cases h0
      rename_i c1
      split at h
      · injection h with h; subst h; cases h0
      rename_i c2
      exact ⟨by simpa using c2, fun e => c1 (by rw [hno _ e]; rfl)⟩
  have k3 : x.kind = 3 → l.length ≠ 0 := fun k => by
    rw [if_neg (by omega), if_neg (by omega), if_neg (by omega), if_pos k] at h
    unfold zextO at h
    split at h
    · injection h with h; subst h; cases h0
    rename_i c1
    exact fun e => c1 (.inl (hno _ e))
  have k4 : x.kind = 4 → holdsOk x.op x.w = true ∧ l.length ≠ 0 := fun k => by
    rw [if_neg (by omega), if_neg (by omega), if_neg (by omega), if_neg (by omega), if_pos k] at h
    cases f with
    | zero => cases h
    | succ f =>
      rw [condF_succ] at h
      split at h
      · injection h with h; subst h; cases h0
      rename_i c1
      split at h
      · injection h with h; subst h; cases h0
      rename_i c2
      exact ⟨by simpa using c2, fun e => c1 (by rw [hno _ e]; rfl)⟩
  refine ⟨k2, k3, k4, fun n0 n1 => ?_⟩
  by_cases e2 : x.kind = 2
  · exact (k2 e2).2
  by_cases e3 : x.kind = 3
  · exact k3 e3
  by_cases e4 : x.kind = 4
  · exact (k4 e4).2
  rw [if_neg n0, if_neg n1, if_neg e2, if_neg e3, if_neg e4] at h
  cases f with
  | zero => cases h
  | succ f =>
    rw [iteF_succ] at h
    split at h
    · injection h with h; subst h; cases h0
    rename_i c1
    exact fun e => c1 (by simp [hno _ e])
theorem K1.rd {w W : World} {g c : Nat} {p : PS} {F : Nat → Prop} {l : List Int} {A : Option Addr} (h : K1 w g p F l (.slice A l.length c) W) : Reads W W.heap.size 1 A l.length (l.map (Value.int .i64)) ∧ l.length ≤ c := by
  obtain ⟨A', c', e, hc, hr⟩ := h.row.slice
  injection e with e1 _ e3
  subst e1 e3
  exact ⟨hr, hc⟩
theorem AV.nil (vs : List Int) : AV vs ⟨[], []⟩ := fun n hn => by unfold hasB at hn; simp at hn; omega
end Go.Proofs.Ytfjflefgclfbfaa
