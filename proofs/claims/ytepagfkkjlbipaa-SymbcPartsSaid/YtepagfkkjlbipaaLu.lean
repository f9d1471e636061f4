/-
  What symbc.Run answers: its length, its numbers, the cells that it lies in. Conditions: those written in each statement.
-/
import Derived.Test.YtepagfkkjlbipaaKbb
import Derived.Test.YtepagfkkjlbipaaKaz
namespace Go.Proofs.Ytepagfkkjlbipaa
open Go.RowKit
set_option linter.unusedVariables false
set_option linter.unusedSimpArgs false
set_option maxRecDepth 100000
/-- An event of each, as they lie. -/
def TF (b8 b13 : Nat) (e1 e2 : Value) (a1 a2 : Addr) (x : EvD) (v1 v2 : Value) (w : World) : Prop := w.cell? ⟨b8, 11, none⟩ = some e1 ∧ w.cell? ⟨b13, 11, none⟩ = some e2 ∧ (∀ j u, (evC (x, v1))[j]? = some u → w.cell? (a1.add j) = some u) ∧ (∀ j u, (evC (x, v2))[j]? = some u → w.cell? (a2.add j) = some u) ∧ NxAt w w.heap.size v1 x.args ∧ NxAt w w.heap.size v2 x.args ∧ b8 < w.heap.size ∧ b13 < w.heap.size ∧ a1.block < w.heap.size ∧ a2.block < w.heap.size
theorem TF.step {b8 b13 : Nat} {e1 e2 : Value} {a1 a2 : Addr} {x : EvD} {v1 v2 : Value} {w w' : World} (h : TF b8 b13 e1 e2 a1 a2 x v1 v2 w) (hb : Below w.heap.size w w') : TF b8 b13 e1 e2 a1 a2 x v1 v2 w' := by
  obtain ⟨h1, h2, h3, h4, h5, h6, h7, h8, h9, h10⟩ := h
  have hz := hb.size
  have hw : ∀ {v l}, NxAt w w.heap.size v l → NxAt w' w'.heap.size v l := fun q => (q.below hb).more hz
  exact ⟨(hb.cell (by exact h7)).trans h1, (hb.cell (by exact h8)).trans h2, fun j u hu => (hb.cell (by rw [block_of_add]; exact h9)).trans (h3 j u hu), fun j u hu => (hb.cell (by rw [block_of_add]; exact h10)).trans (h4 j u hu), hw h5, hw h6, by omega, by omega, by omega, by omega⟩
theorem flatRg : flatK Try.prog 4 32 = some (List.replicate 11 (some .i64)) := by kernel_rfl
theorem okRg : eqOk Try.prog 4 32 = true := by kernel_rfl
theorem aggRg : aggT Try.prog 32 = true := by kernel_rfl
theorem flatEx : flatK Try.prog 4 38 = some [some .i8, some .i64, some .i64, some .i64] := by kernel_rfl
theorem okEx : eqOk Try.prog 4 38 = true := by kernel_rfl
theorem aggEx : aggT Try.prog 38 = true := by kernel_rfl
theorem sizEx : (Try.prog.info? 38).map (·.size) = some 4 := by kernel_rfl
theorem all_regs : ∀ {l : List Int} {n : Nat}, l.length = n → (∀ r ∈ l, I64 r) → AllK (List.replicate n (some .i64)) (rgC l) := by
  intro l n hl hr
  refine ⟨by unfold rgC; simp [hl], fun i k v hk hv => ?_⟩
  unfold rgC at hv
  rw [List.getElem?_map] at hv
  obtain ⟨x, hx, rfl⟩ := Option.map_eq_some_iff.1 hv
  rw [List.getElem?_replicate] at hk
  split at hk
  · injection hk with hk
    subst hk
    exact ⟨x, rfl, wf_i64 (hr x (List.mem_of_getElem? hx))⟩
  · cases hk
theorem src_parts {w : World} {b : Nat} {regs : List Int} {es : Value} {ex : ExD} (hl : regs.length = 11) (h : Blk w b 40 (srcC regs es ex).toArray) :
    (∀ j u, (rgC regs)[j]? = some u → w.cell? ((⟨b, 0, none⟩ : Addr).add j) = some u) ∧ (∀ j u, (exC ex)[j]? = some u → w.cell? ((⟨b, 12, none⟩ : Addr).add j) = some u) := by
  have hr : (rgC regs).length = 11 := by unfold rgC; simp [hl]
  refine ⟨fun j u hu => ?_, fun j u hu => ?_⟩
  · refine blk_list h j u ?_
    unfold srcC
    rw [List.getElem?_append_left (List.getElem?_eq_some_iff.1 hu).1]
    exact hu
  · have hc := h.cell (12 + j)
    rw [List.getElem?_toArray] at hc
    rw [show (⟨b, 12, none⟩ : Addr).add j = ⟨b, 12 + j, none⟩ from by unfold Addr.add; split <;> simp_all, hc]
    unfold srcC
    rw [List.getElem?_append_right (by omega), hr, show 12 + j - 11 = j + 1 by omega]
    exact hu
end Go.Proofs.Ytepagfkkjlbipaa
