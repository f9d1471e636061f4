/-
  Plain words on hints: bytes of hints read as they, and hints that are read have these bytes. Conditions: those written in each statement.
-/
import Derived.Test.YtmnokkomhgpmmaaWk
import Derived.Test.YtmnokkomhgpmmaaWi
namespace Go.Proofs.Ytmnokkomhgpmmaa
open Go.RowKit
set_option linter.unusedVariables false
set_option linter.unusedSimpArgs false
theorem plB_bytes (l : List (Int × Int)) : IsBytes (plB l) := by
  intro x hx
  unfold plB at hx
  simp only [List.mem_flatMap, List.mem_cons, List.not_mem_nil, or_false] at hx
  obtain ⟨p, _, rfl | rfl⟩ := hx <;> omega
theorem IsBytes.append {l m : List Int} (h : IsBytes l) (g : IsBytes m) : IsBytes (l ++ m) := by
  intro x hx
  rcases List.mem_append.1 hx with hx | hx
  · exact h x hx
  · exact g x hx
theorem hs_bytes (hs : List HD) : IsBytes (hs.flatMap hdB) := by
  intro x hx
  obtain ⟨h, _, hx⟩ := List.mem_flatMap.1 hx
  unfold hdB at hx
  exact IsBytes.append (putB_bytes _ _) (plB_bytes _) x hx
theorem hsB_bytes (s : Int) (hs : List HD) : IsBytes (hsB s hs) := by
  unfold hsB
  refine IsBytes.append (IsBytes.append (putB_bytes _ _) ?_) (hs_bytes hs)
  intro x hx
  simp at hx
  subst hx
  omega
theorem hsF_len : ∀ {hs : List HD}, (∀ h ∈ hs, h.wf) → (hs.flatMap hdB).length = 25 * hs.length
  | [], _ => rfl
  | x :: r, h => by
    rw [List.flatMap_cons, List.length_append, hdB_len (h x (by simp)), hsF_len (fun y hy => h y (by simp [hy])), List.length_cons]
    omega
theorem hsB_len {s : Int} {hs : List HD} (h : ∀ x ∈ hs, x.wf) : (hsB s hs).length = 3 + 25 * hs.length := by
  unfold hsB
  simp only [List.length_append, putB_len, hsF_len h, List.length_cons, List.length_nil]
theorem chk_s {s : Int} {hs : List HD} (h : chkB s hs = true) : 0 ≤ s ∧ s ≤ 88 := by
  unfold chkB at h
  simp only [Bool.and_eq_true, decide_eq_true_eq] at h
  omega
theorem rd_hsB {s : Int} {hs : List HD} (hc : chkB s hs = true) (hw : ∀ h ∈ hs, h.wf) : rdS (hsB s hs) = s ∧ rdL (hsB s hs) = hs ∧ rdGood (hsB s hs) = true := by
  have h65 := chk_len hc
  have hs88 := chk_s hc
  have hp2 : (putB s 2).length = 2 := putB_len _ _
  have e2 : (hsB s hs).getD 2 0 = (hs.length : Int) := by
    unfold hsB
    rw [List.getD_eq_getElem?_getD, List.append_assoc, List.getElem?_append_right (by omega), hp2]
    simp
    omega
  have e3 : (hsB s hs).drop 3 = hs.flatMap hdB := by
    unfold hsB
    rw [List.drop_append, List.drop_of_length_le (by simp [hp2])]
    simp [hp2]
  have et : (hsB s hs).take 2 = putB s 2 := by
    unfold hsB
    rw [List.append_assoc, List.take_append_of_le_length (by omega), List.take_of_length_le (by omega)]
  have hS : rdS (hsB s hs) = s := by
    unfold rdS
    rw [et]
    exact getB_putB 2 s hs88.1 (by omega)
  have hL : rdL (hsB s hs) = hs := by
    unfold rdL
    rw [e2, e3, Int.toNat_natCast]
    refine rdHs_hsB hs fun x hx => ?_
    obtain ⟨k, hk, rfl⟩ := List.getElem_of_mem hx
    exact ⟨hw _ hx, hd_at hc (List.getElem?_eq_getElem hk)⟩
  refine ⟨hS, hL, ?_⟩
  unfold rdGood
  rw [hS, hL, hc, Bool.and_true]
  unfold rdOk
  rw [e2, hsB_len hw, Bool.and_eq_true, decide_eq_true_eq, beq_iff_eq]
  omega
theorem hsB_rd {b : List Int} (hb : IsBytes b) (hg : rdGood b = true) : hsB (rdS b) (rdL b) = b := by
  unfold rdGood rdOk at hg
  simp only [Bool.and_eq_true, decide_eq_true_eq, beq_iff_eq] at hg
  obtain ⟨⟨h3, hn⟩, _⟩ := hg
  obtain ⟨x2, hx2⟩ : ∃ x, b[2]? = some x := ⟨b[2], List.getElem?_eq_getElem _⟩
  have hx := hb x2 (List.mem_of_getElem? hx2)
  have e2 : b.getD 2 0 = x2 := by rw [List.getD_eq_getElem?_getD, hx2, Option.getD_some]
  rw [e2] at hn
  unfold hsB rdS rdL
  rw [e2, hsB_rdHs _ _ (hb.drop 3) (by rw [List.length_drop]; omega), rdHs_len]
  have h2 := putB_getB (b.take 2) (hb.take 2)
  rw [show (b.take 2).length = 2 by rw [List.length_take]; omega] at h2
  rw [h2]
  have e1 : [((x2.toNat : Nat) : Int) % 256] = (b.drop 2).take 1 := by
    have hb2 : b[2]'(by omega) = x2 := by
      rw [List.getElem?_eq_getElem (by omega)] at hx2
      exact Option.some.inj hx2
    rw [List.drop_eq_getElem_cons (by omega), hb2, show ((x2.toNat : Nat) : Int) % 256 = x2 by omega]
    rfl
  rw [e1, ← List.take_add, List.take_append_drop]
theorem sameB_refl (s : Int) {hs : List HD} (hw : ∀ h ∈ hs, h.wf) : sameB s s hs hs = true := by
  unfold sameB
  rw [beq_self_eq_true, Bool.true_and, sameR_iff]
  refine ⟨rfl, fun k x y hx hy => ?_⟩
  rw [hx] at hy
  obtain rfl := Option.some.inj hy
  have := HD.all (hw x (List.mem_of_getElem? hx))
  exact (eqL_iff _ _ _ this this).2 rfl
end Go.Proofs.Ytmnokkomhgpmmaa
