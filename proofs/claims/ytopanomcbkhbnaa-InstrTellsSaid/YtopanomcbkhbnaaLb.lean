/-
  Plain words on programs' bytes: unlike programs have unlike bytes. Conditions: those written in each statement.
-/
import Derived.Test.YtopanomcbkhbnaaIg
import Derived.Test.YtopanomcbkhbnaaIh
namespace Go.Proofs.Ytopanomcbkhbnaa
open Go.RowKit
set_option linter.unusedVariables false
set_option linter.unusedSimpArgs false
theorem flat_ins_inj : ∀ (l m : List ID), (∀ x ∈ l, mayB x = true) → (∀ x ∈ m, mayB x = true) → l.flatMap insB = m.flatMap insB → l = m
  | [], [], _, _, _ => rfl
  | [], y :: t, _, _, h => by
    have := congrArg List.length h
    rw [List.flatMap_cons, List.length_append, insB_len] at this
    simp at this
    omega
  | x :: r, [], _, _, h => by
    have := congrArg List.length h
    rw [List.flatMap_cons, List.length_append, insB_len] at this
    simp at this
  | x :: r, y :: t, hl, hm, h => by
    rw [List.flatMap_cons, List.flatMap_cons] at h
    obtain ⟨h1, h2⟩ := List.append_inj h (by rw [insB_len, insB_len])
    rw [ins_inj (hl x (by simp)) (hm y (by simp)) h1, flat_ins_inj r t (fun z hz => hl z (by simp [hz])) (fun z hz => hm z (by simp [hz])) h2]
theorem chk_mays {c : Int} {l : List ID} (h : (chkP c l).2 = 0) : ∀ x ∈ l, mayB x = true := by
  intro x hx
  obtain ⟨_, _, _, _, hall, _, _⟩ := chk_ok h
  obtain ⟨j, hj, rfl⟩ := List.getElem_of_mem hx
  have := hall j _ (List.getElem?_eq_getElem hj)
  unfold okAt at this
  simp only [Bool.and_eq_true] at this
  exact this.1
theorem enc_inj {c d : Int} {l m : List ID} (hc : (chkP c l).2 = 0) (hd : (chkP d m).2 = 0) (h : encB c l = encB d m) : c = d ∧ l = m := by
  obtain ⟨c0, c1, _⟩ := chk_ok hc
  obtain ⟨d0, d1, _⟩ := chk_ok hd
  unfold encB at h
  obtain ⟨h1, h2⟩ := List.append_inj h (by simp [putB])
  refine ⟨?_, flat_ins_inj l m (chk_mays hc) (chk_mays hd) h2⟩
  rw [putB_two, putB_two] at h1
  simp at h1
  omega
theorem insB_bytes {x : ID} (h : mayB x = true) : IsBytes (insB x) := by
  have hk := may_kind h
  have hr := may_regs h
  have hl := lg_bd 4 (by omega) x.size
  have hc : 0 ≤ codeN x ∧ codeN x < 256 := by
    unfold KindOk at hk
    unfold codeN byN
    repeat' split
    all_goals omega
  intro v hv
  rw [insB_eq] at hv
  simp only [List.mem_cons, List.not_mem_nil, or_false] at hv
  rcases hv with rfl | rfl | rfl | rfl | rfl | rfl | rfl | rfl <;> omega
theorem putB_bytes (v : Int) (k : Nat) : IsBytes (putB v k) := by
  intro x hx
  unfold putB at hx
  obtain ⟨i, _, rfl⟩ := List.mem_map.1 hx
  unfold byI
  omega
theorem encB_bytes {c : Int} {l : List ID} (h : ∀ x ∈ l, mayB x = true) : IsBytes (encB c l) := by
  intro x hx
  unfold encB at hx
  rcases List.mem_append.1 hx with hx | hx
  · exact putB_bytes _ _ x hx
  · obtain ⟨y, hy, hx⟩ := List.mem_flatMap.1 hx
    exact insB_bytes (h y hy) x hx
end Go.Proofs.Ytopanomcbkhbnaa
