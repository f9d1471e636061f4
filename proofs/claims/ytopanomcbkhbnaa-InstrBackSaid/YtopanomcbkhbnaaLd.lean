/-
  Plain words on instructions and programs: there and back. Conditions: those written in each statement.
-/
import Derived.Test.YtopanomcbkhbnaaIn
import Derived.Test.YtopanomcbkhbnaaLb
namespace Go.Proofs.Ytopanomcbkhbnaa
open Go.RowKit
set_option linter.unusedVariables false
set_option linter.unusedSimpArgs false
theorem rd_of_ins {x : ID} (h : mayB x = true) : rdO (insB x) = x ∧ rdE (insB x) = 0 := by
  obtain ⟨h1, h2⟩ := rd_ins x h
  have hok : rdOk (insB x) = true := by
    unfold rdOk
    rw [insB_len, h1, h2, h]
    rfl
  unfold rdO rdE
  rw [hok, insB_len]
  exact ⟨by simpa using h1, rfl⟩
theorem ins_of_rd {b : List Int} (hb : IsBytes b) (h : rdE b = 0) : mayB (rdO b) = true ∧ insB (rdO b) = b ∧ b.length = 8 := by
  unfold rdE at h
  split at h
  · rename_i hl
    split at h
    · rename_i hok
      have hok' := hok
      unfold rdOk at hok'
      simp only [Bool.and_eq_true] at hok'
      unfold rdO
      rw [hok]
      exact ⟨hok'.2.2, ins_rd hb hl hok'.2.1, hl⟩
    · cases h
  · cases h
theorem get_put_two {c : Int} (h0 : 0 ≤ c) (h1 : c ≤ 256) : getB (putB c 2) = c := by
  rw [putB_two]
  simp only [getB]
  omega
theorem put_get_two {b : List Int} (hb : IsBytes b) (hl : 2 ≤ b.length) : putB (getB (b.take 2)) 2 = b.take 2 := by
  match b, hl with
  | x :: y :: t, _ =>
    have hx := hb x (by simp)
    have hy := hb y (by simp)
    rw [putB_two]
    simp only [List.take_succ_cons, List.take_zero, getB]
    congr 1
    · omega
    · congr 1
      omega
theorem decI_enc {c : Int} {l : List ID} (hm : ∀ x ∈ l, mayB x = true) : decI (encB c l) l.length = l := by
  refine List.ext_getElem? fun i => ?_
  unfold decI
  rw [List.getElem?_map]
  by_cases h : i < l.length
  · rw [List.getElem?_range h, List.getElem?_eq_getElem h, Option.map_some, chunk_enc (List.getElem?_eq_getElem h), (rd_of_ins (hm _ (List.getElem_mem h))).1]
  · rw [List.getElem?_eq_none (by simpa using h), List.getElem?_eq_none (by omega)]
    rfl
theorem dec_enc {c : Int} {l : List ID} (h : (chkP c l).2 = 0) : decR (encB c l) = ((c, l), 0, 0) := by
  have hm := chk_mays h
  obtain ⟨h0, h1, h2, h3, _, _, h4⟩ := chk_ok h
  have hl := encB_len c l
  have hn : decN (encB c l) = l.length := by unfold decN; rw [hl]; omega
  have ht : (encB c l).take 2 = putB c 2 := by
    unfold encB
    rw [List.take_append_of_le_length (by simp [putB]), List.take_of_length_le (by simp [putB])]
  have hg : getB ((encB c l).take 2) = c := by rw [ht, get_put_two h0 h1]
  rw [dec_end ⟨by omega, by omega⟩ (by rw [hg]; omega) (by rw [hn, inB_iff]; omega) (by
    rw [hn]
    intro q hq
    rw [chunk_enc (List.getElem?_eq_getElem hq)]
    exact (rd_of_ins (hm _ (List.getElem_mem hq))).2), hg, hn, decI_enc hm, if_neg (by rw [h]; simp)]
theorem chunks_join {b : List Int} : ∀ (n : Nat), b.length = 2 + 8 * n → (List.range n).flatMap (chunk b) = b.drop 2 := by
  have : ∀ (n : Nat), 2 + 8 * n ≤ b.length → (List.range n).flatMap (chunk b) = (b.drop 2).take (8 * n) := by
    intro n
    induction n with
    | zero => intro _; simp
    | succ n ih =>
      intro h
      rw [List.range_succ, List.flatMap_append, ih (by omega)]
      simp only [List.flatMap_cons, List.flatMap_nil, List.append_nil]
      rw [show 8 * (n + 1) = 8 * n + 8 by omega, List.take_add]
      congr 1
      unfold chunk
      rw [List.drop_drop, show 2 + 8 * n = 2 + 8 * n from rfl]
  intro n h
  rw [this n (by omega), List.take_of_length_le (by rw [List.length_drop]; omega)]
theorem dec_ok {b : List Int} (h : (decR b).2.2 = 0) : (2 ≤ b.length ∧ b.length % 8 = 2) ∧ ¬ 256 < getB (b.take 2) ∧ inB (decN b) 1 64 = true ∧ (∀ q, q < decN b → rdE (chunk b q) = 0) ∧ (chkP (getB (b.take 2)) (decI b (decN b))).2 = 0 ∧ decR b = ((getB (b.take 2), decI b (decN b)), 0, 0) := by
  by_cases h1 : 2 ≤ b.length ∧ b.length % 8 = 2
  · by_cases h2 : 256 < getB (b.take 2)
    · rw [dec_ctx h1 h2] at h; cases h
    · cases h3 : inB (decN b) 1 64
      · rw [dec_long h1 h2 h3] at h; cases h
      · by_cases h4 : ∀ q, q < decN b → rdE (chunk b q) = 0
        · rw [dec_end h1 h2 h3 h4] at h ⊢
          split at h
          · rename_i h5; exact absurd h h5
          · rename_i h5
            simp only [ne_eq, Decidable.not_not] at h5
            rw [if_neg (by rw [h5]; simp)]
            exact ⟨h1, h2, rfl, h4, h5, rfl⟩
        · exfalso
          have : ∃ j, j < decN b ∧ rdE (chunk b j) ≠ 0 ∧ ∀ q, q < j → rdE (chunk b q) = 0 := by
            have hex : ∃ j, j < decN b ∧ rdE (chunk b j) ≠ 0 := by
              refine Classical.byContradiction fun hno => h4 fun q hq => ?_
              exact Classical.byContradiction fun h0 => hno ⟨q, hq, h0⟩
            obtain ⟨j, hj, h0⟩ := hex
            induction j using Nat.strongRecOn with
            | _ j ih =>
              by_cases hall : ∀ q, q < j → rdE (chunk b q) = 0
              · exact ⟨j, hj, h0, hall⟩
              · have : ∃ q, q < j ∧ rdE (chunk b q) ≠ 0 := by
                  refine Classical.byContradiction fun hno => hall fun q hq => ?_
                  exact Classical.byContradiction fun h0 => hno ⟨q, hq, h0⟩
                obtain ⟨q, hq, h00⟩ := this
                exact ih q hq (by omega) h00
          obtain ⟨j, hj, h0, hb⟩ := this
          rw [dec_bad h1 h2 h3 hj hb h0] at h
          exact h0 h
  · rw [dec_short h1] at h; cases h
theorem enc_dec {b : List Int} (hb : IsBytes b) (h : (decR b).2.2 = 0) : (chkP (decR b).1.1 (decR b).1.2).2 = 0 ∧ encB (decR b).1.1 (decR b).1.2 = b := by
  obtain ⟨h1, h2, h3, h4, h5, h6⟩ := dec_ok h
  rw [h6]
  refine ⟨h5, ?_⟩
  dsimp only
  unfold encB
  rw [put_get_two hb h1.1]
  have hn : b.length = 2 + 8 * decN b := by unfold decN; omega
  have : (decI b (decN b)).flatMap insB = b.drop 2 := by
    rw [← chunks_join (decN b) hn]
    unfold decI
    rw [List.flatMap_map]
    have : ∀ (L : List Nat), (∀ i ∈ L, i < decN b) → L.flatMap (fun i => insB (rdO (chunk b i))) = L.flatMap (chunk b) := by
      intro L
      induction L with
      | nil => intro _; rfl
      | cons i t ih =>
        intro hL
        rw [List.flatMap_cons, List.flatMap_cons, (ins_of_rd (chunk_bytes hb i) (h4 i (hL i (by simp)))).2.1, ih fun j hj => hL j (by simp [hj])]
    exact this _ fun i hi => List.mem_range.1 hi
  rw [this, List.take_append_drop]
end Go.Proofs.Ytopanomcbkhbnaa
