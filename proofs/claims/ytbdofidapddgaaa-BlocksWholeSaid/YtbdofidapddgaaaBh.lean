/-
  Plain words on which blocks are reached. Conditions: those written in each statement.
-/
import Derived.Test.YtbdofidapddgaaaBg
namespace Go.Proofs.Ytbdofidapddgaaa
open Go.RowKit
set_option linter.unusedVariables false
set_option linter.unusedSimpArgs false
def RtN (l : List BD) : Nat → Nat → Nat → Prop
  | 0, a, c => a = c
  | k + 1, a, c => ∃ x y, l[a]? = some x ∧ y ∈ x.next ∧ RtN l k y.toNat c
/-- One comes from a to c. -/
def Rt (l : List BD) (a c : Nat) : Prop := ∃ k, RtN l k a c
theorem Rt.refl (l : List BD) (a : Nat) : Rt l a a := ⟨0, rfl⟩
theorem rtn_add {l : List BD} : ∀ {k m a b c : Nat}, RtN l k a b → RtN l m b c → RtN l (k + m) a c
  | 0, m, a, b, c, h, g => by
    obtain rfl : a = b := h
    rw [Nat.zero_add]
    exact g
  | k + 1, m, a, b, c, ⟨x, y, h1, h2, h3⟩, g => by
    rw [show k + 1 + m = k + m + 1 by omega]
    exact ⟨x, y, h1, h2, rtn_add h3 g⟩
theorem Rt.trans {l : List BD} {a b c : Nat} (h : Rt l a b) (g : Rt l b c) : Rt l a c := by
  obtain ⟨k, h⟩ := h
  obtain ⟨m, g⟩ := g
  exact ⟨k + m, rtn_add h g⟩
theorem Rt.step {l : List BD} {a : Nat} {x : BD} {y : Int} (hx : l[a]? = some x) (hy : y ∈ x.next) : Rt l a y.toNat := ⟨1, x, y, hx, hy, rfl⟩
def cntF (S : List Bool) : Nat := S.count false
def Mono (S S' : List Bool) : Prop := S'.length = S.length ∧ ∀ i : Nat, S[i]? = some true → S'[i]? = some true
theorem Mono.refl (S : List Bool) : Mono S S := ⟨rfl, fun _ h => h⟩
theorem Mono.trans {S S1 S2 : List Bool} (h : Mono S S1) (g : Mono S1 S2) : Mono S S2 := ⟨g.1.trans h.1, fun i q => g.2 i (h.2 i q)⟩
theorem cnt_mono : ∀ {S S' : List Bool}, Mono S S' → cntF S' ≤ cntF S
  | [], S', h => by
    have : S' = [] := List.eq_nil_of_length_eq_zero h.1
    subst this
    exact Nat.le_refl _
  | a :: S, [], h => by cases h.1
  | a :: S, b :: S', h => by
    have ht : Mono S S' := ⟨by have := h.1; simpa using this, fun i q => by have := h.2 (i + 1) (by simpa using q); simpa using this⟩
    have hr := cnt_mono ht
    have h0 := h.2 0
    unfold cntF at hr ⊢
    cases a <;> cases b <;> simp at h0 ⊢ <;> omega
theorem cnt_set : ∀ {S : List Bool} {b : Nat}, S[b]? = some false → cntF (S.set b true) + 1 = cntF S
  | [], b, h => by simp at h
  | a :: S, 0, h => by
    simp at h
    subst h
    unfold cntF
    simp
  | a :: S, b + 1, h => by
    have := cnt_set (S := S) (b := b) (by simpa using h)
    unfold cntF at this ⊢
    rw [List.set_cons_succ, List.count_cons, List.count_cons]
    omega
theorem mono_set {S : List Bool} {b : Nat} : Mono S (S.set b true) := ⟨by simp, fun i h => by
  rw [List.getElem?_set]
  split
  · rename_i e
    subst e
    have := (List.getElem?_eq_some_iff.1 h).1
    simp [this]
  · exact h⟩
theorem set_true {S : List Bool} {b : Nat} (h : b < S.length) : (S.set b true)[b]? = some true := by simp [h]
theorem bool_at {S : List Bool} {i : Nat} (h : i < S.length) : S[i]? = some true ∨ S[i]? = some false := by
  rw [List.getElem?_eq_getElem h]
  cases S[i] <;> simp
/-- A walk from b is done: what it has marked. -/
structure Dq (l : List BD) (S S' : List Bool) (b : Nat) : Prop where
  mono : Mono S S'
  mark : S'[b]? = some true
  closed : ∀ (i : Nat) (x : BD), S'[i]? = some true → S[i]? = some false → l[i]? = some x → ∀ y ∈ x.next, S'[y.toNat]? = some true
  sound : ∀ i : Nat, S'[i]? = some true → S[i]? = some false → Rt l b i
theorem Dq.same {l : List BD} {S : List Bool} {b : Nat} (h : S[b]? = some true) : Dq l S S b :=
  ⟨Mono.refl S, h, (fun i x h1 h2 => by rw [h1] at h2; cases h2), (fun i h1 h2 => by rw [h1] at h2; cases h2)⟩
/-- A walk from b under way: j of those that b goes on to are walked. -/
structure Lp (l : List BD) (S S' : List Bool) (b j : Nat) (nx : List Int) : Prop where
  mono : Mono S S'
  mark : S'[b]? = some true
  done : ∀ (t : Nat) (y : Int), t < j → nx[t]? = some y → S'[y.toNat]? = some true
  closed : ∀ (i : Nat) (x : BD), S'[i]? = some true → S[i]? = some false → i ≠ b → l[i]? = some x → ∀ y ∈ x.next, S'[y.toNat]? = some true
  sound : ∀ i : Nat, S'[i]? = some true → S[i]? = some false → Rt l b i
  less : cntF S' < cntF S
theorem Lp.start {l : List BD} {S : List Bool} {b : Nat} {nx : List Int} (hb : S[b]? = some false) : Lp l S (S.set b true) b 0 nx := by
  have hlt := (List.getElem?_eq_some_iff.1 hb).1
  have hi : ∀ i : Nat, (S.set b true)[i]? = some true → S[i]? = some false → i = b := fun i h1 h2 => by
    rw [List.getElem?_set] at h1
    split at h1
    · rename_i e; exact e.symm
    · rw [h1] at h2; cases h2
  refine ⟨mono_set, set_true hlt, fun t y h => by omega, fun i x h1 h2 h3 => absurd (hi i h1 h2) h3, fun i h1 h2 => ?_, by have := cnt_set hb; omega⟩
  obtain rfl := hi i h1 h2
  exact Rt.refl _ _
theorem Lp.next {l : List BD} {S S1 S2 : List Bool} {b j : Nat} {nx : List Int} {x : BD} {y : Int} (h : Lp l S S1 b j nx) (hx : l[b]? = some x) (hnx : x.next = nx) (hy : nx[j]? = some y) (d : Dq l S1 S2 y.toNat) : Lp l S S2 b (j + 1) nx := by
  have hold : ∀ i : Nat, S2[i]? = some true → S1[i]? = some true ∨ S1[i]? = some false := fun i hi => bool_at (by
    have := (List.getElem?_eq_some_iff.1 hi).1
    rw [d.mono.1] at this
    exact this)
  refine ⟨h.mono.trans d.mono, d.mono.2 _ h.mark, fun t z ht hz => ?_, fun i w h1 h2 h3 h4 z hz => ?_, fun i h1 h2 => ?_, Nat.lt_of_le_of_lt (cnt_mono d.mono) h.less⟩
  · rcases Nat.lt_or_ge t j with q | q
    · exact d.mono.2 _ (h.done t z q hz)
    · obtain rfl : t = j := by omega
      rw [hy] at hz
      exact Option.some.inj hz ▸ d.mark
  · rcases hold i h1 with q | q
    · exact d.mono.2 _ (h.closed i w q h2 h3 h4 z hz)
    · exact d.closed i w h1 q h4 z hz
  · rcases hold i h1 with q | q
    · exact h.sound i q h2
    · exact (Rt.step hx (by rw [hnx]; exact List.mem_of_getElem? hy)).trans (d.sound i h1 q)
theorem Lp.end_ {l : List BD} {S S1 : List Bool} {b : Nat} {nx : List Int} {x : BD} (h : Lp l S S1 b nx.length nx) (hx : l[b]? = some x) (hnx : x.next = nx) : Dq l S S1 b := by
  refine ⟨h.mono, h.mark, fun i w h1 h2 h4 z hz => ?_, h.sound⟩
  by_cases e : i = b
  · subst e
    rw [hx] at h4
    obtain rfl := Option.some.inj h4
    rw [hnx] at hz
    obtain ⟨t, ht, rfl⟩ := List.getElem_of_mem hz
    exact h.done t _ ht (List.getElem?_eq_getElem ht)
  · exact h.closed i w h1 h2 e h4 z hz
/-- Which blocks are reached from the first one. -/
structure IsR (l : List BD) (S : List Bool) : Prop where
  len : S.length = l.length
  zero : S[0]? = some true
  closed : ∀ (i : Nat) (x : BD), S[i]? = some true → l[i]? = some x → ∀ y ∈ x.next, S[y.toNat]? = some true
  sound : ∀ i : Nat, S[i]? = some true → Rt l 0 i
theorem closed_rt {l : List BD} {S : List Bool} (hc : ∀ (i : Nat) (x : BD), S[i]? = some true → l[i]? = some x → ∀ y ∈ x.next, S[y.toNat]? = some true) : ∀ (k a c : Nat), S[a]? = some true → RtN l k a c → S[c]? = some true
  | 0, a, c, h, g => by
    obtain rfl : a = c := g
    exact h
  | k + 1, a, c, h, ⟨x, y, h1, h2, h3⟩ => closed_rt hc k _ c (hc a x h h1 y h2) h3
theorem IsR.rt {l : List BD} {S : List Bool} (h : IsR l S) (i : Nat) : S[i]? = some true ↔ Rt l 0 i := by
  constructor
  · exact h.sound i
  · rintro ⟨k, hk⟩
    exact closed_rt h.closed k 0 i h.zero hk
theorem IsR.one {l : List BD} {S S' : List Bool} (h : IsR l S) (g : IsR l S') : S = S' := by
  refine List.ext_getElem? fun i => ?_
  rcases Nat.lt_or_ge i l.length with hi | hi
  · have e := (h.rt i).trans (g.rt i).symm
    rcases bool_at (S := S) (i := i) (by rw [h.len]; exact hi) with q | q
    · rw [q, e.1 q]
    · rcases bool_at (S := S') (i := i) (by rw [g.len]; exact hi) with p | p
      · rw [e.2 p] at q; cases q
      · rw [q, p]
  · rw [List.getElem?_eq_none (by rw [h.len]; exact hi), List.getElem?_eq_none (by rw [g.len]; exact hi)]
theorem rep_false {n i : Nat} (h : (List.replicate n false)[i]? = some true) : False := by
  rw [List.getElem?_replicate] at h
  split at h <;> simp at h
theorem rch_dq {l : List BD} {S : List Bool} (h : Dq l (List.replicate l.length false) S 0) : IsR l S := by
  have hf : ∀ i : Nat, S[i]? = some true → (List.replicate l.length false)[i]? = some false := fun i hi => by
    have := (List.getElem?_eq_some_iff.1 hi).1
    rw [h.mono.1] at this
    rcases bool_at this with q | q
    · exact absurd q (fun q => rep_false q)
    · exact q
  exact ⟨by rw [h.mono.1]; simp, h.mark, (fun i x h1 h2 => h.closed i x h1 (hf i h1) h2), (fun i h1 => h.sound i h1 (hf i h1))⟩
end Go.Proofs.Ytbdofidapddgaaa
