/-
  Plain words on a program's blocks, whole: each instruction is in one of them, jumps end them. Conditions: those written in each statement.
-/
import Derived.Test.YtbdofidapddgaaaLd
import Derived.Test.YtbdofidapddgaaaBo
namespace Go.Proofs.Ytbdofidapddgaaa
open Go.RowKit
set_option linter.unusedVariables false
set_option linter.unusedSimpArgs false
theorem tgt_jmp2 {i : Int} {x : ID} (h : tgtB i x = true) : jmpB x = true ∧ x.kind ≠ 6 := by
  unfold tgtB at h
  unfold jmpB
  simp only [Bool.and_eq_true, Bool.or_eq_true] at h ⊢
  rcases h.1.1 with q | q
  · exact ⟨.inl q, by simp at q; omega⟩
  · exact ⟨.inr (.inl q), by simp at q; omega⟩
/-- A program that may be. -/
structure OkL (l : List ID) : Prop where
  pos : 0 < l.length
  few : l.length ≤ 64
  at_ : ∀ (j : Nat) (x : ID), l[j]? = some x → okAt l.length j x = true
  last : ∀ x, l[l.length - 1]? = some x → x.kind = 4 ∨ x.kind = 6
theorem OkL.of {c : Int} {l : List ID} (h : (chkP c l).2 = 0) : OkL l := by
  obtain ⟨_, _, h1, h2, h3, h4, _⟩ := chk_ok h
  refine ⟨h1, h2, h3, fun x hx => ?_⟩
  unfold lastK at h4
  rw [hx] at h4
  exact h4
section
variable {l : List ID} (h : OkL l)
include h
theorem OkL.bi : BI (begB l) l.length (blkT (begB l) l.length) := blk_inv (begB_zero l) l.length h.pos
omit h in
theorem OkL.at_of {i : Nat} (hi : i < l.length) : ∃ p, (blkT (begB l) l.length)[ofT (begB l) i]? = some p ∧ p.1 ≤ i ∧ (i : Int) < p.2 ∧ (begB l i = true → p.1 = i) ∧ (blkL l)[ofT (begB l) i]? = some (bkAt l (ofT (begB l) i) p) ∧ ofT (begB l) i < (blkL l).length := by
  obtain ⟨f, t, h1, h2, h3, h4⟩ := of_in (begB_zero l) i l.length hi
  exact ⟨(f, t), h1, h2, h3, h4, blkL_at h1, by rw [blkL_len]; exact (List.getElem?_eq_some_iff.1 h1).1⟩
omit h in
theorem OkL.of_ {i : Nat} (hi : i < l.length) : ofN (blkL l) i = ofT (begB l) i ∧ ofB (blkL l) i = true := by
  have := ofK_pairs (begB_zero l) (blkL_pairs l) hi
  unfold ofN ofB
  rw [this]
  exact ⟨rfl, rfl⟩
/-- A jump ends its block. -/
theorem OkL.jump {i : Nat} {x : ID} (hx : l[i]? = some x) (hj : jmpB x = true) {p : Int × Int} (hp : (blkT (begB l) l.length)[ofT (begB l) i]? = some p) (h1 : p.1 ≤ i) (h2 : (i : Int) < p.2) : p.2 = (i : Int) + 1 := by
  have hil := (List.getElem?_eq_some_iff.1 hx).1
  have I := h.bi
  have hlt := I.lt _ p hp
  by_cases e : p.2 = (i : Int) + 1
  · exact e
  · exfalso
    have hb : begB l (i + 1) = true := begB_of hx (by
      unfold mark
      rw [hj]
      simp)
    have := I.mid _ p hp (i + 1) (by omega) (by omega)
    rw [hb] at this
    cases this
omit h in
theorem OkL.next {i : Nat} {x : ID} {b : Nat} {p : Int × Int} (hx : l[i]? = some x) (hp2 : p.2 = (i : Int) + 1) : bkAt l b p = ⟨p.1, (i : Int) + 1, nextOf (begB l) b i x⟩ := by
  obtain ⟨f, t⟩ := p
  dsimp only at hp2
  subst hp2
  exact bkAt_eq hx
/-- A block's last instruction. -/
theorem OkL.block {b : Nat} {p : Int × Int} (hp : (blkT (begB l) l.length)[b]? = some p) : ∃ (i : Nat) (x : ID), p.2 = (i : Int) + 1 ∧ i < l.length ∧ l[i]? = some x ∧ (blkL l)[b]? = some ⟨p.1, (i : Int) + 1, nextOf (begB l) b i x⟩ ∧ (b + 1 = (blkL l).length ↔ i + 1 = l.length) := by
  have I := h.bi
  have hlt := I.lt b p hp
  obtain ⟨i, hi⟩ : ∃ i : Nat, p.2 = (i : Int) + 1 := ⟨(p.2 - 1).toNat, by omega⟩
  have hil : i < l.length := by omega
  have hx : l[i]? = some l[i] := List.getElem?_eq_getElem hil
  refine ⟨i, _, hi, hil, hx, by rw [blkL_at hp, OkL.next hx hi], ?_⟩
  rw [blkL_len]
  have hbl := (List.getElem?_eq_some_iff.1 hp).1
  constructor
  · intro e
    have := I.lst p (by rw [← e]; exact hp)
    omega
  · intro e
    by_cases hb : b + 1 = (blkT (begB l) l.length).length
    · exact hb
    · exfalso
      have hq : (blkT (begB l) l.length)[b + 1]? = some ((blkT (begB l) l.length)[b + 1]'(by omega)) := List.getElem?_eq_getElem _
      have h1 := I.nxt b _ _ hp hq
      have h2 := I.lt _ _ hq
      omega
theorem OkL.may : mayL (blkL l) = true := by
  refine mayL_good fun b y hb hy => ?_
  have I := h.bi
  have hbT : b < (blkT (begB l) l.length).length := by rw [← blkL_len]; exact hb
  have hp : (blkT (begB l) l.length)[b]? = some (blkT (begB l) l.length)[b] := List.getElem?_eq_getElem hbT
  generalize (blkT (begB l) l.length)[b] = p at hp
  obtain ⟨i, x, hp2, hil, hx, hL, hlast⟩ := h.block hp
  rw [hL] at hy
  obtain rfl := (Option.some.inj hy).symm
  have hlt := I.lt b p hp
  have hat : p.1 = atK (blkL l) b := by
    cases b with
    | zero => exact I.fst p hp
    | succ b =>
      have hq : (blkT (begB l) l.length)[b]? = some ((blkT (begB l) l.length)[b]'(by omega)) := List.getElem?_eq_getElem _
      rw [atK_succ (blkL_at hq)]
      exact (I.nxt b _ _ hq hp).symm
  unfold mayAt
  rw [Bool.and_eq_true]
  constructor
  · unfold baseB
    dsimp only
    rw [← hat]
    have := next_len (begB l) b i x
    have := h.few
    simp
    omega
  · rw [List.all_eq_true]
    intro y hy
    dsimp only at hy
    unfold nextOf at hy
    unfold inR
    rcases List.mem_append.1 hy with q | q
    · split at q
      · rename_i ht
        have ht2 := tgt_in (h.at_ i x hx) ht
        obtain ⟨_, _, _, _, _, _, hlt2⟩ := OkL.at_of (l := l) (i := (tgtN i x).toNat) (by omega)
        simp at q
        simp
        omega
      · simp at q
    · split at q
      · simp at q
      · rename_i hk
        have hne : i + 1 ≠ l.length := by
          intro e
          have := h.last x (by rw [show l.length - 1 = i by omega]; exact hx)
          exact hk this
        simp at q
        have : b + 1 ≠ (blkL l).length := fun e => hne (hlast.1 e)
        simp
        omega
theorem OkL.end_ : ∃ y, (blkL l)[(blkL l).length - 1]? = some y ∧ y.to = l.length ∧ 0 < (blkL l).length := by
  have I := h.bi
  have hne := I.ne
  rw [blkL_len]
  have hp : (blkT (begB l) l.length)[(blkT (begB l) l.length).length - 1]? = some ((blkT (begB l) l.length)[(blkT (begB l) l.length).length - 1]'(by omega)) := List.getElem?_eq_getElem _
  exact ⟨_, blkL_at hp, I.lst _ hp, hne⟩
end
/-! ### who leads where -/
def oneB (b : Bool) : Nat := if b then 1 else 0
def ledC (l : List ID) : Nat → Int → Nat
  | 0, _ => 0
  | k + 1, v => ledC l k v + (match l[k]? with
    | some x => oneB (tgtB k x && (v == tgtN k x)) + oneB (jmpB x && (v == (k : Int) + 1))
    | none => 0)
theorem ledC_le (l : List ID) (v : Int) : ∀ k, ledC l k v ≤ 2 * k
  | 0 => Nat.le_refl _
  | k + 1 => by
    have := ledC_le l v k
    rw [ledC]
    have h1 : ∀ b, oneB b ≤ 1 := fun b => by unfold oneB; split <;> omega
    split
    · rename_i x _
      exact Nat.le_trans (Nat.add_le_add this (Nat.add_le_add (h1 _) (h1 _))) (by omega)
    · omega
theorem ledC_pos {l : List ID} {v : Int} {j : Nat} {x : ID} (hx : l[j]? = some x) (hm : mark j x v = true) : ∀ k, j < k → 0 < ledC l k v
  | 0, h => by omega
  | k + 1, h => by
    rw [ledC]
    by_cases e : j = k
    · subst e
      rw [hx]
      dsimp only
      unfold mark at hm
      rw [Bool.or_eq_true] at hm
      rcases hm with q | q
      · rw [q]; exact Nat.add_pos_right _ (Nat.add_pos_right _ (by decide))
      · rw [q]; exact Nat.add_pos_right _ (Nat.add_pos_left (by decide) _)
    · have := ledC_pos hx hm k (by omega)
      omega
theorem led_beg {l : List ID} {i : Nat} (h : begB l i = true) (hi : 0 < i) : 0 < ledC l l.length i := by
  rcases begB_inv h with e | ⟨j, x, hx, hm⟩
  · omega
  · exact ledC_pos hx hm _ (List.getElem?_eq_some_iff.1 hx).1
end Go.Proofs.Ytbdofidapddgaaa
