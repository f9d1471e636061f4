/-
  Plain words on a program's blocks. Conditions: those written in each statement.
-/
import Derived.Test.YtbdofidapddgaaaBj
import Derived.Test.YtbdofidapddgaaaIc
namespace Go.Proofs.Ytbdofidapddgaaa
open Go.RowKit
set_option linter.unusedVariables false
set_option linter.unusedSimpArgs false
def jmpB (x : ID) : Bool := x.kind == 3 || (x.kind == 4 || x.kind == 6)
def mark (i : Nat) (x : ID) (v : Int) : Bool := (jmpB x && (v == (i : Int) + 1)) || (tgtB i x && (v == tgtN i x))
/-- Where blocks begin, as far as the first k instructions tell. -/
def begT (l : List ID) (k : Nat) (v : Int) : Bool := (v == 0) || (List.range k).any fun j => match l[j]? with
  | some x => mark j x v
  | none => false
theorem begT_succ {l : List ID} {k : Nat} {x : ID} (hx : l[k]? = some x) (v : Int) : begT l (k + 1) v = (begT l k v || mark k x v) := by
  unfold begT
  rw [List.range_succ, List.any_append, Bool.or_assoc]
  simp [hx]
def begB (l : List ID) (i : Nat) : Bool := begT l l.length i
theorem begB_zero (l : List ID) : begB l 0 = true := by unfold begB begT; simp
theorem begB_of {l : List ID} {i j : Nat} {x : ID} (hx : l[j]? = some x) (h : mark j x i = true) : begB l i = true := by
  unfold begB begT
  rw [Bool.or_eq_true]
  right
  rw [List.any_eq_true]
  exact ⟨j, List.mem_range.2 (List.getElem?_eq_some_iff.1 hx).1, by rw [hx]; exact h⟩
theorem begB_no {l : List ID} {i : Nat} (h0 : 0 < i) (h : ∀ j x, l[j]? = some x → mark j x i = false) : begB l i = false := by
  unfold begB begT
  rw [Bool.or_eq_false_iff]
  refine ⟨by simp; omega, ?_⟩
  rw [List.any_eq_false]
  intro j hj
  have hj' := List.mem_range.1 hj
  rw [List.getElem?_eq_getElem hj']
  simp [h j _ (List.getElem?_eq_getElem hj')]
theorem begB_inv {l : List ID} {i : Nat} (h : begB l i = true) : i = 0 ∨ ∃ j x, l[j]? = some x ∧ mark j x i = true := by
  unfold begB begT at h
  rw [Bool.or_eq_true] at h
  rcases h with h | h
  · left
    have : (i : Int) = 0 := by simpa using h
    omega
  · right
    rw [List.any_eq_true] at h
    obtain ⟨j, hj, h⟩ := h
    have hj' := List.mem_range.1 hj
    rw [List.getElem?_eq_getElem hj'] at h
    exact ⟨j, _, List.getElem?_eq_getElem hj', h⟩
/-- The last block's end. -/
def extT (q : List (Int × Int)) (t : Int) : List (Int × Int) := q.dropLast ++ [((q.getLast?.map (·.1)).getD 0, t)]
theorem extT_app (r : List (Int × Int)) (f s t : Int) : extT (r ++ [(f, s)]) t = r ++ [(f, t)] := by unfold extT; simp
/-- The blocks of the first k instructions. -/
def blkT (B : Nat → Bool) : Nat → List (Int × Int)
  | 0 => []
  | k + 1 => extT (if B k then blkT B k ++ [((k : Int), 0)] else blkT B k) ((k : Int) + 1)
def preT (B : Nat → Bool) (k : Nat) : List (Int × Int) := if B k then blkT B k ++ [((k : Int), 0)] else blkT B k
theorem blkT_succ (B : Nat → Bool) (k : Nat) : blkT B (k + 1) = extT (preT B k) ((k : Int) + 1) := by rw [blkT]; rfl
theorem blkT_yes {B : Nat → Bool} {k : Nat} (h : B k = true) : blkT B (k + 1) = blkT B k ++ [((k : Int), (k : Int) + 1)] := by
  rw [blkT_succ]
  unfold preT
  rw [if_pos h, extT_app]
/-- What blocks of the first k are. -/
structure BI (B : Nat → Bool) (k : Nat) (q : List (Int × Int)) : Prop where
  ne : 0 < q.length
  le : q.length ≤ k
  fst : ∀ p, q[0]? = some p → p.1 = 0
  lst : ∀ p, q[q.length - 1]? = some p → p.2 = k
  nxt : ∀ (b : Nat) p p', q[b]? = some p → q[b + 1]? = some p' → p.2 = p'.1
  lt : ∀ (b : Nat) p, q[b]? = some p → 0 ≤ p.1 ∧ p.1 < p.2 ∧ p.2 ≤ k
  beg : ∀ (b : Nat) p, q[b]? = some p → ∃ i : Nat, p.1 = i ∧ B i = true
  mid : ∀ (b : Nat) p, q[b]? = some p → ∀ i : Nat, p.1 < i → (i : Int) < p.2 → B i = false
theorem app_at {α : Type} {r : List α} {a : α} {b : Nat} {p : α} (h : (r ++ [a])[b]? = some p) : (b < r.length ∧ r[b]? = some p) ∨ (b = r.length ∧ p = a) := by
  rw [List.getElem?_append] at h
  split at h
  · rename_i q; exact .inl ⟨q, h⟩
  · rename_i q
    right
    have hb : b - r.length = 0 := by
      rcases Nat.eq_zero_or_pos (b - r.length) with e | e
      · exact e
      · rw [List.getElem?_eq_none (by simp; omega)] at h; cases h
    rw [hb] at h
    simp at h
    exact ⟨by omega, h.symm⟩
theorem app_last {α : Type} (r : List α) (a : α) : (r ++ [a])[(r ++ [a]).length - 1]? = some a := by simp
theorem blk_inv {B : Nat → Bool} (h0 : B 0 = true) : ∀ k, 0 < k → BI B k (blkT B k) := by
  intro k
  induction k with
  | zero => intro h; omega
  | succ k ih =>
    intro _
    cases hB : B k with
    | true =>
      rw [blkT_yes hB]
      rcases Nat.eq_zero_or_pos k with hk | hk
      · subst hk
        show BI B 1 [((0 : Nat), ((0 : Nat) : Int) + 1)]
        refine ⟨by simp, by simp, ?_, ?_, ?_, ?_, ?_, ?_⟩
        · intro p hp; simp at hp; subst hp; rfl
        · intro p hp; simp at hp; subst hp; rfl
        · intro b p p' hp hp'; simp at hp'
        · intro b p hp; cases b <;> simp at hp; subst hp; simp
        · intro b p hp; cases b <;> simp at hp; subst hp; exact ⟨0, rfl, h0⟩
        · intro b p hp i h1 h2; cases b <;> simp at hp; subst hp; simp at h1 h2; omega
      · have I := ih hk
        have hl := I.lst
        refine ⟨by simp, by have := I.le; simp; omega, ?_, ?_, ?_, ?_, ?_, ?_⟩
        · intro p hp
          rcases app_at hp with ⟨_, q⟩ | ⟨q, _⟩
          · exact I.fst p q
          · have := I.ne; omega
        · intro p hp
          rw [app_last] at hp
          injection hp with hp
          subst hp
          simp
        · intro b p p' hp hp'
          rcases app_at hp' with ⟨q1, q2⟩ | ⟨q1, rfl⟩
          · rcases app_at hp with ⟨_, q⟩ | ⟨q, _⟩
            · exact I.nxt b p p' q q2
            · omega
          · rcases app_at hp with ⟨_, q⟩ | ⟨q, _⟩
            · exact hl p (by rw [← q1]; simpa using q)
            · omega
        · intro b p hp
          rcases app_at hp with ⟨_, q⟩ | ⟨_, rfl⟩
          · have := I.lt b p q; omega
          · simp; omega
        · intro b p hp
          rcases app_at hp with ⟨_, q⟩ | ⟨_, rfl⟩
          · exact I.beg b p q
          · exact ⟨k, rfl, hB⟩
        · intro b p hp i h1 h2
          rcases app_at hp with ⟨_, q⟩ | ⟨_, rfl⟩
          · exact I.mid b p q i h1 h2
          · simp at h1 h2; omega
    | false =>
      have hk : 0 < k := by
        rcases Nat.eq_zero_or_pos k with h | h
        · subst h; rw [h0] at hB; cases hB
        · exact h
      have I := ih hk
      rw [blkT_succ]
      unfold preT
      rw [if_neg (by rw [hB]; simp)]
      rcases List.eq_nil_or_concat (blkT B k) with h | ⟨r, ⟨f, t⟩, h⟩
      · have := I.ne; rw [h] at this; simp at this
      · rw [List.concat_eq_append] at h
        rw [h] at I ⊢
        rw [extT_app]
        have hl := I.lst _ (app_last r (f, t))
        have hlast : (r ++ [(f, t)])[r.length]? = some (f, t) := by simp
        have hrow : ∀ b p, r[b]? = some p → (r ++ [(f, t)])[b]? = some p := fun b p q => by
          rw [List.getElem?_append_left (List.getElem?_eq_some_iff.1 q).1]; exact q
        have h3 := I.lt _ _ hlast
        dsimp only at hl h3
        refine ⟨by simp, by have := I.le; simp at this ⊢; omega, ?_, ?_, ?_, ?_, ?_, ?_⟩
        · intro p hp
          rcases app_at hp with ⟨_, q⟩ | ⟨q, rfl⟩
          · exact I.fst p (hrow _ _ q)
          · exact I.fst (f, t) (by rw [q]; exact hlast)
        · intro p hp
          rw [app_last] at hp
          injection hp with hp
          subst hp
          simp
        · intro b p p' hp hp'
          rcases app_at hp' with ⟨q1, q2⟩ | ⟨q1, rfl⟩
          · rcases app_at hp with ⟨_, q⟩ | ⟨q, _⟩
            · exact I.nxt b p p' (hrow _ _ q) (hrow _ _ q2)
            · omega
          · rcases app_at hp with ⟨_, q⟩ | ⟨q, _⟩
            · exact I.nxt b p (f, t) (hrow _ _ q) (by rw [q1]; exact hlast)
            · omega
        · intro b p hp
          rcases app_at hp with ⟨_, q⟩ | ⟨_, rfl⟩
          · have := I.lt b p (hrow _ _ q); omega
          · dsimp only; omega
        · intro b p hp
          rcases app_at hp with ⟨_, q⟩ | ⟨_, rfl⟩
          · exact I.beg b p (hrow _ _ q)
          · obtain ⟨i, h1, h2⟩ := I.beg _ _ hlast
            exact ⟨i, h1, h2⟩
        · intro b p hp i h1 h2
          rcases app_at hp with ⟨_, q⟩ | ⟨_, rfl⟩
          · exact I.mid b p (hrow _ _ q) i h1 h2
          · dsimp only at h1 h2
            by_cases e : i = k
            · rw [e]; exact hB
            · exact I.mid _ _ hlast i h1 (by dsimp only; omega)
/-- Which block has an instruction. -/
def ofT (B : Nat → Bool) (i : Nat) : Nat := (blkT B (i + 1)).length - 1
theorem of_in {B : Nat → Bool} (h0 : B 0 = true) (i : Nat) : ∀ k, i + 1 ≤ k → ∃ f t, (blkT B k)[ofT B i]? = some (f, t) ∧ f ≤ i ∧ (i : Int) < t ∧ (B i = true → f = i) := by
  intro k
  induction k with
  | zero => intro h; omega
  | succ k ih =>
    intro hk
    by_cases e : i = k
    · subst e
      have I := blk_inv h0 (i + 1) (by omega)
      unfold ofT
      have hx : (blkT B (i + 1))[(blkT B (i + 1)).length - 1]? = some ((blkT B (i + 1))[(blkT B (i + 1)).length - 1]'(by have := I.ne; omega)) := List.getElem?_eq_getElem _
      generalize (blkT B (i + 1))[(blkT B (i + 1)).length - 1]'(by have := I.ne; omega) = p at hx
      obtain ⟨f, t⟩ := p
      have h1 := I.lst _ hx
      have h2 := I.lt _ _ hx
      dsimp only at h1 h2
      refine ⟨f, t, hx, by omega, by omega, fun hB => ?_⟩
      rw [blkT_yes hB, app_last] at hx
      injection hx with hx
      injection hx with hx _
      exact hx.symm
    · obtain ⟨f, t, h1, h2, h3, h4⟩ := ih (by omega)
      cases hB : B k with
      | true =>
        rw [blkT_yes hB]
        exact ⟨f, t, by rw [List.getElem?_append_left (List.getElem?_eq_some_iff.1 h1).1]; exact h1, h2, h3, h4⟩
      | false =>
        have I := blk_inv h0 k (by omega)
        rw [blkT_succ]
        unfold preT
        rw [if_neg (by rw [hB]; simp)]
        rcases List.eq_nil_or_concat (blkT B k) with h | ⟨r, ⟨f', t'⟩, h⟩
        · have := I.ne; rw [h] at this; simp at this
        · rw [List.concat_eq_append] at h
          rw [h] at h1 I ⊢
          rw [extT_app]
          rcases app_at h1 with ⟨q1, q2⟩ | ⟨q1, q2⟩
          · exact ⟨f, t, by rw [List.getElem?_append_left q1]; exact q2, h2, h3, h4⟩
          · injection q2 with q2 q3
            subst q2 q3
            exact ⟨f, (k : Int) + 1, by rw [q1]; simp, h2, by omega, h4⟩
/-- The blocks' ends do not fall. -/
theorem blk_mono {B : Nat → Bool} {k : Nat} {q : List (Int × Int)} (I : BI B k q) {b c : Nat} {p p' : Int × Int} (hb : q[b]? = some p) (hc : q[c]? = some p') (h : b < c) : p.2 ≤ p'.1 := by
  induction c generalizing p' with
  | zero => omega
  | succ c ih =>
    have hlt := (List.getElem?_eq_some_iff.1 hc).1
    have hx : q[c]? = some q[c] := List.getElem?_eq_getElem (by omega)
    have h1 := I.nxt c _ _ hx hc
    by_cases e : b = c
    · subst e
      rw [hb] at hx
      obtain rfl := Option.some.inj hx
      omega
    · have h2 := ih hx (by omega)
      have h3 := I.lt _ _ hx
      omega
end Go.Proofs.Ytbdofidapddgaaa
