/-
  BlocksWhole, plain: the row of counts, and what each round finds. Conditions: those written in each statement.
-/
import Derived.Test.YtbdofidapddgaaaWp
namespace Go.Proofs.Ytbdofidapddgaaa
open Go.RowKit
set_option linter.unusedVariables false
set_option linter.unusedSimpArgs false
def rowF (n : Nat) (f : Nat → Nat) : List Value := (List.range (n + 1)).map fun v => .int .i64 (f v)
theorem rowF_len (n : Nat) (f : Nat → Nat) : (rowF n f).length = n + 1 := by unfold rowF; simp
theorem rowF_get {n j : Nat} (f : Nat → Nat) (h : j < n + 1) : (rowF n f)[j]? = some (.int .i64 (f j)) := by
  unfold rowF
  rw [List.getElem?_map, List.getElem?_range h]
  rfl
theorem rowF_set {n j : Nat} (f : Nat → Nat) (h : j < n + 1) : (rowF n f).set j (.int .i64 ((f j : Int) + 1)) = rowF n (fun v => f v + oneB ((v : Int) == (j : Int))) := by
  apply List.ext_getElem?
  intro v
  rw [List.getElem?_set]
  rcases Nat.lt_or_ge v (n + 1) with hv | hv
  · rw [rowF_get _ hv, rowF_get _ hv, rowF_len]
    by_cases e : j = v
    · subst e
      simp [hv, oneB]
    · have : ((v : Int) == (j : Int)) = false := by simp; omega
      rw [this]
      simp [e, oneB]
  · rw [List.getElem?_eq_none (by rw [rowF_len]; exact hv), List.getElem?_eq_none (by rw [rowF_len]; exact hv), rowF_len]
    by_cases e : j = v
    · omega
    · simp [e]
theorem rowF_zero (n : Nat) : List.replicate (n + 1) (Value.int .i64 0) = rowF n (fun _ => 0) := by
  apply List.ext_getElem?
  intro v
  rcases Nat.lt_or_ge v (n + 1) with hv | hv
  · rw [rowF_get _ hv, List.getElem?_replicate, if_pos hv]
    rfl
  · rw [List.getElem?_eq_none (by simpa using hv), List.getElem?_eq_none (by rw [rowF_len]; exact hv)]
theorem led_both {l : List ID} {k t : Nat} {x : ID} (hx : l[k]? = some x) (ht : tgtB k x = true) (hn : tgtN k x = t) : (fun v : Nat => ledC l (k + 1) v) = fun v : Nat => (ledC l k v + oneB ((v : Int) == (t : Int))) + oneB ((v : Int) == ((k + 1 : Nat) : Int)) := by
  funext v
  rw [ledC, hx]
  dsimp only
  rw [ht, (tgt_jmp2 ht).1, hn, Bool.true_and, Bool.true_and, Nat.add_assoc]
  rfl
theorem led_jump {l : List ID} {k : Nat} {x : ID} (hx : l[k]? = some x) (ht : tgtB k x = false) (hj : jmpB x = true) : (fun v : Nat => ledC l (k + 1) v) = fun v : Nat => ledC l k v + oneB ((v : Int) == ((k + 1 : Nat) : Int)) := by
  funext v
  rw [ledC, hx]
  dsimp only
  rw [ht, hj, Bool.true_and, Bool.false_and, show oneB false = 0 from rfl, Nat.zero_add]
  rfl
theorem led_none {l : List ID} {k : Nat} {x : ID} (hx : l[k]? = some x) (ht : tgtB k x = false) (hj : jmpB x = false) : (fun v : Nat => ledC l (k + 1) v) = fun v : Nat => ledC l k v := by
  funext v
  rw [ledC, hx]
  dsimp only
  rw [ht, hj, Bool.false_and, Bool.false_and]
  rfl
section
variable {l : List ID} (h : OkL l)
include h
/-- What the first loop finds at an instruction. -/
theorem OkL.row {k : Nat} {x : ID} (hx : l[k]? = some x) : ∃ (b : Nat) (y : BD), ofN (blkL l) k = b ∧ ofB (blkL l) k = true ∧ b < (blkL l).length ∧ (blkL l)[b]? = some y ∧ (jmpB x = true → y.to = (k : Int) + 1) ∧
    (tgtB k x = true → ∃ (t b2 : Nat) (y2 : BD) (r : List Int), t < l.length ∧ tgtN k x = (t : Int) ∧ ofN (blkL l) t = b2 ∧ ofB (blkL l) t = true ∧ b2 < (blkL l).length ∧ (blkL l)[b2]? = some y2 ∧ y2.frm = t ∧ y.next = (b2 : Int) :: r) := by
  have hkl := (List.getElem?_eq_some_iff.1 hx).1
  obtain ⟨p, hp, h1, h2, h3, h4, h5⟩ := OkL.at_of (l := l) (i := k) hkl
  obtain ⟨h6, h7⟩ := OkL.of_ (l := l) (i := k) hkl
  refine ⟨_, _, h6, h7, h5, h4, fun hj => h.jump hx hj hp h1 h2, fun ht => ?_⟩
  obtain ⟨ht0, ht1⟩ := tgt_in (h.at_ k x hx) ht
  obtain ⟨t, htt⟩ := Int.eq_ofNat_of_zero_le ht0
  have htl : t < l.length := by omega
  obtain ⟨p2, _, _, _, g3, g4, g5⟩ := OkL.at_of (l := l) (i := t) htl
  obtain ⟨g6, g7⟩ := OkL.of_ (l := l) (i := t) htl
  have hp2 := h.jump hx (tgt_jmp2 ht).1 hp h1 h2
  have hbg : begB l t = true := begB_of hx (by
    unfold mark
    rw [ht, htt]
    simp)
  refine ⟨t, _, _, (if x.kind = 4 ∨ x.kind = 6 then [] else [(ofT (begB l) k : Int) + 1]), htl, htt, g6, g7, g5, g4, g3 hbg, ?_⟩
  rw [OkL.next hx hp2]
  show nextOf _ _ _ _ = _
  unfold nextOf
  rw [ht, htt, if_pos rfl, Int.toNat_natCast]
  rfl
/-- What the second loop finds at a block. -/
theorem OkL.rnd {b : Nat} (hb : b < (blkL l).length) : ∃ (f i : Nat) (x : ID) (y : BD), (blkL l)[b]? = some y ∧ y.frm = (f : Int) ∧ y.to = (i : Int) + 1 ∧ i < l.length ∧ f < l.length + 1 ∧ l[i]? = some x ∧ (0 < b → 0 < ledC l l.length (f : Int)) ∧
    (x.kind ≠ 4 → x.kind ≠ 6 → ∃ r, y.next = r ++ [(b : Int) + 1]) ∧ (x.kind = 6 → y.next = []) := by
  have I := h.bi
  rw [blkL_len] at hb
  have hp : (blkT (begB l) l.length)[b]? = some (blkT (begB l) l.length)[b] := List.getElem?_eq_getElem hb
  generalize (blkT (begB l) l.length)[b] = p at hp
  obtain ⟨i, x, hp2, hil, hx, hL, _⟩ := h.block hp
  obtain ⟨f, hf, hbf⟩ := I.beg _ p hp
  have hlt := I.lt b p hp
  refine ⟨f, i, x, _, hL, hf, rfl, hil, by omega, hx, fun h0 => led_beg hbf ?_, fun h4 h6 => ?_, fun h6 => ?_⟩
  · obtain ⟨b, rfl⟩ : ∃ c, b = c + 1 := ⟨b - 1, by omega⟩
    have hq : (blkT (begB l) l.length)[b]? = some ((blkT (begB l) l.length)[b]'(by omega)) := List.getElem?_eq_getElem _
    have h1 := I.nxt b _ _ hq hp
    have h2 := I.lt _ _ hq
    omega
  · refine ⟨(if tgtB i x then [(ofT (begB l) (tgtN i x).toNat : Int)] else []), ?_⟩
    show nextOf _ _ _ _ = _
    unfold nextOf
    rw [if_neg (show ¬(x.kind = 4 ∨ x.kind = 6) from fun q => q.elim h4 h6)]
  · have ht : tgtB i x = false := by
      cases ht : tgtB i x
      · rfl
      · exact absurd h6 (tgt_jmp2 ht).2
    show nextOf _ _ _ _ = _
    unfold nextOf
    rw [ht, if_pos (Or.inr h6)]
    rfl
end
end Go.Proofs.Ytbdofidapddgaaa
