/-
  Parts of the proof of SymbcSound. Conditions: those written in each statement.
-/
import Derived.Test.YtepagfkkjlbipaaGreatKaj
import Derived.Laws.Tables
set_option linter.unusedVariables false
set_option linter.unusedSimpArgs false
set_option maxHeartbeats 64000000
set_option maxRecDepth 100000
namespace Go.Proofs.YtepagfkkjlbipaaGreat
open Tryz
section
open Go.RowKit
def jmpB (x : ID) : Bool := x.kind == 3 || (x.kind == 4 || x.kind == 6)
def mark (i : Nat) (x : ID) (v : Int) : Bool := (jmpB x && (v == (i : Int) + 1)) || (tgtB i x && (v == tgtN i x))
def begT (l : List ID) (k : Nat) (v : Int) : Bool := (v == 0) || (List.range k).any fun j => match l[j]? with
 | some x => mark j x v
 | none => false
theorem begT_succ {l : List ID} {k : Nat} {x : ID} (hx : l[k]? = some x) (v : Int) : begT l (k + 1) v = (begT l k v || mark k x v) := by
 unfold begT
 rw [List.range_succ, List.any_append, Bool.or_assoc]
 simp [hx]
def begB (l : List ID) (i : Nat) : Bool := begT l l.length i
theorem begB_zero (l : List ID) : begB l 0 = true := by unfold begB begT; simp
theorem begB_of {l : List ID} {i j : Nat} {x : ID} (hx : l[j]? = some x) (h : mark j x i = true) : begB l i = true := by
 unfold begB begT
 rw [Bool.or_eq_true]
 right
 rw [List.any_eq_true]
 exact ⟨j, List.mem_range.2 (List.getElem?_eq_some_iff.1 hx).1, by rw [hx]; exact h⟩
theorem begB_no {l : List ID} {i : Nat} (h0 : 0 < i) (h : ∀ j x, l[j]? = some x → mark j x i = false) : begB l i = false := by
 unfold begB begT
 rw [Bool.or_eq_false_iff]
 refine ⟨by simp; omega, ?_⟩
 rw [List.any_eq_false]
 intro j hj
 have hj' := List.mem_range.1 hj
 rw [List.getElem?_eq_getElem hj']
 simp [h j _ (List.getElem?_eq_getElem hj')]
def extT (q : List (Int × Int)) (t : Int) : List (Int × Int) := q.dropLast ++ [((q.getLast?.map (·.1)).getD 0, t)]
theorem extT_app (r : List (Int × Int)) (f s t : Int) : extT (r ++ [(f, s)]) t = r ++ [(f, t)] := by unfold extT; simp
def blkT (B : Nat → Bool) : Nat → List (Int × Int)
 | 0 => []
 | k + 1 => extT (if B k then blkT B k ++ [((k : Int), 0)] else blkT B k) ((k : Int) + 1)
def preBk (B : Nat → Bool) (k : Nat) : List (Int × Int) := if B k then blkT B k ++ [((k : Int), 0)] else blkT B k
theorem blkT_succ (B : Nat → Bool) (k : Nat) : blkT B (k + 1) = extT (preBk B k) ((k : Int) + 1) := by rw [blkT]; rfl
theorem blkT_yes {B : Nat → Bool} {k : Nat} (h : B k = true) : blkT B (k + 1) = blkT B k ++ [((k : Int), (k : Int) + 1)] := by
 rw [blkT_succ]
 unfold preBk
 rw [if_pos h, extT_app]
structure BI (B : Nat → Bool) (k : Nat) (q : List (Int × Int)) : Prop where
 ne : 0 < q.length
 le : q.length ≤ k
 fst : ∀ p, q[0]? = some p → p.1 = 0
 lst : ∀ p, q[q.length - 1]? = some p → p.2 = k
 nxt : ∀ (b : Nat) p p', q[b]? = some p → q[b + 1]? = some p' → p.2 = p'.1
 lt : ∀ (b : Nat) p, q[b]? = some p → 0 ≤ p.1 ∧ p.1 < p.2 ∧ p.2 ≤ k
 beg : ∀ (b : Nat) p, q[b]? = some p → ∃ i : Nat, p.1 = i ∧ B i = true
 mid : ∀ (b : Nat) p, q[b]? = some p → ∀ i : Nat, p.1 < i → (i : Int) < p.2 → B i = false
theorem app_at {α : Type} {r : List α} {a : α} {b : Nat} {p : α} (h : (r ++ [a])[b]? = some p) : (b < r.length ∧ r[b]? = some p) ∨ (b = r.length ∧ p = a) := by
 rw [List.getElem?_append] at h
 split at h
 ·rename_i q; exact .inl ⟨q, h⟩
 ·rename_i q
  right
  have hb : b - r.length = 0 := by
   rcases Nat.eq_zero_or_pos (b - r.length) with e | e
   ·exact e
   ·rw [List.getElem?_eq_none (by simp; omega)] at h; cases h
  rw [hb] at h
  simp at h
  exact ⟨by omega, h.symm⟩
theorem app_last {α : Type} (r : List α) (a : α) : (r ++ [a])[(r ++ [a]).length - 1]? = some a := by simp
theorem blk_inv {B : Nat → Bool} (h0 : B 0 = true) : ∀ k, 0 < k → BI B k (blkT B k) := by
 intro k
 induction k with
 | zero => intro h; omega
 | succ k ih =>
  intro _
  cases hB : B k with
  | true =>
   rw [blkT_yes hB]
   rcases Nat.eq_zero_or_pos k with hk | hk
   ·subst hk
    show BI B 1 [((0 : Nat), ((0 : Nat) : Int) + 1)]
    refine ⟨by simp, by simp, ?_, ?_, ?_, ?_, ?_, ?_⟩
    ·intro p hp; simp at hp; subst hp; rfl
    ·intro p hp; simp at hp; subst hp; rfl
    ·intro b p p' hp hp'; simp at hp'
    ·intro b p hp; cases b <;> simp at hp; subst hp; simp
    ·intro b p hp; cases b <;> simp at hp; subst hp; exact ⟨0, rfl, h0⟩
    ·intro b p hp i h1 h2; cases b <;> simp at hp; subst hp; simp at h1 h2; omega
   ·have I := ih hk
    have hl := I.lst
    refine ⟨by simp, by have := I.le; simp; omega, ?_, ?_, ?_, ?_, ?_, ?_⟩
    ·intro p hp
     rcases app_at hp with ⟨_, q⟩ | ⟨q, _⟩
     ·exact I.fst p q
     ·have := I.ne; omega
    ·intro p hp
     rw [app_last] at hp
     injection hp with hp
     subst hp
     simp
    ·intro b p p' hp hp'
     rcases app_at hp' with ⟨q1, q2⟩ | ⟨q1, rfl⟩
     ·rcases app_at hp with ⟨_, q⟩ | ⟨q, _⟩
      ·exact I.nxt b p p' q q2
      ·omega
     ·rcases app_at hp with ⟨_, q⟩ | ⟨q, _⟩
      ·exact hl p (by rw [← q1]; simpa using q)
      ·omega
    ·intro b p hp
     rcases app_at hp with ⟨_, q⟩ | ⟨_, rfl⟩
     ·have := I.lt b p q; omega
     ·simp; omega
    ·intro b p hp
     rcases app_at hp with ⟨_, q⟩ | ⟨_, rfl⟩
     ·exact I.beg b p q
     ·exact ⟨k, rfl, hB⟩
    ·intro b p hp i h1 h2
     rcases app_at hp with ⟨_, q⟩ | ⟨_, rfl⟩
     ·exact I.mid b p q i h1 h2
     ·simp at h1 h2; omega
  | false =>
   have hk : 0 < k := by
    rcases Nat.eq_zero_or_pos k with h | h
    ·subst h; rw [h0] at hB; cases hB
    ·exact h
   have I := ih hk
   rw [blkT_succ]
   unfold preBk
   rw [if_neg (by rw [hB]; simp)]
   rcases List.eq_nil_or_concat (blkT B k) with h | ⟨r, ⟨f, t⟩, h⟩
   ·have := I.ne; rw [h] at this; simp at this
   ·rw [List.concat_eq_append] at h
    rw [h] at I ⊢
    rw [extT_app]
    have hl := I.lst _ (app_last r (f, t))
    have hlast : (r ++ [(f, t)])[r.length]? = some (f, t) := by simp
    have hrow : ∀ b p, r[b]? = some p → (r ++ [(f, t)])[b]? = some p := fun b p q => by
     rw [List.getElem?_append_left (List.getElem?_eq_some_iff.1 q).1]; exact q
    have h3 := I.lt _ _ hlast
    dsimp only at hl h3
    refine ⟨by simp, by have := I.le; simp at this ⊢; omega, ?_, ?_, ?_, ?_, ?_, ?_⟩
    ·intro p hp
     rcases app_at hp with ⟨_, q⟩ | ⟨q, rfl⟩
     ·exact I.fst p (hrow _ _ q)
     ·exact I.fst (f, t) (by rw [q]; exact hlast)
    ·intro p hp
     rw [app_last] at hp
     injection hp with hp
     subst hp
     simp
    ·intro b p p' hp hp'
     rcases app_at hp' with ⟨q1, q2⟩ | ⟨q1, rfl⟩
     ·rcases app_at hp with ⟨_, q⟩ | ⟨q, _⟩
      ·exact I.nxt b p p' (hrow _ _ q) (hrow _ _ q2)
      ·omega
     ·rcases app_at hp with ⟨_, q⟩ | ⟨q, _⟩
      ·exact I.nxt b p (f, t) (hrow _ _ q) (by rw [q1]; exact hlast)
      ·omega
    ·intro b p hp
     rcases app_at hp with ⟨_, q⟩ | ⟨_, rfl⟩
     ·have := I.lt b p (hrow _ _ q); omega
     ·dsimp only; omega
    ·intro b p hp
     rcases app_at hp with ⟨_, q⟩ | ⟨_, rfl⟩
     ·exact I.beg b p (hrow _ _ q)
     ·obtain ⟨i, h1, h2⟩ := I.beg _ _ hlast
      exact ⟨i, h1, h2⟩
    ·intro b p hp i h1 h2
     rcases app_at hp with ⟨_, q⟩ | ⟨_, rfl⟩
     ·exact I.mid b p (hrow _ _ q) i h1 h2
     ·dsimp only at h1 h2
      by_cases e : i = k
      ·rw [e]; exact hB
      ·exact I.mid _ _ hlast i h1 (by dsimp only; omega)
def ofT (B : Nat → Bool) (i : Nat) : Nat := (blkT B (i + 1)).length - 1
theorem of_in {B : Nat → Bool} (h0 : B 0 = true) (i : Nat) : ∀ k, i + 1 ≤ k → ∃ f t, (blkT B k)[ofT B i]? = some (f, t) ∧ f ≤ i ∧ (i : Int) < t ∧ (B i = true → f = i) := by
 intro k
 induction k with
 | zero => intro h; omega
 | succ k ih =>
  intro hk
  by_cases e : i = k
  ·subst e
   have I := blk_inv h0 (i + 1) (by omega)
   unfold ofT
   have hx : (blkT B (i + 1))[(blkT B (i + 1)).length - 1]? = some ((blkT B (i + 1))[(blkT B (i + 1)).length - 1]'(by have := I.ne; omega)) := List.getElem?_eq_getElem _
   generalize (blkT B (i + 1))[(blkT B (i + 1)).length - 1]'(by have := I.ne; omega) = p at hx
   obtain ⟨f, t⟩ := p
   have h1 := I.lst _ hx
   have h2 := I.lt _ _ hx
   dsimp only at h1 h2
   refine ⟨f, t, hx, by omega, by omega, fun hB => ?_⟩
   rw [blkT_yes hB, app_last] at hx
   injection hx with hx
   injection hx with hx _
   exact hx.symm
  ·obtain ⟨f, t, h1, h2, h3, h4⟩ := ih (by omega)
   cases hB : B k with
   | true =>
    rw [blkT_yes hB]
    exact ⟨f, t, by rw [List.getElem?_append_left (List.getElem?_eq_some_iff.1 h1).1]; exact h1, h2, h3, h4⟩
   | false =>
    have I := blk_inv h0 k (by omega)
    rw [blkT_succ]
    unfold preBk
    rw [if_neg (by rw [hB]; simp)]
    rcases List.eq_nil_or_concat (blkT B k) with h | ⟨r, ⟨f', t'⟩, h⟩
    ·have := I.ne; rw [h] at this; simp at this
    ·rw [List.concat_eq_append] at h
     rw [h] at h1 I ⊢
     rw [extT_app]
     rcases app_at h1 with ⟨q1, q2⟩ | ⟨q1, q2⟩
     ·exact ⟨f, t, by rw [List.getElem?_append_left q1]; exact q2, h2, h3, h4⟩
     ·injection q2 with q2 q3
      subst q2 q3
      exact ⟨f, (k : Int) + 1, by rw [q1]; simp, h2, by omega, h4⟩
theorem blk_mono {B : Nat → Bool} {k : Nat} {q : List (Int × Int)} (I : BI B k q) {b c : Nat} {p p' : Int × Int} (hb : q[b]? = some p) (hc : q[c]? = some p') (h : b < c) : p.2 ≤ p'.1 := by
 induction c generalizing p' with
 | zero => omega
 | succ c ih =>
  have hlt := (List.getElem?_eq_some_iff.1 hc).1
  have hx : q[c]? = some q[c] := List.getElem?_eq_getElem (by omega)
  have h1 := I.nxt c _ _ hx hc
  by_cases e : b = c
  ·subst e
   rw [hb] at hx
   obtain rfl := Option.some.inj hx
   omega
  ·have h2 := ih hx (by omega)
   have h3 := I.lt _ _ hx
   omega
end
section
open Go.RowKit
open Go.Maps (Keyed)
theorem infT : (prog.info? 3).map (fun i => (i.zero, i.size, i.bytes)) = some (some (.int .i64 0), 1, 8) := by kernel_rfl
theorem i64K : KeyEnc prog 3 (Value.int .i64) I64 where
 keyed := Go.Maps.int_keyed underlying3
 reads := fun x h => ⟨_, Go.Maps.keyOf_int_mk underlying3 (wf_i64 h)⟩
 inj := fun x y _ _ h => by injection h
theorem zeroBo : ∀ w : World, (zeroValue 4).run prog w = .ok (.bool false) w := fun w => by kernel_rfl
section
variable {κ : Type} [DecidableEq κ] {P : Program} {k : TypeId} {enc : κ → Value} {V : κ → Prop} {w : World} {b n : Nat} {f : κ → Option Value}
theorem wpList_insert {ops : Array Oper} {rest : List Oper} {o : Oper} {a : Act} {Q : Exit → Act → World → Prop} (hg : o.guard = none) (m y v : Operand) (t : TypeId) (hop : o.op = Op.insert t m y v)
  (e : TypeId) (E : KeyEnc P k enc V) (ht : P.underlying t = some (.map k e)) (h : MapIs P k enc V w b n f) (hn : n < maxLen) (x : κ) (hx : V x) (val : Value) (hm : a.eval m = .map (some b)) (hy : a.eval y = enc x) (hv : a.eval v = val)
  (hK : ∀ w', MapIs P k enc V w' b (n + 1) (putF f x val) → w.grownBy w' (some b) → wpList P ops Q rest (a.put o.dst undef) w') : wpList P ops Q (o :: rest) a w := by
 refine wpList_plain hg fun K' hK' => ?_
 obtain ⟨w', hrun, r1, r2⟩ := h.update E ht hn x hx val
 unfold Oper.wp
 simp [execOp, hop, hm, hy, hv, hrun, Result.andThen]
 exact hK' _ _ (hK w' r1 r2)
end
def begM (l : List ID) (k : Nat) : Int → Option Value := fun v => if begT l k v then some (.bool true) else none
def begJ (l : List ID) (k : Nat) (x : ID) : Int → Option Value := fun v => if (begT l k v || (jmpB x && (v == (k : Int) + 1))) then some (.bool true) else none
theorem begM_zero (l : List ID) (v : Int) : begM l 0 v = putF (fun _ => none) 0 (.bool true) v := by
 unfold begM begT putF
 by_cases h : v = 0 <;> simp [h]
theorem begJ_no {l : List ID} {k : Nat} {x : ID} (h : jmpB x = false) (v : Int) : begJ l k x v = begM l k v := by
 unfold begJ begM
 rw [h]
 simp
theorem begJ_yes {l : List ID} {k : Nat} {x : ID} (h : jmpB x = true) (v : Int) : begJ l k x v = putF (begM l k) ((k : Int) + 1) (.bool true) v := by
 unfold begJ begM putF
 rw [h]
 by_cases e : v = (k : Int) + 1 <;> simp [e]
theorem begM_no {l : List ID} {k : Nat} {x : ID} (hx : l[k]? = some x) (h : tgtB k x = false) (v : Int) : begM l (k + 1) v = begJ l k x v := by
 unfold begM begJ
 rw [begT_succ hx]
 unfold mark
 rw [h]
 simp
theorem begM_yes {l : List ID} {k : Nat} {x : ID} (hx : l[k]? = some x) (h : tgtB k x = true) (v : Int) : begM l (k + 1) v = putF (begJ l k x) (tgtN k x) (.bool true) v := by
 unfold begM begJ putF
 rw [begT_succ hx]
 unfold mark
 rw [h]
 by_cases e : v = tgtN k x
 ·subst e; simp
 ·simp [e]
theorem begM_look (l : List ID) (i : Nat) : (begM l l.length (i : Int)).getD (.bool false) = .bool (begB l i) := by
 unfold begM begB
 cases begT l l.length (i : Int) <;> rfl
theorem tgt_in {n : Nat} {i : Nat} {x : ID} (h : okAt n i x = true) (ht : tgtB i x = true) : 0 ≤ tgtN i x ∧ tgtN i x < n := by
 unfold okAt at h
 rw [ht] at h
 simp only [Bool.true_and, Bool.not_not, Bool.and_eq_true] at h
 have := inB_iff.1 h.2
 omega
structure EnF (c : Int) (A : Option Addr) (n cap : Nat) (l : List ID) (w W : World) : Prop where
 box0 : W.cell? ⟨w.heap.size, 0, none⟩ = some (.int .i64 c)
 box1 : W.cell? ⟨w.heap.size, 1, none⟩ = some (.slice A n cap)
 ins : InsAt W w.heap.size A n l
 below : Below w.heap.size w W
 lt : w.heap.size < W.heap.size
section
variable {c : Int} {A : Option Addr} {n cap : Nat} {l : List ID} {w W V : World}
theorem EnF.grown (h : EnF c A n cap l w W) {row : Option Nat} (hg : W.grownBy V row) (hr : ∀ g, row = some g → w.heap.size + 1 ≤ g) : EnF c A n cap l w V := by
 have hb := hg.block w.heap.size h.lt (fun e => by have := hr _ e.symm; omega)
 exact ⟨(World.cell?_of_block (a := ⟨w.heap.size, 0, none⟩) hb).trans h.box0, (World.cell?_of_block (a := ⟨w.heap.size, 1, none⟩) hb).trans h.box1, ⟨h.ins.1, h.ins.2.1, h.ins.2.2.grown hg h.below.size (fun g e => by have := hr g e; omega)⟩, h.below.grown hg h.below.size (fun g e => by have := hr g e; omega), Nat.lt_of_lt_of_le h.lt hg.size⟩
theorem EnF.step (h : EnF c A n cap l w W) (hb : Below W.heap.size W V) : EnF c A n cap l w V := h.grown (only_of_below hb none) (fun g e => by cases e)
theorem EnF.new (hh : InsAt w w.heap.size A n l) : EnF c A n cap l w (w.alloc (.cells #[.int .i64 c, .slice A n cap] 24)) :=
 ⟨(Blk.new w 24 #[.int .i64 c, .slice A n cap]).cell 0, (Blk.new w 24 #[.int .i64 c, .slice A n cap]).cell 1, hh.alloc (Nat.le_refl _) _, (Below.refl _ _).alloc (Nat.le_refl _) _, by simp⟩
end
def pr0 (p : Int × Int) : BD × Value := (⟨p.1, p.2, []⟩, .slice none 0 0)
def rowC (q : List (Int × Int)) : List Value := (q.map pr0).flatMap bkC
theorem bk_len (q : List (BD × Value)) : (q.flatMap bkC).length = q.length * 3 := by
 induction q with
 | nil => rfl
 | cons x t ih => rw [List.flatMap_cons, List.length_append, ih]; simp [bkC]; omega
theorem rowC_app (q : List (Int × Int)) (f t : Int) : rowC (q ++ [(f, t)]) = rowC q ++ [.int .i64 f, .int .i64 t, .slice none 0 0] := by
 unfold rowC
 rw [List.map_append, List.flatMap_append]
 rfl
theorem rowC_len (q : List (Int × Int)) : (rowC q).length = q.length * 3 := by unfold rowC; rw [bk_len, List.length_map]
theorem rowC_set {q : List (Int × Int)} (hq : 0 < q.length) (t : Int) : (rowC q).set ((q.length - 1) * 3 + 1) (.int .i64 t) = rowC (extT q t) := by
 rcases List.eq_nil_or_concat q with h | ⟨r, ⟨f, s⟩, h⟩
 ·subst h; simp at hq
 ·rw [List.concat_eq_append] at h
  subst h
  rw [extT_app, rowC_app, rowC_app, List.length_append, show r.length + [(f, s)].length - 1 = r.length by simp, List.set_append_right _ _ (by rw [rowC_len]; omega), rowC_len, show r.length * 3 + 1 - r.length * 3 = 1 by omega]
  rfl
theorem extT_len {q : List (Int × Int)} (hq : 0 < q.length) (t : Int) : (extT q t).length = q.length := by
 unfold extT
 simp
 omega
theorem pre_len {B : Nat → Bool} (k : Nat) (hq : 0 < (preBk B k).length) : (blkT B (k + 1)).length = (preBk B k).length := by rw [blkT_succ, extT_len hq]
theorem of_pre {B : Nat → Bool} (k : Nat) (hq : 0 < (preBk B k).length) : ofT B k = (preBk B k).length - 1 := by unfold ofT; rw [pre_len k hq]
def ofC (B : Nat → Bool) (n k : Nat) : List Value := (List.range n).map fun i => .int .i64 (if i < k then (ofT B i : Int) else 0)
theorem ofC_zero (B : Nat → Bool) (n : Nat) : (madeCells (Value.int .i64 0).cells (n * 1)).toList = ofC B n 0 := by
 rw [Nat.mul_one]
 show (madeCells #[Value.int .i64 0] n).toList = _
 rw [toList_madeCells_one]
 unfold ofC
 refine List.ext_getElem (by simp) fun i h1 h2 => ?_
 simp
theorem ofC_set {B : Nat → Bool} {n k : Nat} (hk : k < n) : (ofC B n k).set k (.int .i64 (ofT B k : Int)) = ofC B n (k + 1) := by
 unfold ofC
 refine List.ext_getElem (by simp) fun i h1 h2 => ?_
 rw [List.getElem_set]
 split
 ·rename_i e
  subst e
  simp
 ·rename_i e
  simp only [List.getElem_map, List.getElem_range]
  by_cases h : i < k
  ·rw [if_pos h, if_pos (by omega)]
  ·rw [if_neg h, if_neg (by omega)]
theorem ofC_at {B : Nat → Bool} {n i : Nat} (hi : i < n) : (ofC B n n)[i]? = some (.int .i64 (ofT B i : Int)) := by
 unfold ofC
 rw [List.getElem?_map, List.getElem?_range hi]
 simp [hi]
theorem of_le {B : Nat → Bool} (h0 : B 0 = true) (i : Nat) : ofT B i ≤ i := by
 have := (blk_inv h0 (i + 1) (by omega)).le
 unfold ofT
 omega
/-! ### the blocks, whole -/
def nextOf (B : Nat → Bool) (b i : Nat) (x : ID) : List Int := (if tgtB i x then [(ofT B (tgtN i x).toNat : Int)] else []) ++ (if x.kind = 4 ∨ x.kind = 6 then [] else [(b : Int) + 1])
def bkAt (l : List ID) (b : Nat) (p : Int × Int) : BD := ⟨p.1, p.2, match l[(p.2 - 1).toNat]? with
 | some x => nextOf (begB l) b (p.2 - 1).toNat x
 | none => []⟩
def blkL (l : List ID) : List BD := (blkT (begB l) l.length).mapIdx (bkAt l)
theorem blkL_len (l : List ID) : (blkL l).length = (blkT (begB l) l.length).length := by unfold blkL; rw [List.length_mapIdx]
theorem blkL_at {l : List ID} {b : Nat} {p : Int × Int} (h : (blkT (begB l) l.length)[b]? = some p) : (blkL l)[b]? = some (bkAt l b p) := by
 unfold blkL
 rw [List.getElem?_mapIdx, h]
 rfl
theorem bkAt_eq {l : List ID} {b i : Nat} {f : Int} {x : ID} (hx : l[i]? = some x) : bkAt l b (f, (i : Int) + 1) = ⟨f, (i : Int) + 1, nextOf (begB l) b i x⟩ := by
 unfold bkAt
 dsimp only
 rw [show ((i : Int) + 1 - 1).toNat = i by omega, hx]
theorem next_len (B : Nat → Bool) (b i : Nat) (x : ID) : (nextOf B b i x).length ≤ 2 := by
 unfold nextOf
 rw [List.length_append]
 split <;> split <;> simp
theorem next_i64 {B : Nat → Bool} (h0 : B 0 = true) {n b i : Nat} {x : ID} (hb : b < 1000) (hn : n < 1000) (ht : tgtB i x = true → 0 ≤ tgtN i x ∧ tgtN i x < n) : ∀ y ∈ nextOf B b i x, I64 y := by
 intro y hy
 unfold nextOf at hy
 unfold I64
 rcases List.mem_append.1 hy with h | h
 ·split at h
  ·rename_i q
   have := ht q
   have h2 := of_le h0 (tgtN i x).toNat
   simp at h
   omega
  ·simp at h
 ·split at h
  ·simp at h
  ·simp at h
   omega
theorem bk_set {q1 R : List (BD × Value)} {x : BD} {s v : Value} : ((q1 ++ (x, s) :: R).flatMap bkC).set (q1.length * 3 + 2) v = (q1 ++ (x, v) :: R).flatMap bkC := by
 rw [List.flatMap_append, List.flatMap_append, List.set_append_right _ _ (by rw [bk_len]; omega), bk_len, show q1.length * 3 + 2 - q1.length * 3 = 2 by omega]
 rfl
theorem bk_cell {q1 R : List (BD × Value)} {x : BD} {s : Value} (j : Nat) (u : Value) (h : (bkC (x, s))[j]? = some u) : ((q1 ++ (x, s) :: R).flatMap bkC)[q1.length * 3 + j]? = some u :=
 bflat_at bkC 3 _ (fun z _ => rfl) q1.length j (x, s) u (by simp) h
theorem mem_blkL {l : List ID} {x : BD} (h : x ∈ blkL l) : ∃ b p, (blkT (begB l) l.length)[b]? = some p ∧ (blkL l)[b]? = some x ∧ x = bkAt l b p := by
 obtain ⟨b, hb, rfl⟩ := List.getElem_of_mem h
 have hb2 : b < (blkT (begB l) l.length).length := by rw [← blkL_len]; exact hb
 have hx := blkL_at (List.getElem?_eq_getElem hb2)
 refine ⟨b, _, List.getElem?_eq_getElem hb2, List.getElem?_eq_getElem hb, ?_⟩
 rw [List.getElem?_eq_getElem hb] at hx
 exact Option.some.inj hx
theorem blkL_ok {l : List ID} (h1 : 0 < l.length) (hn : l.length ≤ 64) (hok : ∀ (j : Nat) (x : ID), l[j]? = some x → okAt l.length j x = true) : ∀ x ∈ blkL l, x.wf ∧ (∀ y ∈ x.next, I64 y) ∧ x.next.length ≤ 2 := by
 intro x hx
 obtain ⟨b, p, hp, _, rfl⟩ := mem_blkL hx
 have I := blk_inv (begB_zero l) l.length h1
 have hlt := I.lt b p hp
 have hle := I.le
 have hb := (List.getElem?_eq_some_iff.1 hp).1
 have hw : I64 p.1 ∧ I64 p.2 := by unfold I64; omega
 unfold bkAt
 refine ⟨hw, ?_⟩
 dsimp only
 cases hx : l[(p.2 - 1).toNat]? with
 | none => exact ⟨fun y hy => by simp at hy, by simp⟩
 | some x => exact ⟨next_i64 (n := l.length) (begB_zero l) (by omega) (by omega) (fun ht => tgt_in (hok _ x hx) ht), next_len _ _ _ _⟩
def blkR (c : Int) (l : List ID) : List BD := if (chkP c l).2 = 0 then blkL l else []
def RnP (c : Int) (l : List ID) (w : World) (e : Ending) (w' : World) : Prop :=
 ∃ A cap, e = .returned (.tuple #[.slice A (blkR c l).length cap, .int .i64 (chkP c l).2]) ∧ (blkR c l).length ≤ cap ∧ BksN w' (fun k => k < w.heap.size) A (blkR c l).length (blkR c l) ∧ Below w.heap.size w w'
theorem rn_bad {c : Int} {l : List ID} {w w' : World} {er : Int} (he : (chkP c l).2 = er) (h : er ≠ 0) (hb : Below w.heap.size w w') : RnP c l w (.returned (.tuple #[.slice none 0 0, .int .i64 er])) w' := by
 unfold RnP blkR
 rw [he, if_neg h]
 exact ⟨none, 0, rfl, Nat.le_refl _, BksN.nil, hb⟩
def DnP (W : World) (g : Nat) (q : List (BD × Value)) : Prop := ∀ p ∈ q, W.ownsRow (g + 1) 3 1 p.2 p.1.next.length (p.1.next.map (Value.int .i64))
theorem DnP.grown {W V : World} {g : Nat} {q : List (BD × Value)} (h : DnP W g q) {row : Option Nat} (hg : W.grownBy V row) (hr : ∀ r, row = some r → r ≤ g ∨ W.heap.size ≤ r) : DnP V g q := fun p hp => (h p hp).kept hg (by
 rcases hv : p.2.ownBlock with _ | r
 ·exact .inl rfl
 ·right
  intro e
  have := (RowL.of_own (h p hp)).ge r hv
  have := hr r e.symm
  omega)
theorem DnP.at_ {W : World} {g : Nat} {q : List (BD × Value)} (h : DnP W g q) {A : Option Addr} {cap lo : Nat} {B m : Nat} {l : List BD} (hq : q.map (·.1) = l) (hm : q.length = m) (hr : RowL W B 44 3 (.slice A m cap) m (q.flatMap bkC))
  (hw : ∀ x ∈ l, x.wf ∧ (∀ y ∈ x.next, I64 y) ∧ x.next.length ≤ 2) (hB : lo ≤ B) (hg : lo ≤ g + 1) : BksN W (fun k => k < lo) A m l := by
 obtain ⟨A', c', e, _, hrd⟩ := hr.slice
 injection e with e1 _ e2
 subst e1 e2
 refine ⟨q, hq, hm, ⟨hrd.1, fun hn => ?_⟩, fun p hp => ?_⟩
 ·obtain ⟨ad, e, hb, hc⟩ := hrd.2 hn
  subst e
  exact ⟨ad, rfl, hb, fun q => by have := (hr.ge _ rfl).1; omega, hc⟩
 have hx := hw p.1 (by rw [← hq]; exact List.mem_map.2 ⟨p, hp, rfl⟩)
 obtain ⟨A2, c2, e2, hc2, hR2⟩ := ReadsF.of_own (F := fun k => k < lo) (h p hp) (fun b hb q => by have := (own_ge (h p hp) b hb).1; omega)
 exact ⟨hx.1, A2, c2, e2, hc2, hR2, hx.2.1, by omega⟩
theorem rowl_ne {W : World} {b b' : Nat} {e e' : TypeId} {s s' n n' c : Nat} {xs ys : List Value} {v : Value} {g : Nat} (h : RowL W b e s (.slice (some ⟨g, 0, none⟩) n c) n xs) (h' : RowL W b' e' s' v n' ys) (hne : e ≠ e') : v.ownBlock ≠ some g := by
 intro hv
 rcases h.2 with ⟨q, _⟩ | ⟨g1, cap1, cur1, q1, _, q2, _⟩
 ·simp at q
 ·simp only [Value.slice.injEq, Option.some.injEq, Addr.mk.injEq, and_true, true_and] at q1
  obtain ⟨rfl, rfl⟩ := q1
  rcases h'.2 with ⟨p, _⟩ | ⟨g2, cap2, cur2, p1, _, p2, _⟩
  ·rw [p] at hv; simp [Value.ownBlock] at hv
  ·rw [p1] at hv
   simp [Value.ownBlock] at hv
   subst hv
   rw [q2] at p2
   injection p2 with p2
   injection p2 with _ p2
   exact hne p2
theorem map_ne {W : World} {b : Nat} {e : TypeId} {s n : Nat} {xs : List Value} {v : Value} (h : RowL W b e s v n xs) {κ : Type} {kt : TypeId} {enc : κ → Value} {V : κ → Prop} {g m : Nat} {f : κ → Option Value} (hm : MapIs prog kt enc V W g m f) : v.ownBlock ≠ some g := by
 intro hv
 rcases h.2 with ⟨q, _⟩ | ⟨g1, cap1, cur1, q1, _, q2, _⟩
 ·rw [q] at hv; simp [Value.ownBlock] at hv
 ·rw [q1] at hv
  simp [Value.ownBlock] at hv
  subst hv
  obtain ⟨es, cl, hb, _⟩ := hm
  rw [q2] at hb
  cases hb
theorem infBk : (prog.info? 44).map (fun i => (i.zero, i.size, i.bytes)) = some (some (.agg #[.int .i64 0, .int .i64 0, .slice none 0 0]), 3, 40) := by kernel_rfl
theorem sizI_ : (prog.info? 47).map (·.size) = some 9 := by kernel_rfl
theorem build_bk (i : Int) (w : World) : (Instr.build 44 #[(0, .int .i64 i)]).run prog w = .ok (.agg #[.int .i64 i, .int .i64 0, .slice none 0 0]) w := run_build w 44 _ _ (by kernel_rfl)
theorem row_done {q1 R : List (BD × Value)} {f t : Int} {nx : List Int} {s : Value} : (q1 ++ (BD.mk f t [], s) :: R).flatMap bkC = ((q1 ++ [(BD.mk f t nx, s)]) ++ R).flatMap bkC := by
 rw [List.flatMap_append, List.flatMap_append, List.flatMap_append, List.flatMap_cons, List.flatMap_cons, List.flatMap_nil, List.append_nil, List.append_assoc]
 rfl
theorem own_not {W : World} {b s n g : Nat} {e : TypeId} {v : Value} {xs : List Value} (h : W.ownsRow b e s v n xs) (hg : g < b) : v.ownBlock = none ∨ v.ownBlock ≠ some g := by
 right
 intro hv
 have := (RowL.of_own h).ge g hv
 omega
theorem rowC_one (f t : Int) : ∀ u ∈ [Value.int .i64 f, .int .i64 t, .slice none 0 0], u.oneCell' = true := by
 intro u hu
 simp at hu
 rcases hu with rfl | rfl | rfl <;> rfl
end
section
open Go.RowKit
def fieldsR (x : ID) : ID :=
 if x.kind = 0 then ⟨0, x.op, x.width, 0, x.byReg && x.op != 8, x.dst, if x.byReg && x.op != 8 then x.src else 0, 0, if x.byReg && x.op != 8 then 0 else if x.op != 8 then x.imm else 0⟩
 else if x.kind = 1 then ⟨1, 0, 0, x.size, false, x.dst, x.src, x.off, 0⟩
 else if x.kind = 2 then ⟨2, 0, 0, x.size, false, x.dst, x.src, x.off, 0⟩
 else if x.kind = 3 then ⟨3, x.op, 0, 0, x.byReg, x.dst, if x.byReg then x.src else 0, x.off, if x.byReg then 0 else x.imm⟩
 else if x.kind = 4 then ⟨4, 0, 0, 0, false, 0, 0, x.off, 0⟩
 else if x.kind = 5 then ⟨5, 0, 0, 0, false, 0, 0, 0, x.imm⟩
 else kz x.kind
def FieldsP (x : ID) (w : World) (e : Ending) (w' : World) : Prop := e = .returned (.agg (fieldsR x).cells.toArray) ∧ Below w.heap.size w w'
theorem fields_0t (op wd sz dst src off imm : Int) (w : World) : Calls prog 93 #[.agg #[.int .i8 0, .int .i8 op, .int .i8 wd, .int .i8 sz, .bool true, .int .i8 dst, .int .i8 src, .int .i64 off, .int .i64 imm]] w (FieldsP ⟨0, op, wd, sz, true, dst, src, off, imm⟩ w) := by
 have h8 : (op == 8) = true ∧ (op != 8) = false ∨ (op == 8) = false ∧ (op != 8) = true := by cases h : (op == 8) <;> simp [bne, h]
 rcases h8 with ⟨h8, h8'⟩ | ⟨h8, h8'⟩
 all_goals
  go_enter func93, ntmps93
  go_wp2
  refine bodyPost_ret (v := .agg (fieldsR ⟨0, op, wd, sz, true, dst, src, off, imm⟩).cells.toArray) (by simp [results, results93, go_sem, fieldsR, kz, ID.cells, *]) rfl ⟨rfl, ?_⟩
  exact (((Below.refl _ _).alloc (Nat.le_refl _) _).alloc (le_alloc _ (Nat.le_refl _)) _).alloc (le_alloc _ (le_alloc _ (Nat.le_refl _))) _
theorem fields_0f (op wd sz dst src off imm : Int) (w : World) : Calls prog 93 #[.agg #[.int .i8 0, .int .i8 op, .int .i8 wd, .int .i8 sz, .bool false, .int .i8 dst, .int .i8 src, .int .i64 off, .int .i64 imm]] w (FieldsP ⟨0, op, wd, sz, false, dst, src, off, imm⟩ w) := by
 have h8 : (op == 8) = true ∧ (op != 8) = false ∨ (op == 8) = false ∧ (op != 8) = true := by cases h : (op == 8) <;> simp [bne, h]
 rcases h8 with ⟨h8, h8'⟩ | ⟨h8, h8'⟩
 all_goals
  go_enter func93, ntmps93
  go_wp2
  refine bodyPost_ret (v := .agg (fieldsR ⟨0, op, wd, sz, false, dst, src, off, imm⟩).cells.toArray) (by simp [results, results93, go_sem, fieldsR, kz, ID.cells, *]) rfl ⟨rfl, ?_⟩
  exact (((Below.refl _ _).alloc (Nat.le_refl _) _).alloc (le_alloc _ (Nat.le_refl _)) _).alloc (le_alloc _ (le_alloc _ (Nat.le_refl _))) _
theorem fields_1 (op wd sz dst src off imm : Int) (br : Bool) (w : World) : Calls prog 93 #[.agg #[.int .i8 1, .int .i8 op, .int .i8 wd, .int .i8 sz, .bool br, .int .i8 dst, .int .i8 src, .int .i64 off, .int .i64 imm]] w (FieldsP ⟨1, op, wd, sz, br, dst, src, off, imm⟩ w) := by
 go_enter func93, ntmps93
 go_wp2
 refine bodyPost_ret (v := .agg (fieldsR ⟨1, op, wd, sz, br, dst, src, off, imm⟩).cells.toArray) (by simp [results, results93, go_sem, fieldsR, kz, ID.cells, *]) rfl ⟨rfl, ?_⟩
 exact (((Below.refl _ _).alloc (Nat.le_refl _) _).alloc (le_alloc _ (Nat.le_refl _)) _).alloc (le_alloc _ (le_alloc _ (Nat.le_refl _))) _
theorem fields_2 (op wd sz dst src off imm : Int) (br : Bool) (w : World) : Calls prog 93 #[.agg #[.int .i8 2, .int .i8 op, .int .i8 wd, .int .i8 sz, .bool br, .int .i8 dst, .int .i8 src, .int .i64 off, .int .i64 imm]] w (FieldsP ⟨2, op, wd, sz, br, dst, src, off, imm⟩ w) := by
 go_enter func93, ntmps93
 go_wp2
 refine bodyPost_ret (v := .agg (fieldsR ⟨2, op, wd, sz, br, dst, src, off, imm⟩).cells.toArray) (by simp [results, results93, go_sem, fieldsR, kz, ID.cells, *]) rfl ⟨rfl, ?_⟩
 exact (((Below.refl _ _).alloc (Nat.le_refl _) _).alloc (le_alloc _ (Nat.le_refl _)) _).alloc (le_alloc _ (le_alloc _ (Nat.le_refl _))) _
theorem fields_3t (op wd sz dst src off imm : Int) (w : World) : Calls prog 93 #[.agg #[.int .i8 3, .int .i8 op, .int .i8 wd, .int .i8 sz, .bool true, .int .i8 dst, .int .i8 src, .int .i64 off, .int .i64 imm]] w (FieldsP ⟨3, op, wd, sz, true, dst, src, off, imm⟩ w) := by
 go_enter func93, ntmps93
 go_wp2
 refine bodyPost_ret (v := .agg (fieldsR ⟨3, op, wd, sz, true, dst, src, off, imm⟩).cells.toArray) (by simp [results, results93, go_sem, fieldsR, kz, ID.cells, *]) rfl ⟨rfl, ?_⟩
 exact (((Below.refl _ _).alloc (Nat.le_refl _) _).alloc (le_alloc _ (Nat.le_refl _)) _).alloc (le_alloc _ (le_alloc _ (Nat.le_refl _))) _
theorem fields_3f (op wd sz dst src off imm : Int) (w : World) : Calls prog 93 #[.agg #[.int .i8 3, .int .i8 op, .int .i8 wd, .int .i8 sz, .bool false, .int .i8 dst, .int .i8 src, .int .i64 off, .int .i64 imm]] w (FieldsP ⟨3, op, wd, sz, false, dst, src, off, imm⟩ w) := by
 go_enter func93, ntmps93
 go_wp2
 refine bodyPost_ret (v := .agg (fieldsR ⟨3, op, wd, sz, false, dst, src, off, imm⟩).cells.toArray) (by simp [results, results93, go_sem, fieldsR, kz, ID.cells, *]) rfl ⟨rfl, ?_⟩
 exact (((Below.refl _ _).alloc (Nat.le_refl _) _).alloc (le_alloc _ (Nat.le_refl _)) _).alloc (le_alloc _ (le_alloc _ (Nat.le_refl _))) _
theorem fields_4 (op wd sz dst src off imm : Int) (br : Bool) (w : World) : Calls prog 93 #[.agg #[.int .i8 4, .int .i8 op, .int .i8 wd, .int .i8 sz, .bool br, .int .i8 dst, .int .i8 src, .int .i64 off, .int .i64 imm]] w (FieldsP ⟨4, op, wd, sz, br, dst, src, off, imm⟩ w) := by
 go_enter func93, ntmps93
 go_wp2
 refine bodyPost_ret (v := .agg (fieldsR ⟨4, op, wd, sz, br, dst, src, off, imm⟩).cells.toArray) (by simp [results, results93, go_sem, fieldsR, kz, ID.cells, *]) rfl ⟨rfl, ?_⟩
 exact (((Below.refl _ _).alloc (Nat.le_refl _) _).alloc (le_alloc _ (Nat.le_refl _)) _).alloc (le_alloc _ (le_alloc _ (Nat.le_refl _))) _
theorem fields_5 (op wd sz dst src off imm : Int) (br : Bool) (w : World) : Calls prog 93 #[.agg #[.int .i8 5, .int .i8 op, .int .i8 wd, .int .i8 sz, .bool br, .int .i8 dst, .int .i8 src, .int .i64 off, .int .i64 imm]] w (FieldsP ⟨5, op, wd, sz, br, dst, src, off, imm⟩ w) := by
 go_enter func93, ntmps93
 go_wp2
 refine bodyPost_ret (v := .agg (fieldsR ⟨5, op, wd, sz, br, dst, src, off, imm⟩).cells.toArray) (by simp [results, results93, go_sem, fieldsR, kz, ID.cells, *]) rfl ⟨rfl, ?_⟩
 exact (((Below.refl _ _).alloc (Nat.le_refl _) _).alloc (le_alloc _ (Nat.le_refl _)) _).alloc (le_alloc _ (le_alloc _ (Nat.le_refl _))) _
theorem fields_x (k op wd sz dst src off imm : Int) (br : Bool) (w : World) (h0 : ¬ k = 0) (h1 : ¬ k = 1) (h2 : ¬ k = 2) (h3 : ¬ k = 3) (h4 : ¬ k = 4) (h5 : ¬ k = 5) : Calls prog 93 #[.agg #[.int .i8 k, .int .i8 op, .int .i8 wd, .int .i8 sz, .bool br, .int .i8 dst, .int .i8 src, .int .i64 off, .int .i64 imm]] w (FieldsP ⟨k, op, wd, sz, br, dst, src, off, imm⟩ w) := by
 go_enter func93, ntmps93
 go_wp2
 refine bodyPost_ret (v := .agg (fieldsR ⟨k, op, wd, sz, br, dst, src, off, imm⟩).cells.toArray) (by simp [results, results93, go_sem, fieldsR, kz, ID.cells, *]) rfl ⟨rfl, ?_⟩
 exact (((Below.refl _ _).alloc (Nat.le_refl _) _).alloc (le_alloc _ (Nat.le_refl _)) _).alloc (le_alloc _ (le_alloc _ (Nat.le_refl _))) _
theorem fields_any (x : ID) (w : World) : Calls prog 93 #[.agg x.cells.toArray] w (FieldsP x w) := by
 obtain ⟨k, op, wd, sz, br, dst, src, off, imm⟩ := x
 rcases Decidable.em (k = 0) with rfl | h0
 ·cases br
  ·exact fields_0f op wd sz dst src off imm w
  ·exact fields_0t op wd sz dst src off imm w
 rcases Decidable.em (k = 1) with rfl | h1
 ·exact fields_1 op wd sz dst src off imm br w
 rcases Decidable.em (k = 2) with rfl | h2
 ·exact fields_2 op wd sz dst src off imm br w
 rcases Decidable.em (k = 3) with rfl | h3
 ·cases br
  ·exact fields_3f op wd sz dst src off imm w
  ·exact fields_3t op wd sz dst src off imm w
 rcases Decidable.em (k = 4) with rfl | h4
 ·exact fields_4 op wd sz dst src off imm br w
 rcases Decidable.em (k = 5) with rfl | h5
 ·exact fields_5 op wd sz dst src off imm br w
 exact fields_x k op wd sz dst src off imm br w h0 h1 h2 h3 h4 h5
theorem rsized_any (n : Int) (w : World) : Calls prog 94 #[.int .i8 n] w fun e w' => e = .returned (.bool (szB n)) ∧ w = w' := by
 go_enter func94, ntmps94
 go_wp2
 all_goals
  go_ret
  exact ⟨ret_b (by unfold szB; simp_all), rfl⟩
end
section
open Go.RowKit
def inBk (x : BD) (i : Int) : Bool := decide (x.frm ≤ i) && decide (i < x.upto)
def ofK (l : List BD) (i : Int) : Option Nat := l.findIdx? (fun x => inBk x i)
theorem ofk_at {l : List BD} {i : Int} {k : Nat} {x : BD} (hx : l[k]? = some x) (hi : inBk x i = true) (h : ∀ j y, j < k → l[j]? = some y → inBk y i = false) : ofK l i = some k := by
 obtain ⟨hk, rfl⟩ := List.getElem?_eq_some_iff.1 hx
 unfold ofK
 rw [List.findIdx?_eq_some_iff_getElem]
 refine ⟨hk, hi, fun j hj => ?_⟩
 have := h j _ hj (List.getElem?_eq_getElem (by omega))
 simp [this]
theorem ofk_no {l : List BD} {i : Int} (h : ∀ j y, j < l.length → l[j]? = some y → inBk y i = false) : ofK l i = none := by
 unfold ofK
 rw [List.findIdx?_eq_none_iff]
 intro x hx
 obtain ⟨j, hj, rfl⟩ := List.getElem_of_mem hx
 exact h j _ hj (List.getElem?_eq_getElem hj)
def ofN (l : List BD) (i : Int) : Int := match ofK l i with
 | some k => k
 | none => 0
def ofI (l : List BD) (i : Int) : Int := match ofK l i with
 | some k => k
 | none => -1
def ofB (l : List BD) (i : Int) : Bool := (ofK l i).isSome
def OfP (l : List BD) (i : Int) (w : World) (e : Ending) (w' : World) : Prop := e = .returned (.tuple #[.int .i64 (ofN l i), .bool (ofB l i)]) ∧ Below w.heap.size w w'
theorem dof_any (A : Option Addr) (n c B : Nat) (l : List BD) (i : Int) (w : World) (hh : BksAt w B A n l) (hm : n < 9223372036854775808) :
  Calls prog 9 #[.slice A n c, .int .i64 i] w fun e w' => e = .returned (.tuple #[.int .i64 (ofN l i), .bool (ofB l i)]) ∧ w = w' := by
 have HH := Hd hh
 have HL := Hd hh.len
 clear hh
 go_enter func9, ntmps9
 go_wp2
 go_loop [6] (fun v => ∃ k : Nat, k ≤ n ∧ v = .int .i64 k ∧ Hid (∀ j y, j < k → l[j]? = some y → inBk y i = false)) (fun v => n - (intOf v).toNat)
 case atStart => exact ⟨0, by omega, rfl, fun j y h => by omega⟩
 case round =>
  obtain ⟨k, hk, rfl, HT⟩ := hrel
  by_cases hlt : k < n
  ·obtain ⟨ad, x, s, rfl, hab, hx, hxw, hns, hcell⟩ := HH.out.at_ hlt
   have HX := Hd hx
   obtain ⟨fr, tt, nx⟩ := x
   have e0 := hcell 0 _ rfl
   have e1 := hcell 1 _ rfl
   obtain ⟨p, hp⟩ : ∃ p, ad.add (k * 3) = p := ⟨_, rfl⟩
   rw [hp] at e0 e1
   simp [Addr.add] at e0 e1
   clear hcell hxw hx hns
   cases h0 : decide (fr ≤ i)
   ·have HN := Hd (show inBk ⟨fr, tt, nx⟩ i = false by unfold inBk; dsimp only; rw [h0]; rfl)
    go_wp2
    go_round
    case measure => simp [intOf]; omega
    case rel =>
     refine ⟨k + 1, by omega, by go_num, fun j y hj hy => ?_⟩
     rcases Nat.lt_or_ge j k with h | h
     ·exact HT.out j y h hy
     ·obtain rfl : j = k := by omega
      rw [HX.out] at hy
      exact Option.some.inj hy ▸ HN.out
   ·cases h1 : decide (i < tt)
    ·have HN := Hd (show inBk ⟨fr, tt, nx⟩ i = false by unfold inBk; dsimp only; rw [h1, Bool.and_false])
     go_wp2
     go_round
     case measure => simp [intOf]; omega
     case rel =>
      refine ⟨k + 1, by omega, by go_num, fun j y hj hy => ?_⟩
      rcases Nat.lt_or_ge j k with h | h
      ·exact HT.out j y h hy
      ·obtain rfl : j = k := by omega
       rw [HX.out] at hy
       exact Option.some.inj hy ▸ HN.out
    ·have HY := Hd (ofk_at HX.out (show inBk ⟨fr, tt, nx⟩ i = true by unfold inBk; dsimp only; rw [h0, h1]; rfl) HT.out)
     go_wp2
     go_ret2
     exact ⟨by unfold ofN ofB; rw [HY.out]; rfl, rfl⟩
  ·obtain rfl : k = n := by omega
   have HY := Hd (ofk_no (l := l) (i := i) (by rw [HL.out]; exact HT.out))
   go_wp2
   go_ret2
   exact ⟨by unfold ofN ofB; rw [HY.out]; rfl, rfl⟩
theorem BksN.all {w : World} {F : Nat → Prop} {A : Option Addr} {n : Nat} {l : List BD} (h : BksN w F A n l) : BksAt w w.heap.size A n l := by
 obtain ⟨q, h1, h2, h3, h4⟩ := h
 refine ⟨q, h1, h2, h3.reads, fun p hp => ⟨(h4 p hp).1, ?_⟩⟩
 obtain ⟨A2, c2, e2, k2, r2, i2, l2⟩ := (h4 p hp).2
 exact ⟨A2, c2, e2, k2, r2.reads, i2, by omega⟩
end
end Go.Proofs.YtepagfkkjlbipaaGreat
