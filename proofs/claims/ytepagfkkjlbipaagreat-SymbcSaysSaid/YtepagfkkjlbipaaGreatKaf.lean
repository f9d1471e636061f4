/-
  Plain words on programs: which may be. Conditions: those written in each statement.
  Blocks in memory: a slice of them, each with a slice of numbers; such a slice that came in. Conditions: those written in each statement.
-/
import Derived.Test.YtepagfkkjlbipaaGreatKad
import Derived.Test.YtepagfkkjlbipaaGreatProg
import Derived.Test.YtepagfkkjlbipaaGreatKab
import Derived.Test.YtepagfkkjlbipaaGreatKab
section
namespace Go.Proofs.YtepagfkkjlbipaaGreat
open Go.RowKit
set_option linter.unusedVariables false
set_option linter.unusedSimpArgs false
theorem inB_iff {n a b : Int} : inB n a b = true ↔ a ≤ n ∧ n ≤ b := by unfold inB; simp
theorem inB_no {n a b : Int} : inB n a b = false ↔ ¬ (a ≤ n ∧ n ≤ b) := by rw [← inB_iff]; simp
def okAt (n : Nat) (i : Nat) (x : ID) : Bool := mayB x && !(tgtB i x && !inB (tgtN i x) 0 ((n : Int) - 1))
def badAt (n : Nat) : List ID → Nat → Option (Int × Int)
 | [], _ => none
 | x :: r, i => if mayB x = false then some ((i : Int), 31) else if (tgtB i x && !inB (tgtN i x) 0 ((n : Int) - 1)) = true then some ((i : Int), 32) else badAt n r (i + 1)
def lastK (l : List ID) : Int := ((l[l.length - 1]?).map ID.kind).getD 0
def chkP (c : Int) (l : List ID) : Int × Int :=
 if inB c 0 256 = false then (0, 2)
 else if inB ((l.length : Int) - 1) 0 63 = false then (0, 3)
 else match badAt l.length l 0 with
  | some r => r
  | none => if lastK l ≠ 4 ∧ lastK l ≠ 6 then ((l.length : Int) - 1, 33) else (0, 0)
theorem bad_none {n : Nat} : ∀ (l : List ID) (k : Nat), (∀ j x, l[j]? = some x → okAt n (k + j) x = true) → badAt n l k = none
 | [], _, _ => rfl
 | x :: r, k, h => by
  have h0 := h 0 x rfl
  unfold okAt at h0
  simp only [Nat.add_zero, Bool.and_eq_true, Bool.not_eq_true'] at h0
  rw [badAt, if_neg (by rw [h0.1]; simp), if_neg (by rw [h0.2]; simp)]
  exact bad_none r (k + 1) fun j y hy => by
   have := h (j + 1) y (by simpa using hy)
   rwa [show k + (j + 1) = k + 1 + j by omega] at this
theorem bad_some {n : Nat} : ∀ (l : List ID) (k j : Nat) (x : ID), l[j]? = some x → (∀ i y, i < j → l[i]? = some y → okAt n (k + i) y = true) → okAt n (k + j) x = false →
  badAt n l k = some (((k + j : Nat) : Int), if mayB x then 32 else 31)
 | [], _, j, x, h, _, _ => by simp at h
 | y :: r, k, 0, x, h, _, h0 => by
  simp at h
  subst h
  unfold okAt at h0
  rw [badAt]
  cases hm : mayB y
  ·rw [if_pos rfl]; rfl
  ·rw [hm] at h0
   simp only [Bool.true_and, Bool.not_eq_false'] at h0
   rw [if_neg (by simp), if_pos (by simpa using h0)]
   rfl
 | y :: r, k, j + 1, x, h, hb, h0 => by
  have h1 := hb 0 y (by omega) rfl
  unfold okAt at h1
  simp only [Nat.add_zero, Bool.and_eq_true, Bool.not_eq_true'] at h1
  rw [badAt, if_neg (by rw [h1.1]; simp), if_neg (by rw [h1.2]; simp)]
  have := bad_some r (k + 1) j x (by simpa using h) (fun i z hi hz => by
   have := hb (i + 1) z (by omega) (by simpa using hz)
   rwa [show k + (i + 1) = k + 1 + i by omega] at this) (by rwa [show k + 1 + j = k + (j + 1) by omega])
  rw [this, show k + 1 + j = k + (j + 1) by omega]
theorem bad_none_inv {n : Nat} : ∀ (l : List ID) (k : Nat), badAt n l k = none → ∀ j x, l[j]? = some x → okAt n (k + j) x = true
 | [], _, _, j, x, hx => by simp at hx
 | y :: r, k, h, j, x, hx => by
  rw [badAt] at h
  split at h
  ·cases h
  ·rename_i h1
   split at h
   ·cases h
   ·rename_i h2
    cases j with
    | zero =>
     simp at hx
     subst hx
     unfold okAt
     simp only [Bool.not_eq_false, Bool.not_eq_true] at h1 h2
     rw [Nat.add_zero, h1, h2]
     rfl
    | succ j =>
     have := bad_none_inv r (k + 1) h j x (by simpa using hx)
     rwa [show k + 1 + j = k + (j + 1) by omega] at this
theorem bad_pos {n : Nat} : ∀ (l : List ID) (k : Nat) (r : Int × Int), badAt n l k = some r → r.2 = 31 ∨ r.2 = 32
 | [], _, r, h => by simp [badAt] at h
 | y :: t, k, r, h => by
  rw [badAt] at h
  split at h
  ·injection h with h; subst h; exact .inl rfl
  ·split at h
   ·injection h with h; subst h; exact .inr rfl
   ·exact bad_pos t (k + 1) r h
/-- What a program that may be is. -/
theorem chk_ok {c : Int} {l : List ID} (h : (chkP c l).2 = 0) : 0 ≤ c ∧ c ≤ 256 ∧ 1 ≤ l.length ∧ l.length ≤ 64 ∧ (∀ (j : Nat) (x : ID), l[j]? = some x → okAt l.length j x = true) ∧ (lastK l = 4 ∨ lastK l = 6) ∧ chkP c l = (0, 0) := by
 have h' := h
 unfold chkP at h
 split at h
 ·cases h
 ·rename_i h1
  split at h
  ·cases h
  ·rename_i h2
   simp only [Bool.not_eq_false] at h1 h2
   rw [inB_iff] at h1 h2
   cases hb : badAt l.length l 0 with
   | some r =>
    rw [hb] at h
    have := bad_pos l 0 r hb
    dsimp only at h
    omega
   | none =>
    rw [hb] at h
    dsimp only at h
    split at h
    ·cases h
    ·rename_i h3
     refine ⟨by omega, by omega, by omega, by omega, fun j x hx => by simpa using bad_none_inv l 0 hb j x hx, by omega, ?_⟩
     unfold chkP
     rw [if_neg (by rw [inB_no]; omega), if_neg (by rw [inB_no]; omega), hb]
     dsimp only
     rw [if_neg h3]
theorem chk_ctx {c : Int} {l : List ID} (h : inB c 0 256 = false) : chkP c l = (0, 2) := by unfold chkP; rw [if_pos h]
theorem chk_long {c : Int} {l : List ID} (h : inB c 0 256 = true) (h2 : inB ((l.length : Int) - 1) 0 63 = false) : chkP c l = (0, 3) := by unfold chkP; rw [if_neg (by rw [h]; simp), if_pos h2]
theorem chk_bad {c : Int} {l : List ID} {j : Nat} {x : ID} (h : inB c 0 256 = true) (h2 : inB ((l.length : Int) - 1) 0 63 = true) (hx : l[j]? = some x) (hb : ∀ i y, i < j → l[i]? = some y → okAt l.length i y = true) (h0 : okAt l.length j x = false) :
  chkP c l = ((j : Int), if mayB x then 32 else 31) := by
 have := bad_some (n := l.length) l 0 j x hx (fun i y hi hy => by simpa using hb i y hi hy) (by simpa using h0)
 unfold chkP
 rw [if_neg (by rw [h]; simp), if_neg (by rw [h2]; simp), this]
 simp
theorem chk_end {c : Int} {l : List ID} (h : inB c 0 256 = true) (h2 : inB ((l.length : Int) - 1) 0 63 = true) (hb : ∀ i y, l[i]? = some y → okAt l.length i y = true) :
  chkP c l = if lastK l ≠ 4 ∧ lastK l ≠ 6 then ((l.length : Int) - 1, 33) else (0, 0) := by
 have := bad_none (n := l.length) l 0 (fun i y hy => by simpa using hb i y hy)
 unfold chkP
 rw [if_neg (by rw [h]; simp), if_neg (by rw [h2]; simp), this]
theorem bareR_wf {x : ID} (h : x.wf) : (bareR x).wf := by
 have := h
 unfold ID.wf I8 I64 at this ⊢
 unfold bareR immR
 repeat' split
 all_goals (first | omega | (dsimp only; omega))
theorem kz_wf {k : Int} (h : I8 k) : (kz k).wf := by
 unfold kz ID.wf I8 I64
 unfold I8 at h
 dsimp only
 omega
end Go.Proofs.YtepagfkkjlbipaaGreat
end
section
namespace Go.Proofs.YtepagfkkjlbipaaGreat
open Go.RowKit Go.WideShapes Go.ChangeShapes Go.Deep
set_option linter.unusedVariables false
set_option linter.unusedSimpArgs false
structure BD where
 frm : Int
 upto : Int
 next : List Int
abbrev iv (x : Int) : Value := .int .i64 x
/-- Numbers that a slice reads as. -/
def NxAt (w : World) (B : Nat) (s : Value) (l : List Int) : Prop := ∃ A c, s = .slice A l.length c ∧ l.length ≤ c ∧ Reads w B 1 A l.length (l.map (Value.int .i64)) ∧ (∀ x ∈ l, I64 x) ∧ l.length < 9223372036854775808
def bkC (p : BD × Value) : List Value := [.int .i64 p.1.frm, .int .i64 p.1.upto, p.2]
def BD.wf (x : BD) : Prop := I64 x.frm ∧ I64 x.upto
/-- Blocks that a slice reads as. -/
def BksAt (w : World) (B : Nat) (A : Option Addr) (n : Nat) (l : List BD) : Prop := ∃ q : List (BD × Value), q.map (·.1) = l ∧ q.length = n ∧ Reads w B 3 A n (q.flatMap bkC) ∧ ∀ p ∈ q, p.1.wf ∧ NxAt w B p.2 p.1.next
theorem bflat_at {α β : Type} (f : α → List β) (m : Nat) : ∀ (l : List α), (∀ x ∈ l, (f x).length = m) → ∀ (k j : Nat) (x : α) (u : β), l[k]? = some x → (f x)[j]? = some u → (l.flatMap f)[k * m + j]? = some u
 | [], _, k, j, x, u, hk, _ => by simp at hk
 | y :: r, hl, k, j, x, u, hk, hu => by
  rw [List.flatMap_cons]
  have hy := hl y (by simp)
  cases k with
  | zero =>
   simp at hk
   subst hk
   have hj : j < (f y).length := (List.getElem?_eq_some_iff.1 hu).1
   rw [Nat.zero_mul, Nat.zero_add, List.getElem?_append_left hj, hu]
  | succ k =>
   have := bflat_at f m r (fun z hz => hl z (by simp [hz])) k j x u (by simpa using hk) hu
   rw [List.getElem?_append_right (by rw [hy, Nat.succ_mul]; omega), hy, show (k + 1) * m + j - m = k * m + j by rw [Nat.succ_mul]; omega]
   exact this
section
variable {w w' : World} {B B' n : Nat} {A : Option Addr} {l : List BD} {s : Value} {ns : List Int}
theorem NxAt.nil : NxAt w B (.slice none 0 0) [] := ⟨none, 0, rfl, Nat.le_refl _, Reads.none_, by simp, by simp⟩
theorem NxAt.below (h : NxAt w B s ns) (hb : Below B w w') : NxAt w' B s ns := by
 obtain ⟨A, c, h1, h2, h3, h4⟩ := h
 exact ⟨A, c, h1, h2, h3.below hb, h4⟩
theorem NxAt.more (h : NxAt w B s ns) (hB : B ≤ B') : NxAt w B' s ns := by
 obtain ⟨A, c, h1, h2, h3, h4⟩ := h
 exact ⟨A, c, h1, h2, h3.more hB, h4⟩
theorem NxAt.grown (h : NxAt w B s ns) {row : Option Nat} (hg : w.grownBy w' row) (hB : B ≤ w.heap.size) (hr : ∀ g, row = some g → B ≤ g) : NxAt w' B s ns := by
 obtain ⟨A, c, h1, h2, h3, h4⟩ := h
 exact ⟨A, c, h1, h2, h3.grown hg hB hr, h4⟩
theorem NxAt.at_ {A : Option Addr} {m c k : Nat} (h : NxAt w B (.slice A m c) ns) (hk : k < m) : ∃ ad x, A = some ad ∧ ad.block < B ∧ ns[k]? = some x ∧ I64 x ∧ w.cell? (ad.add k) = some (.int .i64 x) := by
 obtain ⟨A', c', h1, h2, h3, h4, h5⟩ := h
 injection h1 with h0 h1 hc
 subst h0 h1 hc
 obtain ⟨ad, u, e, hb, hx, hc⟩ := h3.at_ hk
 have hx' : ns[k]? = some ns[k] := List.getElem?_eq_getElem hk
 rw [List.getElem?_map, hx'] at hx
 injection hx with hx
 subst hx
 exact ⟨ad, _, e, hb, hx', h4 _ (List.getElem_mem _), hc⟩
theorem NxAt.len {A : Option Addr} {m c : Nat} (h : NxAt w B (.slice A m c) ns) : ns.length = m ∧ m ≤ c ∧ m < 9223372036854775808 := by
 obtain ⟨A', c', h1, h2, h3, h4, h5⟩ := h
 injection h1 with h0 h1 hc
 subst h0 h1 hc
 exact ⟨rfl, h2, h5⟩
theorem NxAt.form (h : NxAt w B s ns) : ∃ A c, s = .slice A ns.length c := by
 obtain ⟨A, c, h1, _⟩ := h
 exact ⟨A, c, h1⟩
theorem NxAt.reads {A : Option Addr} {m c : Nat} (h : NxAt w B (.slice A m c) ns) : Reads w B 1 A m (ns.map (Value.int .i64)) := by
 obtain ⟨A', c', h1, h2, h3, h4, h5⟩ := h
 injection h1 with h0 h1 hc
 subst h0 h1 hc
 exact h3
theorem BksAt.len (h : BksAt w B A n l) : l.length = n := by
 obtain ⟨q, rfl, h2, _⟩ := h
 rw [List.length_map, h2]
theorem BksAt.at_ {k : Nat} (h : BksAt w B A n l) (hk : k < n) : ∃ ad x s, A = some ad ∧ ad.block < B ∧ l[k]? = some x ∧ x.wf ∧ NxAt w B s x.next ∧ ∀ j u, (bkC (x, s))[j]? = some u → w.cell? ((ad.add (k * 3)).add j) = some u := by
 obtain ⟨q, rfl, h2, h3, h4⟩ := h
 obtain ⟨ad, e, hb, hc⟩ := h3.2 (by omega)
 have hkq : k < q.length := by omega
 have hx : q[k]? = some q[k] := List.getElem?_eq_getElem hkq
 obtain ⟨h5, h6⟩ := h4 _ (List.getElem_mem hkq)
 refine ⟨ad, q[k].1, q[k].2, e, hb, by rw [List.getElem?_map, hx]; rfl, h5, h6, fun j u hu => ?_⟩
 rw [add_of_add]
 exact hc _ u (bflat_at bkC 3 q (fun z hz => rfl) k j _ u hx hu)
theorem BksAt.below (h : BksAt w B A n l) (hb : Below B w w') : BksAt w' B A n l := by
 obtain ⟨q, h1, h2, h3, h4⟩ := h
 exact ⟨q, h1, h2, h3.below hb, fun p hp => ⟨(h4 p hp).1, (h4 p hp).2.below hb⟩⟩
theorem BksAt.more (h : BksAt w B A n l) (hB : B ≤ B') : BksAt w B' A n l := by
 obtain ⟨q, h1, h2, h3, h4⟩ := h
 exact ⟨q, h1, h2, h3.more hB, fun p hp => ⟨(h4 p hp).1, (h4 p hp).2.more hB⟩⟩
theorem BksAt.up (h : BksAt w B A n l) (hb : Below B w w') (hz : B ≤ w'.heap.size) : BksAt w' w'.heap.size A n l := (h.below hb).more hz
theorem BksAt.grown (h : BksAt w B A n l) {row : Option Nat} (hg : w.grownBy w' row) (hB : B ≤ w.heap.size) (hr : ∀ g, row = some g → B ≤ g) : BksAt w' B A n l := by
 obtain ⟨q, h1, h2, h3, h4⟩ := h
 exact ⟨q, h1, h2, h3.grown hg hB hr, fun p hp => ⟨(h4 p hp).1, (h4 p hp).2.grown hg hB hr⟩⟩
theorem BksAt.alloc (h : BksAt w B A n l) (hB : B ≤ w.heap.size) (o : Obj) : BksAt (w.alloc o) B A n l := h.below ((Below.refl _ _).alloc hB o)
theorem BksAt.nil : BksAt w B none 0 [] := ⟨[], rfl, rfl, Reads.none_, by simp⟩
theorem BksAt.take {m : Nat} (h : BksAt w B A n l) (hm : m ≤ n) : BksAt w B A m (l.take m) := by
 obtain ⟨q, rfl, h2, h3, h4⟩ := h
 refine ⟨q.take m, by rw [List.map_take], by rw [List.length_take]; omega, ⟨?_, fun hm0 => ?_⟩, fun p hp => h4 p (List.mem_of_mem_take hp)⟩
 ·have hq : ∀ q : List (BD × Value), (q.flatMap bkC).length = q.length * 3 := by
   intro q
   induction q with
   | nil => rfl
   | cons x t ih => rw [List.flatMap_cons, List.length_append, ih]; simp [bkC]; omega
  rw [hq, List.length_take, Nat.min_eq_left (by omega)]
 ·obtain ⟨ad, e, hb, hc⟩ := h3.2 (by omega)
  refine ⟨ad, e, hb, fun j u hu => hc j u ?_⟩
  have hsp : q.flatMap bkC = (q.take m).flatMap bkC ++ (q.drop m).flatMap bkC := by rw [← List.flatMap_append, List.take_append_drop]
  rw [hsp, List.getElem?_append_left (List.getElem?_eq_some_iff.1 hu).1]
  exact hu
end
/-! ### blocks that came in -/
theorem flatT : flatK Tryz.prog 4 3 = some [some .i64] := by kernel_rfl
theorem rows_int : ∀ rows : List (List Value), (∀ r ∈ rows, AllK [some .i64] r) → ∃ l : List Int, l.length = rows.length ∧ (∀ x ∈ l, I64 x) ∧ rows.flatten = l.map (Value.int .i64)
 | [], _ => ⟨[], rfl, by simp, rfl⟩
 | r :: t, h => by
  obtain ⟨hl, hk⟩ := h r (by simp)
  obtain ⟨l, h1, h2, h3⟩ := rows_int t (fun q hq => h q (by simp [hq]))
  match r, hl with
  | [c0], _ =>
   obtain ⟨n0, rfl, w0⟩ := hk 0 _ _ rfl rfl
   have a0 := bounds_i64 w0
   refine ⟨n0 :: l, by simp [h1], fun y hy => ?_, by simp [h3]⟩
   rcases List.mem_cons.1 hy with rfl | hy
   ·unfold I64; omega
   ·exact h2 y hy
theorem cellsIn : Tryz.prog.cellsOf 3 = 1 := by kernel_rfl
theorem cellsLn : Tryz.prog.cellsOf 28 = 1 := by kernel_rfl
section
variable {H : Type} {enc : TypeId × Value → H} {w : World} {base b0 : Nat} {re : Reach} {spare : Nat → Bool} {held : Bool}
theorem nx_in {fuel : Nat} {v : Value} {x : DataW H × List MemPlace} (h : DataW.trod enc Tryz.prog w base spare held fuel 28 [v] = some x) : ∃ l, NxAt w w.heap.size v l := by
 rcases DataW.trod_slice (cs := [v]) Tryz.underlying28 h with ⟨hc, _⟩ | ⟨a, len, cap, _, _, _, _, hc, _⟩
 ·injection hc with hc _
  subst hc
  exact ⟨[], NxAt.nil⟩
 ·injection hc with hc _
  subst hc
  obtain ⟨rows, hr, hA, hR, hc, hm⟩ := open_flat (A := some a) (n := len) (c := cap) Tryz.underlying28 flatT (by decide) h
  obtain ⟨l, h1, h2, h3⟩ := rows_int rows hA
  rw [h3] at hR
  unfold maxLen at hm
  have hl : l.length = len := by omega
  subst hl
  exact ⟨l, some a, cap, rfl, hc, hR, h2, by omega⟩
end
end Go.Proofs.YtepagfkkjlbipaaGreat
end
