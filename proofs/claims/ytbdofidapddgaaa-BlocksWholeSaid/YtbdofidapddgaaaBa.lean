/-
  Blocks in memory: a slice of them, each with a slice of numbers; such a slice that came in. Conditions: those written in each statement.
-/
import Derived.Test.YtbdofidapddgaaaProg
import Derived.Test.YtbdofidapddgaaaIp
import Derived.Test.YtbdofidapddgaaaFlat
import Derived.Test.YtbdofidapddgaaaPush
namespace Go.Proofs.Ytbdofidapddgaaa
open Go.RowKit Go.WideShapes Go.ChangeShapes Go.Deep
set_option linter.unusedVariables false
set_option linter.unusedSimpArgs false
structure BD where
  frm : Int
  to : Int
  next : List Int
abbrev iv (x : Int) : Value := .int .i64 x
/-- Numbers that a slice reads as. -/
def NxAt (w : World) (B : Nat) (s : Value) (l : List Int) : Prop := ∃ A c, s = .slice A l.length c ∧ l.length ≤ c ∧ Reads w B 1 A l.length (l.map (Value.int .i64)) ∧ (∀ x ∈ l, I64 x) ∧ l.length < 9223372036854775808
def bkC (p : BD × Value) : List Value := [.int .i64 p.1.frm, .int .i64 p.1.to, p.2]
def BD.wf (x : BD) : Prop := I64 x.frm ∧ I64 x.to
/-- Blocks that a slice reads as. -/
def BksAt (w : World) (B : Nat) (A : Option Addr) (n : Nat) (l : List BD) : Prop := ∃ q : List (BD × Value), q.map (·.1) = l ∧ q.length = n ∧ Reads w B 3 A n (q.flatMap bkC) ∧ ∀ p ∈ q, p.1.wf ∧ NxAt w B p.2 p.1.next
theorem bflat_at {α β : Type} (f : α → List β) (m : Nat) : ∀ (l : List α), (∀ x ∈ l, (f x).length = m) → ∀ (k j : Nat) (x : α) (u : β), l[k]? = some x → (f x)[j]? = some u → (l.flatMap f)[k * m + j]? = some u
  | [], _, k, j, x, u, hk, _ => by simp at hk
  | y :: r, hl, k, j, x, u, hk, hu => by
    rw [List.flatMap_cons]
    have hy := hl y (by simp)
    cases k with
    | zero =>
      simp at hk
      subst hk
      have hj : j < (f y).length := (List.getElem?_eq_some_iff.1 hu).1
      rw [Nat.zero_mul, Nat.zero_add, List.getElem?_append_left hj, hu]
    | succ k =>
      have := bflat_at f m r (fun z hz => hl z (by simp [hz])) k j x u (by simpa using hk) hu
      rw [List.getElem?_append_right (by rw [hy, Nat.succ_mul]; omega), hy, show (k + 1) * m + j - m = k * m + j by rw [Nat.succ_mul]; omega]
      exact this
section
variable {w w' : World} {B B' n : Nat} {A : Option Addr} {l : List BD} {s : Value} {ns : List Int}
theorem NxAt.nil : NxAt w B (.slice none 0 0) [] := ⟨none, 0, rfl, Nat.le_refl _, Reads.none_, by simp, by simp⟩
theorem NxAt.below (h : NxAt w B s ns) (hb : Below B w w') : NxAt w' B s ns := by
  obtain ⟨A, c, h1, h2, h3, h4⟩ := h
  exact ⟨A, c, h1, h2, h3.below hb, h4⟩
theorem NxAt.more (h : NxAt w B s ns) (hB : B ≤ B') : NxAt w B' s ns := by
  obtain ⟨A, c, h1, h2, h3, h4⟩ := h
  exact ⟨A, c, h1, h2, h3.more hB, h4⟩
theorem NxAt.grown (h : NxAt w B s ns) {row : Option Nat} (hg : w.grownBy w' row) (hB : B ≤ w.heap.size) (hr : ∀ g, row = some g → B ≤ g) : NxAt w' B s ns := by
  obtain ⟨A, c, h1, h2, h3, h4⟩ := h
  exact ⟨A, c, h1, h2, h3.grown hg hB hr, h4⟩
theorem NxAt.at_ {A : Option Addr} {m c k : Nat} (h : NxAt w B (.slice A m c) ns) (hk : k < m) : ∃ ad x, A = some ad ∧ ad.block < B ∧ ns[k]? = some x ∧ I64 x ∧ w.cell? (ad.add k) = some (.int .i64 x) := by
  obtain ⟨A', c', h1, h2, h3, h4, h5⟩ := h
  injection h1 with h0 h1 hc
  subst h0 h1 hc
  obtain ⟨ad, u, e, hb, hx, hc⟩ := h3.at_ hk
  have hx' : ns[k]? = some ns[k] := List.getElem?_eq_getElem hk
  rw [List.getElem?_map, hx'] at hx
  injection hx with hx
  subst hx
  exact ⟨ad, _, e, hb, hx', h4 _ (List.getElem_mem _), hc⟩
theorem NxAt.len {A : Option Addr} {m c : Nat} (h : NxAt w B (.slice A m c) ns) : ns.length = m ∧ m ≤ c ∧ m < 9223372036854775808 := by
  obtain ⟨A', c', h1, h2, h3, h4, h5⟩ := h
  injection h1 with h0 h1 hc
  subst h0 h1 hc
  exact ⟨rfl, h2, h5⟩
theorem NxAt.form (h : NxAt w B s ns) : ∃ A c, s = .slice A ns.length c := by
  obtain ⟨A, c, h1, _⟩ := h
  exact ⟨A, c, h1⟩
theorem NxAt.reads {A : Option Addr} {m c : Nat} (h : NxAt w B (.slice A m c) ns) : Reads w B 1 A m (ns.map (Value.int .i64)) := by
  obtain ⟨A', c', h1, h2, h3, h4, h5⟩ := h
  injection h1 with h0 h1 hc
  subst h0 h1 hc
  exact h3
theorem BksAt.len (h : BksAt w B A n l) : l.length = n := by
  obtain ⟨q, rfl, h2, _⟩ := h
  rw [List.length_map, h2]
theorem BksAt.at_ {k : Nat} (h : BksAt w B A n l) (hk : k < n) : ∃ ad x s, A = some ad ∧ ad.block < B ∧ l[k]? = some x ∧ x.wf ∧ NxAt w B s x.next ∧ ∀ j u, (bkC (x, s))[j]? = some u → w.cell? ((ad.add (k * 3)).add j) = some u := by
  obtain ⟨q, rfl, h2, h3, h4⟩ := h
  obtain ⟨ad, e, hb, hc⟩ := h3.2 (by omega)
  have hkq : k < q.length := by omega
  have hx : q[k]? = some q[k] := List.getElem?_eq_getElem hkq
  obtain ⟨h5, h6⟩ := h4 _ (List.getElem_mem hkq)
  refine ⟨ad, q[k].1, q[k].2, e, hb, by rw [List.getElem?_map, hx]; rfl, h5, h6, fun j u hu => ?_⟩
  rw [add_of_add]
  exact hc _ u (bflat_at bkC 3 q (fun z hz => rfl) k j _ u hx hu)
theorem BksAt.below (h : BksAt w B A n l) (hb : Below B w w') : BksAt w' B A n l := by
  obtain ⟨q, h1, h2, h3, h4⟩ := h
  exact ⟨q, h1, h2, h3.below hb, fun p hp => ⟨(h4 p hp).1, (h4 p hp).2.below hb⟩⟩
theorem BksAt.more (h : BksAt w B A n l) (hB : B ≤ B') : BksAt w B' A n l := by
  obtain ⟨q, h1, h2, h3, h4⟩ := h
  exact ⟨q, h1, h2, h3.more hB, fun p hp => ⟨(h4 p hp).1, (h4 p hp).2.more hB⟩⟩
theorem BksAt.up (h : BksAt w B A n l) (hb : Below B w w') (hz : B ≤ w'.heap.size) : BksAt w' w'.heap.size A n l := (h.below hb).more hz
theorem BksAt.grown (h : BksAt w B A n l) {row : Option Nat} (hg : w.grownBy w' row) (hB : B ≤ w.heap.size) (hr : ∀ g, row = some g → B ≤ g) : BksAt w' B A n l := by
  obtain ⟨q, h1, h2, h3, h4⟩ := h
  exact ⟨q, h1, h2, h3.grown hg hB hr, fun p hp => ⟨(h4 p hp).1, (h4 p hp).2.grown hg hB hr⟩⟩
theorem BksAt.alloc (h : BksAt w B A n l) (hB : B ≤ w.heap.size) (o : Obj) : BksAt (w.alloc o) B A n l := h.below ((Below.refl _ _).alloc hB o)
theorem BksAt.nil : BksAt w B none 0 [] := ⟨[], rfl, rfl, Reads.none_, by simp⟩
theorem BksAt.take {m : Nat} (h : BksAt w B A n l) (hm : m ≤ n) : BksAt w B A m (l.take m) := by
  obtain ⟨q, rfl, h2, h3, h4⟩ := h
  refine ⟨q.take m, by rw [List.map_take], by rw [List.length_take]; omega, ⟨?_, fun hm0 => ?_⟩, fun p hp => h4 p (List.mem_of_mem_take hp)⟩
  · have hq : ∀ q : List (BD × Value), (q.flatMap bkC).length = q.length * 3 := by
      intro q
      induction q with
      | nil => rfl
      | cons x t ih => rw [List.flatMap_cons, List.length_append, ih]; simp [bkC]; omega
    rw [hq, List.length_take, Nat.min_eq_left (by omega)]
  · obtain ⟨ad, e, hb, hc⟩ := h3.2 (by omega)
    refine ⟨ad, e, hb, fun j u hu => hc j u ?_⟩
    have hsp : q.flatMap bkC = (q.take m).flatMap bkC ++ (q.drop m).flatMap bkC := by rw [← List.flatMap_append, List.take_append_drop]
    rw [hsp, List.getElem?_append_left (List.getElem?_eq_some_iff.1 hu).1]
    exact hu
end
/-! ### blocks that came in -/
theorem flatT : flatK Try.prog 4 3 = some [some .i64] := by kernel_rfl
theorem rows_int : ∀ rows : List (List Value), (∀ r ∈ rows, AllK [some .i64] r) → ∃ l : List Int, l.length = rows.length ∧ (∀ x ∈ l, I64 x) ∧ rows.flatten = l.map (Value.int .i64)
  | [], _ => ⟨[], rfl, by simp, rfl⟩
  | r :: t, h => by
    obtain ⟨hl, hk⟩ := h r (by simp)
    obtain ⟨l, h1, h2, h3⟩ := rows_int t (fun q hq => h q (by simp [hq]))
    match r, hl with
    | [c0], _ =>
      obtain ⟨n0, rfl, w0⟩ := hk 0 _ _ rfl rfl
      have a0 := bounds_i64 w0
      refine ⟨n0 :: l, by simp [h1], fun y hy => ?_, by simp [h3]⟩
      rcases List.mem_cons.1 hy with rfl | hy
      · unfold I64; omega
      · exact h2 y hy
theorem cellsBk : Try.prog.cellsOf 41 = 3 := by kernel_rfl
theorem cellsIn : Try.prog.cellsOf 3 = 1 := by kernel_rfl
theorem cellsLn : Try.prog.cellsOf 39 = 1 := by kernel_rfl
section
variable {H : Type} {enc : TypeId × Value → H} {w : World} {base b0 : Nat} {re : Reach} {spare : Nat → Bool} {held : Bool}
theorem nx_in {fuel : Nat} {v : Value} {x : DataW H × List MemPlace} (h : DataW.trod enc Try.prog w base spare held fuel 39 [v] = some x) : ∃ l, NxAt w w.heap.size v l := by
  rcases DataW.trod_slice (cs := [v]) Try.underlying39 h with ⟨hc, _⟩ | ⟨a, len, cap, _, _, _, _, hc, _⟩
  · injection hc with hc _
    subst hc
    exact ⟨[], NxAt.nil⟩
  · injection hc with hc _
    subst hc
    obtain ⟨rows, hr, hA, hR, hc, hm⟩ := open_flat (A := some a) (n := len) (c := cap) Try.underlying39 flatT (by decide) h
    obtain ⟨l, h1, h2, h3⟩ := rows_int rows hA
    rw [h3] at hR
    unfold maxLen at hm
    have hl : l.length = len := by omega
    subst hl
    exact ⟨l, some a, cap, rfl, hc, hR, h2, by omega⟩
theorem row_bk {fuel : Nat} {cs : List Value} {x : DataW H × List MemPlace} (h : DataW.trod enc Try.prog w base spare held fuel 41 cs = some x) : ∃ p : BD × Value, cs = bkC p ∧ p.1.wf ∧ NxAt w w.heap.size p.2 p.1.next := by
  obtain ⟨xs, n, _, hx, hl, hlen, hg⟩ := DataW.trod_struct Try.underlying41 h
  rw [cellsBk] at hl
  match cs, hl with
  | [c0, c1, c2], _ =>
    match xs, hlen with
    | [y0, y1, y2], _ =>
      have g0 : DataW.trod enc Try.prog w base spare held n 3 (([c0, c1, c2].drop 0).take (Try.prog.cellsOf 3)) = some y0 := hg 0 _ rfl
      have g1 : DataW.trod enc Try.prog w base spare held n 3 (([c0, c1, c2].drop 1).take (Try.prog.cellsOf 3)) = some y1 := hg 1 _ rfl
      have g2 : DataW.trod enc Try.prog w base spare held n 39 (([c0, c1, c2].drop 2).take (Try.prog.cellsOf 39)) = some y2 := hg 2 _ rfl
      rw [cellsIn] at g0 g1
      rw [cellsLn] at g2
      obtain ⟨n0, h0, _, w0⟩ := DataW.trod_int (cs := [c0]) Try.underlying3 g0
      obtain ⟨n1, h1, _, w1⟩ := DataW.trod_int (cs := [c1]) Try.underlying3 g1
      injection h0 with h0 _
      injection h1 with h1 _
      subst h0 h1
      obtain ⟨l, hn⟩ := nx_in (v := c2) g2
      have b0 := bounds_i64 w0
      have b1 := bounds_i64 w1
      exact ⟨(⟨n0, n1, l⟩, c2), rfl, ⟨by unfold I64; dsimp only; omega, by unfold I64; dsimp only; omega⟩, hn⟩
theorem blks_in {v : Value} {d : DataW H} {p : List MemPlace} (hv : Value.okWide Try.prog w re b0 27 v) (h : DataW.Trod enc Try.prog w base spare held 27 v d p) :
    ∃ A n c l, v = .slice A n c ∧ BksAt w w.heap.size A n l ∧ n ≤ c ∧ n < 9223372036854775808 := by
  obtain ⟨A, n, c, rfl⟩ := okWide_slice Try.underlying27 hv
  obtain ⟨fuel, hf⟩ := h
  rcases open_slice Try.underlying27 hf with ⟨hcs, _⟩ | ⟨a, len, cap, mm, nn, D, Pl, hcs, _, hl, hm, hmm, _, hel⟩
  · simp [Value.cells] at hcs
    obtain ⟨rfl, rfl, rfl⟩ := hcs
    exact ⟨none, 0, 0, [], rfl, BksAt.nil, Nat.le_refl _, by omega⟩
  · simp [Value.cells] at hcs
    obtain ⟨rfl, rfl, rfl⟩ := hcs
    have hle : n ≤ mm := by rw [hmm]; split <;> omega
    unfold maxLen at hm
    obtain ⟨q, hq, hp⟩ := list_of (fun i (p : BD × Value) => p.1.wf ∧ NxAt w w.heap.size p.2 p.1.next ∧ ∀ j u, (bkC p)[j]? = some u → w.cell? ((a.add (i * 3)).add j) = some u) n (fun i hi => by
      obtain ⟨cs', hc, ht'⟩ := hel i (by omega)
      rw [cellsBk] at hc
      obtain ⟨_, hcl, hat⟩ := World.cells?_some hc
      obtain ⟨p, rfl, h1, h2⟩ := row_bk ht'
      exact ⟨p, h1, h2, fun j u hu => by
        have hj : j < (bkC p).length := (List.getElem?_eq_some_iff.1 hu).1
        rw [hat j hj, hu]⟩)
    refine ⟨some a, n, c, q.map (·.1), rfl, ⟨q, rfl, hq, ⟨?_, fun hn => ⟨a, rfl, ?_, fun j u hu => ?_⟩⟩, fun p hp' => ?_⟩, hl, by omega⟩
    · rw [← hq]
      clear hp hq
      induction q with
      | nil => rfl
      | cons x t ih => rw [List.flatMap_cons, List.length_append, ih]; simp [bkC]; omega
    · have h0 := (hp 0 _ (List.getElem?_eq_getElem (by omega))).2.2 0 _ rfl
      have h4 := World.block_lt_of_cell? w _ h0
      rwa [block_of_add, block_of_add] at h4
    · rw [List.flatMap_def] at hu
      obtain ⟨k, r, y, rfl, h2, h3⟩ := flat_inv 3 (q.map bkC) (fun z hz => by obtain ⟨y, _, rfl⟩ := List.mem_map.1 hz; rfl) j u hu
      rw [List.getElem?_map] at h2
      obtain ⟨y', h4, rfl⟩ := Option.map_eq_some_iff.1 h2
      have := (hp k y' h4).2.2 r u h3
      rwa [add_of_add] at this
    · obtain ⟨i, hi, rfl⟩ := List.getElem_of_mem hp'
      have := hp i _ (List.getElem?_eq_getElem hi)
      exact ⟨this.1, this.2.1⟩
end
end Go.Proofs.Ytbdofidapddgaaa
