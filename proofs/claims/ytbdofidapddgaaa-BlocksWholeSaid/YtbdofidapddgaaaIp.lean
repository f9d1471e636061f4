/-
  Plain words on instructions: which may be, where they lead; how they lie in memory. Conditions: those written in each statement.
-/
import Derived.Test.YtbdofidapddgaaaRow
import Derived.Test.YtbdofidapddgaaaMid
import Derived.Test.YtbdofidapddgaaaEq
namespace Go.Proofs.Ytbdofidapddgaaa
open Go.RowKit
set_option linter.unusedVariables false
set_option linter.unusedSimpArgs false
def I8 (x : Int) : Prop := -128 ≤ x ∧ x < 128
def I64 (x : Int) : Prop := -9223372036854775808 ≤ x ∧ x < 9223372036854775808
structure ID where
  kind : Int
  op : Int
  width : Int
  size : Int
  byReg : Bool
  dst : Int
  src : Int
  off : Int
  imm : Int
def ID.cells (x : ID) : List Value := [.int .i8 x.kind, .int .i8 x.op, .int .i8 x.width, .int .i8 x.size, .bool x.byReg, .int .i8 x.dst, .int .i8 x.src, .int .i64 x.off, .int .i64 x.imm]
def ID.wf (x : ID) : Prop := I8 x.kind ∧ I8 x.op ∧ I8 x.width ∧ I8 x.size ∧ I8 x.dst ∧ I8 x.src ∧ I64 x.off ∧ I64 x.imm
theorem ID.cells_len (x : ID) : x.cells.length = 9 := rfl
theorem ID.one (x : ID) : ∀ u ∈ x.cells, u.oneCell' = true := by
  intro v hv
  unfold ID.cells at hv
  simp only [List.mem_cons, List.not_mem_nil, or_false] at hv
  rcases hv with rfl | rfl | rfl | rfl | rfl | rfl | rfl | rfl | rfl <;> rfl
theorem ID.cells_inj {x y : ID} (h : x.cells = y.cells) : x = y := by
  unfold ID.cells at h
  simp only [List.cons.injEq, Value.int.injEq, Value.bool.injEq, true_and, and_true] at h
  obtain ⟨h0, h1, h2, h3, h4, h5, h6, h7, h8⟩ := h
  cases x
  cases y
  simp_all
def instrK : List (Option IntKind) := [some .i8, some .i8, some .i8, some .i8, none, some .i8, some .i8, some .i64, some .i64]
theorem wf_i8 {x : Int} (h : I8 x) : (Lit.int .i8 x).wf = true := by unfold I8 at h; exact WalkArith.wf_i8 (by omega)
theorem wf_i64 {x : Int} (h : I64 x) : (Lit.int .i64 x).wf = true := by unfold I64 at h; exact WalkArith.wf_i64 (by omega)
theorem ID.all {x : ID} (h : x.wf) : AllK instrK x.cells := by
  obtain ⟨h0, h1, h2, h3, h5, h6, h7, h8⟩ := h
  refine ⟨rfl, fun i k v hk hv => ?_⟩
  match i with
  | 0 => simp [instrK, ID.cells] at hk hv; subst hk hv; exact ⟨_, rfl, wf_i8 h0⟩
  | 1 => simp [instrK, ID.cells] at hk hv; subst hk hv; exact ⟨_, rfl, wf_i8 h1⟩
  | 2 => simp [instrK, ID.cells] at hk hv; subst hk hv; exact ⟨_, rfl, wf_i8 h2⟩
  | 3 => simp [instrK, ID.cells] at hk hv; subst hk hv; exact ⟨_, rfl, wf_i8 h3⟩
  | 4 => simp [instrK, ID.cells] at hk hv; subst hk hv; exact ⟨_, rfl⟩
  | 5 => simp [instrK, ID.cells] at hk hv; subst hk hv; exact ⟨_, rfl, wf_i8 h5⟩
  | 6 => simp [instrK, ID.cells] at hk hv; subst hk hv; exact ⟨_, rfl, wf_i8 h6⟩
  | 7 => simp [instrK, ID.cells] at hk hv; subst hk hv; exact ⟨_, rfl, wf_i64 h7⟩
  | 8 => simp [instrK, ID.cells] at hk hv; subst hk hv; exact ⟨_, rfl, wf_i64 h8⟩
  | i + 9 => simp [instrK] at hk
theorem row_id {r : List Value} (h : AllK instrK r) : ∃ x : ID, x.wf ∧ r = x.cells := by
  obtain ⟨hl, hk⟩ := h
  match r, hl with
  | [c0, c1, c2, c3, c4, c5, c6, c7, c8], _ =>
    obtain ⟨n0, rfl, w0⟩ := hk 0 _ _ rfl rfl
    obtain ⟨n1, rfl, w1⟩ := hk 1 _ _ rfl rfl
    obtain ⟨n2, rfl, w2⟩ := hk 2 _ _ rfl rfl
    obtain ⟨n3, rfl, w3⟩ := hk 3 _ _ rfl rfl
    obtain ⟨n4, rfl⟩ := hk 4 _ _ rfl rfl
    obtain ⟨n5, rfl, w5⟩ := hk 5 _ _ rfl rfl
    obtain ⟨n6, rfl, w6⟩ := hk 6 _ _ rfl rfl
    obtain ⟨n7, rfl, w7⟩ := hk 7 _ _ rfl rfl
    obtain ⟨n8, rfl, w8⟩ := hk 8 _ _ rfl rfl
    have a0 := bounds_i8 w0; have a1 := bounds_i8 w1; have a2 := bounds_i8 w2; have a3 := bounds_i8 w3; have a5 := bounds_i8 w5; have a6 := bounds_i8 w6; have a7 := bounds_i64 w7; have a8 := bounds_i64 w8
    refine ⟨⟨n0, n1, n2, n3, n4, n5, n6, n7, n8⟩, ?_, rfl⟩
    unfold ID.wf I8 I64
    dsimp only
    omega
theorem rows_id : ∀ rows : List (List Value), (∀ r ∈ rows, AllK instrK r) → ∃ l : List ID, l.length = rows.length ∧ (∀ x ∈ l, x.wf) ∧ rows.flatten = l.flatMap ID.cells
  | [], _ => ⟨[], rfl, by simp, rfl⟩
  | r :: t, h => by
    obtain ⟨x, hx, rfl⟩ := row_id (h r (by simp))
    obtain ⟨l, h1, h2, h3⟩ := rows_id t (fun q hq => h q (by simp [hq]))
    refine ⟨x :: l, by simp [h1], fun y hy => ?_, by simp [h3]⟩
    rcases List.mem_cons.1 hy with rfl | hy
    · exact hx
    · exact h2 y hy
/-- The k-th of rows of one length, in all of them behind one another. -/
theorem flat_at {α β : Type} (f : α → List β) (m : Nat) : ∀ (l : List α), (∀ x ∈ l, (f x).length = m) → ∀ (k j : Nat) (x : α) (u : β), l[k]? = some x → (f x)[j]? = some u → (l.flatMap f)[k * m + j]? = some u
  | [], _, k, j, x, u, hk, _ => by simp at hk
  | y :: r, hl, k, j, x, u, hk, hu => by
    rw [List.flatMap_cons]
    have hy := hl y (by simp)
    cases k with
    | zero =>
      simp at hk
      subst hk
      have hj : j < (f y).length := (List.getElem?_eq_some_iff.1 hu).1
      rw [Nat.zero_mul, Nat.zero_add, List.getElem?_append_left hj, hu]
    | succ k =>
      have := flat_at f m r (fun z hz => hl z (by simp [hz])) k j x u (by simpa using hk) hu
      rw [List.getElem?_append_right (by rw [hy, Nat.succ_mul]; omega), hy, show (k + 1) * m + j - m = k * m + j by rw [Nat.succ_mul]; omega]
      exact this
theorem flat_take {α β : Type} (f : α → List β) {l : List α} {k : Nat} {x : α} (h : l[k]? = some x) : (l.take (k + 1)).flatMap f = (l.take k).flatMap f ++ f x := by
  rw [List.take_add_one, h]
  simp
/-- Instructions that a slice reads as. -/
def InsAt (w : World) (B : Nat) (A : Option Addr) (n : Nat) (l : List ID) : Prop := l.length = n ∧ (∀ x ∈ l, x.wf) ∧ Reads w B 9 A n (l.flatMap ID.cells)
section
variable {w w' : World} {B n : Nat} {A : Option Addr} {l : List ID}
theorem InsAt.at_ {k : Nat} (h : InsAt w B A n l) (hk : k < n) : ∃ ad x, A = some ad ∧ ad.block < B ∧ l[k]? = some x ∧ x.wf ∧ ∀ j u, x.cells[j]? = some u → w.cell? ((ad.add (k * 9)).add j) = some u := by
  obtain ⟨h1, h2, h3⟩ := h
  obtain ⟨ad, e, hb, hc⟩ := h3.2 (by omega)
  have hx : l[k]? = some l[k] := List.getElem?_eq_getElem (by omega)
  refine ⟨ad, l[k], e, hb, hx, h2 _ (List.getElem_mem _), fun j u hu => ?_⟩
  rw [add_of_add]
  exact hc _ u (flat_at ID.cells 9 l (fun z hz => rfl) k j _ u hx hu)
theorem InsAt.below (h : InsAt w B A n l) (hb : Below B w w') : InsAt w' B A n l := ⟨h.1, h.2.1, h.2.2.below hb⟩
theorem InsAt.up (h : InsAt w B A n l) (hb : Below B w w') (hz : B ≤ w'.heap.size) : InsAt w' w'.heap.size A n l := ⟨h.1, h.2.1, (h.2.2.below hb).more hz⟩
theorem InsAt.alloc (h : InsAt w B A n l) (hB : B ≤ w.heap.size) (o : Obj) : InsAt (w.alloc o) B A n l := ⟨h.1, h.2.1, h.2.2.alloc hB o⟩
end
/-! ### which may be -/
def inB (n a b : Int) : Bool := decide (a ≤ n) && decide (n ≤ b)
def szB (n : Int) : Bool := n == 1 || n == 2 || n == 4 || n == 8
def rngB (x : ID) : Bool := inB x.dst 0 10 && inB x.src 0 10 && inB x.off (-32768) 32767 && inB x.imm (-2147483648) 2147483647
def kz (k : Int) : ID := ⟨k, 0, 0, 0, false, 0, 0, 0, 0⟩
def bareM (x : ID) : Bool :=
  if x.kind = 0 then inB x.op 0 12 && (x.width == 32 || x.width == 64) && decide (x.dst < 10) && (x.op != 8 || (!x.byReg && x.imm == 0))
  else if x.kind = 1 then szB x.size && decide (x.dst < 10)
  else if x.kind = 2 then szB x.size
  else if x.kind = 3 then inB x.op 0 10
  else if x.kind = 4 then true
  else if x.kind = 5 then inB x.imm 0 15
  else if x.kind = 6 then true
  else false
def immR (x : ID) : ID := if x.byReg then { x with src := 0, byReg := false } else { x with imm := 0, byReg := false }
def bareR (x : ID) : ID :=
  if x.kind = 0 then { immR x with op := 0, width := 0, dst := 0 }
  else if x.kind = 1 then { x with size := 0, dst := 0, src := 0, off := 0 }
  else if x.kind = 2 then { x with size := 0, dst := 0, src := 0, off := 0 }
  else if x.kind = 3 then { immR x with op := 0, dst := 0, off := 0 }
  else if x.kind = 4 then { x with off := 0 }
  else if x.kind = 5 then { x with imm := 0 }
  else x
def mayB (x : ID) : Bool := rngB x && (bareM x && eqL (bareR x).cells (kz x.kind).cells)
def tgtB (i : Int) (x : ID) : Bool := (x.kind == 3 || x.kind == 4) && inB i (-1099511627776) 1099511627776 && inB x.off (-1099511627776) 1099511627776
def tgtN (i : Int) (x : ID) : Int := if tgtB i x then i + 1 + x.off else 0
end Go.Proofs.Ytbdofidapddgaaa
