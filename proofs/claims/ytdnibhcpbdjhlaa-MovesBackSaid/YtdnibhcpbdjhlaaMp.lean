/-
  Moves in memory: a slice of them, maps by them and by registers, registers' values. Conditions: those written in each statement.
-/
import Derived.Test.YtdnibhcpbdjhlaaProg
import Derived.Test.YtdnibhcpbdjhlaaPush
import Derived.Test.YtdnibhcpbdjhlaaMid
import Derived.Test.YtdnibhcpbdjhlaaMie
import Derived.Test.YtdnibhcpbdjhlaaMap
import Derived.Test.YtdnibhcpbdjhlaaKeys
import Derived.Test.YtdnibhcpbdjhlaaFlat
import Derived.Test.YtdnibhcpbdjhlaaEq
import Derived.Test.YtdnibhcpbdjhlaaMc
namespace Go.Proofs.Ytdnibhcpbdjhlaa
open Go.RowKit Go.WideShapes Go.ChangeShapes Go.Deep
open Go.Maps (Keyed)
set_option linter.unusedVariables false
set_option linter.unusedSimpArgs false
def I8 (x : Int) : Prop := -128 ≤ x ∧ x < 128
theorem wf_i8 {x : Int} (h : I8 x) : (Lit.int .i8 x).wf = true := by unfold I8 at h; exact WalkArith.wf_i8 (by omega)
theorem ret_b {a b : Bool} (h : a = b) : Ending.returned (.bool a) = .returned (.bool b) := by rw [h]
theorem ret_i {k : IntKind} {a b : Int} (h : a = b) : Ending.returned (.int k a) = .returned (.int k b) := by rw [h]
theorem all_one {cs : List Value} (h : ∀ v ∈ cs, v.oneCell' = true) : cs.toArray.all (·.oneCell') = true := by
  rw [Array.all_eq_true_iff_forall_mem]
  intro v hv
  exact h v (by simpa using hv)
def mvC (x : Mv) : List Value := [.int .i8 x.1, .int .i8 x.2]
def mvV (x : Mv) : Value := .agg #[.int .i8 x.1, .int .i8 x.2]
def mvW (x : Mv) : Prop := I8 x.1 ∧ I8 x.2
theorem mvC_one (x : Mv) : ∀ u ∈ mvC x, u.oneCell' = true := by
  intro u hu
  unfold mvC at hu
  simp at hu
  rcases hu with rfl | rfl <;> rfl
theorem mvC_inj {x y : Mv} (h : mvC x = mvC y) : x = y := by
  unfold mvC at h
  simp at h
  exact Prod.ext h.1 h.2
theorem infM : (Try.prog.info? 32).map (fun i => (i.zero, i.size, i.bytes)) = some (some (.agg #[.int .i8 0, .int .i8 0]), 2, 2) := by kernel_rfl
theorem sizM : (Try.prog.info? 32).map (·.size) = some 2 := by kernel_rfl
theorem zeroI : ∀ w : World, (zeroValue 3).run Try.prog w = .ok (.int .i64 0) w := fun w => by kernel_rfl
theorem zeroB : ∀ w : World, (zeroValue 4).run Try.prog w = .ok (.bool false) w := fun w => by kernel_rfl
/-! ### keys -/
theorem i8K : KeyEnc Try.prog 23 (Value.int .i8) I8 where
  keyed := Go.Maps.int_keyed Try.underlying23
  reads := fun x h => ⟨_, Go.Maps.keyOf_int_mk Try.underlying23 (wf_i8 h)⟩
  inj := fun x y _ _ h => by injection h
theorem laidOut_ : laidOutB Try.prog = true := by kernel_rfl
theorem mvK : KeyEnc Try.prog 32 mvV mvW where
  keyed := Keyed.of_law (deep_law_gate laidOut_ (of_decide_eq_true (by kernel_rfl)) (of_decide_eq_true (by kernel_rfl)) (by kernel_rfl) (by kernel_rfl))
  reads := fun x h => by
    refine keyOf_array (cs := mvC x) Try.underlying32 Try.underlying23 (by kernel_rfl) (by kernel_rfl) (by kernel_rfl) (by kernel_rfl) ?_
    intro i hi
    have : i = 0 ∨ i = 1 := by omega
    rcases this with rfl | rfl
    · exact ⟨x.1, rfl, wf_i8 h.1⟩
    · exact ⟨x.2, rfl, wf_i8 h.2⟩
  inj := fun x y _ _ h => by
    unfold mvV at h
    injection h with h
    simp at h
    exact Prod.ext h.1 h.2
/-! ### a slice of moves -/
theorem flat_at {α β : Type} (f : α → List β) (m : Nat) : ∀ (l : List α), (∀ x ∈ l, (f x).length = m) → ∀ (k j : Nat) (x : α) (u : β), l[k]? = some x → (f x)[j]? = some u → (l.flatMap f)[k * m + j]? = some u
  | [], _, k, j, x, u, hk, _ => by simp at hk
  | y :: r, hl, k, j, x, u, hk, hu => by
    rw [List.flatMap_cons]
    have hy := hl y (by simp)
    cases k with
    | zero =>
      simp at hk
      subst hk
      have hj : j < (f y).length := (List.getElem?_eq_some_iff.1 hu).1
      rw [Nat.zero_mul, Nat.zero_add, List.getElem?_append_left hj, hu]
    | succ k =>
      have := flat_at f m r (fun z hz => hl z (by simp [hz])) k j x u (by simpa using hk) hu
      rw [List.getElem?_append_right (by rw [hy, Nat.succ_mul]; omega), hy, show (k + 1) * m + j - m = k * m + j by rw [Nat.succ_mul]; omega]
      exact this
theorem flat_take {α β : Type} (f : α → List β) {l : List α} {k : Nat} {x : α} (h : l[k]? = some x) : (l.take (k + 1)).flatMap f = (l.take k).flatMap f ++ f x := by
  rw [List.take_add_one, h]
  simp
def MvsAt (w : World) (B : Nat) (A : Option Addr) (n : Nat) (l : List Mv) : Prop := l.length = n ∧ (∀ x ∈ l, mvW x) ∧ Reads w B 2 A n (l.flatMap mvC)
section
variable {w w' : World} {B n : Nat} {A : Option Addr} {l : List Mv}
theorem MvsAt.at_ {k : Nat} (h : MvsAt w B A n l) (hk : k < n) : ∃ ad x, A = some ad ∧ ad.block < B ∧ l[k]? = some x ∧ mvW x ∧ ∀ j u, (mvC x)[j]? = some u → w.cell? ((ad.add (k * 2)).add j) = some u := by
  obtain ⟨h1, h2, h3⟩ := h
  obtain ⟨ad, e, hb, hc⟩ := h3.2 (by omega)
  have hx : l[k]? = some l[k] := List.getElem?_eq_getElem (by omega)
  refine ⟨ad, l[k], e, hb, hx, h2 _ (List.getElem_mem _), fun j u hu => ?_⟩
  rw [add_of_add]
  exact hc _ u (flat_at mvC 2 l (fun z hz => rfl) k j _ u hx hu)
theorem MvsAt.below (h : MvsAt w B A n l) (hb : Below B w w') : MvsAt w' B A n l := ⟨h.1, h.2.1, h.2.2.below hb⟩
theorem MvsAt.up (h : MvsAt w B A n l) (hb : Below B w w') (hz : B ≤ w'.heap.size) : MvsAt w' w'.heap.size A n l := ⟨h.1, h.2.1, (h.2.2.below hb).more hz⟩
theorem MvsAt.alloc (h : MvsAt w B A n l) (hB : B ≤ w.heap.size) (o : Obj) : MvsAt (w.alloc o) B A n l := ⟨h.1, h.2.1, h.2.2.alloc hB o⟩
theorem MvsAt.drewN (h : MvsAt w B A n l) (k : Nat) : MvsAt (w.drewN k) B A n l := h
theorem MvsAt.grown (h : MvsAt w B A n l) {row : Option Nat} (hg : w.grownBy w' row) (hB : B ≤ w.heap.size) (hr : ∀ g, row = some g → B ≤ g) : MvsAt w' B A n l := ⟨h.1, h.2.1, h.2.2.grown hg hB hr⟩
end
theorem flatM : flatK Try.prog 4 32 = some [some .i8, some .i8] := by kernel_rfl
theorem row_mv {r : List Value} (h : AllK [some .i8, some .i8] r) : ∃ x : Mv, mvW x ∧ r = mvC x := by
  obtain ⟨hl, hk⟩ := h
  match r, hl with
  | [c0, c1], _ =>
    obtain ⟨n0, rfl, w0⟩ := hk 0 _ _ rfl rfl
    obtain ⟨n1, rfl, w1⟩ := hk 1 _ _ rfl rfl
    have a0 := bounds_i8 w0
    have a1 := bounds_i8 w1
    exact ⟨(n0, n1), ⟨by unfold I8; omega, by unfold I8; omega⟩, rfl⟩
theorem rows_mv : ∀ rows : List (List Value), (∀ r ∈ rows, AllK [some .i8, some .i8] r) → ∃ l : List Mv, l.length = rows.length ∧ (∀ x ∈ l, mvW x) ∧ rows.flatten = l.flatMap mvC
  | [], _ => ⟨[], rfl, by simp, rfl⟩
  | r :: t, h => by
    obtain ⟨x, hx, rfl⟩ := row_mv (h r (by simp))
    obtain ⟨l, h1, h2, h3⟩ := rows_mv t (fun q hq => h q (by simp [hq]))
    refine ⟨x :: l, by simp [h1], fun y hy => ?_, by simp [h3]⟩
    rcases List.mem_cons.1 hy with rfl | hy
    · exact hx
    · exact h2 y hy
/-! ### counts -/
def cntF (ks : List Int) : Int → Option Value := fun x => if ks.count x = 0 then none else some (.int .i64 (ks.count x))
theorem cnt_nil : cntF [] = fun _ => none := by funext x; simp [cntF]
theorem cnt_look (ks : List Int) (x : Int) : (cntF ks x).getD (.int .i64 0) = .int .i64 (ks.count x) := by
  unfold cntF
  split
  · rename_i h; rw [h]; rfl
  · rfl
theorem cnt_put (ks : List Int) (x : Int) (v : Value) (hv : v = .int .i64 ((ks.count x : Nat) + 1 : Int)) (y : Int) : cntF (ks ++ [x]) y = putF (cntF ks) x v y := by
  subst hv
  unfold putF cntF
  by_cases h : y = x
  · subst h
    simp
  · rw [if_neg h, List.count_append, List.count_cons, List.count_nil]
    have : (x == y) = false := by simpa using fun e => h e.symm
    simp [this]
end Go.Proofs.Ytdnibhcpbdjhlaa
