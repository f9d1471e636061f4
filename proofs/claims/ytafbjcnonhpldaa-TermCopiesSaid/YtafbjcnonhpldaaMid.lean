/-
  An aggregate stored into a block's middle; a slice cut from a number on, its address under a name. Conditions: those written in each statement.
-/
import Derived.Test.YtafbjcnonhpldaaRow
import Derived.Laws.CopyRow
import Derived.Laws.Slices
import Derived.BigFrame
namespace Go.Proofs.Ytafbjcnonhpldaa
open Go.RowKit
set_option linter.unusedVariables false
set_option linter.unusedSimpArgs false
/-- Cells laid over others from a number on. -/
def overC (cs : List Value) (k : Nat) (vs : List Value) : List Value := cs.take k ++ vs ++ cs.drop (k + vs.length)
theorem overC_len {cs vs : List Value} {k : Nat} (h : k + vs.length ≤ cs.length) : (overC cs k vs).length = cs.length := by
  unfold overC
  simp
  omega
theorem grown_setRow (w : World) (g : Nat) (cs : Array Value) : w.grownBy (w.setRow g cs) (some g) :=
  ⟨rfl, rfl, rfl, by simp, fun i _ hne => setRow_other w g i cs (fun e => hne (by rw [e]))⟩
section
variable {P : Program}
theorem run_storeVar_at (w : World) (g off : Nat) (tb ty : TypeId) (cs vs : List Value) (v : Value) (hB : Blk w g tb cs.toArray) (hv : v.cells = vs.toArray) (hi : (P.info? ty).map (·.size) = some vs.length)
    (hl : off + vs.length ≤ cs.length) (h1 : ∀ u ∈ vs, u.oneCell' = true) : (storeVar ty ⟨g, off, none⟩ v).run P w = .ok () (w.setRow g (overC cs off vs).toArray) := by
  have hst := run_storeCells_at (P := P) g off tb vs 0 cs.toArray w hB (by simpa using hl) h1
  cases hq : P.info? ty with
  | none => simp [hq] at hi
  | some i =>
    have hs : i.size = vs.length := by simpa [hq] using hi
    simp [storeVar, Sem.run_bind, sizeOf, typeInfo, hq, hs, hv, hst, overC]
/-- A store of several cells into a block. -/
theorem wpList_store_at {ops : Array Oper} {rest : List Oper} {o : Oper} {a : Act} {w : World} {Q : Exit → Act → World → Prop} (hgd : o.guard = none) (ty : TypeId) (x y : Operand) (ho : o.op = .store ty x y)
    (g off : Nat) (tb : TypeId) (cs vs : List Value) (v : Value) (hB : Blk w g tb cs.toArray) (hx : a.eval x = .pointer (some ⟨g, off, none⟩)) (hy : a.eval y = v) (hv : v.cells = vs.toArray) (hi : (P.info? ty).map (·.size) = some vs.length)
    (hl : off + vs.length ≤ cs.length) (h1 : ∀ u ∈ vs, u.oneCell' = true)
    (h : ∀ w', Blk w' g tb (overC cs off vs).toArray → w.grownBy w' (some g) → w'.heap.size = w.heap.size → wpList P ops Q rest (a.put o.dst undef) w') : wpList P ops Q (o :: rest) a w :=
  wpList_plain hgd fun _ hK => by
    unfold Oper.wp execOp
    simp only [ho, hx, hy, Instr.storeAt, Instr.sureAddr, Sem.run_bind, Sem.run_pure, Result.andThen_ok, run_storeVar_at w g off tb ty cs vs v hB hv hi hl h1]
    exact hK _ _ (h _ (setRow_heap w g _ _ tb (0, 0) hB) (grown_setRow w g _) (by simp))
/-- A load of several cells, guarded, wanted. -/
theorem wpList_load_atw {ops : Array Oper} {rest : List Oper} {o : Oper} {a : Act} {w : World} {Q : Exit → Act → World → Prop} (hgd : Region.wanted o (yielded ops a.tmps) = true) (ty : TypeId) (x : Operand) (ho : o.op = .load ty x)
    (ad : Addr) (hx : a.eval x = .pointer (some ad)) (cs : List Value) (d : TypeDesc) (hc : ∀ j u, cs[j]? = some u → w.cell? (ad.add j) = some u)
    (hu : P.underlying ty = some d) (hd : aggD d = true) (hi : (P.info? ty).map (·.size) = some cs.length)
    (h : wpList P ops Q rest (a.put o.dst (.agg cs.toArray)) w) : wpList P ops Q (o :: rest) a w :=
  BigFrame.wpList_want hgd fun _ hK => by
    unfold Oper.wp execOp
    simp only [ho, hx, Instr.loadAt, Instr.sureAddr, Sem.run_bind, Sem.run_pure, Result.andThen_ok, run_loadVar_at w ad ty cs d hc hu hd hi]
    exact hK _ _ h
theorem elem_of {t e : TypeId} (ht : P.underlying t = some (.slice e)) : P.elem t = e := by
  simp [Program.elem, ht]
/-- x[k:]. -/
theorem wpList_from {ops : Array Oper} {rest : List Oper} {o : Oper} {a : Act} {w : World} {Q : Exit → Act → World → Prop} (hgd : o.guard = none) (t e : TypeId) (x y : Operand) (ho : o.op = .slice t x (some y) none none)
    (ht : P.underlying t = some (.slice e)) (size : Nat) (hi : (P.info? e).map (·.size) = some size) (A : Option Addr) (n c k : Nat) (kd : IntKind) (hx : a.eval x = .slice A n c) (hy : a.eval y = .int kd (k : Int)) (hk : k ≤ n) (hc : n ≤ c)
    (B : Nat) (xs : List Value) (hr : Reads w B size A n xs)
    (h : ∀ A', Reads w B size A' (n - k) (xs.drop (k * size)) → wpList P ops Q rest (a.put o.dst (.slice A' (n - k) (c - k))) w) : wpList P ops Q (o :: rest) a w :=
  wpList_plain hgd fun _ hK => by
    unfold Oper.wp execOp
    have hte : P.underlying t = some (.slice (P.elem t)) := by rw [elem_of ht]; exact ht
    cases hq : P.info? e with
    | none => simp [hq] at hi
    | some i =>
      have hs : i.size = size := by simpa [hq] using hi
      have hrun : (Instr.sliceAt t (.slice A n c) (some (.int kd (k : Int))) none none).run P w = .ok (.slice (if c = k then A else A.map (·.add (k * size))) (n - k) (c - k)) w := by
        rw [run_sliceAt_slice w t _ _ _ _ hte, run_slice_l w t A n c hte kd (k : Int) (by omega) (by omega), elem_of ht]
        simp [sizeOf, typeInfo, hq, hs, Go.sliced, Sem.run_bind]
      simp only [ho, hx, hy, Option.map_some, Option.map_none, Sem.run_bind, hrun, Sem.run_pure, Result.andThen_ok]
      exact hK _ _ (h _ (hr.cut hk hc))
theorem Reads.take_g {w : World} {B size n m : Nat} {A : Option Addr} {xs : List Value} (h : Reads w B size A n xs) (hm : m ≤ n) : Reads w B size A m (xs.take (m * size)) := by
  have hl : m * size ≤ n * size := Nat.mul_le_mul_right _ hm
  refine ⟨by rw [List.length_take, h.1]; omega, fun h0 => ?_⟩
  obtain ⟨ad, e, hb, hc⟩ := h.2 (by omega)
  refine ⟨ad, e, hb, fun j u hu => hc j u ?_⟩
  rw [List.getElem?_take] at hu
  split at hu
  · exact hu
  · cases hu
/-- x[l:h]. -/
theorem wpList_fromto {ops : Array Oper} {rest : List Oper} {o : Oper} {a : Act} {w : World} {Q : Exit → Act → World → Prop} (hgd : o.guard = none) (t e : TypeId) (x y z : Operand) (ho : o.op = .slice t x (some y) (some z) none)
    (ht : P.underlying t = some (.slice e)) (size : Nat) (hi : (P.info? e).map (·.size) = some size) (A : Option Addr) (n c l h : Nat) (kd ke : IntKind) (hx : a.eval x = .slice A n c) (hy : a.eval y = .int kd (l : Int)) (hz : a.eval z = .int ke (h : Int)) (hl : l ≤ h) (hh : h ≤ n) (hc : n ≤ c)
    (B : Nat) (xs : List Value) (hr : Reads w B size A n xs)
    (hk : ∀ A', Reads w B size A' (h - l) ((xs.drop (l * size)).take ((h - l) * size)) → wpList P ops Q rest (a.put o.dst (.slice A' (h - l) (c - l))) w) : wpList P ops Q (o :: rest) a w :=
  wpList_plain hgd fun _ hK => by
    unfold Oper.wp execOp
    have hte : P.underlying t = some (.slice (P.elem t)) := by rw [elem_of ht]; exact ht
    cases hq : P.info? e with
    | none => simp [hq] at hi
    | some i =>
      have hs : i.size = size := by simpa [hq] using hi
      have hrun : (Instr.sliceAt t (.slice A n c) (some (.int kd (l : Int))) (some (.int ke (h : Int))) none).run P w = .ok (.slice (if c = l then A else A.map (·.add (l * size))) (h - l) (c - l)) w := by
        rw [run_sliceAt_slice w t _ _ _ _ hte, run_slice_lh w t A n c hte kd ke (l : Int) (h : Int) (by omega) (by omega) (by omega), elem_of ht]
        simp [sizeOf, typeInfo, hq, hs, Go.sliced, Sem.run_bind]
      simp only [ho, hx, hy, hz, Option.map_some, Option.map_none, Sem.run_bind, hrun, Sem.run_pure, Result.andThen_ok]
      exact hK _ _ (hk _ ((hr.cut (by omega) hc).take_g (by omega)))
end
end Go.Proofs.Ytafbjcnonhpldaa
