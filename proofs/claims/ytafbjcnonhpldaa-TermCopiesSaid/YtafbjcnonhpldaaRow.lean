/-
  Aggregates of several cells: loaded from a row's middle, laid into a new variable, read at an index. Conditions: those written in each statement.
-/
import Derived.Test.YtafbjcnonhpldaaKit
namespace Go.Proofs.Ytafbjcnonhpldaa
open Go.RowKit
set_option linter.unusedVariables false
set_option linter.unusedSimpArgs false

def aggD : TypeDesc → Bool
  | .struct _ | .array _ _ => true
  | _ => false

section
variable {P : Program}
theorem run_isAgg_ {t : TypeId} {d : TypeDesc} (hu : P.underlying t = some d) (hd : aggD d = true) (w : World) : (isAgg t).run P w = .ok true w := by
  unfold isAgg
  rw [Sem.run_bind, run_underlying hu w]
  cases d <;> simp_all [aggD]

theorem run_loadVar_at (w : World) (ad : Addr) (ty : TypeId) (cs : List Value) (d : TypeDesc) (hc : ∀ j u, cs[j]? = some u → w.cell? (ad.add j) = some u)
    (hu : P.underlying ty = some d) (hd : aggD d = true) (hi : (P.info? ty).map (·.size) = some cs.length) : (loadVar ty ad).run P w = .ok (.agg cs.toArray) w := by
  have hl := run_loadCells_list (P := P) w ad cs hc
  cases hq : P.info? ty with
  | none => simp [hq] at hi
  | some i =>
    have hs : i.size = cs.length := by simpa [hq] using hi
    simp [loadVar, Sem.run_bind, run_isAgg_ hu hd w, sizeOf, typeInfo, hq, hs, hl]

theorem wpList_load_at {ops : Array Oper} {rest : List Oper} {o : Oper} {a : Act} {w : World} {Q : Exit → Act → World → Prop} (hgd : o.guard = none) (ty : TypeId) (x : Operand) (ho : o.op = .load ty x)
    (ad : Addr) (hx : a.eval x = .pointer (some ad)) (cs : List Value) (d : TypeDesc) (hc : ∀ j u, cs[j]? = some u → w.cell? (ad.add j) = some u)
    (hu : P.underlying ty = some d) (hd : aggD d = true) (hi : (P.info? ty).map (·.size) = some cs.length)
    (h : wpList P ops Q rest (a.put o.dst (.agg cs.toArray)) w) : wpList P ops Q (o :: rest) a w :=
  wpList_plain hgd fun _ hK => by
    unfold Oper.wp execOp
    simp only [ho, hx, Instr.loadAt, Instr.sureAddr, Sem.run_bind, Sem.run_pure, Result.andThen_ok, run_loadVar_at w ad ty cs d hc hu hd hi]
    exact hK _ _ h

theorem setRow_alloc (w : World) (cs cs' : Array Value) (t : TypeId) : (w.alloc (.cells cs t)).setRow w.heap.size cs' = w.alloc (.cells cs' t) := by
  unfold World.setRow World.alloc
  congr 1
  refine Array.ext_getElem? fun i => ?_
  rw [Array.getElem?_modify]
  by_cases hi : w.heap.size = i
  · subst hi; simp
  · simp [hi, Array.getElem?_push, show i ≠ w.heap.size from fun e => hi e.symm]

/-- A new variable, and what is stored into it at once. -/
theorem wpList_alloc_store {ops : Array Oper} {rest : List Oper} {o1 o2 : Oper} {a : Act} {w : World} {Q : Exit → Act → World → Prop} (hg1 : o1.guard = none) (hg2 : o2.guard = none) (ty : TypeId) (x y : Operand)
    (ho1 : o1.op = .alloc ty) (ho2 : o2.op = .store ty x y) (i0 : TypeInfo) (z v : Value) (hi : P.info? ty = some i0) (hz : i0.zero = some z) (hzs : z.cells.size = i0.size) (hvs : v.cells.size = i0.size) (h1 : v.cells.all (·.oneCell') = true)
    (hx : (a.put o1.dst (.pointer (some ⟨w.heap.size, 0, none⟩))).eval x = .pointer (some ⟨w.heap.size, 0, none⟩)) (hy : (a.put o1.dst (.pointer (some ⟨w.heap.size, 0, none⟩))).eval y = v)
    (h : wpList P ops Q rest ((a.put o1.dst (.pointer (some ⟨w.heap.size, 0, none⟩))).put o2.dst undef) (w.alloc (.cells v.cells ty))) : wpList P ops Q (o1 :: o2 :: rest) a w := by
  refine wpList_plain hg1 fun K hK => ?_
  unfold Oper.wp execOp
  have hrun : (Instr.alloc ty true (.tuple #[])).run P w = .ok (.pointer (some ⟨w.heap.size, 0, none⟩)) (w.alloc (.cells z.cells ty)) := by
    simp [Instr.alloc, zeroValue, typeInfo, hi, hz, newVar, newRow, Sem.run_bind]
  simp only [ho1, Sem.run_bind, hrun, Result.andThen_ok, Sem.run_pure]
  refine hK _ _ ?_
  refine wpList_plain hg2 fun K' hK' => ?_
  unfold Oper.wp execOp
  have hst : (storeVar ty ⟨w.heap.size, 0, none⟩ v).run P (w.alloc (.cells z.cells ty)) = .ok () (w.alloc (.cells v.cells ty)) := by
    have := run_storeCells_from (P := P) w.heap.size ty v.cells.toList 0 z.cells (w.alloc (.cells z.cells ty)) (heap_alloc_new w _) (by simp; omega) (fun u hu => (Array.all_eq_true_iff_forall_mem.1 h1) u (by simpa using hu))
    simp [storeVar, sizeOf, typeInfo, hi, hvs, this, setRow_alloc]
  simp only [ho2, hx, hy, Instr.storeAt, Instr.sureAddr, Sem.run_bind, Sem.run_pure, Result.andThen_ok, hst]
  exact hK' _ _ h

/-- .. the new world under a name. -/
theorem wpList_new {ops : Array Oper} {rest : List Oper} {o1 o2 : Oper} {a : Act} {w : World} {Q : Exit → Act → World → Prop} (hg1 : o1.guard = none) (hg2 : o2.guard = none) (ty : TypeId) (x y : Operand)
    (ho1 : o1.op = .alloc ty) (ho2 : o2.op = .store ty x y) (i0 : TypeInfo) (z v : Value) (cs : Array Value) (hi : P.info? ty = some i0) (hz : i0.zero = some z) (hzs : z.cells.size = i0.size) (hcs : v.cells = cs) (hvs : cs.size = i0.size)
    (h1 : cs.all (·.oneCell') = true)
    (hx : (a.put o1.dst (.pointer (some ⟨w.heap.size, 0, none⟩))).eval x = .pointer (some ⟨w.heap.size, 0, none⟩)) (hy : (a.put o1.dst (.pointer (some ⟨w.heap.size, 0, none⟩))).eval y = v)
    (h : ∀ w' g, w.heap.size ≤ g → Blk w' g ty cs → Below w.heap.size w w' → wpList P ops Q rest ((a.put o1.dst (.pointer (some ⟨g, 0, none⟩))).put o2.dst undef) w') : wpList P ops Q (o1 :: o2 :: rest) a w := by
  subst hcs
  exact wpList_alloc_store hg1 hg2 ty x y ho1 ho2 i0 z v hi hz hzs hvs h1 hx hy (h _ _ (Nat.le_refl _) (Blk.new w _ _) ((Below.refl _ _).alloc (Nat.le_refl _) _))

theorem run_index_agg (w : World) (t e : TypeId) (len sz : Nat) (cs : Array Value) (kd : IntKind) (i : Nat) (d : TypeDesc) (ht : P.underlying t = some (.array len e)) (he : P.underlying e = some d) (hd : aggD d = true)
    (hsz : (P.info? e).map (·.size) = some sz) (hi : i < len) : (Instr.index t (.agg cs) (.int kd (i : Int))).run P w = .ok (.agg (cs.extract (i * sz) (i * sz + sz))) w := by
  cases hq : P.info? e with
  | none => simp [hq] at hsz
  | some i0 =>
    have hs : i0.size = sz := by simpa [hq] using hsz
    simp [Instr.index, run_underlying ht, hi, sizeOf, typeInfo, hq, hs, part, Sem.run_bind, run_isAgg_ he hd w, asIntOf]

theorem run_index_one (w : World) (t e : TypeId) (len : Nat) (cs : Array Value) (kd : IntKind) (i : Nat) (d : TypeDesc) (v : Value) (ht : P.underlying t = some (.array len e)) (he : P.underlying e = some d) (hd : aggD d = false)
    (hsz : (P.info? e).map (·.size) = some 1) (hi : i < len) (hv : cs[i]? = some v) : (Instr.index t (.agg cs) (.int kd (i : Int))).run P w = .ok v w := by
  have hagg : (isAgg e).run P w = .ok false w := by
    unfold isAgg
    rw [Sem.run_bind, run_underlying he w]
    cases d <;> simp_all [aggD]
  cases hq : P.info? e with
  | none => simp [hq] at hsz
  | some i0 =>
    have hs : i0.size = 1 := by simpa [hq] using hsz
    simp [Instr.index, run_underlying ht, hi, sizeOf, typeInfo, hq, hs, part, Sem.run_bind, hagg, asIntOf, hv]

/-- A value's read at an index, at the operation. -/
theorem wpList_index_agg {ops : Array Oper} {rest : List Oper} {o : Oper} {a : Act} {w : World} {Q : Exit → Act → World → Prop} (hgd : o.guard = none) (t e : TypeId) (x y : Operand) (ho : o.op = .index t x y)
    (len sz : Nat) (cs : Array Value) (kd : IntKind) (i : Nat) (d : TypeDesc) (ht : P.underlying t = some (.array len e)) (he : P.underlying e = some d) (hd : aggD d = true) (hsz : (P.info? e).map (·.size) = some sz) (hi : i < len)
    (hx : a.eval x = .agg cs) (hy : a.eval y = .int kd (i : Int)) (c : Array Value) (hc : cs.extract (i * sz) (i * sz + sz) = c)
    (h : wpList P ops Q rest (a.put o.dst (.agg c)) w) : wpList P ops Q (o :: rest) a w :=
  wpList_plain hgd fun _ hK => by
    subst hc
    unfold Oper.wp execOp
    simp only [ho, hx, hy, Sem.run_bind, run_index_agg w t e len sz cs kd i d ht he hd hsz hi, Sem.run_pure, Result.andThen_ok]
    exact hK _ _ h
/-- A value boxed, the new world under a name. -/
theorem wpList_box {ops : Array Oper} {rest : List Oper} {o : Oper} {a : Act} {w : World} {Q : Exit → Act → World → Prop} (hgd : o.guard = none) (ty : TypeId) (x : Operand) (ho : o.op = .box ty x) (v : Value) (cs : Array Value) (hv : a.eval x = v) (hcs : v.cells = cs)
    (h : ∀ w' g, w.heap.size ≤ g → Blk w' g ty cs → Below w.heap.size w w' → wpList P ops Q rest (a.put o.dst (.pointer (some ⟨g, 0, none⟩))) w') : wpList P ops Q (o :: rest) a w :=
  wpList_plain hgd fun _ hK => by
    subst hcs
    unfold Oper.wp execOp
    have hrun : (Instr.box ty v).run P w = .ok (.pointer (some ⟨w.heap.size, 0, none⟩)) (w.alloc (.cells v.cells ty)) := by
      simp [Instr.box, newVar, newRow, Sem.run_bind]
    simp only [ho, hv, Sem.run_bind, hrun, Sem.run_pure, Result.andThen_ok]
    exact hK _ _ (h _ _ (Nat.le_refl _) (Blk.new w _ _) ((Below.refl _ _).alloc (Nat.le_refl _) _))
end
/-- A struct's cells behind its first. -/
theorem blk_tail {w : World} {g : Nat} {t : TypeId} {v : Value} {l : List Value} (h : Blk w g t (v :: l).toArray) : ∀ j u, l[j]? = some u → w.cell? ((⟨g, 1, none⟩ : Addr).add j) = some u := by
  intro j u hu
  rw [show (⟨g, 1, none⟩ : Addr).add j = ⟨g, 1 + j, none⟩ from by unfold Addr.add; split <;> simp_all, h.cell (1 + j)]
  rw [Nat.add_comm]
  simpa using hu
theorem blk_list {w : World} {g : Nat} {t : TypeId} {l : List Value} (h : Blk w g t l.toArray) : ∀ j u, l[j]? = some u → w.cell? ((⟨g, 0, none⟩ : Addr).add j) = some u := by
  intro j u hu
  rw [show (⟨g, 0, none⟩ : Addr).add j = ⟨g, j, none⟩ from by unfold Addr.add; split <;> simp_all, h.cell j]
  simpa using hu
end Go.Proofs.Ytafbjcnonhpldaa
