/-
  Stores and appends at an operation of a region that draws its order. Conditions: those written in each statement.
  Terms compared; laws for taking loads first in a region that draws. Conditions: those written in each statement.
-/
import Derived.Test.YtepagfkkjlbipaaKad
import Derived.Test.YtepagfkkjlbipaaKac
import Derived.Test.YtepagfkkjlbipaaKab
import Derived.RegionTactic
import Derived.Laws.StructEq
section
namespace Go.Proofs.Ytepagfkkjlbipaa
open Go.RowKit
set_option linter.unusedVariables false
set_option linter.unusedSimpArgs false
section
variable {P : Program} {w : World}
theorem run_loadVar_one (ty : TypeId) (ad : Addr) (d : TypeDesc) (v : Value) (hu : P.underlying ty = some d) (hd : aggD d = false) (hc : w.cell? ad = some v) : (loadVar ty ad).run P w = .ok v w := by
  have hagg : (isAgg ty).run P w = .ok false w := by
    unfold isAgg
    rw [Sem.run_bind, run_underlying hu w]
    cases d <;> simp_all [aggD]
  simp [loadVar, Sem.run_bind, hagg, hc, go_sem]
theorem run_storeVar_one (ty : TypeId) (g j : Nat) (te : TypeId) (cs : Array Value) (v : Value) (hb : Blk w g te cs) (hj : j < cs.size) (hi : (P.info? ty).map (·.size) = some 1) (hv : v.cells = #[v]) (h1 : v.oneCell' = true) : (storeVar ty ⟨g, j, none⟩ v).run P w = .ok () (w.setCell ⟨g, j, none⟩ v) := by
  have hc : w.cell? ⟨g, j, none⟩ = some cs[j] := by rw [hb.cell]; simp [hj]
  have hf := hb.frozen j
  cases hq : P.info? ty with
  | none => simp [hq] at hi
  | some i =>
    have hs : i.size = 1 := by simpa [hq] using hi
    have h2 : (store ⟨g, j, none⟩ v).run P w = .ok () (w.setCell ⟨g, j, none⟩ v) := (run_store P w _ _ _ h1).trans (by simp [stored, hc, hf])
    have ha : (⟨g, j, none⟩ : Addr).add 0 = ⟨g, j, none⟩ := rfl
    simp [storeVar, Sem.run_bind, sizeOf, typeInfo, hq, hs, hv, storeCells, ha, h2]
end
section
variable {P : Program} {ops : Array Oper} {Q : Exit → Act → World → Prop} {md : Region.Mode} {T S : World → Prop} {late : List Nat} {fuel : Nat} {listed : Array Bool} {a : Act} {w : World}
/-- A load of an aggregate, taken first. -/
theorem E_load (b : Bool) (i : Nat) (d : Option Tmp) (ty : TypeId) (x : Operand) (ad : Addr) (cs : List Value) (de : TypeDesc) (ho : opAt ops i = some (d, .load ty x)) (hc : checkE md ops late listed i b = true) (hw : wantAt ops i a = some true)
    (hQ : ∀ c u w, Q (.panic c) (Act.put u d (.agg cs.toArray)) w → Q (.panic c) u w) (hx : a.eval x = .pointer (some ad)) (hl : ∀ w, SS T S b w → ∀ j u, cs[j]? = some u → w.cell? (ad.add j) = some u)
    (hu : P.underlying ty = some de) (hd : aggD de = true) (hi : (P.info? ty).map (·.size) = some cs.length) (hS : St T S late listed w) (h : wpAnyE P md ops Q T S late fuel (listed.setIfInBounds i true) (a.put d (.agg cs.toArray)) w) : wpAnyE P md ops Q T S late (fuel + 1) listed a w :=
  E_any b i d _ _ ho hc hw (fun c u w => hQ c u w) (fun o e w hS => by
    unfold execOp
    simp only [e, hx, Instr.loadAt, Instr.sureAddr, Sem.run_bind, Sem.run_pure, Result.andThen_ok, run_loadVar_at w ad ty cs de (hl w hS) hu hd hi]) hS h
/-- A load of one cell, taken first. -/
theorem E_load1 (b : Bool) (i : Nat) (d : Option Tmp) (ty : TypeId) (x : Operand) (ad : Addr) (v : Value) (ho : opAt ops i = some (d, .load ty x)) (hc : checkE md ops late listed i b = true) (hw : wantAt ops i a = some true)
    (hQ : ∀ c a w, Q (.panic c) (a.put d v) w → Q (.panic c) a w) (hx : a.eval x = .pointer (some ad)) (hl : ∀ w, SS T S b w → (loadVar ty ad).run P w = .ok v w)
    (hS : St T S late listed w) (h : wpAnyE P md ops Q T S late fuel (listed.setIfInBounds i true) (a.put d v) w) : wpAnyE P md ops Q T S late (fuel + 1) listed a w :=
  E_any b i d _ _ ho hc hw hQ (fun o e w hS => by
    unfold execOp
    simp only [e, hx, Instr.loadAt, Instr.sureAddr, Sem.run_bind, Sem.run_pure, Result.andThen_ok, hl w hS]) hS h
theorem E_bin (i : Nat) (d : Option Tmp) (b : BinOp) (t yt : TypeId) (x y : Operand) (u z v : Value) (ho : opAt ops i = some (d, .binOp b t x y yt)) (hc : checkE md ops late listed i false = true) (hw : wantAt ops i a = some true)
    (hQ : ∀ c a w, Q (.panic c) (a.put d v) w → Q (.panic c) a w) (hx : a.eval x = u) (hy : a.eval y = z) (hr : ∀ w, (do eqGuard b t x y u z; binOp b t u z : Sem Value).run P w = .ok v w)
    (hS : St T S late listed w) (h : wpAnyE P md ops Q T S late fuel (listed.setIfInBounds i true) (a.put d v) w) : wpAnyE P md ops Q T S late (fuel + 1) listed a w :=
  E_any false i d _ _ ho hc hw hQ (fun o e w hS => by
    unfold execOp
    have := hr w
    simp only [e, hx, hy, Sem.run_bind, Sem.run_pure] at this ⊢
    rw [this]
    rfl) hS h
/-- All of a block is stored. -/
theorem StepE.store_whole (i : Nat) (ty : TypeId) (x y : Operand) (g : Nat) (Z X : List Value) (ho : opAt ops i = some (none, .store ty x y)) (hw : wantAt ops i a = some true) (hB : Blk w g ty Z.toArray)
    (hx : a.eval x = .pointer (some ⟨g, 0, none⟩)) (hy : a.eval y = .agg X.toArray) (hi : (P.info? ty).map (·.size) = some X.length) (hl : Z.length = X.length) (h1 : ∀ u ∈ X, u.oneCell' = true)
    (hK : ∀ w', Blk w' g ty X.toArray → w.grownBy w' (some g) → St T S late (listed.setIfInBounds i true) w' ∧ wpAnyE P md ops Q T S late fuel (listed.setIfInBounds i true) (a.put none undef) w') : StepE P md ops Q T S late fuel listed a w i :=
  StepE.of i none _ ho hw fun o K h2 h3 hKK => by
    unfold Oper.wp execOp
    simp only [h3, hx, hy, Instr.storeAt, Instr.sureAddr, Sem.run_bind, Sem.run_pure, Result.andThen_ok, run_storeVar_at w g 0 ty ty Z X (.agg X.toArray) hB rfl hi (by omega) h1]
    rw [Oper.upon_skip, h2]
    have hov : overC Z 0 X = X := by
      unfold overC
      rw [List.take_zero, List.nil_append, Nat.zero_add, List.drop_of_length_le (by omega), List.append_nil]
    have hxx := setRow_heap w g _ (overC Z 0 X).toArray ty (0, 0) hB
    rw [hov] at hxx ⊢
    have := hK _ hxx (grown_setRow w g _)
    exact hKK _ _ this.1 this.2
/-- One cell of a block is stored. -/
theorem StepE.store_cell (i : Nat) (ty te : TypeId) (x y : Operand) (g j : Nat) (cs : Array Value) (v : Value) (ho : opAt ops i = some (none, .store ty x y)) (hw : wantAt ops i a = some true) (hB : Blk w g te cs)
    (hx : a.eval x = .pointer (some ⟨g, j, none⟩)) (hy : a.eval y = v) (hr : (storeVar ty ⟨g, j, none⟩ v).run P w = .ok () (w.setCell ⟨g, j, none⟩ v))
    (hK : ∀ w', Blk w' g te (cs.setIfInBounds j v) → w.grownBy w' (some g) → St T S late (listed.setIfInBounds i true) w' ∧ wpAnyE P md ops Q T S late fuel (listed.setIfInBounds i true) (a.put none undef) w') : StepE P md ops Q T S late fuel listed a w i :=
  StepE.of i none _ ho hw fun o K h2 h3 hKK => by
    unfold Oper.wp execOp
    simp only [h3, hx, hy, Instr.storeAt, Instr.sureAddr, Sem.run_bind, Sem.run_pure, Result.andThen_ok, hr]
    rw [Oper.upon_skip, h2]
    have := hK _ (hB.set_ j v) ⟨rfl, rfl, rfl, by simp, fun k _ hk => heap_setCell_other w ⟨g, j, none⟩ k v (fun e => hk (by simp [e]))⟩
    exact hKK _ _ this.1 this.2
/-- A value of one element laid into a slice of its own. -/
theorem StepE.slice_one (i : Nat) (d : Option Tmp) (t e : TypeId) (x : Operand) (i0 : TypeInfo) (z v : Value) (ho : opAt ops i = some (d, .buildSlice t 1 #[(0, x)])) (hw : wantAt ops i a = some true) (ht : P.underlying t = some (.slice e)) (hi : P.info? e = some i0) (hz : i0.zero = some z)
    (hs : i0.size ≤ 1024) (h0 : 0 < i0.size) (hx : a.eval x = v) (hv : v.cells.size = i0.size)
    (hK : ∀ w' g, w.heap.size ≤ g → Blk w' g e v.cells → Below w.heap.size w w' → St T S late (listed.setIfInBounds i true) w' ∧ wpAnyE P md ops Q T S late fuel (listed.setIfInBounds i true) (a.put d (.slice (some ⟨g, 0, none⟩) 1 1)) w') : StepE P md ops Q T S late fuel listed a w i :=
  StepE.of i d _ ho hw fun o K h2 h3 hKK => by
    unfold Oper.wp execOp
    have hrun := run_buildSlice_one (P := P) w t e i0 z v ht hi hz hs h0 hv
    simp only [h3, Sem.run_bind, List.map_toArray, List.map_cons, List.map_nil, hx, hrun, Result.andThen_ok, Sem.run_pure]
    have := hK _ _ (Nat.le_refl _) (Blk.new w e v.cells) ((Below.refl _ _).alloc (Nat.le_refl _) _)
    rw [Oper.upon_value, h2]
    exact hKK _ _ this.1 this.2
/-- A field's address, taken first. -/
theorem E_field (i : Nat) (d : Option Tmp) (st : TypeId) (x : Operand) (f : Nat) (ad ad' : Addr) (ho : opAt ops i = some (d, .fieldAddr st x f)) (hc : checkE md ops late listed i false = true) (hw : wantAt ops i a = some true)
    (hQ : ∀ c a w, Q (.panic c) (a.put d (.pointer (some ad'))) w → Q (.panic c) a w) (hx : a.eval x = .pointer (some ad)) (hr : ∀ w, (Instr.fieldAt st (.pointer (some ad)) f).run P w = .ok (.pointer (some ad')) w)
    (hS : St T S late listed w) (h : wpAnyE P md ops Q T S late fuel (listed.setIfInBounds i true) (a.put d (.pointer (some ad'))) w) : wpAnyE P md ops Q T S late (fuel + 1) listed a w :=
  E_any false i d _ _ ho hc hw hQ (fun o e w _ => by
    unfold execOp
    simp only [e, hx, Sem.run_bind, hr, Result.andThen_ok, Sem.run_pure]) hS h
/-- The one field of a tuple. -/
theorem StepE.extract (i : Nat) (d : Option Tmp) (x : Operand) (k : Nat) (vs : Array Value) (v : Value) (ho : opAt ops i = some (d, .extract x k)) (hw : wantAt ops i a = some true) (hx : a.eval x = .tuple vs) (hv : vs[k]? = some v)
    (hS : St T S late (listed.setIfInBounds i true) w) (h : wpAnyE P md ops Q T S late fuel (listed.setIfInBounds i true) (a.put d v) w) : StepE P md ops Q T S late fuel listed a w i :=
  StepE.run i d _ v w ho hw (fun o e => by
    unfold execOp
    simp [e, hx, Instr.extract, hv]) hS h
/-- A pure step in its turn. -/
theorem StepE.nil (i : Nat) (d : Option Tmp) (x : Operand) (ad : Addr) (ho : opAt ops i = some (d, .nilCheck x)) (hw : wantAt ops i a = some true) (hx : a.eval x = .pointer (some ad))
    (hS : St T S late (listed.setIfInBounds i true) w) (h : wpAnyE P md ops Q T S late fuel (listed.setIfInBounds i true) (a.put d (.pointer (some ad))) w) : StepE P md ops Q T S late fuel listed a w i :=
  StepE.run i d _ _ w ho hw (fun o e => by unfold execOp; simp [e, hx]) hS h
theorem StepE.field (i : Nat) (d : Option Tmp) (st : TypeId) (x : Operand) (f : Nat) (ad ad' : Addr) (ho : opAt ops i = some (d, .fieldAddr st x f)) (hw : wantAt ops i a = some true) (hx : a.eval x = .pointer (some ad)) (hr : ∀ w, (Instr.fieldAt st (.pointer (some ad)) f).run P w = .ok (.pointer (some ad')) w)
    (hS : St T S late (listed.setIfInBounds i true) w) (h : wpAnyE P md ops Q T S late fuel (listed.setIfInBounds i true) (a.put d (.pointer (some ad'))) w) : StepE P md ops Q T S late fuel listed a w i :=
  StepE.run i d _ _ w ho hw (fun o e => by
    unfold execOp
    simp only [e, hx, Sem.run_bind, hr, Result.andThen_ok, Sem.run_pure]) hS h
/-- append. -/
theorem StepE.append (i : Nat) (d : Option Tmp) (t e : TypeId) (s x : Operand) (base : Nat) (i0 : TypeInfo) (z : Value) (size bytes : Nat) (ho : opAt ops i = some (d, .call { callee := .builtin .append, args := #[s, x], argTypes := #[t, t] })) (hw : wantAt ops i a = some true)
    (ht : P.underlying t = some (.slice e)) (hi : P.info? e = some i0) (hz : i0.zero = some z) (hsize : i0.size = size) (hby : i0.bytes = bytes) (hzs : z.cells.size = size) (hsz : 0 < size)
    (v : Value) (n : Nat) (xs : List Value) (hs : a.eval s = v) (hown : w.ownsRow base e size v n xs) (B : Nat) (A : Option Addr) (m c : Nat) (news : List Value) (hx : a.eval x = .slice A m c) (hr : Reads w B size A m news) (h1 : ∀ u ∈ news, u.oneCell' = true)
    (h63 : n + m ≤ maxLen) (hbytes : (n + m) * bytes ≤ 140737488355328) (hbase : base ≤ w.heap.size)
    (hK : ∀ v' w', w'.ownsRow base e size v' (n + m) (xs ++ news) → w.grownBy w' v.ownBlock → (v'.ownBlock = v.ownBlock ∨ v'.ownBlock = some w.heap.size) → St T S late (listed.setIfInBounds i true) w' ∧ wpAnyE P md ops Q T S late fuel (listed.setIfInBounds i true) (a.put d v') w') : StepE P md ops Q T S late fuel listed a w i :=
  StepE.of i d _ ho hw fun o K h2 h3 hKK => wp_append_any w s x t h3 base e i0 z size bytes ht hi hz hsize hby hzs hsz v n xs hs hown B A m c news hx hr h1 h63 hbytes hbase fun v' w' q1 q2 q3 => by
    have := hK v' w' q1 q2 q3
    rw [h2]
    exact hKK _ _ this.1 this.2
end
end Go.Proofs.Ytepagfkkjlbipaa
end
section
namespace Go.Proofs.Ytepagfkkjlbipaa
open Go.RowKit
set_option linter.unusedVariables false
set_option linter.unusedSimpArgs false
set_option maxRecDepth 100000
theorem flatTm : flatK Try.prog 4 87 = some [some .i8, some .i8, some .i8, some .u64, some .i64, some .i64, some .i64] := by kernel_rfl
theorem okTm : eqOk Try.prog 4 87 = true := by kernel_rfl
theorem aggTm : aggT Try.prog 87 = true := by kernel_rfl
theorem tm_all {x : TD} (h : x.wf) : AllK [some .i8, some .i8, some .i8, some .u64, some .i64, some .i64, some .i64] x.cells := by
  obtain ⟨h0, h1, h2, h3, h4, h5, h6⟩ := h
  refine ⟨rfl, fun i k v hk hv => ?_⟩
  match i with
  | 0 => simp [TD.cells] at hk hv; subst hk hv; exact ⟨_, rfl, wf_i8 h0⟩
  | 1 => simp [TD.cells] at hk hv; subst hk hv; exact ⟨_, rfl, wf_i8 h1⟩
  | 2 => simp [TD.cells] at hk hv; subst hk hv; exact ⟨_, rfl, wf_i8 h2⟩
  | 3 => simp [TD.cells] at hk hv; subst hk hv; exact ⟨_, rfl, wf_u64 h3⟩
  | 4 => simp [TD.cells] at hk hv; subst hk hv; exact ⟨_, rfl, wf_i64 h4⟩
  | 5 => simp [TD.cells] at hk hv; subst hk hv; exact ⟨_, rfl, wf_i64 h5⟩
  | 6 => simp [TD.cells] at hk hv; subst hk hv; exact ⟨_, rfl, wf_i64 h6⟩
  | i + 7 => simp at hk
theorem eqL_tm {x y : TD} (hx : x.wf) (hy : y.wf) : eqL x.cells y.cells = decide (x = y) := by
  have := eqL_iff _ _ _ (tm_all hx) (tm_all hy)
  rw [Bool.eq_iff_iff, this]
  simp only [decide_eq_true_eq]
  exact ⟨TD.cells_inj, fun h => by rw [h]⟩
theorem eql_tm {x y : TD} (hx : x.wf) (hy : y.wf) (w : World) : (binOp .eql 87 (.agg x.cells.toArray) (.agg y.cells.toArray)).run Try.prog w = .ok (.bool (decide (x = y))) w := by
  rw [run_eql_flat (by omega) flatTm okTm aggTm (tm_all hx) (tm_all hy) w, eqL_tm hx hy]
theorem eql_tmG {x y : TD} (hx : x.wf) (hy : y.wf) (p q : Operand) (w : World) : (do eqGuard .eql 87 p q (.agg x.cells.toArray) (.agg y.cells.toArray); binOp .eql 87 (.agg x.cells.toArray) (.agg y.cells.toArray) : Sem Value).run Try.prog w = .ok (.bool (decide (x = y))) w := by
  have := eql_tm hx hy w
  simp only [Sem.run_bind]
  rw [show (eqGuard .eql 87 p q (.agg x.cells.toArray) (.agg y.cells.toArray)).run Try.prog w = .ok () w from run_eqGuard_agg (w := w) .eql 87 p q _ _ Try.eqGuardType87]
  exact this
end Go.Proofs.Ytepagfkkjlbipaa
end
