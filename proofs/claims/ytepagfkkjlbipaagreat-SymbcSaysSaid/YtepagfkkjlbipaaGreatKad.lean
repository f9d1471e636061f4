/-
  Plain words on instructions: which may be, where they lead; how they lie in memory. Conditions: those written in each statement.
  Loads of aggregates, and operations on them, inside a region that only reads: laws for its lexical walk. Conditions: those written in each statement.
  Stores and appends at an operation of a region that draws its order. Conditions: those written in each statement.
  Maps written at an operation of a region that draws its order. Conditions: those written in each statement.
  A map's read inside a region that only reads. Conditions: those written in each statement.
  A load of an aggregate, guarded and wanted, inside a region that only reads. Conditions: those written in each statement.
-/
import Derived.Test.YtepagfkkjlbipaaGreatKab
import Derived.Test.YtepagfkkjlbipaaGreatKac
import Derived.Test.YtepagfkkjlbipaaGreatKac
import Derived.Test.YtepagfkkjlbipaaGreatOrd
import Derived.Test.YtepagfkkjlbipaaGreatKaa
section
namespace Go.Proofs.YtepagfkkjlbipaaGreat
open Go.RowKit
set_option linter.unusedVariables false
set_option linter.unusedSimpArgs false
def I8 (x : Int) : Prop := -128 ≤ x ∧ x < 128
def I64 (x : Int) : Prop := -9223372036854775808 ≤ x ∧ x < 9223372036854775808
structure ID where
 kind : Int
 op : Int
 width : Int
 size : Int
 byReg : Bool
 dst : Int
 src : Int
 off : Int
 imm : Int
def ID.cells (x : ID) : List Value := [.int .i8 x.kind, .int .i8 x.op, .int .i8 x.width, .int .i8 x.size, .bool x.byReg, .int .i8 x.dst, .int .i8 x.src, .int .i64 x.off, .int .i64 x.imm]
def ID.wf (x : ID) : Prop := I8 x.kind ∧ I8 x.op ∧ I8 x.width ∧ I8 x.size ∧ I8 x.dst ∧ I8 x.src ∧ I64 x.off ∧ I64 x.imm
theorem ID.one (x : ID) : ∀ u ∈ x.cells, u.oneCell' = true := by
 intro v hv
 unfold ID.cells at hv
 simp only [List.mem_cons, List.not_mem_nil, or_false] at hv
 rcases hv with rfl | rfl | rfl | rfl | rfl | rfl | rfl | rfl | rfl <;> rfl
theorem ID.cells_inj {x y : ID} (h : x.cells = y.cells) : x = y := by
 unfold ID.cells at h
 simp only [List.cons.injEq, Value.int.injEq, Value.bool.injEq, true_and, and_true] at h
 obtain ⟨h0, h1, h2, h3, h4, h5, h6, h7, h8⟩ := h
 cases x
 cases y
 simp_all
def instrK : List (Option IntKind) := [some .i8, some .i8, some .i8, some .i8, none, some .i8, some .i8, some .i64, some .i64]
theorem wf_i8 {x : Int} (h : I8 x) : (Lit.int .i8 x).wf = true := by unfold I8 at h; exact WalkArith.wf_i8 (by omega)
theorem wf_i64 {x : Int} (h : I64 x) : (Lit.int .i64 x).wf = true := by unfold I64 at h; exact WalkArith.wf_i64 (by omega)
theorem ID.all {x : ID} (h : x.wf) : AllK instrK x.cells := by
 obtain ⟨h0, h1, h2, h3, h5, h6, h7, h8⟩ := h
 refine ⟨rfl, fun i k v hk hv => ?_⟩
 match i with
 | 0 => simp [instrK, ID.cells] at hk hv; subst hk hv; exact ⟨_, rfl, wf_i8 h0⟩
 | 1 => simp [instrK, ID.cells] at hk hv; subst hk hv; exact ⟨_, rfl, wf_i8 h1⟩
 | 2 => simp [instrK, ID.cells] at hk hv; subst hk hv; exact ⟨_, rfl, wf_i8 h2⟩
 | 3 => simp [instrK, ID.cells] at hk hv; subst hk hv; exact ⟨_, rfl, wf_i8 h3⟩
 | 4 => simp [instrK, ID.cells] at hk hv; subst hk hv; exact ⟨_, rfl⟩
 | 5 => simp [instrK, ID.cells] at hk hv; subst hk hv; exact ⟨_, rfl, wf_i8 h5⟩
 | 6 => simp [instrK, ID.cells] at hk hv; subst hk hv; exact ⟨_, rfl, wf_i8 h6⟩
 | 7 => simp [instrK, ID.cells] at hk hv; subst hk hv; exact ⟨_, rfl, wf_i64 h7⟩
 | 8 => simp [instrK, ID.cells] at hk hv; subst hk hv; exact ⟨_, rfl, wf_i64 h8⟩
 | i + 9 => simp [instrK] at hk
theorem row_id {r : List Value} (h : AllK instrK r) : ∃ x : ID, x.wf ∧ r = x.cells := by
 obtain ⟨hl, hk⟩ := h
 match r, hl with
 | [c0, c1, c2, c3, c4, c5, c6, c7, c8], _ =>
  obtain ⟨n0, rfl, w0⟩ := hk 0 _ _ rfl rfl
  obtain ⟨n1, rfl, w1⟩ := hk 1 _ _ rfl rfl
  obtain ⟨n2, rfl, w2⟩ := hk 2 _ _ rfl rfl
  obtain ⟨n3, rfl, w3⟩ := hk 3 _ _ rfl rfl
  obtain ⟨n4, rfl⟩ := hk 4 _ _ rfl rfl
  obtain ⟨n5, rfl, w5⟩ := hk 5 _ _ rfl rfl
  obtain ⟨n6, rfl, w6⟩ := hk 6 _ _ rfl rfl
  obtain ⟨n7, rfl, w7⟩ := hk 7 _ _ rfl rfl
  obtain ⟨n8, rfl, w8⟩ := hk 8 _ _ rfl rfl
  have a0 := bounds_i8 w0; have a1 := bounds_i8 w1; have a2 := bounds_i8 w2; have a3 := bounds_i8 w3; have a5 := bounds_i8 w5; have a6 := bounds_i8 w6; have a7 := bounds_i64 w7; have a8 := bounds_i64 w8
  refine ⟨⟨n0, n1, n2, n3, n4, n5, n6, n7, n8⟩, ?_, rfl⟩
  unfold ID.wf I8 I64
  dsimp only
  omega
theorem rows_id : ∀ rows : List (List Value), (∀ r ∈ rows, AllK instrK r) → ∃ l : List ID, l.length = rows.length ∧ (∀ x ∈ l, x.wf) ∧ rows.flatten = l.flatMap ID.cells
 | [], _ => ⟨[], rfl, by simp, rfl⟩
 | r :: t, h => by
  obtain ⟨x, hx, rfl⟩ := row_id (h r (by simp))
  obtain ⟨l, h1, h2, h3⟩ := rows_id t (fun q hq => h q (by simp [hq]))
  refine ⟨x :: l, by simp [h1], fun y hy => ?_, by simp [h3]⟩
  rcases List.mem_cons.1 hy with rfl | hy
  ·exact hx
  ·exact h2 y hy
/-- The k-th of rows of one length, in all of them behind one another. -/
theorem flat_at {α β : Type} (f : α → List β) (m : Nat) : ∀ (l : List α), (∀ x ∈ l, (f x).length = m) → ∀ (k j : Nat) (x : α) (u : β), l[k]? = some x → (f x)[j]? = some u → (l.flatMap f)[k * m + j]? = some u
 | [], _, k, j, x, u, hk, _ => by simp at hk
 | y :: r, hl, k, j, x, u, hk, hu => by
  rw [List.flatMap_cons]
  have hy := hl y (by simp)
  cases k with
  | zero =>
   simp at hk
   subst hk
   have hj : j < (f y).length := (List.getElem?_eq_some_iff.1 hu).1
   rw [Nat.zero_mul, Nat.zero_add, List.getElem?_append_left hj, hu]
  | succ k =>
   have := flat_at f m r (fun z hz => hl z (by simp [hz])) k j x u (by simpa using hk) hu
   rw [List.getElem?_append_right (by rw [hy, Nat.succ_mul]; omega), hy, show (k + 1) * m + j - m = k * m + j by rw [Nat.succ_mul]; omega]
   exact this
/-- Instructions that a slice reads as. -/
def InsAt (w : World) (B : Nat) (A : Option Addr) (n : Nat) (l : List ID) : Prop := l.length = n ∧ (∀ x ∈ l, x.wf) ∧ Reads w B 9 A n (l.flatMap ID.cells)
section
variable {w w' : World} {B n : Nat} {A : Option Addr} {l : List ID}
theorem InsAt.at_ {k : Nat} (h : InsAt w B A n l) (hk : k < n) : ∃ ad x, A = some ad ∧ ad.block < B ∧ l[k]? = some x ∧ x.wf ∧ ∀ j u, x.cells[j]? = some u → w.cell? ((ad.add (k * 9)).add j) = some u := by
 obtain ⟨h1, h2, h3⟩ := h
 obtain ⟨ad, e, hb, hc⟩ := h3.2 (by omega)
 have hx : l[k]? = some l[k] := List.getElem?_eq_getElem (by omega)
 refine ⟨ad, l[k], e, hb, hx, h2 _ (List.getElem_mem _), fun j u hu => ?_⟩
 rw [add_of_add]
 exact hc _ u (flat_at ID.cells 9 l (fun z hz => rfl) k j _ u hx hu)
theorem InsAt.below (h : InsAt w B A n l) (hb : Below B w w') : InsAt w' B A n l := ⟨h.1, h.2.1, h.2.2.below hb⟩
theorem InsAt.up (h : InsAt w B A n l) (hb : Below B w w') (hz : B ≤ w'.heap.size) : InsAt w' w'.heap.size A n l := ⟨h.1, h.2.1, (h.2.2.below hb).more hz⟩
theorem InsAt.alloc (h : InsAt w B A n l) (hB : B ≤ w.heap.size) (o : Obj) : InsAt (w.alloc o) B A n l := ⟨h.1, h.2.1, h.2.2.alloc hB o⟩
end
/-! ### which may be -/
def inB (n a b : Int) : Bool := decide (a ≤ n) && decide (n ≤ b)
def szB (n : Int) : Bool := n == 1 || n == 2 || n == 4 || n == 8
def rngB (x : ID) : Bool := inB x.dst 0 10 && inB x.src 0 10 && inB x.off (-32768) 32767 && inB x.imm (-2147483648) 2147483647
def kz (k : Int) : ID := ⟨k, 0, 0, 0, false, 0, 0, 0, 0⟩
def bareM (x : ID) : Bool :=
 if x.kind = 0 then inB x.op 0 12 && (x.width == 32 || x.width == 64) && decide (x.dst < 10) && (x.op != 8 || (!x.byReg && x.imm == 0))
 else if x.kind = 1 then szB x.size && decide (x.dst < 10)
 else if x.kind = 2 then szB x.size
 else if x.kind = 3 then inB x.op 0 10
 else if x.kind = 4 then true
 else if x.kind = 5 then inB x.imm 0 15
 else if x.kind = 6 then true
 else false
def immR (x : ID) : ID := if x.byReg then { x with src := 0, byReg := false } else { x with imm := 0, byReg := false }
def bareR (x : ID) : ID :=
 if x.kind = 0 then { immR x with op := 0, width := 0, dst := 0 }
 else if x.kind = 1 then { x with size := 0, dst := 0, src := 0, off := 0 }
 else if x.kind = 2 then { x with size := 0, dst := 0, src := 0, off := 0 }
 else if x.kind = 3 then { immR x with op := 0, dst := 0, off := 0 }
 else if x.kind = 4 then { x with off := 0 }
 else if x.kind = 5 then { x with imm := 0 }
 else x
def mayB (x : ID) : Bool := rngB x && (bareM x && eqL (bareR x).cells (kz x.kind).cells)
def tgtB (i : Int) (x : ID) : Bool := (x.kind == 3 || x.kind == 4) && inB i (-1099511627776) 1099511627776 && inB x.off (-1099511627776) 1099511627776
def tgtN (i : Int) (x : ID) : Int := if tgtB i x then i + 1 + x.off else 0
end Go.Proofs.YtepagfkkjlbipaaGreat
end
section
namespace Go.Proofs.YtepagfkkjlbipaaGreat
open Go.RowKit
set_option linter.unusedVariables false
set_option linter.unusedSimpArgs false
section
variable {P : Program}
theorem wpQuiet_load {ops : Array Oper} {rest : List Oper} {o : Oper} {a : Act} {W : World} {Q : Act → Prop} (hgd : o.guard = none) (ty : TypeId) (x : Operand) (ho : o.op = .load ty x)
  (ad : Addr) (hx : a.eval x = .pointer (some ad)) (cs : List Value) (d : TypeDesc) (hc : ∀ j u, cs[j]? = some u → W.cell? (ad.add j) = some u)
  (hu : P.underlying ty = some d) (hd : aggD d = true) (hi : (P.info? ty).map (·.size) = some cs.length)
  (h : wpQuiet P ops (fun w' => ∃ n, w' = W.drewN n) Q rest (a.put o.dst (.agg cs.toArray))) : wpQuiet P ops (fun w' => ∃ n, w' = W.drewN n) Q (o :: rest) a := by
 have hw : Region.wanted o (yielded ops a.tmps) = true := by simp [Region.wanted, hgd]
 unfold wpQuiet
 rw [if_pos hw]
 refine ⟨.agg cs.toArray, ?_, h⟩
 rintro w ⟨n, rfl⟩
 unfold Oper.quietAt execOp
 simp only [ho, hx, Instr.loadAt, Instr.sureAddr, Sem.run_bind, Sem.run_pure, Result.andThen_ok, run_loadVar_at (P := P) (W.drewN n) ad ty cs d hc hu hd hi]
 exact ⟨rfl, rfl⟩
end
end Go.Proofs.YtepagfkkjlbipaaGreat
end
section
namespace Go.Proofs.YtepagfkkjlbipaaGreat
open Go.RowKit
set_option linter.unusedVariables false
set_option linter.unusedSimpArgs false
section
variable {P : Program} {w : World}
theorem run_loadVar_one (ty : TypeId) (ad : Addr) (d : TypeDesc) (v : Value) (hu : P.underlying ty = some d) (hd : aggD d = false) (hc : w.cell? ad = some v) : (loadVar ty ad).run P w = .ok v w := by
 have hagg : (isAgg ty).run P w = .ok false w := by
  unfold isAgg
  rw [Sem.run_bind, run_underlying hu w]
  cases d <;> simp_all [aggD]
 simp [loadVar, Sem.run_bind, hagg, hc, go_sem]
theorem run_storeVar_one (ty : TypeId) (g j : Nat) (te : TypeId) (cs : Array Value) (v : Value) (hb : Blk w g te cs) (hj : j < cs.size) (hi : (P.info? ty).map (·.size) = some 1) (hv : v.cells = #[v]) (h1 : v.oneCell' = true) : (storeVar ty ⟨g, j, none⟩ v).run P w = .ok () (w.setCell ⟨g, j, none⟩ v) := by
 have hc : w.cell? ⟨g, j, none⟩ = some cs[j] := by rw [hb.cell]; simp [hj]
 have hf := hb.frozen j
 cases hq : P.info? ty with
 | none => simp [hq] at hi
 | some i =>
  have hs : i.size = 1 := by simpa [hq] using hi
  have h2 : (store ⟨g, j, none⟩ v).run P w = .ok () (w.setCell ⟨g, j, none⟩ v) := (run_store P w _ _ _ h1).trans (by simp [stored, hc, hf])
  have ha : (⟨g, j, none⟩ : Addr).add 0 = ⟨g, j, none⟩ := rfl
  simp [storeVar, Sem.run_bind, sizeOf, typeInfo, hq, hs, hv, storeCells, ha, h2]
end
section
variable {P : Program} {ops : Array Oper} {Q : Exit → Act → World → Prop} {md : Region.Mode} {T S : World → Prop} {late : List Nat} {fuel : Nat} {listed : Array Bool} {a : Act} {w : World}
/-- A load of an aggregate, taken first. -/
theorem E_load (b : Bool) (i : Nat) (d : Option Tmp) (ty : TypeId) (x : Operand) (ad : Addr) (cs : List Value) (de : TypeDesc) (ho : opAt ops i = some (d, .load ty x)) (hc : checkE md ops late listed i b = true) (hw : wantAt ops i a = some true)
  (hQ : ∀ c u w, Q (.panic c) (Act.put u d (.agg cs.toArray)) w → Q (.panic c) u w) (hx : a.eval x = .pointer (some ad)) (hl : ∀ w, SS T S b w → ∀ j u, cs[j]? = some u → w.cell? (ad.add j) = some u)
  (hu : P.underlying ty = some de) (hd : aggD de = true) (hi : (P.info? ty).map (·.size) = some cs.length) (hS : St T S late listed w) (h : wpAnyE P md ops Q T S late fuel (listed.setIfInBounds i true) (a.put d (.agg cs.toArray)) w) : wpAnyE P md ops Q T S late (fuel + 1) listed a w :=
 E_any b i d _ _ ho hc hw (fun c u w => hQ c u w) (fun o e w hS => by
  unfold execOp
  simp only [e, hx, Instr.loadAt, Instr.sureAddr, Sem.run_bind, Sem.run_pure, Result.andThen_ok, run_loadVar_at w ad ty cs de (hl w hS) hu hd hi]) hS h
/-- A load of one cell, taken first. -/
theorem E_load1 (b : Bool) (i : Nat) (d : Option Tmp) (ty : TypeId) (x : Operand) (ad : Addr) (v : Value) (ho : opAt ops i = some (d, .load ty x)) (hc : checkE md ops late listed i b = true) (hw : wantAt ops i a = some true)
  (hQ : ∀ c a w, Q (.panic c) (a.put d v) w → Q (.panic c) a w) (hx : a.eval x = .pointer (some ad)) (hl : ∀ w, SS T S b w → (loadVar ty ad).run P w = .ok v w)
  (hS : St T S late listed w) (h : wpAnyE P md ops Q T S late fuel (listed.setIfInBounds i true) (a.put d v) w) : wpAnyE P md ops Q T S late (fuel + 1) listed a w :=
 E_any b i d _ _ ho hc hw hQ (fun o e w hS => by
  unfold execOp
  simp only [e, hx, Instr.loadAt, Instr.sureAddr, Sem.run_bind, Sem.run_pure, Result.andThen_ok, hl w hS]) hS h
theorem E_bin (i : Nat) (d : Option Tmp) (b : BinOp) (t yt : TypeId) (x y : Operand) (u z v : Value) (ho : opAt ops i = some (d, .binOp b t x y yt)) (hc : checkE md ops late listed i false = true) (hw : wantAt ops i a = some true)
  (hQ : ∀ c a w, Q (.panic c) (a.put d v) w → Q (.panic c) a w) (hx : a.eval x = u) (hy : a.eval y = z) (hr : ∀ w, (do eqGuard b t x y u z; binOp b t u z : Sem Value).run P w = .ok v w)
  (hS : St T S late listed w) (h : wpAnyE P md ops Q T S late fuel (listed.setIfInBounds i true) (a.put d v) w) : wpAnyE P md ops Q T S late (fuel + 1) listed a w :=
 E_any false i d _ _ ho hc hw hQ (fun o e w hS => by
  unfold execOp
  have := hr w
  simp only [e, hx, hy, Sem.run_bind, Sem.run_pure] at this ⊢
  rw [this]
  rfl) hS h
/-- All of a block is stored. -/
theorem StepE.store_whole (i : Nat) (ty : TypeId) (x y : Operand) (g : Nat) (Z X : List Value) (ho : opAt ops i = some (none, .store ty x y)) (hw : wantAt ops i a = some true) (hB : Blk w g ty Z.toArray)
  (hx : a.eval x = .pointer (some ⟨g, 0, none⟩)) (hy : a.eval y = .agg X.toArray) (hi : (P.info? ty).map (·.size) = some X.length) (hl : Z.length = X.length) (h1 : ∀ u ∈ X, u.oneCell' = true)
  (hK : ∀ w', Blk w' g ty X.toArray → w.grownBy w' (some g) → St T S late (listed.setIfInBounds i true) w' ∧ wpAnyE P md ops Q T S late fuel (listed.setIfInBounds i true) (a.put none undef) w') : StepE P md ops Q T S late fuel listed a w i :=
 StepE.of i none _ ho hw fun o K h2 h3 hKK => by
  unfold Oper.wp execOp
  simp only [h3, hx, hy, Instr.storeAt, Instr.sureAddr, Sem.run_bind, Sem.run_pure, Result.andThen_ok, run_storeVar_at w g 0 ty ty Z X (.agg X.toArray) hB rfl hi (by omega) h1]
  rw [Oper.upon_skip, h2]
  have hov : overC Z 0 X = X := by
   unfold overC
   rw [List.take_zero, List.nil_append, Nat.zero_add, List.drop_of_length_le (by omega), List.append_nil]
  have hxx := setRow_heap w g _ (overC Z 0 X).toArray ty (0, 0) hB
  rw [hov] at hxx ⊢
  have := hK _ hxx (grown_setRow w g _)
  exact hKK _ _ this.1 this.2
/-- One cell of a block is stored. -/
theorem StepE.store_cell (i : Nat) (ty te : TypeId) (x y : Operand) (g j : Nat) (cs : Array Value) (v : Value) (ho : opAt ops i = some (none, .store ty x y)) (hw : wantAt ops i a = some true) (hB : Blk w g te cs)
  (hx : a.eval x = .pointer (some ⟨g, j, none⟩)) (hy : a.eval y = v) (hr : (storeVar ty ⟨g, j, none⟩ v).run P w = .ok () (w.setCell ⟨g, j, none⟩ v))
  (hK : ∀ w', Blk w' g te (cs.setIfInBounds j v) → w.grownBy w' (some g) → St T S late (listed.setIfInBounds i true) w' ∧ wpAnyE P md ops Q T S late fuel (listed.setIfInBounds i true) (a.put none undef) w') : StepE P md ops Q T S late fuel listed a w i :=
 StepE.of i none _ ho hw fun o K h2 h3 hKK => by
  unfold Oper.wp execOp
  simp only [h3, hx, hy, Instr.storeAt, Instr.sureAddr, Sem.run_bind, Sem.run_pure, Result.andThen_ok, hr]
  rw [Oper.upon_skip, h2]
  have := hK _ (hB.set_ j v) ⟨rfl, rfl, rfl, by simp, fun k _ hk => heap_setCell_other w ⟨g, j, none⟩ k v (fun e => hk (by simp [e]))⟩
  exact hKK _ _ this.1 this.2
/-- A value of one element laid into a slice of its own. -/
theorem StepE.slice_one (i : Nat) (d : Option Tmp) (t e : TypeId) (x : Operand) (i0 : TypeInfo) (z v : Value) (ho : opAt ops i = some (d, .buildSlice t 1 #[(0, x)])) (hw : wantAt ops i a = some true) (ht : P.underlying t = some (.slice e)) (hi : P.info? e = some i0) (hz : i0.zero = some z)
  (hs : i0.size ≤ 1024) (h0 : 0 < i0.size) (hx : a.eval x = v) (hv : v.cells.size = i0.size)
  (hK : ∀ w' g, w.heap.size ≤ g → Blk w' g e v.cells → Below w.heap.size w w' → St T S late (listed.setIfInBounds i true) w' ∧ wpAnyE P md ops Q T S late fuel (listed.setIfInBounds i true) (a.put d (.slice (some ⟨g, 0, none⟩) 1 1)) w') : StepE P md ops Q T S late fuel listed a w i :=
 StepE.of i d _ ho hw fun o K h2 h3 hKK => by
  unfold Oper.wp execOp
  have hrun := run_buildSlice_one (P := P) w t e i0 z v ht hi hz hs h0 hv
  simp only [h3, Sem.run_bind, List.map_toArray, List.map_cons, List.map_nil, hx, hrun, Result.andThen_ok, Sem.run_pure]
  have := hK _ _ (Nat.le_refl _) (Blk.new w e v.cells) ((Below.refl _ _).alloc (Nat.le_refl _) _)
  rw [Oper.upon_value, h2]
  exact hKK _ _ this.1 this.2
/-- A field's address, taken first. -/
theorem E_field (i : Nat) (d : Option Tmp) (st : TypeId) (x : Operand) (f : Nat) (ad ad' : Addr) (ho : opAt ops i = some (d, .fieldAddr st x f)) (hc : checkE md ops late listed i false = true) (hw : wantAt ops i a = some true)
  (hQ : ∀ c a w, Q (.panic c) (a.put d (.pointer (some ad'))) w → Q (.panic c) a w) (hx : a.eval x = .pointer (some ad)) (hr : ∀ w, (Instr.fieldAt st (.pointer (some ad)) f).run P w = .ok (.pointer (some ad')) w)
  (hS : St T S late listed w) (h : wpAnyE P md ops Q T S late fuel (listed.setIfInBounds i true) (a.put d (.pointer (some ad'))) w) : wpAnyE P md ops Q T S late (fuel + 1) listed a w :=
 E_any false i d _ _ ho hc hw hQ (fun o e w _ => by
  unfold execOp
  simp only [e, hx, Sem.run_bind, hr, Result.andThen_ok, Sem.run_pure]) hS h
/-- The one field of a tuple. -/
theorem StepE.extract (i : Nat) (d : Option Tmp) (x : Operand) (k : Nat) (vs : Array Value) (v : Value) (ho : opAt ops i = some (d, .extract x k)) (hw : wantAt ops i a = some true) (hx : a.eval x = .tuple vs) (hv : vs[k]? = some v)
  (hS : St T S late (listed.setIfInBounds i true) w) (h : wpAnyE P md ops Q T S late fuel (listed.setIfInBounds i true) (a.put d v) w) : StepE P md ops Q T S late fuel listed a w i :=
 StepE.run i d _ v w ho hw (fun o e => by
  unfold execOp
  simp [e, hx, Instr.extract, hv]) hS h
/-- A pure step in its turn. -/
theorem StepE.nil (i : Nat) (d : Option Tmp) (x : Operand) (ad : Addr) (ho : opAt ops i = some (d, .nilCheck x)) (hw : wantAt ops i a = some true) (hx : a.eval x = .pointer (some ad))
  (hS : St T S late (listed.setIfInBounds i true) w) (h : wpAnyE P md ops Q T S late fuel (listed.setIfInBounds i true) (a.put d (.pointer (some ad))) w) : StepE P md ops Q T S late fuel listed a w i :=
 StepE.run i d _ _ w ho hw (fun o e => by unfold execOp; simp [e, hx]) hS h
theorem StepE.field (i : Nat) (d : Option Tmp) (st : TypeId) (x : Operand) (f : Nat) (ad ad' : Addr) (ho : opAt ops i = some (d, .fieldAddr st x f)) (hw : wantAt ops i a = some true) (hx : a.eval x = .pointer (some ad)) (hr : ∀ w, (Instr.fieldAt st (.pointer (some ad)) f).run P w = .ok (.pointer (some ad')) w)
  (hS : St T S late (listed.setIfInBounds i true) w) (h : wpAnyE P md ops Q T S late fuel (listed.setIfInBounds i true) (a.put d (.pointer (some ad'))) w) : StepE P md ops Q T S late fuel listed a w i :=
 StepE.run i d _ _ w ho hw (fun o e => by
  unfold execOp
  simp only [e, hx, Sem.run_bind, hr, Result.andThen_ok, Sem.run_pure]) hS h
/-- append. -/
theorem StepE.append (i : Nat) (d : Option Tmp) (t e : TypeId) (s x : Operand) (base : Nat) (i0 : TypeInfo) (z : Value) (size bytes : Nat) (ho : opAt ops i = some (d, .call { callee := .builtin .append, args := #[s, x], argTypes := #[t, t] })) (hw : wantAt ops i a = some true)
  (ht : P.underlying t = some (.slice e)) (hi : P.info? e = some i0) (hz : i0.zero = some z) (hsize : i0.size = size) (hby : i0.bytes = bytes) (hzs : z.cells.size = size) (hsz : 0 < size)
  (v : Value) (n : Nat) (xs : List Value) (hs : a.eval s = v) (hown : w.ownsRow base e size v n xs) (B : Nat) (A : Option Addr) (m c : Nat) (news : List Value) (hx : a.eval x = .slice A m c) (hr : Reads w B size A m news) (h1 : ∀ u ∈ news, u.oneCell' = true)
  (h63 : n + m ≤ maxLen) (hbytes : (n + m) * bytes ≤ 140737488355328) (hbase : base ≤ w.heap.size)
  (hK : ∀ v' w', w'.ownsRow base e size v' (n + m) (xs ++ news) → w.grownBy w' v.ownBlock → (v'.ownBlock = v.ownBlock ∨ v'.ownBlock = some w.heap.size) → St T S late (listed.setIfInBounds i true) w' ∧ wpAnyE P md ops Q T S late fuel (listed.setIfInBounds i true) (a.put d v') w') : StepE P md ops Q T S late fuel listed a w i :=
 StepE.of i d _ ho hw fun o K h2 h3 hKK => wp_append_any w s x t h3 base e i0 z size bytes ht hi hz hsize hby hzs hsz v n xs hs hown B A m c news hx hr h1 h63 hbytes hbase fun v' w' q1 q2 q3 => by
  have := hK v' w' q1 q2 q3
  rw [h2]
  exact hKK _ _ this.1 this.2
end
end Go.Proofs.YtepagfkkjlbipaaGreat
end
section
namespace Go.Proofs.YtepagfkkjlbipaaGreat
open Go.RowKit
set_option linter.unusedVariables false
set_option linter.unusedSimpArgs false
section
variable {P : Program} {ops : Array Oper} {Q : Exit → Act → World → Prop} {md : Region.Mode} {T S : World → Prop} {late : List Nat} {fuel : Nat} {listed : Array Bool} {a : Act} {w : World}
/-- A map's entry. -/
theorem StepE.entry (i : Nat) (d : Option Tmp) (t : TypeId) (m k : Operand) (mv kv v : Value) (w1 : World) (ho : opAt ops i = some (d, .mapEntry t m k)) (hw : wantAt ops i a = some true) (hm : a.eval m = mv) (hk : a.eval k = kv) (hr : (Instr.mapEntry t mv kv).run P w = .ok v w1)
  (hS : St T S late (listed.setIfInBounds i true) w1) (h : wpAnyE P md ops Q T S late fuel (listed.setIfInBounds i true) (a.put d v) w1) : StepE P md ops Q T S late fuel listed a w i :=
 StepE.run i d _ v w1 ho hw (fun o e => by
  unfold execOp
  simp only [e, hm, hk, Sem.run_bind, hr, Result.andThen_ok, Sem.run_pure]) hS h
theorem StepE.entrySet (i : Nat) (t : TypeId) (m k x : Operand) (mv kv v : Value) (w1 : World) (ho : opAt ops i = some (none, .entryStore t m k x)) (hw : wantAt ops i a = some true) (hm : a.eval m = mv) (hk : a.eval k = kv) (hx : a.eval x = v) (hr : (Instr.entryStore t mv kv v).run P w = .ok () w1)
  (hS : St T S late (listed.setIfInBounds i true) w1) (h : wpAnyE P md ops Q T S late fuel (listed.setIfInBounds i true) (a.put none undef) w1) : StepE P md ops Q T S late fuel listed a w i :=
 StepE.skip i _ w1 ho hw (fun o e => by
  unfold execOp
  simp only [e, hm, hk, hx, Sem.run_bind, hr, Result.andThen_ok, Sem.run_pure]) hS h
/-- A map written at a key. -/
theorem StepE.mapSet (i : Nat) (t : TypeId) (m k x : Operand) (mv kv v : Value) (w1 : World) (ho : opAt ops i = some (none, .mapUpdate t m k x)) (hw : wantAt ops i a = some true) (hm : a.eval m = mv) (hk : a.eval k = kv) (hx : a.eval x = v) (hr : (Instr.mapUpdate t mv kv v).run P w = .ok () w1)
  (hS : St T S late (listed.setIfInBounds i true) w1) (h : wpAnyE P md ops Q T S late fuel (listed.setIfInBounds i true) (a.put none undef) w1) : StepE P md ops Q T S late fuel listed a w i :=
 StepE.skip i _ w1 ho hw (fun o e => by
  unfold execOp
  simp only [e, hm, hk, hx, Sem.run_bind, hr, Result.andThen_ok, Sem.run_pure]) hS h
end
end Go.Proofs.YtepagfkkjlbipaaGreat
end
section
namespace Go.Proofs.YtepagfkkjlbipaaGreat
open Go.RowKit
set_option linter.unusedVariables false
set_option linter.unusedSimpArgs false
section
variable {κ : Type} {P : Program} {k : TypeId} {enc : κ → Value} {V : κ → Prop} {b n : Nat} {f : κ → Option Value}
theorem wpQuiet_look {ops : Array Oper} {rest : List Oper} {o : Oper} {a : Act} {W : World} {Q : Act → Prop} (hgd : o.guard = none) (m y : Operand) (t : TypeId) (hop : o.op = .lookup t m y true) (e : TypeId) (E : KeyEnc P k enc V) (ht : P.underlying t = some (.map k e)) (z : Value)
  (hz : ∀ w, (zeroValue e).run P w = .ok z w) (h : MapIs P k enc V W b n f) (x : κ) (hx : V x) (hm : a.eval m = .map (some b)) (hy : a.eval y = enc x) (v : Value) (c : Bool) (hv : (f x).getD z = v) (hc : (f x).isSome = c)
  (hK : wpQuiet P ops (fun w' => ∃ n, w' = W.drewN n) Q rest (a.put o.dst (.tuple #[v, .bool c]))) : wpQuiet P ops (fun w' => ∃ n, w' = W.drewN n) Q (o :: rest) a := by
 have hw : Region.wanted o (yielded ops a.tmps) = true := by simp [Region.wanted, hgd]
 unfold wpQuiet
 rw [if_pos hw]
 subst hv hc
 refine ⟨_, ?_, hK⟩
 rintro w ⟨n, rfl⟩
 unfold Oper.quietAt execOp
 have := (h.drewN n).look E ht (hz _) x hx true
 simp only [hop, hm, hy, Sem.run_bind, this, Result.andThen_ok, Sem.run_pure]
 exact ⟨rfl, rfl⟩
end
end Go.Proofs.YtepagfkkjlbipaaGreat
end
section
namespace Go.Proofs.YtepagfkkjlbipaaGreat
open Go.RowKit
set_option linter.unusedVariables false
set_option linter.unusedSimpArgs false
section
variable {P : Program}
end
end Go.Proofs.YtepagfkkjlbipaaGreat
end
