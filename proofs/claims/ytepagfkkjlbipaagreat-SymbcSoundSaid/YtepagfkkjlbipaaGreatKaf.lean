/-
  Parts of the proof of SymbcSound. Conditions: those written in each statement.
-/
import Derived.Test.YtepagfkkjlbipaaGreatProg
import Derived.Test.YtepagfkkjlbipaaGreatKad
import Derived.Test.YtepagfkkjlbipaaGreatKad
import Derived.Test.YtepagfkkjlbipaaGreatKad
set_option linter.unusedVariables false
set_option linter.unusedSimpArgs false
set_option maxHeartbeats 64000000
set_option maxRecDepth 100000
namespace Go.Proofs.YtepagfkkjlbipaaGreat
open Tryz
section
open Go.RowKit
open Go.Maps (Keyed)
structure Chg (F : Nat → Prop) (w w' : World) : Prop where
 os : w'.os = w.os
 tape : w'.tape = w.tape
 output : w'.output = w.output
 size : w.heap.size ≤ w'.heap.size
 block : ∀ k, k < w.heap.size → ¬ F k → w'.heap[k]? = w.heap[k]?
section
variable {F G : Nat → Prop} {w w' w'' : World}
theorem Chg.refl (F : Nat → Prop) (w : World) : Chg F w w := ⟨rfl, rfl, rfl, Nat.le_refl _, fun _ _ _ => rfl⟩
theorem Chg.trans (h : Chg F w w') (k : Chg G w' w'') (hG : ∀ b, G b → F b ∨ w.heap.size ≤ b) : Chg F w w'' :=
 ⟨k.os.trans h.os, k.tape.trans h.tape, k.output.trans h.output, Nat.le_trans h.size k.size, fun i hi hF => (k.block i (Nat.lt_of_lt_of_le hi h.size) (fun q => (hG i q).elim hF (fun e => by omega))).trans (h.block i hi hF)⟩
theorem Chg.of_grown {row : Option Nat} (h : w.grownBy w' row) (hr : ∀ g, row = some g → F g ∨ w.heap.size ≤ g) : Chg F w w' :=
 ⟨h.os, h.tape, h.output, h.size, fun i hi hF => h.block i hi (fun e => (hr i e.symm).elim hF (fun q => by omega))⟩
theorem Chg.of_below (h : Below w.heap.size w w') : Chg F w w' := ⟨h.os, h.tape, h.output, h.size, fun i hi _ => h.block i hi⟩
theorem Chg.below {B : Nat} (h : Chg F w w') (hF : ∀ b, F b → B ≤ b) (hB : B ≤ w.heap.size) : Below B w w' :=
 ⟨h.os, h.tape, h.output, h.size, fun i hi => h.block i (by omega) (fun q => by have := hF i q; omega)⟩
theorem Chg.mono (h : Chg F w w') (hF : ∀ b, F b → G b ∨ w.heap.size ≤ b) : Chg G w w' := ⟨h.os, h.tape, h.output, h.size, fun i hi hn => h.block i hi (fun q => (hF i q).elim hn (fun e => by omega))⟩
theorem Chg.drew (h : Chg F w w') : Chg F w w'.drew := ⟨h.os, h.tape, h.output, h.size, h.block⟩
theorem Chg.blk {g : Nat} {t : TypeId} {cs : Array Value} (h : Chg F w w') (hb : Blk w g t cs) (hg : ¬ F g) : Blk w' g t cs := (h.block g hb.lt hg).trans hb
theorem own_block {base : Nat} {e : TypeId} {size n : Nat} {v : Value} {xs : List Value} (h : w.ownsRow base e size v n xs) (hb : ∀ g, v.ownBlock = some g → w'.heap[g]? = w.heap[g]?) : w'.ownsRow base e size v n xs := by
 refine ⟨h.1, ?_⟩
 rcases h.2 with h | ⟨g, cap, cur, h1, h2, h3, h4⟩
 ·exact .inl h
 ·exact .inr ⟨g, cap, cur, h1, h2, by rw [hb g (by rw [h1]; rfl)]; exact h3, h4⟩
theorem own_ge {base : Nat} {e : TypeId} {size n : Nat} {v : Value} {xs : List Value} (h : w.ownsRow base e size v n xs) : ∀ g, v.ownBlock = some g → base ≤ g ∧ g < w.heap.size := (RowL.of_own h).ge
theorem Chg.own {base : Nat} {e : TypeId} {size n : Nat} {v : Value} {xs : List Value} (h : Chg F w w') (ho : w.ownsRow base e size v n xs) (hg : ∀ g, v.ownBlock = some g → ¬ F g) : w'.ownsRow base e size v n xs :=
 own_block ho fun g q => h.block g (own_ge ho g q).2 (hg g q)
theorem Chg.mapIs {κ : Type} {P : Program} {k : TypeId} {enc : κ → Value} {V : κ → Prop} {b n : Nat} {f : κ → Option Value} (h : Chg F w w') (hm : MapIs P k enc V w b n f) (hg : ¬ F b) : MapIs P k enc V w' b n f := hm.block_ (h.block b hm.lt hg)
theorem Chg.reads {B size n : Nat} {A : Option Addr} {xs : List Value} (h : Chg F w w') (hr : Reads w B size A n xs) (hB : B ≤ w.heap.size) (hF : ∀ b, F b → B ≤ b) : Reads w' B size A n xs :=
 hr.keep fun p hp => World.cell?_of_block (h.block p.block (by omega) (fun q => by have := hF _ q; omega))
end
/-! ### terms as keys -/
def TD.wf (x : TD) : Prop := I8 x.kind ∧ I8 x.op ∧ I8 x.w ∧ U64 x.n ∧ I64 x.a ∧ I64 x.b ∧ I64 x.c
theorem wf_u64 {x : Int} (h : U64 x) : (Lit.int .u64 x).wf = true := by unfold U64 at h; exact WalkArith.wf_u64 (by omega)
theorem TD.one (x : TD) : ∀ u ∈ x.cells, u.oneCell' = true := by
 intro v hv
 unfold TD.cells at hv
 simp only [List.mem_cons, List.not_mem_nil, or_false] at hv
 rcases hv with rfl | rfl | rfl | rfl | rfl | rfl | rfl <;> rfl
theorem TD.cells_inj {x y : TD} (h : x.cells = y.cells) : x = y := by
 unfold TD.cells at h
 simp only [List.cons.injEq, Value.int.injEq, true_and, and_true] at h
 obtain ⟨h0, h1, h2, h3, h4, h5, h6⟩ := h
 cases x
 cases y
 simp_all
def termV (x : TD) : Value := .agg x.cells.toArray
theorem termV_inj {x y : TD} (h : termV x = termV y) : x = y := by
 unfold termV at h
 injection h with h
 exact TD.cells_inj (by simpa using h)
theorem laidOut_ : laidOutB prog = true := by kernel_rfl
theorem sizeT_ : Nat.ble 1 prog.types.size = true := by kernel_rfl
theorem cells8 : prog.cellsOf 30 = 1 := by kernel_rfl
theorem cells64 : prog.cellsOf 3 = 1 := by kernel_rfl
theorem cellsU : prog.cellsOf 31 = 1 := by kernel_rfl
theorem termK_reads (x : TD) (h : x.wf) : ∃ l, keyOf prog 147 (termV x) = some l := by
 obtain ⟨h0, h1, h2, h3, h4, h5, h6⟩ := h
 refine keyOf_struct (cs := x.cells) underlying147 (by kernel_rfl) (by show _ = 7; kernel_rfl) (by kernel_rfl) sizeT_ ?_
 intro f hf
 simp at hf
 rcases hf with rfl | rfl | rfl | rfl | rfl | rfl | rfl
 ·exact ⟨.i8, x.kind, underlying30, cells8, rfl, wf_i8 h0⟩
 ·exact ⟨.i8, x.op, underlying30, cells8, rfl, wf_i8 h1⟩
 ·exact ⟨.i8, x.w, underlying30, cells8, rfl, wf_i8 h2⟩
 ·exact ⟨.u64, x.n, underlying31, cellsU, rfl, wf_u64 h3⟩
 ·exact ⟨.i64, x.a, underlying3, cells64, rfl, wf_i64 h4⟩
 ·exact ⟨.i64, x.b, underlying3, cells64, rfl, wf_i64 h5⟩
 ·exact ⟨.i64, x.c, underlying3, cells64, rfl, wf_i64 h6⟩
theorem termK : KeyEnc prog 147 termV TD.wf where
 keyed := Keyed.of_law (deep_law_gate laidOut_ (of_decide_eq_true (by kernel_rfl)) (of_decide_eq_true (by kernel_rfl)) (by kernel_rfl) (by kernel_rfl))
 reads := termK_reads
 inj := fun p q _ _ h => termV_inj h
theorem wordK : KeyEnc prog 31 (Value.int .u64) U64 where
 keyed := Go.Maps.int_keyed underlying31
 reads := fun x h => ⟨_, Go.Maps.keyOf_int_mk underlying31 (wf_u64 h)⟩
 inj := fun p q _ _ h => by injection h
theorem numK : KeyEnc prog 3 (Value.int .i64) I64 where
 keyed := Go.Maps.int_keyed underlying3
 reads := fun x h => ⟨_, Go.Maps.keyOf_int_mk underlying3 (wf_i64 h)⟩
 inj := fun p q _ _ h => by injection h
/-! ### the two maps' contents -/
def ofF (T : List TD) (x : TD) : Option Value := (atT T x).map fun i => .int .i64 (i : Nat)
def wdF (T : List TD) (n : Int) : Option Value := (wideF T n).map (Value.int .i8)
theorem ofF_put {T : List TD} {t : TD} (h : atT T t = none) (x : TD) : ofF (T ++ [t]) x = putF (ofF T) t (.int .i64 (T.length : Nat)) x := by
 unfold ofF putF atT at *
 rw [List.findIdx?_append]
 by_cases e : x = t
 ·subst e
  rw [if_pos rfl, h]
  simp
 ·rw [if_neg e]
  cases hx : T.findIdx? (fun y => decide (y = x)) with
  | some i => simp [hx]
  | none => simp [hx, List.findIdx?_cons, Ne.symm e]
theorem wdF_same {T : List TD} {t : TD} (h : t.kind ≠ 1) (x : Int) : wdF (T ++ [t]) x = wdF T x := by
 unfold wdF wideF
 rw [List.find?_append]
 have : varB x t = false := by unfold varB; simp [h]
 cases hx : T.find? (varB x) with
 | some i => rfl
 | none => simp [this, hx]
theorem wdF_put {T : List TD} {t : TD} (h : t.kind = 1) (hc : clashB T t = false) (x : Int) : wdF (T ++ [t]) x = putF (wdF T) t.n (.int .i8 t.w) x := by
 unfold wdF putF
 by_cases e : x = t.n
 ·subst e
  rw [if_pos rfl]
  cases hx : wideF T t.n with
  | some w =>
   rw [find_app (by rw [hx]; simp), hx]
   unfold clashB at hc
   rw [hx, h] at hc
   simp at hc
   rw [hc]
   rfl
  | none =>
   rw [wideF_new hx]
   have : varB t.n t = true := by unfold varB; simp [h]
   rw [this]
   rfl
 ·rw [if_neg e]
  unfold wideF
  rw [List.find?_append]
  have : varB x t = false := by unfold varB; simp [Ne.symm e]
  cases hx : T.find? (varB x) with
  | some i => simp [hx]
  | none => simp [this, hx]
structure PoolAt (w : World) (base : Nat) (F : Nat → Prop) (g : Nat) (p : PS) : Prop where
 ex : ∃ ls ds o v, Blk w g 102 #[ls, ds, .map (some o), .map (some v)] ∧ w.ownsRow base 147 7 ls p.T.length (p.T.flatMap TD.cells) ∧ w.ownsRow base 3 1 ds p.T.length (p.D.map (Value.int .i64)) ∧
  MapIs prog 147 termV TD.wf w o p.T.length (ofF p.T) ∧ MapIs prog 31 (Value.int .u64) U64 w v p.T.length (wdF p.T) ∧ Stamped w o ∧ o ≠ v ∧ F g ∧ F o ∧ F v ∧ (∀ b, ls.ownBlock = some b → F b) ∧ (∀ b, ds.ownBlock = some b → F b)
 wf : WfP p
 rng : ∀ t ∈ p.T, t.wf
 fb : ∀ b, F b → base ≤ b ∧ b < w.heap.size
section
variable {w w' : World} {base g : Nat} {F G : Nat → Prop} {p : PS}
theorem PoolAt.chg (h : PoolAt w base F g p) (hc : Chg G w w') (hd : ∀ b, F b → ¬ G b) : PoolAt w' base F g p := by
 obtain ⟨ls, ds, o, v, h1, h2, h3, h4, h5, h6, hov, f1, f2, f3, f4, f5⟩ := h.ex
 exact ⟨⟨ls, ds, o, v, hc.blk h1 (hd _ f1), hc.own h2 (fun b q => hd _ (f4 b q)), hc.own h3 (fun b q => hd _ (f5 b q)), hc.mapIs h4 (hd _ f2), hc.mapIs h5 (hd _ f3), h6.block_ (hc.block o h4.lt (hd _ f2)), hov, f1, f2, f3, f4, f5⟩, h.wf, h.rng, fun b q => ⟨(h.fb b q).1, Nat.lt_of_lt_of_le (h.fb b q).2 hc.size⟩⟩
theorem PoolAt.below (h : PoolAt w base F g p) (hb : Below w.heap.size w w') : PoolAt w' base F g p := h.chg (G := fun _ => False) (.of_below hb) (fun _ _ q => q)
theorem PoolAt.view (h : PoolAt w base F g p) : ∃ A c D d, w.cell? ⟨g, 0, none⟩ = some (.slice A p.T.length c) ∧ p.T.length ≤ c ∧ Reads w w.heap.size 7 A p.T.length (p.T.flatMap TD.cells) ∧
  w.cell? ⟨g, 1, none⟩ = some (.slice D p.T.length d) ∧ p.T.length ≤ d ∧ Reads w w.heap.size 1 D p.T.length (p.D.map (Value.int .i64)) := by
 obtain ⟨ls, ds, o, v, h1, h2, h3, _⟩ := h.ex
 obtain ⟨A, c, rfl, h4, h5⟩ := (RowL.of_own h2).slice
 obtain ⟨D, d, rfl, h6, h7⟩ := (RowL.of_own h3).slice
 exact ⟨A, c, D, d, h1.cell 0, h4, h5, h1.cell 1, h6, h7⟩
theorem PoolAt.few (h : PoolAt w base F g p) : p.T.length ≤ 4000 := h.wf.few
theorem PoolAt.at_ (h : PoolAt w base F g p) {k : Nat} (hk : k < p.T.length) : ∃ ad c dd d t x, w.cell? ⟨g, 0, none⟩ = some (.slice (some ad) p.T.length c) ∧ p.T.length ≤ c ∧ w.cell? ⟨g, 1, none⟩ = some (.slice (some dd) p.T.length d) ∧ p.T.length ≤ d ∧ ad.block < w.heap.size ∧ dd.block < w.heap.size ∧
  p.T[k]? = some t ∧ p.D[k]? = some x ∧ t.wf ∧ 1 ≤ x ∧ x ≤ 256 ∧ (∀ j u, t.cells[j]? = some u → w.cell? ((ad.add (k * 7)).add j) = some u) ∧ w.cell? (dd.add k) = some (.int .i64 x) := by
 obtain ⟨A, c, D, d, h1, h2, h3, h4, h5, h6⟩ := h.view
 obtain ⟨ad, rfl, hb, hc⟩ := h3.2 (by omega)
 obtain ⟨dd, u, rfl, hb2, hu, hc2⟩ := h6.at_ hk
 have hx : p.D[k]? = some (p.D[k]'(by rw [h.wf.len]; exact hk)) := List.getElem?_eq_getElem _
 have ht : p.T[k]? = some p.T[k] := List.getElem?_eq_getElem hk
 rw [List.getElem?_map, hx] at hu
 injection hu with hu
 subst hu
 have hl := h.wf.low _ (List.mem_of_getElem? hx)
 refine ⟨ad, c, dd, d, _, _, h1, h2, h4, h5, hb, hb2, ht, hx, h.rng _ (List.mem_of_getElem? ht), hl.1, hl.2, fun j u hu => ?_, hc2⟩
 rw [add_of_add]
 exact hc _ u (flat_at TD.cells 7 p.T (fun _ _ => rfl) k j _ u ht hu)
theorem PoolAt.drew (h : PoolAt w base F g p) : PoolAt w.drew base F g p := h.below ((Below.refl _ _).drew)
end
end
section
open Go.RowKit
section
variable {P : Program} {w : World}
theorem run_loadVar_one (ty : TypeId) (ad : Addr) (d : TypeDesc) (v : Value) (hu : P.underlying ty = some d) (hd : aggD d = false) (hc : w.cell? ad = some v) : (loadVar ty ad).run P w = .ok v w := by
 have hagg : (isAgg ty).run P w = .ok false w := by
  unfold isAgg
  rw [Sem.run_bind, run_underlying hu w]
  cases d <;> simp_all [aggD]
 simp [loadVar, Sem.run_bind, hagg, hc, go_sem]
theorem run_storeVar_one (ty : TypeId) (g j : Nat) (te : TypeId) (cs : Array Value) (v : Value) (hb : Blk w g te cs) (hj : j < cs.size) (hi : (P.info? ty).map (·.size) = some 1) (hv : v.cells = #[v]) (h1 : v.oneCell' = true) : (storeVar ty ⟨g, j, none⟩ v).run P w = .ok () (w.setCell ⟨g, j, none⟩ v) := by
 have hc : w.cell? ⟨g, j, none⟩ = some cs[j] := by rw [hb.cell]; simp [hj]
 have hf := hb.frozen j
 cases hq : P.info? ty with
 | none => simp [hq] at hi
 | some i =>
  have hs : i.size = 1 := by simpa [hq] using hi
  have h2 : (store ⟨g, j, none⟩ v).run P w = .ok () (w.setCell ⟨g, j, none⟩ v) := (run_store P w _ _ _ h1).trans (by simp [stored, hc, hf])
  have ha : (⟨g, j, none⟩ : Addr).add 0 = ⟨g, j, none⟩ := rfl
  simp [storeVar, Sem.run_bind, sizeOf, typeInfo, hq, hs, hv, storeCells, ha, h2]
end
section
variable {P : Program} {ops : Array Oper} {Q : Exit → Act → World → Prop} {md : Region.Mode} {T S : World → Prop} {late : List Nat} {fuel : Nat} {listed : Array Bool} {a : Act} {w : World}
theorem E_load (b : Bool) (i : Nat) (d : Option Tmp) (ty : TypeId) (x : Operand) (ad : Addr) (cs : List Value) (de : TypeDesc) (ho : opAt ops i = some (d, .load ty x)) (hc : checkE md ops late listed i b = true) (hw : wantAt ops i a = some true)
  (hQ : ∀ c u w, Q (.panic c) (Act.put u d (.agg cs.toArray)) w → Q (.panic c) u w) (hx : a.eval x = .pointer (some ad)) (hl : ∀ w, SS T S b w → ∀ j u, cs[j]? = some u → w.cell? (ad.add j) = some u)
  (hu : P.underlying ty = some de) (hd : aggD de = true) (hi : (P.info? ty).map (·.size) = some cs.length) (hS : St T S late listed w) (h : wpAnyE P md ops Q T S late fuel (listed.setIfInBounds i true) (a.put d (.agg cs.toArray)) w) : wpAnyE P md ops Q T S late (fuel + 1) listed a w :=
 E_any b i d _ _ ho hc hw (fun c u w => hQ c u w) (fun o e w hS => by
  unfold execOp
  simp only [e, hx, Instr.loadAt, Instr.sureAddr, Sem.run_bind, Sem.run_pure, Result.andThen_ok, run_loadVar_at w ad ty cs de (hl w hS) hu hd hi]) hS h
theorem E_load1 (b : Bool) (i : Nat) (d : Option Tmp) (ty : TypeId) (x : Operand) (ad : Addr) (v : Value) (ho : opAt ops i = some (d, .load ty x)) (hc : checkE md ops late listed i b = true) (hw : wantAt ops i a = some true)
  (hQ : ∀ c a w, Q (.panic c) (a.put d v) w → Q (.panic c) a w) (hx : a.eval x = .pointer (some ad)) (hl : ∀ w, SS T S b w → (loadVar ty ad).run P w = .ok v w)
  (hS : St T S late listed w) (h : wpAnyE P md ops Q T S late fuel (listed.setIfInBounds i true) (a.put d v) w) : wpAnyE P md ops Q T S late (fuel + 1) listed a w :=
 E_any b i d _ _ ho hc hw hQ (fun o e w hS => by
  unfold execOp
  simp only [e, hx, Instr.loadAt, Instr.sureAddr, Sem.run_bind, Sem.run_pure, Result.andThen_ok, hl w hS]) hS h
theorem E_bin (i : Nat) (d : Option Tmp) (b : BinOp) (t yt : TypeId) (x y : Operand) (u z v : Value) (ho : opAt ops i = some (d, .binOp b t x y yt)) (hc : checkE md ops late listed i false = true) (hw : wantAt ops i a = some true)
  (hQ : ∀ c a w, Q (.panic c) (a.put d v) w → Q (.panic c) a w) (hx : a.eval x = u) (hy : a.eval y = z) (hr : ∀ w, (do eqGuard b t x y u z; binOp b t u z : Sem Value).run P w = .ok v w)
  (hS : St T S late listed w) (h : wpAnyE P md ops Q T S late fuel (listed.setIfInBounds i true) (a.put d v) w) : wpAnyE P md ops Q T S late (fuel + 1) listed a w :=
 E_any false i d _ _ ho hc hw hQ (fun o e w hS => by
  unfold execOp
  have := hr w
  simp only [e, hx, hy, Sem.run_bind, Sem.run_pure] at this ⊢
  rw [this]
  rfl) hS h
theorem StepE.store_whole (i : Nat) (ty : TypeId) (x y : Operand) (g : Nat) (Z X : List Value) (ho : opAt ops i = some (none, .store ty x y)) (hw : wantAt ops i a = some true) (hB : Blk w g ty Z.toArray)
  (hx : a.eval x = .pointer (some ⟨g, 0, none⟩)) (hy : a.eval y = .agg X.toArray) (hi : (P.info? ty).map (·.size) = some X.length) (hl : Z.length = X.length) (h1 : ∀ u ∈ X, u.oneCell' = true)
  (hK : ∀ w', Blk w' g ty X.toArray → w.grownBy w' (some g) → St T S late (listed.setIfInBounds i true) w' ∧ wpAnyE P md ops Q T S late fuel (listed.setIfInBounds i true) (a.put none undef) w') : StepE P md ops Q T S late fuel listed a w i :=
 StepE.of i none _ ho hw fun o K h2 h3 hKK => by
  unfold Oper.wp execOp
  simp only [h3, hx, hy, Instr.storeAt, Instr.sureAddr, Sem.run_bind, Sem.run_pure, Result.andThen_ok, run_storeVar_at w g 0 ty ty Z X (.agg X.toArray) hB rfl hi (by omega) h1]
  rw [Oper.upon_skip, h2]
  have hov : overC Z 0 X = X := by
   unfold overC
   rw [List.take_zero, List.nil_append, Nat.zero_add, List.drop_of_length_le (by omega), List.append_nil]
  have hxx := setRow_heap w g _ (overC Z 0 X).toArray ty (0, 0) hB
  rw [hov] at hxx ⊢
  have := hK _ hxx (grown_setRow w g _)
  exact hKK _ _ this.1 this.2
theorem StepE.store_cell (i : Nat) (ty te : TypeId) (x y : Operand) (g j : Nat) (cs : Array Value) (v : Value) (ho : opAt ops i = some (none, .store ty x y)) (hw : wantAt ops i a = some true) (hB : Blk w g te cs)
  (hx : a.eval x = .pointer (some ⟨g, j, none⟩)) (hy : a.eval y = v) (hr : (storeVar ty ⟨g, j, none⟩ v).run P w = .ok () (w.setCell ⟨g, j, none⟩ v))
  (hK : ∀ w', Blk w' g te (cs.setIfInBounds j v) → w.grownBy w' (some g) → St T S late (listed.setIfInBounds i true) w' ∧ wpAnyE P md ops Q T S late fuel (listed.setIfInBounds i true) (a.put none undef) w') : StepE P md ops Q T S late fuel listed a w i :=
 StepE.of i none _ ho hw fun o K h2 h3 hKK => by
  unfold Oper.wp execOp
  simp only [h3, hx, hy, Instr.storeAt, Instr.sureAddr, Sem.run_bind, Sem.run_pure, Result.andThen_ok, hr]
  rw [Oper.upon_skip, h2]
  have := hK _ (hB.set_ j v) ⟨rfl, rfl, rfl, by simp, fun k _ hk => heap_setCell_other w ⟨g, j, none⟩ k v (fun e => hk (by simp [e]))⟩
  exact hKK _ _ this.1 this.2
theorem StepE.slice_one (i : Nat) (d : Option Tmp) (t e : TypeId) (x : Operand) (i0 : TypeInfo) (z v : Value) (ho : opAt ops i = some (d, .buildSlice t 1 #[(0, x)])) (hw : wantAt ops i a = some true) (ht : P.underlying t = some (.slice e)) (hi : P.info? e = some i0) (hz : i0.zero = some z)
  (hs : i0.size ≤ 1024) (h0 : 0 < i0.size) (hx : a.eval x = v) (hv : v.cells.size = i0.size)
  (hK : ∀ w' g, w.heap.size ≤ g → Blk w' g e v.cells → Below w.heap.size w w' → St T S late (listed.setIfInBounds i true) w' ∧ wpAnyE P md ops Q T S late fuel (listed.setIfInBounds i true) (a.put d (.slice (some ⟨g, 0, none⟩) 1 1)) w') : StepE P md ops Q T S late fuel listed a w i :=
 StepE.of i d _ ho hw fun o K h2 h3 hKK => by
  unfold Oper.wp execOp
  have hrun := run_buildSlice_one (P := P) w t e i0 z v ht hi hz hs h0 hv
  simp only [h3, Sem.run_bind, List.map_toArray, List.map_cons, List.map_nil, hx, hrun, Result.andThen_ok, Sem.run_pure]
  have := hK _ _ (Nat.le_refl _) (Blk.new w e v.cells) ((Below.refl _ _).alloc (Nat.le_refl _) _)
  rw [Oper.upon_value, h2]
  exact hKK _ _ this.1 this.2
theorem E_field (i : Nat) (d : Option Tmp) (st : TypeId) (x : Operand) (f : Nat) (ad ad' : Addr) (ho : opAt ops i = some (d, .fieldAddr st x f)) (hc : checkE md ops late listed i false = true) (hw : wantAt ops i a = some true)
  (hQ : ∀ c a w, Q (.panic c) (a.put d (.pointer (some ad'))) w → Q (.panic c) a w) (hx : a.eval x = .pointer (some ad)) (hr : ∀ w, (Instr.fieldAt st (.pointer (some ad)) f).run P w = .ok (.pointer (some ad')) w)
  (hS : St T S late listed w) (h : wpAnyE P md ops Q T S late fuel (listed.setIfInBounds i true) (a.put d (.pointer (some ad'))) w) : wpAnyE P md ops Q T S late (fuel + 1) listed a w :=
 E_any false i d _ _ ho hc hw hQ (fun o e w _ => by
  unfold execOp
  simp only [e, hx, Sem.run_bind, hr, Result.andThen_ok, Sem.run_pure]) hS h
theorem StepE.extract (i : Nat) (d : Option Tmp) (x : Operand) (k : Nat) (vs : Array Value) (v : Value) (ho : opAt ops i = some (d, .extract x k)) (hw : wantAt ops i a = some true) (hx : a.eval x = .tuple vs) (hv : vs[k]? = some v)
  (hS : St T S late (listed.setIfInBounds i true) w) (h : wpAnyE P md ops Q T S late fuel (listed.setIfInBounds i true) (a.put d v) w) : StepE P md ops Q T S late fuel listed a w i :=
 StepE.run i d _ v w ho hw (fun o e => by
  unfold execOp
  simp [e, hx, Instr.extract, hv]) hS h
theorem StepE.nil (i : Nat) (d : Option Tmp) (x : Operand) (ad : Addr) (ho : opAt ops i = some (d, .nilCheck x)) (hw : wantAt ops i a = some true) (hx : a.eval x = .pointer (some ad))
  (hS : St T S late (listed.setIfInBounds i true) w) (h : wpAnyE P md ops Q T S late fuel (listed.setIfInBounds i true) (a.put d (.pointer (some ad))) w) : StepE P md ops Q T S late fuel listed a w i :=
 StepE.run i d _ _ w ho hw (fun o e => by unfold execOp; simp [e, hx]) hS h
theorem StepE.field (i : Nat) (d : Option Tmp) (st : TypeId) (x : Operand) (f : Nat) (ad ad' : Addr) (ho : opAt ops i = some (d, .fieldAddr st x f)) (hw : wantAt ops i a = some true) (hx : a.eval x = .pointer (some ad)) (hr : ∀ w, (Instr.fieldAt st (.pointer (some ad)) f).run P w = .ok (.pointer (some ad')) w)
  (hS : St T S late (listed.setIfInBounds i true) w) (h : wpAnyE P md ops Q T S late fuel (listed.setIfInBounds i true) (a.put d (.pointer (some ad'))) w) : StepE P md ops Q T S late fuel listed a w i :=
 StepE.run i d _ _ w ho hw (fun o e => by
  unfold execOp
  simp only [e, hx, Sem.run_bind, hr, Result.andThen_ok, Sem.run_pure]) hS h
theorem StepE.append (i : Nat) (d : Option Tmp) (t e : TypeId) (s x : Operand) (base : Nat) (i0 : TypeInfo) (z : Value) (size bytes : Nat) (ho : opAt ops i = some (d, .call { callee := .builtin .append, args := #[s, x], argTypes := #[t, t] })) (hw : wantAt ops i a = some true)
  (ht : P.underlying t = some (.slice e)) (hi : P.info? e = some i0) (hz : i0.zero = some z) (hsize : i0.size = size) (hby : i0.bytes = bytes) (hzs : z.cells.size = size) (hsz : 0 < size)
  (v : Value) (n : Nat) (xs : List Value) (hs : a.eval s = v) (hown : w.ownsRow base e size v n xs) (B : Nat) (A : Option Addr) (m c : Nat) (news : List Value) (hx : a.eval x = .slice A m c) (hr : Reads w B size A m news) (h1 : ∀ u ∈ news, u.oneCell' = true)
  (h63 : n + m ≤ maxLen) (hbytes : (n + m) * bytes ≤ 140737488355328) (hbase : base ≤ w.heap.size)
  (hK : ∀ v' w', w'.ownsRow base e size v' (n + m) (xs ++ news) → w.grownBy w' v.ownBlock → (v'.ownBlock = v.ownBlock ∨ v'.ownBlock = some w.heap.size) → St T S late (listed.setIfInBounds i true) w' ∧ wpAnyE P md ops Q T S late fuel (listed.setIfInBounds i true) (a.put d v') w') : StepE P md ops Q T S late fuel listed a w i :=
 StepE.of i d _ ho hw fun o K h2 h3 hKK => wp_append_any w s x t h3 base e i0 z size bytes ht hi hz hsize hby hzs hsz v n xs hs hown B A m c news hx hr h1 h63 hbytes hbase fun v' w' q1 q2 q3 => by
  have := hK v' w' q1 q2 q3
  rw [h2]
  exact hKK _ _ this.1 this.2
end
end
section
open Go.RowKit
section
variable {P : Program} {ops : Array Oper} {Q : Exit → Act → World → Prop} {md : Region.Mode} {T S : World → Prop} {late : List Nat} {fuel : Nat} {listed : Array Bool} {a : Act} {w : World}
theorem StepE.entry (i : Nat) (d : Option Tmp) (t : TypeId) (m k : Operand) (mv kv v : Value) (w1 : World) (ho : opAt ops i = some (d, .mapEntry t m k)) (hw : wantAt ops i a = some true) (hm : a.eval m = mv) (hk : a.eval k = kv) (hr : (Instr.mapEntry t mv kv).run P w = .ok v w1)
  (hS : St T S late (listed.setIfInBounds i true) w1) (h : wpAnyE P md ops Q T S late fuel (listed.setIfInBounds i true) (a.put d v) w1) : StepE P md ops Q T S late fuel listed a w i :=
 StepE.run i d _ v w1 ho hw (fun o e => by
  unfold execOp
  simp only [e, hm, hk, Sem.run_bind, hr, Result.andThen_ok, Sem.run_pure]) hS h
theorem StepE.entrySet (i : Nat) (t : TypeId) (m k x : Operand) (mv kv v : Value) (w1 : World) (ho : opAt ops i = some (none, .entryStore t m k x)) (hw : wantAt ops i a = some true) (hm : a.eval m = mv) (hk : a.eval k = kv) (hx : a.eval x = v) (hr : (Instr.entryStore t mv kv v).run P w = .ok () w1)
  (hS : St T S late (listed.setIfInBounds i true) w1) (h : wpAnyE P md ops Q T S late fuel (listed.setIfInBounds i true) (a.put none undef) w1) : StepE P md ops Q T S late fuel listed a w i :=
 StepE.skip i _ w1 ho hw (fun o e => by
  unfold execOp
  simp only [e, hm, hk, hx, Sem.run_bind, hr, Result.andThen_ok, Sem.run_pure]) hS h
theorem StepE.mapSet (i : Nat) (t : TypeId) (m k x : Operand) (mv kv v : Value) (w1 : World) (ho : opAt ops i = some (none, .mapUpdate t m k x)) (hw : wantAt ops i a = some true) (hm : a.eval m = mv) (hk : a.eval k = kv) (hx : a.eval x = v) (hr : (Instr.mapUpdate t mv kv v).run P w = .ok () w1)
  (hS : St T S late (listed.setIfInBounds i true) w1) (h : wpAnyE P md ops Q T S late fuel (listed.setIfInBounds i true) (a.put none undef) w1) : StepE P md ops Q T S late fuel listed a w i :=
 StepE.skip i _ w1 ho hw (fun o e => by
  unfold execOp
  simp only [e, hm, hk, hx, Sem.run_bind, hr, Result.andThen_ok, Sem.run_pure]) hS h
end
end
section
open Go.RowKit
def sL : List Value → Nat → Value → List Value
 | [], _, _ => []
 | _ :: r, 0, v => v :: r
 | x :: r, k + 1, v => x :: sL r k v
theorem sL_set : ∀ (l : List Value) (k : Nat) (v : Value), l.set k v = sL l k v
 | [], _, _ => rfl
 | _ :: _, 0, _ => rfl
 | _ :: r, k + 1, v => congrArg _ (sL_set r k v)
theorem pt (l : List Value) (ds : List Deferred) (t : Nat) (v : Value) : Act.put ⟨l.toArray, ds⟩ (some t) v = ⟨(sL l t v).toArray, ds⟩ := by
 unfold Act.put
 rw [← sL_set]
 simp
theorem pn (a : Act) (v : Value) : a.put none v = a := rfl
section
variable {P : Program} {ops : Array Oper} {Q : Exit → Act → World → Prop} {md : Region.Mode} {T S : World → Prop} {late : List Nat} {fuel : Nat} {listed : Array Bool} {ts ts' : List Value} {ds : List Deferred} {w : World} {t : Nat}
theorem ea (i : Nat) (v : Value) {op : Op} (hy : ∀ o : Oper, o.op = op → ∀ w, SS T S false w → (execOp (Act.eval ⟨ts.toArray, ds⟩) o).run P w = .ok (.value v) w) (hS : St T S late listed w) (h : wpAnyE P md ops Q T S late fuel (listed.setIfInBounds i true) ⟨ts'.toArray, ds⟩ w) (ho : opAt ops i = some (some t, op) := by rfl) (hc : checkE md ops late listed i false = true := by kernel_rfl) (hw : wantAt ops i ⟨ts.toArray, ds⟩ = some true := by rfl) (hQ : ∀ c (a : Act) w, Q (.panic c) (a.put (some t) v) w → Q (.panic c) a w := by exact fun _ _ _ h => h) (hs : sL ts t v = ts' := by (simp only [sL]; rfl)) :
  wpAnyE P md ops Q T S late (fuel + 1) listed ⟨ts.toArray, ds⟩ w := E_any false i _ op v ho hc hw hQ hy hS (by rw [pt, hs]; exact h)
theorem eg (i : Nat) (v : Value) {op : Op} (hS : St T S late listed w) (h : wpAnyE P md ops Q T S late fuel (listed.setIfInBounds i true) ⟨ts'.toArray, ds⟩ w) (ho : opAt ops i = some (some t, op) := by rfl) (hc : checkE md ops late listed i false = true := by kernel_rfl) (hw : wantAt ops i ⟨ts.toArray, ds⟩ = some true := by rfl) (hQ : ∀ c (a : Act) w, Q (.panic c) (a.put (some t) v) w → Q (.panic c) a w := by exact fun _ _ _ h => h)
  (hy : ∀ o : Oper, o.op = op → ∀ w, SS T S false w → (execOp (Act.eval ⟨ts.toArray, ds⟩) o).run P w = .ok (.value v) w := by (intro o e w _; unfold execOp; simp only [e]; go_simp <;> fail)) (hs : sL ts t v = ts' := by (simp only [sL]; rfl)) :
  wpAnyE P md ops Q T S late (fuel + 1) listed ⟨ts.toArray, ds⟩ w := E_any false i _ op v ho hc hw hQ hy hS (by rw [pt, hs]; exact h)
theorem en (i : Nat) {op : Op} (hS : St T S late listed w) (h : wpAnyE P md ops Q T S late fuel (listed.setIfInBounds i true) ⟨ts'.toArray, ds⟩ w) (ho : opAt ops i = some (some t, op) := by rfl) (hc : checkE md ops late listed i false = true := by kernel_rfl) (hw : wantAt ops i ⟨ts.toArray, ds⟩ = some false := by rfl) (hQ : ∀ c (a : Act) w, Q (.panic c) (a.put (some t) undef) w → Q (.panic c) a w := by exact fun _ _ _ h => h) (hs : sL ts t undef = ts' := by (simp only [sL]; rfl)) :
  wpAnyE P md ops Q T S late (fuel + 1) listed ⟨ts.toArray, ds⟩ w := E_not i _ op ho hc hw hQ hS (by rw [pt, hs]; exact h)
theorem em (i : Nat) (v : Value) {x : Operand} (hS : St T S late listed w) (h : wpAnyE P md ops Q T S late fuel (listed.setIfInBounds i true) ⟨ts'.toArray, ds⟩ w) (ho : opAt ops i = some (some t, .move x) := by rfl) (hc : checkE md ops late listed i false = true := by kernel_rfl) (hw : wantAt ops i ⟨ts.toArray, ds⟩ = some true := by rfl) (hQ : ∀ c (a : Act) w, Q (.panic c) (a.put (some t) v) w → Q (.panic c) a w := by exact fun _ _ _ h => h)
  (hx : Act.eval ⟨ts.toArray, ds⟩ x = v := by rfl) (hs : sL ts t v = ts' := by (simp only [sL]; rfl)) : wpAnyE P md ops Q T S late (fuel + 1) listed ⟨ts.toArray, ds⟩ w := E_move i _ x v ho hc hw hQ hx hS (by rw [pt, hs]; exact h)
theorem ep (i : Nat) (b : Bool) (v : Value) {c x y : Operand} (hS : St T S late listed w) (h : wpAnyE P md ops Q T S late fuel (listed.setIfInBounds i true) ⟨ts'.toArray, ds⟩ w) (ho : opAt ops i = some (some t, .pick c x y) := by rfl) (hc : checkE md ops late listed i false = true := by kernel_rfl) (hw : wantAt ops i ⟨ts.toArray, ds⟩ = some true := by rfl) (hQ : ∀ c (a : Act) w, Q (.panic c) (a.put (some t) v) w → Q (.panic c) a w := by exact fun _ _ _ h => h)
  (hb : Act.eval ⟨ts.toArray, ds⟩ c = .bool b := by rfl) (hv : (if b then Act.eval ⟨ts.toArray, ds⟩ x else Act.eval ⟨ts.toArray, ds⟩ y) = v := by rfl) (hs : sL ts t v = ts' := by (simp only [sL]; rfl)) : wpAnyE P md ops Q T S late (fuel + 1) listed ⟨ts.toArray, ds⟩ w := E_pick i _ c x y b v ho hc hw hQ hb hv hS (by rw [pt, hs]; exact h)
theorem ez (i : Nat) (ad : Addr) {x : Operand} (hS : St T S late listed w) (h : wpAnyE P md ops Q T S late fuel (listed.setIfInBounds i true) ⟨ts'.toArray, ds⟩ w) (ho : opAt ops i = some (some t, .nilCheck x) := by rfl) (hc : checkE md ops late listed i false = true := by kernel_rfl) (hw : wantAt ops i ⟨ts.toArray, ds⟩ = some true := by rfl) (hQ : ∀ c (a : Act) w, Q (.panic c) (a.put (some t) (.pointer (some ad))) w → Q (.panic c) a w := by exact fun _ _ _ h => h)
  (hx : Act.eval ⟨ts.toArray, ds⟩ x = .pointer (some ad) := by rfl) (hs : sL ts t (.pointer (some ad)) = ts' := by (simp only [sL]; rfl)) : wpAnyE P md ops Q T S late (fuel + 1) listed ⟨ts.toArray, ds⟩ w := E_nil i _ x ad ho hc hw hQ hx hS (by rw [pt, hs]; exact h)
theorem ef (i : Nat) (ad ad' : Addr) {st : TypeId} {x : Operand} {f : Nat} (hS : St T S late listed w) (h : wpAnyE P md ops Q T S late fuel (listed.setIfInBounds i true) ⟨ts'.toArray, ds⟩ w) (ho : opAt ops i = some (some t, .fieldAddr st x f) := by rfl) (hc : checkE md ops late listed i false = true := by kernel_rfl) (hw : wantAt ops i ⟨ts.toArray, ds⟩ = some true := by rfl) (hQ : ∀ c (a : Act) w, Q (.panic c) (a.put (some t) (.pointer (some ad'))) w → Q (.panic c) a w := by exact fun _ _ _ h => h)
  (hx : Act.eval ⟨ts.toArray, ds⟩ x = .pointer (some ad) := by rfl) (hr : ∀ w, (Instr.fieldAt st (.pointer (some ad)) f).run P w = .ok (.pointer (some ad')) w := by exact fun w => by kernel_rfl) (hs : sL ts t (.pointer (some ad')) = ts' := by (simp only [sL]; rfl)) : wpAnyE P md ops Q T S late (fuel + 1) listed ⟨ts.toArray, ds⟩ w := E_field i _ st x f ad ad' ho hc hw hQ hx hr hS (by rw [pt, hs]; exact h)
theorem el (b : Bool) (i : Nat) (ad : Addr) (v : Value) {ty : TypeId} {d : TypeDesc} {x : Operand} (hu : P.underlying ty = some d) (hl : ∀ w, SS T S b w → w.cell? ad = some v) (hS : St T S late listed w) (h : wpAnyE P md ops Q T S late fuel (listed.setIfInBounds i true) ⟨ts'.toArray, ds⟩ w) (ho : opAt ops i = some (some t, .load ty x) := by rfl) (hc : checkE md ops late listed i b = true := by kernel_rfl) (hw : wantAt ops i ⟨ts.toArray, ds⟩ = some true := by rfl) (hQ : ∀ c (a : Act) w, Q (.panic c) (a.put (some t) v) w → Q (.panic c) a w := by exact fun _ _ _ h => h)
  (hx : Act.eval ⟨ts.toArray, ds⟩ x = .pointer (some ad) := by rfl) (hd : aggD d = false := by rfl) (hs : sL ts t v = ts' := by (simp only [sL]; rfl)) : wpAnyE P md ops Q T S late (fuel + 1) listed ⟨ts.toArray, ds⟩ w := E_load1 b i _ ty x ad v ho hc hw hQ hx (fun w hS => run_loadVar_one _ _ _ _ hu hd (hl w hS)) hS (by rw [pt, hs]; exact h)
theorem eL (b : Bool) (i : Nat) (ad : Addr) (cs : List Value) {ty : TypeId} {d : TypeDesc} {x : Operand} (hl : ∀ w, SS T S b w → ∀ j u, cs[j]? = some u → w.cell? (ad.add j) = some u) (hu : P.underlying ty = some d) (hi : (P.info? ty).map (·.size) = some cs.length) (hS : St T S late listed w) (h : wpAnyE P md ops Q T S late fuel (listed.setIfInBounds i true) ⟨ts'.toArray, ds⟩ w) (ho : opAt ops i = some (some t, .load ty x) := by rfl) (hc : checkE md ops late listed i b = true := by kernel_rfl) (hw : wantAt ops i ⟨ts.toArray, ds⟩ = some true := by rfl) (hQ : ∀ c (u : Act) w, Q (.panic c) (u.put (some t) (.agg cs.toArray)) w → Q (.panic c) u w := by exact fun _ _ _ h => h)
  (hx : Act.eval ⟨ts.toArray, ds⟩ x = .pointer (some ad) := by rfl) (hd : aggD d = true := by rfl) (hs : sL ts t (.agg cs.toArray) = ts' := by (simp only [sL]; rfl)) : wpAnyE P md ops Q T S late (fuel + 1) listed ⟨ts.toArray, ds⟩ w := E_load b i _ ty x ad cs d ho hc hw hQ hx hl hu hd hi hS (by rw [pt, hs]; exact h)
theorem ex (i : Nat) (vx vy v : Value) {ty : TypeId} {x y : Operand} (hr : ∀ w, (Instr.indexAt ty vx vy).run P w = .ok v w) (hS : St T S late listed w) (h : wpAnyE P md ops Q T S late fuel (listed.setIfInBounds i true) ⟨ts'.toArray, ds⟩ w) (ho : opAt ops i = some (some t, .indexAddr ty x y) := by rfl) (hc : checkE md ops late listed i false = true := by kernel_rfl) (hw : wantAt ops i ⟨ts.toArray, ds⟩ = some true := by rfl) (hQ : ∀ c (a : Act) w, Q (.panic c) (a.put (some t) v) w → Q (.panic c) a w := by exact fun _ _ _ h => h)
  (hx : Act.eval ⟨ts.toArray, ds⟩ x = vx := by rfl) (hy : Act.eval ⟨ts.toArray, ds⟩ y = vy := by rfl) (hs : sL ts t v = ts' := by (simp only [sL]; rfl)) : wpAnyE P md ops Q T S late (fuel + 1) listed ⟨ts.toArray, ds⟩ w := E_any false i _ _ v ho hc hw hQ (fun o e w _ => by
  unfold execOp
  simp only [e, hx, hy, Sem.run_bind, hr, Result.andThen_ok, Sem.run_pure]) hS (by rw [pt, hs]; exact h)
theorem eS (i : Nat) (v : Value) {x : Operand} (hS : St T S late (listed.setIfInBounds i true) w) (h : wpAnyE P md ops Q T S late fuel (listed.setIfInBounds i true) ⟨ts'.toArray, ds⟩ w) (hr : Region.ready md ops listed = [i] := by kernel_rfl) (ho : opAt ops i = some (some t, .assign x) := by rfl)
    (hw : wantAt ops i ⟨ts.toArray, ds⟩ = some true := by rfl) (hx : Act.eval ⟨ts.toArray, ds⟩ x = v := by rfl) (hs : sL ts t v = ts' := by (simp only [sL]; rfl)) : wpAnyE P md ops Q T S late (fuel + 1) listed ⟨ts.toArray, ds⟩ w := E_one i hr (StepE.assign i _ x v ho hw hx hS (by rw [pt, hs]; exact h))
theorem eo (i : Nat) {op : Op} {d : Option Tmp} {a : Act} (h : ∀ (o : Oper) (K : Act → World → Prop), o.dst = d → o.op = op → (∀ a w, St T S late (listed.setIfInBounds i true) w → wpAnyE P md ops Q T S late fuel (listed.setIfInBounds i true) a w → K a w) → Oper.wp P o a w K Q)
    (hr : Region.ready md ops listed = [i] := by kernel_rfl) (ho : opAt ops i = some (d, op) := by rfl) (hw : wantAt ops i a = some true := by rfl) : wpAnyE P md ops Q T S late (fuel + 1) listed a w := E_one i hr (StepE.of i d op ho hw h)
end
end
section
open Go.RowKit
section
variable {κ : Type} {P : Program} {k : TypeId} {enc : κ → Value} {V : κ → Prop} {b n : Nat} {f : κ → Option Value}
theorem wpQuiet_look {ops : Array Oper} {rest : List Oper} {o : Oper} {a : Act} {W : World} {Q : Act → Prop} (hgd : o.guard = none) (m y : Operand) (t : TypeId) (hop : o.op = .lookup t m y true) (e : TypeId) (E : KeyEnc P k enc V) (ht : P.underlying t = some (.map k e)) (z : Value)
  (hz : ∀ w, (zeroValue e).run P w = .ok z w) (h : MapIs P k enc V W b n f) (x : κ) (hx : V x) (hm : a.eval m = .map (some b)) (hy : a.eval y = enc x) (v : Value) (c : Bool) (hv : (f x).getD z = v) (hc : (f x).isSome = c)
  (hK : wpQuiet P ops (fun w' => ∃ n, w' = W.drewN n) Q rest (a.put o.dst (.tuple #[v, .bool c]))) : wpQuiet P ops (fun w' => ∃ n, w' = W.drewN n) Q (o :: rest) a := by
 have hw : Region.wanted o (yielded ops a.tmps) = true := by simp [Region.wanted, hgd]
 unfold wpQuiet
 rw [if_pos hw]
 subst hv hc
 refine ⟨_, ?_, hK⟩
 rintro w ⟨n, rfl⟩
 unfold Oper.quietAt execOp
 have := (h.drewN n).look E ht (hz _) x hx true
 simp only [hop, hm, hy, Sem.run_bind, this, Result.andThen_ok, Sem.run_pure]
 exact ⟨rfl, rfl⟩
end
end
section
open Go.RowKit
section
variable {P : Program}
end
end
end Go.Proofs.YtepagfkkjlbipaaGreat
