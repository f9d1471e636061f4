/-
  A pool in memory: its terms, their depths, its two maps; what changes of it changes alone. Conditions: those written in each statement.
-/
import Derived.Test.YtafbjcnonhpldaaProg
import Derived.Test.YtafbjcnonhpldaaTv
import Derived.Test.YtafbjcnonhpldaaKeys
import Derived.Test.YtafbjcnonhpldaaPush
import Derived.Test.YtafbjcnonhpldaaRl
import Derived.Test.YtafbjcnonhpldaaTn
namespace Go.Proofs.Ytafbjcnonhpldaa
open Go.RowKit
set_option linter.unusedVariables false
set_option linter.unusedSimpArgs false
open Go.Maps (Keyed)
/-- All but some blocks is as it was. -/
structure Chg (F : Nat → Prop) (w w' : World) : Prop where
  os : w'.os = w.os
  tape : w'.tape = w.tape
  output : w'.output = w.output
  size : w.heap.size ≤ w'.heap.size
  block : ∀ k, k < w.heap.size → ¬ F k → w'.heap[k]? = w.heap[k]?
section
variable {F G : Nat → Prop} {w w' w'' : World}
theorem Chg.refl (F : Nat → Prop) (w : World) : Chg F w w := ⟨rfl, rfl, rfl, Nat.le_refl _, fun _ _ _ => rfl⟩
theorem Chg.trans (h : Chg F w w') (k : Chg G w' w'') (hG : ∀ b, G b → F b ∨ w.heap.size ≤ b) : Chg F w w'' :=
  ⟨k.os.trans h.os, k.tape.trans h.tape, k.output.trans h.output, Nat.le_trans h.size k.size, fun i hi hF => (k.block i (Nat.lt_of_lt_of_le hi h.size) (fun q => (hG i q).elim hF (fun e => by omega))).trans (h.block i hi hF)⟩
theorem Chg.of_grown {row : Option Nat} (h : w.grownBy w' row) (hr : ∀ g, row = some g → F g ∨ w.heap.size ≤ g) : Chg F w w' :=
  ⟨h.os, h.tape, h.output, h.size, fun i hi hF => h.block i hi (fun e => (hr i e.symm).elim hF (fun q => by omega))⟩
theorem Chg.of_below (h : Below w.heap.size w w') : Chg F w w' := ⟨h.os, h.tape, h.output, h.size, fun i hi _ => h.block i hi⟩
theorem Chg.below {B : Nat} (h : Chg F w w') (hF : ∀ b, F b → B ≤ b) (hB : B ≤ w.heap.size) : Below B w w' :=
  ⟨h.os, h.tape, h.output, h.size, fun i hi => h.block i (by omega) (fun q => by have := hF i q; omega)⟩
theorem Chg.mono (h : Chg F w w') (hF : ∀ b, F b → G b ∨ w.heap.size ≤ b) : Chg G w w' := ⟨h.os, h.tape, h.output, h.size, fun i hi hn => h.block i hi (fun q => (hF i q).elim hn (fun e => by omega))⟩
theorem Chg.drewN (h : Chg F w w') (n : Nat) : Chg F w (w'.drewN n) := ⟨h.os, h.tape, h.output, h.size, h.block⟩
theorem Chg.drew (h : Chg F w w') : Chg F w w'.drew := ⟨h.os, h.tape, h.output, h.size, h.block⟩
theorem Chg.blk {g : Nat} {t : TypeId} {cs : Array Value} (h : Chg F w w') (hb : Blk w g t cs) (hg : ¬ F g) : Blk w' g t cs := (h.block g hb.lt hg).trans hb
theorem own_block {base : Nat} {e : TypeId} {size n : Nat} {v : Value} {xs : List Value} (h : w.ownsRow base e size v n xs) (hb : ∀ g, v.ownBlock = some g → w'.heap[g]? = w.heap[g]?) : w'.ownsRow base e size v n xs := by
  refine ⟨h.1, ?_⟩
  rcases h.2 with h | ⟨g, cap, cur, h1, h2, h3, h4⟩
  · exact .inl h
  · exact .inr ⟨g, cap, cur, h1, h2, by rw [hb g (by rw [h1]; rfl)]; exact h3, h4⟩
theorem own_ge {base : Nat} {e : TypeId} {size n : Nat} {v : Value} {xs : List Value} (h : w.ownsRow base e size v n xs) : ∀ g, v.ownBlock = some g → base ≤ g ∧ g < w.heap.size := (RowL.of_own h).ge
theorem Chg.own {base : Nat} {e : TypeId} {size n : Nat} {v : Value} {xs : List Value} (h : Chg F w w') (ho : w.ownsRow base e size v n xs) (hg : ∀ g, v.ownBlock = some g → ¬ F g) : w'.ownsRow base e size v n xs :=
  own_block ho fun g q => h.block g (own_ge ho g q).2 (hg g q)
theorem Chg.mapIs {κ : Type} {P : Program} {k : TypeId} {enc : κ → Value} {V : κ → Prop} {b n : Nat} {f : κ → Option Value} (h : Chg F w w') (hm : MapIs P k enc V w b n f) (hg : ¬ F b) : MapIs P k enc V w' b n f := hm.block_ (h.block b hm.lt hg)
theorem Chg.reads {B size n : Nat} {A : Option Addr} {xs : List Value} (h : Chg F w w') (hr : Reads w B size A n xs) (hB : B ≤ w.heap.size) (hF : ∀ b, F b → B ≤ b) : Reads w' B size A n xs :=
  hr.keep fun p hp => World.cell?_of_block (h.block p.block (by omega) (fun q => by have := hF _ q; omega))
end
/-! ### terms as keys -/
def I8 (x : Int) : Prop := -128 ≤ x ∧ x < 128
def I64 (x : Int) : Prop := -9223372036854775808 ≤ x ∧ x < 9223372036854775808
def TD.wf (x : TD) : Prop := I8 x.kind ∧ I8 x.op ∧ I8 x.w ∧ U64 x.n ∧ I64 x.a ∧ I64 x.b ∧ I64 x.c
theorem wf_i8 {x : Int} (h : I8 x) : (Lit.int .i8 x).wf = true := by unfold I8 at h; exact WalkArith.wf_i8 (by omega)
theorem wf_i64 {x : Int} (h : I64 x) : (Lit.int .i64 x).wf = true := by unfold I64 at h; exact WalkArith.wf_i64 (by omega)
theorem wf_u64 {x : Int} (h : U64 x) : (Lit.int .u64 x).wf = true := by unfold U64 at h; exact WalkArith.wf_u64 (by omega)
theorem TD.one (x : TD) : ∀ u ∈ x.cells, u.oneCell' = true := by
  intro v hv
  unfold TD.cells at hv
  simp only [List.mem_cons, List.not_mem_nil, or_false] at hv
  rcases hv with rfl | rfl | rfl | rfl | rfl | rfl | rfl <;> rfl
theorem TD.cells_inj {x y : TD} (h : x.cells = y.cells) : x = y := by
  unfold TD.cells at h
  simp only [List.cons.injEq, Value.int.injEq, true_and, and_true] at h
  obtain ⟨h0, h1, h2, h3, h4, h5, h6⟩ := h
  cases x
  cases y
  simp_all
def termV (x : TD) : Value := .agg x.cells.toArray
theorem termV_inj {x y : TD} (h : termV x = termV y) : x = y := by
  unfold termV at h
  injection h with h
  exact TD.cells_inj (by simpa using h)
theorem laidOut_ : laidOutB Try.prog = true := by kernel_rfl
theorem sizeT_ : Nat.ble 1 Try.prog.types.size = true := by kernel_rfl
theorem cells8 : Try.prog.cellsOf 29 = 1 := by kernel_rfl
theorem cells64 : Try.prog.cellsOf 3 = 1 := by kernel_rfl
theorem cellsU : Try.prog.cellsOf 30 = 1 := by kernel_rfl
theorem termK_reads (x : TD) (h : x.wf) : ∃ l, keyOf Try.prog 32 (termV x) = some l := by
  obtain ⟨h0, h1, h2, h3, h4, h5, h6⟩ := h
  refine keyOf_struct (cs := x.cells) Try.underlying32 (by kernel_rfl) (by show _ = 7; kernel_rfl) (by kernel_rfl) sizeT_ ?_
  intro f hf
  simp at hf
  rcases hf with rfl | rfl | rfl | rfl | rfl | rfl | rfl
  · exact ⟨.i8, x.kind, Try.underlying29, cells8, rfl, wf_i8 h0⟩
  · exact ⟨.i8, x.op, Try.underlying29, cells8, rfl, wf_i8 h1⟩
  · exact ⟨.i8, x.w, Try.underlying29, cells8, rfl, wf_i8 h2⟩
  · exact ⟨.u64, x.n, Try.underlying30, cellsU, rfl, wf_u64 h3⟩
  · exact ⟨.i64, x.a, Try.underlying3, cells64, rfl, wf_i64 h4⟩
  · exact ⟨.i64, x.b, Try.underlying3, cells64, rfl, wf_i64 h5⟩
  · exact ⟨.i64, x.c, Try.underlying3, cells64, rfl, wf_i64 h6⟩
theorem termK : KeyEnc Try.prog 32 termV TD.wf where
  keyed := Keyed.of_law (deep_law_gate laidOut_ (of_decide_eq_true (by kernel_rfl)) (of_decide_eq_true (by kernel_rfl)) (by kernel_rfl) (by kernel_rfl))
  reads := termK_reads
  inj := fun p q _ _ h => termV_inj h
theorem wordK : KeyEnc Try.prog 30 (Value.int .u64) U64 where
  keyed := Go.Maps.int_keyed Try.underlying30
  reads := fun x h => ⟨_, Go.Maps.keyOf_int_mk Try.underlying30 (wf_u64 h)⟩
  inj := fun p q _ _ h => by injection h
theorem numK : KeyEnc Try.prog 3 (Value.int .i64) I64 where
  keyed := Go.Maps.int_keyed Try.underlying3
  reads := fun x h => ⟨_, Go.Maps.keyOf_int_mk Try.underlying3 (wf_i64 h)⟩
  inj := fun p q _ _ h => by injection h
/-! ### the two maps' contents -/
def ofF (T : List TD) (x : TD) : Option Value := (atT T x).map fun i => .int .i64 (i : Nat)
def wdF (T : List TD) (n : Int) : Option Value := (wideF T n).map (Value.int .i8)
theorem ofF_put {T : List TD} {t : TD} (h : atT T t = none) (x : TD) : ofF (T ++ [t]) x = putF (ofF T) t (.int .i64 (T.length : Nat)) x := by
  unfold ofF putF atT at *
  rw [List.findIdx?_append]
  by_cases e : x = t
  · subst e
    rw [if_pos rfl, h]
    simp
  · rw [if_neg e]
    cases hx : T.findIdx? (fun y => decide (y = x)) with
    | some i => simp [hx]
    | none => simp [hx, List.findIdx?_cons, Ne.symm e]
theorem wdF_same {T : List TD} {t : TD} (h : t.kind ≠ 1) (x : Int) : wdF (T ++ [t]) x = wdF T x := by
  unfold wdF wideF
  rw [List.find?_append]
  have : varB x t = false := by unfold varB; simp [h]
  cases hx : T.find? (varB x) with
  | some i => rfl
  | none => simp [this, hx]
theorem wdF_put {T : List TD} {t : TD} (h : t.kind = 1) (hc : clashB T t = false) (x : Int) : wdF (T ++ [t]) x = putF (wdF T) t.n (.int .i8 t.w) x := by
  unfold wdF putF
  by_cases e : x = t.n
  · subst e
    rw [if_pos rfl]
    cases hx : wideF T t.n with
    | some w =>
      rw [find_app (by rw [hx]; simp), hx]
      unfold clashB at hc
      rw [hx, h] at hc
      simp at hc
      rw [hc]
      rfl
    | none =>
      rw [wideF_new hx]
      have : varB t.n t = true := by unfold varB; simp [h]
      rw [this]
      rfl
  · rw [if_neg e]
    unfold wideF
    rw [List.find?_append]
    have : varB x t = false := by unfold varB; simp [Ne.symm e]
    cases hx : T.find? (varB x) with
    | some i => simp [hx]
    | none => simp [this, hx]
/-- A pool lies at block g; F: the blocks that are its own. -/
structure PoolAt (w : World) (base : Nat) (F : Nat → Prop) (g : Nat) (p : PS) : Prop where
  ex : ∃ ls ds o v, Blk w g 48 #[ls, ds, .map (some o), .map (some v)] ∧ w.ownsRow base 32 7 ls p.T.length (p.T.flatMap TD.cells) ∧ w.ownsRow base 3 1 ds p.T.length (p.D.map (Value.int .i64)) ∧
    MapIs Try.prog 32 termV TD.wf w o p.T.length (ofF p.T) ∧ MapIs Try.prog 30 (Value.int .u64) U64 w v p.T.length (wdF p.T) ∧ Stamped w o ∧ o ≠ v ∧ F g ∧ F o ∧ F v ∧ (∀ b, ls.ownBlock = some b → F b) ∧ (∀ b, ds.ownBlock = some b → F b)
  wf : WfP p
  rng : ∀ t ∈ p.T, t.wf
  fb : ∀ b, F b → base ≤ b ∧ b < w.heap.size
section
variable {w w' : World} {base g : Nat} {F G : Nat → Prop} {p : PS}
theorem PoolAt.chg (h : PoolAt w base F g p) (hc : Chg G w w') (hd : ∀ b, F b → ¬ G b) : PoolAt w' base F g p := by
  obtain ⟨ls, ds, o, v, h1, h2, h3, h4, h5, h6, hov, f1, f2, f3, f4, f5⟩ := h.ex
  exact ⟨⟨ls, ds, o, v, hc.blk h1 (hd _ f1), hc.own h2 (fun b q => hd _ (f4 b q)), hc.own h3 (fun b q => hd _ (f5 b q)), hc.mapIs h4 (hd _ f2), hc.mapIs h5 (hd _ f3), h6.block_ (hc.block o h4.lt (hd _ f2)), hov, f1, f2, f3, f4, f5⟩, h.wf, h.rng, fun b q => ⟨(h.fb b q).1, Nat.lt_of_lt_of_le (h.fb b q).2 hc.size⟩⟩
theorem PoolAt.below (h : PoolAt w base F g p) (hb : Below w.heap.size w w') : PoolAt w' base F g p := h.chg (G := fun _ => False) (.of_below hb) (fun _ _ q => q)
/-- What a pool reads as. -/
theorem PoolAt.view (h : PoolAt w base F g p) : ∃ A c D d, w.cell? ⟨g, 0, none⟩ = some (.slice A p.T.length c) ∧ p.T.length ≤ c ∧ Reads w w.heap.size 7 A p.T.length (p.T.flatMap TD.cells) ∧
    w.cell? ⟨g, 1, none⟩ = some (.slice D p.T.length d) ∧ p.T.length ≤ d ∧ Reads w w.heap.size 1 D p.T.length (p.D.map (Value.int .i64)) := by
  obtain ⟨ls, ds, o, v, h1, h2, h3, _⟩ := h.ex
  obtain ⟨A, c, rfl, h4, h5⟩ := (RowL.of_own h2).slice
  obtain ⟨D, d, rfl, h6, h7⟩ := (RowL.of_own h3).slice
  exact ⟨A, c, D, d, h1.cell 0, h4, h5, h1.cell 1, h6, h7⟩
theorem flat_at {α β : Type} (f : α → List β) (m : Nat) : ∀ (l : List α), (∀ x ∈ l, (f x).length = m) → ∀ (k j : Nat) (x : α) (u : β), l[k]? = some x → (f x)[j]? = some u → (l.flatMap f)[k * m + j]? = some u
  | [], _, k, j, x, u, hk, _ => by simp at hk
  | y :: r, hl, k, j, x, u, hk, hu => by
    rw [List.flatMap_cons]
    have hy := hl y (by simp)
    cases k with
    | zero =>
      simp at hk
      subst hk
      have hj : j < (f y).length := (List.getElem?_eq_some_iff.1 hu).1
      rw [Nat.zero_mul, Nat.zero_add, List.getElem?_append_left hj, hu]
    | succ k =>
      have := flat_at f m r (fun z hz => hl z (by simp [hz])) k j x u (by simpa using hk) hu
      rw [List.getElem?_append_right (by rw [hy, Nat.succ_mul]; omega), hy, show (k + 1) * m + j - m = k * m + j by rw [Nat.succ_mul]; omega]
      exact this
theorem PoolAt.few (h : PoolAt w base F g p) : p.T.length ≤ 4000 := h.wf.few
/-- A term of it. -/
theorem PoolAt.at_ (h : PoolAt w base F g p) {k : Nat} (hk : k < p.T.length) : ∃ ad c dd d t x, w.cell? ⟨g, 0, none⟩ = some (.slice (some ad) p.T.length c) ∧ p.T.length ≤ c ∧ w.cell? ⟨g, 1, none⟩ = some (.slice (some dd) p.T.length d) ∧ p.T.length ≤ d ∧ ad.block < w.heap.size ∧ dd.block < w.heap.size ∧
    p.T[k]? = some t ∧ p.D[k]? = some x ∧ t.wf ∧ 1 ≤ x ∧ x ≤ 256 ∧ (∀ j u, t.cells[j]? = some u → w.cell? ((ad.add (k * 7)).add j) = some u) ∧ w.cell? (dd.add k) = some (.int .i64 x) := by
  obtain ⟨A, c, D, d, h1, h2, h3, h4, h5, h6⟩ := h.view
  obtain ⟨ad, rfl, hb, hc⟩ := h3.2 (by omega)
  obtain ⟨dd, u, rfl, hb2, hu, hc2⟩ := h6.at_ hk
  have hx : p.D[k]? = some (p.D[k]'(by rw [h.wf.len]; exact hk)) := List.getElem?_eq_getElem _
  have ht : p.T[k]? = some p.T[k] := List.getElem?_eq_getElem hk
  rw [List.getElem?_map, hx] at hu
  injection hu with hu
  subst hu
  have hl := h.wf.low _ (List.mem_of_getElem? hx)
  refine ⟨ad, c, dd, d, _, _, h1, h2, h4, h5, hb, hb2, ht, hx, h.rng _ (List.mem_of_getElem? ht), hl.1, hl.2, fun j u hu => ?_, hc2⟩
  rw [add_of_add]
  exact hc _ u (flat_at TD.cells 7 p.T (fun _ _ => rfl) k j _ u ht hu)
theorem PoolAt.drew (h : PoolAt w base F g p) : PoolAt w.drew base F g p := h.below ((Below.refl _ _).drew)
end
end Go.Proofs.Ytafbjcnonhpldaa
