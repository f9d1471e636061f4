/-
  A pool in memory: its terms, their depths, its two maps; what changes of it changes alone. Conditions: those written in each statement.
  Loads of aggregates, and operations on them, inside a region that only reads: laws for its lexical walk. Conditions: those written in each statement.
  Contracts: bits.Width, New, has, Len, Get, Deep, Wide. Conditions: those written in each statement.
  norm in plain words: what its functions make of a pool. Conditions: those written in each statement.
  A region that draws its order, reads cells, and writes them at its end: loads may be taken first, under a condition on the world that holds till the writes begin. Conditions: those written in each statement.
-/
import Derived.Test.YtepagfkkjlbipaaProg
import Derived.Test.YtepagfkkjlbipaaKaa
import Derived.Test.YtepagfkkjlbipaaKab
import Derived.Test.YtepagfkkjlbipaaKab
import Derived.Test.YtepagfkkjlbipaaKab
import Derived.Test.YtepagfkkjlbipaaKab
import Derived.Test.YtepagfkkjlbipaaKac
import Derived.Laws.Tables
import Derived.OrdersHeld
import Derived.Deep.RegionHeld
import Derived.BigRegion
section
namespace Go.Proofs.Ytepagfkkjlbipaa
open Go.RowKit
set_option linter.unusedVariables false
set_option linter.unusedSimpArgs false
open Go.Maps (Keyed)
/-- All but some blocks is as it was. -/
structure Chg (F : Nat → Prop) (w w' : World) : Prop where
  os : w'.os = w.os
  tape : w'.tape = w.tape
  output : w'.output = w.output
  size : w.heap.size ≤ w'.heap.size
  block : ∀ k, k < w.heap.size → ¬ F k → w'.heap[k]? = w.heap[k]?
section
variable {F G : Nat → Prop} {w w' w'' : World}
theorem Chg.refl (F : Nat → Prop) (w : World) : Chg F w w := ⟨rfl, rfl, rfl, Nat.le_refl _, fun _ _ _ => rfl⟩
theorem Chg.trans (h : Chg F w w') (k : Chg G w' w'') (hG : ∀ b, G b → F b ∨ w.heap.size ≤ b) : Chg F w w'' :=
  ⟨k.os.trans h.os, k.tape.trans h.tape, k.output.trans h.output, Nat.le_trans h.size k.size, fun i hi hF => (k.block i (Nat.lt_of_lt_of_le hi h.size) (fun q => (hG i q).elim hF (fun e => by omega))).trans (h.block i hi hF)⟩
theorem Chg.of_grown {row : Option Nat} (h : w.grownBy w' row) (hr : ∀ g, row = some g → F g ∨ w.heap.size ≤ g) : Chg F w w' :=
  ⟨h.os, h.tape, h.output, h.size, fun i hi hF => h.block i hi (fun e => (hr i e.symm).elim hF (fun q => by omega))⟩
theorem Chg.of_below (h : Below w.heap.size w w') : Chg F w w' := ⟨h.os, h.tape, h.output, h.size, fun i hi _ => h.block i hi⟩
theorem Chg.below {B : Nat} (h : Chg F w w') (hF : ∀ b, F b → B ≤ b) (hB : B ≤ w.heap.size) : Below B w w' :=
  ⟨h.os, h.tape, h.output, h.size, fun i hi => h.block i (by omega) (fun q => by have := hF i q; omega)⟩
theorem Chg.mono (h : Chg F w w') (hF : ∀ b, F b → G b ∨ w.heap.size ≤ b) : Chg G w w' := ⟨h.os, h.tape, h.output, h.size, fun i hi hn => h.block i hi (fun q => (hF i q).elim hn (fun e => by omega))⟩
theorem Chg.drewN (h : Chg F w w') (n : Nat) : Chg F w (w'.drewN n) := ⟨h.os, h.tape, h.output, h.size, h.block⟩
theorem Chg.drew (h : Chg F w w') : Chg F w w'.drew := ⟨h.os, h.tape, h.output, h.size, h.block⟩
theorem Chg.blk {g : Nat} {t : TypeId} {cs : Array Value} (h : Chg F w w') (hb : Blk w g t cs) (hg : ¬ F g) : Blk w' g t cs := (h.block g hb.lt hg).trans hb
theorem own_block {base : Nat} {e : TypeId} {size n : Nat} {v : Value} {xs : List Value} (h : w.ownsRow base e size v n xs) (hb : ∀ g, v.ownBlock = some g → w'.heap[g]? = w.heap[g]?) : w'.ownsRow base e size v n xs := by
  refine ⟨h.1, ?_⟩
  rcases h.2 with h | ⟨g, cap, cur, h1, h2, h3, h4⟩
  · exact .inl h
  · exact .inr ⟨g, cap, cur, h1, h2, by rw [hb g (by rw [h1]; rfl)]; exact h3, h4⟩
theorem own_ge {base : Nat} {e : TypeId} {size n : Nat} {v : Value} {xs : List Value} (h : w.ownsRow base e size v n xs) : ∀ g, v.ownBlock = some g → base ≤ g ∧ g < w.heap.size := (RowL.of_own h).ge
theorem Chg.own {base : Nat} {e : TypeId} {size n : Nat} {v : Value} {xs : List Value} (h : Chg F w w') (ho : w.ownsRow base e size v n xs) (hg : ∀ g, v.ownBlock = some g → ¬ F g) : w'.ownsRow base e size v n xs :=
  own_block ho fun g q => h.block g (own_ge ho g q).2 (hg g q)
theorem Chg.mapIs {κ : Type} {P : Program} {k : TypeId} {enc : κ → Value} {V : κ → Prop} {b n : Nat} {f : κ → Option Value} (h : Chg F w w') (hm : MapIs P k enc V w b n f) (hg : ¬ F b) : MapIs P k enc V w' b n f := hm.block_ (h.block b hm.lt hg)
theorem Chg.reads {B size n : Nat} {A : Option Addr} {xs : List Value} (h : Chg F w w') (hr : Reads w B size A n xs) (hB : B ≤ w.heap.size) (hF : ∀ b, F b → B ≤ b) : Reads w' B size A n xs :=
  hr.keep fun p hp => World.cell?_of_block (h.block p.block (by omega) (fun q => by have := hF _ q; omega))
end
/-! ### terms as keys -/
def TD.wf (x : TD) : Prop := I8 x.kind ∧ I8 x.op ∧ I8 x.w ∧ U64 x.n ∧ I64 x.a ∧ I64 x.b ∧ I64 x.c
theorem wf_u64 {x : Int} (h : U64 x) : (Lit.int .u64 x).wf = true := by unfold U64 at h; exact WalkArith.wf_u64 (by omega)
theorem TD.one (x : TD) : ∀ u ∈ x.cells, u.oneCell' = true := by
  intro v hv
  unfold TD.cells at hv
  simp only [List.mem_cons, List.not_mem_nil, or_false] at hv
  rcases hv with rfl | rfl | rfl | rfl | rfl | rfl | rfl <;> rfl
theorem TD.cells_inj {x y : TD} (h : x.cells = y.cells) : x = y := by
  unfold TD.cells at h
  simp only [List.cons.injEq, Value.int.injEq, true_and, and_true] at h
  obtain ⟨h0, h1, h2, h3, h4, h5, h6⟩ := h
  cases x
  cases y
  simp_all
def termV (x : TD) : Value := .agg x.cells.toArray
theorem termV_inj {x y : TD} (h : termV x = termV y) : x = y := by
  unfold termV at h
  injection h with h
  exact TD.cells_inj (by simpa using h)
theorem laidOut_ : laidOutB Try.prog = true := by kernel_rfl
theorem sizeT_ : Nat.ble 1 Try.prog.types.size = true := by kernel_rfl
theorem cells8 : Try.prog.cellsOf 24 = 1 := by kernel_rfl
theorem cells64 : Try.prog.cellsOf 3 = 1 := by kernel_rfl
theorem cellsU : Try.prog.cellsOf 46 = 1 := by kernel_rfl
theorem termK_reads (x : TD) (h : x.wf) : ∃ l, keyOf Try.prog 87 (termV x) = some l := by
  obtain ⟨h0, h1, h2, h3, h4, h5, h6⟩ := h
  refine keyOf_struct (cs := x.cells) Try.underlying87 (by kernel_rfl) (by show _ = 7; kernel_rfl) (by kernel_rfl) sizeT_ ?_
  intro f hf
  simp at hf
  rcases hf with rfl | rfl | rfl | rfl | rfl | rfl | rfl
  · exact ⟨.i8, x.kind, Try.underlying24, cells8, rfl, wf_i8 h0⟩
  · exact ⟨.i8, x.op, Try.underlying24, cells8, rfl, wf_i8 h1⟩
  · exact ⟨.i8, x.w, Try.underlying24, cells8, rfl, wf_i8 h2⟩
  · exact ⟨.u64, x.n, Try.underlying46, cellsU, rfl, wf_u64 h3⟩
  · exact ⟨.i64, x.a, Try.underlying3, cells64, rfl, wf_i64 h4⟩
  · exact ⟨.i64, x.b, Try.underlying3, cells64, rfl, wf_i64 h5⟩
  · exact ⟨.i64, x.c, Try.underlying3, cells64, rfl, wf_i64 h6⟩
theorem termK : KeyEnc Try.prog 87 termV TD.wf where
  keyed := Keyed.of_law (deep_law_gate laidOut_ (of_decide_eq_true (by kernel_rfl)) (of_decide_eq_true (by kernel_rfl)) (by kernel_rfl) (by kernel_rfl))
  reads := termK_reads
  inj := fun p q _ _ h => termV_inj h
theorem wordK : KeyEnc Try.prog 46 (Value.int .u64) U64 where
  keyed := Go.Maps.int_keyed Try.underlying46
  reads := fun x h => ⟨_, Go.Maps.keyOf_int_mk Try.underlying46 (wf_u64 h)⟩
  inj := fun p q _ _ h => by injection h
theorem numK : KeyEnc Try.prog 3 (Value.int .i64) I64 where
  keyed := Go.Maps.int_keyed Try.underlying3
  reads := fun x h => ⟨_, Go.Maps.keyOf_int_mk Try.underlying3 (wf_i64 h)⟩
  inj := fun p q _ _ h => by injection h
/-! ### the two maps' contents -/
def ofF (T : List TD) (x : TD) : Option Value := (atT T x).map fun i => .int .i64 (i : Nat)
def wdF (T : List TD) (n : Int) : Option Value := (wideF T n).map (Value.int .i8)
theorem ofF_put {T : List TD} {t : TD} (h : atT T t = none) (x : TD) : ofF (T ++ [t]) x = putF (ofF T) t (.int .i64 (T.length : Nat)) x := by
  unfold ofF putF atT at *
  rw [List.findIdx?_append]
  by_cases e : x = t
  · subst e
    rw [if_pos rfl, h]
    simp
  · rw [if_neg e]
    cases hx : T.findIdx? (fun y => decide (y = x)) with
    | some i => simp [hx]
    | none => simp [hx, List.findIdx?_cons, Ne.symm e]
theorem wdF_same {T : List TD} {t : TD} (h : t.kind ≠ 1) (x : Int) : wdF (T ++ [t]) x = wdF T x := by
  unfold wdF wideF
  rw [List.find?_append]
  have : varB x t = false := by unfold varB; simp [h]
  cases hx : T.find? (varB x) with
  | some i => rfl
  | none => simp [this, hx]
theorem wdF_put {T : List TD} {t : TD} (h : t.kind = 1) (hc : clashB T t = false) (x : Int) : wdF (T ++ [t]) x = putF (wdF T) t.n (.int .i8 t.w) x := by
  unfold wdF putF
  by_cases e : x = t.n
  · subst e
    rw [if_pos rfl]
    cases hx : wideF T t.n with
    | some w =>
      rw [find_app (by rw [hx]; simp), hx]
      unfold clashB at hc
      rw [hx, h] at hc
      simp at hc
      rw [hc]
      rfl
    | none =>
      rw [wideF_new hx]
      have : varB t.n t = true := by unfold varB; simp [h]
      rw [this]
      rfl
  · rw [if_neg e]
    unfold wideF
    rw [List.find?_append]
    have : varB x t = false := by unfold varB; simp [Ne.symm e]
    cases hx : T.find? (varB x) with
    | some i => simp [hx]
    | none => simp [this, hx]
/-- A pool lies at block g; F: the blocks that are its own. -/
structure PoolAt (w : World) (base : Nat) (F : Nat → Prop) (g : Nat) (p : PS) : Prop where
  ex : ∃ ls ds o v, Blk w g 62 #[ls, ds, .map (some o), .map (some v)] ∧ w.ownsRow base 87 7 ls p.T.length (p.T.flatMap TD.cells) ∧ w.ownsRow base 3 1 ds p.T.length (p.D.map (Value.int .i64)) ∧
    MapIs Try.prog 87 termV TD.wf w o p.T.length (ofF p.T) ∧ MapIs Try.prog 46 (Value.int .u64) U64 w v p.T.length (wdF p.T) ∧ Stamped w o ∧ o ≠ v ∧ F g ∧ F o ∧ F v ∧ (∀ b, ls.ownBlock = some b → F b) ∧ (∀ b, ds.ownBlock = some b → F b)
  wf : WfP p
  rng : ∀ t ∈ p.T, t.wf
  fb : ∀ b, F b → base ≤ b ∧ b < w.heap.size
section
variable {w w' : World} {base g : Nat} {F G : Nat → Prop} {p : PS}
theorem PoolAt.chg (h : PoolAt w base F g p) (hc : Chg G w w') (hd : ∀ b, F b → ¬ G b) : PoolAt w' base F g p := by
  obtain ⟨ls, ds, o, v, h1, h2, h3, h4, h5, h6, hov, f1, f2, f3, f4, f5⟩ := h.ex
  exact ⟨⟨ls, ds, o, v, hc.blk h1 (hd _ f1), hc.own h2 (fun b q => hd _ (f4 b q)), hc.own h3 (fun b q => hd _ (f5 b q)), hc.mapIs h4 (hd _ f2), hc.mapIs h5 (hd _ f3), h6.block_ (hc.block o h4.lt (hd _ f2)), hov, f1, f2, f3, f4, f5⟩, h.wf, h.rng, fun b q => ⟨(h.fb b q).1, Nat.lt_of_lt_of_le (h.fb b q).2 hc.size⟩⟩
theorem PoolAt.below (h : PoolAt w base F g p) (hb : Below w.heap.size w w') : PoolAt w' base F g p := h.chg (G := fun _ => False) (.of_below hb) (fun _ _ q => q)
/-- What a pool reads as. -/
theorem PoolAt.view (h : PoolAt w base F g p) : ∃ A c D d, w.cell? ⟨g, 0, none⟩ = some (.slice A p.T.length c) ∧ p.T.length ≤ c ∧ Reads w w.heap.size 7 A p.T.length (p.T.flatMap TD.cells) ∧
    w.cell? ⟨g, 1, none⟩ = some (.slice D p.T.length d) ∧ p.T.length ≤ d ∧ Reads w w.heap.size 1 D p.T.length (p.D.map (Value.int .i64)) := by
  obtain ⟨ls, ds, o, v, h1, h2, h3, _⟩ := h.ex
  obtain ⟨A, c, rfl, h4, h5⟩ := (RowL.of_own h2).slice
  obtain ⟨D, d, rfl, h6, h7⟩ := (RowL.of_own h3).slice
  exact ⟨A, c, D, d, h1.cell 0, h4, h5, h1.cell 1, h6, h7⟩
theorem PoolAt.few (h : PoolAt w base F g p) : p.T.length ≤ 4000 := h.wf.few
/-- A term of it. -/
theorem PoolAt.at_ (h : PoolAt w base F g p) {k : Nat} (hk : k < p.T.length) : ∃ ad c dd d t x, w.cell? ⟨g, 0, none⟩ = some (.slice (some ad) p.T.length c) ∧ p.T.length ≤ c ∧ w.cell? ⟨g, 1, none⟩ = some (.slice (some dd) p.T.length d) ∧ p.T.length ≤ d ∧ ad.block < w.heap.size ∧ dd.block < w.heap.size ∧
    p.T[k]? = some t ∧ p.D[k]? = some x ∧ t.wf ∧ 1 ≤ x ∧ x ≤ 256 ∧ (∀ j u, t.cells[j]? = some u → w.cell? ((ad.add (k * 7)).add j) = some u) ∧ w.cell? (dd.add k) = some (.int .i64 x) := by
  obtain ⟨A, c, D, d, h1, h2, h3, h4, h5, h6⟩ := h.view
  obtain ⟨ad, rfl, hb, hc⟩ := h3.2 (by omega)
  obtain ⟨dd, u, rfl, hb2, hu, hc2⟩ := h6.at_ hk
  have hx : p.D[k]? = some (p.D[k]'(by rw [h.wf.len]; exact hk)) := List.getElem?_eq_getElem _
  have ht : p.T[k]? = some p.T[k] := List.getElem?_eq_getElem hk
  rw [List.getElem?_map, hx] at hu
  injection hu with hu
  subst hu
  have hl := h.wf.low _ (List.mem_of_getElem? hx)
  refine ⟨ad, c, dd, d, _, _, h1, h2, h4, h5, hb, hb2, ht, hx, h.rng _ (List.mem_of_getElem? ht), hl.1, hl.2, fun j u hu => ?_, hc2⟩
  rw [add_of_add]
  exact hc _ u (flat_at TD.cells 7 p.T (fun _ _ => rfl) k j _ u ht hu)
theorem PoolAt.drew (h : PoolAt w base F g p) : PoolAt w.drew base F g p := h.below ((Below.refl _ _).drew)
end
end Go.Proofs.Ytepagfkkjlbipaa
end
section
namespace Go.Proofs.Ytepagfkkjlbipaa
open Go.RowKit
set_option linter.unusedVariables false
set_option linter.unusedSimpArgs false
section
variable {P : Program}
theorem wpQuiet_load {ops : Array Oper} {rest : List Oper} {o : Oper} {a : Act} {W : World} {Q : Act → Prop} (hgd : o.guard = none) (ty : TypeId) (x : Operand) (ho : o.op = .load ty x)
    (ad : Addr) (hx : a.eval x = .pointer (some ad)) (cs : List Value) (d : TypeDesc) (hc : ∀ j u, cs[j]? = some u → W.cell? (ad.add j) = some u)
    (hu : P.underlying ty = some d) (hd : aggD d = true) (hi : (P.info? ty).map (·.size) = some cs.length)
    (h : wpQuiet P ops (fun w' => ∃ n, w' = W.drewN n) Q rest (a.put o.dst (.agg cs.toArray))) : wpQuiet P ops (fun w' => ∃ n, w' = W.drewN n) Q (o :: rest) a := by
  have hw : Region.wanted o (yielded ops a.tmps) = true := by simp [Region.wanted, hgd]
  unfold wpQuiet
  rw [if_pos hw]
  refine ⟨.agg cs.toArray, ?_, h⟩
  rintro w ⟨n, rfl⟩
  unfold Oper.quietAt execOp
  simp only [ho, hx, Instr.loadAt, Instr.sureAddr, Sem.run_bind, Sem.run_pure, Result.andThen_ok, run_loadVar_at (P := P) (W.drewN n) ad ty cs d hc hu hd hi]
  exact ⟨rfl, rfl⟩
end
end Go.Proofs.Ytepagfkkjlbipaa
end
section
namespace Go.Proofs.Ytepagfkkjlbipaa
open Go.RowKit
set_option linter.unusedVariables false
set_option linter.unusedSimpArgs false
theorem width_any (x : Int) (w : World) : Calls Try.prog 82 #[.int .i8 x] w fun e w' => e = .returned (.bool (wdB x)) ∧ w = w' := by
  cases h8 : (x == 8)
  · cases h16 : (x == 16)
    · cases h32 : (x == 32)
      · cases h64 : (x == 64)
        all_goals
          go_enter Try.func82, Try.ntmps82
          go_wp2
          go_ret
          exact ⟨by unfold wdB; simp [h8, h16, h32, h64], rfl⟩
      · go_enter Try.func82, Try.ntmps82
        go_wp2
        go_ret
        exact ⟨by unfold wdB; simp [h8, h16, h32], rfl⟩
    · go_enter Try.func82, Try.ntmps82
      go_wp2
      go_ret
      exact ⟨by unfold wdB; simp [h8, h16], rfl⟩
  · go_enter Try.func82, Try.ntmps82
    go_wp2
    go_ret
    exact ⟨by unfold wdB; simp [h8], rfl⟩
section
variable {w : World} {base g : Nat} {F : Nat → Prop} {p : PS}
theorem has_any (k : Int) (h : PoolAt w base F g p) : Calls Try.prog 52 #[.pointer (some ⟨g, 0, none⟩), .int .i64 k] w fun e w' => e = .returned (.bool (hasB p.T k)) ∧ w = w' := by
  obtain ⟨A, c, D, d, h1, h2, _, h4, h5, _⟩ := h.view
  have hf := h.few
  obtain ⟨n, hn⟩ : ∃ n, p.T.length = n := ⟨_, rfl⟩
  have HB := hide (show hasB p.T k = (decide (0 ≤ k) && decide (k < (n : Int))) by unfold hasB; rw [hn])
  rw [hn] at h1 h2 hf
  clear hn h h4 h5
  cases hk : decide (0 ≤ k)
  · have hk2 : decide (k < 0) = true := by simp at hk ⊢; omega
    go_enter Try.func52, Try.ntmps52
    go_wp2
    go_ret
    exact ⟨by rw [HB.out, hk]; rfl, rfl⟩
  · go_enter Try.func52, Try.ntmps52
    go_wp2
    go_ret
    exact ⟨by rw [HB.out, hk]; rfl, rfl⟩
theorem len_any (h : PoolAt w base F g p) : Calls Try.prog 14 #[.pointer (some ⟨g, 0, none⟩)] w fun e w' => e = .returned (.int .i64 (p.T.length : Nat)) ∧ w = w' := by
  obtain ⟨A, c, D, d, h1, h2, _, h4, h5, _⟩ := h.view
  obtain ⟨n, hn⟩ : ∃ n, p.T.length = n := ⟨_, rfl⟩
  rw [hn] at h1 h2 ⊢
  clear hn h h4 h5
  go_enter Try.func14, Try.ntmps14
  go_wp2
  go_ret
  exact ⟨rfl, rfl⟩
/-- A term that is not there. -/
def zeroT : TD := ⟨0, 0, 0, 0, 0, 0, 0⟩
theorem get_none {k : Int} (h : PoolAt w base F g p) (hk : hasB p.T k = false) : Calls Try.prog 45 #[.pointer (some ⟨g, 0, none⟩), .int .i64 k] w fun e w' => e = .returned (.tuple #[termV zeroT, .int .i64 2]) ∧ Below w.heap.size w w' := by
  have H := hide h
  have HH := hide hk
  clear h hk
  go_enter Try.func45, Try.ntmps45
  go_wp2_with fail
  refine (has_any k (H.out.below ((Below.refl _ _).alloc (Nat.le_refl _) _))).mono ?_
  rintro e w' ⟨rfl, rfl⟩
  rw [HH.out]
  go_wp2
  exact bodyPost_ret (v := .tuple #[termV zeroT, .int .i64 2]) (by simp [results, Try.results45, go_sem, termV, zeroT, TD.cells]) rfl ⟨rfl, (Below.refl _ _).alloc (Nat.le_refl _) _⟩
end
theorem sizT : (Try.prog.info? 87).map (·.size) = some 7 := by kernel_rfl
abbrev TD.lit (t : TD) : List Value := [.int .i8 t.kind, .int .i8 t.op, .int .i8 t.w, .int .u64 t.n, .int .i64 t.a, .int .i64 t.b, .int .i64 t.c]
section
variable {w : World} {base g : Nat} {F : Nat → Prop} {p : PS}
theorem get_any {k : Nat} {t : TD} (h : PoolAt w base F g p) (ht : p.T[k]? = some t) : Calls Try.prog 45 #[.pointer (some ⟨g, 0, none⟩), .int .i64 k] w fun e w' => e = .returned (.tuple #[termV t, .int .i64 0]) ∧ Below w.heap.size w w' := by
  have hk : k < p.T.length := (List.getElem?_eq_some_iff.1 ht).1
  have H1 := h.below ((Below.refl _ _).alloc (Nat.le_refl _) (.cells #[.int .i8 0, .int .i8 0, .int .i8 0, .int .u64 0, .int .i64 0, .int .i64 0, .int .i64 0] 87))
  obtain ⟨ad, c, dd, d, t', x', h1, h2, _, _, _, _, ht', _, _, _, _, hc, _⟩ := H1.at_ hk
  obtain rfl : t = t' := by rw [ht] at ht'; exact Option.some.inj ht'
  have H := hide H1
  have hh : hasB p.T k = true := by unfold hasB; simp; exact hk
  have HH := hide hh
  have hf := h.few
  obtain ⟨n, hn⟩ : ∃ n, p.T.length = n := ⟨_, rfl⟩
  rw [hn] at h1 h2 hk hf
  have HC := hide hc
  clear hn h ht' ht hh H1 hc
  have hkd : k < c := by omega
  go_enter Try.func45, Try.ntmps45
  go_wp2_with fail
  refine (has_any k H.out).mono ?_
  rintro e w' ⟨rfl, rfl⟩
  rw [HH.out]
  go_wp2_with (first
    | (refine wpList_load_at rfl 87 (.tmp 21) rfl (ad.add (k * 7)) (by rfl) t.lit _ HC.out Try.underlying87 rfl sizT ?_)
    | fail)
  exact bodyPost_ret (v := .tuple #[termV t, .int .i64 0]) (by simp [results, Try.results45, go_sem, termV, TD.cells]) rfl ⟨rfl, ((Below.refl _ _).alloc (Nat.le_refl _) _)⟩
end
theorem build_pool (a b : Option Nat) (w : World) : (Instr.build 62 #[(2, .map a), (3, .map b)]).run Try.prog w = .ok (.agg #[.slice none 0 0, .slice none 0 0, .map a, .map b]) w := run_build w 62 _ _ (by kernel_rfl)
/-- A pool just made. -/
theorem pool_new (w : World) : PoolAt (((w.alloc (.map #[] 0)).alloc (.map #[] 0)).alloc (.cells #[.slice none 0 0, .slice none 0 0, .map (some w.heap.size), .map (some (w.heap.size + 1))] 62)) w.heap.size (fun b => w.heap.size ≤ b ∧ b < w.heap.size + 3) (w.heap.size + 2) ⟨[], []⟩ := by
  have e1 : (w.alloc (.map #[] 0)).heap.size = w.heap.size + 1 := by simp
  have e2 : ((w.alloc (.map #[] 0)).alloc (.map #[] 0)).heap.size = w.heap.size + 2 := by simp
  have m1 : MapIs Try.prog 87 termV TD.wf (w.alloc (.map #[] 0)) w.heap.size 0 (fun _ => none) := MapIs.new w
  have m2 : MapIs Try.prog 46 (Value.int .u64) U64 ((w.alloc (.map #[] 0)).alloc (.map #[] 0)) (w.heap.size + 1) 0 (fun _ => none) := by
    have := MapIs.new (P := Try.prog) (k := 46) (enc := Value.int .u64) (V := U64) (w.alloc (.map #[] 0))
    rw [e1] at this
    exact this
  have b3 := Blk.new ((w.alloc (.map #[] 0)).alloc (.map #[] 0)) 62 #[.slice none 0 0, .slice none 0 0, .map (some w.heap.size), .map (some (w.heap.size + 1))]
  rw [e2] at b3
  have s1 := Stamped.new w
  refine ⟨⟨.slice none 0 0, .slice none 0 0, w.heap.size, w.heap.size + 1, b3, ⟨rfl, .inl ⟨rfl, rfl⟩⟩, ⟨rfl, .inl ⟨rfl, rfl⟩⟩, (m1.alloc _).alloc _, m2.alloc _, ?_, by omega, ?_, ?_, ?_, ?_, ?_⟩, WfP.nil, by simp, fun b hb => by simp; omega⟩
  · exact s1.block_ (by rw [Below.heap_alloc _ _ _ (by simp; omega), Below.heap_alloc _ _ _ (by simp)])
  · omega
  · omega
  · omega
  · intro b hb; simp [Value.ownBlock] at hb
  · intro b hb; simp [Value.ownBlock] at hb
theorem new_any (w : World) : Calls Try.prog 8 #[] w fun e w' => ∃ g F, e = .returned (.pointer (some ⟨g, 0, none⟩)) ∧ PoolAt w' w.heap.size F g ⟨[], []⟩ ∧ Below w.heap.size w w' := by
  have hbd := fun (a b : Option Nat) (w : World) => build_pool a b w
  have hm1 : ∀ w : World, (Instr.makeMap 58 none).run Try.prog w = .ok (.map (some w.heap.size)) (w.alloc (.map #[] 0)) := fun _ => rfl
  have hm2 : ∀ w : World, (Instr.makeMap 59 none).run Try.prog w = .ok (.map (some w.heap.size)) (w.alloc (.map #[] 0)) := fun _ => rfl
  go_enter Try.func8, Try.ntmps8
  go_wp2
  go_ret
  refine ⟨w.heap.size + 2, _, ?_, pool_new w, (((Below.refl _ _).alloc (Nat.le_refl _) _).alloc (by simp) _).alloc (by simp; omega) _⟩
  rfl
end Go.Proofs.Ytepagfkkjlbipaa
end
section
namespace Go.Proofs.Ytepagfkkjlbipaa
set_option linter.unusedVariables false
set_option linter.unusedSimpArgs false
/-- A pool, a number, an error. -/
abbrev RS := PS × Int × Int
def putR (p : PS) (t : TD) : RS := (putP p t, (putN p t).1, (putN p t).2)
/-- The term at a number; one of noughts, if there is none. -/
def atP (T : List TD) (n : Int) : TD := if hasB T n = true then T.getD n.toNat zeroT else zeroT
def constT (n : Int) : TD := ⟨0, 0, 0, n, 0, 0, 0⟩
def cutV (w v : Int) : Int := if w = 8 then v % 256 else if w = 16 then v % 65536 else if w = 32 then v % 4294967296 else v
def longB (w : Int) : Bool := w == 32 || w == 64
def narrowP (T : List TD) (n w : Int) : Bool :=
  let t := atP T n
  if w = 64 ∨ t.kind = 4 then true
  else if t.kind = 0 then decide (t.n = cutV w t.n)
  else if t.kind = 3 ∨ t.kind = 1 then decide (t.w ≤ w)
  else decide (t.kind = 2 ∧ t.w = 32 ∧ w = 32)
def zextF : Nat → PS → Int → Int → Option RS
  | 0, _, _, _ => none
  | f + 1, p, w, a =>
    let t := atP p.T a
    if w = 64 then some (p, a, 0)
    else if t.kind = 0 then some (putR p (constT (cutV w t.n)))
    else if narrowP p.T a w = true then some (p, a, 0)
    else if t.kind = 3 then zextF f p w t.a
    else some (putR p ⟨3, 0, w, 0, a, 0, 0⟩)
def operandP (p : PS) (w a : Int) : RS :=
  let t := atP p.T a
  if t.kind = 0 then putR p (constT (cutV w t.n))
  else if w = 32 ∧ t.kind = 3 ∧ t.w = 32 then (p, t.a, 0)
  else (p, a, 0)
def bothP (p : PS) (w a b : Int) : PS × Int × Int × Int :=
  let r := operandP p w a
  if r.2.2 = 0 then let s := operandP r.1 w b; (s.1, r.2.1, s.2.1, s.2.2) else (r.1, r.2.1, 0, r.2.2)
end Go.Proofs.Ytepagfkkjlbipaa
end
section
namespace Go.Proofs.Ytepagfkkjlbipaa
set_option linter.unusedVariables false
set_option linter.unusedSimpArgs false
section
variable {P : Program} {ops : Array Oper} {Q : Exit → Act → World → Prop} {md : Region.Mode} {T S : World → Prop} {late : List Nat}
def noneB (late : List Nat) (listed : Array Bool) : Bool := late.all fun j => !listed.getD j true
/-- T holds throughout, S till the first of the late ones. -/
def St (T S : World → Prop) (late : List Nat) (listed : Array Bool) (w : World) : Prop := T w ∧ (noneB late listed = true → S w)
theorem St.both {listed : Array Bool} {w : World} (h1 : T w) (h2 : S w) : St T S late listed w := ⟨h1, fun _ => h2⟩
theorem St.after {listed : Array Bool} {w : World} (h1 : T w) (h2 : noneB late listed = false) : St T S late listed w := ⟨h1, fun h => by rw [h2] at h; cases h⟩
/-- Whatever order is picked from here on. -/
def wpAnyE (P : Program) (md : Region.Mode) (ops : Array Oper) (Q : Exit → Act → World → Prop) (T S : World → Prop) (late : List Nat) : Nat → Array Bool → Act → World → Prop
  | 0, listed, a, w => Region.ready md ops listed = [] ∧ Q .normal a w
  | fuel + 1, listed, a, w =>
    (Region.ready md ops listed = [] → Q .normal a w) ∧
    ∀ i ∈ Region.ready md ops listed, wpOp P ops Q i (fun a' w' => St T S late (listed.setIfInBounds i true) w' ∧ wpAnyE P md ops Q T S late fuel (listed.setIfInBounds i true) a' w') a w
theorem wpAny_of_E : ∀ (fuel : Nat) (listed : Array Bool) (a : Act) (w : World), wpAnyE P md ops Q T S late fuel listed a w → wpAny P md ops Q fuel listed a w
  | 0, _, _, _, h => h
  | fuel + 1, _, _, _, h => ⟨h.1, fun i hi => wpOp_mono (fun a' w' h' => wpAny_of_E fuel _ a' w' h'.2) (h.2 i hi)⟩
/-- The late ones wait: for i, or for one another. -/
def lateB (md : Region.Mode) (ops : Array Oper) (late : List Nat) (i : Nat) : Bool :=
  late.all fun j => match ops[j]? with
    | some oj => oj.after.any (fun e => Region.binds md e && (e.on == i || late.contains e.on))
    | none => true
theorem early {i j : Nat} {listed : Array Bool} (hl : lateB md ops late i = true) (hn : noneB late listed = true) (hi : listed.getD i true = false) (hj : j ∈ Region.ready md ops listed) : late.contains j = false := by
  cases hc : late.contains j
  · rfl
  · exfalso
    unfold lateB at hl
    simp only [List.all_eq_true] at hl
    obtain ⟨_, oj, hoj, hall⟩ := mem_ready.1 hj
    have h1 := hl j (by simpa using hc)
    rw [hoj] at h1
    obtain ⟨e, he, hb⟩ := Array.any_eq_true'.1 h1
    simp only [Bool.and_eq_true, Bool.or_eq_true, beq_iff_eq] at hb
    have h2 := hall e he hb.1
    rcases hb.2 with q | q
    · rw [q] at h2
      rcases Nat.lt_or_ge i listed.size with h' | h'
      · simp [h'] at h2 hi; rw [hi] at h2; cases h2
      · simp [Array.getElem?_eq_none h'] at h2
    · unfold noneB at hn
      rw [List.all_eq_true] at hn
      have := hn e.on (by simpa using q)
      rcases Nat.lt_or_ge e.on listed.size with h' | h'
      · simp [h'] at h2 this; rw [h2] at this; cases this
      · simp [Array.getElem?_eq_none h'] at h2
theorem none_set {j : Nat} {listed : Array Bool} (hn : noneB late listed = true) (hc : late.contains j = false) : noneB late (listed.setIfInBounds j true) = true := by
  unfold noneB at *
  rw [List.all_eq_true] at *
  intro k hk
  have hne : j ≠ k := by
    rintro rfl
    have : late.contains j = true := by simpa using hk
    rw [this] at hc
    cases hc
  rw [getD_set_ne true hne]
  exact hn k hk
theorem none_less {j : Nat} {listed : Array Bool} (hn : noneB late (listed.setIfInBounds j true) = true) : noneB late listed = true := by
  unfold noneB at *
  rw [List.all_eq_true] at *
  intro k hk
  have := hn k hk
  cases hg : listed.getD k true
  · rfl
  · by_cases hjk : j = k
    · subst hjk
      rcases Nat.lt_or_ge j listed.size with h' | h'
      · rw [Array.getD_eq_getD_getElem?, Array.getElem?_setIfInBounds_self_of_lt h'] at this
        cases this
      · rw [Array.setIfInBounds_eq_of_size_le h', hg] at this
        cases this
    · rw [getD_set_ne true hjk, hg] at this
      cases this
/-- What is asked where i is taken first: with b, S may be used. -/
def okE (md : Region.Mode) (ops : Array Oper) (late : List Nat) (listed : Array Bool) (i : Nat) (b : Bool) : Bool := !b || (lateB md ops late i && noneB late listed)
def SS (T S : World → Prop) (b : Bool) (w : World) : Prop := T w ∧ (b = true → S w)
theorem wpAnyE_first {i : Nat} {oi : Oper} {v : Value} (b : Bool) (hil : late.contains i = false) (hi : ops[i]? = some oi) (hsel : ∀ (j : Nat) (o : Oper) cs b, ops[j]? = some o → o.op ≠ .select cs b)
    (hQ : ∀ c a w, Q (.panic c) (a.put oi.dst v) w → Q (.panic c) a w) :
    ∀ (fuel : Nat) (listed : Array Bool) (a : Act) (w : World),
      (∀ j oj, ops[j]? = some oj → j ≠ i → listed.getD j true = false → (∀ e ∈ oj.after, Region.binds md e = true → e.on ≠ i) → oi.apart ops oj = true) →
      (b = true → lateB md ops late i = true ∧ noneB late listed = true) → i ∈ Region.ready md ops listed → YieldsIf P ops (SS T S b) oi v a → St T S late listed w →
      wpAnyE P md ops Q T S late fuel (listed.setIfInBounds i true) (a.put oi.dst v) w → wpAnyE P md ops Q T S late (fuel + 1) listed a w := by
  intro fuel
  induction fuel with
  | zero =>
    intro listed a w _ hb hr hy hS H
    refine ⟨fun h => (by rw [h] at hr; cases hr), fun j hj => ?_⟩
    by_cases hji : j = i
    · subst hji; exact hy.wpOp hi ⟨hS.1, fun q => hS.2 (hb q).2⟩ ⟨⟨hS.1, fun q => hS.2 (none_less q)⟩, H⟩
    · have := ready_mono hj hji
      rw [H.1] at this
      cases this
  | succ fuel ih =>
    intro listed a w hfree hb hr hy hS H
    refine ⟨fun h => (by rw [h] at hr; cases hr), fun j hj => ?_⟩
    by_cases hji : j = i
    · subst hji; exact hy.wpOp hi ⟨hS.1, fun q => hS.2 (hb q).2⟩ ⟨⟨hS.1, fun q => hS.2 (none_less q)⟩, H⟩
    · have h1 := H.2 j (ready_mono hj hji)
      obtain ⟨hjun, oj, hoj, hall⟩ := mem_ready.1 hj
      have hiu := (mem_ready.1 hr).1
      have hnot : ∀ e ∈ oj.after, Region.binds md e = true → e.on ≠ i := fun e he hb heq => by
        have h1 := hall e he hb
        have h0 := hiu
        rw [heq] at h1
        rcases Nat.lt_or_ge i listed.size with h' | h'
        · simp [h'] at h0 h1; rw [h0] at h1; cases h1
        · simp [Array.getElem?_eq_none h'] at h1
      have h2 := wpOp_putIf hoj (hfree j oj hoj hji hjun hnot) (fun cs b => hsel i oi cs b hi) (fun cs b => hsel j oj cs b hoj) hQ hy h1
      have hfree' : ∀ k ok, ops[k]? = some ok → k ≠ i → (listed.setIfInBounds j true).getD k true = false →
          (∀ e ∈ ok.after, Region.binds md e = true → e.on ≠ i) → oi.apart ops ok = true := fun k ok hk hki hun hno => by
        refine hfree k ok hk hki ?_ hno
        by_cases hjk : j = k
        · subst hjk; exact hjun
        · rw [getD_set_ne true hjk] at hun; exact hun
      refine wpOp_mono (fun a' w' h3 => ?_) h2
      have h4 : St T S late (listed.setIfInBounds j true) w' := ⟨h3.2.1.1, fun q => h3.2.1.2 (by
        rw [Array.setIfInBounds_comm _ _ (Ne.symm hji)]
        exact none_set q hil)⟩
      refine ⟨h4, ih (listed.setIfInBounds j true) a' w' hfree' (fun q => ⟨(hb q).1, none_set (hb q).2 (early (hb q).1 (hb q).2 hiu hj)⟩) (ready_mono hr (Ne.symm hji)) h3.1 h4 ?_⟩
      rw [Array.setIfInBounds_comm _ _ hji]
      exact h3.2.2
def opAt (ops : Array Oper) (i : Nat) : Option (Option Tmp × Op) := (ops[i]?).map fun o => (o.dst, o.op)
def wantAt (ops : Array Oper) (i : Nat) (a : Act) : Option Bool := (ops[i]?).map fun o => Region.wanted o (yielded ops a.tmps)
/-- All that is asked of a region where number i is taken first. -/
def checkE (md : Region.Mode) (ops : Array Oper) (late : List Nat) (listed : Array Bool) (i : Nat) (b : Bool) : Bool :=
  Region.noSelect ops && (Region.free md ops listed i && ((Region.ready md ops listed).contains i && (!late.contains i && (!b || (lateB md ops late i && noneB late listed)))))
theorem opAt_inv {i : Nat} {d : Option Tmp} {op : Op} (h : opAt ops i = some (d, op)) : ∃ o, ops[i]? = some o ∧ o.dst = d ∧ o.op = op := by
  unfold opAt at h
  cases e : ops[i]? with
  | none => rw [e] at h; cases h
  | some o =>
    rw [e] at h
    injection h with h
    injection h with h1 h2
    exact ⟨o, rfl, h1, h2⟩
theorem wantAt_inv {i : Nat} {a : Act} {b : Bool} {o : Oper} (h : wantAt ops i a = some b) (ho : ops[i]? = some o) : Region.wanted o (yielded ops a.tmps) = b := by
  unfold wantAt at h
  rw [ho] at h
  injection h
section
variable {fuel : Nat} {listed : Array Bool} {a : Act} {w : World}
theorem wpAnyE_take (b : Bool) {i : Nat} {oi : Oper} {v : Value} (hi : ops[i]? = some oi) (hc : checkE md ops late listed i b = true) (hQ : ∀ c a w, Q (.panic c) (a.put oi.dst v) w → Q (.panic c) a w) (hy : YieldsIf P ops (SS T S b) oi v a) (hS : St T S late listed w)
    (h : wpAnyE P md ops Q T S late fuel (listed.setIfInBounds i true) (a.put oi.dst v) w) : wpAnyE P md ops Q T S late (fuel + 1) listed a w := by
  unfold checkE at hc
  simp only [Bool.and_eq_true, Bool.or_eq_true, Bool.not_eq_true'] at hc
  obtain ⟨h1, h2, h3, h4, h5⟩ := hc
  exact wpAnyE_first b h4 hi (Region.noSelect_spec h1) hQ fuel listed a w (Region.free_spec hi h2) (fun q => by
    rcases h5 with h5 | h5
    · rw [q] at h5; cases h5
    · exact h5) (by simpa using h3) hy hS h
/-- Number i is taken first. -/
theorem E_any (b : Bool) (i : Nat) (d : Option Tmp) (op : Op) (v : Value) (ho : opAt ops i = some (d, op)) (hc : checkE md ops late listed i b = true) (hw : wantAt ops i a = some true) (hQ : ∀ c a w, Q (.panic c) (a.put d v) w → Q (.panic c) a w)
    (hy : ∀ o : Oper, o.op = op → ∀ w, SS T S b w → (execOp a.eval o).run P w = .ok (.value v) w) (hS : St T S late listed w) (h : wpAnyE P md ops Q T S late fuel (listed.setIfInBounds i true) (a.put d v) w) : wpAnyE P md ops Q T S late (fuel + 1) listed a w := by
  obtain ⟨o, h1, h2, h3⟩ := opAt_inv ho
  subst h2
  exact wpAnyE_take b h1 hc hQ (.inl ⟨wantAt_inv hw h1, hy o h3⟩) hS h
/-- One that is not wanted. -/
theorem E_not (i : Nat) (d : Option Tmp) (op : Op) (ho : opAt ops i = some (d, op)) (hc : checkE md ops late listed i false = true) (hw : wantAt ops i a = some false) (hQ : ∀ c a w, Q (.panic c) (a.put d undef) w → Q (.panic c) a w)
    (hS : St T S late listed w) (h : wpAnyE P md ops Q T S late fuel (listed.setIfInBounds i true) (a.put d undef) w) : wpAnyE P md ops Q T S late (fuel + 1) listed a w := by
  obtain ⟨o, h1, h2, h3⟩ := opAt_inv ho
  subst h2
  exact wpAnyE_take false h1 hc hQ (.inr ⟨wantAt_inv hw h1, rfl⟩) hS h
theorem E_move (i : Nat) (d : Option Tmp) (x : Operand) (v : Value) (ho : opAt ops i = some (d, .move x)) (hc : checkE md ops late listed i false = true) (hw : wantAt ops i a = some true) (hQ : ∀ c a w, Q (.panic c) (a.put d v) w → Q (.panic c) a w)
    (hx : a.eval x = v) (hS : St T S late listed w) (h : wpAnyE P md ops Q T S late fuel (listed.setIfInBounds i true) (a.put d v) w) : wpAnyE P md ops Q T S late (fuel + 1) listed a w :=
  E_any false i d _ v ho hc hw hQ (fun o e w _ => by rw [BigFrame.run_move x e, hx]) hS h
theorem E_pick (i : Nat) (d : Option Tmp) (c x y : Operand) (b : Bool) (v : Value) (ho : opAt ops i = some (d, .pick c x y)) (hc : checkE md ops late listed i false = true) (hw : wantAt ops i a = some true) (hQ : ∀ c a w, Q (.panic c) (a.put d v) w → Q (.panic c) a w)
    (hb : a.eval c = .bool b) (hv : (if b then a.eval x else a.eval y) = v) (hS : St T S late listed w) (h : wpAnyE P md ops Q T S late fuel (listed.setIfInBounds i true) (a.put d v) w) : wpAnyE P md ops Q T S late (fuel + 1) listed a w :=
  E_any false i d _ v ho hc hw hQ (fun o e w _ => by
    unfold execOp
    subst hv
    cases b <;> simp [e, hb, asBool]) hS h
/-- nil check of a pointer. -/
theorem E_nil (i : Nat) (d : Option Tmp) (x : Operand) (ad : Addr) (ho : opAt ops i = some (d, .nilCheck x)) (hc : checkE md ops late listed i false = true) (hw : wantAt ops i a = some true) (hQ : ∀ c a w, Q (.panic c) (a.put d (.pointer (some ad))) w → Q (.panic c) a w)
    (hx : a.eval x = .pointer (some ad)) (hS : St T S late listed w) (h : wpAnyE P md ops Q T S late fuel (listed.setIfInBounds i true) (a.put d (.pointer (some ad))) w) : wpAnyE P md ops Q T S late (fuel + 1) listed a w :=
  E_any false i d _ _ ho hc hw hQ (fun o e w _ => by unfold execOp; simp [e, hx]) hS h
/-- One operation that comes up. -/
def StepE (P : Program) (md : Region.Mode) (ops : Array Oper) (Q : Exit → Act → World → Prop) (T S : World → Prop) (late : List Nat) (fuel : Nat) (listed : Array Bool) (a : Act) (w : World) (i : Nat) : Prop :=
  wpOp P ops Q i (fun a' w' => St T S late (listed.setIfInBounds i true) w' ∧ wpAnyE P md ops Q T S late fuel (listed.setIfInBounds i true) a' w') a w
theorem E_one (i : Nat) (hr : Region.ready md ops listed = [i]) (h : StepE P md ops Q T S late fuel listed a w i) : wpAnyE P md ops Q T S late (fuel + 1) listed a w :=
  ⟨fun h0 => (by rw [hr] at h0; cases h0), fun j hj => (by rw [hr] at hj; simp at hj; subst hj; exact h)⟩
theorem E_two (i j : Nat) (hr : Region.ready md ops listed = [i, j]) (h : StepE P md ops Q T S late fuel listed a w i) (h2 : StepE P md ops Q T S late fuel listed a w j) : wpAnyE P md ops Q T S late (fuel + 1) listed a w :=
  ⟨fun h0 => (by rw [hr] at h0; cases h0), fun k hk => (by
    rw [hr] at hk
    simp at hk
    rcases hk with rfl | rfl
    · exact h
    · exact h2)⟩
theorem StepE.of (i : Nat) (d : Option Tmp) (op : Op) (ho : opAt ops i = some (d, op)) (hw : wantAt ops i a = some true)
    (h : ∀ (o : Oper) (K : Act → World → Prop), o.dst = d → o.op = op → (∀ a w, St T S late (listed.setIfInBounds i true) w → wpAnyE P md ops Q T S late fuel (listed.setIfInBounds i true) a w → K a w) → Oper.wp P o a w K Q) : StepE P md ops Q T S late fuel listed a w i := by
  obtain ⟨o, h1, h2, h3⟩ := opAt_inv ho
  exact wpOp_step h1 fun K hK => by
    rw [if_pos (wantAt_inv hw h1)]
    exact h o K h2 h3 fun a w hS hW => hK a w ⟨hS, hW⟩
theorem StepE.run (i : Nat) (d : Option Tmp) (op : Op) (v : Value) (w1 : World) (ho : opAt ops i = some (d, op)) (hw : wantAt ops i a = some true) (hy : ∀ o : Oper, o.op = op → (execOp a.eval o).run P w = .ok (.value v) w1)
    (hS : St T S late (listed.setIfInBounds i true) w1) (h : wpAnyE P md ops Q T S late fuel (listed.setIfInBounds i true) (a.put d v) w1) : StepE P md ops Q T S late fuel listed a w i :=
  StepE.of i d op ho hw fun o K h2 h3 hK => by
    unfold Oper.wp
    rw [hy o h3, Oper.upon_value, h2]
    exact hK _ _ hS h
theorem StepE.skip (i : Nat) (op : Op) (w1 : World) (ho : opAt ops i = some (none, op)) (hw : wantAt ops i a = some true) (hy : ∀ o : Oper, o.op = op → (execOp a.eval o).run P w = .ok .skip w1)
    (hS : St T S late (listed.setIfInBounds i true) w1) (h : wpAnyE P md ops Q T S late fuel (listed.setIfInBounds i true) (a.put none undef) w1) : StepE P md ops Q T S late fuel listed a w i :=
  StepE.of i none op ho hw fun o K h2 h3 hK => by
    unfold Oper.wp
    rw [hy o h3, Oper.upon_skip, h2]
    exact hK _ _ hS h
theorem StepE.assign (i : Nat) (d : Option Tmp) (x : Operand) (v : Value) (ho : opAt ops i = some (d, .assign x)) (hw : wantAt ops i a = some true) (hx : a.eval x = v)
    (hS : St T S late (listed.setIfInBounds i true) w) (h : wpAnyE P md ops Q T S late fuel (listed.setIfInBounds i true) (a.put d v) w) : StepE P md ops Q T S late fuel listed a w i :=
  StepE.run i d _ v w ho hw (fun o e => by rw [BigFrame.run_assign x e, hx]) hS h
end
theorem wpAnyE_done {listed : Array Bool} {a : Act} {w : World} (hr : Region.ready md ops listed = []) (h : Q .normal a w) : ∀ fuel, wpAnyE P md ops Q T S late fuel listed a w
  | 0 => ⟨hr, h⟩
  | _ + 1 => ⟨fun _ => h, by rw [hr]; simp⟩
/-- The beginning. -/
theorem wp_region_E (T S : World → Prop) (late : List Nat) {id : Nat} {a : Act} {w : World} (hm : P.follows .mixedOrders = true)
    (h : wpAnyE P .any ops Q T S late ops.size (Array.replicate ops.size false) a w.drew) : (Code.region id ops true).wp P Q a w :=
  wp_region_any hm (wpAny_of_E _ _ _ _ h)
end
end Go.Proofs.Ytepagfkkjlbipaa
end
