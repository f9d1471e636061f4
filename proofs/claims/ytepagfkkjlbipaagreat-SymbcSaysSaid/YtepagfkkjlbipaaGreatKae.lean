/-
  A pool in memory: its terms, their depths, its two maps; what changes of it changes alone. Conditions: those written in each statement.
  Contracts: bits.Width, New, has, Len, Get, Deep, Wide. Conditions: those written in each statement.
  norm in plain words: what its functions make of a pool. Conditions: those written in each statement.
  What stands while a pool is written: its parts one by one. Conditions: those written in each statement.
-/
import Derived.Test.YtepagfkkjlbipaaGreatProg
import Derived.Test.YtepagfkkjlbipaaGreatTv
import Derived.Test.YtepagfkkjlbipaaGreatKaa
import Derived.Test.YtepagfkkjlbipaaGreatKab
import Derived.Test.YtepagfkkjlbipaaGreatKab
import Derived.Test.YtepagfkkjlbipaaGreatKaa
import Derived.Test.YtepagfkkjlbipaaGreatKad
import Derived.Test.YtepagfkkjlbipaaGreatKac
import Derived.Laws.Tables
section
namespace Go.Proofs.YtepagfkkjlbipaaGreat
open Go.RowKit
set_option linter.unusedVariables false
set_option linter.unusedSimpArgs false
open Go.Maps (Keyed)
/-- All but some blocks is as it was. -/
structure Chg (F : Nat → Prop) (w w' : World) : Prop where
 os : w'.os = w.os
 tape : w'.tape = w.tape
 output : w'.output = w.output
 size : w.heap.size ≤ w'.heap.size
 block : ∀ k, k < w.heap.size → ¬ F k → w'.heap[k]? = w.heap[k]?
section
variable {F G : Nat → Prop} {w w' w'' : World}
theorem Chg.refl (F : Nat → Prop) (w : World) : Chg F w w := ⟨rfl, rfl, rfl, Nat.le_refl _, fun _ _ _ => rfl⟩
theorem Chg.trans (h : Chg F w w') (k : Chg G w' w'') (hG : ∀ b, G b → F b ∨ w.heap.size ≤ b) : Chg F w w'' :=
 ⟨k.os.trans h.os, k.tape.trans h.tape, k.output.trans h.output, Nat.le_trans h.size k.size, fun i hi hF => (k.block i (Nat.lt_of_lt_of_le hi h.size) (fun q => (hG i q).elim hF (fun e => by omega))).trans (h.block i hi hF)⟩
theorem Chg.of_grown {row : Option Nat} (h : w.grownBy w' row) (hr : ∀ g, row = some g → F g ∨ w.heap.size ≤ g) : Chg F w w' :=
 ⟨h.os, h.tape, h.output, h.size, fun i hi hF => h.block i hi (fun e => (hr i e.symm).elim hF (fun q => by omega))⟩
theorem Chg.of_below (h : Below w.heap.size w w') : Chg F w w' := ⟨h.os, h.tape, h.output, h.size, fun i hi _ => h.block i hi⟩
theorem Chg.below {B : Nat} (h : Chg F w w') (hF : ∀ b, F b → B ≤ b) (hB : B ≤ w.heap.size) : Below B w w' :=
 ⟨h.os, h.tape, h.output, h.size, fun i hi => h.block i (by omega) (fun q => by have := hF i q; omega)⟩
theorem Chg.mono (h : Chg F w w') (hF : ∀ b, F b → G b ∨ w.heap.size ≤ b) : Chg G w w' := ⟨h.os, h.tape, h.output, h.size, fun i hi hn => h.block i hi (fun q => (hF i q).elim hn (fun e => by omega))⟩
theorem Chg.drewN (h : Chg F w w') (n : Nat) : Chg F w (w'.drewN n) := ⟨h.os, h.tape, h.output, h.size, h.block⟩
theorem Chg.drew (h : Chg F w w') : Chg F w w'.drew := ⟨h.os, h.tape, h.output, h.size, h.block⟩
theorem Chg.blk {g : Nat} {t : TypeId} {cs : Array Value} (h : Chg F w w') (hb : Blk w g t cs) (hg : ¬ F g) : Blk w' g t cs := (h.block g hb.lt hg).trans hb
theorem own_block {base : Nat} {e : TypeId} {size n : Nat} {v : Value} {xs : List Value} (h : w.ownsRow base e size v n xs) (hb : ∀ g, v.ownBlock = some g → w'.heap[g]? = w.heap[g]?) : w'.ownsRow base e size v n xs := by
 refine ⟨h.1, ?_⟩
 rcases h.2 with h | ⟨g, cap, cur, h1, h2, h3, h4⟩
 ·exact .inl h
 ·exact .inr ⟨g, cap, cur, h1, h2, by rw [hb g (by rw [h1]; rfl)]; exact h3, h4⟩
theorem own_ge {base : Nat} {e : TypeId} {size n : Nat} {v : Value} {xs : List Value} (h : w.ownsRow base e size v n xs) : ∀ g, v.ownBlock = some g → base ≤ g ∧ g < w.heap.size := (RowL.of_own h).ge
theorem Chg.own {base : Nat} {e : TypeId} {size n : Nat} {v : Value} {xs : List Value} (h : Chg F w w') (ho : w.ownsRow base e size v n xs) (hg : ∀ g, v.ownBlock = some g → ¬ F g) : w'.ownsRow base e size v n xs :=
 own_block ho fun g q => h.block g (own_ge ho g q).2 (hg g q)
theorem Chg.mapIs {κ : Type} {P : Program} {k : TypeId} {enc : κ → Value} {V : κ → Prop} {b n : Nat} {f : κ → Option Value} (h : Chg F w w') (hm : MapIs P k enc V w b n f) (hg : ¬ F b) : MapIs P k enc V w' b n f := hm.block_ (h.block b hm.lt hg)
theorem Chg.reads {B size n : Nat} {A : Option Addr} {xs : List Value} (h : Chg F w w') (hr : Reads w B size A n xs) (hB : B ≤ w.heap.size) (hF : ∀ b, F b → B ≤ b) : Reads w' B size A n xs :=
 hr.keep fun p hp => World.cell?_of_block (h.block p.block (by omega) (fun q => by have := hF _ q; omega))
end
/-! ### terms as keys -/
def TD.wf (x : TD) : Prop := I8 x.kind ∧ I8 x.op ∧ I8 x.w ∧ U64 x.n ∧ I64 x.a ∧ I64 x.b ∧ I64 x.c
theorem wf_u64 {x : Int} (h : U64 x) : (Lit.int .u64 x).wf = true := by unfold U64 at h; exact WalkArith.wf_u64 (by omega)
theorem TD.one (x : TD) : ∀ u ∈ x.cells, u.oneCell' = true := by
 intro v hv
 unfold TD.cells at hv
 simp only [List.mem_cons, List.not_mem_nil, or_false] at hv
 rcases hv with rfl | rfl | rfl | rfl | rfl | rfl | rfl <;> rfl
theorem TD.cells_inj {x y : TD} (h : x.cells = y.cells) : x = y := by
 unfold TD.cells at h
 simp only [List.cons.injEq, Value.int.injEq, true_and, and_true] at h
 obtain ⟨h0, h1, h2, h3, h4, h5, h6⟩ := h
 cases x
 cases y
 simp_all
def termV (x : TD) : Value := .agg x.cells.toArray
theorem termV_inj {x y : TD} (h : termV x = termV y) : x = y := by
 unfold termV at h
 injection h with h
 exact TD.cells_inj (by simpa using h)
theorem laidOut_ : laidOutB Tryz.prog = true := by kernel_rfl
theorem sizeT_ : Nat.ble 1 Tryz.prog.types.size = true := by kernel_rfl
theorem cells8 : Tryz.prog.cellsOf 30 = 1 := by kernel_rfl
theorem cells64 : Tryz.prog.cellsOf 3 = 1 := by kernel_rfl
theorem cellsU : Tryz.prog.cellsOf 31 = 1 := by kernel_rfl
theorem termK_reads (x : TD) (h : x.wf) : ∃ l, keyOf Tryz.prog 147 (termV x) = some l := by
 obtain ⟨h0, h1, h2, h3, h4, h5, h6⟩ := h
 refine keyOf_struct (cs := x.cells) Tryz.underlying147 (by kernel_rfl) (by show _ = 7; kernel_rfl) (by kernel_rfl) sizeT_ ?_
 intro f hf
 simp at hf
 rcases hf with rfl | rfl | rfl | rfl | rfl | rfl | rfl
 ·exact ⟨.i8, x.kind, Tryz.underlying30, cells8, rfl, wf_i8 h0⟩
 ·exact ⟨.i8, x.op, Tryz.underlying30, cells8, rfl, wf_i8 h1⟩
 ·exact ⟨.i8, x.w, Tryz.underlying30, cells8, rfl, wf_i8 h2⟩
 ·exact ⟨.u64, x.n, Tryz.underlying31, cellsU, rfl, wf_u64 h3⟩
 ·exact ⟨.i64, x.a, Tryz.underlying3, cells64, rfl, wf_i64 h4⟩
 ·exact ⟨.i64, x.b, Tryz.underlying3, cells64, rfl, wf_i64 h5⟩
 ·exact ⟨.i64, x.c, Tryz.underlying3, cells64, rfl, wf_i64 h6⟩
theorem termK : KeyEnc Tryz.prog 147 termV TD.wf where
 keyed := Keyed.of_law (deep_law_gate laidOut_ (of_decide_eq_true (by kernel_rfl)) (of_decide_eq_true (by kernel_rfl)) (by kernel_rfl) (by kernel_rfl))
 reads := termK_reads
 inj := fun p q _ _ h => termV_inj h
theorem wordK : KeyEnc Tryz.prog 31 (Value.int .u64) U64 where
 keyed := Go.Maps.int_keyed Tryz.underlying31
 reads := fun x h => ⟨_, Go.Maps.keyOf_int_mk Tryz.underlying31 (wf_u64 h)⟩
 inj := fun p q _ _ h => by injection h
theorem numK : KeyEnc Tryz.prog 3 (Value.int .i64) I64 where
 keyed := Go.Maps.int_keyed Tryz.underlying3
 reads := fun x h => ⟨_, Go.Maps.keyOf_int_mk Tryz.underlying3 (wf_i64 h)⟩
 inj := fun p q _ _ h => by injection h
/-! ### the two maps' contents -/
def ofF (T : List TD) (x : TD) : Option Value := (atT T x).map fun i => .int .i64 (i : Nat)
def wdF (T : List TD) (n : Int) : Option Value := (wideF T n).map (Value.int .i8)
theorem ofF_put {T : List TD} {t : TD} (h : atT T t = none) (x : TD) : ofF (T ++ [t]) x = putF (ofF T) t (.int .i64 (T.length : Nat)) x := by
 unfold ofF putF atT at *
 rw [List.findIdx?_append]
 by_cases e : x = t
 ·subst e
  rw [if_pos rfl, h]
  simp
 ·rw [if_neg e]
  cases hx : T.findIdx? (fun y => decide (y = x)) with
  | some i => simp [hx]
  | none => simp [hx, List.findIdx?_cons, Ne.symm e]
theorem wdF_same {T : List TD} {t : TD} (h : t.kind ≠ 1) (x : Int) : wdF (T ++ [t]) x = wdF T x := by
 unfold wdF wideF
 rw [List.find?_append]
 have : varB x t = false := by unfold varB; simp [h]
 cases hx : T.find? (varB x) with
 | some i => rfl
 | none => simp [this, hx]
theorem wdF_put {T : List TD} {t : TD} (h : t.kind = 1) (hc : clashB T t = false) (x : Int) : wdF (T ++ [t]) x = putF (wdF T) t.n (.int .i8 t.w) x := by
 unfold wdF putF
 by_cases e : x = t.n
 ·subst e
  rw [if_pos rfl]
  cases hx : wideF T t.n with
  | some w =>
   rw [find_app (by rw [hx]; simp), hx]
   unfold clashB at hc
   rw [hx, h] at hc
   simp at hc
   rw [hc]
   rfl
  | none =>
   rw [wideF_new hx]
   have : varB t.n t = true := by unfold varB; simp [h]
   rw [this]
   rfl
 ·rw [if_neg e]
  unfold wideF
  rw [List.find?_append]
  have : varB x t = false := by unfold varB; simp [Ne.symm e]
  cases hx : T.find? (varB x) with
  | some i => simp [hx]
  | none => simp [this, hx]
/-- A pool lies at block g; F: the blocks that are its own. -/
structure PoolAt (w : World) (base : Nat) (F : Nat → Prop) (g : Nat) (p : PS) : Prop where
 ex : ∃ ls ds o v, Blk w g 102 #[ls, ds, .map (some o), .map (some v)] ∧ w.ownsRow base 147 7 ls p.T.length (p.T.flatMap TD.cells) ∧ w.ownsRow base 3 1 ds p.T.length (p.D.map (Value.int .i64)) ∧
  MapIs Tryz.prog 147 termV TD.wf w o p.T.length (ofF p.T) ∧ MapIs Tryz.prog 31 (Value.int .u64) U64 w v p.T.length (wdF p.T) ∧ Stamped w o ∧ o ≠ v ∧ F g ∧ F o ∧ F v ∧ (∀ b, ls.ownBlock = some b → F b) ∧ (∀ b, ds.ownBlock = some b → F b)
 wf : WfP p
 rng : ∀ t ∈ p.T, t.wf
 fb : ∀ b, F b → base ≤ b ∧ b < w.heap.size
section
variable {w w' : World} {base g : Nat} {F G : Nat → Prop} {p : PS}
theorem PoolAt.chg (h : PoolAt w base F g p) (hc : Chg G w w') (hd : ∀ b, F b → ¬ G b) : PoolAt w' base F g p := by
 obtain ⟨ls, ds, o, v, h1, h2, h3, h4, h5, h6, hov, f1, f2, f3, f4, f5⟩ := h.ex
 exact ⟨⟨ls, ds, o, v, hc.blk h1 (hd _ f1), hc.own h2 (fun b q => hd _ (f4 b q)), hc.own h3 (fun b q => hd _ (f5 b q)), hc.mapIs h4 (hd _ f2), hc.mapIs h5 (hd _ f3), h6.block_ (hc.block o h4.lt (hd _ f2)), hov, f1, f2, f3, f4, f5⟩, h.wf, h.rng, fun b q => ⟨(h.fb b q).1, Nat.lt_of_lt_of_le (h.fb b q).2 hc.size⟩⟩
theorem PoolAt.below (h : PoolAt w base F g p) (hb : Below w.heap.size w w') : PoolAt w' base F g p := h.chg (G := fun _ => False) (.of_below hb) (fun _ _ q => q)
/-- What a pool reads as. -/
theorem PoolAt.view (h : PoolAt w base F g p) : ∃ A c D d, w.cell? ⟨g, 0, none⟩ = some (.slice A p.T.length c) ∧ p.T.length ≤ c ∧ Reads w w.heap.size 7 A p.T.length (p.T.flatMap TD.cells) ∧
  w.cell? ⟨g, 1, none⟩ = some (.slice D p.T.length d) ∧ p.T.length ≤ d ∧ Reads w w.heap.size 1 D p.T.length (p.D.map (Value.int .i64)) := by
 obtain ⟨ls, ds, o, v, h1, h2, h3, _⟩ := h.ex
 obtain ⟨A, c, rfl, h4, h5⟩ := (RowL.of_own h2).slice
 obtain ⟨D, d, rfl, h6, h7⟩ := (RowL.of_own h3).slice
 exact ⟨A, c, D, d, h1.cell 0, h4, h5, h1.cell 1, h6, h7⟩
theorem PoolAt.few (h : PoolAt w base F g p) : p.T.length ≤ 4000 := h.wf.few
/-- A term of it. -/
theorem PoolAt.at_ (h : PoolAt w base F g p) {k : Nat} (hk : k < p.T.length) : ∃ ad c dd d t x, w.cell? ⟨g, 0, none⟩ = some (.slice (some ad) p.T.length c) ∧ p.T.length ≤ c ∧ w.cell? ⟨g, 1, none⟩ = some (.slice (some dd) p.T.length d) ∧ p.T.length ≤ d ∧ ad.block < w.heap.size ∧ dd.block < w.heap.size ∧
  p.T[k]? = some t ∧ p.D[k]? = some x ∧ t.wf ∧ 1 ≤ x ∧ x ≤ 256 ∧ (∀ j u, t.cells[j]? = some u → w.cell? ((ad.add (k * 7)).add j) = some u) ∧ w.cell? (dd.add k) = some (.int .i64 x) := by
 obtain ⟨A, c, D, d, h1, h2, h3, h4, h5, h6⟩ := h.view
 obtain ⟨ad, rfl, hb, hc⟩ := h3.2 (by omega)
 obtain ⟨dd, u, rfl, hb2, hu, hc2⟩ := h6.at_ hk
 have hx : p.D[k]? = some (p.D[k]'(by rw [h.wf.len]; exact hk)) := List.getElem?_eq_getElem _
 have ht : p.T[k]? = some p.T[k] := List.getElem?_eq_getElem hk
 rw [List.getElem?_map, hx] at hu
 injection hu with hu
 subst hu
 have hl := h.wf.low _ (List.mem_of_getElem? hx)
 refine ⟨ad, c, dd, d, _, _, h1, h2, h4, h5, hb, hb2, ht, hx, h.rng _ (List.mem_of_getElem? ht), hl.1, hl.2, fun j u hu => ?_, hc2⟩
 rw [add_of_add]
 exact hc _ u (flat_at TD.cells 7 p.T (fun _ _ => rfl) k j _ u ht hu)
theorem PoolAt.drew (h : PoolAt w base F g p) : PoolAt w.drew base F g p := h.below ((Below.refl _ _).drew)
end
end Go.Proofs.YtepagfkkjlbipaaGreat
end
section
namespace Go.Proofs.YtepagfkkjlbipaaGreat
open Go.RowKit
set_option linter.unusedVariables false
set_option linter.unusedSimpArgs false
theorem width_any (x : Int) (w : World) : Calls Tryz.prog 137 #[.int .i8 x] w fun e w' => e = .returned (.bool (wdB x)) ∧ w = w' := by
 cases h8 : (x == 8)
 ·cases h16 : (x == 16)
  ·cases h32 : (x == 32)
   ·cases h64 : (x == 64)
    all_goals
     go_enter Tryz.func137, Tryz.ntmps137
     go_wp2
     go_ret
     exact ⟨by unfold wdB; simp [h8, h16, h32, h64], rfl⟩
   ·go_enter Tryz.func137, Tryz.ntmps137
    go_wp2
    go_ret
    exact ⟨by unfold wdB; simp [h8, h16, h32], rfl⟩
  ·go_enter Tryz.func137, Tryz.ntmps137
   go_wp2
   go_ret
   exact ⟨by unfold wdB; simp [h8, h16], rfl⟩
 ·go_enter Tryz.func137, Tryz.ntmps137
  go_wp2
  go_ret
  exact ⟨by unfold wdB; simp [h8], rfl⟩
section
variable {w : World} {base g : Nat} {F : Nat → Prop} {p : PS}
theorem has_any (k : Int) (h : PoolAt w base F g p) : Calls Tryz.prog 106 #[.pointer (some ⟨g, 0, none⟩), .int .i64 k] w fun e w' => e = .returned (.bool (hasB p.T k)) ∧ w = w' := by
 obtain ⟨A, c, D, d, h1, h2, _, h4, h5, _⟩ := h.view
 have hf := h.few
 obtain ⟨n, hn⟩ : ∃ n, p.T.length = n := ⟨_, rfl⟩
 have HB := hide (show hasB p.T k = (decide (0 ≤ k) && decide (k < (n : Int))) by unfold hasB; rw [hn])
 rw [hn] at h1 h2 hf
 clear hn h h4 h5
 cases hk : decide (0 ≤ k)
 ·have hk2 : decide (k < 0) = true := by simp at hk ⊢; omega
  go_enter Tryz.func106, Tryz.ntmps106
  go_wp2
  go_ret
  exact ⟨by rw [HB.out, hk]; rfl, rfl⟩
 ·go_enter Tryz.func106, Tryz.ntmps106
  go_wp2
  go_ret
  exact ⟨by rw [HB.out, hk]; rfl, rfl⟩
theorem len_any (h : PoolAt w base F g p) : Calls Tryz.prog 42 #[.pointer (some ⟨g, 0, none⟩)] w fun e w' => e = .returned (.int .i64 (p.T.length : Nat)) ∧ w = w' := by
 obtain ⟨A, c, D, d, h1, h2, _, h4, h5, _⟩ := h.view
 obtain ⟨n, hn⟩ : ∃ n, p.T.length = n := ⟨_, rfl⟩
 rw [hn] at h1 h2 ⊢
 clear hn h h4 h5
 go_enter Tryz.func42, Tryz.ntmps42
 go_wp2
 go_ret
 exact ⟨rfl, rfl⟩
/-- A term that is not there. -/
def zeroT : TD := ⟨0, 0, 0, 0, 0, 0, 0⟩
theorem get_none {k : Int} (h : PoolAt w base F g p) (hk : hasB p.T k = false) : Calls Tryz.prog 95 #[.pointer (some ⟨g, 0, none⟩), .int .i64 k] w fun e w' => e = .returned (.tuple #[termV zeroT, .int .i64 2]) ∧ Below w.heap.size w w' := by
 have H := hide h
 have HH := hide hk
 clear h hk
 go_enter Tryz.func95, Tryz.ntmps95
 go_wp2_with fail
 refine (has_any k (H.out.below ((Below.refl _ _).alloc (Nat.le_refl _) _))).mono ?_
 rintro e w' ⟨rfl, rfl⟩
 rw [HH.out]
 go_wp2
 exact bodyPost_ret (v := .tuple #[termV zeroT, .int .i64 2]) (by simp [results, Tryz.results95, go_sem, termV, zeroT, TD.cells]) rfl ⟨rfl, (Below.refl _ _).alloc (Nat.le_refl _) _⟩
end
theorem sizT : (Tryz.prog.info? 147).map (·.size) = some 7 := by kernel_rfl
abbrev TD.lit (t : TD) : List Value := [.int .i8 t.kind, .int .i8 t.op, .int .i8 t.w, .int .u64 t.n, .int .i64 t.a, .int .i64 t.b, .int .i64 t.c]
section
variable {w : World} {base g : Nat} {F : Nat → Prop} {p : PS}
theorem get_any {k : Nat} {t : TD} (h : PoolAt w base F g p) (ht : p.T[k]? = some t) : Calls Tryz.prog 95 #[.pointer (some ⟨g, 0, none⟩), .int .i64 k] w fun e w' => e = .returned (.tuple #[termV t, .int .i64 0]) ∧ Below w.heap.size w w' := by
 have hk : k < p.T.length := (List.getElem?_eq_some_iff.1 ht).1
 have H1 := h.below ((Below.refl _ _).alloc (Nat.le_refl _) (.cells #[.int .i8 0, .int .i8 0, .int .i8 0, .int .u64 0, .int .i64 0, .int .i64 0, .int .i64 0] 147))
 obtain ⟨ad, c, dd, d, t', x', h1, h2, _, _, _, _, ht', _, _, _, _, hc, _⟩ := H1.at_ hk
 obtain rfl : t = t' := by rw [ht] at ht'; exact Option.some.inj ht'
 have H := hide H1
 have hh : hasB p.T k = true := by unfold hasB; simp; exact hk
 have HH := hide hh
 have hf := h.few
 obtain ⟨n, hn⟩ : ∃ n, p.T.length = n := ⟨_, rfl⟩
 rw [hn] at h1 h2 hk hf
 have HC := hide hc
 clear hn h ht' ht hh H1 hc
 have hkd : k < c := by omega
 go_enter Tryz.func95, Tryz.ntmps95
 go_wp2_with fail
 refine (has_any k H.out).mono ?_
 rintro e w' ⟨rfl, rfl⟩
 rw [HH.out]
 go_wp2_with (first
  | (refine wpList_load_at rfl 147 (.tmp 21) rfl (ad.add (k * 7)) (by rfl) t.lit _ HC.out Tryz.underlying147 rfl sizT ?_)
  | fail)
 exact bodyPost_ret (v := .tuple #[termV t, .int .i64 0]) (by simp [results, Tryz.results95, go_sem, termV, TD.cells]) rfl ⟨rfl, ((Below.refl _ _).alloc (Nat.le_refl _) _)⟩
end
theorem build_pool (a b : Option Nat) (w : World) : (Instr.build 102 #[(2, .map a), (3, .map b)]).run Tryz.prog w = .ok (.agg #[.slice none 0 0, .slice none 0 0, .map a, .map b]) w := run_build w 102 _ _ (by kernel_rfl)
/-- A pool just made. -/
theorem pool_new (w : World) : PoolAt (((w.alloc (.map #[] 0)).alloc (.map #[] 0)).alloc (.cells #[.slice none 0 0, .slice none 0 0, .map (some w.heap.size), .map (some (w.heap.size + 1))] 102)) w.heap.size (fun b => w.heap.size ≤ b ∧ b < w.heap.size + 3) (w.heap.size + 2) ⟨[], []⟩ := by
 have e1 : (w.alloc (.map #[] 0)).heap.size = w.heap.size + 1 := by simp
 have e2 : ((w.alloc (.map #[] 0)).alloc (.map #[] 0)).heap.size = w.heap.size + 2 := by simp
 have m1 : MapIs Tryz.prog 147 termV TD.wf (w.alloc (.map #[] 0)) w.heap.size 0 (fun _ => none) := MapIs.new w
 have m2 : MapIs Tryz.prog 31 (Value.int .u64) U64 ((w.alloc (.map #[] 0)).alloc (.map #[] 0)) (w.heap.size + 1) 0 (fun _ => none) := by
  have := MapIs.new (P := Tryz.prog) (k := 31) (enc := Value.int .u64) (V := U64) (w.alloc (.map #[] 0))
  rw [e1] at this
  exact this
 have b3 := Blk.new ((w.alloc (.map #[] 0)).alloc (.map #[] 0)) 102 #[.slice none 0 0, .slice none 0 0, .map (some w.heap.size), .map (some (w.heap.size + 1))]
 rw [e2] at b3
 have s1 := Stamped.new w
 refine ⟨⟨.slice none 0 0, .slice none 0 0, w.heap.size, w.heap.size + 1, b3, ⟨rfl, .inl ⟨rfl, rfl⟩⟩, ⟨rfl, .inl ⟨rfl, rfl⟩⟩, (m1.alloc _).alloc _, m2.alloc _, ?_, by omega, ?_, ?_, ?_, ?_, ?_⟩, WfP.nil, by simp, fun b hb => by simp; omega⟩
 ·exact s1.block_ (by rw [Below.heap_alloc _ _ _ (by simp; omega), Below.heap_alloc _ _ _ (by simp)])
 ·omega
 ·omega
 ·omega
 ·intro b hb; simp [Value.ownBlock] at hb
 ·intro b hb; simp [Value.ownBlock] at hb
theorem new_any (w : World) : Calls Tryz.prog 11 #[] w fun e w' => ∃ g F, e = .returned (.pointer (some ⟨g, 0, none⟩)) ∧ PoolAt w' w.heap.size F g ⟨[], []⟩ ∧ Below w.heap.size w w' := by
 have hbd := fun (a b : Option Nat) (w : World) => build_pool a b w
 have hm1 : ∀ w : World, (Instr.makeMap 98 none).run Tryz.prog w = .ok (.map (some w.heap.size)) (w.alloc (.map #[] 0)) := fun _ => rfl
 have hm2 : ∀ w : World, (Instr.makeMap 99 none).run Tryz.prog w = .ok (.map (some w.heap.size)) (w.alloc (.map #[] 0)) := fun _ => rfl
 go_enter Tryz.func11, Tryz.ntmps11
 go_wp2
 go_ret
 refine ⟨w.heap.size + 2, _, ?_, pool_new w, (((Below.refl _ _).alloc (Nat.le_refl _) _).alloc (by simp) _).alloc (by simp; omega) _⟩
 rfl
end Go.Proofs.YtepagfkkjlbipaaGreat
end
section
namespace Go.Proofs.YtepagfkkjlbipaaGreat
set_option linter.unusedVariables false
set_option linter.unusedSimpArgs false
/-- A pool, a number, an error. -/
abbrev RS := PS × Int × Int
def putR (p : PS) (t : TD) : RS := (putP p t, (putN p t).1, (putN p t).2)
/-- The term at a number; one of noughts, if there is none. -/
def atP (T : List TD) (n : Int) : TD := if hasB T n = true then T.getD n.toNat zeroT else zeroT
def constT (n : Int) : TD := ⟨0, 0, 0, n, 0, 0, 0⟩
def cutV (w v : Int) : Int := if w = 8 then v % 256 else if w = 16 then v % 65536 else if w = 32 then v % 4294967296 else v
def longB (w : Int) : Bool := w == 32 || w == 64
def narrowP (T : List TD) (n w : Int) : Bool :=
 let t := atP T n
 if w = 64 ∨ t.kind = 4 then true
 else if t.kind = 0 then decide (t.n = cutV w t.n)
 else if t.kind = 3 ∨ t.kind = 1 then decide (t.w ≤ w)
 else decide (t.kind = 2 ∧ t.w = 32 ∧ w = 32)
def zextF : Nat → PS → Int → Int → Option RS
 | 0, _, _, _ => none
 | f + 1, p, w, a =>
  let t := atP p.T a
  if w = 64 then some (p, a, 0)
  else if t.kind = 0 then some (putR p (constT (cutV w t.n)))
  else if narrowP p.T a w = true then some (p, a, 0)
  else if t.kind = 3 then zextF f p w t.a
  else some (putR p ⟨3, 0, w, 0, a, 0, 0⟩)
def operandP (p : PS) (w a : Int) : RS :=
 let t := atP p.T a
 if t.kind = 0 then putR p (constT (cutV w t.n))
 else if w = 32 ∧ t.kind = 3 ∧ t.w = 32 then (p, t.a, 0)
 else (p, a, 0)
def bothP (p : PS) (w a b : Int) : PS × Int × Int × Int :=
 let r := operandP p w a
 if r.2.2 = 0 then let s := operandP r.1 w b; (s.1, r.2.1, s.2.1, s.2.2) else (r.1, r.2.1, 0, r.2.2)
end Go.Proofs.YtepagfkkjlbipaaGreat
end
section
namespace Go.Proofs.YtepagfkkjlbipaaGreat
open Go.RowKit
set_option linter.unusedVariables false
set_option linter.unusedSimpArgs false
section
variable {W : World} {b1 b2 s1 s2 n1 n2 m : Nat} {e1 e2 : TypeId} {v1 v2 : Value} {xs ys : List Value}
theorem own_own_ne (h : W.ownsRow b1 e1 s1 v1 n1 xs) (h2 : W.ownsRow b2 e2 s2 v2 n2 ys) (hne : e1 ≠ e2) {r : Nat} (h3 : v1.ownBlock = some r) : v2.ownBlock ≠ some r := by
 intro h4
 rcases h.2 with ⟨q, _⟩ | ⟨g, cap, cur, q1, _, q3, _⟩
 ·rw [q] at h3; simp [Value.ownBlock] at h3
 ·rcases h2.2 with ⟨q, _⟩ | ⟨g', cap', cur', r1, _, r3, _⟩
  ·rw [q] at h4; simp [Value.ownBlock] at h4
  ·rw [q1] at h3
   rw [r1] at h4
   simp [Value.ownBlock] at h3 h4
   rw [h3] at q3
   rw [h4, q3] at r3
   injection r3 with r3
   injection r3 with _ r3
   exact hne r3
theorem own_map_ne {κ : Type} {P : Program} {k : TypeId} {enc : κ → Value} {V : κ → Prop} {f : κ → Option Value} (h : W.ownsRow b1 e1 s1 v1 n1 xs) (h2 : MapIs P k enc V W b2 m f) : v1.ownBlock ≠ some b2 := by
 intro h3
 obtain ⟨es, c, h4, _⟩ := h2
 rcases h.2 with ⟨q, _⟩ | ⟨g, cap, cur, q1, _, q3, _⟩
 ·rw [q] at h3; simp [Value.ownBlock] at h3
 ·rw [q1] at h3
  simp [Value.ownBlock] at h3
  rw [h3, h4] at q3
  injection q3 with q3
  cases q3
theorem blk_map_ne {κ : Type} {P : Program} {k : TypeId} {enc : κ → Value} {V : κ → Prop} {f : κ → Option Value} {g : Nat} {t : TypeId} {cs : Array Value} (h : Blk W g t cs) (h2 : MapIs P k enc V W b2 m f) : g ≠ b2 := by
 rintro rfl
 obtain ⟨es, c, h4, _⟩ := h2
 unfold Blk at h
 rw [h] at h4
 injection h4 with h4
 cases h4
end
theorem reads_blk {W : World} {g : Nat} {e : TypeId} {xs : List Value} (h : Blk W g e xs.toArray) (n size : Nat) (hn : xs.length = n * size) : Reads W W.heap.size size (some ⟨g, 0, none⟩) n xs :=
 ⟨hn, fun _ => ⟨_, rfl, h.lt, blk_list h⟩⟩
/-- A pool's parts: its row's block g with x's and y's old headers a0, a1; the row x of terms, the row y of depths; the maps o (what it holds: fo), v. -/
structure RF (base g bt o v : Nat) (F : Nat → Prop) (p : PS) (t : TD) (w : World) (a0 a1 x y : Value) (nx ny m : Nat) (xs ys : List Value) (fo : TD → Option Value) (mw : Nat) (fw : Int → Option Value) (W : World) : Prop where
 box : Blk W bt 147 t.cells.toArray
 pool : Blk W g 102 #[a0, a1, .map (some o), .map (some v)]
 rx : W.ownsRow base 147 7 x nx xs
 ry : W.ownsRow base 3 1 y ny ys
 mo : MapIs Tryz.prog 147 termV TD.wf W o m fo
 mv : MapIs Tryz.prog 31 (Value.int .u64) U64 W v mw fw
 st : Stamped W o
 chg : Chg F w W
 ox : ∀ b, x.ownBlock = some b → F b ∨ w.heap.size < b
 oy : ∀ b, y.ownBlock = some b → F b ∨ w.heap.size < b
 fg : F g
 fo_ : F o
 fv : F v
 bt : bt = w.heap.size
 old : ∀ b, F b → b < w.heap.size
 ov : o ≠ v ∧ w.cell? ⟨g, 2, none⟩ = some (.map (some o)) ∧ w.cell? ⟨g, 3, none⟩ = some (.map (some v))
section
variable {base g bt o v nx ny m : Nat} {F : Nat → Prop} {p : PS} {t : TD} {w W V : World} {a0 a1 x y : Value} {xs ys : List Value} {fo : TD → Option Value} {mw : Nat} {fw : Int → Option Value}
theorem RF.lt (h : RF base g bt o v F p t w a0 a1 x y nx ny m xs ys fo mw fw W) : w.heap.size < W.heap.size := by have := h.box.lt; rw [h.bt] at this; exact this
theorem RF.step (h : RF base g bt o v F p t w a0 a1 x y nx ny m xs ys fo mw fw W) (hb : Below W.heap.size W V) : RF base g bt o v F p t w a0 a1 x y nx ny m xs ys fo mw fw V where
 box := h.box.below hb h.box.lt
 pool := h.pool.below hb h.pool.lt
 rx := own_block h.rx fun r q => hb.block r (own_ge h.rx r q).2
 ry := own_block h.ry fun r q => hb.block r (own_ge h.ry r q).2
 mo := h.mo.below hb h.mo.lt
 mv := h.mv.below hb h.mv.lt
 st := h.st.block_ (hb.block o h.mo.lt)
 chg := h.chg.trans (Chg.of_below (F := fun _ => False) hb) (fun _ q => q.elim)
 ox := h.ox
 oy := h.oy
 fg := h.fg
 fo_ := h.fo_
 fv := h.fv
 bt := h.bt
 old := h.old
 ov := h.ov
theorem RF.g_bt (h : RF base g bt o v F p t w a0 a1 x y nx ny m xs ys fo mw fw W) : g ≠ bt := by have := h.old g h.fg; rw [h.bt]; omega
/-- The row of terms has grown. -/
theorem RF.appx {x' : Value} {n' : Nat} {xs' : List Value} (h : RF base g bt o v F p t w a0 a1 x y nx ny m xs ys fo mw fw W) (hx : ∀ b, x.ownBlock = some b → F b) (hr : V.ownsRow base 147 7 x' n' xs') (hg : W.grownBy V x.ownBlock) (hb : x'.ownBlock = x.ownBlock ∨ x'.ownBlock = some W.heap.size) :
  RF base g bt o v F p t w a0 a1 x' y n' ny m xs' ys fo mw fw V where
 box := h.box.grown hg fun e => by have := h.old _ (hx _ e.symm); rw [h.bt] at this; omega
 pool := h.pool.grown hg fun e => own_blk_ne h.rx h.pool (by decide) e.symm
 rx := hr
 ry := own_block h.ry fun r q => hg.block r (own_ge h.ry r q).2 fun e => own_own_ne h.rx h.ry (by decide) e.symm q
 mo := h.mo.grown hg fun e => own_map_ne h.rx h.mo e.symm
 mv := h.mv.grown hg fun e => own_map_ne h.rx h.mv e.symm
 st := h.st.block_ (hg.block o h.mo.lt fun e => own_map_ne h.rx h.mo e.symm)
 chg := h.chg.trans (Chg.of_grown (F := F) hg fun r e => .inl (hx r e)) fun b q => .inl q
 ox := fun b q => by
  rcases hb with e | e
  ·rw [e] at q; exact h.ox b q
  ·rw [e] at q; injection q with q; have := h.lt; exact .inr (by omega)
 oy := h.oy
 fg := h.fg
 fo_ := h.fo_
 fv := h.fv
 bt := h.bt
 old := h.old
 ov := h.ov
/-- The row of depths has grown. -/
theorem RF.appy {y' : Value} {n' : Nat} {ys' : List Value} (h : RF base g bt o v F p t w a0 a1 x y nx ny m xs ys fo mw fw W) (hy : ∀ b, y.ownBlock = some b → F b) (hr : V.ownsRow base 3 1 y' n' ys') (hg : W.grownBy V y.ownBlock) (hb : y'.ownBlock = y.ownBlock ∨ y'.ownBlock = some W.heap.size) :
  RF base g bt o v F p t w a0 a1 x y' nx n' m xs ys' fo mw fw V where
 box := h.box.grown hg fun e => by have := h.old _ (hy _ e.symm); rw [h.bt] at this; omega
 pool := h.pool.grown hg fun e => own_blk_ne h.ry h.pool (by decide) e.symm
 rx := own_block h.rx fun r q => hg.block r (own_ge h.rx r q).2 fun e => own_own_ne h.ry h.rx (by decide) e.symm q
 ry := hr
 mo := h.mo.grown hg fun e => own_map_ne h.ry h.mo e.symm
 mv := h.mv.grown hg fun e => own_map_ne h.ry h.mv e.symm
 st := h.st.block_ (hg.block o h.mo.lt fun e => own_map_ne h.ry h.mo e.symm)
 chg := h.chg.trans (Chg.of_grown (F := F) hg fun r e => .inl (hy r e)) fun b q => .inl q
 ox := h.ox
 oy := fun b q => by
  rcases hb with e | e
  ·rw [e] at q; exact h.oy b q
  ·rw [e] at q; injection q with q; have := h.lt; exact .inr (by omega)
 fg := h.fg
 fo_ := h.fo_
 fv := h.fv
 bt := h.bt
 old := h.old
 ov := h.ov
/-- The pool's own block has been written. -/
theorem RF.set {b0 b1 : Value} (h : RF base g bt o v F p t w a0 a1 x y nx ny m xs ys fo mw fw W) (hB : Blk V g 102 #[b0, b1, .map (some o), .map (some v)]) (hg : W.grownBy V (some g)) : RF base g bt o v F p t w b0 b1 x y nx ny m xs ys fo mw fw V where
 box := h.box.grown hg fun e => by injection e with e; exact h.g_bt e.symm
 pool := hB
 rx := own_block h.rx fun r q => hg.block r (own_ge h.rx r q).2 fun e => by injection e with e; subst e; exact own_blk_ne h.rx h.pool (by decide) q
 ry := own_block h.ry fun r q => hg.block r (own_ge h.ry r q).2 fun e => by injection e with e; subst e; exact own_blk_ne h.ry h.pool (by decide) q
 mo := h.mo.grown hg fun e => by injection e with e; exact blk_map_ne h.pool h.mo e.symm
 mv := h.mv.grown hg fun e => by injection e with e; exact blk_map_ne h.pool h.mv e.symm
 st := h.st.block_ (hg.block o h.mo.lt fun e => by injection e with e; exact blk_map_ne h.pool h.mo e.symm)
 chg := h.chg.trans (Chg.of_grown (F := F) hg fun r e => by injection e with e; subst e; exact .inl h.fg) fun b q => .inl q
 ox := h.ox
 oy := h.oy
 fg := h.fg
 fo_ := h.fo_
 fv := h.fv
 bt := h.bt
 old := h.old
 ov := h.ov
/-- The map of terms has been written. -/
theorem RF.mapo {m' : Nat} {f' : TD → Option Value} (h : RF base g bt o v F p t w a0 a1 x y nx ny m xs ys fo mw fw W) (hm : MapIs Tryz.prog 147 termV TD.wf V o m' f') (hs : Stamped V o) (hg : W.grownBy V (some o)) : RF base g bt o v F p t w a0 a1 x y nx ny m' xs ys f' mw fw V where
 box := h.box.grown hg fun e => by injection e with e; exact blk_map_ne h.box h.mo e
 pool := h.pool.grown hg fun e => by injection e with e; exact blk_map_ne h.pool h.mo e
 rx := own_block h.rx fun r q => hg.block r (own_ge h.rx r q).2 fun e => by injection e with e; subst e; exact own_map_ne h.rx h.mo q
 ry := own_block h.ry fun r q => hg.block r (own_ge h.ry r q).2 fun e => by injection e with e; subst e; exact own_map_ne h.ry h.mo q
 mo := hm
 mv := h.mv.grown hg fun e => by injection e with e; exact h.ov.1 e.symm
 st := hs
 chg := h.chg.trans (Chg.of_grown (F := F) hg fun r e => by injection e with e; subst e; exact .inl h.fo_) fun b q => .inl q
 ox := h.ox
 oy := h.oy
 fg := h.fg
 fo_ := h.fo_
 fv := h.fv
 bt := h.bt
 old := h.old
 ov := h.ov
/-- The map of variables has been written. -/
theorem RF.mapv {m' : Nat} {f' : Int → Option Value} (h : RF base g bt o v F p t w a0 a1 x y nx ny m xs ys fo mw fw W) (hm : MapIs Tryz.prog 31 (Value.int .u64) U64 V v m' f') (hg : W.grownBy V (some v)) : RF base g bt o v F p t w a0 a1 x y nx ny m xs ys fo m' f' V where
 box := h.box.grown hg fun e => by injection e with e; exact blk_map_ne h.box h.mv e
 pool := h.pool.grown hg fun e => by injection e with e; exact blk_map_ne h.pool h.mv e
 rx := own_block h.rx fun r q => hg.block r (own_ge h.rx r q).2 fun e => by injection e with e; subst e; exact own_map_ne h.rx h.mv q
 ry := own_block h.ry fun r q => hg.block r (own_ge h.ry r q).2 fun e => by injection e with e; subst e; exact own_map_ne h.ry h.mv q
 mo := h.mo.grown hg fun e => by injection e with e; exact h.ov.1 e
 mv := hm
 st := h.st.block_ (hg.block o h.mo.lt fun e => by injection e with e; exact h.ov.1 e)
 chg := h.chg.trans (Chg.of_grown (F := F) hg fun r e => by injection e with e; subst e; exact .inl h.fv) fun b q => .inl q
 ox := h.ox
 oy := h.oy
 fg := h.fg
 fo_ := h.fo_
 fv := h.fv
 bt := h.bt
 old := h.old
 ov := h.ov
/-- The same map, told otherwise. -/
theorem RF.mapw {m' : Nat} {f f' : Int → Option Value} (h : RF base g bt o v F p t w a0 a1 x y nx ny m xs ys fo mw fw W) (hm : MapIs Tryz.prog 31 (Value.int .u64) U64 W v m' f) (hf : ∀ q, f' q = f q) : RF base g bt o v F p t w a0 a1 x y nx ny m xs ys fo m' f' W where
 box := h.box
 pool := h.pool
 rx := h.rx
 ry := h.ry
 mo := h.mo
 mv := hm.congr hf
 st := h.st
 chg := h.chg
 ox := h.ox
 oy := h.oy
 fg := h.fg
 fo_ := h.fo_
 fv := h.fv
 bt := h.bt
 old := h.old
 ov := h.ov
/-- All has been written: the pool with one term more. -/
theorem RF.fin {d : Int} (h : RF base g bt o v F p t w x y x y (p.T.length + 1) (p.T.length + 1) (p.T.length + 1) (p.T.flatMap TD.cells ++ t.cells) (p.D.map (Value.int .i64) ++ [.int .i64 d]) (putF (ofF p.T) t (.int .i64 (p.T.length : Nat))) (p.T.length + 1) (wdF (p.T ++ [t])) W)
  (hwf : WfP ⟨p.T ++ [t], p.D ++ [d]⟩) (hr : ∀ u ∈ p.T, u.wf) (ht : t.wf) (hn : atT p.T t = none) (hfb : ∀ b, F b → base ≤ b) (hbase : base ≤ w.heap.size) :
  PoolAt W base (fun b => F b ∨ (w.heap.size ≤ b ∧ b < W.heap.size)) g ⟨p.T ++ [t], p.D ++ [d]⟩ where
 ex := by
  refine ⟨x, y, o, v, h.pool, ?_, ?_, ?_, ?_, h.st, h.ov.1, .inl h.fg, .inl h.fo_, .inl h.fv, fun b q => ?_, fun b q => ?_⟩
  ·simpa using h.rx
  ·simpa using h.ry
  ·have := h.mo.congr (ofF_put hn)
   simpa using this
  ·simpa using h.mv
  ·have := (own_ge h.rx b q).2
   exact (h.ox b q).imp id fun e => ⟨by omega, this⟩
  ·have := (own_ge h.ry b q).2
   exact (h.oy b q).imp id fun e => ⟨by omega, this⟩
 wf := hwf
 rng := fun u hu => by
  rcases List.mem_append.1 hu with q | q
  ·exact hr u q
  ·simp at q; rw [q]; exact ht
 fb := fun b q => by
  rcases q with q | q
  ·have := h.old b q
   have := h.lt
   exact ⟨hfb b q, by omega⟩
  ·exact ⟨by omega, q.2⟩
end
end Go.Proofs.YtepagfkkjlbipaaGreat
end
