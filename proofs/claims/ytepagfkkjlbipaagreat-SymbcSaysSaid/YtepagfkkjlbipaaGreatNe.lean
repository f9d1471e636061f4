/-
  Contracts of norm's small functions: at, constant, is, Const, Var, there. Conditions: those written in each statement.
-/
import Derived.Test.YtepagfkkjlbipaaGreatKae
import Derived.Test.YtepagfkkjlbipaaGreatPu
import Derived.Test.YtepagfkkjlbipaaGreatKag
import Derived.Test.YtepagfkkjlbipaaGreatKac
import Derived.Laws.Tables
import Derived.BigQuiet
import Derived.Deep.QuietTactic
import Derived.Deep.CutBlock
import Derived.Deep.CutRange
namespace Go.Proofs.YtepagfkkjlbipaaGreat
open Go.RowKit
set_option linter.unusedVariables false
set_option linter.unusedSimpArgs false
set_option maxRecDepth 100000
/-- A pool behind some steps, its blocks those of before or new ones. -/
structure PG (base g : Nat) (F : Nat → Prop) (w : World) (F' : Nat → Prop) (p' : PS) (w' : World) : Prop where
 pool : PoolAt w' base F' g p'
 chg : Chg F w w'
 new : ∀ b, F' b → F b ∨ w.heap.size ≤ b
section
variable {base g : Nat} {F F1 F2 : Nat → Prop} {w w1 w2 : World} {p p1 p2 : PS}
theorem PG.refl (h : PoolAt w base F g p) : PG base g F w F p w := ⟨h, Chg.refl _ _, fun b q => .inl q⟩
theorem PG.trans (h : PG base g F w F1 p1 w1) (k : PG base g F1 w1 F2 p2 w2) : PG base g F w F2 p2 w2 :=
 ⟨k.pool, h.chg.trans k.chg h.new, fun b q => (k.new b q).elim (h.new b) (fun e => .inr (Nat.le_trans h.chg.size e))⟩
theorem PG.step (h : PG base g F w F1 p1 w1) (hb : Below w1.heap.size w1 w2) : PG base g F w F1 p1 w2 :=
 h.trans ⟨h.pool.below hb, Chg.of_below hb, fun b q => .inl q⟩
theorem PG.of_below (h : PoolAt w base F g p) (hb : Below w.heap.size w w1) : PG base g F w F p w1 := (PG.refl h).step hb
/-- A variable of the caller's, outside the pool, lies on. -/
theorem PG.blk (h : PG base g F w F1 p1 w1) {b : Nat} {t : TypeId} {cs : Array Value} (hb : Blk w b t cs) (hf : ¬ F b) : Blk w1 b t cs ∧ ¬ F1 b :=
 ⟨h.chg.blk hb hf, fun q => (h.new b q).elim hf (fun e => by have := hb.lt; omega)⟩
theorem PG.size (h : PG base g F w F1 p1 w1) : w.heap.size ≤ w1.heap.size := h.chg.size
end
/-- What a function that makes a term answers. -/
def RetP (base g : Nat) (F : Nat → Prop) (w : World) (r : RS) (e : Ending) (w' : World) : Prop :=
 e = .returned (.tuple #[.int .i64 r.2.1, .int .i64 r.2.2]) ∧ ∃ F', PG base g F w F' r.1 w'
section
variable {base g : Nat} {F F1 : Nat → Prop} {w w1 w2 : World} {p p1 : PS} {r : RS} {e : Ending}
theorem RetP.from (h : PG base g F w F1 p1 w1) (k : RetP base g F1 w1 r e w2) : RetP base g F w r e w2 := by
 obtain ⟨h1, F2, h2⟩ := k
 exact ⟨h1, F2, h.trans h2⟩
theorem RetP.same (h : PG base g F w F1 p1 w1) {n m : Int} : RetP base g F w (p1, n, m) (.returned (.tuple #[.int .i64 n, .int .i64 m])) w1 := ⟨rfl, F1, h⟩
theorem RetP.of_put {t : TD} (h : PutP base F g p t w e w1) : RetP base g F w (putR p t) e w1 := by
 obtain ⟨h1, F', h2, h3, h4⟩ := h
 exact ⟨h1, F', h2, h3, h4⟩
end
theorem put_r {base g : Nat} {F : Nat → Prop} {p : PS} (t : TD) (ht : t.wf) (w : World) (h : PoolAt w base F g p) (hbase : base ≤ w.heap.size) :
  Calls Tryz.prog 69 #[.pointer (some ⟨g, 0, none⟩), termV t] w (RetP base g F w (putR p t)) := (put_any t ht w h hbase).mono fun _ _ q => RetP.of_put q
theorem atP_no {T : List TD} {n : Int} (h : hasB T n = false) : atP T n = zeroT := by unfold atP; rw [h]; rfl
theorem atP_yes {T : List TD} {n : Int} (h : hasB T n = true) : ∃ k : Nat, n = (k : Int) ∧ T[k]? = some (atP T n) := by
 have h' := h
 unfold hasB at h
 simp at h
 refine ⟨n.toNat, by omega, ?_⟩
 unfold atP
 rw [if_pos h', List.getD_eq_getElem?_getD, List.getElem?_eq_getElem (by omega)]
 rfl
theorem zeroT_wf : zeroT.wf := by unfold TD.wf I8 U64 I64 zeroT; dsimp only; omega
theorem atP_wf {T : List TD} (hr : ∀ t ∈ T, t.wf) (n : Int) : (atP T n).wf := by
 cases h : hasB T n
 ·rw [atP_no h]; exact zeroT_wf
 ·obtain ⟨k, _, hk⟩ := atP_yes h
  exact hr _ (List.mem_of_getElem? hk)
section
variable {base g : Nat} {F : Nat → Prop} {p : PS}
/-- Get, whatever the number. -/
theorem get_at (k : Int) (w : World) (h : PoolAt w base F g p) : Calls Tryz.prog 95 #[.pointer (some ⟨g, 0, none⟩), .int .i64 k] w fun e w' => e = .returned (.tuple #[termV (atP p.T k), .int .i64 (if hasB p.T k = true then 0 else 2)]) ∧ Below w.heap.size w w' := by
 cases hk : hasB p.T k
 ·rw [atP_no hk]
  exact get_none h hk
 ·obtain ⟨j, rfl, hj⟩ := atP_yes hk
  exact get_any h hj
theorem at_any (k : Int) (w : World) (h : PoolAt w base F g p) : Calls Tryz.prog 130 #[.agg #[.pointer (some ⟨g, 0, none⟩)], .int .i64 k] w fun e w' => e = .returned (termV (atP p.T k)) ∧ Below w.heap.size w w' := by
 have hb0 : Below w.heap.size w ((w.alloc (.cells #[.pointer (some ⟨g, 0, none⟩)] 125)).alloc (.cells zeroT.cells.toArray 147)) := ((Below.refl _ w).alloc (Nat.le_refl _) _).alloc (by simp) _
 have N0 := Blk.new (w.alloc (.cells #[.pointer (some ⟨g, 0, none⟩)] 125)) 147 zeroT.cells.toArray
 simp only [World.size_alloc] at N0
 have HP := hide (h.below hb0)
 have HB := hide hb0
 have HN := hide N0
 have HW := hide (atP_wf h.rng k)
 clear h hb0 N0
 go_enter Tryz.func130, Tryz.ntmps130
 go_wp2_with fail
 refine (get_at k _ HP.out).mono ?_
 rintro e w1 ⟨rfl, hb⟩
 have HB1 := hide (HB.out.trans (hb.mono HB.out.size))
 have HN1 := hide (HN.out.below hb HN.out.lt)
 clear hb HP HB HN
 generalize (if hasB p.T k = true then (0 : Int) else 2) = er
 obtain ⟨t, ht⟩ : ∃ t, atP p.T k = t := ⟨_, rfl⟩
 rw [ht] at HW ⊢
 have HT := hide ht
 clear ht
 go_upto_region 2 with (first
  | (refine wpList_store_new rfl 147 (.tmp 5) (.tmp 12) rfl _ t.cells (termV t) (by rfl) (by rfl) rfl sizT rfl (TD.one _) ?_
     intro w5 G5 L5 Z5
     have HX := hide G5
     have HB2 := hide (HB1.out.trans (L5.mono HB1.out.size))
     have HN2 := hide (HN1.out.below L5 HN1.out.lt)
     clear G5 L5 Z5)
  | fail)
 go_wp2_with (first
  | (refine wpList_load_at rfl 147 (.tmp 5) rfl ⟨w1.heap.size, 0, none⟩ (by rfl) t.cells _ (blk_list HX.out) Tryz.underlying147 rfl sizT ?_)
  | (refine wpList_store_at rfl 147 (.tmp 4) (.tmp 14) rfl (w.heap.size + 1) 0 147 zeroT.cells t.cells (.agg t.cells.toArray) HN2.out (by rfl) (by rfl) rfl sizT (by simp [TD.cells]) (TD.one _) ?_
     intro w6 G6 L6 Z6
     have HY := hide G6
     have HB3 := hide (HB2.out.grown L6 HB2.out.size (fun b e => by injection e with e; omega))
     clear G6 L6 Z6)
  | fail)
 have e : overC zeroT.cells 0 t.cells = t.cells := by unfold overC; simp [TD.cells]
 have hrl := run_loadVar_at (P := Tryz.prog) w6 ⟨w.heap.size + 1, 0, none⟩ 147 t.cells _ (blk_list (by rw [← e]; exact HY.out)) Tryz.underlying147 rfl sizT
 exact bodyPost_ret (v := termV t) (by simp [results, Tryz.results130, Act.put, asAddr, Result.andThen, hrl, termV]) rfl ⟨by rw [HT.out], HB3.out⟩
theorem constant_any (k : Int) (w : World) (h : PoolAt w base F g p) : Calls Tryz.prog 113 #[.agg #[.pointer (some ⟨g, 0, none⟩)], .int .i64 k] w fun e w' => e = .returned (.tuple #[.int .u64 (atP p.T k).n, .bool ((atP p.T k).kind == 0)]) ∧ Below w.heap.size w w' := by
 obtain ⟨t, ht⟩ : ∃ t, atP p.T k = t := ⟨_, rfl⟩
 rw [ht]
 have HT := hide ht
 clear ht
 have hb0 : Below w.heap.size w (w.alloc (.cells #[.pointer (some ⟨g, 0, none⟩)] 125)) := (Below.refl _ w).alloc (Nat.le_refl _) _
 have HP := hide (h.below hb0)
 have HB := hide hb0
 clear h hb0
 go_enter Tryz.func113, Tryz.ntmps113
 go_wp2_with fail
 refine (at_any k _ HP.out).mono ?_
 rintro e w1 ⟨rfl, hb⟩
 have HB1 := hide (HB.out.trans (hb.mono HB.out.size))
 clear hb HP HB
 rw [HT.out]
 go_upto_region 2 with (first
  | (refine wpList_store_new rfl 147 (.tmp 6) (.tmp 9) rfl _ t.cells (termV t) (by rfl) (by rfl) rfl sizT rfl (TD.one _) ?_
     intro w5 G5 L5 Z5
     have HX := hide G5
     have HB2 := hide (HB1.out.trans (L5.mono HB1.out.size))
     clear G5 L5 Z5)
  | fail)
 have b0 := HX.out.cell 0
 have b3 := HX.out.cell 3
 simp [TD.cells] at b0 b3
 go_wp2_with fail
 go_quiet (fail)
 go_wp2
 go_ret2
 exact ⟨rfl, below_drewN HB2.out nq⟩
theorem constT_wf {n : Int} (h : U64 n) : (constT n).wf := by unfold TD.wf I8 I64 constT; dsimp only; exact ⟨by omega, by omega, by omega, h, by omega, by omega, by omega⟩
theorem build_const (n : Int) (w : World) : (Instr.build 147 #[(0, .int .i8 0), (3, .int .u64 n)]).run Tryz.prog w = .ok (termV (constT n)) w := run_build w 147 _ _ (by kernel_rfl)
theorem const_any (n : Int) (hn : U64 n) (w : World) (h : PoolAt w base F g p) (hbase : base ≤ w.heap.size) :
  Calls Tryz.prog 39 #[.pointer (some ⟨g, 0, none⟩), .int .u64 n] w (RetP base g F w (putR p (constT n))) := by
 have HP := hide h
 have HW := hide (constT_wf hn)
 have q := fun (w : World) => build_const n w
 clear h hn
 go_enter Tryz.func39, Tryz.ntmps39
 go_wp2_with fail
 refine (put_r _ HW.out _ HP.out hbase).mono ?_
 rintro e w1 ⟨rfl, hr⟩
 have HR := hide hr
 clear hr
 go_wp2
 go_ret2
 exact ⟨rfl, HR.out⟩
theorem const_nil (n : Int) (w : World) : Calls Tryz.prog 39 #[.pointer none, .int .u64 n] w fun e w' => e = .returned (.tuple #[.int .i64 0, .int .i64 1]) ∧ w = w' := by
 go_enter Tryz.func39, Tryz.ntmps39
 go_wp2
 go_ret2
 exact ⟨rfl, rfl⟩
def varT (n x : Int) : TD := ⟨1, 0, x, n, 0, 0, 0⟩
theorem varT_wf {n x : Int} (h : U64 n) (hx : I8 x) : (varT n x).wf := by unfold TD.wf I8 I64 varT; unfold I8 at hx; dsimp only; exact ⟨by omega, by omega, hx, h, by omega, by omega, by omega⟩
theorem build_var (n x : Int) (w : World) : (Instr.build 147 #[(0, .int .i8 1), (3, .int .u64 n), (2, .int .i8 x)]).run Tryz.prog w = .ok (termV (varT n x)) w := run_build w 147 _ _ (by kernel_rfl)
theorem var_nil (n x : Int) (w : World) : Calls Tryz.prog 36 #[.pointer none, .int .i64 n, .int .i8 x] w fun e w' => e = .returned (.tuple #[.int .i64 0, .int .i64 1]) ∧ w = w' := by
 go_enter Tryz.func36, Tryz.ntmps36
 go_wp2
 go_ret2
 exact ⟨rfl, rfl⟩
/-- Var of a number that is none less than nought. -/
theorem var_any (n x : Int) (h0 : 0 ≤ n) (h1 : n < 9223372036854775808) (hx : I8 x) (w : World) (h : PoolAt w base F g p) (hbase : base ≤ w.heap.size) :
  Calls Tryz.prog 36 #[.pointer (some ⟨g, 0, none⟩), .int .i64 n, .int .i8 x] w (RetP base g F w (putR p (varT n x))) := by
 have HP := hide h
 have HW := hide (varT_wf (n := n) (by unfold U64; omega) hx)
 have hwr : IntKind.u64.wrap n = n := by rw [IntKind.wrap_u64]; omega
 have q := fun (w : World) => build_var n x w
 have hd : decide (n < 0) = false := by simp; omega
 clear h hx
 go_enter Tryz.func36, Tryz.ntmps36
 go_wp2_with fail
 refine (put_r _ HW.out _ HP.out hbase).mono ?_
 rintro e w1 ⟨rfl, hr⟩
 have HR := hide hr
 clear hr
 go_wp2
 go_ret2
 exact ⟨rfl, HR.out⟩
theorem ret_i6 {k : IntKind} {a b : Int} (h : a = b) : Ending.returned (.int k a) = .returned (.int k b) := by rw [h]
set_option maxHeartbeats 1000000 in
/-- there: are these numbers terms'? -/
theorem there_any (l : List Int) (A : Option Addr) (n c : Nat) (w : World) (h : PoolAt w base F g p) (hr : Reads w w.heap.size 1 A n (l.map (Value.int .i64))) (hl : l.length = n) (hc : n ≤ c) (hn : n < 1000) :
  Calls Tryz.prog 111 #[.pointer (some ⟨g, 0, none⟩), .slice A n c] w fun e w' => e = .returned (.int .i64 (if l.all (hasB p.T) = true then 0 else 2)) ∧ Below w.heap.size w w' := by
 have HP := hide h
 have HR := hide hr
 have HL := hide hl
 obtain ⟨r, hr'⟩ : ∃ r : Int, (if l.all (hasB p.T) = true then 0 else 2) = r := ⟨_, rfl⟩
 rw [hr']
 have HRR := hide hr'
 clear h hr hl hr'
 go_enter Tryz.func111, Tryz.ntmps111
 go_wp2
 go_loopw [13] (fun iv wr => ∃ k : Nat, k ≤ n ∧ iv = .int .i64 (k : Int) ∧ Below w.heap.size w wr ∧ (l.take k).all (hasB p.T) = true) (fun iv _ => n - (intOf iv).toNat)
 case atStart => exact ⟨0, by omega, rfl, Below.refl _ _, by simp⟩
 case round =>
  obtain ⟨k, hk, rfl, hb, ha⟩ := hrel
  have HB := hide hb
  have HA := hide ha
  clear hb ha
  by_cases hlt : k < n
  ·obtain ⟨ad, u, rfl, _, hu, hcl⟩ := (HR.out.below HB.out).at_ hlt
   rw [List.getElem?_map, List.getElem?_eq_getElem (by rw [HL.out]; exact hlt)] at hu
   injection hu with hu
   subst hu
   have HX := hide (List.getElem?_eq_getElem (l := l) (i := k) (by rw [HL.out]; exact hlt))
   generalize l[k]'(by rw [HL.out]; exact hlt) = x at HX hcl
   have hkc : k < c := by omega
   cases hx : hasB p.T x
   ·have HXB := hide hx
    clear hx
    go_wp2_with fail
    refine (get_at x _ (HP.out.below HB.out)).mono ?_
    rintro e w1 ⟨rfl, hb⟩
    rw [HXB.out]
    simp only [Bool.false_eq_true, if_false]
    have HB1 := hide (HB.out.trans (hb.mono HB.out.size))
    clear hb
    have HW := hide (atP_wf HP.out.rng x)
    generalize atP p.T x = t at HW ⊢
    go_upto_region 7 with (first
     | (refine wpList_store_new rfl 147 (.tmp 7) (.tmp 21) rfl _ t.cells (termV t) (by rfl) (by rfl) rfl sizT rfl (TD.one _) ?_
        intro w5 G5 L5 Z5
        have HB2 := hide (HB1.out.trans (L5.mono HB1.out.size))
        clear G5 L5 Z5)
     | fail)
    go_wp2
    go_ret
    refine ⟨ret_i6 ?_, HB2.out⟩
    rw [← HRR.out, if_neg]
    intro hall
    rw [List.all_eq_true] at hall
    have := hall x (List.mem_of_getElem? HX.out)
    rw [HXB.out] at this
    cases this
   ·have HXB := hide hx
    clear hx
    go_wp2_with fail
    refine (get_at x _ (HP.out.below HB.out)).mono ?_
    rintro e w1 ⟨rfl, hb⟩
    rw [HXB.out]
    simp only [if_true]
    have HB1 := hide (HB.out.trans (hb.mono HB.out.size))
    clear hb
    have HW := hide (atP_wf HP.out.rng x)
    generalize atP p.T x = t at HW ⊢
    go_upto_region 7 with (first
     | (refine wpList_store_new rfl 147 (.tmp 7) (.tmp 21) rfl _ t.cells (termV t) (by rfl) (by rfl) rfl sizT rfl (TD.one _) ?_
        intro w5 G5 L5 Z5
        have HB2 := hide (HB1.out.trans (L5.mono HB1.out.size))
        clear G5 L5 Z5)
     | fail)
    go_wp2
    go_roundw
    case measure => simp [intOf]; omega
    case rel => exact ⟨k + 1, by omega, by go_num, HB2.out, by rw [List.take_add_one, HX.out, List.all_append, HA.out]; simp [HXB.out]⟩
  ·obtain rfl : k = n := by omega
   go_wp2
   go_ret
   refine ⟨ret_i6 ?_, HB.out⟩
   have q := HA.out
   rw [← HL.out, List.take_length] at q
   rw [← HRR.out, if_pos q]
end
end Go.Proofs.YtepagfkkjlbipaaGreat
