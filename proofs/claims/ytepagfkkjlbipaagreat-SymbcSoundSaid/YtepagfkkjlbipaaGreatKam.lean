/-
  Parts of the proof of SymbcSound. Conditions: those written in each statement.
-/
import Derived.Test.YtepagfkkjlbipaaGreatPu
set_option linter.unusedVariables false
set_option linter.unusedSimpArgs false
set_option maxHeartbeats 64000000
set_option maxRecDepth 100000
namespace Go.Proofs.YtepagfkkjlbipaaGreat
open Tryz
section
open Go.RowKit
structure PG (base g : Nat) (F : Nat → Prop) (w : World) (F' : Nat → Prop) (p' : PS) (w' : World) : Prop where
 pool : PoolAt w' base F' g p'
 chg : Chg F w w'
 new : ∀ b, F' b → F b ∨ w.heap.size ≤ b
section
variable {base g : Nat} {F F1 F2 : Nat → Prop} {w w1 w2 : World} {p p1 p2 : PS}
theorem PG.refl (h : PoolAt w base F g p) : PG base g F w F p w := ⟨h, Chg.refl _ _, fun b q => .inl q⟩
theorem PG.trans (h : PG base g F w F1 p1 w1) (k : PG base g F1 w1 F2 p2 w2) : PG base g F w F2 p2 w2 :=
 ⟨k.pool, h.chg.trans k.chg h.new, fun b q => (k.new b q).elim (h.new b) (fun e => .inr (Nat.le_trans h.chg.size e))⟩
theorem PG.step (h : PG base g F w F1 p1 w1) (hb : Below w1.heap.size w1 w2) : PG base g F w F1 p1 w2 :=
 h.trans ⟨h.pool.below hb, Chg.of_below hb, fun b q => .inl q⟩
theorem PG.of_below (h : PoolAt w base F g p) (hb : Below w.heap.size w w1) : PG base g F w F p w1 := (PG.refl h).step hb
theorem PG.blk (h : PG base g F w F1 p1 w1) {b : Nat} {t : TypeId} {cs : Array Value} (hb : Blk w b t cs) (hf : ¬ F b) : Blk w1 b t cs ∧ ¬ F1 b :=
 ⟨h.chg.blk hb hf, fun q => (h.new b q).elim hf (fun e => by have := hb.lt; omega)⟩
theorem PG.size (h : PG base g F w F1 p1 w1) : w.heap.size ≤ w1.heap.size := h.chg.size
end
def RetP (base g : Nat) (F : Nat → Prop) (w : World) (r : RS) (e : Ending) (w' : World) : Prop :=
 e = .returned (.tuple #[.int .i64 r.2.1, .int .i64 r.2.2]) ∧ ∃ F', PG base g F w F' r.1 w'
section
variable {base g : Nat} {F F1 : Nat → Prop} {w w1 w2 : World} {p p1 : PS} {r : RS} {e : Ending}
theorem RetP.from (h : PG base g F w F1 p1 w1) (k : RetP base g F1 w1 r e w2) : RetP base g F w r e w2 := by
 obtain ⟨h1, F2, h2⟩ := k
 exact ⟨h1, F2, h.trans h2⟩
theorem RetP.same (h : PG base g F w F1 p1 w1) {n m : Int} : RetP base g F w (p1, n, m) (.returned (.tuple #[.int .i64 n, .int .i64 m])) w1 := ⟨rfl, F1, h⟩
theorem RetP.of_put {t : TD} (h : PutP base F g p t w e w1) : RetP base g F w (putR p t) e w1 := by
 obtain ⟨h1, F', h2, h3, h4⟩ := h
 exact ⟨h1, F', h2, h3, h4⟩
end
theorem put_r {base g : Nat} {F : Nat → Prop} {p : PS} (t : TD) (ht : t.wf) (w : World) (h : PoolAt w base F g p) (hbase : base ≤ w.heap.size) :
  Calls prog 69 #[.pointer (some ⟨g, 0, none⟩), termV t] w (RetP base g F w (putR p t)) := (put_any t ht w h hbase).mono fun _ _ q => RetP.of_put q
theorem atP_no {T : List TD} {n : Int} (h : hasB T n = false) : atP T n = zeroT := by unfold atP; rw [h]; rfl
theorem atP_yes {T : List TD} {n : Int} (h : hasB T n = true) : ∃ k : Nat, n = (k : Int) ∧ T[k]? = some (atP T n) := by
 have h' := h
 unfold hasB at h
 simp at h
 refine ⟨n.toNat, by omega, ?_⟩
 unfold atP
 rw [if_pos h', List.getD_eq_getElem?_getD, List.getElem?_eq_getElem (by omega)]
 rfl
theorem zeroT_wf : zeroT.wf := by unfold TD.wf I8 U64 I64 zeroT; dsimp only; omega
theorem atP_wf {T : List TD} (hr : ∀ t ∈ T, t.wf) (n : Int) : (atP T n).wf := by
 cases h : hasB T n
 ·rw [atP_no h]; exact zeroT_wf
 ·obtain ⟨k, _, hk⟩ := atP_yes h
  exact hr _ (List.mem_of_getElem? hk)
section
variable {base g : Nat} {F : Nat → Prop} {p : PS}
theorem get_at (k : Int) (w : World) (h : PoolAt w base F g p) : Calls prog 95 #[.pointer (some ⟨g, 0, none⟩), .int .i64 k] w fun e w' => e = .returned (.tuple #[termV (atP p.T k), .int .i64 (if hasB p.T k = true then 0 else 2)]) ∧ Below w.heap.size w w' := by
 cases hk : hasB p.T k
 ·rw [atP_no hk]
  exact get_none h hk
 ·obtain ⟨j, rfl, hj⟩ := atP_yes hk
  exact get_any h hj
theorem at_any (k : Int) (w : World) (h : PoolAt w base F g p) : Calls prog 130 #[.agg #[.pointer (some ⟨g, 0, none⟩)], .int .i64 k] w fun e w' => e = .returned (termV (atP p.T k)) ∧ Below w.heap.size w w' := by
 have hb0 : Below w.heap.size w ((w.alloc (.cells #[.pointer (some ⟨g, 0, none⟩)] 125)).alloc (.cells zeroT.cells.toArray 147)) := ((Below.refl _ w).alloc (Nat.le_refl _) _).alloc (by simp) _
 have N0 := Blk.new (w.alloc (.cells #[.pointer (some ⟨g, 0, none⟩)] 125)) 147 zeroT.cells.toArray
 simp only [World.size_alloc] at N0
 have HP := Hd (h.below hb0)
 have HB := Hd hb0
 have HN := Hd N0
 have HW := Hd (atP_wf h.rng k)
 clear h hb0 N0
 go_enter func130, ntmps130
 go_wp2_with fail
 refine (get_at k _ HP.out).mono ?_
 rintro e w1 ⟨rfl, hb⟩
 have HB1 := Hd (HB.out.trans (hb.mono HB.out.size))
 have HN1 := Hd (HN.out.below hb HN.out.lt)
 clear hb HP HB HN
 generalize (if hasB p.T k = true then (0 : Int) else 2) = er
 obtain ⟨t, ht⟩ : ∃ t, atP p.T k = t := ⟨_, rfl⟩
 rw [ht] at HW ⊢
 have HT := Hd ht
 clear ht
 go_upto_region 2 with (first
  | (refine wpList_store_new rfl 147 (.tmp 5) (.tmp 12) rfl _ t.cells (termV t) (by rfl) (by rfl) rfl sizT rfl (TD.one _) ?_
     intro w5 G5 L5 Z5
     have HX := Hd G5
     have HB2 := Hd (HB1.out.trans (L5.mono HB1.out.size))
     have HN2 := Hd (HN1.out.below L5 HN1.out.lt)
     clear G5 L5 Z5)
  | fail)
 go_wp2_with (first
  | (refine wpList_load_at rfl 147 (.tmp 5) rfl ⟨w1.heap.size, 0, none⟩ (by rfl) t.cells _ (blk_list HX.out) underlying147 rfl sizT ?_)
  | (refine wpList_store_at rfl 147 (.tmp 4) (.tmp 14) rfl (w.heap.size + 1) 0 147 zeroT.cells t.cells (.agg t.cells.toArray) HN2.out (by rfl) (by rfl) rfl sizT (by simp [TD.cells]) (TD.one _) ?_
     intro w6 G6 L6 Z6
     have HY := Hd G6
     have HB3 := Hd (HB2.out.grown L6 HB2.out.size (fun b e => by injection e with e; omega))
     clear G6 L6 Z6)
  | fail)
 have e : overC zeroT.cells 0 t.cells = t.cells := by unfold overC; simp [TD.cells]
 have hrl := run_loadVar_at (P := prog) w6 ⟨w.heap.size + 1, 0, none⟩ 147 t.cells _ (blk_list (by rw [← e]; exact HY.out)) underlying147 rfl sizT
 exact bodyPost_ret (v := termV t) (by simp [results, results130, Act.put, asAddr, Result.andThen, hrl, termV]) rfl ⟨by rw [HT.out], HB3.out⟩
theorem constant_any (k : Int) (w : World) (h : PoolAt w base F g p) : Calls prog 113 #[.agg #[.pointer (some ⟨g, 0, none⟩)], .int .i64 k] w fun e w' => e = .returned (.tuple #[.int .u64 (atP p.T k).n, .bool ((atP p.T k).kind == 0)]) ∧ Below w.heap.size w w' := by
 obtain ⟨t, ht⟩ : ∃ t, atP p.T k = t := ⟨_, rfl⟩
 rw [ht]
 have HT := Hd ht
 clear ht
 have hb0 : Below w.heap.size w (w.alloc (.cells #[.pointer (some ⟨g, 0, none⟩)] 125)) := (Below.refl _ w).alloc (Nat.le_refl _) _
 have HP := Hd (h.below hb0)
 have HB := Hd hb0
 clear h hb0
 go_enter func113, ntmps113
 go_wp2_with fail
 refine (at_any k _ HP.out).mono ?_
 rintro e w1 ⟨rfl, hb⟩
 have HB1 := Hd (HB.out.trans (hb.mono HB.out.size))
 clear hb HP HB
 rw [HT.out]
 go_upto_region 2 with (first
  | (refine wpList_store_new rfl 147 (.tmp 6) (.tmp 9) rfl _ t.cells (termV t) (by rfl) (by rfl) rfl sizT rfl (TD.one _) ?_
     intro w5 G5 L5 Z5
     have HX := Hd G5
     have HB2 := Hd (HB1.out.trans (L5.mono HB1.out.size))
     clear G5 L5 Z5)
  | fail)
 have b0 := HX.out.cell 0
 have b3 := HX.out.cell 3
 simp [TD.cells] at b0 b3
 go_wp2_with fail
 go_quiet (fail)
 go_wp2
 go_ret2
 exact ⟨rfl, below_drewN HB2.out nq⟩
theorem constT_wf {n : Int} (h : U64 n) : (constT n).wf := by unfold TD.wf I8 I64 constT; dsimp only; exact ⟨by omega, by omega, by omega, h, by omega, by omega, by omega⟩
theorem build_const (n : Int) (w : World) : (Instr.build 147 #[(0, .int .i8 0), (3, .int .u64 n)]).run prog w = .ok (termV (constT n)) w := run_build w 147 _ _ (by kernel_rfl)
theorem const_any (n : Int) (hn : U64 n) (w : World) (h : PoolAt w base F g p) (hbase : base ≤ w.heap.size) :
  Calls prog 39 #[.pointer (some ⟨g, 0, none⟩), .int .u64 n] w (RetP base g F w (putR p (constT n))) := by
 have HP := Hd h
 have HW := Hd (constT_wf hn)
 have q := fun (w : World) => build_const n w
 clear h hn
 go_enter func39, ntmps39
 go_wp2_with fail
 refine (put_r _ HW.out _ HP.out hbase).mono ?_
 rintro e w1 ⟨rfl, hr⟩
 have HR := Hd hr
 clear hr
 go_wp2
 go_ret2
 exact ⟨rfl, HR.out⟩
def varT (n x : Int) : TD := ⟨1, 0, x, n, 0, 0, 0⟩
theorem varT_wf {n x : Int} (h : U64 n) (hx : I8 x) : (varT n x).wf := by unfold TD.wf I8 I64 varT; unfold I8 at hx; dsimp only; exact ⟨by omega, by omega, hx, h, by omega, by omega, by omega⟩
theorem build_var (n x : Int) (w : World) : (Instr.build 147 #[(0, .int .i8 1), (3, .int .u64 n), (2, .int .i8 x)]).run prog w = .ok (termV (varT n x)) w := run_build w 147 _ _ (by kernel_rfl)
theorem var_any (n x : Int) (h0 : 0 ≤ n) (h1 : n < 9223372036854775808) (hx : I8 x) (w : World) (h : PoolAt w base F g p) (hbase : base ≤ w.heap.size) :
  Calls prog 36 #[.pointer (some ⟨g, 0, none⟩), .int .i64 n, .int .i8 x] w (RetP base g F w (putR p (varT n x))) := by
 have HP := Hd h
 have HW := Hd (varT_wf (n := n) (by unfold U64; omega) hx)
 have hwr : IntKind.u64.wrap n = n := by rw [IntKind.wrap_u64]; omega
 have q := fun (w : World) => build_var n x w
 have hd : decide (n < 0) = false := by simp; omega
 clear h hx
 go_enter func36, ntmps36
 go_wp2_with fail
 refine (put_r _ HW.out _ HP.out hbase).mono ?_
 rintro e w1 ⟨rfl, hr⟩
 have HR := Hd hr
 clear hr
 go_wp2
 go_ret2
 exact ⟨rfl, HR.out⟩
theorem ret_i6 {k : IntKind} {a b : Int} (h : a = b) : Ending.returned (.int k a) = .returned (.int k b) := by rw [h]
theorem there_any (l : List Int) (A : Option Addr) (n c : Nat) (w : World) (h : PoolAt w base F g p) (hr : Reads w w.heap.size 1 A n (l.map (Value.int .i64))) (hl : l.length = n) (hc : n ≤ c) (hn : n < 1000) :
  Calls prog 111 #[.pointer (some ⟨g, 0, none⟩), .slice A n c] w fun e w' => e = .returned (.int .i64 (if l.all (hasB p.T) = true then 0 else 2)) ∧ Below w.heap.size w w' := by
 have HP := Hd h
 have HR := Hd hr
 have HL := Hd hl
 obtain ⟨r, hr'⟩ : ∃ r : Int, (if l.all (hasB p.T) = true then 0 else 2) = r := ⟨_, rfl⟩
 rw [hr']
 have HRR := Hd hr'
 clear h hr hl hr'
 go_enter func111, ntmps111
 go_wp2
 go_loopw [13] (fun iv wr => ∃ k : Nat, k ≤ n ∧ iv = .int .i64 (k : Int) ∧ Below w.heap.size w wr ∧ (l.take k).all (hasB p.T) = true) (fun iv _ => n - (intOf iv).toNat)
 case atStart => exact ⟨0, by omega, rfl, Below.refl _ _, by simp⟩
 case round =>
  obtain ⟨k, hk, rfl, hb, ha⟩ := hrel
  have HB := Hd hb
  have HA := Hd ha
  clear hb ha
  by_cases hlt : k < n
  ·obtain ⟨ad, u, rfl, _, hu, hcl⟩ := (HR.out.below HB.out).at_ hlt
   rw [List.getElem?_map, List.getElem?_eq_getElem (by rw [HL.out]; exact hlt)] at hu
   injection hu with hu
   subst hu
   have HX := Hd (List.getElem?_eq_getElem (l := l) (i := k) (by rw [HL.out]; exact hlt))
   generalize l[k]'(by rw [HL.out]; exact hlt) = x at HX hcl
   have hkc : k < c := by omega
   cases hx : hasB p.T x
   ·have HXB := Hd hx
    clear hx
    go_wp2_with fail
    refine (get_at x _ (HP.out.below HB.out)).mono ?_
    rintro e w1 ⟨rfl, hb⟩
    rw [HXB.out]
    simp only [Bool.false_eq_true, if_false]
    have HB1 := Hd (HB.out.trans (hb.mono HB.out.size))
    clear hb
    have HW := Hd (atP_wf HP.out.rng x)
    generalize atP p.T x = t at HW ⊢
    go_upto_region 7 with (first
     | (refine wpList_store_new rfl 147 (.tmp 7) (.tmp 21) rfl _ t.cells (termV t) (by rfl) (by rfl) rfl sizT rfl (TD.one _) ?_
        intro w5 G5 L5 Z5
        have HB2 := Hd (HB1.out.trans (L5.mono HB1.out.size))
        clear G5 L5 Z5)
     | fail)
    go_wp2
    go_ret
    refine ⟨ret_i6 ?_, HB2.out⟩
    rw [← HRR.out, if_neg]
    intro hall
    rw [List.all_eq_true] at hall
    have := hall x (List.mem_of_getElem? HX.out)
    rw [HXB.out] at this
    cases this
   ·have HXB := Hd hx
    clear hx
    go_wp2_with fail
    refine (get_at x _ (HP.out.below HB.out)).mono ?_
    rintro e w1 ⟨rfl, hb⟩
    rw [HXB.out]
    simp only [if_true]
    have HB1 := Hd (HB.out.trans (hb.mono HB.out.size))
    clear hb
    have HW := Hd (atP_wf HP.out.rng x)
    generalize atP p.T x = t at HW ⊢
    go_upto_region 7 with (first
     | (refine wpList_store_new rfl 147 (.tmp 7) (.tmp 21) rfl _ t.cells (termV t) (by rfl) (by rfl) rfl sizT rfl (TD.one _) ?_
        intro w5 G5 L5 Z5
        have HB2 := Hd (HB1.out.trans (L5.mono HB1.out.size))
        clear G5 L5 Z5)
     | fail)
    go_wp2
    go_roundw
    case measure => simp [intOf]; omega
    case rel => exact ⟨k + 1, by omega, by go_num, HB2.out, by rw [List.take_add_one, HX.out, List.all_append, HA.out]; simp [HXB.out]⟩
  ·obtain rfl : k = n := by omega
   go_wp2
   go_ret
   refine ⟨ret_i6 ?_, HB.out⟩
   have q := HA.out
   rw [← HL.out, List.take_length] at q
   rw [← HRR.out, if_pos q]
end
end
section
open Go.RowKit
theorem cut_less {x n : Int} (hx : x = 8 ∨ x = 16 ∨ x = 32) (h : 0 ≤ n) : (n / 2 ^ x.toNat == 0) = decide (n = cutV x n) := by
 rw [Bool.eq_iff_iff]
 simp only [beq_iff_eq, decide_eq_true_eq]
 unfold cutV
 rcases hx with rfl | rfl | rfl
 ·show n / 256 = 0 ↔ _
  simp
  omega
 ·show n / 65536 = 0 ↔ _
  simp
  omega
 ·show n / 4294967296 = 0 ↔ _
  simp
  omega
theorem ret_b6 {a b : Bool} (h : a = b) : Ending.returned (.bool a) = .returned (.bool b) := by rw [h]
section
variable {base g : Nat} {F : Nat → Prop} {p : PS}
theorem narrow_any (k x : Int) (hx : x = 8 ∨ x = 16 ∨ x = 32 ∨ x = 64) (w : World) (h : PoolAt w base F g p) :
  Calls prog 158 #[.agg #[.pointer (some ⟨g, 0, none⟩)], .int .i64 k, .int .i8 x] w fun e w' => e = .returned (.bool (narrowP p.T k x)) ∧ Below w.heap.size w w' := by
 obtain ⟨t, ht⟩ : ∃ t, atP p.T k = t := ⟨_, rfl⟩
 have htw : t.wf := by rw [← ht]; exact atP_wf h.rng k
 obtain ⟨r, hr⟩ : ∃ r, narrowP p.T k x = r := ⟨_, rfl⟩
 rw [hr]
 unfold narrowP at hr
 rw [ht] at hr
 have HR := Hd hr
 have HT := Hd ht
 have HU := Hd htw.2.2.2.1
 have hb0 : Below w.heap.size w (w.alloc (.cells #[.pointer (some ⟨g, 0, none⟩)] 125)) := (Below.refl _ w).alloc (Nat.le_refl _) _
 have HP := Hd (h.below hb0)
 have HB := Hd hb0
 have HX0 := Hd hx
 clear h hb0 ht htw hr hx
 go_enter func158, ntmps158
 go_wp2_with fail
 refine (at_any k _ HP.out).mono ?_
 rintro e w1 ⟨rfl, hb⟩
 have HB1 := Hd (HB.out.trans (hb.mono HB.out.size))
 clear hb HP HB
 rw [HT.out]
 go_upto_region 2 with (first
  | (refine wpList_store_new rfl 147 (.tmp 7) (.tmp 10) rfl _ t.cells (termV t) (by rfl) (by rfl) rfl sizT rfl (TD.one _) ?_
     intro w5 G5 L5 Z5
     have HX := Hd G5
     have HB2 := Hd (HB1.out.trans (L5.mono HB1.out.size))
     clear G5 L5 Z5)
  | fail)
 have b0 := HX.out.cell 0
 have b2 := HX.out.cell 2
 have b3 := HX.out.cell 3
 simp [TD.cells] at b0 b2 b3
 cases h64 : (x == 64)
 ·cases h4 : (t.kind == 4)
  ·have hx0 : (0 : Int) ≤ x := by have := HX0.out; omega
   have hx1 : x < 64 := by have := HX0.out; simp at h64; omega
   cases hk0 : (t.kind == 0)
   ·cases hk3 : (t.kind == 3)
    ·cases hk1 : (t.kind == 1)
     ·cases hk2 : (t.kind == 2)
      ·go_wp2
       go_ret
       exact ⟨ret_b6 (by rw [← HR.out]; simp at h64 h4 hk0 hk3 hk1 hk2; simp [h64, h4, hk0, hk3, hk1, hk2]), HB2.out⟩
      ·cases hw : (t.w == 32)
       ·go_wp2
        go_ret
        exact ⟨ret_b6 (by rw [← HR.out]; simp at h64 h4 hk0 hk3 hk1 hk2 hw; simp [h64, hk2, hw]), HB2.out⟩
       ·go_wp2
        go_ret
        exact ⟨ret_b6 (by rw [← HR.out]; simp at h64 h4 hk0 hk3 hk1 hk2 hw; simp [h64, hk2, hw]; try rfl), HB2.out⟩
     ·go_wp2
      go_ret
      exact ⟨ret_b6 (by rw [← HR.out]; simp at h64 h4 hk0 hk3 hk1; simp [h64, hk1]), HB2.out⟩
    ·go_wp2
     go_ret
     exact ⟨ret_b6 (by rw [← HR.out]; simp at h64 h4 hk0 hk3; simp [h64, hk3]), HB2.out⟩
   ·go_wp2
    go_ret
    exact ⟨ret_b6 (by rw [← HR.out]; simp at h64 h4 hk0; rw [cut_less (by have := HX0.out; omega) HU.out.1]; simp [h64, hk0]), HB2.out⟩
  ·go_wp2
   go_ret
   exact ⟨ret_b6 (by rw [← HR.out]; simp at h64 h4; simp [h4]), HB2.out⟩
 ·go_wp2
  go_ret
  exact ⟨ret_b6 (by rw [← HR.out]; simp at h64; simp [h64]), HB2.out⟩
theorem cutV_u64 {x n : Int} (h : U64 n) : U64 (cutV x n) := by
 unfold U64 at *
 unfold cutV
 split
 ·omega
 ·split
  ·omega
  ·split <;> omega
theorem operand_any (x k : Int) (hx : x = 32 ∨ x = 64) (w : World) (h : PoolAt w base F g p) (hbase : base ≤ w.heap.size) :
  Calls prog 157 #[.agg #[.pointer (some ⟨g, 0, none⟩)], .int .i8 x, .int .i64 k] w (RetP base g F w (operandP p x k)) := by
 obtain ⟨t, ht⟩ : ∃ t, atP p.T k = t := ⟨_, rfl⟩
 have htw : t.wf := by rw [← ht]; exact atP_wf h.rng k
 have HE : Hid (operandP p x k = if t.kind = 0 then putR p (constT (cutV x t.n)) else if x = 32 ∧ t.kind = 3 ∧ t.w = 32 then (p, t.a, 0) else (p, k, 0)) := Hd (by unfold operandP; rw [ht])
 obtain ⟨r, hr⟩ : ∃ r, operandP p x k = r := ⟨_, rfl⟩
 rw [hr] at HE ⊢
 have HT := Hd ht
 have HU := Hd (cutV_u64 (x := x) htw.2.2.2.1)
 have hb0 : Below w.heap.size w (w.alloc (.cells #[.pointer (some ⟨g, 0, none⟩)] 125)) := (Below.refl _ w).alloc (Nat.le_refl _) _
 have HP := Hd (PG.of_below h hb0)
 have HZ := Hd (Blk.new w 125 #[.pointer (some ⟨g, 0, none⟩)])
 clear h hb0 ht htw hr
 go_enter func157, ntmps157
 go_wp2_with fail
 refine (at_any k _ HP.out.pool).mono ?_
 rintro e w1 ⟨rfl, hb⟩
 have HP1 := Hd (HP.out.step hb)
 have HZ1 := Hd (HZ.out.below hb HZ.out.lt)
 clear hb HP HZ
 rw [HT.out]
 go_upto_region 2 with (first
  | (refine wpList_store_new rfl 147 (.tmp 8) (.tmp 11) rfl _ t.cells (termV t) (by rfl) (by rfl) rfl sizT rfl (TD.one _) ?_
     intro w5 G5 L5 Z5
     have HX := Hd G5
     have HP2 := Hd (HP1.out.step L5)
     have HZ2 := Hd (HZ1.out.below L5 HZ1.out.lt)
     clear G5 L5 Z5)
  | fail)
 obtain ⟨b8, hb8⟩ : ∃ b, w1.heap.size = b := ⟨_, rfl⟩
 rw [hb8] at HX ⊢
 have c0 := HZ2.out.cell 0
 have b0 := HX.out.cell 0
 have b2 := HX.out.cell 2
 have b3 := HX.out.cell 3
 have b4 := HX.out.cell 4
 simp [TD.cells] at b0 b2 b3 b4 c0
 have hb5 : base ≤ w5.heap.size := Nat.le_trans hbase HP2.out.size
 cases hk0 : (t.kind == 0)
 ·cases hx32 : (x == 32)
  ·go_wp2
   go_ret2
   rw [HE.out, if_neg (by simpa using hk0), if_neg (by simp at hx32; simp [hx32])]
   exact RetP.same HP2.out
  ·cases hk3 : (t.kind == 3)
   ·go_wp2
    go_ret2
    rw [HE.out, if_neg (by simpa using hk0), if_neg (by simp at hk3; simp [hk3])]
    exact RetP.same HP2.out
   ·cases hw32 : (t.w == 32)
    ·go_wp2
     go_ret2
     rw [HE.out, if_neg (by simpa using hk0), if_neg (by simp at hw32; simp [hw32])]
     exact RetP.same HP2.out
    ·go_wp2
     go_ret2
     rw [HE.out, if_neg (by simpa using hk0), if_pos ⟨by simpa using hx32, by simpa using hk3, by simpa using hw32⟩]
     exact RetP.same HP2.out
 ·go_upto_region 3 with fail
  go_region_with (first
   | (go_at_call 97; refine (cut_any _ _ _).mono ?_; rintro e w' ⟨rfl, rfl⟩)
   | (go_at_call 39; refine (const_any _ HU.out _ (HP2.out.pool.drew) hb5).mono ?_; rintro e w' ⟨rfl, hr⟩))
  all_goals
   have HR := Hd hr
   clear hr
   go_wp2
   go_ret2
   rw [HE.out, if_pos (by simpa using hk0)]
   exact RetP.from (HP2.out.step ((Below.refl _ _).drew)) ⟨rfl, HR.out⟩
end
end
section
open Go.RowKit
section
variable {base g : Nat} {F : Nat → Prop} {p : PS}
def BothP (base g : Nat) (F : Nat → Prop) (w : World) (r : PS × Int × Int × Int) (e : Ending) (w' : World) : Prop :=
 e = .returned (.tuple #[.int .i64 r.2.1, .int .i64 r.2.2.1, .int .i64 r.2.2.2]) ∧ ∃ F', PG base g F w F' r.1 w'
theorem both_any (x a b : Int) (hx : x = 32 ∨ x = 64) (w : World) (h : PoolAt w base F g p) (hbase : base ≤ w.heap.size) :
  Calls prog 112 #[.agg #[.pointer (some ⟨g, 0, none⟩)], .int .i8 x, .int .i64 a, .int .i64 b] w (BothP base g F w (bothP p x a b)) := by
 obtain ⟨r, hr⟩ : ∃ r, operandP p x a = r := ⟨_, rfl⟩
 obtain ⟨s, hs⟩ : ∃ s, operandP r.1 x b = s := ⟨_, rfl⟩
 obtain ⟨q, hq⟩ : ∃ q, bothP p x a b = q := ⟨_, rfl⟩
 have HQ : Hid (q = if r.2.2 = 0 then (s.1, r.2.1, s.2.1, s.2.2) else (r.1, r.2.1, 0, r.2.2)) := Hd (by rw [← hq]; unfold bothP; rw [hr]; dsimp only; rw [hs])
 rw [hq]
 have hb0 : Below w.heap.size w (w.alloc (.cells #[.pointer (some ⟨g, 0, none⟩)] 125)) := (Below.refl _ w).alloc (Nat.le_refl _) _
 have HP := Hd (PG.of_below h hb0)
 have HZ := Hd (Blk.new w 125 #[.pointer (some ⟨g, 0, none⟩)])
 have HNF := Hd (fun q => by have := (h.fb _ q).2; omega : ¬ F w.heap.size)
 have hb1 := Nat.le_trans hbase HP.out.size
 have HO := Hd (fun W F1 (hW : PoolAt W base F1 g p) hb => by have := operand_any x a hx W hW hb; rw [hr] at this; exact this : ∀ (W : World) (F1 : Nat → Prop) (hW : PoolAt W base F1 g p) (hb : base ≤ W.heap.size), Calls prog 157 #[.agg #[.pointer (some ⟨g, 0, none⟩)], .int .i8 x, .int .i64 a] W (RetP base g F1 W r))
 have HO2 := Hd (fun W F1 (hW : PoolAt W base F1 g r.1) hb => by have := operand_any x b hx W hW hb; rw [hs] at this; exact this : ∀ (W : World) (F1 : Nat → Prop) (hW : PoolAt W base F1 g r.1) (hb : base ≤ W.heap.size), Calls prog 157 #[.agg #[.pointer (some ⟨g, 0, none⟩)], .int .i8 x, .int .i64 b] W (RetP base g F1 W s))
 clear h hb0 hr hs hq
 obtain ⟨p1, n1, e1⟩ := r
 obtain ⟨p2, n2, e2⟩ := s
 dsimp only at HQ HO HO2
 go_enter func112, ntmps112
 go_wp2_with fail
 refine (HO.out _ _ HP.out.pool hb1).mono ?_
 rintro e w1 ⟨rfl, F1, hp1⟩
 have HP1 := Hd (HP.out.trans hp1)
 have HZ1 := Hd (hp1.blk HZ.out HNF.out)
 have hb2 := Nat.le_trans hbase HP1.out.size
 have c0 := HZ1.out.1.cell 0
 clear hp1 HP HZ
 simp at c0
 cases he : (e1 == 0)
 ·go_wp2
  exact bodyPost_ret (v := .tuple #[.int .i64 n1, .int .i64 0, .int .i64 e1]) (by simp [results, results112, go_sem]) rfl ⟨by rw [HQ.out, if_neg (by simpa using he)], F1, by rw [HQ.out, if_neg (by simpa using he)]; exact HP1.out⟩
 ·go_wp2_with fail
  refine (HO2.out _ _ HP1.out.pool hb2).mono ?_
  rintro e w2 ⟨rfl, F2, hp2⟩
  have HP2 := Hd (HP1.out.trans hp2)
  clear hp2
  go_wp2
  exact bodyPost_ret (v := .tuple #[.int .i64 n1, .int .i64 n2, .int .i64 e2]) (by simp [results, results112, go_sem]) rfl ⟨by rw [HQ.out, if_pos (by simpa using he)], F2, by rw [HQ.out, if_pos (by simpa using he)]; exact HP2.out⟩
theorem zextF_succ (f : Nat) (p : PS) (x a : Int) : zextF (f + 1) p x a = if x = 64 then some (p, a, 0) else if (atP p.T a).kind = 0 then some (putR p (constT (cutV x (atP p.T a).n))) else if narrowP p.T a x = true then some (p, a, 0) else if (atP p.T a).kind = 3 then zextF f p x (atP p.T a).a else some (putR p ⟨3, 0, x, 0, a, 0, 0⟩) := rfl
def zextT (x a : Int) : TD := ⟨3, 0, x, 0, a, 0, 0⟩
theorem zextT_wf {x a : Int} (h : I64 a) (hx : I8 x) : (zextT x a).wf := by unfold TD.wf I8 U64 I64 zextT; unfold I8 at hx; unfold I64 at h; dsimp only; exact ⟨by omega, by omega, hx, by omega, h, by omega, by omega⟩
theorem build_zext (a x : Int) (w : World) : (Instr.build 147 #[(0, .int .i8 3), (2, .int .i8 x), (4, .int .i64 a)]).run prog w = .ok (termV (zextT x a)) w := run_build w 147 _ _ (by kernel_rfl)
theorem zext_any (x : Int) (hx : x = 8 ∨ x = 16 ∨ x = 32 ∨ x = 64) : ∀ (f : Nat) (a : Int) (ha : I64 a) (F : Nat → Prop) (p : PS) (r : RS) (hz : zextF f p x a = some r) (w : World) (h : PoolAt w base F g p) (hbase : base ≤ w.heap.size),
  Calls prog 118 #[.agg #[.pointer (some ⟨g, 0, none⟩)], .int .i8 x, .int .i64 a] w (RetP base g F w r) := by
 intro f
 induction f with
 | zero => intro a ha F p r hz; cases hz
 | succ f ih =>
 intro a ha F p r hz w h hbase
 have HIH := Hd ih
 obtain ⟨t, ht⟩ : ∃ t, atP p.T a = t := ⟨_, rfl⟩
 have htw : t.wf := by rw [← ht]; exact atP_wf h.rng a
 obtain ⟨nb, hnb⟩ : ∃ nb, narrowP p.T a x = nb := ⟨_, rfl⟩
 have HE := Hd (show (if x = 64 then some (p, a, 0) else if t.kind = 0 then some (putR p (constT (cutV x t.n))) else if nb = true then some (p, a, 0) else if t.kind = 3 then zextF f p x t.a else some (putR p ⟨3, 0, x, 0, a, 0, 0⟩)) = some r by rw [← hz, zextF_succ, ht, hnb])
 have HT := Hd ht
 have HNB := Hd hnb
 have HU := Hd (cutV_u64 (x := x) htw.2.2.2.1)
 have HTA := Hd htw.2.2.2.2.1
 have HX8 := Hd hx
 have HZW := Hd (zextT_wf ha (by unfold I8; omega : I8 x))
 have qz := fun (w : World) => build_zext a x w
 have hb0 : Below w.heap.size w (w.alloc (.cells #[.pointer (some ⟨g, 0, none⟩)] 125)) := (Below.refl _ w).alloc (Nat.le_refl _) _
 have HP := Hd (PG.of_below h hb0)
 have HZ := Hd (Blk.new w 125 #[.pointer (some ⟨g, 0, none⟩)])
 clear h hb0 ht htw hz hnb ih ha hx
 go_enter func118, ntmps118
 go_wp2_with fail
 refine (at_any a _ HP.out.pool).mono ?_
 rintro e w1 ⟨rfl, hb⟩
 have HP1 := Hd (HP.out.step hb)
 have HZ1 := Hd (HZ.out.below hb HZ.out.lt)
 clear hb HP HZ
 rw [HT.out]
 go_upto_region 2 with (first
  | (refine wpList_store_new rfl 147 (.tmp 8) (.tmp 11) rfl _ t.cells (termV t) (by rfl) (by rfl) rfl sizT rfl (TD.one _) ?_
     intro w5 G5 L5 Z5
     have HX := Hd G5
     have HP2 := Hd (HP1.out.step L5)
     have HZ2 := Hd (HZ1.out.below L5 HZ1.out.lt)
     clear G5 L5 Z5)
  | fail)
 obtain ⟨b8, hb8⟩ : ∃ b, w1.heap.size = b := ⟨_, rfl⟩
 rw [hb8] at HX ⊢
 have c0 := HZ2.out.cell 0
 have b0 := HX.out.cell 0
 have b3 := HX.out.cell 3
 simp [TD.cells] at b0 b3 c0
 have hb5 : base ≤ w5.heap.size := Nat.le_trans hbase HP2.out.size
 cases h64 : (x == 64)
 ·have hx64 : x ≠ 64 := by simpa using h64
  cases hk0 : (t.kind == 0)
  ·have hkn0 : t.kind ≠ 0 := by simpa using hk0
   go_wp2_with fail
   refine (narrow_any a x HX8.out _ HP2.out.pool).mono ?_
   rintro e w6 ⟨rfl, hb⟩
   have HP3 := Hd (HP2.out.step hb)
   have HZ3 := Hd (HZ2.out.below hb HZ2.out.lt)
   have HX3 := Hd (HX.out.below hb HX.out.lt)
   clear hb b0 b3 c0
   rw [HNB.out]
   have c0 := HZ3.out.cell 0
   have b0 := HX3.out.cell 0
   have b4 := HX3.out.cell 4
   simp [TD.cells] at b0 b4 c0
   have hb6 : base ≤ w6.heap.size := Nat.le_trans hbase HP3.out.size
   cases nb
   ·cases hk3 : (t.kind == 3)
    ·have hkn3 : t.kind ≠ 3 := by simpa using hk3
     go_wp2_with fail
     refine (put_r _ HZW.out _ HP3.out.pool hb6).mono ?_
     rintro e w7 ⟨rfl, hr⟩
     have HR := Hd hr
     clear hr
     go_wp2
     go_ret2
     have he := HE.out
     rw [if_neg hx64, if_neg hkn0, if_neg (by simp), if_neg hkn3] at he
     injection he with he
     rw [← he]
     exact RetP.from HP3.out ⟨rfl, HR.out⟩
    ·have hk3' : t.kind = 3 := by simpa using hk3
     have hrec : zextF f p x t.a = some r := by
      have he := HE.out
      rw [if_neg hx64, if_neg hkn0, if_neg (by simp), if_pos hk3'] at he
      exact he
     have HREC := Hd hrec
     clear hrec
     go_wp2_with fail
     refine (HIH.out t.a HTA.out _ p r HREC.out _ HP3.out.pool hb6).mono ?_
     rintro e w7 ⟨rfl, hr⟩
     have HR := Hd hr
     clear hr
     go_wp2
     go_ret2
     exact RetP.from HP3.out ⟨rfl, HR.out⟩
   ·go_wp2
    go_ret2
    have he := HE.out
    rw [if_neg hx64, if_neg hkn0, if_pos trivial] at he
    injection he with he
    rw [← he]
    exact RetP.same HP3.out
  ·have hk0' : t.kind = 0 := by simpa using hk0
   go_upto_region 5 with fail
   go_region_with (first
    | (go_at_call 97; refine (cut_any _ _ _).mono ?_; rintro e w' ⟨rfl, rfl⟩)
    | (go_at_call 39; refine (const_any _ HU.out _ (HP2.out.pool.drew) hb5).mono ?_; rintro e w' ⟨rfl, hr⟩))
   all_goals
    have HR := Hd hr
    clear hr
    go_wp2
    go_ret2
    have he := HE.out
    rw [if_neg hx64, if_pos hk0'] at he
    injection he with he
    rw [← he]
    exact RetP.from (HP2.out.step ((Below.refl _ _).drew)) ⟨rfl, HR.out⟩
 ·go_wp2
  go_ret2
  have he := HE.out
  rw [if_pos (by simpa using h64)] at he
  injection he with he
  rw [← he]
  exact RetP.same HP2.out
end
end
end Go.Proofs.YtepagfkkjlbipaaGreat
