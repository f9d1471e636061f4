/-
  The document's get, there, Const, Var, Narrow. Conditions: those written in each statement.
  The document's Narrow, Zext, operand, commutes, flag. Conditions: those written in each statement.
  The document's laws of a constant on the right. Conditions: those written in each statement.
-/
import Derived.Test.YtfjflefgclfbfaaGreatQb
import Derived.Test.YtfjflefgclfbfaaGreatNg
import Derived.Test.YtfjflefgclfbfaaGreatQa
import Derived.Test.YtfjflefgclfbfaaGreatNh
import Derived.Test.YtfjflefgclfbfaaGreatKc
import Derived.Deep.CutRange
import Derived.Deep.CutBlock
section
namespace Go.Proofs.YtfjflefgclfbfaaGreat
open Go.RowKit
set_option linter.unusedVariables false
set_option linter.unusedSimpArgs false
set_option maxRecDepth 100000
theorem ret_b6r {a b : Bool} (h : a = b) : Ending.returned (.bool a) = .returned (.bool b) := by rw [h]
section
variable {base g : Nat} {F : Nat → Prop} {p : PS}
theorem get_r (k : Int) (w : World) (h : RefAt w base F g p) : Calls Tryz.prog 77 #[.pointer (some ⟨g, 0, none⟩), .int .i64 k] w fun e w' => e = .returned (termV (atP p.T k)) ∧ Below w.heap.size w w' := by
  have hb0 : Below w.heap.size w (w.alloc (.cells zeroT.cells.toArray 67)) := bl_alloc' w _
  have HP := hide (h.below hb0)
  have HB := hide hb0
  have HN := hide (Blk.new w 67 zeroT.cells.toArray)
  have HW := hide (atP_wf h.rng k)
  clear h hb0
  go_enter Tryz.func77, Tryz.ntmps77
  go_wp2_with fail
  refine (rget_at k _ HP.out).mono ?_
  rintro e w1 ⟨rfl, hb⟩
  have HB1 := hide (HB.out.trans (hb.mono HB.out.size))
  have HN1 := hide (HN.out.below hb HN.out.lt)
  clear hb HP HB HN
  generalize (if hasB p.T k = true then (0 : Int) else 2) = er
  obtain ⟨t, ht⟩ : ∃ t, atP p.T k = t := ⟨_, rfl⟩
  rw [ht] at HW ⊢
  have HT := hide ht
  clear ht
  go_upto_region 2 with (first
    | (refine wpList_store_new rfl 67 (.tmp 5) (.tmp 11) rfl _ t.cells (termV t) (by rfl) (by rfl) rfl sizT rfl (TD.one _) ?_
       intro w5 G5 L5 Z5
       have HXS := hide G5
       have HB2 := hide (HB1.out.trans (L5.mono HB1.out.size))
       have HN2 := hide (HN1.out.below L5 HN1.out.lt)
       clear G5 L5 Z5)
    | fail)
  go_wp2_with (first
    | (refine wpList_load_at rfl 67 (.tmp 5) rfl ⟨w1.heap.size, 0, none⟩ (by rfl) t.cells _ (blk_list HXS.out) Tryz.underlying67 rfl sizT ?_)
    | (refine wpList_store_at rfl 67 (.tmp 4) (.tmp 13) rfl w.heap.size 0 67 zeroT.cells t.cells (.agg t.cells.toArray) HN2.out (by rfl) (by rfl) rfl sizT (by simp [TD.cells]) (TD.one _) ?_
       intro w6 G6 L6 Z6
       have HY := hide G6
       have HB3 := hide (HB2.out.grown L6 HB2.out.size (fun b e => by injection e with e; omega))
       clear G6 L6 Z6)
    | fail)
  have e : overC zeroT.cells 0 t.cells = t.cells := by unfold overC; simp [TD.cells]
  have hrl := run_loadVar_at (P := Tryz.prog) w6 ⟨w.heap.size, 0, none⟩ 67 t.cells _ (blk_list (by rw [← e]; exact HY.out)) Tryz.underlying67 rfl sizT
  exact bodyPost_ret (v := termV t) (by simp [results, Tryz.results77, Act.put, asAddr, Result.andThen, hrl, termV]) rfl ⟨by rw [HT.out], HB3.out⟩
set_option maxHeartbeats 1000000 in
theorem rthere_any (l : List Int) (A : Option Addr) (n c : Nat) (w : World) (h : RefAt w base F g p) (hr : Reads w w.heap.size 1 A n (l.map (Value.int .i64))) (hl : l.length = n) (hc : n ≤ c) (hn : n < 1000) :
    Calls Tryz.prog 75 #[.pointer (some ⟨g, 0, none⟩), .slice A n c] w fun e w' => e = .returned (.bool (l.all (hasB p.T))) ∧ Below w.heap.size w w' := by
  have HP := hide h
  have HR := hide hr
  have HL := hide hl
  obtain ⟨r, hr'⟩ : ∃ r : Bool, l.all (hasB p.T) = r := ⟨_, rfl⟩
  rw [hr']
  have HRR := hide hr'
  clear h hr hl hr'
  go_enter Tryz.func75, Tryz.ntmps75
  go_wp2
  go_loopw [5] (fun iv wr => ∃ k : Nat, k ≤ n ∧ iv = .int .i64 (k : Int) ∧ Below w.heap.size w wr ∧ (l.take k).all (hasB p.T) = true) (fun iv _ => n - (intOf iv).toNat)
  case atStart => exact ⟨0, by omega, rfl, Below.refl _ _, by simp⟩
  case round =>
    obtain ⟨k, hk, rfl, hb, ha⟩ := hrel
    have HB := hide hb
    have HA := hide ha
    clear hb ha
    by_cases hlt : k < n
    · obtain ⟨ad, u, rfl, _, hu, hcl⟩ := (HR.out.below HB.out).at_ hlt
      rw [List.getElem?_map, List.getElem?_eq_getElem (by rw [HL.out]; exact hlt)] at hu
      injection hu with hu
      subst hu
      have HX := hide (List.getElem?_eq_getElem (l := l) (i := k) (by rw [HL.out]; exact hlt))
      generalize l[k]'(by rw [HL.out]; exact hlt) = x at HX hcl
      have hkc : k < c := by omega
      cases hx : hasB p.T x
      · have HXB := hide hx
        clear hx
        go_wp2_with fail
        refine (rget_at x _ (HP.out.below HB.out)).mono ?_
        rintro e w1 ⟨rfl, hb⟩
        rw [HXB.out]
        simp only [Bool.false_eq_true, if_false]
        have HB1 := hide (HB.out.trans (hb.mono HB.out.size))
        clear hb
        have HW := hide (atP_wf HP.out.rng x)
        generalize atP p.T x = t at HW ⊢
        go_upto_region 5 with (first
          | (refine wpList_store_new rfl 67 (.tmp 6) (.tmp 21) rfl _ t.cells (termV t) (by rfl) (by rfl) rfl sizT rfl (TD.one _) ?_
             intro w5 G5 L5 Z5
             have HXS := hide G5
             have HB2 := hide (HB1.out.trans (L5.mono HB1.out.size))
             clear G5 L5 Z5)
          | fail)
        go_wp2
        go_ret
        refine ⟨ret_b6r ?_, HB2.out⟩
        rw [← HRR.out, eq_comm]
        cases hall : l.all (hasB p.T)
        · rfl
        · rw [List.all_eq_true] at hall
          have := hall x (List.mem_of_getElem? HX.out)
          rw [HXB.out] at this
          cases this
      · have HXB := hide hx
        clear hx
        go_wp2_with fail
        refine (rget_at x _ (HP.out.below HB.out)).mono ?_
        rintro e w1 ⟨rfl, hb⟩
        rw [HXB.out]
        simp only [if_true]
        have HB1 := hide (HB.out.trans (hb.mono HB.out.size))
        clear hb
        have HW := hide (atP_wf HP.out.rng x)
        generalize atP p.T x = t at HW ⊢
        go_upto_region 5 with (first
          | (refine wpList_store_new rfl 67 (.tmp 6) (.tmp 21) rfl _ t.cells (termV t) (by rfl) (by rfl) rfl sizT rfl (TD.one _) ?_
             intro w5 G5 L5 Z5
             have HXS := hide G5
             have HB2 := hide (HB1.out.trans (L5.mono HB1.out.size))
             clear G5 L5 Z5)
          | fail)
        go_wp2
        go_roundw
        case measure => simp [intOf]; omega
        case rel => exact ⟨k + 1, by omega, by go_num, HB2.out, by rw [List.take_add_one, HX.out, List.all_append, HA.out]; simp [HXB.out]⟩
    · obtain rfl : k = n := by omega
      go_wp2
      go_ret
      refine ⟨ret_b6r ?_, HB.out⟩
      have q := HA.out
      rw [← HL.out, List.take_length] at q
      rw [← HRR.out, q]
theorem const_r (n : Int) (hn : U64 n) (w : World) (h : RefAt w base F g p) (hbase : base ≤ w.heap.size) :
    Calls Tryz.prog 20 #[.pointer (some ⟨g, 0, none⟩), .int .u64 n] w (RetR base g F w (putR p (constT n))) := by
  have HP := hide h
  have HW := hide (constT_wf hn)
  have q := fun (w : World) => build_const n w
  clear h hn
  go_enter Tryz.func20, Tryz.ntmps20
  go_wp2_with fail
  refine (rput_any _ HW.out _ HP.out hbase).mono ?_
  rintro e w1 ⟨rfl, hr⟩
  have HR := hide hr
  clear hr
  go_wp2
  go_ret2
  exact ⟨rfl, HR.out⟩
theorem var_r (n x : Int) (h0 : 0 ≤ n) (h1 : n < 9223372036854775808) (hx : I8 x) (w : World) (h : RefAt w base F g p) (hbase : base ≤ w.heap.size) :
    Calls Tryz.prog 21 #[.pointer (some ⟨g, 0, none⟩), .int .i64 n, .int .i8 x] w (RetR base g F w (putR p (varT n x))) := by
  have HP := hide h
  have HW := hide (varT_wf (n := n) (by unfold U64; omega) hx)
  have hwr : IntKind.u64.wrap n = n := by rw [IntKind.wrap_u64]; omega
  have q := fun (w : World) => build_var n x w
  have hd : decide (n < 0) = false := by simp; omega
  clear h hx
  go_enter Tryz.func21, Tryz.ntmps21
  go_wp2_with fail
  refine (rput_any _ HW.out _ HP.out hbase).mono ?_
  rintro e w1 ⟨rfl, hr⟩
  have HR := hide hr
  clear hr
  go_wp2
  go_ret2
  exact ⟨rfl, HR.out⟩
end
end Go.Proofs.YtfjflefgclfbfaaGreat
end
section
namespace Go.Proofs.YtfjflefgclfbfaaGreat
open Go.RowKit
set_option linter.unusedVariables false
set_option linter.unusedSimpArgs false
set_option maxRecDepth 100000
theorem less_cut {x n : Int} (h : U64 n) : (x = 8 → decide (n < 256) = decide (n = cutV x n)) ∧ (x = 16 → decide (n < 65536) = decide (n = cutV x n)) ∧ (x = 32 → decide (n < 4294967296) = decide (n = cutV x n)) := by
  unfold U64 at h
  refine ⟨fun e => ?_, fun e => ?_, fun e => ?_⟩ <;> (subst e; rw [decide_eq_decide]; unfold cutV; simp; omega)
section
variable {base g : Nat} {F : Nat → Prop} {p : PS}
set_option maxHeartbeats 4000000 in
theorem narrow_r (x a : Int) (w : World) (h : RefAt w base F g p) :
    Calls Tryz.prog 12 #[.pointer (some ⟨g, 0, none⟩), .int .i64 a, .int .i8 x] w fun e w' => e = .returned (.bool (hasB p.T a && (wdB x && narrowP p.T a x))) ∧ Below w.heap.size w w' := by
  obtain ⟨t, ht⟩ : ∃ t, atP p.T a = t := ⟨_, rfl⟩
  have htw : t.wf := by rw [← ht]; exact atP_wf h.rng a
  obtain ⟨r, hr⟩ : ∃ r, narrowP p.T a x = r := ⟨_, rfl⟩
  rw [hr]
  unfold narrowP at hr
  rw [ht] at hr
  have HR := hide hr
  have HT := hide ht
  have HU := hide htw.2.2.2.1
  have HP := hide h
  obtain ⟨hb, hhb⟩ : ∃ hb, hasB p.T a = hb := ⟨_, rfl⟩
  obtain ⟨wb, hwb⟩ : ∃ wb, wdB x = wb := ⟨_, rfl⟩
  rw [hhb, hwb]
  have HHB := hide hhb
  have HWB := hide hwb
  clear h ht htw hr hhb hwb
  go_enter Tryz.func12, Tryz.ntmps12
  go_wp2_with fail
  refine (rget_at a _ HP.out).mono ?_
  rintro e w1 ⟨rfl, hb1⟩
  have HB1 := hide hb1
  clear hb1 HP
  rw [HT.out, HHB.out]
  obtain ⟨er, her⟩ : ∃ e : Int, (if hb = true then 0 else 2) = e := ⟨_, rfl⟩
  rw [her]
  have HER := hide her
  clear her
  go_upto_region 2 with (first
    | (refine wpList_store_new rfl 67 (.tmp 7) (.tmp 13) rfl _ t.cells (termV t) (by rfl) (by rfl) rfl sizT rfl (TD.one _) ?_
       intro w5 G5 L5 Z5
       have HX := hide G5
       have HB2 := hide (HB1.out.trans (L5.mono HB1.out.size))
       clear G5 L5 Z5)
    | fail)
  clear HB1
  cases hb
  · have her : er = 2 := by rw [← HER.out]; rfl
    subst her
    go_wp2
    go_ret
    exact ⟨rfl, HB2.out⟩
  have her : er = 0 := by rw [← HER.out]; rfl
  subst her
  go_wp2_with fail
  refine (rwidth_any x _).mono ?_
  rintro e w6 ⟨rfl, rfl⟩
  rw [HWB.out]
  cases wb
  · go_wp2
    go_ret
    exact ⟨rfl, HB2.out⟩
  have HX0 := hide (wd_of HWB.out)
  have b0 := HX.out.cell 0
  have b2 := HX.out.cell 2
  have b3 := HX.out.cell 3
  simp [TD.cells] at b0 b2 b3
  cases h64 : (x == 64)
  rotate_left
  · go_wp2
    go_ret
    exact ⟨ret_b6r (by rw [← HR.out]; simp at h64; simp [h64]), HB2.out⟩
  cases hk0 : (t.kind == 0)
  rotate_left
  · have hx3 := HX0.out
    have hx : x = 8 ∨ x = 16 ∨ x = 32 := by simp at h64; omega
    have e0 : t.kind = 0 := by simpa using hk0
    clear hx3
    have HK := hide hk0
    rcases hx with rfl | rfl | rfl
    · go_wp2
      go_ret
      exact ⟨ret_b6r (by rw [← HR.out, (less_cut HU.out).1 rfl]; simp [e0]), HB2.out⟩
    · go_wp2
      go_ret
      exact ⟨ret_b6r (by rw [← HR.out, (less_cut HU.out).2.1 rfl]; simp [e0]), HB2.out⟩
    · go_wp2
      go_ret
      exact ⟨ret_b6r (by rw [← HR.out, (less_cut HU.out).2.2 rfl]; simp [e0]), HB2.out⟩
  cases hk3 : (t.kind == 3)
  rotate_left
  · go_wp2
    go_ret
    exact ⟨ret_b6r (by rw [← HR.out]; simp at h64 hk0 hk3; simp [h64, hk3]), HB2.out⟩
  cases hk2 : (t.kind == 2)
  rotate_left
  · cases hw : (t.w == 32)
    · go_wp2
      go_ret
      exact ⟨ret_b6r (by rw [← HR.out]; simp at h64 hk0 hk3 hk2 hw; simp [h64, hk2, hw]), HB2.out⟩
    · cases hx32 : (x == 32)
      all_goals
        go_wp2
        go_ret
        exact ⟨ret_b6r (by rw [← HR.out]; simp at h64 hk0 hk3 hk2 hw hx32; simp [h64, hk2, hw, hx32]), HB2.out⟩
  cases hk4 : (t.kind == 4)
  rotate_left
  · go_wp2
    go_ret
    exact ⟨ret_b6r (by rw [← HR.out]; simp at h64 hk4; simp [h64, hk4]), HB2.out⟩
  cases hk1 : (t.kind == 1)
  · go_wp2
    go_ret
    exact ⟨ret_b6r (by rw [← HR.out]; simp at h64 hk0 hk3 hk2 hk4 hk1; simp [h64, hk0, hk3, hk2, hk4, hk1]), HB2.out⟩
  · go_wp2
    go_ret
    exact ⟨ret_b6r (by rw [← HR.out]; simp at h64 hk0 hk3 hk2 hk4 hk1; simp [h64, hk1]), HB2.out⟩
theorem commutes_r (op : Int) (w : World) : Calls Tryz.prog 79 #[.int .i8 op] w fun e w' => e = .returned (.bool (turnsB op)) ∧ w = w' := by
  cases h0 : (op == 0)
  rotate_left
  · go_enter Tryz.func79, Tryz.ntmps79
    go_wp2
    go_ret
    exact ⟨ret_b6r (by unfold turnsB; simp [h0]), rfl⟩
  cases h2 : (op == 2)
  rotate_left
  · go_enter Tryz.func79, Tryz.ntmps79
    go_wp2
    go_ret
    exact ⟨ret_b6r (by unfold turnsB; simp [h0, h2]), rfl⟩
  cases h4 : (op == 4)
  rotate_left
  · go_enter Tryz.func79, Tryz.ntmps79
    go_wp2
    go_ret
    exact ⟨ret_b6r (by unfold turnsB; simp [h0, h2, h4]), rfl⟩
  cases h5 : (op == 5)
  rotate_left
  · go_enter Tryz.func79, Tryz.ntmps79
    go_wp2
    go_ret
    exact ⟨ret_b6r (by unfold turnsB; simp [h0, h2, h4, h5]), rfl⟩
  · go_enter Tryz.func79, Tryz.ntmps79
    go_wp2
    go_ret
    exact ⟨ret_b6r (by unfold turnsB; simp [h0, h2, h4, h5]), rfl⟩
theorem flag_r (b : Bool) (w : World) : Calls Tryz.prog 82 #[.bool b] w fun e w' => e = .returned (.int .u64 (if b = true then 1 else 0)) ∧ w = w' := by
  cases b
  · go_enter Tryz.func82, Tryz.ntmps82
    go_wp2
    go_ret
    exact ⟨rfl, rfl⟩
  · go_enter Tryz.func82, Tryz.ntmps82
    go_wp2
    go_ret
    exact ⟨rfl, rfl⟩
set_option maxHeartbeats 2000000 in
theorem operand_r (x k : Int) (hx : x = 32 ∨ x = 64) (w : World) (h : RefAt w base F g p) (hbase : base ≤ w.heap.size) :
    Calls Tryz.prog 76 #[.pointer (some ⟨g, 0, none⟩), .int .i8 x, .int .i64 k] w (RetR base g F w (operandP p x k)) := by
  obtain ⟨t, ht⟩ : ∃ t, atP p.T k = t := ⟨_, rfl⟩
  have htw : t.wf := by rw [← ht]; exact atP_wf h.rng k
  have HE : Hid (operandP p x k = if t.kind = 0 then putR p (constT (cutV x t.n)) else if x = 32 ∧ t.kind = 3 ∧ t.w = 32 then (p, t.a, 0) else (p, k, 0)) := hide (by unfold operandP; rw [ht])
  obtain ⟨r, hr⟩ : ∃ r, operandP p x k = r := ⟨_, rfl⟩
  rw [hr] at HE ⊢
  have HT := hide ht
  have HN := hide htw.2.2.2.1
  have HU := hide (cutV_u64 (x := x) htw.2.2.2.1)
  have HP := hide (RG.refl h)
  clear h ht htw hr
  go_enter Tryz.func76, Tryz.ntmps76
  go_wp2_with fail
  refine (get_r k _ HP.out.pool).mono ?_
  rintro e w1 ⟨rfl, hb⟩
  have HP1 := hide (HP.out.step hb)
  clear hb HP
  rw [HT.out]
  go_upto_region 2 with (first
    | (refine wpList_store_new rfl 67 (.tmp 8) (.tmp 11) rfl _ t.cells (termV t) (by rfl) (by rfl) rfl sizT rfl (TD.one _) ?_
       intro w5 G5 L5 Z5
       have HX := hide G5
       have HP2 := hide (HP1.out.step L5)
       clear G5 L5 Z5)
    | fail)
  obtain ⟨b8, hb8⟩ : ∃ b, w1.heap.size = b := ⟨_, rfl⟩
  rw [hb8] at HX ⊢
  have b0 := HX.out.cell 0
  have b2 := HX.out.cell 2
  have b3 := HX.out.cell 3
  have b4 := HX.out.cell 4
  simp [TD.cells] at b0 b2 b3 b4
  have hb5 : base ≤ w5.heap.size := Nat.le_trans hbase HP2.out.size
  cases hk0 : (t.kind == 0)
  · cases hx32 : (x == 32)
    · go_wp2
      go_ret2
      rw [HE.out, if_neg (by simpa using hk0), if_neg (by simp at hx32; simp [hx32])]
      exact RetR.same HP2.out
    · cases hk3 : (t.kind == 3)
      · go_wp2
        go_ret2
        rw [HE.out, if_neg (by simpa using hk0), if_neg (by simp at hk3; simp [hk3])]
        exact RetR.same HP2.out
      · cases hw32 : (t.w == 32)
        · go_wp2
          go_ret2
          rw [HE.out, if_neg (by simpa using hk0), if_neg (by simp at hw32; simp [hw32])]
          exact RetR.same HP2.out
        · go_wp2
          go_ret2
          rw [HE.out, if_neg (by simpa using hk0), if_pos ⟨by simpa using hx32, by simpa using hk3, by simpa using hw32⟩]
          exact RetR.same HP2.out
  · go_wp2_with fail
    refine (rcut_any _ _ HN.out _).mono ?_
    rintro e w6 ⟨rfl, rfl⟩
    go_wp2_with fail
    refine (const_r _ HU.out _ HP2.out.pool hb5).mono ?_
    rintro e w7 ⟨rfl, hr⟩
    have HR := hide hr
    clear hr
    go_wp2
    go_ret2
    rw [HE.out, if_pos (by simpa using hk0)]
    exact RetR.from HP2.out ⟨rfl, HR.out⟩
theorem zext_r_bad (x a : Int) (w : World) (h : RefAt w base F g p) (hbad : hasB p.T a = false ∨ wdB x = false) : Calls Tryz.prog 23 #[.pointer (some ⟨g, 0, none⟩), .int .i8 x, .int .i64 a] w (RetR base g F w (p, 0, 2)) := by
  have HP := hide (RG.refl h)
  obtain ⟨wb, hwb⟩ : ∃ wb, wdB x = wb := ⟨_, rfl⟩
  have HWB := hide hwb
  have HBAD := hide hbad
  clear h hwb hbad
  go_enter Tryz.func23, Tryz.ntmps23
  go_wp2_with fail
  refine (rwidth_any x _).mono ?_
  rintro e w1 ⟨rfl, rfl⟩
  rw [HWB.out]
  cases wb
  · go_wp2
    go_ret2
    exact RetR.same HP.out
  · go_wp2_with fail
    have hb0 : Below w.heap.size w (w.alloc (.cells #[.int .i64 a] 3)) := bl_alloc' w _
    refine (rthere_any [a] _ 1 1 _ (HP.out.pool.below hb0) (reads_list w 3 [.int .i64 a] 1 rfl) rfl (Nat.le_refl _) (by omega)).mono ?_
    rintro e w1 ⟨rfl, hb⟩
    have HP1 := hide ((HP.out.step hb0).step hb)
    have hh : hasB p.T a = false := HBAD.out.resolve_right (by rw [HWB.out]; simp)
    rw [show [a].all (hasB p.T) = false by simp [hh]]
    clear hb hb0 hh
    go_wp2
    go_ret2
    exact RetR.same HP1.out
set_option maxHeartbeats 4000000 in
theorem zext_r_good (x : Int) (hx : wdB x = true) : ∀ (f : Nat) (a : Int) (hb : hasB p.T a = true) (F : Nat → Prop) (r : RS) (hz : zextF f p x a = some r) (w : World) (h : RefAt w base F g p) (hbase : base ≤ w.heap.size),
    Calls Tryz.prog 23 #[.pointer (some ⟨g, 0, none⟩), .int .i8 x, .int .i64 a] w (RetR base g F w r) := by
  intro f
  induction f with
  | zero => intro a hb F r hz; cases hz
  | succ f ih =>
  intro a hb F r hz w h hbase
  have HIH := hide ih
  obtain ⟨t, ht⟩ : ∃ t, atP p.T a = t := ⟨_, rfl⟩
  have htw : t.wf := by rw [← ht]; exact atP_wf h.rng a
  obtain ⟨nb, hnb⟩ : ∃ nb, narrowP p.T a x = nb := ⟨_, rfl⟩
  have HE := hide (show (if x = 64 then some (p, a, 0) else if t.kind = 0 then some (putR p (constT (cutV x t.n))) else if nb = true then some (p, a, 0) else if t.kind = 3 then zextF f p x t.a else some (putR p ⟨3, 0, x, 0, a, 0, 0⟩)) = some r by rw [← hz, zextF_succ, ht, hnb])
  have HT := hide ht
  have HNB := hide hnb
  have HHB := hide hb
  have HWX := hide hx
  have HN := hide htw.2.2.2.1
  have HU := hide (cutV_u64 (x := x) htw.2.2.2.1)
  have HAI := hide (has_i64 h.wf hb)
  have HTA := hide (fun hk => by have := (has_part h.wf hb (by rw [ht]; exact hk)).2.2; rw [ht] at this; exact this : t.kind = 3 → hasB p.T t.a = true)
  have HZW := hide (zextT_wf (has_i64 h.wf hb) (by have := wd_of hx; unfold I8; omega : I8 x))
  have qz := fun (w : World) => build_zext a x w
  have HP := hide (RG.refl h)
  clear h ht htw hz hnb ih hb hx
  go_enter Tryz.func23, Tryz.ntmps23
  go_wp2_with fail
  refine (rwidth_any x _).mono ?_
  rintro e w1 ⟨rfl, rfl⟩
  rw [HWX.out]
  go_wp2_with fail
  have hb0 : Below w.heap.size w (w.alloc (.cells #[.int .i64 a] 3)) := bl_alloc' w _
  refine (rthere_any [a] _ 1 1 _ (HP.out.pool.below hb0) (reads_list w 3 [.int .i64 a] 1 rfl) rfl (Nat.le_refl _) (by omega)).mono ?_
  rintro e w1 ⟨rfl, hb⟩
  have HP1 := hide ((HP.out.step hb0).step hb)
  rw [show [a].all (hasB p.T) = true by simp [HHB.out]]
  clear hb hb0 HP
  go_wp2_with fail
  refine (get_r a _ HP1.out.pool).mono ?_
  rintro e w2 ⟨rfl, hb⟩
  have HP2' := hide (HP1.out.step hb)
  clear hb HP1
  rw [HT.out]
  go_upto_region 4 with (first
    | (refine wpList_store_new rfl 67 (.tmp 8) (.tmp 21) rfl _ t.cells (termV t) (by rfl) (by rfl) rfl sizT rfl (TD.one _) ?_
       intro w5 G5 L5 Z5
       have HX := hide G5
       have HP2 := hide (HP2'.out.step L5)
       clear G5 L5 Z5)
    | fail)
  obtain ⟨b8, hb8⟩ : ∃ b, w2.heap.size = b := ⟨_, rfl⟩
  rw [hb8] at HX ⊢
  clear HP2'
  have b0 := HX.out.cell 0
  have b3 := HX.out.cell 3
  simp [TD.cells] at b0 b3
  have hb5 : base ≤ w5.heap.size := Nat.le_trans hbase HP2.out.size
  cases h64 : (x == 64)
  rotate_left
  · go_wp2
    go_ret2
    have he := HE.out
    rw [if_pos (by simpa using h64)] at he
    injection he with he
    rw [← he]
    exact RetR.same HP2.out
  have hx64 : x ≠ 64 := by simpa using h64
  cases hk0 : (t.kind == 0)
  rotate_left
  · have hk0' : t.kind = 0 := by simpa using hk0
    have HK := hide hk0'
    clear hk0'
    go_wp2_with fail
    refine (rcut_any _ _ HN.out _).mono ?_
    rintro e w6 ⟨rfl, rfl⟩
    go_wp2_with fail
    refine (const_r _ HU.out _ HP2.out.pool hb5).mono ?_
    rintro e w7 ⟨rfl, hr⟩
    have HR := hide hr
    clear hr
    go_wp2
    go_ret2
    have he := HE.out
    rw [if_neg hx64, if_pos HK.out] at he
    injection he with he
    rw [← he]
    exact RetR.from HP2.out ⟨rfl, HR.out⟩
  have hkn0 : t.kind ≠ 0 := by simpa using hk0
  go_wp2_with fail
  refine (narrow_r x a _ HP2.out.pool).mono ?_
  rintro e w6 ⟨rfl, hb⟩
  have HP3 := hide (HP2.out.step hb)
  have HX3 := hide (HX.out.below hb HX.out.lt)
  rw [HHB.out, HWX.out, HNB.out]
  clear hb b0 b3
  have b0 := HX3.out.cell 0
  have b4 := HX3.out.cell 4
  simp [TD.cells] at b0 b4
  have hb6 : base ≤ w6.heap.size := Nat.le_trans hbase HP3.out.size
  cases nb
  rotate_left
  · go_wp2
    go_ret2
    have he := HE.out
    rw [if_neg hx64, if_neg hkn0, if_pos trivial] at he
    injection he with he
    rw [← he]
    exact RetR.same HP3.out
  cases hk3 : (t.kind == 3)
  · have hkn3 : t.kind ≠ 3 := by simpa using hk3
    go_wp2_with fail
    refine (rput_any _ HZW.out _ HP3.out.pool hb6).mono ?_
    rintro e w7 ⟨rfl, hr⟩
    have HR := hide hr
    clear hr
    go_wp2
    go_ret2
    have he := HE.out
    rw [if_neg hx64, if_neg hkn0, if_neg (by simp), if_neg hkn3] at he
    injection he with he
    rw [← he]
    exact RetR.from HP3.out ⟨rfl, HR.out⟩
  · have hk3' : t.kind = 3 := by simpa using hk3
    have hrec : zextF f p x t.a = some r := by
      have he := HE.out
      rw [if_neg hx64, if_neg hkn0, if_neg (by simp), if_pos hk3'] at he
      exact he
    have HREC := hide hrec
    have HTB := hide (HTA.out hk3')
    clear hrec hk3'
    go_wp2_with fail
    refine (HIH.out t.a HTB.out _ r HREC.out _ HP3.out.pool hb6).mono ?_
    rintro e w7 ⟨rfl, hr⟩
    have HR := hide hr
    clear hr
    go_wp2
    go_ret2
    exact RetR.from HP3.out ⟨rfl, HR.out⟩
/-- The document's Zext. -/
theorem zext_r (f : Nat) (x a : Int) (r : RS) (hz : zextO f p x a = some r) (w : World) (h : RefAt w base F g p) (hbase : base ≤ w.heap.size) :
    Calls Tryz.prog 23 #[.pointer (some ⟨g, 0, none⟩), .int .i8 x, .int .i64 a] w (RetR base g F w r) := by
  unfold zextO at hz
  split at hz
  · rename_i hbad
    injection hz with hz
    rw [← hz]
    exact zext_r_bad x a w h hbad
  · rename_i hok
    have h2 : hasB p.T a = true ∧ wdB x = true := by
      cases e1 : hasB p.T a <;> cases e2 : wdB x <;> simp_all
    exact zext_r_good x h2.2 f a h2.1 F r hz w h hbase
end
end Go.Proofs.YtfjflefgclfbfaaGreat
end
section
namespace Go.Proofs.YtfjflefgclfbfaaGreat
open Go.RowKit
set_option linter.unusedVariables false
set_option linter.unusedSimpArgs false
set_option maxRecDepth 100000
/-- The document's Op at a fuel. -/
def ROpC (base g f : Nat) : Prop := ∀ (op x a b : Int) (F : Nat → Prop) (p : PS) (r : RS) (hO : opF f p op x a b = some r) (W : World) (h : RefAt W base F g p) (hbase : base ≤ W.heap.size),
  Calls Tryz.prog 22 #[.pointer (some ⟨g, 0, none⟩), .int .i8 op, .int .i8 x, .int .i64 a, .int .i64 b] W (RetR base g F W r)
/-- The laws of a constant on the right; none: the fuel does not reach; some none: no law fits. -/
def byF (f : Nat) (p : PS) (op x a : Int) (s : TD) (d : Int) : Option (Option RS) :=
  if assocB p.T s op x true = true then (bindR (putR p (constT (cutV x (IntKind.u64.wrap ((atP p.T s.b).n + d))))) fun q z => opF f q 0 x s.a z).map some
  else if sameB op x d = true then (zextF f p x a).map some
  else if nilB op d = true then some (some (putR p (constT 0)))
  else some none
def RetB (base g : Nat) (F : Nat → Prop) (w : World) (p : PS) (q : Option RS) (e : Ending) (w' : World) : Prop :=
  match q with
  | none => e = .returned (.tuple #[.int .i64 0, .bool false, .int .i64 0]) ∧ ∃ F', RG base g F w F' p w'
  | some r => e = .returned (.tuple #[.int .i64 r.2.1, .bool true, .int .i64 r.2.2]) ∧ ∃ F', RG base g F w F' r.1 w'
theorem u64_max : U64 18446744073709551615 := by unfold U64; omega
theorem wrap_u64' (n : Int) : U64 (IntKind.u64.wrap n) := by unfold U64; rw [IntKind.wrap_u64]; omega
section
variable {base g f : Nat}
set_option maxHeartbeats 8000000 in
theorem by_assoc (hIH : ROpC base g f) (op x a : Int) (s : TD) (d : Int) (hd : U64 d) (hs : s.wf) (F : Nat → Prop) (p : PS) (r : RS) (W : World) (h : RefAt W base F g p) (hbase : base ≤ W.heap.size) (hA : assocB p.T s op x true = true)
    (hr : (bindR (putR p (constT (cutV x (IntKind.u64.wrap ((atP p.T s.b).n + d))))) fun q z => opF f q 0 x s.a z) = some r) :
    Calls Tryz.prog 80 #[.pointer (some ⟨g, 0, none⟩), .int .i8 op, .int .i8 x, .int .i64 a, termV s, .int .u64 d] W fun e w' => e = .returned (.tuple #[.int .i64 r.2.1, .bool true, .int .i64 r.2.2]) ∧ ∃ F', RG base g F W F' r.1 w' := by
  unfold assocB at hA
  simp only [Bool.and_eq_true, beq_iff_eq, Bool.true_and] at hA
  obtain ⟨rfl, hk, q1, q2, q3⟩ := hA
  obtain ⟨t, ht⟩ : ∃ t, atP p.T s.b = t := ⟨_, rfl⟩
  rw [ht] at hk hr
  rw [Int.add_comm] at hr
  have HIH := hide hIH
  have HT := hide ht
  have HK := hide hk
  have HD := hide hd
  have HR := hide hr
  have HU := hide (cutV_u64 (x := x) (wrap_u64' (d + t.n)))
  have HP := hide (RG.of_below h (bl_alloc' W (.cells s.cells.toArray 67)))
  have HZ := hide (Blk.new W 67 s.cells.toArray)
  have k1 : (s.kind == 2) = true := by simpa using q1
  have k2 : (s.op == 0) = true := by simpa using q2
  have k3 : (s.w == x) = true := by simpa using q3
  have k4 : (t.kind == 0) = true := by simpa using hk
  have hw0 := bl_alloc' W (.cells s.cells.toArray 67)
  have HNF := hide (fun q => by have := (h.fb _ q).2; omega : ¬ F W.heap.size)
  have hbw := Nat.le_trans hbase hw0.size
  clear h hr ht hk hd hIH hs hw0 q1 q2 q3
  unfold termV
  go_enter Tryz.func80, Tryz.ntmps80
  go_upto_region 1 with fail
  generalize W.alloc (.cells s.cells.toArray 67) = w1 at HP HZ hbw ⊢
  obtain ⟨bs, hbs⟩ : ∃ b, W.heap.size = b := ⟨_, rfl⟩
  rw [hbs] at HZ HNF ⊢
  clear hbs
  have c0 := HZ.out.cell 0
  have c1 := HZ.out.cell 1
  have c2 := HZ.out.cell 2
  have c5 := HZ.out.cell 5
  simp [TD.cells] at c0 c1 c2 c5
  go_wp2_with fail
  refine (get_r s.b _ HP.out.pool).mono ?_
  rintro e w2 ⟨rfl, hb⟩
  have HP1 := hide (HP.out.step hb)
  have HZ1 := hide (HZ.out.below hb HZ.out.lt)
  rw [HT.out]
  clear hb HP HZ c0 c1 c2 c5
  go_upto_region 3 with (first
    | (refine wpList_store_new rfl 67 (.tmp 15) (.tmp 45) rfl _ t.cells (termV t) (by rfl) (by rfl) rfl sizT rfl (TD.one _) ?_
       intro w5 G5 L5 Z5
       have HX := hide G5
       have HP2 := hide (HP1.out.step L5)
       have HZ2 := hide (HZ1.out.below L5 HZ1.out.lt)
       clear G5 L5 Z5)
    | fail)
  obtain ⟨b8, hb8⟩ : ∃ b, w2.heap.size = b := ⟨_, rfl⟩
  rw [hb8] at HX ⊢
  clear HP1 HZ1 hb8
  have b0 := HX.out.cell 0
  have b3 := HX.out.cell 3
  simp [TD.cells] at b0 b3
  have hb5 : base ≤ w5.heap.size := Nat.le_trans hbase HP2.out.size
  go_wp2_with fail
  refine (rcut_any _ _ (wrap_u64' _) _).mono ?_
  rintro e w6 ⟨rfl, rfl⟩
  go_wp2_with fail
  refine (const_r _ HU.out _ HP2.out.pool hb5).mono ?_
  rintro e w7 ⟨rfl, F1, hp⟩
  obtain ⟨q, hq⟩ : ∃ q, putR p (constT (cutV x (IntKind.u64.wrap (d + t.n)))) = q := ⟨_, rfl⟩
  rw [hq] at HR hp ⊢
  have HP3 := hide (HP2.out.trans hp)
  have HZ3 := hide (hp.blk HZ2.out HNF.out)
  obtain ⟨p1, n1, e1⟩ := q
  clear hp hq HP2 HZ2 b0 b3
  dsimp only at HR HP3 ⊢
  have HR' : Hid ((if e1 = 0 then opF f p1 0 x s.a n1 else some (p1, 0, e1)) = some r) := hide (by have := HR.out; unfold bindR at this; exact this)
  have hb7 : base ≤ w7.heap.size := Nat.le_trans hbase HP3.out.size
  have c4 := HZ3.out.1.cell 4
  simp [TD.cells] at c4
  cases he : (e1 == 0)
  · have hr2 := HR'.out
    rw [if_neg (by simpa using he)] at hr2
    injection hr2 with hr2
    subst hr2
    go_wp2
    exact bodyPost_ret (v := .tuple #[.int .i64 0, .bool true, .int .i64 e1]) (by simp [results, Tryz.results80, go_sem]) rfl ⟨rfl, _, HP3.out⟩
  · have hr2 := HR'.out
    rw [if_pos (by simpa using he)] at hr2
    have HR2 := hide hr2
    clear hr2
    go_wp2_with fail
    refine (HIH.out 0 x s.a n1 _ p1 r HR2.out _ HP3.out.pool hb7).mono ?_
    rintro e w8 ⟨rfl, F2, hp2⟩
    have HP4 := hide (HP3.out.trans hp2)
    clear hp2
    obtain ⟨p2, n2, e2⟩ := r
    dsimp only at HP4 ⊢
    go_wp2
    exact bodyPost_ret (v := .tuple #[.int .i64 n2, .bool true, .int .i64 e2]) (by simp [results, Tryz.results80, go_sem]) rfl ⟨rfl, _, HP4.out⟩
end
end Go.Proofs.YtfjflefgclfbfaaGreat
end
