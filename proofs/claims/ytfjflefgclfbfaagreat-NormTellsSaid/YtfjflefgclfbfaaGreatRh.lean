/-
  The document's may: operations and conditions. Conditions: those written in each statement.
-/
import Derived.Test.YtfjflefgclfbfaaGreatQa
namespace Go.Proofs.YtfjflefgclfbfaaGreat
open Go.RowKit
set_option linter.unusedVariables false
set_option linter.unusedSimpArgs false
set_option maxRecDepth 100000
section
variable {base g : Nat} {F : Nat → Prop} {p : PS}
set_option maxHeartbeats 4000000 in
theorem rmay_2 (t : TD) (ht : t.wf) (n0 : t.kind = 2) (w : World) (h : RefAt w base F g p) : Calls Tryz.prog 100 #[.pointer (some ⟨g, 0, none⟩), termV t] w fun e w' => e = .returned (.bool (okP p.T t)) ∧ Below w.heap.size w w' := by
  have HP := hide h
  have HLW := hide (likeT_rng ht)
  have HTW := hide ht
  have HB0 := hide (bl_alloc' w (.cells t.cells.toArray 67))
  have HX0 := hide (Blk.new w 67 t.cells.toArray)
  have qb := fun w => rbuild_kind t.kind w
  clear h ht
  unfold termV
  go_enter Tryz.func100, Tryz.ntmps100
  go_upto_region 1 with fail
  have HNF := hide (fun b (hb : w.heap.size ≤ b) (q : F b) => by have := (HP.out.fb b q).2; omega : ∀ b, w.heap.size ≤ b → ¬ F b)
  have HP0 := hide (HP.out.below HB0.out)
  generalize w.alloc (.cells t.cells.toArray 67) = w1 at HB0 HX0 HP0 ⊢
  obtain ⟨bx, hbx⟩ : ∃ b, w.heap.size = b := ⟨_, rfl⟩
  have HBX := hide hbx
  rw [hbx] at HX0 ⊢
  clear hbx
  have HLT := hide (show bx < w1.heap.size from HX0.out.lt)
  have q0 := HX0.out.cell 0
  simp [TD.cells] at q0
  go_upto_region 2 with fail
  have HY := hide (Blk.new w1 67 #[.int .i8 2, .int .i8 0, .int .i8 0, .int .u64 0, .int .i64 0, .int .i64 0, .int .i64 0])
  have HL := hide (bl_alloc' w1 (.cells #[.int .i8 2, .int .i8 0, .int .i8 0, .int .u64 0, .int .i64 0, .int .i64 0, .int .i64 0] 67))
  generalize w1.alloc (.cells #[.int .i8 2, .int .i8 0, .int .i8 0, .int .u64 0, .int .i64 0, .int .i64 0, .int .i64 0] 67) = w2 at HY HL ⊢
  have HB := hide (HB0.out.trans (HL.out.mono HB0.out.size))
  replace HX0 := hide (HX0.out.below HL.out HX0.out.lt)
  replace HP0 := hide (HP0.out.below HL.out)
  have HNB := hide (show bx < w1.heap.size ∧ ¬ F w1.heap.size ∧ w.heap.size ≤ w1.heap.size from ⟨HLT.out, HNF.out _ HB0.out.size, HB0.out.size⟩)
  obtain ⟨b5, hb5⟩ : ∃ b, w1.heap.size = b := ⟨_, rfl⟩
  rw [hb5] at HY HNB ⊢
  clear hb5 HL HB0 HLT q0
  have q0 := HX0.out.cell 0
  simp [TD.cells] at q0
  have q1 := HX0.out.cell 1
  simp [TD.cells] at q1
  go_upto_region 18 with (first
    | (refine wpList_store_at rfl 24 (.tmp 86) (.tmp 85) rfl b5 1 67 [.int .i8 2, .int .i8 0, .int .i8 0, .int .u64 0, .int .i64 0, .int .i64 0, .int .i64 0] [.int .i8 t.op] (.int .i8 t.op) HY.out (by rfl) (by rfl) rfl (by kernel_rfl) (by simp) (by simp [Value.oneCell']) ?_
       intro wn Gn Ln Zn
       have HYn := hide (by have h := Gn; simp [overC] at h; exact h : Blk wn b5 67 #[.int .i8 2, .int .i8 t.op, .int .i8 0, .int .u64 0, .int .i64 0, .int .i64 0, .int .i64 0])
       have HXn := hide (HX0.out.grown Ln (fun e => by injection e with e; have := HNB.out.1; omega))
       have HPn := hide (HP0.out.grown Ln HNB.out.2.1)
       have HBn := hide (HB.out.grown Ln HB.out.size (fun b q => by injection q with q; have := HNB.out.2.2; omega))
       clear Gn Ln Zn)
    | fail)
  clear q1 HY HX0 HP0 HB
  clear q0
  have HY := HYn
  have HX0 := HXn
  have HP0 := HPn
  have HB := HBn
  clear HYn HXn HPn HBn
  have q2 := HX0.out.cell 2
  simp [TD.cells] at q2
  go_upto_region 19 with (first
    | (refine wpList_store_at rfl 24 (.tmp 89) (.tmp 88) rfl b5 2 67 [.int .i8 2, .int .i8 t.op, .int .i8 0, .int .u64 0, .int .i64 0, .int .i64 0, .int .i64 0] [.int .i8 t.w] (.int .i8 t.w) HY.out (by rfl) (by rfl) rfl (by kernel_rfl) (by simp) (by simp [Value.oneCell']) ?_
       intro wn Gn Ln Zn
       have HYn := hide (by have h := Gn; simp [overC] at h; exact h : Blk wn b5 67 #[.int .i8 2, .int .i8 t.op, .int .i8 t.w, .int .u64 0, .int .i64 0, .int .i64 0, .int .i64 0])
       have HXn := hide (HX0.out.grown Ln (fun e => by injection e with e; have := HNB.out.1; omega))
       have HPn := hide (HP0.out.grown Ln HNB.out.2.1)
       have HBn := hide (HB.out.grown Ln HB.out.size (fun b q => by injection q with q; have := HNB.out.2.2; omega))
       clear Gn Ln Zn)
    | fail)
  clear q2 HY HX0 HP0 HB
  have HY := HYn
  have HX0 := HXn
  have HP0 := HPn
  have HB := HBn
  clear HYn HXn HPn HBn
  have q4 := HX0.out.cell 4
  simp [TD.cells] at q4
  go_upto_region 20 with (first
    | (refine wpList_store_at rfl 3 (.tmp 92) (.tmp 91) rfl b5 4 67 [.int .i8 2, .int .i8 t.op, .int .i8 t.w, .int .u64 0, .int .i64 0, .int .i64 0, .int .i64 0] [.int .i64 t.a] (.int .i64 t.a) HY.out (by rfl) (by rfl) rfl (by kernel_rfl) (by simp) (by simp [Value.oneCell']) ?_
       intro wn Gn Ln Zn
       have HYn := hide (by have h := Gn; simp [overC] at h; exact h : Blk wn b5 67 #[.int .i8 2, .int .i8 t.op, .int .i8 t.w, .int .u64 0, .int .i64 t.a, .int .i64 0, .int .i64 0])
       have HXn := hide (HX0.out.grown Ln (fun e => by injection e with e; have := HNB.out.1; omega))
       have HPn := hide (HP0.out.grown Ln HNB.out.2.1)
       have HBn := hide (HB.out.grown Ln HB.out.size (fun b q => by injection q with q; have := HNB.out.2.2; omega))
       clear Gn Ln Zn)
    | fail)
  clear q4 HY HX0 HP0 HB
  have HY := HYn
  have HX0 := HXn
  have HP0 := HPn
  have HB := HBn
  clear HYn HXn HPn HBn
  have q5 := HX0.out.cell 5
  simp [TD.cells] at q5
  go_upto_region 21 with (first
    | (refine wpList_store_at rfl 3 (.tmp 95) (.tmp 94) rfl b5 5 67 [.int .i8 2, .int .i8 t.op, .int .i8 t.w, .int .u64 0, .int .i64 t.a, .int .i64 0, .int .i64 0] [.int .i64 t.b] (.int .i64 t.b) HY.out (by rfl) (by rfl) rfl (by kernel_rfl) (by simp) (by simp [Value.oneCell']) ?_
       intro wn Gn Ln Zn
       have HYn := hide (by have h := Gn; simp [overC] at h; exact h : Blk wn b5 67 #[.int .i8 2, .int .i8 t.op, .int .i8 t.w, .int .u64 0, .int .i64 t.a, .int .i64 t.b, .int .i64 0])
       have HXn := hide (HX0.out.grown Ln (fun e => by injection e with e; have := HNB.out.1; omega))
       have HPn := hide (HP0.out.grown Ln HNB.out.2.1)
       have HBn := hide (HB.out.grown Ln HB.out.size (fun b q => by injection q with q; have := HNB.out.2.2; omega))
       clear Gn Ln Zn)
    | fail)
  clear q5 HY HX0 HP0 HB
  have HY := HYn
  have HX0 := HXn
  have HP0 := HPn
  have HB := HBn
  clear HYn HXn HPn HBn
  have HYL := hide (by have h := HY.out; unfold likeT; rw [if_neg (by omega), if_neg (by omega), if_pos n0]; exact h : Blk _ b5 67 (likeT t).cells.toArray)
  have heq := fun w => eql_tm HTW.out HLW.out w
  obtain ⟨dl, hdl⟩ : ∃ d, decide (t = likeT t) = d := ⟨_, rfl⟩
  have HDL := hide hdl
  rw [hdl] at heq
  clear hdl
  have z0 := HX0.out.cell 0
  have z1 := HX0.out.cell 1
  have z2 := HX0.out.cell 2
  have z4 := HX0.out.cell 4
  have z5 := HX0.out.cell 5
  have z6 := HX0.out.cell 6
  simp [TD.cells] at z0 z1 z2 z4 z5 z6
  have tok1 := True.intro
  have tok2 := True.intro
  cases dl
  · go_wp2_with (first
      | (clear tok1; refine wpList_load_at rfl 67 (.tmp 3) rfl _ (by rfl) t.cells _ (blk_list HX0.out) Tryz.underlying67 rfl sizT ?_)
      | (clear tok2; refine wpList_load_at rfl 67 (.tmp 5) rfl _ (by rfl) (likeT t).cells _ (blk_list HYL.out) Tryz.underlying67 rfl sizT ?_)
      | fail)
    go_ret
    exact ⟨by unfold okP okF askT prtL clashB; simp [n0, HDL.out], HB.out⟩
  · cases ho0 : decide (0 ≤ t.op)
    · go_wp2_with (first
        | (clear tok1; refine wpList_load_at rfl 67 (.tmp 3) rfl _ (by rfl) t.cells _ (blk_list HX0.out) Tryz.underlying67 rfl sizT ?_)
        | (clear tok2; refine wpList_load_at rfl 67 (.tmp 5) rfl _ (by rfl) (likeT t).cells _ (blk_list HYL.out) Tryz.underlying67 rfl sizT ?_)
        | fail)
      go_ret
      exact ⟨by unfold okP okF askT prtL clashB; simp [n0, HDL.out, ho0], HB.out⟩
    · cases ho1 : decide (t.op ≤ 12)
      · go_wp2_with (first
          | (clear tok1; refine wpList_load_at rfl 67 (.tmp 3) rfl _ (by rfl) t.cells _ (blk_list HX0.out) Tryz.underlying67 rfl sizT ?_)
          | (clear tok2; refine wpList_load_at rfl 67 (.tmp 5) rfl _ (by rfl) (likeT t).cells _ (blk_list HYL.out) Tryz.underlying67 rfl sizT ?_)
          | fail)
        go_ret
        exact ⟨by unfold okP okF askT prtL clashB; simp [n0, HDL.out, ho0, ho1], HB.out⟩
      · cases q32 : (t.w == 32)
        · cases q64 : (t.w == 64)
          · go_wp2_with (first
              | (clear tok1; refine wpList_load_at rfl 67 (.tmp 3) rfl _ (by rfl) t.cells _ (blk_list HX0.out) Tryz.underlying67 rfl sizT ?_)
              | (clear tok2; refine wpList_load_at rfl 67 (.tmp 5) rfl _ (by rfl) (likeT t).cells _ (blk_list HYL.out) Tryz.underlying67 rfl sizT ?_)
              | fail)
            go_ret
            exact ⟨by unfold okP okF askT prtL clashB; simp [n0, HDL.out, ho0, ho1, q32, q64], HB.out⟩
          · cases ha : hasB p.T t.a
            · have Hha := hide ha
              clear ha
              go_wp2_with (first
                | (clear tok1; refine wpList_load_at rfl 67 (.tmp 3) rfl _ (by rfl) t.cells _ (blk_list HX0.out) Tryz.underlying67 rfl sizT ?_)
                | (clear tok2; refine wpList_load_at rfl 67 (.tmp 5) rfl _ (by rfl) (likeT t).cells _ (blk_list HYL.out) Tryz.underlying67 rfl sizT ?_)
                | fail)
              refine (rhas_any t.a HP0.out).mono ?_
              rintro e w' ⟨rfl, rfl⟩
              rw [Hha.out]
              go_wp2_with (first
                | (clear tok1; refine wpList_load_at rfl 67 (.tmp 3) rfl _ (by rfl) t.cells _ (blk_list HX0.out) Tryz.underlying67 rfl sizT ?_)
                | (clear tok2; refine wpList_load_at rfl 67 (.tmp 5) rfl _ (by rfl) (likeT t).cells _ (blk_list HYL.out) Tryz.underlying67 rfl sizT ?_)
                | fail)
              go_ret
              exact ⟨by unfold okP okF askT prtL clashB; simp [n0, HDL.out, ho0, ho1, q32, q64, Hha.out], HB.out⟩
            · have Hha := hide ha
              clear ha
              go_wp2_with (first
                | (clear tok1; refine wpList_load_at rfl 67 (.tmp 3) rfl _ (by rfl) t.cells _ (blk_list HX0.out) Tryz.underlying67 rfl sizT ?_)
                | (clear tok2; refine wpList_load_at rfl 67 (.tmp 5) rfl _ (by rfl) (likeT t).cells _ (blk_list HYL.out) Tryz.underlying67 rfl sizT ?_)
                | fail)
              refine (rhas_any t.a HP0.out).mono ?_
              rintro e w' ⟨rfl, rfl⟩
              rw [Hha.out]
              cases hb : hasB p.T t.b
              · have Hhb := hide hb
                clear hb
                go_wp2_with (first
                  | (clear tok1; refine wpList_load_at rfl 67 (.tmp 3) rfl _ (by rfl) t.cells _ (blk_list HX0.out) Tryz.underlying67 rfl sizT ?_)
                  | (clear tok2; refine wpList_load_at rfl 67 (.tmp 5) rfl _ (by rfl) (likeT t).cells _ (blk_list HYL.out) Tryz.underlying67 rfl sizT ?_)
                  | fail)
                refine (rhas_any t.b HP0.out).mono ?_
                rintro e w' ⟨rfl, rfl⟩
                rw [Hhb.out]
                go_wp2_with (first
                  | (clear tok1; refine wpList_load_at rfl 67 (.tmp 3) rfl _ (by rfl) t.cells _ (blk_list HX0.out) Tryz.underlying67 rfl sizT ?_)
                  | (clear tok2; refine wpList_load_at rfl 67 (.tmp 5) rfl _ (by rfl) (likeT t).cells _ (blk_list HYL.out) Tryz.underlying67 rfl sizT ?_)
                  | fail)
                go_ret
                exact ⟨by unfold okP okF askT prtL clashB; simp [n0, HDL.out, ho0, ho1, q32, q64, Hha.out, Hhb.out], HB.out⟩
              · have Hhb := hide hb
                clear hb
                go_wp2_with (first
                  | (clear tok1; refine wpList_load_at rfl 67 (.tmp 3) rfl _ (by rfl) t.cells _ (blk_list HX0.out) Tryz.underlying67 rfl sizT ?_)
                  | (clear tok2; refine wpList_load_at rfl 67 (.tmp 5) rfl _ (by rfl) (likeT t).cells _ (blk_list HYL.out) Tryz.underlying67 rfl sizT ?_)
                  | fail)
                refine (rhas_any t.b HP0.out).mono ?_
                rintro e w' ⟨rfl, rfl⟩
                rw [Hhb.out]
                go_wp2_with (first
                  | (clear tok1; refine wpList_load_at rfl 67 (.tmp 3) rfl _ (by rfl) t.cells _ (blk_list HX0.out) Tryz.underlying67 rfl sizT ?_)
                  | (clear tok2; refine wpList_load_at rfl 67 (.tmp 5) rfl _ (by rfl) (likeT t).cells _ (blk_list HYL.out) Tryz.underlying67 rfl sizT ?_)
                  | fail)
                go_ret
                exact ⟨by unfold okP okF askT prtL clashB; simp [n0, HDL.out, ho0, ho1, q32, q64, Hha.out, Hhb.out], HB.out⟩
        · cases ha : hasB p.T t.a
          · have Hha := hide ha
            clear ha
            go_wp2_with (first
              | (clear tok1; refine wpList_load_at rfl 67 (.tmp 3) rfl _ (by rfl) t.cells _ (blk_list HX0.out) Tryz.underlying67 rfl sizT ?_)
              | (clear tok2; refine wpList_load_at rfl 67 (.tmp 5) rfl _ (by rfl) (likeT t).cells _ (blk_list HYL.out) Tryz.underlying67 rfl sizT ?_)
              | fail)
            refine (rhas_any t.a HP0.out).mono ?_
            rintro e w' ⟨rfl, rfl⟩
            rw [Hha.out]
            go_wp2_with (first
              | (clear tok1; refine wpList_load_at rfl 67 (.tmp 3) rfl _ (by rfl) t.cells _ (blk_list HX0.out) Tryz.underlying67 rfl sizT ?_)
              | (clear tok2; refine wpList_load_at rfl 67 (.tmp 5) rfl _ (by rfl) (likeT t).cells _ (blk_list HYL.out) Tryz.underlying67 rfl sizT ?_)
              | fail)
            go_ret
            exact ⟨by unfold okP okF askT prtL clashB; simp [n0, HDL.out, ho0, ho1, q32, Hha.out], HB.out⟩
          · have Hha := hide ha
            clear ha
            go_wp2_with (first
              | (clear tok1; refine wpList_load_at rfl 67 (.tmp 3) rfl _ (by rfl) t.cells _ (blk_list HX0.out) Tryz.underlying67 rfl sizT ?_)
              | (clear tok2; refine wpList_load_at rfl 67 (.tmp 5) rfl _ (by rfl) (likeT t).cells _ (blk_list HYL.out) Tryz.underlying67 rfl sizT ?_)
              | fail)
            refine (rhas_any t.a HP0.out).mono ?_
            rintro e w' ⟨rfl, rfl⟩
            rw [Hha.out]
            cases hb : hasB p.T t.b
            · have Hhb := hide hb
              clear hb
              go_wp2_with (first
                | (clear tok1; refine wpList_load_at rfl 67 (.tmp 3) rfl _ (by rfl) t.cells _ (blk_list HX0.out) Tryz.underlying67 rfl sizT ?_)
                | (clear tok2; refine wpList_load_at rfl 67 (.tmp 5) rfl _ (by rfl) (likeT t).cells _ (blk_list HYL.out) Tryz.underlying67 rfl sizT ?_)
                | fail)
              refine (rhas_any t.b HP0.out).mono ?_
              rintro e w' ⟨rfl, rfl⟩
              rw [Hhb.out]
              go_wp2_with (first
                | (clear tok1; refine wpList_load_at rfl 67 (.tmp 3) rfl _ (by rfl) t.cells _ (blk_list HX0.out) Tryz.underlying67 rfl sizT ?_)
                | (clear tok2; refine wpList_load_at rfl 67 (.tmp 5) rfl _ (by rfl) (likeT t).cells _ (blk_list HYL.out) Tryz.underlying67 rfl sizT ?_)
                | fail)
              go_ret
              exact ⟨by unfold okP okF askT prtL clashB; simp [n0, HDL.out, ho0, ho1, q32, Hha.out, Hhb.out], HB.out⟩
            · have Hhb := hide hb
              clear hb
              go_wp2_with (first
                | (clear tok1; refine wpList_load_at rfl 67 (.tmp 3) rfl _ (by rfl) t.cells _ (blk_list HX0.out) Tryz.underlying67 rfl sizT ?_)
                | (clear tok2; refine wpList_load_at rfl 67 (.tmp 5) rfl _ (by rfl) (likeT t).cells _ (blk_list HYL.out) Tryz.underlying67 rfl sizT ?_)
                | fail)
              refine (rhas_any t.b HP0.out).mono ?_
              rintro e w' ⟨rfl, rfl⟩
              rw [Hhb.out]
              go_wp2_with (first
                | (clear tok1; refine wpList_load_at rfl 67 (.tmp 3) rfl _ (by rfl) t.cells _ (blk_list HX0.out) Tryz.underlying67 rfl sizT ?_)
                | (clear tok2; refine wpList_load_at rfl 67 (.tmp 5) rfl _ (by rfl) (likeT t).cells _ (blk_list HYL.out) Tryz.underlying67 rfl sizT ?_)
                | fail)
              go_ret
              exact ⟨by unfold okP okF askT prtL clashB; simp [n0, HDL.out, ho0, ho1, q32, Hha.out, Hhb.out], HB.out⟩
set_option maxHeartbeats 4000000 in
theorem rmay_4 (t : TD) (ht : t.wf) (n0 : t.kind = 4) (w : World) (h : RefAt w base F g p) : Calls Tryz.prog 100 #[.pointer (some ⟨g, 0, none⟩), termV t] w fun e w' => e = .returned (.bool (okP p.T t)) ∧ Below w.heap.size w w' := by
  have HP := hide h
  have HLW := hide (likeT_rng ht)
  have HTW := hide ht
  have HB0 := hide (bl_alloc' w (.cells t.cells.toArray 67))
  have HX0 := hide (Blk.new w 67 t.cells.toArray)
  have qb := fun w => rbuild_kind t.kind w
  clear h ht
  unfold termV
  go_enter Tryz.func100, Tryz.ntmps100
  go_upto_region 1 with fail
  have HNF := hide (fun b (hb : w.heap.size ≤ b) (q : F b) => by have := (HP.out.fb b q).2; omega : ∀ b, w.heap.size ≤ b → ¬ F b)
  have HP0 := hide (HP.out.below HB0.out)
  generalize w.alloc (.cells t.cells.toArray 67) = w1 at HB0 HX0 HP0 ⊢
  obtain ⟨bx, hbx⟩ : ∃ b, w.heap.size = b := ⟨_, rfl⟩
  have HBX := hide hbx
  rw [hbx] at HX0 ⊢
  clear hbx
  have HLT := hide (show bx < w1.heap.size from HX0.out.lt)
  have q0 := HX0.out.cell 0
  simp [TD.cells] at q0
  go_upto_region 2 with fail
  have HY := hide (Blk.new w1 67 #[.int .i8 4, .int .i8 0, .int .i8 0, .int .u64 0, .int .i64 0, .int .i64 0, .int .i64 0])
  have HL := hide (bl_alloc' w1 (.cells #[.int .i8 4, .int .i8 0, .int .i8 0, .int .u64 0, .int .i64 0, .int .i64 0, .int .i64 0] 67))
  generalize w1.alloc (.cells #[.int .i8 4, .int .i8 0, .int .i8 0, .int .u64 0, .int .i64 0, .int .i64 0, .int .i64 0] 67) = w2 at HY HL ⊢
  have HB := hide (HB0.out.trans (HL.out.mono HB0.out.size))
  replace HX0 := hide (HX0.out.below HL.out HX0.out.lt)
  replace HP0 := hide (HP0.out.below HL.out)
  have HNB := hide (show bx < w1.heap.size ∧ ¬ F w1.heap.size ∧ w.heap.size ≤ w1.heap.size from ⟨HLT.out, HNF.out _ HB0.out.size, HB0.out.size⟩)
  obtain ⟨b5, hb5⟩ : ∃ b, w1.heap.size = b := ⟨_, rfl⟩
  rw [hb5] at HY HNB ⊢
  clear hb5 HL HB0 HLT q0
  have q0 := HX0.out.cell 0
  simp [TD.cells] at q0
  have q1 := HX0.out.cell 1
  simp [TD.cells] at q1
  go_upto_region 18 with (first
    | (refine wpList_store_at rfl 24 (.tmp 86) (.tmp 85) rfl b5 1 67 [.int .i8 4, .int .i8 0, .int .i8 0, .int .u64 0, .int .i64 0, .int .i64 0, .int .i64 0] [.int .i8 t.op] (.int .i8 t.op) HY.out (by rfl) (by rfl) rfl (by kernel_rfl) (by simp) (by simp [Value.oneCell']) ?_
       intro wn Gn Ln Zn
       have HYn := hide (by have h := Gn; simp [overC] at h; exact h : Blk wn b5 67 #[.int .i8 4, .int .i8 t.op, .int .i8 0, .int .u64 0, .int .i64 0, .int .i64 0, .int .i64 0])
       have HXn := hide (HX0.out.grown Ln (fun e => by injection e with e; have := HNB.out.1; omega))
       have HPn := hide (HP0.out.grown Ln HNB.out.2.1)
       have HBn := hide (HB.out.grown Ln HB.out.size (fun b q => by injection q with q; have := HNB.out.2.2; omega))
       clear Gn Ln Zn)
    | fail)
  clear q1 HY HX0 HP0 HB
  clear q0
  have HY := HYn
  have HX0 := HXn
  have HP0 := HPn
  have HB := HBn
  clear HYn HXn HPn HBn
  have q2 := HX0.out.cell 2
  simp [TD.cells] at q2
  go_upto_region 19 with (first
    | (refine wpList_store_at rfl 24 (.tmp 89) (.tmp 88) rfl b5 2 67 [.int .i8 4, .int .i8 t.op, .int .i8 0, .int .u64 0, .int .i64 0, .int .i64 0, .int .i64 0] [.int .i8 t.w] (.int .i8 t.w) HY.out (by rfl) (by rfl) rfl (by kernel_rfl) (by simp) (by simp [Value.oneCell']) ?_
       intro wn Gn Ln Zn
       have HYn := hide (by have h := Gn; simp [overC] at h; exact h : Blk wn b5 67 #[.int .i8 4, .int .i8 t.op, .int .i8 t.w, .int .u64 0, .int .i64 0, .int .i64 0, .int .i64 0])
       have HXn := hide (HX0.out.grown Ln (fun e => by injection e with e; have := HNB.out.1; omega))
       have HPn := hide (HP0.out.grown Ln HNB.out.2.1)
       have HBn := hide (HB.out.grown Ln HB.out.size (fun b q => by injection q with q; have := HNB.out.2.2; omega))
       clear Gn Ln Zn)
    | fail)
  clear q2 HY HX0 HP0 HB
  have HY := HYn
  have HX0 := HXn
  have HP0 := HPn
  have HB := HBn
  clear HYn HXn HPn HBn
  have q4 := HX0.out.cell 4
  simp [TD.cells] at q4
  go_upto_region 20 with (first
    | (refine wpList_store_at rfl 3 (.tmp 92) (.tmp 91) rfl b5 4 67 [.int .i8 4, .int .i8 t.op, .int .i8 t.w, .int .u64 0, .int .i64 0, .int .i64 0, .int .i64 0] [.int .i64 t.a] (.int .i64 t.a) HY.out (by rfl) (by rfl) rfl (by kernel_rfl) (by simp) (by simp [Value.oneCell']) ?_
       intro wn Gn Ln Zn
       have HYn := hide (by have h := Gn; simp [overC] at h; exact h : Blk wn b5 67 #[.int .i8 4, .int .i8 t.op, .int .i8 t.w, .int .u64 0, .int .i64 t.a, .int .i64 0, .int .i64 0])
       have HXn := hide (HX0.out.grown Ln (fun e => by injection e with e; have := HNB.out.1; omega))
       have HPn := hide (HP0.out.grown Ln HNB.out.2.1)
       have HBn := hide (HB.out.grown Ln HB.out.size (fun b q => by injection q with q; have := HNB.out.2.2; omega))
       clear Gn Ln Zn)
    | fail)
  clear q4 HY HX0 HP0 HB
  have HY := HYn
  have HX0 := HXn
  have HP0 := HPn
  have HB := HBn
  clear HYn HXn HPn HBn
  have q5 := HX0.out.cell 5
  simp [TD.cells] at q5
  go_upto_region 21 with (first
    | (refine wpList_store_at rfl 3 (.tmp 95) (.tmp 94) rfl b5 5 67 [.int .i8 4, .int .i8 t.op, .int .i8 t.w, .int .u64 0, .int .i64 t.a, .int .i64 0, .int .i64 0] [.int .i64 t.b] (.int .i64 t.b) HY.out (by rfl) (by rfl) rfl (by kernel_rfl) (by simp) (by simp [Value.oneCell']) ?_
       intro wn Gn Ln Zn
       have HYn := hide (by have h := Gn; simp [overC] at h; exact h : Blk wn b5 67 #[.int .i8 4, .int .i8 t.op, .int .i8 t.w, .int .u64 0, .int .i64 t.a, .int .i64 t.b, .int .i64 0])
       have HXn := hide (HX0.out.grown Ln (fun e => by injection e with e; have := HNB.out.1; omega))
       have HPn := hide (HP0.out.grown Ln HNB.out.2.1)
       have HBn := hide (HB.out.grown Ln HB.out.size (fun b q => by injection q with q; have := HNB.out.2.2; omega))
       clear Gn Ln Zn)
    | fail)
  clear q5 HY HX0 HP0 HB
  have HY := HYn
  have HX0 := HXn
  have HP0 := HPn
  have HB := HBn
  clear HYn HXn HPn HBn
  have HYL := hide (by have h := HY.out; unfold likeT; rw [if_neg (by omega), if_neg (by omega), if_neg (by omega), if_pos n0]; exact h : Blk _ b5 67 (likeT t).cells.toArray)
  have heq := fun w => eql_tm HTW.out HLW.out w
  obtain ⟨dl, hdl⟩ : ∃ d, decide (t = likeT t) = d := ⟨_, rfl⟩
  have HDL := hide hdl
  rw [hdl] at heq
  clear hdl
  have z0 := HX0.out.cell 0
  have z1 := HX0.out.cell 1
  have z2 := HX0.out.cell 2
  have z4 := HX0.out.cell 4
  have z5 := HX0.out.cell 5
  have z6 := HX0.out.cell 6
  simp [TD.cells] at z0 z1 z2 z4 z5 z6
  have tok1 := True.intro
  have tok2 := True.intro
  cases dl
  · go_wp2_with (first
      | (clear tok1; refine wpList_load_at rfl 67 (.tmp 3) rfl _ (by rfl) t.cells _ (blk_list HX0.out) Tryz.underlying67 rfl sizT ?_)
      | (clear tok2; refine wpList_load_at rfl 67 (.tmp 5) rfl _ (by rfl) (likeT t).cells _ (blk_list HYL.out) Tryz.underlying67 rfl sizT ?_)
      | fail)
    go_ret
    exact ⟨by unfold okP okF askT prtL clashB; simp [n0, HDL.out], HB.out⟩
  · cases ho0 : decide (0 ≤ t.op)
    · go_wp2_with (first
        | (clear tok1; refine wpList_load_at rfl 67 (.tmp 3) rfl _ (by rfl) t.cells _ (blk_list HX0.out) Tryz.underlying67 rfl sizT ?_)
        | (clear tok2; refine wpList_load_at rfl 67 (.tmp 5) rfl _ (by rfl) (likeT t).cells _ (blk_list HYL.out) Tryz.underlying67 rfl sizT ?_)
        | fail)
      go_ret
      exact ⟨by unfold okP okF askT prtL clashB; simp [n0, HDL.out, ho0], HB.out⟩
    · cases ho1 : decide (t.op ≤ 10)
      · go_wp2_with (first
          | (clear tok1; refine wpList_load_at rfl 67 (.tmp 3) rfl _ (by rfl) t.cells _ (blk_list HX0.out) Tryz.underlying67 rfl sizT ?_)
          | (clear tok2; refine wpList_load_at rfl 67 (.tmp 5) rfl _ (by rfl) (likeT t).cells _ (blk_list HYL.out) Tryz.underlying67 rfl sizT ?_)
          | fail)
        go_ret
        exact ⟨by unfold okP okF askT prtL clashB; simp [n0, HDL.out, ho0, ho1], HB.out⟩
      · cases q32 : (t.w == 32)
        · cases q64 : (t.w == 64)
          · go_wp2_with (first
              | (clear tok1; refine wpList_load_at rfl 67 (.tmp 3) rfl _ (by rfl) t.cells _ (blk_list HX0.out) Tryz.underlying67 rfl sizT ?_)
              | (clear tok2; refine wpList_load_at rfl 67 (.tmp 5) rfl _ (by rfl) (likeT t).cells _ (blk_list HYL.out) Tryz.underlying67 rfl sizT ?_)
              | fail)
            go_ret
            exact ⟨by unfold okP okF askT prtL clashB; simp [n0, HDL.out, ho0, ho1, q32, q64], HB.out⟩
          · cases ha : hasB p.T t.a
            · have Hha := hide ha
              clear ha
              go_wp2_with (first
                | (clear tok1; refine wpList_load_at rfl 67 (.tmp 3) rfl _ (by rfl) t.cells _ (blk_list HX0.out) Tryz.underlying67 rfl sizT ?_)
                | (clear tok2; refine wpList_load_at rfl 67 (.tmp 5) rfl _ (by rfl) (likeT t).cells _ (blk_list HYL.out) Tryz.underlying67 rfl sizT ?_)
                | fail)
              refine (rhas_any t.a HP0.out).mono ?_
              rintro e w' ⟨rfl, rfl⟩
              rw [Hha.out]
              go_wp2_with (first
                | (clear tok1; refine wpList_load_at rfl 67 (.tmp 3) rfl _ (by rfl) t.cells _ (blk_list HX0.out) Tryz.underlying67 rfl sizT ?_)
                | (clear tok2; refine wpList_load_at rfl 67 (.tmp 5) rfl _ (by rfl) (likeT t).cells _ (blk_list HYL.out) Tryz.underlying67 rfl sizT ?_)
                | fail)
              go_ret
              exact ⟨by unfold okP okF askT prtL clashB; simp [n0, HDL.out, ho0, ho1, q32, q64, Hha.out], HB.out⟩
            · have Hha := hide ha
              clear ha
              go_wp2_with (first
                | (clear tok1; refine wpList_load_at rfl 67 (.tmp 3) rfl _ (by rfl) t.cells _ (blk_list HX0.out) Tryz.underlying67 rfl sizT ?_)
                | (clear tok2; refine wpList_load_at rfl 67 (.tmp 5) rfl _ (by rfl) (likeT t).cells _ (blk_list HYL.out) Tryz.underlying67 rfl sizT ?_)
                | fail)
              refine (rhas_any t.a HP0.out).mono ?_
              rintro e w' ⟨rfl, rfl⟩
              rw [Hha.out]
              cases hb : hasB p.T t.b
              · have Hhb := hide hb
                clear hb
                go_wp2_with (first
                  | (clear tok1; refine wpList_load_at rfl 67 (.tmp 3) rfl _ (by rfl) t.cells _ (blk_list HX0.out) Tryz.underlying67 rfl sizT ?_)
                  | (clear tok2; refine wpList_load_at rfl 67 (.tmp 5) rfl _ (by rfl) (likeT t).cells _ (blk_list HYL.out) Tryz.underlying67 rfl sizT ?_)
                  | fail)
                refine (rhas_any t.b HP0.out).mono ?_
                rintro e w' ⟨rfl, rfl⟩
                rw [Hhb.out]
                go_wp2_with (first
                  | (clear tok1; refine wpList_load_at rfl 67 (.tmp 3) rfl _ (by rfl) t.cells _ (blk_list HX0.out) Tryz.underlying67 rfl sizT ?_)
                  | (clear tok2; refine wpList_load_at rfl 67 (.tmp 5) rfl _ (by rfl) (likeT t).cells _ (blk_list HYL.out) Tryz.underlying67 rfl sizT ?_)
                  | fail)
                go_ret
                exact ⟨by unfold okP okF askT prtL clashB; simp [n0, HDL.out, ho0, ho1, q32, q64, Hha.out, Hhb.out], HB.out⟩
              · have Hhb := hide hb
                clear hb
                go_wp2_with (first
                  | (clear tok1; refine wpList_load_at rfl 67 (.tmp 3) rfl _ (by rfl) t.cells _ (blk_list HX0.out) Tryz.underlying67 rfl sizT ?_)
                  | (clear tok2; refine wpList_load_at rfl 67 (.tmp 5) rfl _ (by rfl) (likeT t).cells _ (blk_list HYL.out) Tryz.underlying67 rfl sizT ?_)
                  | fail)
                refine (rhas_any t.b HP0.out).mono ?_
                rintro e w' ⟨rfl, rfl⟩
                rw [Hhb.out]
                go_wp2_with (first
                  | (clear tok1; refine wpList_load_at rfl 67 (.tmp 3) rfl _ (by rfl) t.cells _ (blk_list HX0.out) Tryz.underlying67 rfl sizT ?_)
                  | (clear tok2; refine wpList_load_at rfl 67 (.tmp 5) rfl _ (by rfl) (likeT t).cells _ (blk_list HYL.out) Tryz.underlying67 rfl sizT ?_)
                  | fail)
                go_ret
                exact ⟨by unfold okP okF askT prtL clashB; simp [n0, HDL.out, ho0, ho1, q32, q64, Hha.out, Hhb.out], HB.out⟩
        · cases ha : hasB p.T t.a
          · have Hha := hide ha
            clear ha
            go_wp2_with (first
              | (clear tok1; refine wpList_load_at rfl 67 (.tmp 3) rfl _ (by rfl) t.cells _ (blk_list HX0.out) Tryz.underlying67 rfl sizT ?_)
              | (clear tok2; refine wpList_load_at rfl 67 (.tmp 5) rfl _ (by rfl) (likeT t).cells _ (blk_list HYL.out) Tryz.underlying67 rfl sizT ?_)
              | fail)
            refine (rhas_any t.a HP0.out).mono ?_
            rintro e w' ⟨rfl, rfl⟩
            rw [Hha.out]
            go_wp2_with (first
              | (clear tok1; refine wpList_load_at rfl 67 (.tmp 3) rfl _ (by rfl) t.cells _ (blk_list HX0.out) Tryz.underlying67 rfl sizT ?_)
              | (clear tok2; refine wpList_load_at rfl 67 (.tmp 5) rfl _ (by rfl) (likeT t).cells _ (blk_list HYL.out) Tryz.underlying67 rfl sizT ?_)
              | fail)
            go_ret
            exact ⟨by unfold okP okF askT prtL clashB; simp [n0, HDL.out, ho0, ho1, q32, Hha.out], HB.out⟩
          · have Hha := hide ha
            clear ha
            go_wp2_with (first
              | (clear tok1; refine wpList_load_at rfl 67 (.tmp 3) rfl _ (by rfl) t.cells _ (blk_list HX0.out) Tryz.underlying67 rfl sizT ?_)
              | (clear tok2; refine wpList_load_at rfl 67 (.tmp 5) rfl _ (by rfl) (likeT t).cells _ (blk_list HYL.out) Tryz.underlying67 rfl sizT ?_)
              | fail)
            refine (rhas_any t.a HP0.out).mono ?_
            rintro e w' ⟨rfl, rfl⟩
            rw [Hha.out]
            cases hb : hasB p.T t.b
            · have Hhb := hide hb
              clear hb
              go_wp2_with (first
                | (clear tok1; refine wpList_load_at rfl 67 (.tmp 3) rfl _ (by rfl) t.cells _ (blk_list HX0.out) Tryz.underlying67 rfl sizT ?_)
                | (clear tok2; refine wpList_load_at rfl 67 (.tmp 5) rfl _ (by rfl) (likeT t).cells _ (blk_list HYL.out) Tryz.underlying67 rfl sizT ?_)
                | fail)
              refine (rhas_any t.b HP0.out).mono ?_
              rintro e w' ⟨rfl, rfl⟩
              rw [Hhb.out]
              go_wp2_with (first
                | (clear tok1; refine wpList_load_at rfl 67 (.tmp 3) rfl _ (by rfl) t.cells _ (blk_list HX0.out) Tryz.underlying67 rfl sizT ?_)
                | (clear tok2; refine wpList_load_at rfl 67 (.tmp 5) rfl _ (by rfl) (likeT t).cells _ (blk_list HYL.out) Tryz.underlying67 rfl sizT ?_)
                | fail)
              go_ret
              exact ⟨by unfold okP okF askT prtL clashB; simp [n0, HDL.out, ho0, ho1, q32, Hha.out, Hhb.out], HB.out⟩
            · have Hhb := hide hb
              clear hb
              go_wp2_with (first
                | (clear tok1; refine wpList_load_at rfl 67 (.tmp 3) rfl _ (by rfl) t.cells _ (blk_list HX0.out) Tryz.underlying67 rfl sizT ?_)
                | (clear tok2; refine wpList_load_at rfl 67 (.tmp 5) rfl _ (by rfl) (likeT t).cells _ (blk_list HYL.out) Tryz.underlying67 rfl sizT ?_)
                | fail)
              refine (rhas_any t.b HP0.out).mono ?_
              rintro e w' ⟨rfl, rfl⟩
              rw [Hhb.out]
              go_wp2_with (first
                | (clear tok1; refine wpList_load_at rfl 67 (.tmp 3) rfl _ (by rfl) t.cells _ (blk_list HX0.out) Tryz.underlying67 rfl sizT ?_)
                | (clear tok2; refine wpList_load_at rfl 67 (.tmp 5) rfl _ (by rfl) (likeT t).cells _ (blk_list HYL.out) Tryz.underlying67 rfl sizT ?_)
                | fail)
              go_ret
              exact ⟨by unfold okP okF askT prtL clashB; simp [n0, HDL.out, ho0, ho1, q32, Hha.out, Hhb.out], HB.out⟩
end
end Go.Proofs.YtfjflefgclfbfaaGreat
