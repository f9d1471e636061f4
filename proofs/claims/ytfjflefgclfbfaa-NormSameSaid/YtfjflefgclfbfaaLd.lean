/-
  The walk of NormSame: what is made of the same parts is the same term. Conditions: those written in each statement.
-/
import Derived.Test.YtfjflefgclfbfaaUq
namespace Go.Proofs.Ytfjflefgclfbfaa
open Go.RowKit
set_option linter.unusedVariables false
set_option linter.unusedSimpArgs false
set_option maxRecDepth 100000
set_option maxHeartbeats 16000000 in
theorem same27_walk (A : Option Addr) (n cap : Nat) (l : List MD) (w : World) (hh : MksAt w w.heap.size A n l) (hm : n < 9223372036854775808) (hcap : n ≤ cap) :
    Calls Try.prog 4 #[.slice A n cap] w fun e w' => e = .returned (.bool true) ∧ Below w.heap.size w w' := by
  have HH := hide hh
  clear hh
  cases hg : decide (60 < n)
  rotate_left
  · have i4 : decide ((60 : Int) < (n : Int)) = true := by simp at hg ⊢; omega
    clear hg
    go_enter Try.func4, Try.ntmps4
    go_wp2_with fail
    refine (wakes_any _).mono ?_
    rintro e w4 ⟨rfl, hb4⟩
    have HBW := hide hb4
    clear hb4
    go_wp2
    go_ret
    exact ⟨rfl, HBW.out⟩
  · have h2 : n ≤ 60 := by simp at hg; omega
    have i4 : decide ((60 : Int) < (n : Int)) = false := by simp; omega
    clear hg
    obtain ⟨iN, hiN, hzN, hsN, hbN⟩ := info_parts infIn
    have IN := hide (And.intro hiN (And.intro hzN (And.intro hsN hbN)))
    obtain ⟨iM, hiM, hzM, hsM, hbM⟩ := info_parts infMk
    have IM := hide (And.intro hiM (And.intro hzM (And.intro hsM hbM)))
    clear hiN hzN hsN hbN hiM hzM hsM hbM
    go_enter Try.func4, Try.ntmps4
    go_wp2_with fail
    refine (new_any _).mono ?_
    rintro e w2 ⟨g, F, rfl, hp, hb⟩
    have HK := hide (⟨hp, RowA.nil _ _ _ _ _, RowA.nil _ _ _ _ _, RowA.nil _ _ _ _ _, fun b q => (by cases q), fun b q => (by cases q), fun b q => (by cases q), hb, by simp⟩ : K3 w g ⟨[], []⟩ F [] [] 0 (.slice none 0 0) (.slice none 0 0) (.slice none 0 0) w2)
    clear hp hb
    go_wp2
    go_loopw [4, 5, 6, 25] (fun sv sp sh iv wq => ∃ (i : Nat) (p : PS) (F : Nat → Prop) (lm : List Int) (ps : List MD), i ≤ n ∧ iv = .int .i64 i ∧ lm.length ≤ i ∧ NZ p ∧ Hist p ps lm ∧ K3 w g p F lm ps lm.length sv sp sh wq) (fun _ _ _ iv _ => n - (intOf iv).toNat)
    case atStart => exact ⟨0, _, F, [], [], by omega, rfl, by simp, NZ.nil, Hist.nil _, HK.out⟩
    case round =>
      obtain ⟨i, p, F, lm, ps, hi, rfl, hlen, hnz, hhist, hk⟩ := hrel
      clear HK
      have HK := hide hk
      have HNZ := hide hnz
      have HHI := hide hhist
      clear hk hnz hhist
      by_cases hlt : i < n
      · obtain ⟨ad, x, rfl, _, hx, hxw, hcl⟩ := (HH.out.below HK.out.below).at_ hlt
        have HXW := hide hxw
        have HCL := hide hcl
        have hic : i < cap := by omega
        clear hx hxw hcl
        go_upto_region 10 with (first
          | (refine wpList_load_at rfl 31 (.tmp 27) rfl (ad.add (i * 7)) (by rfl) x.cells _ HCL.out Try.underlying31 rfl sizMd ?_)
          | (refine wpList_store_new rfl 31 (.tmp 8) (.tmp 28) rfl _ x.cells (.agg x.cells.toArray) (by rfl) (by rfl) rfl sizMd rfl (MD.one _) ?_
             intro w6 G6 L6 Z6
             have HX := hide G6
             have HK6 := hide (HK.out.step L6)
             clear G6 L6 Z6)
          | fail)
        have HNF := hide (show ¬ F wr.heap.size from fun q => by have := (HK.out.pool.fb _ q).2; omega)
        obtain ⟨bx, hbx⟩ : ∃ b, wr.heap.size = b := ⟨_, rfl⟩
        rw [hbx] at HX HNF ⊢
        clear hbx HK HCL
        obtain ⟨A1, c1, hsv, hc1, hrd⟩ := HK6.out.ra.slice
        subst hsv
        obtain ⟨A2, c2, hsv, _, _⟩ := HK6.out.rp.slice
        subst hsv
        obtain ⟨A3, c3, hsv, _, _⟩ := HK6.out.rh.slice
        subst hsv
        obtain ⟨r, hr⟩ := mk_some p HK6.out.pool.wf HK6.out.pool.rng x lm
        have HMK := hide hr
        obtain ⟨f, hf⟩ := hr
        have HF := hide hf
        have HRD := hide hrd
        have HC1 := hide hc1
        have HPW := hide (And.intro HK6.out.pool.wf HK6.out.pool.rng)
        have HG := hide (mk_good HK6.out.pool.wf HK6.out.pool.rng HXW.out HMK.out)
        have HNZ2 := hide (mk_nz HNZ.out HK6.out.pool.wf HK6.out.pool.rng HMK.out)
        clear hf hrd hc1
        go_wp2_with (first
          | (refine wpList_load_at rfl 31 (.tmp 8) rfl _ (by rfl) x.cells _ (blk_list HX.out) Try.underlying31 rfl sizMd ?_)
          | fail)
        refine (mine_any f x HXW.out lm HK6.out.ib A1 lm.length c1 rfl HC1.out (by omega) r HF.out _ HK6.out.pool HK6.out.below.size HRD.out).mono ?_
        rintro e w7 ⟨rfl, F7, hp7⟩
        have HK7 := hide (HK6.out.pg hp7)
        have HXF := hide (hp7.blk HX.out HNF.out)
        replace HX := hide HXF.out.1
        have HNF7 := hide HXF.out.2
        clear hp7 HRD HF HK6 HXF HNF
        obtain ⟨p1, k, er⟩ := r
        dsimp only at HK7 HG HNZ2 ⊢
        cases her : (er == 0)
        · have her' : (er != 0) = true := by simp only [bne, her]; rfl
          go_wp2
          go_roundw
          case measure => simp [intOf]; omega
          case rel => exact ⟨i + 1, p1, F7, lm, ps, by omega, by go_num, by omega, HNZ2.out, HHI.out.ext HG.out.ext, HK7.out⟩
        · have h0 : er = 0 := by simpa using her
          subst h0
          have hki : I64 k := has_i64 HG.out.wf (HG.out.has rfl)
          have HHS := hide (HHI.out.snoc HG.out.ext HXW.out HPW.out.1 HPW.out.2 HMK.out rfl (Ext.refl _))
          dsimp only at HHS
          have q0 := HX.out.cell 0
          have q1 := HX.out.cell 1
          simp [MD.cells] at q0 q1
          go_upto_region 12 with fail
          go_cut [85] from 38 to 85 (fun sv wc => sv = .bool (commB x) ∧ wc = w7)
          case first =>
            cases k2 : (x.kind == 2)
            rotate_left
            · have n2 : x.kind = 2 := by simpa using k2
              have k4 : (x.kind == 4) = false := by rw [n2]; rfl
              cases o0 : (x.op == 0)
              rotate_left
              · skip
                go_wp2
                go_meet
                case rel => exact ⟨by rw [show commB x = true by unfold commB turnsB; simp [k2, k4, o0]], rfl⟩
              cases o2 : (x.op == 2)
              rotate_left
              · skip
                go_wp2
                go_meet
                case rel => exact ⟨by rw [show commB x = true by unfold commB turnsB; simp [k2, k4, o0, o2]], rfl⟩
              cases o5 : (x.op == 5)
              rotate_left
              · skip
                go_wp2
                go_meet
                case rel => exact ⟨by rw [show commB x = true by unfold commB turnsB; simp [k2, k4, o0, o2, o5]], rfl⟩
              cases o4 : (x.op == 4)
              rotate_left
              · skip
                go_wp2
                go_meet
                case rel => exact ⟨by rw [show commB x = true by unfold commB turnsB; simp [k2, k4, o0, o2, o5, o4]], rfl⟩
              cases o10 : (x.op == 10)
              rotate_left
              · skip
                go_wp2
                go_meet
                case rel => exact ⟨by rw [show commB x = true by unfold commB turnsB; simp [k2, k4, o0, o2, o5, o4, o10]], rfl⟩
              go_wp2
              go_meet
              case rel => exact ⟨by rw [show commB x = false by unfold commB turnsB; simp [k2, k4, o0, o2, o5, o4, o10]], rfl⟩
            cases k4 : (x.kind == 4)
            rotate_left
            · skip
              cases o0 : (x.op == 0)
              rotate_left
              · skip
                go_wp2
                go_meet
                case rel => exact ⟨by rw [show commB x = true by unfold commB turnsB; simp [k2, k4, o0]], rfl⟩
              cases o1 : (x.op == 1)
              rotate_left
              · skip
                go_wp2
                go_meet
                case rel => exact ⟨by rw [show commB x = true by unfold commB turnsB; simp [k2, k4, o0, o1]], rfl⟩
              cases o10 : (x.op == 10)
              rotate_left
              · skip
                go_wp2
                go_meet
                case rel => exact ⟨by rw [show commB x = true by unfold commB turnsB; simp [k2, k4, o0, o1, o10]], rfl⟩
              go_wp2
              go_meet
              case rel => exact ⟨by rw [show commB x = false by unfold commB turnsB; simp [k2, k4, o0, o1, o10]], rfl⟩
            go_wp2
            go_meet
            case rel => exact ⟨by rw [show commB x = false by unfold commB turnsB; simp [k2, k4]], rfl⟩
          case rest =>
            obtain ⟨rfl, rfl⟩ := hcut
            clear q0 q1
            cases hcm : commB x
            · skip
              have HPS2 := hide HHI.out.1
              have HOWP := hide HK7.out.rp.own
              go_upto_region 21 with fail
              go_upto_region 22 with (first
                | (refine wpList_load_at rfl 31 (.tmp 8) rfl _ (by rfl) x.cells _ (blk_list HX.out) Try.underlying31 rfl sizMd ?_)
                | (refine wpList_push2 rfl rfl 22 31 (.tmp 111) (.tmp 110) (.tmp 112) rfl rfl w.heap.size 7 48 iM _ (.agg x.cells.toArray) (.slice A2 ps.length c2) x.cells _ ps.length Try.underlying22 IM.out.1 IM.out.2.1 IM.out.2.2.1 IM.out.2.2.2 rfl (by omega) (by omega) (by rfl) rfl rfl (MD.one x) HOWP.out HK7.out.below.size (by have := HPS2.out; unfold maxLen; omega) (by have := HPS2.out; omega) (by rfl) (by rfl) ?_
                   intro s21 w21 g21 G21 O21 B21 P21 N21
                   have HKP := hide (HK7.out.pushP O21 P21 N21)
                   clear O21 B21 P21 G21 N21)
                | fail)
              have HOWH := hide HKP.out.rh.own
              go_upto_region 23 with (first
                | (refine wpList_push2 rfl rfl 28 3 (.tmp 116) (.tmp 114) (.tmp 117) rfl rfl w.heap.size 1 8 iN _ (.int .i64 (lm.length : Int)) (.slice A3 lm.length c3) [.int .i64 (lm.length : Int)] _ lm.length Try.underlying28 IN.out.1 IN.out.2.1 IN.out.2.2.1 IN.out.2.2.2 rfl (by omega) (by omega) (by rfl) rfl rfl one_int HOWH.out HKP.out.below.size (by unfold maxLen; omega) (by omega) (by rfl) (by rfl) ?_
                   intro s22 w22 g22 G22 O22 B22 P22 N22
                   have HKH := hide (HKP.out.pushH O22 P22 N22)
                   clear O22 B22 P22 G22 N22)
                | fail)
              have HOWA := hide HKH.out.ra.own
              go_wp2_with (first
                | (refine wpList_push2 rfl rfl 28 3 (.tmp 120) (.tmp 119) (.tmp 121) rfl rfl w.heap.size 1 8 iN _ (.int .i64 k) (.slice A1 lm.length c1) [.int .i64 k] _ lm.length Try.underlying28 IN.out.1 IN.out.2.1 IN.out.2.2.1 IN.out.2.2.2 rfl (by omega) (by omega) (by rfl) rfl rfl one_int HOWA.out HKH.out.below.size (by unfold maxLen; omega) (by omega) (by rfl) (by rfl) ?_
                   intro s23 w23 g23 G23 O23 B23 P23 N23
                   have HKA := hide (HKH.out.pushA hki O23 P23 N23)
                   clear O23 B23 P23 G23 N23)
                | fail)
              go_roundw
              case measure => simp [intOf]; omega
              case rel => exact ⟨i + 1, p1, F7, lm ++ [k], ps ++ [x], by omega, by go_num, by simp; omega, HNZ2.out, HHS.out, by rw [List.length_append]; exact HKA.out⟩
            · skip
              have HCS := hide (mk_comm HPW.out.1 HPW.out.2 HNZ.out HXW.out HMK.out rfl hcm)
              have HSW := hide (swapM_wf HXW.out)
              have hbB := bl_alloc wc (.cells x.cells.toArray 31)
              go_upto_region 14 with (first
                | (refine wpList_load_at rfl 31 (.tmp 8) rfl _ (by rfl) x.cells _ (blk_list HX.out) Try.underlying31 rfl sizMd ?_)
                | (refine wpList_store_new rfl 31 (.tmp 11) (.tmp 86) rfl _ x.cells (.agg x.cells.toArray) (by rfl) (by rfl) rfl sizMd rfl (MD.one _) ?_
                   intro w8 G8 L8 Z8
                   have HY := hide G8
                   have HL8 := hide L8
                   have HX8 := hide (HX.out.below L8 HX.out.lt)
                   have HK8 := hide (HK7.out.step L8)
                   clear G8 L8 Z8)
                | fail)
              have HBY := hide (show bx < wc.heap.size from HX.out.lt)
              have HNY := hide (show ¬ F7 wc.heap.size from fun q => by have := (HK7.out.pool.fb _ q).2; omega)
              have HGEY := hide (HK7.out.below.size)
              have HNE := hide (show (Value.slice A1 lm.length c1).ownBlock ≠ some wc.heap.size ∧ (Value.slice A2 ps.length c2).ownBlock ≠ some wc.heap.size ∧ (Value.slice A3 lm.length c3).ownBlock ≠ some wc.heap.size from ⟨fun e => by have := (own_ge HK7.out.ra.own _ e).2; omega, fun e => by have := (own_ge HK7.out.rp.own _ e).2; omega, fun e => by have := (own_ge HK7.out.rh.own _ e).2; omega⟩)
              obtain ⟨bY, hbY⟩ : ∃ b, wc.heap.size = b := ⟨_, rfl⟩
              rw [hbY] at HY HBY HNY HGEY HNE ⊢
              clear hbY HK7 HX HL8 hbB
              have q3 := HX8.out.cell 3
              have q4 := HX8.out.cell 4
              simp [MD.cells] at q3 q4
              go_upto_region 15 with (first
                | (refine wpList_store_at rfl 3 (.tmp 89) (.tmp 88) rfl bY 3 31 x.cells [.int .i64 x.b] (.int .i64 x.b) HY.out (by rfl) (by rfl) rfl (by kernel_rfl) (by simp [MD.cells]) (by simp [Value.oneCell']) ?_
                   intro w9 G9 L9 Z9
                   have HYb := hide G9
                   have HX9 := hide (HX8.out.grown L9 (fun e => by injection e with e; have := HBY.out; omega))
                   have HK9 := hide (HK8.out.grown L9 HNY.out HGEY.out HNE.out.1 HNE.out.2.1 HNE.out.2.2)
                   clear G9 L9 Z9)
                | fail)
              have q3 := HX9.out.cell 3
              simp [MD.cells] at q3
              go_upto_region 16 with (first
                | (refine wpList_store_at rfl 3 (.tmp 92) (.tmp 91) rfl bY 4 31 (overC x.cells 3 [.int .i64 x.b]) [.int .i64 x.a] (.int .i64 x.a) HYb.out (by rfl) (by rfl) rfl (by kernel_rfl) (by rw [over_b]; simp) (by simp [Value.oneCell']) ?_
                   intro w10 G10 L10 Z10
                   have HYc := hide (by have := G10; rw [swap_over] at this; exact this : Blk w10 bY 31 (swapM x).cells.toArray)
                   have HX10 := hide (HX9.out.grown L10 (fun e => by injection e with e; have := HBY.out; omega))
                   have HK10 := hide (HK9.out.grown L10 HNY.out HGEY.out HNE.out.1 HNE.out.2.1 HNE.out.2.2)
                   clear G10 L10 Z10)
                | fail)
              obtain ⟨f2, hf2⟩ := HCS.out
              have HF2 := hide hf2
              dsimp only at HF2
              obtain ⟨A5, c5, hsv5, hc5, hrd5⟩ := HK10.out.ra.slice
              injection hsv5 with hA5 hl5 hcc5
              subst hA5 hcc5
              have HRD5 := hide hrd5
              clear hrd5 hl5 hc5 hf2 q3 q4 HX8 HX9 HK8 HK9 HY HYb
              go_wp2_with (first
                | (refine wpList_load_at rfl 31 (.tmp 11) rfl _ (by rfl) (swapM x).cells _ (blk_list HYc.out) Try.underlying31 rfl sizMd ?_)
                | fail)
              refine (mine_any f2 (swapM x) HSW.out lm HK10.out.ib A1 lm.length c1 rfl HC1.out (by omega) (p1, k, 0) HF2.out _ HK10.out.pool HK10.out.below.size HRD5.out).mono ?_
              rintro e w11 ⟨rfl, F11, hp11⟩
              have HK7 := hide (HK10.out.pg hp11)
              have HX := hide (hp11.blk HX10.out HNF7.out).1
              clear hp11 HRD5 HF2 HK10 HX10 HYc HCS HSW HNE HGEY HNY HBY
              have HPS2 := hide HHI.out.1
              have HOWP := hide HK7.out.rp.own
              go_upto_region 21 with fail
              go_upto_region 22 with (first
                | (refine wpList_load_at rfl 31 (.tmp 8) rfl _ (by rfl) x.cells _ (blk_list HX.out) Try.underlying31 rfl sizMd ?_)
                | (refine wpList_push2 rfl rfl 22 31 (.tmp 111) (.tmp 110) (.tmp 112) rfl rfl w.heap.size 7 48 iM _ (.agg x.cells.toArray) (.slice A2 ps.length c2) x.cells _ ps.length Try.underlying22 IM.out.1 IM.out.2.1 IM.out.2.2.1 IM.out.2.2.2 rfl (by omega) (by omega) (by rfl) rfl rfl (MD.one x) HOWP.out HK7.out.below.size (by have := HPS2.out; unfold maxLen; omega) (by have := HPS2.out; omega) (by rfl) (by rfl) ?_
                   intro s21 w21 g21 G21 O21 B21 P21 N21
                   have HKP := hide (HK7.out.pushP O21 P21 N21)
                   clear O21 B21 P21 G21 N21)
                | fail)
              have HOWH := hide HKP.out.rh.own
              go_upto_region 23 with (first
                | (refine wpList_push2 rfl rfl 28 3 (.tmp 116) (.tmp 114) (.tmp 117) rfl rfl w.heap.size 1 8 iN _ (.int .i64 (lm.length : Int)) (.slice A3 lm.length c3) [.int .i64 (lm.length : Int)] _ lm.length Try.underlying28 IN.out.1 IN.out.2.1 IN.out.2.2.1 IN.out.2.2.2 rfl (by omega) (by omega) (by rfl) rfl rfl one_int HOWH.out HKP.out.below.size (by unfold maxLen; omega) (by omega) (by rfl) (by rfl) ?_
                   intro s22 w22 g22 G22 O22 B22 P22 N22
                   have HKH := hide (HKP.out.pushH O22 P22 N22)
                   clear O22 B22 P22 G22 N22)
                | fail)
              have HOWA := hide HKH.out.ra.own
              go_wp2_with (first
                | (refine wpList_push2 rfl rfl 28 3 (.tmp 120) (.tmp 119) (.tmp 121) rfl rfl w.heap.size 1 8 iN _ (.int .i64 k) (.slice A1 lm.length c1) [.int .i64 k] _ lm.length Try.underlying28 IN.out.1 IN.out.2.1 IN.out.2.2.1 IN.out.2.2.2 rfl (by omega) (by omega) (by rfl) rfl rfl one_int HOWA.out HKH.out.below.size (by unfold maxLen; omega) (by omega) (by rfl) (by rfl) ?_
                   intro s23 w23 g23 G23 O23 B23 P23 N23
                   have HKA := hide (HKH.out.pushA hki O23 P23 N23)
                   clear O23 B23 P23 G23 N23)
                | fail)
              go_roundw
              case measure => simp [intOf]; omega
              case rel => exact ⟨i + 1, p1, F11, lm ++ [k], ps ++ [x], by omega, by go_num, by simp; omega, HNZ2.out, HHS.out, by rw [List.length_append]; exact HKA.out⟩
      · obtain rfl : i = n := by omega
        obtain ⟨A1, c1, hsv, _, _⟩ := HK.out.ra.slice
        subst hsv
        obtain ⟨A2, c2, hsv, _, _⟩ := HK.out.rp.slice
        subst hsv
        obtain ⟨A3, c3, hsv, _, _⟩ := HK.out.rh.slice
        subst hsv
        have hps := HHI.out.1
        have hm2 : ps.length < 9223372036854775808 := by omega
        have HPS := hide hps
        clear hps
        go_wp2
        go_loopw [126] (fun iv wq => ∃ (j : Nat) (F : Nat → Prop), j ≤ ps.length ∧ iv = .int .i64 j ∧ K3 w g p F lm ps lm.length (.slice A1 lm.length c1) (.slice A2 ps.length c2) (.slice A3 lm.length c3) wq) (fun iv _ => ps.length - (intOf iv).toNat)
        case atStart => exact ⟨0, F, by omega, rfl, HK.out⟩
        case round =>
          obtain ⟨j, F, hj, rfl, hk⟩ := hrel
          clear HK
          have HK := hide hk
          clear hk
          by_cases hlt2 : j < ps.length
          · have hjl : j < lm.length := by have := HPS.out; omega
            obtain ⟨ad2, x, rfl, hx, hcl, hc2⟩ := HK.out.way HHI.out.wfs hlt2
            have HCL := hide hcl
            have hjc2 : j < c2 := by omega
            have HX0 := hide hx
            clear hcl hx
            go_upto_region 28 with (first
              | (refine wpList_load_at rfl 31 (.tmp 129) rfl (ad2.add (j * 7)) (by rfl) x.cells _ HCL.out Try.underlying31 rfl sizMd ?_)
              | (refine wpList_store_new rfl 31 (.tmp 15) (.tmp 130) rfl _ x.cells (.agg x.cells.toArray) (by rfl) (by rfl) rfl sizMd rfl (MD.one _) ?_
                 intro w6 G6 L6 Z6
                 have HX := hide G6
                 have HK6 := hide (HK.out.step L6)
                 clear G6 L6 Z6)
              | fail)
            obtain ⟨ad3, hA3, hcell3⟩ := HK6.out.had hjl
            subst hA3
            obtain ⟨ad1, nj, hA1, hnj, hcell1, hrdj, hcc1⟩ := HK6.out.num hjl
            subst hA1
            have HNJ := hide hnj
            have hhist := HHI.out.2 j x nj HX0.out hnj
            obtain ⟨hxw, p0, r0, hw0, hr0, hm0, he0, hn0, hx0⟩ := hhist
            have HXW := hide hxw
            have hag := mk_again HK6.out.pool.wf hw0 hr0 hxw hm0 he0 hx0
            rw [hn0] at hag
            obtain ⟨f, hf⟩ := hag
            have HF := hide hf
            have HNF := hide (show ¬ F wr.heap.size from fun q => by have := (HK.out.pool.fb _ q).2; omega)
            have hjc1 : j ≤ c1 := by omega
            have hjc3 : j < c3 := by
              obtain ⟨_, c9, e9, hc9, _⟩ := HK6.out.rh.slice
              injection e9 with _ _ e9
              omega
            obtain ⟨bx, hbx⟩ : ∃ b, wr.heap.size = b := ⟨_, rfl⟩
            rw [hbx] at HX HNF ⊢
            clear hbx HK HCL hcell3 hcell1 hrdj hcc1 hnj hxw hw0 hr0 hm0 he0 hn0 hx0 hf
            refine wp_region_E (fun w' => Blk w' bx 31 x.cells.toArray ∧ w'.cell? (ad3.add j) = some (.int .i64 (j : Int))) (fun _ => True) [] (by kernel_rfl) ?_
            have HKd := hide (HK6.out.step ((Below.refl _ _).drew))
            have HT := hide (⟨HX.out.below ((Below.refl _ _).drew) HX.out.lt, HKd.out.had1 hjl⟩ : Blk w6.drew bx 31 x.cells.toArray ∧ w6.drew.cell? (ad3.add j) = some (.int .i64 (j : Int)))
            clear HK6 HX
            generalize w6.drew = Wd at HKd HT ⊢
            refine E_move 0 (some 132) _ (.pointer (some ⟨g, 0, none⟩)) rfl (by kernel_rfl) (by rfl) (fun _ _ _ h => h) (by rfl) (.both HT.out trivial) ?_
            simp only [Act.put, List.setIfInBounds_toArray, List.set_cons_zero, List.set_cons_succ]
            refine E_load false 1 (some 133) 31 _ ⟨bx, 0, none⟩ x.cells _ rfl (by kernel_rfl) (by rfl) (fun _ _ _ h => h) (by rfl) (fun w hS => blk_list hS.1.1) Try.underlying31 rfl sizMd (.both HT.out trivial) ?_
            simp only [Act.put, List.setIfInBounds_toArray, List.set_cons_zero, List.set_cons_succ]
            refine E_move 2 (some 134) _ (.slice (some ad1) lm.length c1) rfl (by kernel_rfl) (by rfl) (fun _ _ _ h => h) (by rfl) (.both HT.out trivial) ?_
            simp only [Act.put, List.setIfInBounds_toArray, List.set_cons_zero, List.set_cons_succ]
            refine E_move 3 (some 135) _ (.slice (some ad3) lm.length c3) rfl (by kernel_rfl) (by rfl) (fun _ _ _ h => h) (by rfl) (.both HT.out trivial) ?_
            simp only [Act.put, List.setIfInBounds_toArray, List.set_cons_zero, List.set_cons_succ]
            refine E_move 4 (some 136) _ (.int .i64 (j : Int)) rfl (by kernel_rfl) (by rfl) (fun _ _ _ h => h) (by rfl) (.both HT.out trivial) ?_
            simp only [Act.put, List.setIfInBounds_toArray, List.set_cons_zero, List.set_cons_succ]
            refine E_any false 5 (some 137) _ (.pointer (some (ad3.add j))) rfl (by kernel_rfl) (by rfl) (fun _ _ _ h => h) (fun o e w _ => by unfold execOp; simp only [e]; go_simp) (.both HT.out trivial) ?_
            simp only [Act.put, List.setIfInBounds_toArray, List.set_cons_zero, List.set_cons_succ]
            refine E_load1 false 6 (some 138) 3 _ (ad3.add j) (.int .i64 (j : Int)) rfl (by kernel_rfl) (by rfl) (fun _ _ _ h => h) (by rfl) (fun w hS => run_loadVar_one _ _ _ _ Try.underlying3 rfl hS.1.2) (.both HT.out trivial) ?_
            simp only [Act.put, List.setIfInBounds_toArray, List.set_cons_zero, List.set_cons_succ]
            refine E_any false 7 (some 139) _ (.slice (some ad1) j c1) rfl (by kernel_rfl) (by rfl) (fun _ _ _ h => h) (fun o e w _ => by unfold execOp; simp only [e]; go_simp) (.both HT.out trivial) ?_
            simp only [Act.put, List.setIfInBounds_toArray, List.set_cons_zero, List.set_cons_succ]
            refine E_one 8 (by kernel_rfl) (StepE.of 8 (some 140) _ rfl (by rfl) fun o K h2 h3 hKK => ?_)
            unfold Oper.wp execOp
            simp only [h3]
            go_simp
            obtain ⟨_, _, e10, _, _, hrd10, _⟩ := HKd.out.num hjl
            injection e10 with e10
            subst e10
            refine (mine_any f x HXW.out (lm.take j) (fun v hv => HKd.out.ib v (List.mem_of_mem_take hv)) (some ad1) j c1 (by rw [List.length_take]; omega) hjc1 (by omega) (p, nj, 0) HF.out _ HKd.out.pool HKd.out.below.size hrd10).mono ?_
            rintro e w11 ⟨rfl, F11, hp11⟩
            replace HKd := hide (HKd.out.pg hp11)
            replace HT := hide (⟨(hp11.blk HT.out.1 HNF.out).1, HKd.out.had1 hjl⟩ : Blk w11 bx 31 x.cells.toArray ∧ w11.cell? (ad3.add j) = some (.int .i64 (j : Int)))
            clear hp11 hrd10
            dsimp only
            refine hKK _ _ (.both HT.out trivial) ?_
            clear hKK h2 h3 K o
            try simp only [Act.put, List.setIfInBounds_toArray, List.set_cons_zero, List.set_cons_succ]
            refine E_move 9 (some 131) _ (.tuple #[.int .i64 nj, .int .i64 0]) rfl (by kernel_rfl) (by rfl) (fun _ _ _ h => h) (by rfl) (.both HT.out trivial) ?_
            simp only [Act.put, List.setIfInBounds_toArray, List.set_cons_zero, List.set_cons_succ]
            refine E_any false 10 (some 141) _ (.int .i64 nj) rfl (by kernel_rfl) (by rfl) (fun _ _ _ h => h) (fun o e w _ => by unfold execOp; simp only [e]; go_simp) (.both HT.out trivial) ?_
            simp only [Act.put, List.setIfInBounds_toArray, List.set_cons_zero, List.set_cons_succ]
            refine E_any false 11 (some 142) _ (.int .i64 0) rfl (by kernel_rfl) (by rfl) (fun _ _ _ h => h) (fun o e w _ => by unfold execOp; simp only [e]; go_simp) (.both HT.out trivial) ?_
            simp only [Act.put, List.setIfInBounds_toArray, List.set_cons_zero, List.set_cons_succ]
            refine E_one 12 (by kernel_rfl) (StepE.assign 12 (some 16) _ (.int .i64 nj) rfl (by rfl) (by rfl) (.both HT.out trivial) ?_)
            simp only [Act.put, List.setIfInBounds_toArray, List.set_cons_zero, List.set_cons_succ]
            refine E_one 13 (by kernel_rfl) (StepE.assign 13 (some 17) _ (.int .i64 0) rfl (by rfl) (by rfl) (.both HT.out trivial) ?_)
            simp only [Act.put, List.setIfInBounds_toArray, List.set_cons_zero, List.set_cons_succ]
            refine wpAnyE_done (by kernel_rfl) ?_ _
            have hcell1 := HKd.out.num1 hjl HNJ.out
            have hjl1 : j < c1 := by
              obtain ⟨_, _, _, _, _, _, h⟩ := HKd.out.num hjl
              omega
            clear HT
            go_wp2
            go_roundw
            case measure => simp [intOf]; omega
            case rel => exact ⟨j + 1, F11, by omega, by go_num, HKd.out⟩
          · obtain rfl : j = ps.length := by omega
            go_wp2_with fail
            refine (wakes_any _).mono ?_
            rintro e w9 ⟨rfl, hb⟩
            have HB9 := hide (HK.out.below.trans (hb.mono HK.out.below.size))
            clear hb
            go_wp2
            go_ret
            exact ⟨rfl, HB9.out⟩
end Go.Proofs.Ytfjflefgclfbfaa
