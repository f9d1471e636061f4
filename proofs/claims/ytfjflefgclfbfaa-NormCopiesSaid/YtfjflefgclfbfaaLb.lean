/-
  The walk of NormCopies: a pool and its copy go on alike. Conditions: those written in each statement.
-/
import Derived.Test.YtfjflefgclfbfaaUi
import Derived.Test.YtfjflefgclfbfaaKc
import Derived.Test.YtfjflefgclfbfaaKd
namespace Go.Proofs.Ytfjflefgclfbfaa
open Go.RowKit
set_option linter.unusedVariables false
set_option linter.unusedSimpArgs false
set_option maxRecDepth 100000
set_option maxHeartbeats 16000000 in
theorem copies27_walk (A : Option Addr) (n cap : Nat) (l : List MD) (A2 : Option Addr) (n2 cap2 : Nat) (m : List MD) (w : World) (hh : MksAt w w.heap.size A n l) (hm : n < 9223372036854775808) (hcap : n ≤ cap)
    (hh2 : MksAt w w.heap.size A2 n2 m) (hm2 : n2 < 9223372036854775808) (hcap2 : n2 ≤ cap2) :
    Calls Try.prog 7 #[.slice A n cap, .slice A2 n2 cap2] w fun e w' => e = .returned (.bool true) ∧ Below w.heap.size w w' := by
  have HH := hide hh
  have HH2 := hide hh2
  clear hh hh2
  cases hg : (decide (40 < n) || decide (20 < n2))
  rotate_left
  · cases h4 : decide (40 < n)
    · have h5 : decide (20 < n2) = true := by rw [h4] at hg; simpa using hg
      have i4 : decide ((40 : Int) < (n : Int)) = false := by simp at h4 ⊢; omega
      have i5 : decide ((20 : Int) < (n2 : Int)) = true := by simp at h5 ⊢; omega
      clear hg
      go_enter Try.func7, Try.ntmps7
      go_wp2_with fail
      refine (wakes_any _).mono ?_
      rintro e w4 ⟨rfl, hb4⟩
      have HBW := hide hb4
      clear hb4
      go_wp2
      go_ret
      exact ⟨rfl, HBW.out⟩
    · have i4 : decide ((40 : Int) < (n : Int)) = true := by simp at h4 ⊢; omega
      clear hg
      go_enter Try.func7, Try.ntmps7
      go_wp2_with fail
      refine (wakes_any _).mono ?_
      rintro e w4 ⟨rfl, hb4⟩
      have HBW := hide hb4
      clear hb4
      go_wp2
      go_ret
      exact ⟨rfl, HBW.out⟩
  · have h2 : n ≤ 40 := by simp at hg; omega
    have h22 : n2 ≤ 20 := by simp at hg; omega
    have i4 : decide ((40 : Int) < (n : Int)) = false := by simp; omega
    have i5 : decide ((20 : Int) < (n2 : Int)) = false := by simp; omega
    clear hg
    obtain ⟨iN, hiN, hzN, hsN, hbN⟩ := info_parts infIn
    have IN := hide (And.intro hiN (And.intro hzN (And.intro hsN hbN)))
    clear hiN hzN hsN hbN
    go_enter Try.func7, Try.ntmps7
    go_wp2_with fail
    refine (new_any _).mono ?_
    rintro e w2 ⟨g, F, rfl, hp, hb⟩
    have HK := hide (⟨hp, RowN.nil _ _ _, hb, by simp⟩ : K1 w g ⟨[], []⟩ F [] (.slice none 0 0) w2)
    clear hp hb
    go_wp2
    go_loopw [6, 31] (fun sv iv wq => ∃ (i : Nat) (p : PS) (F : Nat → Prop) (lm : List Int), i ≤ n ∧ iv = .int .i64 i ∧ lm.length ≤ i ∧ K1 w g p F lm sv wq) (fun _ iv _ => n - (intOf iv).toNat)
    case atStart => exact ⟨0, _, F, [], by omega, rfl, by simp, HK.out⟩
    case round =>
      obtain ⟨i, p, F, lm, hi, rfl, hlen, hk⟩ := hrel
      clear HK
      have HK := hide hk
      clear hk
      by_cases hlt : i < n
      · obtain ⟨ad, x, rfl, _, hx, hxw, hcl⟩ := (HH.out.below HK.out.below).at_ hlt
        have HXW := hide hxw
        have HCL := hide hcl
        have hic : i < cap := by omega
        clear hx hxw hcl
        go_upto_region 8 with (first
          | (refine wpList_load_at rfl 31 (.tmp 33) rfl (ad.add (i * 7)) (by rfl) x.cells _ HCL.out Try.underlying31 rfl sizMd ?_)
          | (refine wpList_store_new rfl 31 (.tmp 8) (.tmp 34) rfl _ x.cells (.agg x.cells.toArray) (by rfl) (by rfl) rfl sizMd rfl (MD.one _) ?_
             intro w6 G6 L6 Z6
             have HX6 := hide G6
             have HK6 := hide (HK.out.step L6)
             clear G6 L6 Z6)
          | fail)
        obtain ⟨A1, c1, hsv, hc1, hrd⟩ := HK6.out.row.slice
        subst hsv
        obtain ⟨r, hr⟩ := mk_some p HK6.out.pool.wf HK6.out.pool.rng x lm
        have HMK := hide hr
        obtain ⟨f, hf⟩ := hr
        have HF := hide hf
        have HRD := hide hrd
        have HG := hide (mk_good HK6.out.pool.wf HK6.out.pool.rng HXW.out HMK.out)
        clear hf hrd HK HCL
        go_wp2_with (first
          | (refine wpList_load_at rfl 31 (.tmp 8) rfl _ (by rfl) x.cells _ (blk_list HX6.out) Try.underlying31 rfl sizMd ?_)
          | fail)
        refine (mine_any f x HXW.out lm HK6.out.ib A1 lm.length c1 rfl hc1 (by omega) r HF.out _ HK6.out.pool HK6.out.below.size HRD.out).mono ?_
        rintro e w7 ⟨rfl, F7, hp7⟩
        have HK7 := hide (HK6.out.pg hp7)
        clear hp7 HRD HF HX6 HK6
        obtain ⟨p1, k, er⟩ := r
        dsimp only at HK7 HG ⊢
        cases her : (er == 0)
        · go_wp2
          go_roundw
          case measure => simp [intOf]; omega
          case rel => exact ⟨i + 1, p1, F7, lm, by omega, by go_num, by omega, HK7.out⟩
        · have h0 : er = 0 := by simpa using her
          have hki : I64 k := has_i64 HG.out.wf (HG.out.has h0)
          have HOW := hide HK7.out.row.own
          go_wp2_with (first
            | (refine wpList_push2 rfl rfl 28 3 (.tmp 45) (.tmp 44) (.tmp 46) rfl rfl w.heap.size 1 8 iN _ (.int .i64 k) (.slice A1 lm.length c1) [.int .i64 k] _ lm.length Try.underlying28 IN.out.1 IN.out.2.1 IN.out.2.2.1 IN.out.2.2.2 rfl (by omega) (by omega) (by rfl) rfl rfl one_int HOW.out HK7.out.below.size (by unfold maxLen; omega) (by omega) (by rfl) (by rfl) ?_
               intro s8 w8 g8 G8 O8 B8 P8 N8
               have HK8 := hide (HK7.out.push hki O8 P8 N8)
               clear O8 B8 P8 G8 N8)
            | fail)
          go_roundw
          case measure => simp [intOf]; omega
          case rel => exact ⟨i + 1, p1, F7, lm ++ [k], by omega, by go_num, by simp; omega, HK8.out⟩
      · obtain rfl : i = n := by omega
        go_wp2_with fail
        refine (copy_any _ HK.out.pool).mono ?_
        rintro e w3 ⟨g2, F2, rfl, hp2, hb2⟩
        have HK3 := hide (HK.out.step hb2)
        obtain ⟨A1, c1, hsv, hc1, hrd⟩ := HK3.out.row.slice
        subst hsv
        have HRD := hide hrd
        have HC1 := hide hc1
        clear hrd hc1
        have HGE3 := hide hb2.size
        have HDIS := hide (fun b h1 h2 => by have := (HK.out.pool.fb b h1).2; have := (hp2.fb b h2).1; omega : ∀ b, F b → F2 b → False)
        have HOWN := hide (HK.out.row.own)
        have HP2 := hide hp2
        go_upto_region 14 with (first
          | (refine wpList_buildNone rfl rfl ?_
             have HOW := hide (own_none w3 HK3.out.below.size)
             have hb4 := bl_alloc w3 (.cells #[] 3)
             have HK4 := hide (HK3.out.step hb4)
             have HP4 := hide (HP2.out.below hb4)
             have HRD4 := hide (reads_up (HRD.out.below hb4) (show w3.heap.size ≤ (w3.alloc (.cells #[] 3)).heap.size from hb4.size)))
          | (refine wpList_append_any _ rfl (.tmp 51) (.tmp 52) 28 rfl w.heap.size 3 iN _ 1 8 Try.underlying28 IN.out.1 IN.out.2.1 IN.out.2.2.1 IN.out.2.2.2 rfl (by omega) _ 0 [] (by rfl) HOW.out _ A1 lm.length c1 (lm.map (Value.int .i64)) (by rfl) HRD4.out (ints_one lm) (by unfold maxLen; omega) (by omega) HK4.out.below.size ?_
             intro s5 w5 O5 P5 N5
             have HO5 := hide O5
             have HP5 := hide P5
             have HN5 := hide N5
             clear O5 P5 N5)
          | fail)
        have hK2 := K2.start HK3.out HP2.out ⟨HK.out.below.size, HGE3.out⟩ HDIS.out (fun b e q => by have := (own_ge HOWN.out b e).2; have := (HP2.out.fb b q).1; omega) (hb4.grown HP5.out (by simp) (fun b q => by injection q with q; rw [← q]; exact Nat.le_refl _)) (by have := HO5.out; rw [Nat.zero_add, List.nil_append] at this; exact this) (fun b q => by
          rcases HN5.out with e | e
          · rw [e] at q; injection q with q; rw [← q]; exact Nat.le_refl _
          · rw [e] at q; injection q with q; simp at q; omega)
        have HK := hide hK2
        obtain ⟨B2, hB2⟩ : ∃ b, wr.heap.size = b := ⟨_, rfl⟩
        rw [hB2] at HK
        clear hK2 hB2 hb4 HK3 HRD HC1 HGE3 HDIS HOWN HP2 HOW HK4 HP4 HRD4 HO5 HP5 HN5 hp2 hb2
        have hl40 : lm.length ≤ 40 := by omega
        go_wp2
        go_loopw [6, 12, 56] (fun sv sv2 iv wq => ∃ (j : Nat) (p : PS) (F F2 : Nat → Prop) (lm : List Int), j ≤ n2 ∧ iv = .int .i64 j ∧ lm.length ≤ 40 + j ∧ K2 w B2 g g2 p p F F2 lm lm sv sv2 wq) (fun _ _ iv _ => n2 - (intOf iv).toNat)
        case atStart => exact ⟨0, p, F, F2, lm, by omega, rfl, by omega, HK.out⟩
        case round =>
          obtain ⟨j, p, F, F2, lm, hj, rfl, hlen, hk⟩ := hrel
          clear HK
          have HK := hide hk
          clear hk
          by_cases hlt2 : j < n2
          · obtain ⟨ad, x, hA2, _, hx, hxw, hcl⟩ := (HH2.out.below HK.out.below).at_ hlt2
            subst hA2
            have HXW := hide hxw
            have HCL := hide hcl
            have hic : j < cap2 := by omega
            clear hx hxw hcl
            go_upto_region 17 with (first
              | (refine wpList_load_at rfl 31 (.tmp 58) rfl (ad.add (j * 7)) (by rfl) x.cells _ HCL.out Try.underlying31 rfl sizMd ?_)
              | (refine wpList_store_new rfl 31 (.tmp 14) (.tmp 59) rfl _ x.cells (.agg x.cells.toArray) (by rfl) (by rfl) rfl sizMd rfl (MD.one _) ?_
                 intro w6 G6 L6 Z6
                 have HX6 := hide G6
                 have HK6 := hide (HK.out.step L6)
                 clear G6 L6 Z6)
              | fail)
            obtain ⟨A3, c3, hsv, hc3, hrd⟩ := HK6.out.r1.slice
            subst hsv
            obtain ⟨A4, c4, hsv, hc4, hrd2⟩ := HK6.out.r2.slice
            subst hsv
            obtain ⟨r, hr⟩ := mk_some p HK6.out.p1.wf HK6.out.p1.rng x lm
            have HMK := hide hr
            obtain ⟨f, hf⟩ := hr
            have HF := hide hf
            have HRD := hide hrd
            have HC4 := hide hc4
            have HG := hide (mk_good HK6.out.p1.wf HK6.out.p1.rng HXW.out HMK.out)
            have HNF := hide (show ¬ F wr.heap.size ∧ ¬ F2 wr.heap.size from ⟨fun q => by have := (HK.out.p1.fb _ q).2; omega, fun q => by have := (HK.out.p2.fb _ q).2; omega⟩)
            clear hf hrd hrd2 hc4 HK HCL
            go_wp2_with (first
              | (refine wpList_load_at rfl 31 (.tmp 14) rfl _ (by rfl) x.cells _ (blk_list HX6.out) Try.underlying31 rfl sizMd ?_)
              | fail)
            refine (mine_any f x HXW.out lm HK6.out.ib A3 lm.length c3 rfl hc3 (by omega) r HF.out _ HK6.out.p1 HK6.out.below.size HRD.out).mono ?_
            rintro e w7 ⟨rfl, F7, hp7⟩
            have HK7 := hide (HK6.out.pg1 hp7)
            have HX7 := hide (hp7.blk HX6.out HNF.out.1).1
            clear hp7 HRD HX6 HK6
            obtain ⟨A5, c5, hsv5, hc5, hrd5⟩ := HK7.out.r2.slice
            injection hsv5 with hA5 hl5 hcc5
            subst hA5 hcc5
            have HRD5 := hide hrd5
            clear hrd5 hl5 hc5
            go_wp2_with (first
              | (refine wpList_load_at rfl 31 (.tmp 14) rfl _ (by rfl) x.cells _ (blk_list HX7.out) Try.underlying31 rfl sizMd ?_)
              | fail)
            refine (mine_any f x HXW.out lm HK7.out.ib2 A4 lm.length c4 rfl HC4.out (by omega) r HF.out _ HK7.out.p2 HK7.out.ge.2 HRD5.out).mono ?_
            rintro e w8 ⟨rfl, F8, hp8⟩
            have HK8 := hide (HK7.out.pg2 hp8)
            clear hp8 HRD5 HF HX7 HK7
            obtain ⟨p1, k, er⟩ := r
            dsimp only at HK8 HG ⊢
            cases her : (er == 0)
            · go_wp2
              go_roundw
              case measure => simp [intOf]; omega
              case rel => exact ⟨j + 1, p1, F7, F8, lm, by omega, by go_num, by omega, HK8.out⟩
            · have h0 : er = 0 := by simpa using her
              have hki : I64 k := has_i64 HG.out.wf (HG.out.has h0)
              have HOW := hide HK8.out.r1.own
              go_upto_region 23 with (first
                | (refine wpList_push2 rfl rfl 28 3 (.tmp 85) (.tmp 84) (.tmp 86) rfl rfl w.heap.size 1 8 iN _ (.int .i64 k) (.slice A3 lm.length c3) [.int .i64 k] _ lm.length Try.underlying28 IN.out.1 IN.out.2.1 IN.out.2.2.1 IN.out.2.2.2 rfl (by omega) (by omega) (by rfl) rfl rfl one_int HOW.out HK8.out.below.size (by unfold maxLen; omega) (by omega) (by rfl) (by rfl) ?_
                   intro s9 w9 g9 G9 O9 B9 P9 N9
                   have HK9 := hide (HK8.out.push1 hki O9 P9 N9)
                   clear O9 B9 P9 G9 N9)
                | fail)
              have HOW2 := hide HK9.out.r2.own
              go_wp2_with (first
                | (refine wpList_push2 rfl rfl 28 3 (.tmp 89) (.tmp 88) (.tmp 90) rfl rfl w.heap.size 1 8 iN _ (.int .i64 k) (.slice A4 lm.length c4) [.int .i64 k] _ lm.length Try.underlying28 IN.out.1 IN.out.2.1 IN.out.2.2.1 IN.out.2.2.2 rfl (by omega) (by omega) (by rfl) rfl rfl one_int HOW2.out HK9.out.below.size (by unfold maxLen; omega) (by omega) (by rfl) (by rfl) ?_
                   intro s10 w10 g10 G10 O10 B10 P10 N10
                   have HK10 := hide (HK9.out.push2 hki O10 P10 N10)
                   clear O10 B10 P10 G10 N10)
                | fail)
              go_roundw
              case measure => simp [intOf]; omega
              case rel => exact ⟨j + 1, p1, F7, F8, lm ++ [k], by omega, by go_num, by simp; omega, HK10.out⟩
          · obtain rfl : j = n2 := by omega
            go_wp2_with fail
            refine (wakes_any _).mono ?_
            rintro e w9 ⟨rfl, hb⟩
            have HB9 := hide (HK.out.below.trans (hb.mono HK.out.below.size))
            clear hb
            go_wp2
            go_ret
            exact ⟨rfl, HB9.out⟩
end Go.Proofs.Ytfjflefgclfbfaa
