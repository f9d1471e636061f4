/-
  The walk of NormTells: both make the same terms, with the same values. Conditions: those written in each statement.
-/
import Derived.Test.YtfjflefgclfbfaaGreatQe
import Derived.Test.YtfjflefgclfbfaaGreatUe
namespace Go.Proofs.YtfjflefgclfbfaaGreat
open Go.RowKit
set_option linter.unusedVariables false
set_option linter.unusedSimpArgs false
set_option maxRecDepth 100000
set_option maxHeartbeats 16000000 in
theorem tells27_walk (A : Option Addr) (n cap : Nat) (l : List MD) (A0 : Option Addr) (n0 c0 : Nat) (vs : List Int) (xw : Int) (w : World) (hh : MksAt w w.heap.size A n l) (hcap : n ≤ cap) (hm : n < 9223372036854775808)
    (hr : vs.length = n0 ∧ (∀ v ∈ vs, U64 v) ∧ Reads w w.heap.size 1 A0 n0 (vs.map (Value.int .u64))) (hc0 : n0 ≤ c0) (hm0 : n0 < 9223372036854775808) :
    Calls Tryz.prog 3 #[.slice A n cap, .slice A0 n0 c0, .int .i8 xw] w fun e w' => e = .returned (.bool true) ∧ Below w.heap.size w w' := by
  have HH := hide hh
  have HV := hide hr
  clear hh hr
  cases hg : decide (60 < n)
  rotate_left
  · have i4 : decide ((60 : Int) < (n : Int)) = true := by simp at hg ⊢; omega
    clear hg
    go_enter Tryz.func3, Tryz.ntmps3
    go_wp2_with fail
    refine (wakes_any _).mono ?_
    rintro e w4 ⟨rfl, hb4⟩
    have HBW := hide hb4
    clear hb4
    go_wp2
    go_ret
    exact ⟨rfl, HBW.out⟩
  have h2 : n ≤ 60 := by simp at hg; omega
  have i4 : decide ((60 : Int) < (n : Int)) = false := by simp; omega
  clear hg
  cases hg : decide (80 < n0)
  rotate_left
  · have i5 : decide ((80 : Int) < (n0 : Int)) = true := by simp at hg ⊢; omega
    clear hg
    go_enter Tryz.func3, Tryz.ntmps3
    go_wp2_with fail
    refine (wakes_any _).mono ?_
    rintro e w4 ⟨rfl, hb4⟩
    have HBW := hide hb4
    clear hb4
    go_wp2
    go_ret
    exact ⟨rfl, HBW.out⟩
  have h3 : n0 ≤ 80 := by simp at hg; omega
  have i5 : decide ((80 : Int) < (n0 : Int)) = false := by simp; omega
  clear hg
  obtain ⟨iN, hiN, hzN, hsN, hbN⟩ := info_parts infIn
  have IN := hide (And.intro hiN (And.intro hzN (And.intro hsN hbN)))
  clear hiN hzN hsN hbN
  have HVW : Hid (WordsAt w (.slice A0 n0 c0) vs) := ⟨A0, c0, by rw [HV.out.1], by rw [HV.out.1]; exact hc0, by rw [HV.out.1]; exact HV.out.2.2⟩
  go_enter Tryz.func3, Tryz.ntmps3
  go_wp2_with fail
  refine (new_any _).mono ?_
  rintro e w2 ⟨g, F, rfl, hp, hb⟩
  have HP0 := hide hp
  have HB0 := hide hb
  clear hp hb
  go_wp2_with fail
  refine (rnew_any _).mono ?_
  rintro e w3 ⟨g2, F2, rfl, hp, hb⟩
  have HK := hide (⟨HP0.out.below hb, hp, ⟨HB0.out.size, hb.size⟩, fun b q r => by have := (HP0.out.fb b q).2; have := (hp.fb b r).1; omega, RowN.nil _ _ _, fun b q => (by cases q), RowN.nil _ _ _, fun b q => (by cases q), fun b q => (by cases q), HB0.out.trans (hb.mono HB0.out.size), by simp, by simp⟩ : KT w w2.heap.size g g2 ⟨[], []⟩ ⟨[], []⟩ F F2 [] [] (.slice none 0 0) (.slice none 0 0) w3)
  generalize w2.heap.size = B2 at HK
  clear hp hb HP0 HB0
  go_wp2
  go_loopw [9, 10, 35] (fun sa sb iv wq => ∃ (i : Nat) (p : PS) (F F2 : Nat → Prop) (lm : List Int), i ≤ n ∧ iv = .int .i64 i ∧ lm.length ≤ i ∧ NZ p ∧ KT w B2 g g2 p p F F2 lm lm sa sb wq) (fun _ _ iv _ => n - (intOf iv).toNat)
  case atStart => exact ⟨0, _, F, F2, [], by omega, rfl, by simp, NZ.nil, HK.out⟩
  case round =>
    obtain ⟨i, p, F, F2, lm, hi, rfl, hlen, hnz, hk⟩ := hrel
    clear HK
    have HK := hide hk
    have HNZ := hide hnz
    clear hk hnz
    by_cases hlt : i < n
    · obtain ⟨ad, x, rfl, _, hx, hxw, hcl⟩ := (HH.out.below HK.out.below).at_ hlt
      have HXW := hide hxw
      have HCL := hide hcl
      have hic : i < cap := by omega
      clear hx hxw hcl
      have tok1 := True.intro
      have tok2 := True.intro
      go_upto_region 8 with (first
        | (clear tok1
           refine wpList_load_at rfl 33 (.tmp 37) rfl (ad.add (i * 7)) (by rfl) x.cells _ HCL.out Tryz.underlying33 rfl sizMd ?_)
        | (clear tok2
           refine wpList_store_new rfl 33 (.tmp 12) (.tmp 38) rfl _ x.cells (.agg x.cells.toArray) (by rfl) (by rfl) rfl sizMd rfl (MD.one _) ?_
           intro w6 G6 L6 Z6
           have HX := hide G6
           have HK6 := hide (HK.out.step L6)
           clear G6 L6 Z6)
        | fail)
      have HNF := hide (show ¬ F wr.heap.size ∧ ¬ F2 wr.heap.size from ⟨fun q => by have := (HK.out.p1.fb _ q).2; omega, fun q => by have := (HK.out.p2.fb _ q).2; omega⟩)
      obtain ⟨bx, hbx⟩ : ∃ b, wr.heap.size = b := ⟨_, rfl⟩
      rw [hbx] at HX HNF ⊢
      clear hbx HK HCL
      obtain ⟨A1, c1, hsv, hc1, hrd⟩ := HK6.out.r1.slice
      subst hsv
      obtain ⟨A2, c2, hsv, hc2, _⟩ := HK6.out.r2.slice
      subst hsv
      obtain ⟨r, hr⟩ := mk_some p HK6.out.p1.wf HK6.out.p1.rng x lm
      have HMK := hide hr
      obtain ⟨f, hf⟩ := hr
      have HF := hide hf
      have HRD := hide hrd
      have HC1 := hide hc1
      have HC2 := hide hc2
      have HG := hide (mk_good HK6.out.p1.wf HK6.out.p1.rng HXW.out HMK.out)
      have HNZ2 := hide (mk_nz HNZ.out HK6.out.p1.wf HK6.out.p1.rng HMK.out)
      clear hf hrd hc1 hc2
      have tok1 := True.intro
      go_wp2_with (first
        | (clear tok1
           refine wpList_load_at rfl 33 (.tmp 12) rfl _ (by rfl) x.cells _ (blk_list HX.out) Tryz.underlying33 rfl sizMd ?_)
        | fail)
      refine (mine_any f x HXW.out lm HK6.out.ib A1 lm.length c1 rfl HC1.out (by omega) r HF.out _ HK6.out.p1 HK6.out.below.size HRD.out).mono ?_
      rintro e w7 ⟨rfl, F7, hp7⟩
      have HK7 := hide (HK6.out.pg1 hp7)
      have HX7 := hide (hp7.blk HX.out HNF.out.1).1
      clear hp7 HRD HK6 HX
      obtain ⟨_, _, hsv, _, hrd⟩ := HK7.out.r2.slice
      injection hsv with ea el ec
      subst ea ec
      have HRD := hide hrd
      clear hrd el
      have tok1 := True.intro
      go_wp2_with (first
        | (clear tok1
           refine wpList_load_at rfl 33 (.tmp 12) rfl _ (by rfl) x.cells _ (blk_list HX7.out) Tryz.underlying33 rfl sizMd ?_)
        | fail)
      refine (own_any f x HXW.out HNZ.out lm HK7.out.ib A2 lm.length c2 rfl HC2.out (by omega) r HF.out _ HK7.out.p2 (Nat.le_trans HK7.out.ge.2 (Nat.le_refl _)) HRD.out).mono ?_
      rintro e w8 ⟨rfl, F8, hp8⟩
      have HK8 := hide (HK7.out.pg2 hp8)
      clear hp8 HRD HF HK7 HX7 HNF
      obtain ⟨p1, k, er⟩ := r
      dsimp only at HK8 HG HNZ2 ⊢
      cases hlim : (er == 260)
      rotate_left
      · as_aux_lemma =>
          go_wp2_with fail
          refine (wakes_any _).mono ?_
          rintro e w9 ⟨rfl, hb⟩
          have HB9 := hide (HK8.out.below.trans (hb.mono HK8.out.below.size))
          clear hb
          go_wp2
          go_ret
          exact ⟨rfl, HB9.out⟩
      have hne : (er != er) = false := by simp
      cases her : (er == 0)
      · have her' : (er != 0) = true := by simp only [bne, her]; rfl
        go_wp2
        go_roundw
        case measure => simp [intOf]; omega
        case rel => exact ⟨i + 1, p1, F7, F8, lm, by omega, by go_num, by omega, HNZ2.out, HK8.out⟩
      have h0 : er = 0 := by simpa using her
      subst h0
      have hki : I64 k := has_i64 HG.out.wf (HG.out.has rfl)
      have HKI := hide hki
      clear hki hlim hne her
      obtain ⟨ev, hev⟩ : ∃ v, evP p1.T vs k = v := ⟨_, rfl⟩
      have HEV := hide hev
      clear hev
      go_wp2_with fail
      refine (Eval_any (vs := vs) (nn := n0) (c := c0) k HKI.out _ HK8.out.p1 (reads_up (HV.out.2.2.below HK8.out.below) HK8.out.below.size) HV.out.1 hc0 hm0 HV.out.2.1).mono ?_
      rintro e w10 ⟨rfl, hb⟩
      have HK9 := hide (HK8.out.step hb)
      clear hb HK8
      rw [HEV.out]
      go_wp2_with fail
      refine (eval_r k vs _ _ HK9.out.p2 (HVW.out.below HK9.out.below) (by rw [HV.out.1]; omega) HV.out.2.1).mono ?_
      rintro e w11 ⟨rfl, hb⟩
      have HK10 := hide (HK9.out.step hb)
      clear hb HK9
      rw [HEV.out]
      go_upto_region 17 with fail
      go_cut [105] from 79 to 105 (fun sv wc => sv = .bool false ∧ Below w11.heap.size w11 wc)
      case first =>
        as_aux_lemma =>
          cases ev with
          | none =>
            simp only [resV]
            go_wp2_with fail
            refine (Narrow_any xw k _ HK10.out.p1).mono ?_
            rintro e w12 ⟨rfl, hb⟩
            have HB12 := hide hb
            have HP12 := hide (HK10.out.step hb).p2
            clear hb
            go_wp2_with fail
            refine (narrow_r xw k _ HP12.out).mono ?_
            rintro e w13 ⟨rfl, hb⟩
            have HB13 := hide (HB12.out.trans (hb.mono HB12.out.size))
            clear hb HB12 HP12
            generalize (hasB p1.T k && (wdB xw && narrowP p1.T k xw)) = nb
            have hnb : (nb != nb) = false := by cases nb <;> rfl
            cases nb
            all_goals
              go_wp2
              go_meet
              case rel => exact ⟨rfl, HB13.out⟩
          | some v =>
            simp only [resV]
            have hvv : (v != v) = false := by simp
            go_wp2_with fail
            refine (Narrow_any xw k _ HK10.out.p1).mono ?_
            rintro e w12 ⟨rfl, hb⟩
            have HB12 := hide hb
            have HP12 := hide (HK10.out.step hb).p2
            clear hb
            go_wp2_with fail
            refine (narrow_r xw k _ HP12.out).mono ?_
            rintro e w13 ⟨rfl, hb⟩
            have HB13 := hide (HB12.out.trans (hb.mono HB12.out.size))
            clear hb HB12 HP12
            generalize (hasB p1.T k && (wdB xw && narrowP p1.T k xw)) = nb
            have hnb : (nb != nb) = false := by cases nb <;> rfl
            cases nb
            all_goals
              go_wp2
              go_meet
              case rel => exact ⟨rfl, HB13.out⟩
      case rest =>
        obtain ⟨rfl, hbc⟩ := hcut
        have HK11 := hide (HK10.out.step hbc)
        clear hbc HK10
        go_wp2
        go_loopw [108] (fun iv wq => ∃ (j : Nat), j ≤ lm.length ∧ iv = .int .i64 j ∧ KT w B2 g g2 p1 p1 F7 F8 lm lm (.slice A1 lm.length c1) (.slice A2 lm.length c2) wq) (fun iv _ => lm.length - (intOf iv).toNat)
        case atStart => exact ⟨0, by omega, rfl, HK11.out⟩
        case round =>
          obtain ⟨j, hj, rfl, hk⟩ := hrel
          clear HK11
          have HK := hide hk
          clear hk
          by_cases hlt2 : j < lm.length
          · obtain ⟨A3, c3, hsv, hc3, hrd3⟩ := HK.out.r1.slice
            injection hsv with ea el ec
            subst ea ec
            obtain ⟨A4, c4, hsv, hc4, hrd4⟩ := HK.out.r2.slice
            injection hsv with ea el ec
            subst ea ec
            obtain ⟨ad1, u, rfl, _, hu, hcl1⟩ := hrd3.at_ hlt2
            obtain ⟨ad2, u2, rfl, _, hu2, hcl2⟩ := hrd4.at_ hlt2
            rw [hu] at hu2
            injection hu2 with hu2
            subst hu2
            rw [List.getElem?_map, List.getElem?_eq_getElem hlt2] at hu
            injection hu with hu
            subst hu
            generalize lm[j] = y at hcl1 hcl2
            have hjc1 : j < c1 := by omega
            have hjc2 : j < c2 := by omega
            clear hrd3 hrd4
            obtain ⟨yk, hyk⟩ : ∃ b, (y == k) = b := ⟨_, rfl⟩
            go_wp2
            go_quiet (fail)
            have HK12 := hide (HK.out.step (below_drewN (Below.refl _ _) nq))
            clear HK
            cases yk
            all_goals
              go_wp2
              go_roundw
              case measure => simp [intOf]; omega
              case rel => exact ⟨j + 1, by omega, by go_num, HK12.out⟩
          · obtain rfl : j = lm.length := by omega
            have HOW1 := hide HK.out.r1.own
            have tok1 := True.intro
            have tok2 := True.intro
            have hkm : lm.length + 1 ≤ maxLen := by unfold maxLen; omega
            have hkb : (lm.length + 1) * 8 ≤ 140737488355328 := by omega
            go_upto_region 26 with (first
              | (clear tok1
                 show wpList _ _ _ (⟨_, .buildSlice _ _ _, _, _, _, _⟩ :: _) _ _
                 refine wpList_push2 rfl rfl 30 3 (.tmp 126) (.tmp 125) (.tmp 127) rfl rfl w.heap.size 1 8 iN _ (.int .i64 k) (.slice A1 lm.length c1) [.int .i64 k] _ lm.length Tryz.underlying30 IN.out.1 IN.out.2.1 IN.out.2.2.1 IN.out.2.2.2 rfl (by omega) (by omega) (by rfl) rfl rfl one_int HOW1.out HK.out.below.size hkm hkb (by rfl) (by rfl) ?_
                 intro s21 w21 g21 G21 O21 B21 P21 N21
                 have HKP := hide (HK.out.push1 HKI.out O21 P21 N21)
                 clear O21 B21 P21 G21 N21)
              | fail)
            have HOW2 := hide HKP.out.r2.own
            go_wp2_with (first
              | (clear tok2
                 show wpList _ _ _ (⟨_, .buildSlice _ _ _, _, _, _, _⟩ :: _) _ _
                 refine wpList_push2 rfl rfl 30 3 (.tmp 130) (.tmp 129) (.tmp 131) rfl rfl w.heap.size 1 8 iN _ (.int .i64 k) (.slice A2 lm.length c2) [.int .i64 k] _ lm.length Tryz.underlying30 IN.out.1 IN.out.2.1 IN.out.2.2.1 IN.out.2.2.2 rfl (by omega) (by omega) (by rfl) rfl rfl one_int HOW2.out HKP.out.below.size hkm hkb (by rfl) (by rfl) ?_
                 intro s22 w22 g22 G22 O22 B22 P22 N22
                 have HKQ := hide (HKP.out.push2 HKI.out O22 P22 N22)
                 clear O22 B22 P22 G22 N22)
              | fail)
            go_roundw
            case measure => simp [intOf]; omega
            case rel => exact ⟨i + 1, p1, F7, F8, lm ++ [k], by omega, by go_num, by simp; omega, HNZ2.out, HKQ.out⟩
    · obtain rfl : i = n := by omega
      go_wp2_with fail
      refine (wakes_any _).mono ?_
      rintro e w9 ⟨rfl, hb⟩
      have HB9 := hide (HK.out.below.trans (hb.mono HK.out.below.size))
      clear hb
      go_wp2
      go_ret
      exact ⟨rfl, HB9.out⟩
end Go.Proofs.YtfjflefgclfbfaaGreat
