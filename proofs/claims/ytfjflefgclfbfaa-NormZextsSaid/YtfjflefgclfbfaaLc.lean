/-
  The walk of NormZexts: of two cuts the narrower one counts. Conditions: those written in each statement.
-/
import Derived.Test.YtfjflefgclfbfaaUi
import Derived.Test.YtfjflefgclfbfaaKc
namespace Go.Proofs.Ytfjflefgclfbfaa
open Go.RowKit
set_option linter.unusedVariables false
set_option linter.unusedSimpArgs false
set_option maxRecDepth 100000
set_option maxHeartbeats 16000000 in
theorem zexts27_walk (A : Option Addr) (n cap : Nat) (l : List MD) (v wd : Int) (hv8 : I8 v) (hw8 : I8 wd) (w : World) (hh : MksAt w w.heap.size A n l) (hm : n < 9223372036854775808) (hcap : n ≤ cap) :
    Calls Try.prog 6 #[.slice A n cap, .int .i8 v, .int .i8 wd] w fun e w' => e = .returned (.bool true) ∧ Below w.heap.size w w' := by
  have HH := hide hh
  have HV8 := hide hv8
  have HW8 := hide hw8
  clear hh hv8 hw8
  cases hg : decide (40 < n)
  rotate_left
  · have i4 : decide ((40 : Int) < (n : Int)) = true := by simp at hg ⊢; omega
    clear hg
    go_enter Try.func6, Try.ntmps6
    go_wp2_with fail
    refine (wakes_any _).mono ?_
    rintro e w4 ⟨rfl, hb4⟩
    have HBW := hide hb4
    clear hb4
    go_wp2
    go_ret
    exact ⟨rfl, HBW.out⟩
  · have h2 : n ≤ 40 := by simp at hg; omega
    have i4 : decide ((40 : Int) < (n : Int)) = false := by simp; omega
    clear hg
    obtain ⟨iN, hiN, hzN, hsN, hbN⟩ := info_parts infIn
    have IN := hide (And.intro hiN (And.intro hzN (And.intro hsN hbN)))
    clear hiN hzN hsN hbN
    go_enter Try.func6, Try.ntmps6
    go_wp2_with fail
    refine (new_any _).mono ?_
    rintro e w2 ⟨g, F, rfl, hp, hb⟩
    have HK := hide (⟨hp, RowN.nil _ _ _, hb, by simp⟩ : K1 w g ⟨[], []⟩ F [] (.slice none 0 0) w2)
    clear hp hb
    go_wp2
    go_loopw [8, 29] (fun sv iv wq => ∃ (i : Nat) (p : PS) (F : Nat → Prop) (lm : List Int), i ≤ n ∧ iv = .int .i64 i ∧ lm.length ≤ i ∧ (∀ v ∈ lm, hasB p.T v = true) ∧ K1 w g p F lm sv wq) (fun _ iv _ => n - (intOf iv).toNat)
    case atStart => exact ⟨0, _, F, [], by omega, rfl, by simp, by simp, HK.out⟩
    case round =>
      obtain ⟨i, p, F, lm, hi, rfl, hlen, hhas, hk⟩ := hrel
      have HHAS := hide hhas
      clear hhas
      clear HK
      have HK := hide hk
      clear hk
      by_cases hlt : i < n
      · obtain ⟨ad, x, rfl, _, hx, hxw, hcl⟩ := (HH.out.below HK.out.below).at_ hlt
        have HXW := hide hxw
        have HCL := hide hcl
        have hic : i < cap := by omega
        clear hx hxw hcl
        go_upto_region 8 with (first
          | (refine wpList_load_at rfl 31 (.tmp 31) rfl (ad.add (i * 7)) (by rfl) x.cells _ HCL.out Try.underlying31 rfl sizMd ?_)
          | (refine wpList_store_new rfl 31 (.tmp 10) (.tmp 32) rfl _ x.cells (.agg x.cells.toArray) (by rfl) (by rfl) rfl sizMd rfl (MD.one _) ?_
             intro w6 G6 L6 Z6
             have HX6 := hide G6
             have HK6 := hide (HK.out.step L6)
             clear G6 L6 Z6)
          | fail)
        obtain ⟨A1, c1, hsv, hc1, hrd⟩ := HK6.out.row.slice
        subst hsv
        obtain ⟨r, hr⟩ := mk_some p HK6.out.pool.wf HK6.out.pool.rng x lm
        have HMK := hide hr
        obtain ⟨f, hf⟩ := hr
        have HF := hide hf
        have HRD := hide hrd
        have HG := hide (mk_good HK6.out.pool.wf HK6.out.pool.rng HXW.out HMK.out)
        clear hf hrd HK HCL
        go_wp2_with (first
          | (refine wpList_load_at rfl 31 (.tmp 10) rfl _ (by rfl) x.cells _ (blk_list HX6.out) Try.underlying31 rfl sizMd ?_)
          | fail)
        refine (mine_any f x HXW.out lm HK6.out.ib A1 lm.length c1 rfl hc1 (by omega) r HF.out _ HK6.out.pool HK6.out.below.size HRD.out).mono ?_
        rintro e w7 ⟨rfl, F7, hp7⟩
        have HK7 := hide (HK6.out.pg hp7)
        clear hp7 HRD HF HX6 HK6
        obtain ⟨p1, k, er⟩ := r
        dsimp only at HK7 HG ⊢
        cases her : (er == 0)
        · go_wp2
          go_roundw
          case measure => simp [intOf]; omega
          case rel => exact ⟨i + 1, p1, F7, lm, by omega, by go_num, by omega, fun u hu => HG.out.ext.has (HHAS.out u hu), HK7.out⟩
        · have h0 : er = 0 := by simpa using her
          have hki : I64 k := has_i64 HG.out.wf (HG.out.has h0)
          have HOW := hide HK7.out.row.own
          go_wp2_with (first
            | (refine wpList_push2 rfl rfl 28 3 (.tmp 43) (.tmp 42) (.tmp 44) rfl rfl w.heap.size 1 8 iN _ (.int .i64 k) (.slice A1 lm.length c1) [.int .i64 k] _ lm.length Try.underlying28 IN.out.1 IN.out.2.1 IN.out.2.2.1 IN.out.2.2.2 rfl (by omega) (by omega) (by rfl) rfl rfl one_int HOW.out HK7.out.below.size (by unfold maxLen; omega) (by omega) (by rfl) (by rfl) ?_
               intro s8 w8 g8 G8 O8 B8 P8 N8
               have HK8 := hide (HK7.out.push hki O8 P8 N8)
               clear O8 B8 P8 G8 N8)
            | fail)
          go_roundw
          case measure => simp [intOf]; omega
          case rel => exact ⟨i + 1, p1, F7, lm ++ [k], by omega, by go_num, by simp; omega, fun u hu => by
            rcases List.mem_append.1 hu with e | e
            · exact HG.out.ext.has (HHAS.out u e)
            · simp at e; rw [e]; exact HG.out.has h0, HK8.out⟩
      · obtain rfl : i = n := by omega
        obtain ⟨A1, c1, hsv, hc1, hrd⟩ := HK.out.row.slice
        subst hsv
        have HRD := hide hrd
        have HIB := hide HK.out.ib
        have hq : wrap64 ((lm.length : Int) - 1) = (lm.length : Int) - 1 := by unfold wrap64; omega
        have hI : I64 ((lm.length : Int) - 1) := by unfold I64; omega
        clear hrd
        go_wp2_with fail
        refine (pick_any lm A1 lm.length c1 _ _ HRD.out rfl hc1 (by omega) _ hI).mono ?_
        rintro e w5 ⟨rfl, rfl⟩
        obtain ⟨x, hx⟩ : ∃ x, pickP lm ((lm.length : Int) - 1) = x := ⟨_, rfl⟩
        rw [hx]
        have HX := hide hx
        have HXI := hide (show I64 x from hx ▸ pickP_i64 HIB.out _)
        clear hx hq hI hc1 HRD
        by_cases hl0 : lm.length = 0
        · obtain rfl : x = -1 := by have := HX.out; unfold pickP at this; rw [if_pos hl0] at this; exact this.symm
          clear HX hl0
          have HZ := hide (show zextO 0 p v (-1) = some (p, 0, 2) by unfold zextO; rw [if_pos (.inl (by unfold hasB; simp))])
          go_wp2_with fail
          refine (Zext_any 0 v (-1) (by unfold I64; omega) (p, 0, 2) HZ.out _ HK.out.pool HK.out.below.size).mono ?_
          rintro e w7 ⟨rfl, F7, hp7⟩
          replace HK := hide (HK.out.pg hp7)
          clear hp7
          dsimp only at HK ⊢
          go_wp2_with fail
          refine (wakes_any _).mono ?_
          rintro e w9 ⟨rfl, hb⟩
          have HB9 := hide (HK.out.below.trans (hb.mono HK.out.below.size))
          clear hb
          go_wp2
          go_ret
          exact ⟨rfl, HB9.out⟩
        · have hmem : x ∈ lm := HX.out ▸ pick_mem hl0 _
          have HXH := hide (HHAS.out x hmem)
          have hx0 : 0 ≤ x := has_nat HXH.out
          have hxd : decide (x < 0) = false := by simp; omega
          clear hmem hl0 HX
          cases hv : wdB v
          · have HZ := hide (show zextO 0 p v x = some (p, 0, 2) by unfold zextO; rw [if_pos (.inr hv)])
            go_wp2_with fail
            refine (Zext_any 0 v x HXI.out (p, 0, 2) HZ.out _ HK.out.pool HK.out.below.size).mono ?_
            rintro e w7 ⟨rfl, F7, hp7⟩
            replace HK := hide (HK.out.pg hp7)
            clear hp7
            dsimp only at HK ⊢
            go_wp2_with fail
            refine (wdB_any _ _).mono ?_
            rintro e w8 ⟨rfl, rfl⟩
            rw [hv]
            go_wp2_with fail
            refine (wdB_any _ _).mono ?_
            rintro e w8 ⟨rfl, rfl⟩
            rw [hv]
            go_wp2_with fail
            refine (wakes_any _).mono ?_
            rintro e w9 ⟨rfl, hb⟩
            have HB9 := hide (HK.out.below.trans (hb.mono HK.out.below.size))
            clear hb
            go_wp2
            go_ret
            exact ⟨rfl, HB9.out⟩
          · obtain ⟨r1, hr1⟩ := zextF_some HK.out.pool.wf v (x.toNat + 1) x (by omega)
            have HZ := hide (show zextO (x.toNat + 1) p v x = some r1 by unfold zextO; rw [if_neg (by rw [HXH.out, hv]; simp)]; exact hr1)
            have HR1 := hide hr1
            have HW1 := hide (And.intro HK.out.pool.wf HK.out.pool.rng)
            have HG1 := hide (zext_good _ HK.out.pool.wf HK.out.pool.rng HV8.out HXH.out hr1)
            have HE1 := hide (zext_err HK.out.pool.wf (wd4_of hv) hr1 HXH.out)
            clear hr1
            go_wp2_with fail
            refine (Zext_any _ v x HXI.out r1 HZ.out _ HK.out.pool HK.out.below.size).mono ?_
            rintro e w7 ⟨rfl, F7, hp7⟩
            replace HK := hide (HK.out.pg hp7)
            clear hp7
            obtain ⟨p1, one, e1⟩ := r1
            dsimp only at HK HE1 HG1 ⊢
            go_wp2_with fail
            refine (wdB_any _ _).mono ?_
            rintro e w8 ⟨rfl, rfl⟩
            rw [hv]
            go_wp2_with fail
            refine (wdB_any _ _).mono ?_
            rintro e w8 ⟨rfl, rfl⟩
            cases hw : wdB wd
            · go_wp2_with fail
              refine (wdB_any _ _).mono ?_
              rintro e w8 ⟨rfl, rfl⟩
              rw [hv]
              go_wp2_with fail
              refine (wakes_any _).mono ?_
              rintro e w9 ⟨rfl, hb⟩
              have HB9 := hide (HK.out.below.trans (hb.mono HK.out.below.size))
              clear hb
              go_wp2
              go_ret
              exact ⟨rfl, HB9.out⟩
            · have HI1 := hide (zext_i64 HW1.out.1 HW1.out.2 HV8.out HR1.out HXH.out)
              obtain ⟨r2, hr2⟩ := zextO_some HK.out.pool.wf wd one
              have HZ2 := hide hr2
              have HG2 := hide (zextO_good HK.out.pool.wf HK.out.pool.rng HW8.out hr2)
              have HW2 := hide (And.intro HK.out.pool.wf HK.out.pool.rng)
              clear hr2
              dsimp only at HI1
              go_wp2_with fail
              refine (Zext_any _ wd one HI1.out r2 HZ2.out _ HK.out.pool HK.out.below.size).mono ?_
              rintro e w7 ⟨rfl, F7, hp7⟩
              replace HK := hide (HK.out.pg hp7)
              clear hp7
              obtain ⟨p2, two, e2⟩ := r2
              dsimp only at HK HG2 ⊢
              by_cases hle : v ≤ wd
              · skip
                obtain ⟨r3, hr3⟩ := zextO_some HK.out.pool.wf v x
                have HX2 := hide (HG2.out.ext.has (HG1.out.ext.has HXH.out))
                have HZ3 := hide hr3
                have HR3 := hide (zextO_yes HX2.out hv hr3)
                have HG3 := hide (zextO_good HK.out.pool.wf HK.out.pool.rng HV8.out hr3)
                have HE3 := hide (zext_err HK.out.pool.wf (wd4_of hv) HR3.out HX2.out)
                clear hr3
                go_wp2_with fail
                refine (Zext_any _ v x HXI.out r3 HZ3.out _ HK.out.pool HK.out.below.size).mono ?_
                rintro e w7 ⟨rfl, F7, hp7⟩
                replace HK := hide (HK.out.pg hp7)
                clear hp7
                obtain ⟨p3, least, e3⟩ := r3
                dsimp only at HK HG3 HE3 ⊢
                cases k1 : (e1 == 0)
                · have n1 : e1 = 260 := HE1.out.resolve_left (by simpa using k1)
                  subst n1
                  go_wp2_with fail
                  refine (wakes_any _).mono ?_
                  rintro e w9 ⟨rfl, hb⟩
                  have HB9 := hide (HK.out.below.trans (hb.mono HK.out.below.size))
                  clear hb
                  go_wp2
                  go_ret
                  exact ⟨rfl, HB9.out⟩
                · have n1 : e1 = 0 := by simpa using k1
                  subst n1
                  have HH1 := hide (HG1.out.has rfl)
                  have HR2 := hide (zextO_yes HH1.out hw HZ2.out)
                  have HE2 := hide (zext_err HW2.out.1 (wd4_of hw) HR2.out HH1.out)
                  dsimp only at HE2
                  cases k2 : (e2 == 0)
                  · have n2 : e2 = 260 := HE2.out.resolve_left (by simpa using k2)
                    subst n2
                    go_wp2_with fail
                    refine (wakes_any _).mono ?_
                    rintro e w9 ⟨rfl, hb⟩
                    have HB9 := hide (HK.out.below.trans (hb.mono HK.out.below.size))
                    clear hb
                    go_wp2
                    go_ret
                    exact ⟨rfl, HB9.out⟩
                  · have n2 : e2 = 0 := by simpa using k2
                    subst n2
                    cases k3 : (e3 == 0)
                    · have n3 : e3 = 260 := HE3.out.resolve_left (by simpa using k3)
                      subst n3
                      go_wp2_with fail
                      refine (wakes_any _).mono ?_
                      rintro e w9 ⟨rfl, hb⟩
                      have HB9 := hide (HK.out.below.trans (hb.mono HK.out.below.size))
                      clear hb
                      go_wp2
                      go_ret
                      exact ⟨rfl, HB9.out⟩
                    · have n3 : e3 = 0 := by simpa using k3
                      subst n3
                      have hz := zexts_plain HW1.out.1 HW1.out.2 (wd4_of hv) (wd4_of hw) HXH.out HR1.out rfl HR2.out rfl (r3 := (p3, least, 0)) (by rw [Int.min_eq_left hle]; exact HR3.out) rfl
                      have hte : two = least := hz.1
                      subst hte
                      have HN := hide hz.2
                      have HX3 := hide (HG3.out.ext.has HX2.out)
                      have HO3 := hide (HG3.out.ext.has (HG2.out.ext.has HH1.out))
                      obtain ⟨r4, hr4⟩ := cond_some p3 4 64 x one
                      have HC4 := hide hr4
                      have HG4 := hide (cond_good 2 HK.out.pool.wf HK.out.pool.rng hr4)
                      have HT4 := hide (cond_thin 2 hr4)
                      clear hr4 hz
                      go_wp2_with fail
                      refine (cond_all (base := w.heap.size) (g := g) 2 4 64 x one HXI.out HI1.out _ p3 r4 HC4.out _ HK.out.pool HK.out.below.size).mono ?_
                      rintro e w7 ⟨rfl, F7, hp7⟩
                      replace HK := hide (HK.out.pg hp7)
                      clear hp7
                      obtain ⟨p4, c4, e4⟩ := r4
                      dsimp only at HK HG4 HT4 HN ⊢
                      have HNV := hide (show (hasB p4.T one && (wdB v && narrowP p4.T one v)) = true by
                        have ho := HG4.out.ext.has HO3.out
                        rw [ho, hv, narrow_ext HG4.out.ext HO3.out, narrow_ext HG3.out.ext (HG2.out.ext.has HH1.out), narrow_ext HG2.out.ext HH1.out, HN.out]
                        rfl)
                      go_wp2_with fail
                      refine (Narrow_any v one _ HK.out.pool).mono ?_
                      rintro e w8 ⟨rfl, hb⟩
                      rw [HNV.out]
                      replace HK := hide (HK.out.step hb)
                      clear hb
                      cases k4 : (e4 == 0)
                      · have k4' : (e4 != 0) = true := by simp only [bne, k4]; rfl
                        go_wp2_with fail
                        refine (wakes_any _).mono ?_
                        rintro e w9 ⟨rfl, hb⟩
                        have HB9 := hide (HK.out.below.trans (hb.mono HK.out.below.size))
                        clear hb
                        go_wp2
                        go_ret
                        exact ⟨rfl, HB9.out⟩
                      · have n4 : e4 = 0 := by simpa using k4
                        subst n4
                        have HNC := hide (show (hasB p4.T c4 && (wdB 8 && narrowP p4.T c4 8)) = true by
                          rw [HG4.out.has rfl, HT4.out rfl]; rfl)
                        go_wp2_with fail
                        refine (Narrow_any 8 c4 _ HK.out.pool).mono ?_
                        rintro e w8 ⟨rfl, hb⟩
                        rw [HNC.out]
                        replace HK := hide (HK.out.step hb)
                        clear hb
                        go_wp2_with fail
                        refine (wakes_any _).mono ?_
                        rintro e w9 ⟨rfl, hb⟩
                        have HB9 := hide (HK.out.below.trans (hb.mono HK.out.below.size))
                        clear hb
                        go_wp2
                        go_ret
                        exact ⟨rfl, HB9.out⟩
              · skip
                obtain ⟨r3, hr3⟩ := zextO_some HK.out.pool.wf wd x
                have HX2 := hide (HG2.out.ext.has (HG1.out.ext.has HXH.out))
                have HZ3 := hide hr3
                have HR3 := hide (zextO_yes HX2.out hw hr3)
                have HG3 := hide (zextO_good HK.out.pool.wf HK.out.pool.rng HW8.out hr3)
                have HE3 := hide (zext_err HK.out.pool.wf (wd4_of hw) HR3.out HX2.out)
                clear hr3
                go_wp2_with fail
                refine (Zext_any _ wd x HXI.out r3 HZ3.out _ HK.out.pool HK.out.below.size).mono ?_
                rintro e w7 ⟨rfl, F7, hp7⟩
                replace HK := hide (HK.out.pg hp7)
                clear hp7
                obtain ⟨p3, least, e3⟩ := r3
                dsimp only at HK HG3 HE3 ⊢
                cases k1 : (e1 == 0)
                · have n1 : e1 = 260 := HE1.out.resolve_left (by simpa using k1)
                  subst n1
                  go_wp2_with fail
                  refine (wakes_any _).mono ?_
                  rintro e w9 ⟨rfl, hb⟩
                  have HB9 := hide (HK.out.below.trans (hb.mono HK.out.below.size))
                  clear hb
                  go_wp2
                  go_ret
                  exact ⟨rfl, HB9.out⟩
                · have n1 : e1 = 0 := by simpa using k1
                  subst n1
                  have HH1 := hide (HG1.out.has rfl)
                  have HR2 := hide (zextO_yes HH1.out hw HZ2.out)
                  have HE2 := hide (zext_err HW2.out.1 (wd4_of hw) HR2.out HH1.out)
                  dsimp only at HE2
                  cases k2 : (e2 == 0)
                  · have n2 : e2 = 260 := HE2.out.resolve_left (by simpa using k2)
                    subst n2
                    go_wp2_with fail
                    refine (wakes_any _).mono ?_
                    rintro e w9 ⟨rfl, hb⟩
                    have HB9 := hide (HK.out.below.trans (hb.mono HK.out.below.size))
                    clear hb
                    go_wp2
                    go_ret
                    exact ⟨rfl, HB9.out⟩
                  · have n2 : e2 = 0 := by simpa using k2
                    subst n2
                    cases k3 : (e3 == 0)
                    · have n3 : e3 = 260 := HE3.out.resolve_left (by simpa using k3)
                      subst n3
                      go_wp2_with fail
                      refine (wakes_any _).mono ?_
                      rintro e w9 ⟨rfl, hb⟩
                      have HB9 := hide (HK.out.below.trans (hb.mono HK.out.below.size))
                      clear hb
                      go_wp2
                      go_ret
                      exact ⟨rfl, HB9.out⟩
                    · have n3 : e3 = 0 := by simpa using k3
                      subst n3
                      have hz := zexts_plain HW1.out.1 HW1.out.2 (wd4_of hv) (wd4_of hw) HXH.out HR1.out rfl HR2.out rfl (r3 := (p3, least, 0)) (by rw [Int.min_eq_right (by omega)]; exact HR3.out) rfl
                      have hte : two = least := hz.1
                      subst hte
                      have HN := hide hz.2
                      have HX3 := hide (HG3.out.ext.has HX2.out)
                      have HO3 := hide (HG3.out.ext.has (HG2.out.ext.has HH1.out))
                      obtain ⟨r4, hr4⟩ := cond_some p3 4 64 x one
                      have HC4 := hide hr4
                      have HG4 := hide (cond_good 2 HK.out.pool.wf HK.out.pool.rng hr4)
                      have HT4 := hide (cond_thin 2 hr4)
                      clear hr4 hz
                      go_wp2_with fail
                      refine (cond_all (base := w.heap.size) (g := g) 2 4 64 x one HXI.out HI1.out _ p3 r4 HC4.out _ HK.out.pool HK.out.below.size).mono ?_
                      rintro e w7 ⟨rfl, F7, hp7⟩
                      replace HK := hide (HK.out.pg hp7)
                      clear hp7
                      obtain ⟨p4, c4, e4⟩ := r4
                      dsimp only at HK HG4 HT4 HN ⊢
                      have HNV := hide (show (hasB p4.T one && (wdB v && narrowP p4.T one v)) = true by
                        have ho := HG4.out.ext.has HO3.out
                        rw [ho, hv, narrow_ext HG4.out.ext HO3.out, narrow_ext HG3.out.ext (HG2.out.ext.has HH1.out), narrow_ext HG2.out.ext HH1.out, HN.out]
                        rfl)
                      go_wp2_with fail
                      refine (Narrow_any v one _ HK.out.pool).mono ?_
                      rintro e w8 ⟨rfl, hb⟩
                      rw [HNV.out]
                      replace HK := hide (HK.out.step hb)
                      clear hb
                      cases k4 : (e4 == 0)
                      · have k4' : (e4 != 0) = true := by simp only [bne, k4]; rfl
                        go_wp2_with fail
                        refine (wakes_any _).mono ?_
                        rintro e w9 ⟨rfl, hb⟩
                        have HB9 := hide (HK.out.below.trans (hb.mono HK.out.below.size))
                        clear hb
                        go_wp2
                        go_ret
                        exact ⟨rfl, HB9.out⟩
                      · have n4 : e4 = 0 := by simpa using k4
                        subst n4
                        have HNC := hide (show (hasB p4.T c4 && (wdB 8 && narrowP p4.T c4 8)) = true by
                          rw [HG4.out.has rfl, HT4.out rfl]; rfl)
                        go_wp2_with fail
                        refine (Narrow_any 8 c4 _ HK.out.pool).mono ?_
                        rintro e w8 ⟨rfl, hb⟩
                        rw [HNC.out]
                        replace HK := hide (HK.out.step hb)
                        clear hb
                        go_wp2_with fail
                        refine (wakes_any _).mono ?_
                        rintro e w9 ⟨rfl, hb⟩
                        have HB9 := hide (HK.out.below.trans (hb.mono HK.out.below.size))
                        clear hb
                        go_wp2
                        go_ret
                        exact ⟨rfl, HB9.out⟩
theorem zexts27_wf (A : Option Addr) (n cap : Nat) (l : List MD) (v wd : Int) (h1 : (Lit.int .i8 v).wf = true) (h2 : (Lit.int .i8 wd).wf = true) (w : World) (hh : MksAt w w.heap.size A n l) (hm : n < 9223372036854775808) (hcap : n ≤ cap) :
    Calls Try.prog 6 #[.slice A n cap, .int .i8 v, .int .i8 wd] w fun e w' => e = .returned (.bool true) ∧ Below w.heap.size w w' :=
  zexts27_walk A n cap l v wd (by have := bounds_i8 h1; unfold I8; omega) (by have := bounds_i8 h2; unfold I8; omega) w hh hm hcap
end Go.Proofs.Ytfjflefgclfbfaa
