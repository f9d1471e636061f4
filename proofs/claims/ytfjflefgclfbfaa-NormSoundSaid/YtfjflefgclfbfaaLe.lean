/-
  The walk of NormSound: values are the parts' operation. Conditions: those written in each statement.
-/
import Derived.Test.YtfjflefgclfbfaaUv
import Derived.Test.YtfjflefgclfbfaaKa
namespace Go.Proofs.Ytfjflefgclfbfaa
open Go.RowKit
set_option linter.unusedVariables false
set_option linter.unusedSimpArgs false
set_option maxRecDepth 100000
set_option maxHeartbeats 16000000 in
theorem sound27_walk (A : Option Addr) (n cap : Nat) (l : List MD) (R : List Int) (hR : R.length = 64) (hU : ∀ x ∈ R, U64 x) (w : World) (hh : MksAt w w.heap.size A n l) (hm : n < 9223372036854775808) (hcap : n ≤ cap) :
    Calls Try.prog 3 #[.slice A n cap, .agg (uW R).toArray] w fun e w' => e = .returned (.bool true) ∧ Below w.heap.size w w' := by
  have HH := hide hh
  have HRL := hide hR
  have HU := hide hU
  have HUL := hide (show (uW R).length = 64 by unfold uW; rw [List.length_map, hR])
  have HB0 := hide (bl_alloc w (.cells (uW R).toArray 24))
  have HBV := hide (Blk.new w 24 (uW R).toArray)
  clear hh hR hU
  cases hg : decide (60 < n)
  rotate_left
  · have i4 : decide ((60 : Int) < (n : Int)) = true := by simp at hg ⊢; omega
    clear hg
    go_enter Try.func3, Try.ntmps3
    go_wp2_with fail
    refine (wakes_any _).mono ?_
    rintro e w4 ⟨rfl, hb4⟩
    have HBW := hide (HB0.out.trans (hb4.mono HB0.out.size))
    clear hb4
    go_wp2
    go_ret
    exact ⟨rfl, HBW.out⟩
  · have h2 : n ≤ 60 := by simp at hg; omega
    have i4 : decide ((60 : Int) < (n : Int)) = false := by simp; omega
    clear hg
    obtain ⟨iN, hiN, hzN, hsN, hbN⟩ := info_parts infIn
    have IN := hide (And.intro hiN (And.intro hzN (And.intro hsN hbN)))
    clear hiN hzN hsN hbN
    go_enter Try.func3, Try.ntmps3
    go_upto_region 1 with fail
    generalize (w.alloc (.cells (uW R).toArray 24)) = w1 at HB0 HBV ⊢
    obtain ⟨bv, hbv⟩ : ∃ b, w.heap.size = b := ⟨_, rfl⟩
    have HBVE := hide hbv
    rw [hbv] at HBV ⊢
    clear hbv
    go_wp2_with fail
    refine (new_any _).mono ?_
    rintro e w2 ⟨g, F, rfl, hp, hb⟩
    have HVV := hide (HBV.out.below hb HBV.out.lt)
    have HBLT := hide (show bv < w1.heap.size from HBV.out.lt)
    have HNV := hide (show ¬ F bv from fun q => by have := (hp.fb _ q).1; have := HBV.out.lt; omega)
    have HK := hide (⟨hp, RowN.nil _ _ _, hb, by simp⟩ : K1 w1 g ⟨[], []⟩ F [] (.slice none 0 0) w2)
    clear hp hb HBV
    go_wp2
    go_loopw [6, 29] (fun sv iv wq => ∃ (i : Nat) (p : PS) (F : Nat → Prop) (lm : List Int), i ≤ n ∧ iv = .int .i64 i ∧ lm.length ≤ i ∧ (∀ v ∈ lm, hasB p.T v = true) ∧ AV R p ∧ ¬ F bv ∧ Blk wq bv 24 (uW R).toArray ∧ K1 w1 g p F lm sv wq) (fun _ iv _ => n - (intOf iv).toNat)
    case atStart => exact ⟨0, _, F, [], by omega, rfl, by simp, by simp, AV.nil R, HNV.out, HVV.out, HK.out⟩
    case round =>
      obtain ⟨i, p, F, lm, hi, rfl, hlen, hhas, hav, hnv, hvv, hk⟩ := hrel
      clear HK HVV HNV
      have HHAS := hide hhas
      have HAV := hide hav
      have HNV := hide hnv
      have HVV := hide hvv
      have HK := hide hk
      clear hk hhas hav hnv hvv
      by_cases hlt : i < n
      · obtain ⟨ad, x, rfl, _, hx, hxw, hcl⟩ := (HH.out.below (HB0.out.trans (HK.out.below.mono HB0.out.size))).at_ hlt
        have HXW := hide hxw
        have HCL := hide hcl
        have hic : i < cap := by omega
        clear hx hxw hcl
        go_upto_region 8 with (first
          | (refine wpList_load_at rfl 31 (.tmp 31) rfl (ad.add (i * 7)) (by rfl) x.cells _ HCL.out Try.underlying31 rfl sizMd ?_)
          | (refine wpList_store_new rfl 31 (.tmp 8) (.tmp 32) rfl _ x.cells (.agg x.cells.toArray) (by rfl) (by rfl) rfl sizMd rfl (MD.one _) ?_
             intro w6 G6 L6 Z6
             have HX := hide G6
             have HL6 := hide L6
             have HK6 := hide (HK.out.step L6)
             clear G6 L6 Z6)
          | fail)
        have HNF := hide (show ¬ F wr.heap.size from fun q => by have := (HK.out.pool.fb _ q).2; omega)
        replace HVV := hide (HVV.out.below HL6.out HVV.out.lt)
        obtain ⟨bx, hbx⟩ : ∃ b, wr.heap.size = b := ⟨_, rfl⟩
        rw [hbx] at HX HNF ⊢
        clear hbx HK HCL HL6
        obtain ⟨A1, c1, hsv, hc1, hrd⟩ := HK6.out.row.slice
        subst hsv
        obtain ⟨r, hr⟩ := mk_some p HK6.out.pool.wf HK6.out.pool.rng x lm
        have HMK := hide hr
        obtain ⟨f, hf⟩ := hr
        have HF := hide hf
        have HRD := hide hrd
        have HC1 := hide hc1
        have HPW := hide (And.intro HK6.out.pool.wf HK6.out.pool.rng)
        have HS := hide (mk_snd HU.out HK6.out.pool.wf HK6.out.pool.rng HAV.out (by have := HRL.out; omega) HXW.out HHAS.out HMK.out)
        clear hf hrd hc1
        go_wp2_with (first
          | (refine wpList_load_at rfl 31 (.tmp 8) rfl _ (by rfl) x.cells _ (blk_list HX.out) Try.underlying31 rfl sizMd ?_)
          | fail)
        refine (mine_any f x HXW.out lm HK6.out.ib A1 lm.length c1 rfl HC1.out (by omega) r HF.out _ HK6.out.pool HK6.out.below.size HRD.out).mono ?_
        rintro e w7 ⟨rfl, F7, hp7⟩
        have HK := hide (HK6.out.pg hp7)
        have HXF := hide (hp7.blk HX.out HNF.out)
        have HVF := hide (hp7.blk HVV.out HNV.out)
        replace HX := hide HXF.out.1
        replace HVV := hide HVF.out.1
        have HNF7 := hide HXF.out.2
        have HNV7 := hide HVF.out.2
        clear hp7 HRD HF HK6 HXF HNF HVF HNV
        have HAK := hide (mk_asks HMK.out)
        obtain ⟨p1, k, er⟩ := r
        have HG := hide HS.out.good
        have HAV7 := hide HS.out.av
        have HVAL := hide HS.out.val
        dsimp only at HK HG HAV7 HVAL HAK ⊢
        cases her : (er == 0)
        · have her' : (er != 0) = true := by simp only [bne, her]; rfl
          go_wp2
          go_roundw
          case measure => simp [intOf]; omega
          case rel => exact ⟨i + 1, p1, F7, lm, by omega, by go_num, by omega, fun u hu => HG.out.ext.has (HHAS.out u hu), HAV7.out, HNV7.out, HVV.out, HK.out⟩
        · have h0 : er = 0 := by simpa using her
          subst h0
          have hki : I64 k := has_i64 HG.out.wf (HG.out.has rfl)
          have HV7 := hide (HVAL.out rfl)
          have HA7 := hide (HAK.out rfl)
          clear HVAL HAK HS
          obtain ⟨want, hwant⟩ : ∃ v, wantV R p x lm = v := ⟨_, rfl⟩
          rw [hwant] at HV7
          have HWANT := hide hwant
          clear hwant
          have hrv := fun (q : World) (hq : Blk q bv 24 (uW R).toArray) => reads_blk (xs := uW R) hq 64 1 (by rw [HUL.out])
          have HRV := hide hrv
          clear hrv
          go_wp2_with fail
          refine (Eval_any (vs := R) (nn := 64) (c := 64) k hki _ HK.out.pool (reads_up (HRV.out _ HVV.out) (by have := HVV.out.lt; omega)) HRL.out (Nat.le_refl _) (by omega) HU.out).mono ?_
          rintro e w8 ⟨rfl, hb⟩
          rw [HV7.out]
          dsimp only [resV]
          replace HK := hide (HK.out.step hb)
          replace HX := hide (HX.out.below hb HX.out.lt)
          replace HVV := hide (HVV.out.below hb HVV.out.lt)
          clear hb
          have q0 := HX.out.cell 0
          have q6 := HX.out.cell 6
          simp [MD.cells] at q0 q6
          go_upto_region 16 with fail
          have HVLT := hide (show bv < w1.heap.size from HBLT.out)
          cases k0 : (x.kind == 0)
          rotate_left
          · have n0 : x.kind = 0 := by simpa using k0
            have hk : want = x.n := by rw [← HWANT.out]; unfold wantV; rw [if_pos n0]
            subst hk
            go_upto_region 42 with fail
            have HOW := hide HK.out.row.own
            go_wp2_with (first
              | (refine wpList_push2 rfl rfl 28 3 (.tmp 159) (.tmp 158) (.tmp 160) rfl rfl w1.heap.size 1 8 iN _ (.int .i64 k) (.slice A1 lm.length c1) [.int .i64 k] _ lm.length Try.underlying28 IN.out.1 IN.out.2.1 IN.out.2.2.1 IN.out.2.2.2 rfl (by omega) (by omega) (by rfl) rfl rfl one_int HOW.out HK.out.below.size (by unfold maxLen; omega) (by omega) (by rfl) (by rfl) ?_
                 intro s23 w23 g23 G23 O23 B23 P23 N23
                 have HVN := hide (HVV.out.grown P23 (fun e => by have := (own_ge HOW.out bv e.symm).1; have := HVLT.out; omega))
                 have HK23 := hide (HK.out.push hki O23 P23 N23)
                 clear O23 B23 P23 G23 N23)
              | fail)
            go_roundw
            case measure => simp [intOf]; omega
            case rel => exact ⟨i + 1, p1, F7, lm ++ [k], by omega, by go_num, by simp; omega, fun u hu => by
              rcases List.mem_append.1 hu with e | e
              · exact HG.out.ext.has (HHAS.out u e)
              · simp at e; rw [e]; exact HG.out.has rfl, HAV7.out, HNV7.out, HVN.out, HK23.out⟩
          cases k1 : (x.kind == 1)
          rotate_left
          · have n1 : x.kind = 1 := by simpa using k1
            have hk : want = cutV x.w (R.getD (x.n % 64).toNat 0) := by rw [← HWANT.out]; unfold wantV; rw [if_neg (by omega), if_pos n1]
            subst hk
            have hu := HXW.out.2.2.2.2.2.2
            obtain ⟨j, hj⟩ : ∃ j : Nat, x.n % 64 = j := ⟨(x.n % 64).toNat, by omega⟩
            have hj64 : j < 64 := by omega
            have hm : x.n.tmod 64 = (j : Int) := by rw [← hj]; exact Int.tmod_eq_emod_of_nonneg hu.1
            have hw1 : IntKind.u64.wrap (j : Int) = j := by rw [IntKind.wrap_u64]; omega
            rw [show (x.n % 64).toNat = j by omega] at HV7 HWANT ⊢
            obtain ⟨u, hu2⟩ : ∃ u, R.getD j 0 = u := ⟨_, rfl⟩
            rw [hu2] at HV7 HWANT ⊢
            have hcj : w8.cell? ⟨bv, j, none⟩ = some (.int .u64 u) := by
              rw [HVV.out.cell j]
              have hlj : j < R.length := by rw [HRL.out]; exact hj64
              rw [← hu2, List.getD_eq_getElem?_getD, List.getElem?_eq_getElem hlj]
              unfold uW
              simp [List.getElem?_eq_getElem hlj]
            have q2 := HX.out.cell 2
            simp [MD.cells] at q2
            clear hu hj hu2
            have HCM := hide (fun w => (cut_any u x.w w).mono fun e w' q => (⟨q.1, q.2.symm⟩ : e = Ending.returned (.int .u64 (cutV x.w u)) ∧ w' = w))
            go_upto_region 29 with fail
            go_quiet ((go_at_call 13; refine Calls.quiet_of_same (HCM.out _)))
            replace HK := hide (HK.out.step (below_drewN (Below.refl _ _) nq))
            replace HVV := hide (HVV.out.below (below_drewN (Below.refl _ _) nq) HVV.out.lt)
            go_upto_region 42 with fail
            have HOW := hide HK.out.row.own
            go_wp2_with (first
              | (refine wpList_push2 rfl rfl 28 3 (.tmp 159) (.tmp 158) (.tmp 160) rfl rfl w1.heap.size 1 8 iN _ (.int .i64 k) (.slice A1 lm.length c1) [.int .i64 k] _ lm.length Try.underlying28 IN.out.1 IN.out.2.1 IN.out.2.2.1 IN.out.2.2.2 rfl (by omega) (by omega) (by rfl) rfl rfl one_int HOW.out HK.out.below.size (by unfold maxLen; omega) (by omega) (by rfl) (by rfl) ?_
                 intro s23 w23 g23 G23 O23 B23 P23 N23
                 have HVN := hide (HVV.out.grown P23 (fun e => by have := (own_ge HOW.out bv e.symm).1; have := HVLT.out; omega))
                 have HK23 := hide (HK.out.push hki O23 P23 N23)
                 clear O23 B23 P23 G23 N23)
              | fail)
            go_roundw
            case measure => simp [intOf]; omega
            case rel => exact ⟨i + 1, p1, F7, lm ++ [k], by omega, by go_num, by simp; omega, fun u hu => by
              rcases List.mem_append.1 hu with e | e
              · exact HG.out.ext.has (HHAS.out u e)
              · simp at e; rw [e]; exact HG.out.has rfl, HAV7.out, HNV7.out, HVN.out, HK23.out⟩
          · have n0 : x.kind ≠ 0 := by simpa using k0
            have n1 : x.kind ≠ 1 := by simpa using k1
            have hl0 := HA7.out.2.2.2 n0 n1
            obtain ⟨pa, hpa⟩ : ∃ v, pickP lm x.a = v := ⟨_, rfl⟩
            have HPa := hide hpa
            have HXIa := hide (show I64 x.a from HXW.out.2.2.2.1)
            have hpha : hasB p.T pa = true := hpa ▸ HHAS.out _ (pick_mem hl0 _)
            have HPIa := hide (has_i64 HPW.out.1 hpha)
            obtain ⟨sa, hsa⟩ : ∃ v, valD R p pa = v := ⟨_, rfl⟩
            have HWa := hide hsa
            have HSa := hide (show evP p1.T R pa = some sa from hsa ▸ ev_up HPW.out.1 HG.out.wf HG.out.ext (valD_some HAV.out hpha))
            clear hpa hpha hsa
            obtain ⟨pb, hpb⟩ : ∃ v, pickP lm x.b = v := ⟨_, rfl⟩
            have HPb := hide hpb
            have HXIb := hide (show I64 x.b from HXW.out.2.2.2.2.1)
            have hphb : hasB p.T pb = true := hpb ▸ HHAS.out _ (pick_mem hl0 _)
            have HPIb := hide (has_i64 HPW.out.1 hphb)
            obtain ⟨sb, hsb⟩ : ∃ v, valD R p pb = v := ⟨_, rfl⟩
            have HWb := hide hsb
            have HSb := hide (show evP p1.T R pb = some sb from hsb ▸ ev_up HPW.out.1 HG.out.wf HG.out.ext (valD_some HAV.out hphb))
            clear hpb hphb hsb
            obtain ⟨pc, hpc⟩ : ∃ v, pickP lm x.c = v := ⟨_, rfl⟩
            have HPc := hide hpc
            have HXIc := hide (show I64 x.c from HXW.out.2.2.2.2.2.1)
            have hphc : hasB p.T pc = true := hpc ▸ HHAS.out _ (pick_mem hl0 _)
            have HPIc := hide (has_i64 HPW.out.1 hphc)
            obtain ⟨sc, hsc⟩ : ∃ v, valD R p pc = v := ⟨_, rfl⟩
            have HWc := hide hsc
            have HSc := hide (show evP p1.T R pc = some sc from hsc ▸ ev_up HPW.out.1 HG.out.wf HG.out.ext (valD_some HAV.out hphc))
            clear hpc hphc hsc
            go_cut [58] from 51 to 58 (fun sv wc => sv = .bool true ∧ wc = w8)
            case first =>
              cases h2 : decide (2 ≤ x.kind)
              · have h3 : decide (x.kind < 0) = true := by simp at h2 ⊢; omega
                go_wp2
                go_meet
                case rel => exact ⟨rfl, rfl⟩
              · go_wp2
                go_meet
                case rel => exact ⟨rfl, rfl⟩
            case rest =>
              obtain ⟨rfl, hwc⟩ := hcut
              subst hwc
              clear q0 q6
              go_upto_region 17 with fail
              refine wp_region_E (fun w' => Blk w' bx 31 x.cells.toArray ∧ Blk w' bv 24 (uW R).toArray) (fun _ => True) [] (by kernel_rfl) ?_
              have HT := hide (⟨HX.out.below ((Below.refl _ _).drew) HX.out.lt, HVV.out.below ((Below.refl _ _).drew) HVV.out.lt⟩ : Blk wc.drew bx 31 x.cells.toArray ∧ Blk wc.drew bv 24 (uW R).toArray)
              replace HK := hide (HK.out.step ((Below.refl _ _).drew))
              clear HX HVV
              generalize wc.drew = Wd at HK HT ⊢
              refine E_move 0 (some 60) _ (.pointer (some ⟨g, 0, none⟩)) rfl (by kernel_rfl) (by rfl) (fun _ _ _ h => h) (by rfl) (.both HT.out trivial) ?_
              simp only [Act.put, List.setIfInBounds_toArray, List.set_cons_zero, List.set_cons_succ]
              refine E_move 1 (some 61) _ (.slice A1 lm.length c1) rfl (by kernel_rfl) (by rfl) (fun _ _ _ h => h) (by rfl) (.both HT.out trivial) ?_
              simp only [Act.put, List.setIfInBounds_toArray, List.set_cons_zero, List.set_cons_succ]
              refine E_any false 2 (some 62) _ (.pointer (some ⟨bx, 3, none⟩)) rfl (by kernel_rfl) (by rfl) (fun _ _ _ h => h) (fun o e w _ => by unfold execOp; simp only [e]; go_simp) (.both HT.out trivial) ?_
              simp only [Act.put, List.setIfInBounds_toArray, List.set_cons_zero, List.set_cons_succ]
              refine E_load1 false 3 (some 63) 3 _ ⟨bx, 3, none⟩ (.int .i64 x.a) rfl (by kernel_rfl) (by rfl) (fun _ _ _ h => h) (by rfl) (fun w hS => run_loadVar_one _ _ _ _ Try.underlying3 rfl (hS.1.1.cell 3)) (.both HT.out trivial) ?_
              simp only [Act.put, List.setIfInBounds_toArray, List.set_cons_zero, List.set_cons_succ]
              refine E_any false 5 (some 65) _ (.slice (some ⟨bv, 0, none⟩) 64 64) rfl (by kernel_rfl) (by rfl) (fun _ _ _ h => h) (fun o e w _ => by unfold execOp; simp only [e]; go_simp) (.both HT.out trivial) ?_
              simp only [Act.put, List.setIfInBounds_toArray, List.set_cons_zero, List.set_cons_succ]
              refine E_one 4 (by kernel_rfl) (StepE.of 4 (some 64) _ rfl (by rfl) fun o K h2 h3 hKK => ?_)
              unfold Oper.wp execOp
              simp only [h3]
              go_simp
              refine (pick_any lm A1 lm.length c1 _ _ HK.out.rd.1 rfl HK.out.rd.2 (by omega) x.a HXIa.out).mono ?_
              rintro e w9 ⟨rfl, rfl⟩
              rw [HPa.out]
              dsimp only
              refine hKK _ _ (.both HT.out trivial) ?_
              clear hKK h2 h3 K o
              try simp only [Act.put, List.setIfInBounds_toArray, List.set_cons_zero, List.set_cons_succ]
              refine E_one 6 (by kernel_rfl) (StepE.of 6 (some 66) _ rfl (by rfl) fun o K h2 h3 hKK => ?_)
              unfold Oper.wp execOp
              simp only [h3]
              go_simp
              refine (Eval_any (vs := R) (nn := 64) (c := 64) pa HPIa.out _ HK.out.pool (HRV.out _ HT.out.2) HRL.out (Nat.le_refl _) (by omega) HU.out).mono ?_
              rintro e w9 ⟨rfl, hb⟩
              rw [HSa.out]
              replace HT := hide (⟨HT.out.1.below hb HT.out.1.lt, HT.out.2.below hb HT.out.2.lt⟩ : Blk w9 bx 31 x.cells.toArray ∧ Blk w9 bv 24 (uW R).toArray)
              replace HK := hide (HK.out.step hb)
              clear hb
              dsimp only
              refine hKK _ _ (.both HT.out trivial) ?_
              clear hKK h2 h3 K o
              try simp only [Act.put, List.setIfInBounds_toArray, List.set_cons_zero, List.set_cons_succ]
              refine E_move 7 (some 59) _ (.tuple #[.int .u64 sa, .int .i64 0]) rfl (by kernel_rfl) (by rfl) (fun _ _ _ h => h) (by rfl) (.both HT.out trivial) ?_
              simp only [Act.put, List.setIfInBounds_toArray, List.set_cons_zero, List.set_cons_succ]
              refine E_any false 8 (some 67) _ (.int .u64 sa) rfl (by kernel_rfl) (by rfl) (fun _ _ _ h => h) (fun o e w _ => by unfold execOp; simp only [e]; go_simp) (.both HT.out trivial) ?_
              simp only [Act.put, List.setIfInBounds_toArray, List.set_cons_zero, List.set_cons_succ]
              refine E_any false 9 (some 68) _ (.int .i64 0) rfl (by kernel_rfl) (by rfl) (fun _ _ _ h => h) (fun o e w _ => by unfold execOp; simp only [e]; go_simp) (.both HT.out trivial) ?_
              simp only [Act.put, List.setIfInBounds_toArray, List.set_cons_zero, List.set_cons_succ]
              refine E_one 10 (by kernel_rfl) (StepE.assign 10 (some 13) _ (.int .u64 sa) rfl (by rfl) (by rfl) (.both HT.out trivial) ?_)
              simp only [Act.put, List.setIfInBounds_toArray, List.set_cons_zero, List.set_cons_succ]
              refine E_one 11 (by kernel_rfl) (StepE.assign 11 (some 14) _ (.int .i64 0) rfl (by rfl) (by rfl) (.both HT.out trivial) ?_)
              simp only [Act.put, List.setIfInBounds_toArray, List.set_cons_zero, List.set_cons_succ]
              refine wpAnyE_done (by kernel_rfl) ?_ _
              have HX := hide HT.out.1
              have HVV := hide HT.out.2
              clear HT
              go_upto_region 18 with fail
              refine wp_region_E (fun w' => Blk w' bx 31 x.cells.toArray ∧ Blk w' bv 24 (uW R).toArray) (fun _ => True) [] (by kernel_rfl) ?_
              have HT := hide (⟨HX.out.below ((Below.refl _ _).drew) HX.out.lt, HVV.out.below ((Below.refl _ _).drew) HVV.out.lt⟩ : Blk w9.drew bx 31 x.cells.toArray ∧ Blk w9.drew bv 24 (uW R).toArray)
              replace HK := hide (HK.out.step ((Below.refl _ _).drew))
              clear HX HVV
              generalize w9.drew = Wd at HK HT ⊢
              refine E_move 0 (some 70) _ (.pointer (some ⟨g, 0, none⟩)) rfl (by kernel_rfl) (by rfl) (fun _ _ _ h => h) (by rfl) (.both HT.out trivial) ?_
              simp only [Act.put, List.setIfInBounds_toArray, List.set_cons_zero, List.set_cons_succ]
              refine E_move 1 (some 71) _ (.slice A1 lm.length c1) rfl (by kernel_rfl) (by rfl) (fun _ _ _ h => h) (by rfl) (.both HT.out trivial) ?_
              simp only [Act.put, List.setIfInBounds_toArray, List.set_cons_zero, List.set_cons_succ]
              refine E_any false 2 (some 72) _ (.pointer (some ⟨bx, 4, none⟩)) rfl (by kernel_rfl) (by rfl) (fun _ _ _ h => h) (fun o e w _ => by unfold execOp; simp only [e]; go_simp) (.both HT.out trivial) ?_
              simp only [Act.put, List.setIfInBounds_toArray, List.set_cons_zero, List.set_cons_succ]
              refine E_load1 false 3 (some 73) 3 _ ⟨bx, 4, none⟩ (.int .i64 x.b) rfl (by kernel_rfl) (by rfl) (fun _ _ _ h => h) (by rfl) (fun w hS => run_loadVar_one _ _ _ _ Try.underlying3 rfl (hS.1.1.cell 4)) (.both HT.out trivial) ?_
              simp only [Act.put, List.setIfInBounds_toArray, List.set_cons_zero, List.set_cons_succ]
              refine E_any false 5 (some 75) _ (.slice (some ⟨bv, 0, none⟩) 64 64) rfl (by kernel_rfl) (by rfl) (fun _ _ _ h => h) (fun o e w _ => by unfold execOp; simp only [e]; go_simp) (.both HT.out trivial) ?_
              simp only [Act.put, List.setIfInBounds_toArray, List.set_cons_zero, List.set_cons_succ]
              refine E_one 4 (by kernel_rfl) (StepE.of 4 (some 74) _ rfl (by rfl) fun o K h2 h3 hKK => ?_)
              unfold Oper.wp execOp
              simp only [h3]
              go_simp
              refine (pick_any lm A1 lm.length c1 _ _ HK.out.rd.1 rfl HK.out.rd.2 (by omega) x.b HXIb.out).mono ?_
              rintro e w9 ⟨rfl, rfl⟩
              rw [HPb.out]
              dsimp only
              refine hKK _ _ (.both HT.out trivial) ?_
              clear hKK h2 h3 K o
              try simp only [Act.put, List.setIfInBounds_toArray, List.set_cons_zero, List.set_cons_succ]
              refine E_one 6 (by kernel_rfl) (StepE.of 6 (some 76) _ rfl (by rfl) fun o K h2 h3 hKK => ?_)
              unfold Oper.wp execOp
              simp only [h3]
              go_simp
              refine (Eval_any (vs := R) (nn := 64) (c := 64) pb HPIb.out _ HK.out.pool (HRV.out _ HT.out.2) HRL.out (Nat.le_refl _) (by omega) HU.out).mono ?_
              rintro e w9 ⟨rfl, hb⟩
              rw [HSb.out]
              replace HT := hide (⟨HT.out.1.below hb HT.out.1.lt, HT.out.2.below hb HT.out.2.lt⟩ : Blk w9 bx 31 x.cells.toArray ∧ Blk w9 bv 24 (uW R).toArray)
              replace HK := hide (HK.out.step hb)
              clear hb
              dsimp only
              refine hKK _ _ (.both HT.out trivial) ?_
              clear hKK h2 h3 K o
              try simp only [Act.put, List.setIfInBounds_toArray, List.set_cons_zero, List.set_cons_succ]
              refine E_move 7 (some 69) _ (.tuple #[.int .u64 sb, .int .i64 0]) rfl (by kernel_rfl) (by rfl) (fun _ _ _ h => h) (by rfl) (.both HT.out trivial) ?_
              simp only [Act.put, List.setIfInBounds_toArray, List.set_cons_zero, List.set_cons_succ]
              refine E_any false 8 (some 77) _ (.int .u64 sb) rfl (by kernel_rfl) (by rfl) (fun _ _ _ h => h) (fun o e w _ => by unfold execOp; simp only [e]; go_simp) (.both HT.out trivial) ?_
              simp only [Act.put, List.setIfInBounds_toArray, List.set_cons_zero, List.set_cons_succ]
              refine E_any false 9 (some 78) _ (.int .i64 0) rfl (by kernel_rfl) (by rfl) (fun _ _ _ h => h) (fun o e w _ => by unfold execOp; simp only [e]; go_simp) (.both HT.out trivial) ?_
              simp only [Act.put, List.setIfInBounds_toArray, List.set_cons_zero, List.set_cons_succ]
              refine E_one 10 (by kernel_rfl) (StepE.assign 10 (some 15) _ (.int .u64 sb) rfl (by rfl) (by rfl) (.both HT.out trivial) ?_)
              simp only [Act.put, List.setIfInBounds_toArray, List.set_cons_zero, List.set_cons_succ]
              refine E_one 11 (by kernel_rfl) (StepE.assign 11 (some 16) _ (.int .i64 0) rfl (by rfl) (by rfl) (.both HT.out trivial) ?_)
              simp only [Act.put, List.setIfInBounds_toArray, List.set_cons_zero, List.set_cons_succ]
              refine wpAnyE_done (by kernel_rfl) ?_ _
              have HX := hide HT.out.1
              have HVV := hide HT.out.2
              clear HT
              go_upto_region 19 with fail
              refine wp_region_E (fun w' => Blk w' bx 31 x.cells.toArray ∧ Blk w' bv 24 (uW R).toArray) (fun _ => True) [] (by kernel_rfl) ?_
              have HT := hide (⟨HX.out.below ((Below.refl _ _).drew) HX.out.lt, HVV.out.below ((Below.refl _ _).drew) HVV.out.lt⟩ : Blk w9.drew bx 31 x.cells.toArray ∧ Blk w9.drew bv 24 (uW R).toArray)
              replace HK := hide (HK.out.step ((Below.refl _ _).drew))
              clear HX HVV
              generalize w9.drew = Wd at HK HT ⊢
              refine E_move 0 (some 80) _ (.pointer (some ⟨g, 0, none⟩)) rfl (by kernel_rfl) (by rfl) (fun _ _ _ h => h) (by rfl) (.both HT.out trivial) ?_
              simp only [Act.put, List.setIfInBounds_toArray, List.set_cons_zero, List.set_cons_succ]
              refine E_move 1 (some 81) _ (.slice A1 lm.length c1) rfl (by kernel_rfl) (by rfl) (fun _ _ _ h => h) (by rfl) (.both HT.out trivial) ?_
              simp only [Act.put, List.setIfInBounds_toArray, List.set_cons_zero, List.set_cons_succ]
              refine E_any false 2 (some 82) _ (.pointer (some ⟨bx, 5, none⟩)) rfl (by kernel_rfl) (by rfl) (fun _ _ _ h => h) (fun o e w _ => by unfold execOp; simp only [e]; go_simp) (.both HT.out trivial) ?_
              simp only [Act.put, List.setIfInBounds_toArray, List.set_cons_zero, List.set_cons_succ]
              refine E_load1 false 3 (some 83) 3 _ ⟨bx, 5, none⟩ (.int .i64 x.c) rfl (by kernel_rfl) (by rfl) (fun _ _ _ h => h) (by rfl) (fun w hS => run_loadVar_one _ _ _ _ Try.underlying3 rfl (hS.1.1.cell 5)) (.both HT.out trivial) ?_
              simp only [Act.put, List.setIfInBounds_toArray, List.set_cons_zero, List.set_cons_succ]
              refine E_any false 5 (some 85) _ (.slice (some ⟨bv, 0, none⟩) 64 64) rfl (by kernel_rfl) (by rfl) (fun _ _ _ h => h) (fun o e w _ => by unfold execOp; simp only [e]; go_simp) (.both HT.out trivial) ?_
              simp only [Act.put, List.setIfInBounds_toArray, List.set_cons_zero, List.set_cons_succ]
              refine E_one 4 (by kernel_rfl) (StepE.of 4 (some 84) _ rfl (by rfl) fun o K h2 h3 hKK => ?_)
              unfold Oper.wp execOp
              simp only [h3]
              go_simp
              refine (pick_any lm A1 lm.length c1 _ _ HK.out.rd.1 rfl HK.out.rd.2 (by omega) x.c HXIc.out).mono ?_
              rintro e w9 ⟨rfl, rfl⟩
              rw [HPc.out]
              dsimp only
              refine hKK _ _ (.both HT.out trivial) ?_
              clear hKK h2 h3 K o
              try simp only [Act.put, List.setIfInBounds_toArray, List.set_cons_zero, List.set_cons_succ]
              refine E_one 6 (by kernel_rfl) (StepE.of 6 (some 86) _ rfl (by rfl) fun o K h2 h3 hKK => ?_)
              unfold Oper.wp execOp
              simp only [h3]
              go_simp
              refine (Eval_any (vs := R) (nn := 64) (c := 64) pc HPIc.out _ HK.out.pool (HRV.out _ HT.out.2) HRL.out (Nat.le_refl _) (by omega) HU.out).mono ?_
              rintro e w9 ⟨rfl, hb⟩
              rw [HSc.out]
              replace HT := hide (⟨HT.out.1.below hb HT.out.1.lt, HT.out.2.below hb HT.out.2.lt⟩ : Blk w9 bx 31 x.cells.toArray ∧ Blk w9 bv 24 (uW R).toArray)
              replace HK := hide (HK.out.step hb)
              clear hb
              dsimp only
              refine hKK _ _ (.both HT.out trivial) ?_
              clear hKK h2 h3 K o
              try simp only [Act.put, List.setIfInBounds_toArray, List.set_cons_zero, List.set_cons_succ]
              refine E_move 7 (some 79) _ (.tuple #[.int .u64 sc, .int .i64 0]) rfl (by kernel_rfl) (by rfl) (fun _ _ _ h => h) (by rfl) (.both HT.out trivial) ?_
              simp only [Act.put, List.setIfInBounds_toArray, List.set_cons_zero, List.set_cons_succ]
              refine E_any false 8 (some 87) _ (.int .u64 sc) rfl (by kernel_rfl) (by rfl) (fun _ _ _ h => h) (fun o e w _ => by unfold execOp; simp only [e]; go_simp) (.both HT.out trivial) ?_
              simp only [Act.put, List.setIfInBounds_toArray, List.set_cons_zero, List.set_cons_succ]
              refine E_any false 9 (some 88) _ (.int .i64 0) rfl (by kernel_rfl) (by rfl) (fun _ _ _ h => h) (fun o e w _ => by unfold execOp; simp only [e]; go_simp) (.both HT.out trivial) ?_
              simp only [Act.put, List.setIfInBounds_toArray, List.set_cons_zero, List.set_cons_succ]
              refine E_one 10 (by kernel_rfl) (StepE.assign 10 (some 17) _ (.int .u64 sc) rfl (by rfl) (by rfl) (.both HT.out trivial) ?_)
              simp only [Act.put, List.setIfInBounds_toArray, List.set_cons_zero, List.set_cons_succ]
              refine E_one 11 (by kernel_rfl) (StepE.assign 11 (some 18) _ (.int .i64 0) rfl (by rfl) (by rfl) (.both HT.out trivial) ?_)
              simp only [Act.put, List.setIfInBounds_toArray, List.set_cons_zero, List.set_cons_succ]
              refine wpAnyE_done (by kernel_rfl) ?_ _
              have HX := hide HT.out.1
              have HVV := hide HT.out.2
              clear HT
              have q0 := HX.out.cell 0
              have q1 := HX.out.cell 1
              have q2 := HX.out.cell 2
              have q6 := HX.out.cell 6
              simp [MD.cells] at q0 q1 q2 q6
              cases k2 : (x.kind == 2)
              rotate_left
              · have n2 : x.kind = 2 := by simpa using k2
                have hk : want = doU x.op x.w sa sb := by rw [← HWANT.out]; unfold wantV; rw [if_neg (by omega), if_neg (by omega), if_pos n2, HPa.out, HPb.out, HWa.out, HWb.out]
                subst hk
                have HDO := hide (HA7.out.1 n2).1
                have HUb := hide (evP_u64 HG.out.rng HU.out HSb.out)
                go_wp2_with fail
                refine (do_yes sa sb _ HDO.out HUb.out).mono ?_
                rintro e w9 ⟨rfl, hb⟩
                replace HK := hide (HK.out.step hb)
                replace HVV := hide (HVV.out.below hb HVV.out.lt)
                clear hb q0 q1 q2 q6
                go_upto_region 42 with fail
                have HOW := hide HK.out.row.own
                go_wp2_with (first
                  | (refine wpList_push2 rfl rfl 28 3 (.tmp 159) (.tmp 158) (.tmp 160) rfl rfl w1.heap.size 1 8 iN _ (.int .i64 k) (.slice A1 lm.length c1) [.int .i64 k] _ lm.length Try.underlying28 IN.out.1 IN.out.2.1 IN.out.2.2.1 IN.out.2.2.2 rfl (by omega) (by omega) (by rfl) rfl rfl one_int HOW.out HK.out.below.size (by unfold maxLen; omega) (by omega) (by rfl) (by rfl) ?_
                     intro s23 w23 g23 G23 O23 B23 P23 N23
                     have HVN := hide (HVV.out.grown P23 (fun e => by have := (own_ge HOW.out bv e.symm).1; have := HVLT.out; omega))
                     have HK23 := hide (HK.out.push hki O23 P23 N23)
                     clear O23 B23 P23 G23 N23)
                  | fail)
                go_roundw
                case measure => simp [intOf]; omega
                case rel => exact ⟨i + 1, p1, F7, lm ++ [k], by omega, by go_num, by simp; omega, fun u hu => by
                  rcases List.mem_append.1 hu with e | e
                  · exact HG.out.ext.has (HHAS.out u e)
                  · simp at e; rw [e]; exact HG.out.has rfl, HAV7.out, HNV7.out, HVN.out, HK23.out⟩
              cases k3 : (x.kind == 3)
              rotate_left
              · have n3 : x.kind = 3 := by simpa using k3
                have hk : want = cutV x.w sa := by rw [← HWANT.out]; unfold wantV; rw [if_neg (by omega), if_neg (by omega), if_neg (by omega), if_pos n3, HPa.out, HWa.out]
                subst hk
                go_wp2_with fail
                refine (cut_any _ _ _).mono ?_
                rintro e w9 ⟨rfl, rfl⟩
                clear q0 q1 q2 q6
                go_upto_region 42 with fail
                have HOW := hide HK.out.row.own
                go_wp2_with (first
                  | (refine wpList_push2 rfl rfl 28 3 (.tmp 159) (.tmp 158) (.tmp 160) rfl rfl w1.heap.size 1 8 iN _ (.int .i64 k) (.slice A1 lm.length c1) [.int .i64 k] _ lm.length Try.underlying28 IN.out.1 IN.out.2.1 IN.out.2.2.1 IN.out.2.2.2 rfl (by omega) (by omega) (by rfl) rfl rfl one_int HOW.out HK.out.below.size (by unfold maxLen; omega) (by omega) (by rfl) (by rfl) ?_
                     intro s23 w23 g23 G23 O23 B23 P23 N23
                     have HVN := hide (HVV.out.grown P23 (fun e => by have := (own_ge HOW.out bv e.symm).1; have := HVLT.out; omega))
                     have HK23 := hide (HK.out.push hki O23 P23 N23)
                     clear O23 B23 P23 G23 N23)
                  | fail)
                go_roundw
                case measure => simp [intOf]; omega
                case rel => exact ⟨i + 1, p1, F7, lm ++ [k], by omega, by go_num, by simp; omega, fun u hu => by
                  rcases List.mem_append.1 hu with e | e
                  · exact HG.out.ext.has (HHAS.out u e)
                  · simp at e; rw [e]; exact HG.out.has rfl, HAV7.out, HNV7.out, HVN.out, HK23.out⟩
              cases k4 : (x.kind == 4)
              rotate_left
              · have n4 : x.kind = 4 := by simpa using k4
                have hk : want = flagV (holdsU x.op x.w sa sb) := by rw [← HWANT.out]; unfold wantV; rw [if_neg (by omega), if_neg (by omega), if_neg (by omega), if_neg (by omega), if_pos n4, HPa.out, HPb.out, HWa.out, HWb.out]
                have HDO := hide (HA7.out.2.2.1 n4).1
                go_wp2_with fail
                refine (holds_yes sa sb _ HDO.out).mono ?_
                rintro e w9 ⟨rfl, rfl⟩
                clear q0 q1 q2 q6
                cases hbb : holdsU x.op x.w sa sb
                · rw [hbb] at hk
                  have hk : want = 0 := hk
                  subst hk
                  go_upto_region 42 with fail
                  have HOW := hide HK.out.row.own
                  go_wp2_with (first
                    | (refine wpList_push2 rfl rfl 28 3 (.tmp 159) (.tmp 158) (.tmp 160) rfl rfl w1.heap.size 1 8 iN _ (.int .i64 k) (.slice A1 lm.length c1) [.int .i64 k] _ lm.length Try.underlying28 IN.out.1 IN.out.2.1 IN.out.2.2.1 IN.out.2.2.2 rfl (by omega) (by omega) (by rfl) rfl rfl one_int HOW.out HK.out.below.size (by unfold maxLen; omega) (by omega) (by rfl) (by rfl) ?_
                       intro s23 w23 g23 G23 O23 B23 P23 N23
                       have HVN := hide (HVV.out.grown P23 (fun e => by have := (own_ge HOW.out bv e.symm).1; have := HVLT.out; omega))
                       have HK23 := hide (HK.out.push hki O23 P23 N23)
                       clear O23 B23 P23 G23 N23)
                    | fail)
                  go_roundw
                  case measure => simp [intOf]; omega
                  case rel => exact ⟨i + 1, p1, F7, lm ++ [k], by omega, by go_num, by simp; omega, fun u hu => by
                    rcases List.mem_append.1 hu with e | e
                    · exact HG.out.ext.has (HHAS.out u e)
                    · simp at e; rw [e]; exact HG.out.has rfl, HAV7.out, HNV7.out, HVN.out, HK23.out⟩
                · rw [hbb] at hk
                  have hk : want = 1 := hk
                  subst hk
                  go_upto_region 42 with fail
                  have HOW := hide HK.out.row.own
                  go_wp2_with (first
                    | (refine wpList_push2 rfl rfl 28 3 (.tmp 159) (.tmp 158) (.tmp 160) rfl rfl w1.heap.size 1 8 iN _ (.int .i64 k) (.slice A1 lm.length c1) [.int .i64 k] _ lm.length Try.underlying28 IN.out.1 IN.out.2.1 IN.out.2.2.1 IN.out.2.2.2 rfl (by omega) (by omega) (by rfl) rfl rfl one_int HOW.out HK.out.below.size (by unfold maxLen; omega) (by omega) (by rfl) (by rfl) ?_
                       intro s23 w23 g23 G23 O23 B23 P23 N23
                       have HVN := hide (HVV.out.grown P23 (fun e => by have := (own_ge HOW.out bv e.symm).1; have := HVLT.out; omega))
                       have HK23 := hide (HK.out.push hki O23 P23 N23)
                       clear O23 B23 P23 G23 N23)
                    | fail)
                  go_roundw
                  case measure => simp [intOf]; omega
                  case rel => exact ⟨i + 1, p1, F7, lm ++ [k], by omega, by go_num, by simp; omega, fun u hu => by
                    rcases List.mem_append.1 hu with e | e
                    · exact HG.out.ext.has (HHAS.out u e)
                    · simp at e; rw [e]; exact HG.out.has rfl, HAV7.out, HNV7.out, HVN.out, HK23.out⟩
              · have hk : want = iteV sa sb sc := by
                  rw [← HWANT.out]
                  unfold wantV
                  rw [if_neg n0, if_neg n1, if_neg (by simpa using k2), if_neg (by simpa using k3), if_neg (by simpa using k4), HPa.out, HPb.out, HPc.out, HWa.out, HWb.out, HWc.out]
                unfold iteV at hk
                cases hz : (sa == 0)
                · rw [if_neg (by simpa using hz)] at hk
                  subst hk
                  have hz1 : (sa != 0) = true := by simp only [bne, hz]; rfl
                  go_upto_region 42 with fail
                  have HOW := hide HK.out.row.own
                  go_wp2_with (first
                    | (refine wpList_push2 rfl rfl 28 3 (.tmp 159) (.tmp 158) (.tmp 160) rfl rfl w1.heap.size 1 8 iN _ (.int .i64 k) (.slice A1 lm.length c1) [.int .i64 k] _ lm.length Try.underlying28 IN.out.1 IN.out.2.1 IN.out.2.2.1 IN.out.2.2.2 rfl (by omega) (by omega) (by rfl) rfl rfl one_int HOW.out HK.out.below.size (by unfold maxLen; omega) (by omega) (by rfl) (by rfl) ?_
                       intro s23 w23 g23 G23 O23 B23 P23 N23
                       have HVN := hide (HVV.out.grown P23 (fun e => by have := (own_ge HOW.out bv e.symm).1; have := HVLT.out; omega))
                       have HK23 := hide (HK.out.push hki O23 P23 N23)
                       clear O23 B23 P23 G23 N23)
                    | fail)
                  go_roundw
                  case measure => simp [intOf]; omega
                  case rel => exact ⟨i + 1, p1, F7, lm ++ [k], by omega, by go_num, by simp; omega, fun u hu => by
                    rcases List.mem_append.1 hu with e | e
                    · exact HG.out.ext.has (HHAS.out u e)
                    · simp at e; rw [e]; exact HG.out.has rfl, HAV7.out, HNV7.out, HVN.out, HK23.out⟩
                · rw [if_pos (by simpa using hz)] at hk
                  subst hk
                  have hz1 : (sa != 0) = false := by simp only [bne, hz]; rfl
                  go_upto_region 42 with fail
                  have HOW := hide HK.out.row.own
                  go_wp2_with (first
                    | (refine wpList_push2 rfl rfl 28 3 (.tmp 159) (.tmp 158) (.tmp 160) rfl rfl w1.heap.size 1 8 iN _ (.int .i64 k) (.slice A1 lm.length c1) [.int .i64 k] _ lm.length Try.underlying28 IN.out.1 IN.out.2.1 IN.out.2.2.1 IN.out.2.2.2 rfl (by omega) (by omega) (by rfl) rfl rfl one_int HOW.out HK.out.below.size (by unfold maxLen; omega) (by omega) (by rfl) (by rfl) ?_
                       intro s23 w23 g23 G23 O23 B23 P23 N23
                       have HVN := hide (HVV.out.grown P23 (fun e => by have := (own_ge HOW.out bv e.symm).1; have := HVLT.out; omega))
                       have HK23 := hide (HK.out.push hki O23 P23 N23)
                       clear O23 B23 P23 G23 N23)
                    | fail)
                  go_roundw
                  case measure => simp [intOf]; omega
                  case rel => exact ⟨i + 1, p1, F7, lm ++ [k], by omega, by go_num, by simp; omega, fun u hu => by
                    rcases List.mem_append.1 hu with e | e
                    · exact HG.out.ext.has (HHAS.out u e)
                    · simp at e; rw [e]; exact HG.out.has rfl, HAV7.out, HNV7.out, HVN.out, HK23.out⟩
      · obtain rfl : i = n := by omega
        go_wp2_with fail
        refine (wakes_any _).mono ?_
        rintro e w9 ⟨rfl, hb⟩
        have HB9 := hide (HB0.out.trans ((HK.out.below.trans (hb.mono HK.out.below.size)).mono HB0.out.size))
        clear hb
        go_wp2
        go_ret
        exact ⟨rfl, HB9.out⟩
end Go.Proofs.Ytfjflefgclfbfaa
