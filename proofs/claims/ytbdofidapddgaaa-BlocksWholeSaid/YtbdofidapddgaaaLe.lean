/-
  The walk of BlocksWhole: it answers true. Conditions: those written in each statement.
-/
import Derived.Test.YtbdofidapddgaaaWq
import Derived.Test.YtbdofidapddgaaaLa
import Derived.Lib.QuietBelow
namespace Go.Proofs.Ytbdofidapddgaaa
open Go.RowKit Go.Sort
set_option linter.unusedVariables false
set_option linter.unusedSimpArgs false
theorem led_zero (l : List ID) (n : Nat) : (madeCells (Value.int .i64 0).cells ((n + 1) * 1)).toList = rowF n (fun v => ledC l 0 v) := by
  rw [Nat.mul_one]
  show (madeCells #[Value.int .i64 0] (n + 1)).toList = _
  rw [toList_madeCells_one]
  exact rowF_zero n
theorem regrow_may {A : Option Addr} {m cap : Nat} {R : List BD} {w : World} (h : BksAt w w.heap.size A m R) (hm : m < 9223372036854775808) (hr : mayL R = true) (d : Nat) (os : Array Obj) :
    Calls Try.prog 16 #[.slice A m cap] (grow (redrawn w d) os) fun e w' => e = .returned (.bool true) ∧ Below (grow (redrawn w d) os).heap.size (grow (redrawn w d) os) w' := by
  have := bmay_any A m cap R (grow (redrawn w d) os) (h.up (below_regrown w d os) (below_regrown w d os).size) hm
  rw [hr] at this
  exact this
theorem regrow_dmay {A : Option Addr} {m cap : Nat} {R : List BD} {w : World} (h : BksAt w w.heap.size A m R) (hm : m < 9223372036854775808) (hr : mayL R = true) (d : Nat) (os : Array Obj) :
    Calls Try.prog 17 #[.slice A m cap] (grow (redrawn w d) os) fun e w' => e = .returned (.bool true) ∧ Below (grow (redrawn w d) os).heap.size (grow (redrawn w d) os) w' := by
  have := dmay_any A m cap (grow (redrawn w d) os).heap.size R (grow (redrawn w d) os) (h.up (below_regrown w d os) (below_regrown w d os).size) hm
  rw [hr] at this
  exact this.mono fun e w' hh => ⟨hh.1, dr_below hh.2 _⟩
set_option maxRecDepth 100000 in
set_option maxHeartbeats 16000000 in
theorem whole_walk (c : Int) (A : Option Addr) (n cap : Nat) (l : List ID) (w : World) (hh : InsAt w w.heap.size A n l) (hc : n ≤ cap) (hm : n < 9223372036854775808) :
    Calls Try.prog 5 #[.agg #[.int .i64 c, .slice A n cap]] w fun e w' => e = .returned (.bool true) ∧ Below w.heap.size w w' := by
  have HL := hide hh.1
  have HE := hide (EnF.new (c := c) (cap := cap) hh)
  clear hh
  go_enter Try.func5, Try.ntmps5
  go_wp2_with fail
  refine (pgreat_any c A n cap _ hm).mono ?_
  rintro e w1 ⟨rfl, hb⟩
  replace HE := hide (HE.out.step hb)
  clear hb
  cases hg : decide (100 < n)
  · have hn100 : n ≤ 100 := by simpa using hg
    have c0 := HE.out.box0
    have c1 := HE.out.box1
    clear hg
    go_wp2_with fail
    refine (run_any c A n cap l _ HE.out.at_ hc hm).mono ?_
    rintro e w2 ⟨A2, cap2, rfl, hc2, hb2, hb⟩
    replace HE := hide (HE.out.step hb)
    have HB2 := hide hb2
    clear hb hb2 c0 c1
    have c1 := HE.out.box1
    obtain ⟨er, her⟩ : ∃ v, (chkP c l).2 = v := ⟨_, rfl⟩
    rw [her]
    have HER := hide her
    by_cases he : er = 0
    · subst he
      have HOK := hide (OkL.of her)
      have hR : blkR c l = blkL l := by unfold blkR; rw [her]; rfl
      have hbl := blkR_len c l
      rw [HL.out] at hbl
      rw [hR] at HB2 hc2 hbl ⊢
      obtain ⟨y, hy, hyt, hyl⟩ := HOK.out.end_
      obtain ⟨q, hq⟩ : ∃ q, (blkL l).length = q + 1 := ⟨(blkL l).length - 1, by omega⟩
      have hn64 := HOK.out.few
      rw [HL.out] at hn64 hyt
      rw [hq] at HB2 hc2 hbl hy ⊢
      have HQ := hide hq
      obtain ⟨a2, y', s, rfl, hab, hy', _, hns, hcell⟩ := HB2.out.at_ (k := q) (by omega)
      obtain rfl : y' = y := by
        rw [Nat.add_sub_cancel, hy'] at hy
        exact Option.some.inj hy
      have e1 := hcell 1 _ rfl
      obtain ⟨p, hp⟩ : ∃ p, a2.add (q * 3) = p := ⟨_, rfl⟩
      rw [hp] at e1
      simp [Addr.add] at e1
      rw [hyt] at e1
      have HM1 := hide (fun (d : Nat) (os : Array Obj) => regrow_may (cap := cap2) HB2.out (by omega) HOK.out.may d os)
      have HM2 := hide (fun (d : Nat) (os : Array Obj) => regrow_dmay (cap := cap2) HB2.out (by omega) HOK.out.may d os)
      have e1' := fun (d : Nat) (os : Array Obj) => cell_regrown e1 d os
      have c1' := fun (d : Nat) (os : Array Obj) => cell_regrown c1 d os
      have hqn : ((q : Int) + 1 == 0) = false := by simp; omega
      have hqc : q < cap2 := by omega
      clear hy hy' hyt hyl hq hns hcell her hR
      go_wp2_with fail
      refine wp_region_quiet_below (by kernel_rfl) (by kernel_rfl) ?_
      repeat (first
        | go_big_quiet_step (first
            | (go_at_call 16; exact Calls.regrown_of (HM1.out _ _))
            | (go_at_call 17; exact Calls.regrown_of (HM2.out _ _)))
        | quiet_step (fail))
      refine wpQuiet_nil ?_
      first
        | (intro wq hwq; obtain ⟨pq, rfl⟩ := hwq)
        | intro pq
      have HBR := hide (below_regrown w2 pq.d pq.os)
      generalize grow (redrawn w2 pq.d) pq.os = w3 at HBR ⊢
      have hw2 := HE.out.lt
      have hw3 := HBR.out.size
      replace HE := hide (HE.out.step HBR.out)
      have HB := hide (HB2.out.below HBR.out)
      obtain ⟨b0, hb0⟩ : ∃ v, w2.heap.size = v := ⟨_, rfl⟩
      rw [hb0] at HB hw2 hw3
      clear e1 e1' c1 c1' HM1 HM2 HB2 HBR hb0
      have c1 := HE.out.box1
      obtain ⟨iT, hiT, hzT, hsT, hbT⟩ := info_parts infT
      have IT := hide (And.intro hiT (And.intro hzT (And.intro hsT hbT)))
      clear hiT hzT hsT hbT
      go_wp2_with (first
        | (refine wpList_make_full _ rfl (.tmp 63) (.tmp 63) 39 rfl b0 3 iT _ 1 Try.underlying39 IT.out.1 IT.out.2.1 IT.out.2.2.1 .i64 .i64 ((n : Int) + 1) ((n : Int) + 1) (n + 1) (by rfl) (by rfl) rfl rfl (by rw [IT.out.2.2.2]; omega) (by unfold maxLen; omega) (by omega) ?_
           intro w7 O7 G7
           rw [led_zero l] at O7
           have HRW := hide (RowL.of_own O7)
           have HE7 := hide (HE.out.grown G7 (fun g e => by cases e))
           have HB7 := hide (HB.out.grown G7 (by omega) (fun g e => by cases e))
           have c17 := HE7.out.box1
           clear O7 G7 c1)
        | fail)
      obtain ⟨go, hgo⟩ : ∃ v : Nat, w3.heap.size = v := ⟨_, rfl⟩
      rw [hgo] at HRW ⊢
      have hgo1 : b0 ≤ go := by omega
      clear hgo hw3
      obtain ⟨m, hm1⟩ : ∃ m, q + 1 = m := ⟨_, rfl⟩
      have hmc : (q : Int) + 1 = (m : Int) := by omega
      rw [hm1] at HB HB7 hc2 HQ
      simp only [hm1, hmc] at HB7 ⊢
      go_loopw [6] (fun iv wq => ∃ k : Nat, k ≤ n ∧ iv = .int .i64 k ∧ EnF c A n cap l w wq ∧ BksAt wq b0 (some a2) m (blkL l) ∧ RowL wq b0 3 1 (.slice (some ⟨go, 0, none⟩) (n + 1) (n + 1)) (n + 1) (rowF n (fun v => ledC l k v))) (fun iv _ => n - (intOf iv).toNat)
      case atStart => exact ⟨0, by omega, rfl, HE7.out, HB7.out, HRW.out⟩
      case round =>
        obtain ⟨k, hk, rfl, he, hb, hr⟩ := hrel
        clear HE HE7 HB HB7 HRW c17
        have HE := hide he
        have HB := hide hb
        have HR := hide hr
        have c1 := he.box1
        have hwq := hr.form (by omega)
        have hwq : b0 ≤ wr.heap.size := by
          obtain ⟨_, _, _, _, h1, h2⟩ := hwq
          omega
        clear he hb hr
        by_cases hlt : k < n
        · obtain ⟨ad, x, rfl, _, hx, _, _⟩ := HE.out.ins.at_ hlt
          have HX := hide hx
          obtain ⟨b, y, ho, hoB, hbm, hby, hto, htg⟩ := HOK.out.row hx
          rw [HQ.out] at hbm
          have HO := hide (And.intro ho hoB)
          have HBY := hide hby
          have HTO := hide hto
          have HTG := hide htg
          clear hx ho hoB hby hto htg
          go_wp2_with fail
          refine (of_any (some a2) m cap2 (blkL l) k _ (HB.out.more hwq) (by omega)).mono ?_
          rintro e w4 ⟨rfl, hb⟩
          rw [HO.out.1, HO.out.2]
          replace HE := hide (HE.out.step hb)
          replace HB := hide (HB.out.grown (only_of_below hb none) hwq (fun g e => by cases e))
          replace HR := hide (HR.out.below hb)
          have hw4 := hb.size
          clear hb c1
          have c1 := HE.out.box1
          obtain ⟨ad2, x2, hae, _, hx, _, hcx⟩ := HE.out.ins.at_ hlt
          injection hae with hae
          subst hae
          obtain rfl : x = x2 := by
            rw [HX.out] at hx
            exact Option.some.inj hx
          have HC := hide hcx
          have hk0 := hcx 0 _ rfl
          rw [add_of_add] at hk0
          replace hk0 : w4.cell? (ad.add (k * 9)) = some (.int .i8 x.kind) := hk0
          obtain ⟨kd, hkd⟩ : ∃ v, x.kind = v := ⟨_, rfl⟩
          rw [hkd] at hk0
          have HJ := hide (show jmpB x = (kd == 3 || (kd == 4 || kd == 6)) by unfold jmpB; rw [hkd])
          obtain ⟨a3, y3, s, hab3, _, hy', _, _, hcell⟩ := HB.out.at_ (k := b) hbm
          injection hab3 with hab3
          subst hab3
          obtain rfl : y = y3 := by
            rw [HBY.out] at hy'
            exact Option.some.inj hy'
          have e1 := hcell 1 _ rfl
          obtain ⟨p4, hp4⟩ : ∃ p, a2.add (b * 3) = p := ⟨_, rfl⟩
          rw [hp4] at e1
          simp [Addr.add] at e1
          have hbc : b < cap2 := by omega
          clear hx hcx hkd hy' hcell
          by_cases hjm : jmpB x = true
          · have hty := HTO.out hjm
            rw [hty] at e1
            have HJT := hide hjm
            rw [HJ.out] at hjm
            have hc3 : (kd == 3) = true ∨ ((kd == 3) = false ∧ (kd == 4) = true) ∨ ((kd == 3) = false ∧ (kd == 4) = false ∧ (kd == 6) = true) := by
              cases h3 : (kd == 3) <;> cases h4 : (kd == 4) <;> cases h6 : (kd == 6) <;> simp_all
            clear hjm hty
            rcases hc3 with h3 | ⟨h3, h4⟩ | ⟨h3, h4, h6⟩
            all_goals
              as_aux_lemma =>
                go_upto_region 18 with fail
                go_wp2_with (first
                  | (refine wpList_load_at rfl 33 (.tmp 131) rfl (ad.add (k * 9)) (by rfl) x.cells _ HC.out Try.underlying33 rfl sizI2 ?_)
                  | fail)
                refine (rtarget_any k x _).mono ?_
                rintro e w5 ⟨rfl, hb⟩
                have HE5 := hide (HE.out.step hb)
                have HB5 := hide (HB.out.grown (only_of_below hb none) (Nat.le_trans hwq hw4) (fun g e => by cases e))
                have HR5 := hide (HR.out.below hb)
                have hw5 : b0 ≤ w5.heap.size := Nat.le_trans (Nat.le_trans hwq hw4) hb.size
                have c15 := HE5.out.box1
                clear hb c1 hk0 e1
                cases ht : tgtB k x
                · have cof : w5.cell? ⟨go, k + 1, none⟩ = some (.int .i64 (ledC l k ((k + 1 : Nat) : Int))) := (HR5.out.cell _ (by omega)).trans (rowF_get _ (by omega))
                  have fof := HR5.out.frozen (k + 1)
                  have hle := ledC_le l ((k + 1 : Nat) : Int) k
                  obtain ⟨u, hu⟩ : ∃ u, ledC l k ((k + 1 : Nat) : Int) = u := ⟨_, rfl⟩
                  rw [hu] at cof hle
                  have hst := HR5.out.stored (k + 1) (.int .i64 ((u : Int) + 1))
                  have hrs := rowF_set (n := n) (j := k + 1) (fun v => ledC l k v) (by omega)
                  rw [hu, ← led_jump HX.out ht HJT.out] at hrs
                  rw [hrs] at hst
                  have HST := hide hst
                  clear hst hrs hu ht
                  go_wp2
                  go_roundw
                  case measure => simp [intOf]; omega
                  case rel => exact ⟨k + 1, by omega, by go_num, HE5.out.grown HST.out.2 (fun r e => by injection e with e; omega), HB5.out.grown HST.out.2 hw5 (fun r e => by injection e with e; omega), HST.out.1⟩
                · obtain ⟨t, b2, y2, r, htl, htn, ho2, hoB2, hb2m, hby2, hfr, hnx⟩ := HTG.out ht
                  rw [HL.out] at htl
                  rw [HQ.out] at hb2m
                  rw [htn]
                  have HLB := hide (led_both HX.out ht htn)
                  have HO2 := hide (And.intro ho2 hoB2)
                  have HBY2 := hide hby2
                  have HFR := hide hfr
                  have HNX := hide hnx
                  clear ht htn ho2 hoB2 hby2 hfr hnx
                  go_wp2_with fail
                  refine (of_any (some a2) m cap2 (blkL l) t _ (HB5.out.more hw5) (by omega)).mono ?_
                  rintro e w6 ⟨rfl, hb⟩
                  rw [HO2.out.1, HO2.out.2]
                  have HE6 := hide (HE5.out.step hb)
                  have HB6 := hide (HB5.out.grown (only_of_below hb none) hw5 (fun g e => by cases e))
                  have HR6 := hide (HR5.out.below hb)
                  have hw6 : b0 ≤ w6.heap.size := Nat.le_trans hw5 hb.size
                  clear hb c15
                  have c16 := HE6.out.box1
                  obtain ⟨a4, y4, s4, hab4, _, hy4, _, hns4, hcell4⟩ := HB6.out.at_ (k := b) hbm
                  injection hab4 with hab4
                  subst hab4
                  obtain rfl : y = y4 := by
                    rw [HBY.out] at hy4
                    exact Option.some.inj hy4
                  rw [HNX.out] at hns4
                  obtain ⟨A4, c4, rfl⟩ := hns4.form
                  obtain ⟨a5, x5, rfl, _, hx5, _, hc5⟩ := hns4.at_ (k := 0) (by simp)
                  obtain rfl : (b2 : Int) = x5 := by simpa using hx5
                  have e2 := hcell4 2 _ rfl
                  rw [hp4] at e2
                  simp [Addr.add] at e2 hc5
                  obtain ⟨a6, y6, s6, hab6, _, hy6, _, _, hcell6⟩ := HB6.out.at_ (k := b2) hb2m
                  injection hab6 with hab6
                  subst hab6
                  obtain rfl : y2 = y6 := by
                    rw [HBY2.out] at hy6
                    exact Option.some.inj hy6
                  have e6 := hcell6 0 _ rfl
                  rw [HFR.out] at e6
                  obtain ⟨p6, hp6⟩ : ∃ p, a2.add (b2 * 3) = p := ⟨_, rfl⟩
                  rw [hp6] at e6
                  simp [Addr.add] at e6
                  have hbc2 : b2 < cap2 := by omega
                  clear hy4 hns4 hcell4 hy6 hcell6 hx5
                  have cof : w6.cell? ⟨go, t, none⟩ = some (.int .i64 (ledC l k (t : Int))) := (HR6.out.cell _ (by omega)).trans (rowF_get _ (by omega))
                  have fof := HR6.out.frozen t
                  have hle := ledC_le l (t : Int) k
                  obtain ⟨u, hu⟩ : ∃ u, ledC l k (t : Int) = u := ⟨_, rfl⟩
                  rw [hu] at cof hle
                  have hst := HR6.out.stored t (.int .i64 ((u : Int) + 1))
                  have hrs := rowF_set (n := n) (j := t) (fun v => ledC l k v) (by omega)
                  rw [hu] at hrs
                  rw [hrs] at hst
                  have HST := hide hst
                  clear hst hrs hu
                  have HE7 := hide (HE6.out.grown HST.out.2 (fun r e => by injection e with e; omega))
                  have HB7 := hide (HB6.out.grown HST.out.2 hw6 (fun r e => by injection e with e; omega))
                  have HR7 := hide HST.out.1
                  have hw7 : b0 ≤ (w6.setCell ⟨go, t, none⟩ (.int .i64 ((u : Int) + 1))).heap.size := by simpa using hw6
                  have cof7 : (w6.setCell ⟨go, t, none⟩ (.int .i64 ((u : Int) + 1))).cell? ⟨go, k + 1, none⟩ = some (.int .i64 ((ledC l k ((k + 1 : Nat) : Int) + oneB (((k + 1 : Nat) : Int) == (t : Int)) : Nat))) := (HR7.out.cell _ (by omega)).trans (rowF_get _ (by omega))
                  have fof7 := HR7.out.frozen (k + 1)
                  have hle2 : ledC l k ((k + 1 : Nat) : Int) + oneB (((k + 1 : Nat) : Int) == (t : Int)) ≤ 2 * k + 1 := Nat.add_le_add (ledC_le l _ k) (by unfold oneB; split <;> omega)
                  have hrs := rowF_set (n := n) (j := k + 1) (fun v : Nat => ledC l k v + oneB ((v : Int) == (t : Int))) (by omega)
                  rw [← HLB.out] at hrs
                  obtain ⟨u2, hu2⟩ : ∃ u2, ledC l k ((k + 1 : Nat) : Int) + oneB (((k + 1 : Nat) : Int) == (t : Int)) = u2 := ⟨_, rfl⟩
                  rw [hu2] at cof7 hle2 hrs
                  have hst := HR7.out.stored (k + 1) (.int .i64 ((u2 : Int) + 1))
                  rw [hrs] at hst
                  have HST2 := hide hst
                  clear hst hrs hu2
                  have hr0 : (((r.length : Nat) : Int) + 1 == 0) = false := by simp; omega
                  go_wp2
                  go_roundw
                  case measure => simp [intOf]; omega
                  case rel => exact ⟨k + 1, by omega, by go_num, HE7.out.grown HST2.out.2 (fun r e => by injection e with e; omega), HB7.out.grown HST2.out.2 hw7 (fun r e => by injection e with e; omega), HST2.out.1⟩
          · as_aux_lemma =>
              have hjf : jmpB x = false := by simpa using hjm
              have htf : tgtB k x = false := by
                cases ht : tgtB k x
                · rfl
                · rw [(tgt_jmp2 ht).1] at hjf
                  cases hjf
              have HLN := hide (led_none HX.out htf hjf)
              rw [HJ.out] at hjf
              have h3 : (kd == 3) = false := by cases h : (kd == 3) <;> simp_all
              have h4 : (kd == 4) = false := by cases h : (kd == 4) <;> simp_all
              have h6 : (kd == 6) = false := by cases h : (kd == 6) <;> simp_all
              clear hjm hjf
              have HTF := hide htf
              clear htf
              go_wp2_with (first
                | (refine wpList_load_at rfl 33 (.tmp 131) rfl (ad.add (k * 9)) (by rfl) x.cells _ HC.out Try.underlying33 rfl sizI2 ?_)
                | fail)
              refine (rtarget_any k x _).mono ?_
              rintro e w5 ⟨rfl, hb⟩
              rw [HTF.out]
              have HE5 := hide (HE.out.step hb)
              have HB5 := hide (HB.out.grown (only_of_below hb none) (Nat.le_trans hwq hw4) (fun g e => by cases e))
              have HR5 := hide (HR.out.below hb)
              clear hb c1 hk0 e1
              have c15 := HE5.out.box1
              go_wp2
              go_roundw
              case measure => simp [intOf]; omega
              case rel => exact ⟨k + 1, by omega, by go_num, HE5.out, HB5.out, by rw [HLN.out]; exact HR5.out⟩
        · as_aux_lemma =>
            have hkn : k = n := by omega
            have HRN : Hid (RowL wr b0 3 1 (.slice (some ⟨go, 0, none⟩) (n + 1) (n + 1)) (n + 1) (rowF n (fun v => ledC l l.length v))) := by
              have := HR.out
              rw [hkn] at this
              rw [HL.out]
              exact this
            clear HR
            subst hkn
            have hwr := HE.out.lt
            go_wp2
            obtain ⟨wo, rfl⟩ : ∃ wo : World, wo = wr := ⟨_, rfl⟩
            go_loopw [14, 15, 16, 17] (fun jv _ _ _ wq => ∃ b : Nat, b ≤ m ∧ jv = .int .i64 b ∧ EnF c A k cap l w wq ∧ BksAt wq b0 (some a2) m (blkL l) ∧ RowL wq b0 3 1 (.slice (some ⟨go, 0, none⟩) (k + 1) (k + 1)) (k + 1) (rowF k (fun v => ledC l l.length v))) (fun jv _ _ _ _ => m - (intOf jv).toNat)
            case atStart => exact ⟨0, by omega, rfl, HE.out, HB.out, HRN.out⟩
            case round =>
              obtain ⟨b, hb, rfl, he, hbk, hr⟩ := hrel
              clear HE HB HRN c1
              have HE := hide he
              have HB := hide hbk
              have HR := hide hr
              have c1 := he.box1
              clear he hbk hr
              by_cases hbm : b < m
              · obtain ⟨f, i, x, y, hy, hfrm, hto, hil, hfl, hx, hled, hfalls, hexit⟩ := HOK.out.rnd (b := b) (by rw [HQ.out]; exact hbm)
                rw [HL.out] at hil hfl
                have HY := hide hy
                have HFR := hide hfrm
                obtain ⟨a3, y3, s, hab3, _, hy', _, _, hcell⟩ := HB.out.at_ (k := b) hbm
                injection hab3 with hab3
                subst hab3
                obtain rfl : y = y3 := by
                  rw [hy] at hy'
                  exact Option.some.inj hy'
                have e1 := hcell 1 _ rfl
                obtain ⟨p4, hp4⟩ : ∃ p, a2.add (b * 3) = p := ⟨_, rfl⟩
                rw [hp4, hto] at e1
                simp [Addr.add] at e1
                obtain ⟨ad, x2, rfl, _, hx2, _, hcx⟩ := HE.out.ins.at_ hil
                obtain rfl : x = x2 := by
                  rw [hx] at hx2
                  exact Option.some.inj hx2
                have hk0 := hcx 0 _ rfl
                rw [add_of_add] at hk0
                replace hk0 : wr.cell? (ad.add (i * 9)) = some (.int .i8 x.kind) := hk0
                obtain ⟨kd, hkd⟩ : ∃ v, x.kind = v := ⟨_, rfl⟩
                rw [hkd] at hk0 hfalls hexit
                have hbc : b < cap2 := by omega
                have hic : i < cap := by omega
                have hi0 : (0 : Int) ≤ (i : Int) := by omega
                have hik : (i : Int) < (k : Int) := by omega
                have HF := hide hfalls
                have HX := hide hexit
                have HD := hide hled
                have HTO := hide hto
                clear hy hfrm hy' hcell hx hx2 hcx hkd hfalls hexit hled hto
                have hwi : IntKind.i64.wrap ((i : Int) + 1 - 1) = (i : Int) := by
                  rw [show (i : Int) + 1 - 1 = (i : Int) by omega]
                  exact IntWalk.i64_in _ (by omega)
                go_wp2
                refine wp_region_quiet_lit (by kernel_rfl) (by kernel_rfl) ?_
                repeat (first | go_big_quiet_step (fail) | quiet_step (fail))
                refine wpQuiet_nil ?_
                intro wq hwq
                obtain ⟨nq, rfl⟩ := hwq
                have HBR := hide (below_drewN (Below.refl wr.heap.size wr) nq)
                generalize wr.drewN nq = w4 at HBR ⊢
                have hwq : b0 ≤ wr.heap.size := by
                  obtain ⟨_, _, _, _, h1, h2⟩ := HR.out.form (by omega)
                  omega
                replace HE := hide (HE.out.step HBR.out)
                replace HB := hide (HB.out.grown (only_of_below HBR.out none) hwq (fun g e => by cases e))
                replace HR := hide (HR.out.below HBR.out)
                clear HBR c1 e1 hk0 hwi hwq
                obtain ⟨a3, y3, s, hab3, _, hy', _, hns, hcell⟩ := HB.out.at_ (k := b) hbm
                injection hab3 with hab3
                subst hab3
                obtain rfl : y = y3 := by
                  rw [HY.out] at hy'
                  exact Option.some.inj hy'
                have e0 := hcell 0 _ rfl
                have e2 := hcell 2 _ rfl
                rw [HFR.out] at e0
                rw [hp4] at e0 e2
                simp [Addr.add] at e0 e2
                have cof : w4.cell? ⟨go, f, none⟩ = some (.int .i64 (ledC l l.length (f : Int))) := (HR.out.cell _ (by omega)).trans (rowF_get _ (by omega))
                obtain ⟨u, hu⟩ : ∃ u, ledC l l.length (f : Int) = u := ⟨_, rfl⟩
                rw [hu] at cof
                have HD2 : Hid (0 < b → 0 < u) := fun h => by rw [← hu]; exact HD.out h
                clear HD hu hy' hcell
                have hkx : ((kd != 4) = true ∧ (kd != 6) = true ∧ (kd == 6) = false ∧ ∃ (ad2 : Addr) (r c2 : Nat), s = .slice (some ad2) (r + 1) c2 ∧ w4.cell? (ad2.add r) = some (.int .i64 ((b : Int) + 1)) ∧ r < c2 ∧ r < 9223372036854775807) ∨ ((kd != 4) = false ∧ (kd == 6) = false ∧ ∃ (A2 : Option Addr) (n2 c2 : Nat), s = .slice A2 n2 c2) ∨ ((kd != 4) = true ∧ (kd != 6) = false ∧ (kd == 6) = true ∧ ∃ A2 c2, s = .slice A2 0 c2) := by
                  obtain ⟨A2, c2, hs⟩ := hns.form
                  by_cases h6 : kd = 6
                  · refine .inr (.inr ⟨by simp [h6], by simp [h6], by simp [h6], A2, c2, ?_⟩)
                    rw [hs, HX.out h6]
                    rfl
                  · by_cases h4 : kd = 4
                    · exact .inr (.inl ⟨by simp [h4], by simp [h4], A2, _, c2, hs⟩)
                    · obtain ⟨r, hr⟩ := HF.out h4 h6
                      rw [hr] at hs hns
                      rw [List.length_append] at hs
                      subst hs
                      have hl2 := hns.len
                      obtain ⟨ad2, z, rfl, _, hz, _, hcz⟩ := hns.at_ (k := r.length) (by simp)
                      simp at hz
                      subst hz
                      refine .inl ⟨by simp [h4], by simp [h6], by simp [h6], ad2, r.length, c2, rfl, hcz, ?_, ?_⟩
                      · have := hl2.2.1
                        simp at this
                        omega
                      · have := hl2.2.2
                        simp at this
                        omega
                clear hns HF HX
                have hfl2 : f < k + 1 := by omega
                have hbb : (decide ((0 : Int) < (b : Int)) = true ∧ decide (0 < b) = true ∧ ((u : Int) == 0) = false) ∨ (decide ((0 : Int) < (b : Int)) = false ∧ decide (0 < b) = false) := by
                  by_cases h0 : 0 < b
                  · have := HD2.out h0
                    exact .inl ⟨by simpa using h0, by simpa using h0, by simp; omega⟩
                  · exact .inr ⟨by simpa using h0, by simpa using h0⟩
                clear HD2
                rcases hkx with ⟨h4, h6, h66, ad2, r, c2, rfl, hcz, hrc, hr63⟩ | ⟨h4, h66, A2, n2, c2, rfl⟩ | ⟨h4, h6, h66, A2, c2, rfl⟩
                all_goals
                  rcases hbb with ⟨hb1, hb2, hu0⟩ | ⟨hb1, hb2⟩
                all_goals
                  as_aux_lemma =>
                    go_wp2
                    go_roundw
                    case measure => simp [intOf]; omega
                    case rel => exact ⟨b + 1, by omega, by go_num, HE.out, HB.out, HR.out⟩
              · have hbm2 : b = m := by omega
                subst hbm2
                go_wp2_with fail
                refine (wakes_any _).mono ?_
                rintro e w12 ⟨rfl, hb⟩
                replace HE := hide (HE.out.step hb)
                clear hb
                go_wp2
                go_ret
                exact ⟨rfl, HE.out.below⟩
    · have be : (er != 0) = true := by simpa using he
      have hR : blkR c l = [] := by unfold blkR; rw [her, if_neg he]
      rw [hR] at hc2 ⊢
      clear he her HER hc2 HB2 c1 hR
      go_wp2_with fail
      refine (wakes_any _).mono ?_
      rintro e w12 ⟨rfl, hb⟩
      replace HE := hide (HE.out.step hb)
      clear hb
      go_wp2
      go_ret
      exact ⟨rfl, HE.out.below⟩
  · clear hg
    go_wp2_with fail
    refine (wakes_any _).mono ?_
    rintro e w12 ⟨rfl, hb⟩
    replace HE := hide (HE.out.step hb)
    clear hb
    go_wp2
    go_ret
    exact ⟨rfl, HE.out.below⟩
end Go.Proofs.Ytbdofidapddgaaa
