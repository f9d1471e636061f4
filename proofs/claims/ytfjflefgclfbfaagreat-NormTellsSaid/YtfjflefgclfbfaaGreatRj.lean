/-
  The document's may of a variable. Conditions: those written in each statement.
-/
import Derived.Test.YtfjflefgclfbfaaGreatQa
import Derived.Test.YtfjflefgclfbfaaGreatRa
import Derived.BigQuiet
import Derived.Deep.QuietTactic
namespace Go.Proofs.YtfjflefgclfbfaaGreat
open Go.RowKit
set_option linter.unusedVariables false
set_option linter.unusedSimpArgs false
set_option maxRecDepth 100000
theorem add_zero_ (a : Addr) : a.add 0 = a := by unfold Addr.add; split <;> simp_all
theorem add_two_ (a : Addr) : a.add 2 = ⟨a.block, a.off + 2, none⟩ := rfl
theorem add_three_ (a : Addr) : a.add 3 = ⟨a.block, a.off + 3, none⟩ := rfl
theorem clash_yes {p : PS} (hw : WfP p) {k : Nat} {u t : TD} (hu : p.T[k]? = some u) (hk : u.kind = 1) (hn : u.n = t.n) (hd : u.w ≠ t.w) (h1 : t.kind = 1) : clashB p.T t = true := by
  have := hw.wideF hu hk
  unfold clashB
  rw [← hn, this]
  simp [h1, hd]
theorem clash_no {p : PS} {t : TD} (h1 : t.kind = 1) (h : ∀ (j : Nat) (u : TD), p.T[j]? = some u → u.kind = 1 → u.n = t.n → u.w = t.w) : clashB p.T t = false := by
  unfold clashB
  rw [h1]
  cases e : wideF p.T t.n with
  | none => rfl
  | some x =>
    obtain ⟨i, u, hi, hk, hn, rfl⟩ := wideF_some e
    simp [h i u hi hk hn]
/-- What stands in the loop over the variables. -/
structure MV (base g : Nat) (F : Nat → Prop) (p : PS) (t u : TD) (bx b5 : Nat) (w W : World) : Prop where
  pool : RefAt W base F g p
  one : Blk W bx 67 t.cells.toArray
  two : Blk W b5 67 u.cells.toArray
  below : Below w.heap.size w W
section
variable {base g bx b5 : Nat} {F : Nat → Prop} {p : PS} {t u : TD} {w W V : World}
theorem MV.step (h : MV base g F p t u bx b5 w W) (hb : Below W.heap.size W V) : MV base g F p t u bx b5 w V :=
  ⟨h.pool.below hb, h.one.below hb h.one.lt, h.two.below hb h.two.lt, h.below.trans (hb.mono h.below.size)⟩
end
section
variable {base g : Nat} {F : Nat → Prop} {p : PS}
set_option maxHeartbeats 4000000 in
theorem rmay_1 (t : TD) (ht : t.wf) (n0 : t.kind = 1) (w : World) (h : RefAt w base F g p) : Calls Tryz.prog 100 #[.pointer (some ⟨g, 0, none⟩), termV t] w fun e w' => e = .returned (.bool (okP p.T t)) ∧ Below w.heap.size w w' := by
  have HP := hide h
  have HLW := hide (likeT_rng ht)
  have HTW := hide ht
  have HB0 := hide (bl_alloc' w (.cells t.cells.toArray 67))
  have HX0 := hide (Blk.new w 67 t.cells.toArray)
  have qb := fun w => rbuild_kind t.kind w
  clear h ht
  unfold termV
  go_enter Tryz.func100, Tryz.ntmps100
  go_upto_region 1 with fail
  have HNF := hide (fun b (hb : w.heap.size ≤ b) (q : F b) => by have := (HP.out.fb b q).2; omega : ∀ b, w.heap.size ≤ b → ¬ F b)
  have HP0 := hide (HP.out.below HB0.out)
  generalize w.alloc (.cells t.cells.toArray 67) = w1 at HB0 HX0 HP0 ⊢
  obtain ⟨bx, hbx⟩ : ∃ b, w.heap.size = b := ⟨_, rfl⟩
  have HBX := hide hbx
  rw [hbx] at HX0 ⊢
  clear hbx
  have HLT := hide (show bx < w1.heap.size from HX0.out.lt)
  have q0 := HX0.out.cell 0
  simp [TD.cells] at q0
  go_upto_region 2 with fail
  have HY := hide (Blk.new w1 67 #[.int .i8 1, .int .i8 0, .int .i8 0, .int .u64 0, .int .i64 0, .int .i64 0, .int .i64 0])
  have HL := hide (bl_alloc' w1 (.cells #[.int .i8 1, .int .i8 0, .int .i8 0, .int .u64 0, .int .i64 0, .int .i64 0, .int .i64 0] 67))
  generalize w1.alloc (.cells #[.int .i8 1, .int .i8 0, .int .i8 0, .int .u64 0, .int .i64 0, .int .i64 0, .int .i64 0] 67) = w2 at HY HL ⊢
  have HB := hide (HB0.out.trans (HL.out.mono HB0.out.size))
  replace HX0 := hide (HX0.out.below HL.out HX0.out.lt)
  replace HP0 := hide (HP0.out.below HL.out)
  have HNB := hide (show bx < w1.heap.size ∧ ¬ F w1.heap.size ∧ w.heap.size ≤ w1.heap.size from ⟨HLT.out, HNF.out _ HB0.out.size, HB0.out.size⟩)
  obtain ⟨b5, hb5⟩ : ∃ b, w1.heap.size = b := ⟨_, rfl⟩
  rw [hb5] at HY HNB ⊢
  clear hb5 HL HB0 HLT q0
  have q0 := HX0.out.cell 0
  simp [TD.cells] at q0
  have q3 := HX0.out.cell 3
  simp [TD.cells] at q3
  go_upto_region 8 with (first
    | (refine wpList_store_at rfl 31 (.tmp 25) (.tmp 24) rfl b5 3 67 [.int .i8 1, .int .i8 0, .int .i8 0, .int .u64 0, .int .i64 0, .int .i64 0, .int .i64 0] [.int .u64 t.n] (.int .u64 t.n) HY.out (by rfl) (by rfl) rfl (by kernel_rfl) (by simp) (by simp [Value.oneCell']) ?_
       intro wn Gn Ln Zn
       have HYn := hide (by have h := Gn; simp [overC] at h; exact h : Blk wn b5 67 #[.int .i8 1, .int .i8 0, .int .i8 0, .int .u64 t.n, .int .i64 0, .int .i64 0, .int .i64 0])
       have HXn := hide (HX0.out.grown Ln (fun e => by injection e with e; have := HNB.out.1; omega))
       have HPn := hide (HP0.out.grown Ln HNB.out.2.1)
       have HBn := hide (HB.out.grown Ln HB.out.size (fun b q => by injection q with q; have := HNB.out.2.2; omega))
       clear Gn Ln Zn)
    | fail)
  clear q3 HY HX0 HP0 HB
  clear q0
  have HY := HYn
  have HX0 := HXn
  have HP0 := HPn
  have HB := HBn
  clear HYn HXn HPn HBn
  have q2 := HX0.out.cell 2
  simp [TD.cells] at q2
  go_upto_region 9 with (first
    | (refine wpList_store_at rfl 24 (.tmp 28) (.tmp 27) rfl b5 2 67 [.int .i8 1, .int .i8 0, .int .i8 0, .int .u64 t.n, .int .i64 0, .int .i64 0, .int .i64 0] [.int .i8 t.w] (.int .i8 t.w) HY.out (by rfl) (by rfl) rfl (by kernel_rfl) (by simp) (by simp [Value.oneCell']) ?_
       intro wn Gn Ln Zn
       have HYn := hide (by have h := Gn; simp [overC] at h; exact h : Blk wn b5 67 #[.int .i8 1, .int .i8 0, .int .i8 t.w, .int .u64 t.n, .int .i64 0, .int .i64 0, .int .i64 0])
       have HXn := hide (HX0.out.grown Ln (fun e => by injection e with e; have := HNB.out.1; omega))
       have HPn := hide (HP0.out.grown Ln HNB.out.2.1)
       have HBn := hide (HB.out.grown Ln HB.out.size (fun b q => by injection q with q; have := HNB.out.2.2; omega))
       clear Gn Ln Zn)
    | fail)
  clear q2 HY HX0 HP0 HB
  have HY := HYn
  have HX0 := HXn
  have HP0 := HPn
  have HB := HBn
  clear HYn HXn HPn HBn
  have HM : Hid (MV base g F p t (likeT t) bx b5 w _) := hide (by have h := HY.out; refine ⟨HP0.out, HX0.out, ?_, HB.out⟩; unfold likeT; rw [if_neg (by omega), if_pos n0]; exact h)
  have heq := fun w => eql_tm HTW.out HLW.out w
  obtain ⟨dl, hdl⟩ : ∃ d, decide (t = likeT t) = d := ⟨_, rfl⟩
  have HDL := hide hdl
  rw [hdl] at heq
  clear hdl HP0 HX0 HY HB HTW HLW HP
  obtain ⟨n, hn⟩ : ∃ n, p.T.length = n := ⟨_, rfl⟩
  have hf := HM.out.pool.few
  rw [hn] at hf
  have HN := hide hn
  clear hn
  have N0 := hide n0
  go_upto_region 10 with fail
  go_loopw [6] (fun iv wr => ∃ k : Nat, k ≤ n ∧ iv = .int .i64 (k : Int) ∧ MV base g F p t (likeT t) bx b5 w wr ∧ ∀ (j : Nat) (u : TD), j < k → p.T[j]? = some u → u.kind = 1 → u.n = t.n → u.w = t.w) (fun iv _ => n - (intOf iv).toNat)
  case atStart => exact ⟨0, by omega, rfl, HM.out, fun j u h => by omega⟩
  case round =>
    obtain ⟨k, hk, rfl, hm, hall⟩ := hrel
    have HMR := hide hm
    have HALL := hide hall
    clear hm hall HM
    obtain ⟨A, c, D, d, h1, h2, _, _, _, _⟩ := HMR.out.pool.view
    rw [HN.out] at h1 h2
    have e0 := HMR.out.one.cell 0
    have e2 := HMR.out.one.cell 2
    have e3 := HMR.out.one.cell 3
    simp [TD.cells] at e0 e2 e3
    by_cases hlt : k < n
    · obtain ⟨ad, c', u, h1', h2', hu, huw, hc⟩ := HMR.out.pool.at_ (k := k) (by rw [HN.out]; exact hlt)
      rw [HN.out] at h1' h2'
      have g0 := hc 0 _ rfl
      simp only [add_zero_] at g0
      have g2 := hc 2 _ rfl
      have g3 := hc 3 _ rfl
      have g2b := g2
      have g3b := g3
      simp only [add_two_, add_three_] at g2b g3b
      clear h1 h2 hc
      have HU := hide hu
      clear hu huw
      have hkc : k < c' := by omega
      cases hk1 : (u.kind == 1)
      · go_wp2
        go_quiet (fail)
        go_wp2
        go_roundw
        case measure => simp [intOf]; omega
        case rel =>
          refine ⟨k + 1, by omega, by go_num, HMR.out.step (below_drewN (Below.refl _ _) nq), fun j v hj hv q1 q2 => ?_⟩
          rcases Nat.lt_or_ge j k with q | q
          · exact HALL.out j v q hv q1 q2
          · obtain rfl : j = k := by omega
            rw [HU.out] at hv
            injection hv with hv
            subst hv
            simp_all
      · cases hk2 : (u.n == t.n)
        · go_wp2
          go_quiet (fail)
          go_wp2
          go_roundw
          case measure => simp [intOf]; omega
          case rel =>
            refine ⟨k + 1, by omega, by go_num, HMR.out.step (below_drewN (Below.refl _ _) nq), fun j v hj hv q1 q2 => ?_⟩
            rcases Nat.lt_or_ge j k with q | q
            · exact HALL.out j v q hv q1 q2
            · obtain rfl : j = k := by omega
              rw [HU.out] at hv
              injection hv with hv
              subst hv
              simp_all
        · cases hk3 : (u.w != t.w)
          · go_wp2
            go_quiet (fail)
            go_wp2
            go_roundw
            case measure => simp [intOf]; omega
            case rel =>
              refine ⟨k + 1, by omega, by go_num, HMR.out.step (below_drewN (Below.refl _ _) nq), fun j v hj hv q1 q2 => ?_⟩
              rcases Nat.lt_or_ge j k with q | q
              · exact HALL.out j v q hv q1 q2
              · obtain rfl : j = k := by omega
                rw [HU.out] at hv
                injection hv with hv
                subst hv
                simp_all
          · go_wp2
            go_quiet (fail)
            go_wp2
            go_ret
            exact ⟨by
              have hcl := clash_yes HMR.out.pool.wf HU.out (by simpa using hk1) (by simpa using hk2) (by simpa using hk3) N0.out
              unfold okP
              simp [hcl], (HMR.out.step (below_drewN (Below.refl _ _) nq)).below⟩
    · obtain rfl : k = n := by omega
      have hcl : clashB p.T t = false := clash_no N0.out fun j u hu => HALL.out j u (by have := (List.getElem?_eq_some_iff.1 hu).1; rw [HN.out] at this; exact this) hu
      have HCL := hide hcl
      clear hcl
      have tok1 := True.intro
      have tok2 := True.intro
      cases dl
      · go_wp2_with (first
    | (clear tok1; refine wpList_load_at rfl 67 (.tmp 3) rfl _ (by rfl) t.cells _ (blk_list HMR.out.one) Tryz.underlying67 rfl sizT ?_)
    | (clear tok2; refine wpList_load_at rfl 67 (.tmp 5) rfl _ (by rfl) (likeT t).cells _ (blk_list HMR.out.two) Tryz.underlying67 rfl sizT ?_)
    | fail)
        go_ret
        exact ⟨by unfold okP okF; simp [HDL.out], HMR.out.below⟩
      · go_wp2_with (first
    | (clear tok1; refine wpList_load_at rfl 67 (.tmp 3) rfl _ (by rfl) t.cells _ (blk_list HMR.out.one) Tryz.underlying67 rfl sizT ?_)
    | (clear tok2; refine wpList_load_at rfl 67 (.tmp 5) rfl _ (by rfl) (likeT t).cells _ (blk_list HMR.out.two) Tryz.underlying67 rfl sizT ?_)
    | fail)
        refine (rwidth_any t.w _).mono ?_
        rintro e w' ⟨rfl, rfl⟩
        go_wp2
        go_ret
        exact ⟨by unfold okP okF askT prtL; simp [N0.out, HDL.out, HCL.out], HMR.out.below⟩
end
end Go.Proofs.YtfjflefgclfbfaaGreat
