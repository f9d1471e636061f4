/-
  The walk of TermCopies. Conditions: those written in each statement.
-/
import Derived.Test.YtafbjcnonhpldaaCq
import Derived.Test.YtafbjcnonhpldaaLw
import Derived.Test.YtafbjcnonhpldaaQuiew
import Derived.BigQuiet
namespace Go.Proofs.Ytafbjcnonhpldaa
open Go.RowKit
set_option linter.unusedVariables false
set_option linter.unusedSimpArgs false
/-- One pool of the call's own. -/
structure C1 (w : World) (g : Nat) (p : PS) (F : Nat → Prop) (W : World) : Prop where
  pool : PoolAt W w.heap.size F g p
  below : Below w.heap.size w W
/-- Two pools that share nothing. -/
structure C2 (w : World) (B2 g g2 : Nat) (p q : PS) (F F2 : Nat → Prop) (W : World) : Prop where
  p1 : PoolAt W w.heap.size F g p
  p2 : PoolAt W B2 F2 g2 q
  ge : w.heap.size ≤ B2
  dis : ∀ b, F b → F2 b → False
  below : Below w.heap.size w W
section
variable {w W V : World} {g g2 B2 : Nat} {p q p' q' : PS} {F F2 F' F2' : Nat → Prop}
theorem C1.putp (h : C1 w g p F W) (hp : PoolAt V w.heap.size F' g p') (hc : Chg F W V) : C1 w g p' F' V := ⟨hp, h.below.trans (hc.below (fun b q => (h.pool.fb b q).1) h.below.size)⟩
theorem C2.step (h : C2 w B2 g g2 p q F F2 W) (hb : Below W.heap.size W V) : C2 w B2 g g2 p q F F2 V := ⟨h.p1.below hb, h.p2.below hb, h.ge, h.dis, h.below.trans (hb.mono h.below.size)⟩
theorem C2.put1 (h : C2 w B2 g g2 p q F F2 W) (hp : PoolAt V w.heap.size F' g p') (hc : Chg F W V) (hf : ∀ b, F' b → F b ∨ W.heap.size ≤ b) : C2 w B2 g g2 p' q F' F2 V :=
  ⟨hp, h.p2.chg hc (fun b h2 h1 => h.dis b h1 h2), h.ge, fun b h1 h2 => (hf b h1).elim (fun k => h.dis b k h2) (fun k => by have := (h.p2.fb b h2).2; omega), h.below.trans (hc.below (fun b q => (h.p1.fb b q).1) h.below.size)⟩
theorem C2.put2 (h : C2 w B2 g g2 p q F F2 W) (hp : PoolAt V B2 F2' g2 q') (hc : Chg F2 W V) (hf : ∀ b, F2' b → F2 b ∨ W.heap.size ≤ b) : C2 w B2 g g2 p q' F F2' V :=
  ⟨h.p1.chg hc h.dis, hp, h.ge, fun b h1 h2 => (hf b h2).elim (fun k => h.dis b h1 k) (fun k => by have := (h.p1.fb b h1).2; omega), h.below.trans (hc.below (fun b q => Nat.le_trans h.ge (h.p2.fb b q).1) h.below.size)⟩
end
set_option maxRecDepth 100000 in
set_option maxHeartbeats 16000000 in
theorem copies_walk (A : Option Addr) (n cap : Nat) (l : List TD) (A2 : Option Addr) (n2 cap2 : Nat) (m : List TD) (w : World) (hh : TmsAt w w.heap.size A n l) (hm : n < 9223372036854775808) (hcap : n ≤ cap)
    (hh2 : TmsAt w w.heap.size A2 n2 m) (hm2 : n2 < 9223372036854775808) (hcap2 : n2 ≤ cap2) :
    Calls Try.prog 3 #[.slice A n cap, .slice A2 n2 cap2] w fun e w' => e = .returned (.bool true) ∧ Below w.heap.size w w' := by
  have HH := hide hh
  have HH2 := hide hh2
  clear hh hh2
  cases hg : (decide (200 < n) || decide (200 < n2))
  rotate_left
  · cases h4 : decide (200 < n)
    · have h5 : decide (200 < n2) = true := by rw [h4] at hg; simpa using hg
      have i4 : decide ((200 : Int) < (n : Int)) = false := by simp at h4 ⊢; omega
      have i5 : decide ((200 : Int) < (n2 : Int)) = true := by simp at h5 ⊢; omega
      clear hg
      go_enter Try.func3, Try.ntmps3
      go_wp2_with fail
      refine (wakes_any _).mono ?_
      rintro e w4 ⟨rfl, hb4⟩
      have HBW := hide hb4
      clear hb4
      go_wp2
      go_ret
      exact ⟨rfl, HBW.out⟩
    · have i4 : decide ((200 : Int) < (n : Int)) = true := by simp at h4 ⊢; omega
      clear hg
      go_enter Try.func3, Try.ntmps3
      go_wp2_with fail
      refine (wakes_any _).mono ?_
      rintro e w4 ⟨rfl, hb4⟩
      have HBW := hide hb4
      clear hb4
      go_wp2
      go_ret
      exact ⟨rfl, HBW.out⟩
  · have h2 : n ≤ 200 := by simp at hg; omega
    have h22 : n2 ≤ 200 := by simp at hg; omega
    have i4 : decide ((200 : Int) < (n : Int)) = false := by simp; omega
    have i5 : decide ((200 : Int) < (n2 : Int)) = false := by simp; omega
    clear hg
    go_enter Try.func3, Try.ntmps3
    go_wp2_with fail
    refine (new_any _).mono ?_
    rintro e w2 ⟨g, F, rfl, hp, hb⟩
    have HB := hide (⟨hp, hb⟩ : C1 w g ⟨[], []⟩ F w2)
    clear hp hb
    go_wp2
    go_loopw [6] (fun iv wq => ∃ (i : Nat) (F : Nat → Prop), i ≤ n ∧ iv = .int .i64 i ∧ C1 w g (putAll ⟨[], []⟩ (l.take i)) F wq) (fun iv _ => n - (intOf iv).toNat)
    case atStart => exact ⟨0, F, by omega, rfl, HB.out⟩
    case round =>
      obtain ⟨i, F, hi, rfl, hb⟩ := hrel
      clear HB
      have HB := hide hb
      clear hb
      by_cases hlt : i < n
      · obtain ⟨ad, x, rfl, _, hx, hxw, hcl⟩ := (HH.out.below HB.out.below).at_ hlt
        have HTK := hide (show putAll ⟨[], []⟩ (l.take (i + 1)) = putP (putAll ⟨[], []⟩ (l.take i)) x by
          rw [List.take_add_one, hx]
          exact putAll_snoc _ _ _)
        have HXW := hide hxw
        have HCL := hide hcl
        have hic : i < cap := by omega
        clear hx hxw hcl
        go_wp2_with (first
          | (refine wpList_load_at rfl 32 (.tmp 39) rfl (ad.add (i * 7)) (by rfl) x.cells _ HCL.out Try.underlying32 rfl sizT ?_)
          | fail)
        refine (put_any x HXW.out _ HB.out.pool HB.out.below.size).mono ?_
        rintro e w3 ⟨rfl, F2, hp2, hc2, hf2⟩
        have HB2 := hide (HB.out.putp hp2 hc2)
        clear hp2 hc2 hf2 HCL HB
        go_wp2
        go_roundw
        case measure => simp [intOf]; omega
        case rel => exact ⟨i + 1, F2, by omega, by go_num, by rw [HTK.out]; exact HB2.out⟩
      · obtain rfl : i = n := by omega
        obtain ⟨p, hp⟩ : ∃ p, putAll ⟨[], []⟩ l = p := ⟨_, rfl⟩
        have HB0 := hide (show C1 w g p F wr by have := HB.out; rw [← HH.out.1, List.take_length, hp] at this; exact this)
        clear HB
        have hfew := HB0.out.pool.few
        have HWF := hide HB0.out.pool.wf
        clear hp
        go_wp2_with fail
        refine (copy_any _ HB0.out.pool).mono ?_
        rintro e w3 ⟨g2, F2, rfl, hp2, hb2⟩
        have HB := hide (⟨HB0.out.pool.below hb2, hp2, HB0.out.below.size, fun b h1 h2 => by
          have := (HB0.out.pool.fb b h1).2
          have := (hp2.fb b h2).1
          omega, HB0.out.below.trans (hb2.mono HB0.out.below.size)⟩ : C2 w wr.heap.size g g2 p p F F2 w3)
        clear hp2 hb2 HB0
        go_wp2_with fail
        refine (len_any HB.out.p2).mono ?_
        rintro e w4 ⟨rfl, rfl⟩
        go_wp2_with fail
        refine (len_any HB.out.p1).mono ?_
        rintro e w4 ⟨rfl, rfl⟩
        go_wp2_with fail
        refine (len_any HB.out.p1).mono ?_
        rintro e w4 ⟨rfl, rfl⟩
        go_wp2
        obtain ⟨N, hN⟩ : ∃ N, p.T.length = N := ⟨_, rfl⟩
        rw [hN] at hfew ⊢
        obtain ⟨B2, hB2⟩ : ∃ B2, wr.heap.size = B2 := ⟨_, rfl⟩
        rw [hB2] at HB
        have HN := hide hN
        clear hN hB2
        go_loopw [9] (fun iv wq => ∃ (k : Nat) (F F2 : Nat → Prop), k ≤ n2 ∧ iv = .int .i64 k ∧ C2 w B2 g g2 p (putAll p (m.take k)) F F2 wq) (fun iv _ => n2 - (intOf iv).toNat)
        case atStart => exact ⟨0, F, F2, by omega, rfl, HB.out⟩
        case round =>
          obtain ⟨k, F, F2, hk, rfl, hb⟩ := hrel
          clear HB
          have HB := hide hb
          clear hb
          by_cases hlt2 : k < n2
          · obtain ⟨ad, x, hA2, _, hx, hxw, hcl⟩ := (HH2.out.below HB.out.below).at_ hlt2
            subst hA2
            have HTK := hide (show putAll p (m.take (k + 1)) = putP (putAll p (m.take k)) x by
              rw [List.take_add_one, hx]
              exact putAll_snoc _ _ _)
            have HKP := hide (fun i u h => putAll_keeps (m.take k) p h : ∀ (i : Nat) (u : TD), p.T[i]? = some u → (putAll p (m.take k)).T[i]? = some u)
            have HXW := hide hxw
            have HCL := hide hcl
            have hkc : k < cap2 := by omega
            have HMK := hide hx
            clear hx hxw hcl
            generalize putAll p (m.take k) = q at HB HTK HKP
            go_wp2_with (first
              | (refine wpList_load_at rfl 32 (.tmp 65) rfl (ad.add (k * 7)) (by rfl) x.cells _ HCL.out Try.underlying32 rfl sizT ?_)
              | fail)
            refine (put_any x HXW.out _ HB.out.p2 (Nat.le_trans (HB.out.p2.fb _ (by obtain ⟨_, _, _, _, _, _, _, _, _, _, _, f1, _⟩ := HB.out.p2.ex; exact f1)).1 (Nat.le_of_lt (HB.out.p2.fb _ (by obtain ⟨_, _, _, _, _, _, _, _, _, _, _, f1, _⟩ := HB.out.p2.ex; exact f1)).2))).mono ?_
            rintro e w4 ⟨rfl, F3, hp2, hc2, hf2⟩
            have HBN := hide (HB.out.put2 hp2 hc2 hf2)
            clear hp2 hc2 hf2
            obtain ⟨a, r, hPN⟩ : ∃ a r, putN q x = (a, r) := ⟨_, _, rfl⟩
            rw [hPN]
            have HPN := hide hPN
            clear hPN HCL
            go_wp2_with fail
            refine (len_any HBN.out.p1).mono ?_
            rintro e w5 ⟨rfl, rfl⟩
            rw [HN.out]
            cases hr : (r == 0)
            · go_wp2
              go_roundw
              case measure => simp [intOf]; omega
              case rel => exact ⟨k + 1, F, F3, by omega, by go_num, by rw [HTK.out]; exact HBN.out⟩
            · obtain rfl : r = 0 := by simpa using hr
              cases ha : decide (a < (N : Int))
              · go_wp2
                go_roundw
                case measure => simp [intOf]; omega
                case rel => exact ⟨k + 1, F, F3, by omega, by go_num, by rw [HTK.out]; exact HBN.out⟩
              · have hax : ∃ j : Nat, a = (j : Int) ∧ p.T[j]? = some x := by
                  obtain ⟨j, h1, h2, _⟩ := putN_ok (p := q) (t := x) (by rw [HPN.out])
                  rw [HPN.out] at h1
                  refine ⟨j, h1, ?_⟩
                  have hj : j < p.T.length := by have := HN.out; simp at ha; omega
                  have h3 := putP_keeps x (HKP.out j _ (List.getElem?_eq_getElem hj))
                  rw [h2] at h3
                  injection h3 with h3
                  rw [h3]
                  exact List.getElem?_eq_getElem hj
                obtain ⟨j, rfl, hj⟩ := hax
                have HJ := hide hj
                have hjn : j < N := by simp at ha; omega
                have hne : ∀ w, (binOp .neq 32 (.agg x.cells.toArray) (.agg x.cells.toArray)).run Try.prog w = .ok (.bool false) w := fun w => by simpa using neq_tm HXW.out HXW.out w
                clear hj HPN
                go_wp2_with fail
                refine (get_any HBN.out.p1 HJ.out).mono ?_
                rintro e w5 ⟨rfl, hb⟩
                have HB5 := hide (HBN.out.step hb)
                clear hb HBN
                go_upto_region 20 with (first
                  | (refine wpList_store_new rfl 32 (.tmp 12) (.tmp 85) rfl _ x.cells (termV x) (by rfl) (by rfl) rfl sizT rfl (TD.one _) ?_
                     intro w6 G6 L6 Z6
                     have HB6 := hide (HB5.out.step L6)
                     have HX6 := hide (blk_list G6)
                     clear G6 L6 Z6)
                  | fail)
                have HC := hide (by
                  obtain ⟨ad', x', e1, _, h1, _, h3⟩ := (HH2.out.below HB6.out.below).at_ hlt2
                  injection e1 with e1
                  subst e1
                  rw [HMK.out] at h1
                  injection h1 with h1
                  subst h1
                  exact h3 : ∀ jj u, x.cells[jj]? = some u → w6.cell? ((ad.add (k * 7)).add jj) = some u)
                go_wp2
                refine wp_region_quiet_lit (by kernel_rfl) (by kernel_rfl) ?_
                repeat (first
                  | (refine wpQuiet_loadw (by rfl) 32 (.tmp 12) rfl ⟨w5.heap.size, 0, none⟩ (by rfl) x.cells _ HX6.out Try.underlying32 rfl sizT ?_; go_simp)
                  | (refine wpQuiet_loadw (by rfl) 32 (.tmp 93) rfl (ad.add (k * 7)) (by rfl) x.cells _ HC.out Try.underlying32 rfl sizT ?_; go_simp)
                  | go_big_quiet_step (fail)
                  | quiet_step (fail))
                refine wpQuiet_nil ?_
                first
                  | (intro wq hwq; obtain ⟨nq, rfl⟩ := hwq)
                  | intro nq
                go_wp2
                go_roundw
                case measure => simp [intOf]; omega
                case rel => exact ⟨k + 1, F, F3, by omega, by go_num, by rw [HTK.out]; exact HB6.out.step (below_drewN (Below.refl _ _) nq)⟩
          · obtain rfl : k = n2 := by omega
            obtain ⟨q, hq⟩ : ∃ q, putAll p m = q := ⟨_, rfl⟩
            have HB0 := hide (show C2 w B2 g g2 p q F F2 wr by have := HB.out; rw [← HH2.out.1, List.take_length, hq] at this; exact this)
            clear HB
            have HQ := hide hq
            clear hq
            go_wp2
            obtain ⟨wo, rfl⟩ : ∃ wo : World, wo = wr := ⟨_, rfl⟩
            go_loopw [14] (fun iv wq => ∃ (i : Nat) (F : Nat → Prop), i ≤ k ∧ iv = .int .i64 i ∧ C2 w B2 g g2 (putAll p (m.take i)) q F F2 wq) (fun iv _ => k - (intOf iv).toNat)
            case atStart => exact ⟨0, F, by omega, rfl, HB0.out⟩
            case round =>
              obtain ⟨i, F, hi, rfl, hb⟩ := hrel
              clear HB0
              have HB := hide hb
              clear hb
              by_cases hlt3 : i < k
              · obtain ⟨ad, x, hA2, _, hx, hxw, hcl⟩ := (HH2.out.below HB.out.below).at_ hlt3
                subst hA2
                have HTK := hide (show putAll p (m.take (i + 1)) = putP (putAll p (m.take i)) x by
                  rw [List.take_add_one, hx]
                  exact putAll_snoc _ _ _)
                have HXW := hide hxw
                have HCL := hide hcl
                have hic : i < cap2 := by omega
                clear hx hxw hcl
                go_wp2_with (first
                  | (refine wpList_load_at rfl 32 (.tmp 106) rfl (ad.add (i * 7)) (by rfl) x.cells _ HCL.out Try.underlying32 rfl sizT ?_)
                  | fail)
                refine (put_any x HXW.out _ HB.out.p1 HB.out.below.size).mono ?_
                rintro e w4 ⟨rfl, F3, hp2, hc2, hf2⟩
                have HB2 := hide (HB.out.put1 hp2 hc2 hf2)
                clear hp2 hc2 hf2 HCL HB
                go_wp2
                go_roundw
                case measure => simp [intOf]; omega
                case rel => exact ⟨i + 1, F3, by omega, by go_num, by rw [HTK.out]; exact HB2.out⟩
              · obtain rfl : i = k := by omega
                have HB0 := hide (show C2 w B2 g g2 q q F F2 wr by have := HB.out; rw [← HH2.out.1, List.take_length, HQ.out] at this; exact this)
                clear HB
                have hfq := HB0.out.p1.few
                go_wp2_with fail
                refine (len_any HB0.out.p1).mono ?_
                rintro e w4 ⟨rfl, rfl⟩
                go_wp2_with fail
                refine (len_any HB0.out.p2).mono ?_
                rintro e w4 ⟨rfl, rfl⟩
                go_wp2
                obtain ⟨wo2, rfl⟩ : ∃ wo : World, wo = wr := ⟨_, rfl⟩
                go_loopw [15] (fun iv wq => ∃ (r : Nat), r ≤ q.T.length ∧ iv = .int .i64 r ∧ C2 w B2 g g2 q q F F2 wq) (fun iv _ => q.T.length - (intOf iv).toNat)
                case atStart => exact ⟨0, by omega, rfl, HB0.out⟩
                case round =>
                  obtain ⟨r, hr, rfl, hb⟩ := hrel
                  clear HB0
                  have HB := hide hb
                  clear hb
                  go_wp2_with fail
                  refine (len_any HB.out.p1).mono ?_
                  rintro e w4 ⟨rfl, rfl⟩
                  by_cases hrm : r < q.T.length
                  · have hT : q.T[r]? = some q.T[r] := List.getElem?_eq_getElem hrm
                    generalize q.T[r] = t at hT
                    obtain ⟨_, _, _, _, _, d, _, _, _, _, _, _, _, hd, _⟩ := HB.out.p1.at_ hrm
                    have HT := hide hT
                    have HD := hide hd
                    have HTW := hide (HB.out.p1.rng t (List.mem_of_getElem? hT))
                    have hne : ∀ w, (binOp .neq 32 (.agg t.cells.toArray) (.agg t.cells.toArray)).run Try.prog w = .ok (.bool false) w := fun w => by simpa using neq_tm HTW.out HTW.out w
                    clear hT hd
                    go_wp2_with fail
                    refine (get_any HB.out.p1 HT.out).mono ?_
                    rintro e w5 ⟨rfl, hb⟩
                    have HB5 := hide (HB.out.step hb)
                    clear hb HB
                    go_wp2_with (first
                      | (refine wpList_store_new rfl 32 (.tmp 16) (.tmp 124) rfl _ t.cells (termV t) (by rfl) (by rfl) rfl sizT rfl (TD.one _) ?_
                         intro w6 G6 L6 Z6
                         have HB6 := hide (HB5.out.step L6)
                         have HX6 := hide G6
                         clear G6 L6 Z6)
                      | fail)
                    refine (get_any HB6.out.p2 HT.out).mono ?_
                    rintro e w7 ⟨rfl, hb⟩
                    have HX7 := hide (HX6.out.below hb HX6.out.lt)
                    have HB7 := hide (HB6.out.step hb)
                    clear hb HB5 HX6 HB6
                    go_upto_region 33 with (first
                      | (refine wpList_store_new rfl 32 (.tmp 18) (.tmp 130) rfl _ t.cells (termV t) (by rfl) (by rfl) rfl sizT rfl (TD.one _) ?_
                         intro w8 G8 L8 Z8
                         have HB8 := hide (HB7.out.step L8)
                         have HX8 := hide (blk_list (HX7.out.below L8 HX7.out.lt))
                         have HY8 := hide (blk_list G8)
                         clear G8 L8 Z8)
                      | fail)
                    go_wp2_with (first
                      | (refine wpList_load_atw (by rfl) 32 (.tmp 16) rfl _ (by rfl) t.cells _ HX8.out Try.underlying32 rfl sizT ?_)
                      | (refine wpList_load_atw (by rfl) 32 (.tmp 18) rfl _ (by rfl) t.cells _ HY8.out Try.underlying32 rfl sizT ?_)
                      | fail)
                    refine (deep_any HB8.out.p1 HD.out).mono ?_
                    rintro e w9 ⟨rfl, rfl⟩
                    go_wp2_with fail
                    refine (deep_any HB8.out.p2 HD.out).mono ?_
                    rintro e w9 ⟨rfl, rfl⟩
                    go_wp2
                    go_roundw
                    case measure => simp [intOf]; omega
                    case rel => exact ⟨r + 1, by omega, by go_num, HB8.out⟩
                  · obtain rfl : r = q.T.length := by omega
                    go_wp2_with fail
                    refine (wakes_any _).mono ?_
                    rintro e w4 ⟨rfl, hb4⟩
                    have HBW := hide (HB.out.below.trans (hb4.mono HB.out.below.size))
                    clear hb4 HB
                    go_wp2
                    go_ret
                    exact ⟨rfl, HBW.out⟩
end Go.Proofs.Ytafbjcnonhpldaa
