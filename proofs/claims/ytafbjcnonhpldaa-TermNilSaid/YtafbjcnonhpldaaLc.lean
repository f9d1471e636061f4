/-
  The walk of TermNil. Conditions: those written in each statement.
-/
import Derived.Test.YtafbjcnonhpldaaNl
import Derived.Test.YtafbjcnonhpldaaAo
namespace Go.Proofs.Ytafbjcnonhpldaa
open Go.RowKit
set_option linter.unusedVariables false
set_option linter.unusedSimpArgs false
theorem build_zx (k : Nat) (w : World) : (Instr.build 32 #[(0, .int .i8 3), (2, .int .i8 32), (4, .int .i64 (k : Int))]).run Try.prog w = .ok (termV (zxT k)) w := run_build w 32 _ _ (by kernel_rfl)
set_option maxRecDepth 100000 in
set_option maxHeartbeats 4000000 in
theorem nil_walk (t : TD) (k : Int) (w : World) (ht : t.wf) : Calls Try.prog 6 #[termV t, .int .i64 k] w fun e w' => e = .returned (.bool true) ∧ Below w.heap.size w w' := by
  have q2 := fun (w : World) => build_x w
  have q3 := fun (k : Nat) (w : World) => build_zx k w
  have HB0 : Hid (Below w.heap.size w (w.alloc (.cells t.cells.toArray 32))) := (Below.refl _ _).alloc (Nat.le_refl _) _
  have HX0 := hide (Blk.new w 32 t.cells.toArray)
  unfold termV
  go_enter Try.func6, Try.ntmps6
  go_wp2_with (first
    | (refine wpList_load_at rfl 32 (.tmp 2) rfl _ (by rfl) t.cells _ (blk_list HX0.out) Try.underlying32 rfl sizT ?_)
    | fail)
  refine (put_nil t _).mono ?_
  rintro e w1 ⟨rfl, hb⟩
  have HB1 := hide (HB0.out.trans (hb.mono HB0.out.size))
  clear hb HB0 HX0
  go_wp2_with fail
  refine (get_nil k _).mono ?_
  rintro e w2 ⟨rfl, hb⟩
  have HB2 := hide (HB1.out.trans (hb.mono HB1.out.size))
  clear hb HB1
  go_upto_region 4 with (first
    | (refine wpList_store_new rfl 32 (.tmp 8) (.tmp 27) rfl _ zeroT.cells (termV zeroT) (by rfl) (by rfl) rfl sizT rfl (TD.one _) ?_
       intro w5 G5 L5 Z5
       have HB3 := hide (HB2.out.trans (L5.mono HB2.out.size))
       clear G5 L5 Z5)
    | fail)
  go_wp2_with fail
  refine (len_nil _).mono ?_
  rintro e w6 ⟨rfl, rfl⟩
  go_wp2_with fail
  refine (deep_nil k _).mono ?_
  rintro e w6 ⟨rfl, rfl⟩
  go_wp2_with fail
  refine (wide_nil k _).mono ?_
  rintro e w6 ⟨rfl, rfl⟩
  go_wp2_with fail
  refine (vars_nil k _).mono ?_
  rintro e w6 ⟨rfl, hb⟩
  have HB4 := hide (HB3.out.trans (hb.mono HB3.out.size))
  clear hb HB3
  go_wp2_with fail
  refine (copy_nil _).mono ?_
  rintro e w7 ⟨rfl, rfl⟩
  go_wp2_with fail
  refine (goes_nil _).mono ?_
  rintro e w7 ⟨rfl, hb⟩
  have HB5 := hide (HB4.out.trans (hb.mono HB4.out.size))
  clear hb HB4
  go_wp2_with fail
  refine (new_any _).mono ?_
  rintro e w8 ⟨g, F, rfl, hp, hb⟩
  have HP := hide hp
  have HB7 := hide hb
  clear hp hb HB2
  go_wp2_with fail
  refine (put_any xT x_wf _ HP.out HB7.out.size).mono ?_
  rintro e w3 ⟨rfl, F2, hp, hc, hf⟩
  rw [chain_zero.1] at hp
  rw [chain_zero.2]
  have HP2 := hide hp
  have HB := hide (HB7.out.trans (hc.below (fun b q => (HP.out.fb b q).1) HB7.out.size))
  clear hp hc hf HB7 HP
  go_wp2
  go_loopw [12, 13, 14] (fun av gv iv wq => ∃ (k : Nat) (F : Nat → Prop), k ≤ 255 ∧ av = .int .i64 (k : Int) ∧ gv = .int .i64 0 ∧ iv = .int .i64 ((k : Int) + 1) ∧ PoolAt wq w7.heap.size F g (chainP k) ∧ Below w7.heap.size w7 wq) (fun av _ _ _ => 255 - (intOf av).toNat)
  case atStart => exact ⟨0, F2, by omega, rfl, rfl, rfl, HP2.out, HB.out⟩
  case round =>
    obtain ⟨k, F, hk, rfl, rfl, rfl, hp, hb⟩ := hrel
    clear HP2 HB
    have HP := hide hp
    have HB := hide hb
    clear hp hb
    have hbz := q3 k
    by_cases hlt : k < 255
    · have hkd : decide ((k : Int) + 1 < 256) = true := by simp; omega
      go_wp2_with fail
      refine (put_any (zxT k) (zx_wf (by omega)) _ HP.out HB.out.size).mono ?_
      rintro e w3 ⟨rfl, F2, hp, hc, hf⟩
      rw [(chain_put hlt).1] at hp
      rw [(chain_put hlt).2]
      have HP2 := hide hp
      have HB2 := hide (HB.out.trans (hc.below (fun b q => (HP.out.fb b q).1) HB.out.size))
      clear hp hc hf
      go_wp2
      go_roundw
      case measure => simp [intOf]; omega
      case rel => exact ⟨k + 1, F2, by omega, by go_num, rfl, by go_num, HP2.out, HB2.out⟩
    · obtain rfl : k = 255 := by omega
      go_wp2_with fail
      refine (put_any (zxT 255) (zx_wf (by omega)) _ HP.out HB.out.size).mono ?_
      rintro e w3 ⟨rfl, F2, hp, hc, hf⟩
      rw [chain_full]
      have e1 : putP (chainP 255) (zxT 255) = chainP 255 := by
        obtain ⟨h1, h2, h3⟩ := zx_ok 255
        unfold putP
        rw [if_neg (by rw [h3]; omega)]
      rw [e1] at hp
      have HP2 := hide hp
      have HB2 := hide (HB.out.trans (hc.below (fun b q => (HP.out.fb b q).1) HB.out.size))
      clear hp hc hf HP HB
      go_wp2_with fail
      refine (deep_any HP2.out (chain_top 255)).mono ?_
      rintro e w3 ⟨rfl, rfl⟩
      go_wp2_with fail
      refine (wakes_any _).mono ?_
      rintro e w4 ⟨rfl, hb4⟩
      have HBW := hide (HB5.out.trans ((HB2.out.trans (hb4.mono HB2.out.size)).mono HB5.out.size))
      clear hb4 HB2 HP2
      go_wp2
      go_ret
      exact ⟨rfl, HBW.out⟩
end Go.Proofs.Ytafbjcnonhpldaa
