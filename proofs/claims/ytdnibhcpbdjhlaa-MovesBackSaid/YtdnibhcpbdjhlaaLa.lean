/-
  The walk of MovesStay: it answers true. Conditions: those written in each statement.
-/
import Derived.Test.YtdnibhcpbdjhlaaMw
import Derived.Test.YtdnibhcpbdjhlaaMv
namespace Go.Proofs.Ytdnibhcpbdjhlaa
open Go.RowKit
set_option linter.unusedVariables false
set_option linter.unusedSimpArgs false
theorem infV : (Try.prog.info? 25).map (fun i => (i.zero, i.size, i.bytes)) = some (some (.agg #[.int .u64 0, .int .u64 0, .int .u64 0, .int .u64 0, .int .u64 0, .int .u64 0, .int .u64 0, .int .u64 0, .int .u64 0, .int .u64 0, .int .u64 0, .int .u64 0, .int .u64 0, .int .u64 0, .int .u64 0, .int .u64 0]), 16, 128) := by kernel_rfl
/-- The law's moves, the values its registers had (its first box), in a world. -/
structure SF (A : Option Addr) (n : Nat) (l : List Mv) (R : List Int) (w W : World) : Prop where
  below : Below w.heap.size w W
  regs : Blk W w.heap.size 25 (uC R).toArray
  mvs : MvsAt W W.heap.size A n l
section
variable {A : Option Addr} {n : Nat} {l : List Mv} {R : List Int} {w W V : World}
theorem SF.step (h : SF A n l R w W) (hb : Below W.heap.size W V) : SF A n l R w V :=
  ⟨h.below.trans (hb.mono h.below.size), h.regs.below hb h.regs.lt, h.mvs.up hb hb.size⟩
theorem SF.new (hh : MvsAt w w.heap.size A n l) : SF A n l R w (w.alloc (.cells (uC R).toArray 25)) :=
  ⟨(Below.refl _ _).alloc (Nat.le_refl _) _, Blk.new w _ _, hh.up ((Below.refl _ _).alloc (Nat.le_refl _) _) (by simp)⟩
end
theorem uC_at {R : List Int} {i : Nat} (hi : i < R.length) : (uC R)[i]? = some (.int .u64 (valF R i)) := by
  unfold uC valF
  rw [List.getElem?_map, List.getElem?_eq_getElem hi, Int.toNat_natCast, List.getD_eq_getElem?_getD, List.getElem?_eq_getElem hi]
  rfl
theorem blk_reg {W : World} {g : Nat} {R : List Int} (h : Blk W g 25 (uC R).toArray) (hR : R.length = 16) {i : Nat} (hi : i < 16) : W.cell? ⟨g, i, none⟩ = some (.int .u64 (valF R i)) := by
  rw [h.cell i]
  simpa using uC_at (R := R) (i := i) (by omega)
set_option maxRecDepth 100000 in
set_option maxHeartbeats 4000000 in
theorem stay_walk (A : Option Addr) (n c : Nat) (l : List Mv) (s : Int) (R : List Int) (w : World) (hs : I8 s) (hR : R.length = 16) (hh : MvsAt w w.heap.size A n l) (hm : n < 9223372036854775808) :
    Calls Try.prog 3 #[.slice A n c, .int .i8 s, .agg (uC R).toArray] w fun e w' => e = .returned (.bool true) ∧ Below w.heap.size w w' := by
  have HF := hide (SF.new (R := R) hh)
  have HR := hide hR
  have HS := hide hs
  clear hh hR hs
  go_enter Try.func3, Try.ntmps3
  go_wp2_with fail
  refine (great_any A n c _ hm).mono ?_
  rintro e w' ⟨rfl, rfl⟩
  cases hg : decide (100 < n)
  · have hn100 : n ≤ 100 := by simpa using hg
    clear hg
    go_wp2_with fail
    refine (run_any A n c l s _ HF.out.mvs HS.out (by omega)).mono ?_
    rintro e w2 ⟨A2, c2, rfl, hc2, hat2, hb⟩
    replace HF := hide (HF.out.step hb)
    have HAT2 := hide hat2
    clear hb hat2
    obtain ⟨er, her⟩ : ∃ v, runE l s = v := ⟨_, rfl⟩
    rw [her]
    have HER := hide her
    clear her
    by_cases he : er = 0
    · subst he
      have hmn : l.length ≤ 16 := (runE_zero HER.out).1
      have hon : (runO l s).length ≤ 33 := by
        rw [(runE_zero HER.out).2.2]
        have := runA_le s (runL l)
        have : (runL l).length ≤ l.length := List.length_filter_le _ _
        omega
      have hu16 : (uC R).length = 16 := by unfold uC; rw [List.length_map, HR.out]
      have HU := hide hu16
      clear hu16
      go_wp2_with (first
        | (refine wpList_load_at rfl 25 (.tmp 5) rfl ⟨w.heap.size, 0, none⟩ rfl (uC R) _ (blk_list HF.out.regs) Try.underlying25 rfl (by rw [HU.out]; exact infU) ?_)
        | fail)
      refine (do_any A2 _ c2 (runO l s) R _ HAT2.out HR.out (by omega)).mono ?_
      rintro e w3 ⟨rfl, hb⟩
      replace HF := hide (HF.out.step hb)
      obtain ⟨R', hR'⟩ : ∃ v, doL (runO l s) R = v := ⟨_, rfl⟩
      rw [hR']
      have HR2 := hide hR'
      have HRL := hide (show R'.length = 16 by rw [← hR', doL_len, HR.out])
      have HU2 := hide (show (uC R').length = 16 by unfold uC; rw [List.length_map, ← hR', doL_len, HR.out])
      clear hb hR' HAT2
      obtain ⟨iU, hiU, hzU, hsU, hbU⟩ := info_parts infV
      have IU := hide (And.intro hiU (And.intro hzU (And.intro hsU hbU)))
      clear hiU hzU hsU hbU
      go_wp2_with (first
        | (refine wpList_new rfl rfl 25 (.tmp 9) (.tmp 27) rfl rfl iU _ (.agg (uC R').toArray) (uC R').toArray IU.out.1 IU.out.2.1 (by rw [IU.out.2.2.1]; first | done | rfl) rfl (by rw [IU.out.2.2.1]; simpa using HU2.out) (all_one (uC_one _)) (by rfl) (by rfl) ?_
           intro w4 g4 G4 X4 L4
           replace HF := hide (HF.out.step L4)
           have HX4 := hide X4
           clear X4 L4)
        | fail)
      have HW := hide (fun (r : Nat) (h1 : r < 16) (h2 : (r : Int) ≠ s) => (by rw [← HR2.out]; exact run_want HER.out HR.out (by omega) (by omega) h2 : valF R' r = wantL (valF R) r l (valF R r)))
      have HRG := hide (may_regs (runE_zero HER.out).2.1).1
      go_loop [10] (fun v => ∃ k : Nat, k ≤ 16 ∧ v = .int .i8 k) (fun v => 16 - (intOf v).toNat)
      case atStart => exact ⟨0, by omega, rfl⟩
      case round =>
        obtain ⟨k, hk, rfl⟩ := hrel
        by_cases hlt : k < 16
        · have ck := blk_reg HF.out.regs HR.out hlt
          have ok := blk_reg HX4.out HRL.out hlt
          obtain ⟨vk, hvk⟩ : ∃ v, valF R k = v := ⟨_, rfl⟩
          rw [hvk] at ck
          have HVK := hide hvk
          clear hvk
          have hki : (k : Int) < 16 := by omega
          go_wp2
          go_loop [11, 12] (fun v i => ∃ j : Nat, j ≤ n ∧ i = .int .i64 j ∧ v = .int .u64 (wantL (valF R) k (l.take j) vk)) (fun _ i => n - (intOf i).toNat)
          case atStart => exact ⟨0, by omega, rfl, rfl⟩
          case round =>
            obtain ⟨j, hj, rfl, rfl⟩ := hrel
            by_cases hlj : j < n
            · obtain ⟨ad, x, rfl, hab, hx, hxw, hcell⟩ := HF.out.mvs.at_ hlj
              have HT := hide (show l.take (j + 1) = l.take j ++ [x] by rw [List.take_add_one, hx]; rfl)
              have hxr := HRG.out x (List.mem_of_getElem? hx)
              obtain ⟨x0, x1⟩ := x
              dsimp only at hxr
              obtain ⟨⟨y0, y1⟩, y2, y3⟩ := hxr
              obtain ⟨b, rfl⟩ := Int.eq_ofNat_of_zero_le y2
              have hb16 : b < 16 := by omega
              have cb := blk_reg HF.out.regs HR.out hb16
              have e0 := hcell 0 _ rfl
              have e1 := hcell 1 _ rfl
              obtain ⟨p, hp⟩ : ∃ p, ad.add (j * 2) = p := ⟨_, rfl⟩
              rw [hp] at e0 e1
              simp [Addr.add] at e0 e1
              clear hcell hxw hx
              cases hq : (x0 == (k : Int))
              · have HQ := hide (show ¬ x0 = (k : Int) by simpa using hq)
                go_wp2
                go_round
                case measure => simp [intOf]; omega
                case rel => exact ⟨j + 1, by omega, by go_num, by rw [HT.out, want_snoc, if_neg HQ.out]⟩
              · have HQ := hide (show x0 = (k : Int) by simpa using hq)
                go_wp2
                go_round
                case measure => simp [intOf]; omega
                case rel => exact ⟨j + 1, by omega, by go_num, by rw [HT.out, want_snoc, if_pos HQ.out]⟩
            · obtain rfl : j = n := by omega
              have ht : l.take j = l := List.take_of_length_le (by rw [HF.out.mvs.1]; exact Nat.le_refl _)
              rw [ht]
              obtain ⟨wv, hwv⟩ : ∃ v, wantL (valF R) k l vk = v := ⟨_, rfl⟩
              rw [hwv]
              have HWV := hide hwv
              clear hwv ht hj hlj
              cases hq : ((k : Int) != s)
              · go_wp2
                go_round
                case measure => simp [intOf]; omega
                case rel => exact ⟨k + 1, by omega, by go_num⟩
              · have hov : valF R' k = wv := by rw [HW.out k hlt (by simpa using hq), HVK.out, HWV.out]
                rw [hov] at ok
                clear hov
                go_wp2
                go_round
                case measure => simp [intOf]; omega
                case rel => exact ⟨k + 1, by omega, by go_num⟩
        · obtain rfl : k = 16 := by omega
          go_wp2_with fail
          refine (wakes_any _).mono ?_
          rintro e w5 ⟨rfl, hb⟩
          replace HF := hide (HF.out.step hb)
          clear hb
          go_wp2
          go_ret
          exact ⟨rfl, HF.out.below⟩
    · have be : (er != 0) = true := by simpa using he
      clear he
      go_wp2_with fail
      refine (wakes_any _).mono ?_
      rintro e w4 ⟨rfl, hb⟩
      replace HF := hide (HF.out.step hb)
      clear hb
      go_wp2
      go_ret
      exact ⟨rfl, HF.out.below⟩
  · go_wp2_with fail
    refine (wakes_any _).mono ?_
    rintro e w4 ⟨rfl, hb⟩
    replace HF := hide (HF.out.step hb)
    clear hb
    go_wp2
    go_ret
    exact ⟨rfl, HF.out.below⟩
theorem stay_row (A : Option Addr) (n c : Nat) (l : List Mv) (s : Int) (R : List Int) (hs : (Lit.int .i8 s).wf = true) (hR : R.length = 16) (w : World) (hh : MvsAt w w.heap.size A n l) (hm : n < 9223372036854775808) :
    Calls Try.prog 3 #[.slice A n c, .int .i8 s, .agg (uC R).toArray] w fun e w' => e = .returned (.bool true) ∧ Below w.heap.size w w' :=
  stay_walk A n c l s R w (by have := bounds_i8 hs; unfold I8; omega) hR hh hm
end Go.Proofs.Ytdnibhcpbdjhlaa
