/-
  latheref22.Same, the law's great and wakes. Conditions: those written in each statement.
-/
import Derived.Test.YtdnibhcpbdjhlaaMt
import Derived.Test.YtdnibhcpbdjhlaaQuiew
import Derived.Deep.QuietTactic
import Derived.BigQuiet
namespace Go.Proofs.Ytdnibhcpbdjhlaa
open Go.RowKit
set_option linter.unusedVariables false
set_option linter.unusedSimpArgs false
theorem okM : eqOk Try.prog 4 32 = true := by kernel_rfl
theorem aggM : aggT Try.prog 32 = true := by kernel_rfl
theorem mv_all {x : Mv} (h : mvW x) : AllK [some .i8, some .i8] (mvC x) := by
  refine ⟨rfl, fun i k v hk hv => ?_⟩
  match i with
  | 0 => simp [mvC] at hk hv; subst hk hv; exact ⟨_, rfl, wf_i8 h.1⟩
  | 1 => simp [mvC] at hk hv; subst hk hv; exact ⟨_, rfl, wf_i8 h.2⟩
  | i + 2 => simp at hk
theorem neq_mv {x y : Mv} (hx : mvW x) (hy : mvW y) (w : World) : (binOp .neq 32 (.agg (mvC x).toArray) (.agg (mvC y).toArray)).run Try.prog w = .ok (.bool (!eqL (mvC x) (mvC y))) w :=
  run_neq_flat (by omega) flatM okM aggM (mv_all hx) (mv_all hy) w
theorem eq_mv {x y : Mv} (hx : mvW x) (hy : mvW y) : eqL (mvC x) (mvC y) = true ↔ x = y := by
  rw [eqL_iff [some .i8, some .i8] _ _ (mv_all hx) (mv_all hy)]
  exact ⟨mvC_inj, fun h => by rw [h]⟩
def sameM (a b : List Mv) : Bool := decide (a = b)
def SmRel (a b : List Mv) (w : World) (A A2 : Option Addr) (n : Nat) (i : Value) (wr : World) : Prop :=
  ∃ k : Nat, k ≤ n ∧ i = .int .i64 k ∧ (∀ j x y, j < k → a[j]? = some x → b[j]? = some y → x = y) ∧ MvsAt wr w.heap.size A n a ∧ MvsAt wr w.heap.size A2 n b ∧ Below w.heap.size w wr
set_option maxRecDepth 100000 in
set_option maxHeartbeats 2000000 in
theorem same_any (A A2 : Option Addr) (n c n2 c2 : Nat) (a b : List Mv) (w : World) (hh : MvsAt w w.heap.size A n a) (hh2 : MvsAt w w.heap.size A2 n2 b) (hm : n < 9223372036854775807) (hm2 : n2 < 9223372036854775807) :
    Calls Try.prog 12 #[.slice A n c, .slice A2 n2 c2] w (NmP (sameM a b) w) := by
  have HH := hide hh
  have HH2 := hide hh2
  have HL := hide hh.1
  have HL2 := hide hh2.1
  clear hh hh2
  by_cases h2 : n = n2
  · subst h2
    have b2 : (n != n) = false := by simp
    go_enter Try.func12, Try.ntmps12
    go_wp2
    go_loopw [5] (fun i wr => SmRel a b w A A2 n i wr) (fun i _ => n - (intOf i).toNat)
    case atStart => exact ⟨0, by omega, rfl, by omega, HH.out, HH2.out, Below.refl _ _⟩
    case round =>
      obtain ⟨k, hk, rfl, hno, hat, hat2, hbel⟩ := hrel
      have HN := hide hno
      have HAT := hide hat
      have HAT2 := hide hat2
      have HB := hide hbel
      clear hno hat hat2 hbel
      by_cases hlt : k < n
      · obtain ⟨ad, x, rfl, hab, hx, hxw, hcell⟩ := HAT.out.at_ hlt
        obtain ⟨ad2, y, rfl, hab2, hy, hyw, hcell2⟩ := HAT2.out.at_ hlt
        have HX := hide hx
        have HY := hide hy
        have HC := hide hcell
        have HC2 := hide hcell2
        have HXY := hide (eq_mv hxw hyw)
        have hE0 := fun W => neq_mv hxw hyw W
        have hki : (k : Int) < n := by omega
        have hlx : (mvC x).length = 2 := rfl
        have hly : (mvC y).length = 2 := rfl
        clear hx hy hcell hcell2 hxw hyw
        cases he : eqL (mvC x) (mvC y)
        all_goals
          rw [he] at hE0
          have hE := hE0
          clear hE0
          have HE := hide he
          clear he
          go_wp2_with fail
          refine wp_region_quiet_lit (by kernel_rfl) (by kernel_rfl) ?_
          repeat (first
            | (refine wpQuiet_load rfl 32 (.tmp 19) rfl (ad.add (k * 2)) rfl (mvC x) _ HC.out Try.underlying32 rfl (by exact sizM) ?_; go_simp)
            | (refine wpQuiet_load rfl 32 (.tmp 23) rfl (ad2.add (k * 2)) rfl (mvC y) _ HC2.out Try.underlying32 rfl (by exact sizM) ?_; go_simp)
            | go_big_quiet_step (fail))
          refine wpQuiet_nil ?_
          intro nq
          go_wp2
        · go_ret
          have hf : sameM a b = false := by
            unfold sameM
            rw [decide_eq_false_iff_not]
            intro e
            subst e
            have h1 := HX.out
            rw [HY.out] at h1
            obtain rfl := Option.some.inj h1
            have := HXY.out.2 rfl
            rw [HE.out] at this
            cases this
          exact ⟨ret_b hf.symm, below_drewN HB.out _⟩
        · go_roundw
          case measure => simp [intOf]; omega
          case rel =>
            refine ⟨k + 1, by omega, by go_num, fun j p q hj hp hq => ?_, HAT.out, HAT2.out, below_drewN HB.out _⟩
            rcases Nat.lt_or_ge j k with h | h
            · exact HN.out j p q h hp hq
            · obtain rfl : j = k := by omega
              have h1 := HX.out
              have h2 := HY.out
              rw [hp] at h1
              rw [hq] at h2
              obtain rfl := Option.some.inj h1
              obtain rfl := Option.some.inj h2
              exact HXY.out.1 HE.out
      · obtain rfl : k = n := by omega
        clear hk hlt
        go_wp2
        go_ret
        have hf : sameM a b = true := by
          unfold sameM
          rw [decide_eq_true_eq]
          refine List.ext_getElem (by rw [HL.out, HL2.out]) fun i h1 h2 => ?_
          exact HN.out i _ _ (by have := HL.out; omega) (List.getElem?_eq_getElem h1) (List.getElem?_eq_getElem h2)
        exact ⟨ret_b hf.symm, HB.out⟩
  · have b2 : (n != n2) = true := by simpa using h2
    have HF := hide (show sameM a b = false by
      unfold sameM
      rw [decide_eq_false_iff_not]
      intro e
      exact h2 (by rw [← HL.out, ← HL2.out, e]))
    clear h2
    go_enter Try.func12, Try.ntmps12
    go_wp2
    go_ret
    exact ⟨ret_b HF.out.symm, Below.refl _ _⟩
theorem great_any (A : Option Addr) (n c : Nat) (w : World) (hm : n < 9223372036854775808) : Calls Try.prog 7 #[.slice A n c] w fun e w' => e = .returned (.bool (decide (100 < n))) ∧ w = w' := by
  go_enter Try.func7, Try.ntmps7
  go_wp2
  go_ret
  exact ⟨ret_b (by rw [Bool.eq_iff_iff]; simp; omega), rfl⟩
def wkL : List Mv := [(1, 2), (2, 1)]
def wkO : List Mv := [(11, 2), (2, 1), (1, 11)]
theorem wk_run : runO wkL 11 = wkO ∧ runE wkL 11 = 0 := by decide +kernel
set_option maxRecDepth 100000 in
set_option maxHeartbeats 2000000 in
theorem wakes_any (w : World) : Calls Try.prog 8 #[] w fun e w' => e = .returned (.bool true) ∧ Below w.heap.size w w' := by
  go_enter Try.func8, Try.ntmps8
  go_wp2_with fail
  have X1 := Blk.new w 32 #[.int .i8 1, .int .i8 2, .int .i8 2, .int .i8 1]
  have L1 : Below w.heap.size w (w.alloc (.cells #[.int .i8 1, .int .i8 2, .int .i8 2, .int .i8 1] 32)) := (Below.refl _ _).alloc (Nat.le_refl _) _
  have hat : MvsAt (w.alloc (.cells #[.int .i8 1, .int .i8 2, .int .i8 2, .int .i8 1] 32)) (w.alloc (.cells #[.int .i8 1, .int .i8 2, .int .i8 2, .int .i8 1] 32)).heap.size (some ⟨w.heap.size, 0, none⟩) 2 wkL := by
    refine ⟨rfl, ?_, rfl, fun _ => ⟨_, rfl, by simp, fun j u hu => ?_⟩⟩
    · intro x hx
      unfold wkL at hx
      simp at hx
      rcases hx with rfl | rfl <;> (unfold mvW I8; dsimp only; omega)
    · exact blk_list (l := wkL.flatMap mvC) X1 j u hu
  refine (run_any _ 2 2 wkL 11 _ hat (by unfold I8; omega) (by omega)).mono ?_
  rintro e w2 ⟨A2, c2, rfl, hc2, hat2, hb⟩
  rw [wk_run.1] at hc2 hat2 ⊢
  rw [wk_run.2]
  have HB2 := hide (((Below.refl w.heap.size w).alloc (Nat.le_refl _) (.cells #[.int .i8 1, .int .i8 2, .int .i8 2, .int .i8 1] 32)).trans (hb.mono (by simp)))
  have HAT2 := hide hat2
  clear hat X1 L1 hb hat2
  go_wp2_with fail
  have X3 := Blk.new w2 32 #[.int .i8 11, .int .i8 2, .int .i8 2, .int .i8 1, .int .i8 1, .int .i8 11]
  have L3 : Below w2.heap.size w2 (w2.alloc (.cells #[.int .i8 11, .int .i8 2, .int .i8 2, .int .i8 1, .int .i8 1, .int .i8 11] 32)) := (Below.refl _ _).alloc (Nat.le_refl _) _
  have hat3 : MvsAt (w2.alloc (.cells #[.int .i8 11, .int .i8 2, .int .i8 2, .int .i8 1, .int .i8 1, .int .i8 11] 32)) (w2.alloc (.cells #[.int .i8 11, .int .i8 2, .int .i8 2, .int .i8 1, .int .i8 1, .int .i8 11] 32)).heap.size (some ⟨w2.heap.size, 0, none⟩) 3 wkO := by
    refine ⟨rfl, ?_, rfl, fun _ => ⟨_, rfl, by simp, fun j u hu => ?_⟩⟩
    · intro x hx
      unfold wkO at hx
      simp at hx
      rcases hx with rfl | rfl | rfl <;> (unfold mvW I8; dsimp only; omega)
    · exact blk_list (l := wkO.flatMap mvC) X3 j u hu
  refine (same_any A2 _ wkO.length c2 3 3 wkO wkO _ (HAT2.out.up L3 L3.size) hat3 (by decide) (by omega)).mono ?_
  rintro e w4 ⟨rfl, hb⟩
  rw [show sameM wkO wkO = true from by decide +kernel]
  have HB4 := hide (HB2.out.trans ((L3.trans (hb.mono L3.size)).mono HB2.out.size))
  clear hb L3 X3 hat3
  go_wp2
  go_ret
  exact ⟨rfl, HB4.out⟩
end Go.Proofs.Ytdnibhcpbdjhlaa
