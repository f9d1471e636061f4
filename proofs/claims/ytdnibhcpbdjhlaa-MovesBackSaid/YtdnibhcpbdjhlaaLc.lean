/-
  The walk of MovesRun: it answers true. Conditions: those written in each statement.
-/
import Derived.Test.YtdnibhcpbdjhlaaDd
import Derived.Test.YtdnibhcpbdjhlaaDb
import Derived.Test.YtdnibhcpbdjhlaaLo
namespace Go.Proofs.Ytdnibhcpbdjhlaa
open Go.RowKit
set_option linter.unusedVariables false
set_option linter.unusedSimpArgs false
/-- The law's moves in a world. -/
structure LF (A : Option Addr) (n : Nat) (l : List Mv) (w W : World) : Prop where
  below : Below w.heap.size w W
  mvs : MvsAt W W.heap.size A n l
theorem LF.step {A : Option Addr} {n : Nat} {l : List Mv} {w W V : World} (h : LF A n l w W) (hb : Below W.heap.size W V) : LF A n l w V :=
  ⟨h.below.trans (hb.mono h.below.size), h.mvs.up hb hb.size⟩
set_option maxRecDepth 100000 in
set_option maxHeartbeats 8000000 in
theorem runlaw_walk (A : Option Addr) (n c : Nat) (l : List Mv) (s : Int) (w : World) (hs : I8 s) (hh : MvsAt w w.heap.size A n l) (hm : n < 9223372036854775808) :
    Calls Try.prog 4 #[.slice A n c, .int .i8 s] w fun e w' => e = .returned (.bool true) ∧ Below w.heap.size w w' := by
  have HF := hide (⟨Below.refl _ _, hh⟩ : LF A n l w w)
  have HS := hide hs
  clear hh hs
  go_enter Try.func4, Try.ntmps4
  go_wp2_with fail
  refine (great_any A n c _ hm).mono ?_
  rintro e w' ⟨rfl, rfl⟩
  cases hg : decide (100 < n)
  · have hn100 : n ≤ 100 := by simpa using hg
    clear hg
    go_wp2_with fail
    refine (run_any A n c l s _ HF.out.mvs HS.out (by omega)).mono ?_
    rintro e w2 ⟨A2, c2, rfl, hc2, hat2, hb⟩
    replace HF := hide (HF.out.step hb)
    have HAT2 := hide hat2
    clear hb hat2
    obtain ⟨m, hm2⟩ : ∃ v, (runO l s).length = v := ⟨_, rfl⟩
    obtain ⟨o, ho⟩ : ∃ v, runO l s = v := ⟨_, rfl⟩
    obtain ⟨er, her⟩ : ∃ v, runE l s = v := ⟨_, rfl⟩
    have hm33 : m ≤ 33 := by
      rw [← hm2]
      unfold runO
      split
      · simp
      · split
        · have := runA_le s (runL l)
          have : (runL l).length ≤ l.length := List.length_filter_le _ _
          omega
        · simp
    rw [hm2, ho] at HAT2
    rw [hm2] at hc2
    rw [hm2, her]
    go_wp2_with fail
    refine (drun_any A n c l s _ HF.out.mvs HS.out (by omega)).mono ?_
    rintro e w3 ⟨A3, c3, rfl, hc3, hat3, hb⟩
    rw [hm2, ho] at hat3
    rw [hm2, her]
    have HAT3 := hide hat3
    replace HAT2 := hide (HAT2.out.up hb hb.size)
    replace HF := hide (HF.out.step hb)
    clear hb hat3 hc3 hc2 hm2 ho her
    go_wp2_with fail
    refine (same_any A2 A3 m c2 m c3 o o _ HAT2.out HAT3.out (by omega) (by omega)).mono ?_
    rintro e w4 ⟨rfl, hb⟩
    replace HF := hide (HF.out.step hb)
    rw [show sameM o o = true by unfold sameM; simp]
    clear hb
    go_wp2_with fail
    refine (may_any A n c l s _ HF.out.mvs (by omega)).mono ?_
    rintro e w5 ⟨rfl, hb⟩
    replace HF := hide (HF.out.step hb)
    clear hb
    obtain ⟨my, hmy⟩ : ∃ v, mayM l s = v := ⟨_, rfl⟩
    rw [hmy]
    go_wp2_with fail
    refine (dmay_any A n c l s _ HF.out.mvs (by omega)).mono ?_
    rintro e w6 ⟨rfl, hb⟩
    replace HF := hide (HF.out.step hb)
    rw [hmy]
    clear hb hmy
    go_wp2_with fail
    refine (circles_any A n c l _ HF.out.mvs (by omega)).mono ?_
    rintro e w7 ⟨cc, rfl, hc1, hc2, hcl, hb⟩
    replace HF := hide (HF.out.step hb)
    have HC1 := hide hc1
    have HC2 := hide hc2
    clear hb hc1 hc2
    go_wp2_with fail
    refine (dcircles_any A n c l _ HF.out.mvs (by omega)).mono ?_
    rintro e w8 ⟨kk, rfl, hk1, hk2, hb⟩
    replace HF := hide (HF.out.step hb)
    obtain rfl : kk = cc := by
      cases hn : namedB l with
      | true => exact cyc_one (hk1 hn) (HC1.out hn)
      | false => rw [hk2 hn, HC2.out hn]
    clear hb hk1 hk2 HC1 HC2
    go_wp2_with fail
    refine (wakes_any _).mono ?_
    rintro e w9 ⟨rfl, hb⟩
    replace HF := hide (HF.out.step hb)
    clear hb
    go_wp2
    go_ret
    exact ⟨rfl, HF.out.below⟩
  · go_wp2_with fail
    refine (wakes_any _).mono ?_
    rintro e w4 ⟨rfl, hb⟩
    replace HF := hide (HF.out.step hb)
    clear hb
    go_wp2
    go_ret
    exact ⟨rfl, HF.out.below⟩
theorem run_row (A : Option Addr) (n c : Nat) (l : List Mv) (s : Int) (hs : (Lit.int .i8 s).wf = true) (w : World) (hh : MvsAt w w.heap.size A n l) (hm : n < 9223372036854775808) :
    Calls Try.prog 4 #[.slice A n c, .int .i8 s] w fun e w' => e = .returned (.bool true) ∧ Below w.heap.size w w' :=
  runlaw_walk A n c l s w (by have := bounds_i8 hs; unfold I8; omega) hh hm
end Go.Proofs.Ytdnibhcpbdjhlaa
