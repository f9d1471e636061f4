/-
  The walk of BlocksWays: it answers true. Conditions: those written in each statement.
-/
import Derived.Test.YtbdofidapddgaaaBp
namespace Go.Proofs.Ytbdofidapddgaaa
open Go.RowKit
set_option linter.unusedVariables false
set_option linter.unusedSimpArgs false
/-- The law's two rows of blocks, in a world. -/
structure VF (A A2 : Option Addr) (n n2 : Nat) (l m : List BD) (w W : World) : Prop where
  one : BksAt W W.heap.size A n l
  two : BksAt W W.heap.size A2 n2 m
  below : Below w.heap.size w W
theorem VF.step {A A2 : Option Addr} {n n2 : Nat} {l m : List BD} {w W V : World} (h : VF A A2 n n2 l m w W) (hb : Below W.heap.size W V) : VF A A2 n n2 l m w V :=
  ⟨h.one.up hb hb.size, h.two.up hb hb.size, h.below.trans (hb.mono h.below.size)⟩
theorem NxAt.up {w w' : World} {B : Nat} {s : Value} {ns : List Int} (h : NxAt w B s ns) (hb : Below B w w') (hz : B ≤ w'.heap.size) : NxAt w' w'.heap.size s ns := (h.below hb).more hz
theorem rc_one {l : List BD} {S S' : List Bool} (h : if l.length = 0 ∨ mayL l = false then S = [] else IsR l S) (h' : if l.length = 0 ∨ mayL l = false then S' = [] else IsR l S') : S = S' := by
  by_cases hc : l.length = 0 ∨ mayL l = false
  · rw [if_pos hc] at h h'
    rw [h, h']
  · rw [if_neg hc] at h h'
    exact h.one h'
theorem rc_len {l : List BD} {S : List Bool} (h : if l.length = 0 ∨ mayL l = false then S = [] else IsR l S) : S.length ≤ l.length := by
  by_cases hc : l.length = 0 ∨ mayL l = false
  · rw [if_pos hc] at h
    rw [h]
    simp
  · rw [if_neg hc] at h
    exact Nat.le_of_eq h.len
set_option maxRecDepth 100000 in
set_option maxHeartbeats 8000000 in
theorem ways_walk (A : Option Addr) (n c : Nat) (l : List BD) (A2 : Option Addr) (n2 c2 : Nat) (m : List BD) (b : Int) (w : World) (hh : BksAt w w.heap.size A n l) (hm : n < 9223372036854775808) (hh2 : BksAt w w.heap.size A2 n2 m) (hm2 : n2 < 9223372036854775808) :
    Calls Try.prog 8 #[.slice A n c, .slice A2 n2 c2, .int .i64 b] w fun e w' => e = .returned (.bool true) ∧ Below w.heap.size w w' := by
  have HF := hide (⟨hh, hh2, Below.refl _ _⟩ : VF A A2 n n2 l m w w)
  have HL := hide hh.len
  clear hh hh2
  go_enter Try.func8, Try.ntmps8
  go_wp2_with fail
  refine (great_any A n c w.heap.size l _ HF.out.one hm).mono ?_
  rintro e w' ⟨rfl, rfl⟩
  cases hg : greatL l
  · go_wp2_with fail
    refine (great_any A2 n2 c2 w.heap.size m _ HF.out.two hm2).mono ?_
    rintro e w' ⟨rfl, rfl⟩
    clear hg
    cases hg : greatL m
    · clear hg
      go_wp2_with fail
      refine (of_any A n c l b _ HF.out.one hm).mono ?_
      rintro e w1 ⟨rfl, hb⟩
      replace HF := hide (HF.out.step hb)
      clear hb
      obtain ⟨on, hon⟩ : ∃ v, ofN l b = v := ⟨_, rfl⟩
      obtain ⟨ob, hob⟩ : ∃ v, ofB l b = v := ⟨_, rfl⟩
      rw [hon, hob]
      go_wp2_with fail
      refine (dof_any A n c w1.heap.size l b _ HF.out.one hm).mono ?_
      rintro e w' ⟨rfl, rfl⟩
      rw [hon, hob]
      clear hon hob
      go_wp2_with fail
      refine (bmay_any A n c l _ HF.out.one hm).mono ?_
      rintro e w2 ⟨rfl, hb⟩
      replace HF := hide (HF.out.step hb)
      clear hb
      obtain ⟨my, hmy⟩ : ∃ v, mayL l = v := ⟨_, rfl⟩
      rw [hmy]
      go_wp2_with fail
      refine (dmay_any A n c w2.heap.size l _ HF.out.one hm).mono ?_
      rintro e w3 ⟨rfl, hd⟩
      replace HF := hide (HF.out.step (dr_below hd _))
      rw [hmy]
      clear hd hmy
      go_wp2_with fail
      refine (reach_any A n c l _ HF.out.one hm).mono ?_
      rintro e w4 ⟨S, A4, c4, hif, rfl, hr, hb⟩
      replace HF := hide (HF.out.step hb)
      have HIF := hide hif
      have HR := hide hr
      clear hb hif hr
      go_wp2_with fail
      refine (dreach_any A n c l _ HF.out.one hm).mono ?_
      rintro e w5 ⟨S', A5, c5, hif, rfl, hr, hb⟩
      obtain rfl : S = S' := rc_one HIF.out hif
      replace HF := hide (HF.out.step hb)
      replace HR := hide ((HR.out.below hb).more hb.size)
      have HR2 := hide hr
      have hsl : S.length < 9223372036854775808 := by
        have := rc_len HIF.out
        rw [HL.out] at this
        omega
      clear hb hif hr HIF
      go_wp2_with fail
      refine (bools_any A4 A5 S.length c4 S.length c5 w5.heap.size S S _ HR.out HR2.out hsl hsl).mono ?_
      rintro e w6 ⟨rfl, hd⟩
      replace HF := hide (HF.out.step (dr_below hd _))
      rw [show decide (S = S) = true by simp]
      clear hd HR HR2 hsl
      go_wp2_with fail
      refine (before_any A n c l b _ HF.out.one hm).mono ?_
      rintro e w7 ⟨A7, c7, rfl, hn, hb⟩
      replace HF := hide (HF.out.step hb)
      have HN := hide hn
      clear hb hn
      go_wp2_with fail
      refine (dbefore_any A n c l b _ HF.out.one hm).mono ?_
      rintro e w8 ⟨A8, c8, rfl, hn, hb⟩
      replace HF := hide (HF.out.step hb)
      replace HN := hide (HN.out.up hb hb.size)
      have HN2 := hide hn
      clear hb hn
      go_wp2_with fail
      refine (dints_any A7 A8 _ c7 _ c8 w8.heap.size _ _ _ HN.out HN2.out).mono ?_
      rintro e w9 ⟨rfl, hd⟩
      replace HF := hide (HF.out.step (dr_below hd _))
      rw [show sameI (befL l b) (befL l b) = true by unfold sameI; simp]
      clear hd HN HN2
      go_wp2_with fail
      refine (same_any A A2 n c n2 c2 l m _ HF.out.one HF.out.two hm hm2).mono ?_
      rintro e w10 ⟨rfl, hb⟩
      replace HF := hide (HF.out.step hb)
      obtain ⟨sm, hsm⟩ : ∃ v, sameL l m = v := ⟨_, rfl⟩
      rw [hsm]
      clear hb
      go_wp2_with fail
      refine (dsame_any A A2 n c n2 c2 l m _ HF.out.one HF.out.two hm hm2).mono ?_
      rintro e w11 ⟨rfl, hb⟩
      replace HF := hide (HF.out.step hb)
      rw [hsm]
      clear hb hsm
      go_wp2_with fail
      refine (wakes_any _).mono ?_
      rintro e w12 ⟨rfl, hb⟩
      replace HF := hide (HF.out.step hb)
      clear hb
      go_wp2
      go_ret
      exact ⟨rfl, HF.out.below⟩
    · clear hg
      go_wp2_with fail
      refine (wakes_any _).mono ?_
      rintro e w12 ⟨rfl, hb⟩
      replace HF := hide (HF.out.step hb)
      clear hb
      go_wp2
      go_ret
      exact ⟨rfl, HF.out.below⟩
  · clear hg
    go_wp2_with fail
    refine (wakes_any _).mono ?_
    rintro e w12 ⟨rfl, hb⟩
    replace HF := hide (HF.out.step hb)
    clear hb
    go_wp2
    go_ret
    exact ⟨rfl, HF.out.below⟩
end Go.Proofs.Ytbdofidapddgaaa
