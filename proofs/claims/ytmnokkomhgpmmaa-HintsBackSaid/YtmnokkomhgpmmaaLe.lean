/-
  The walk of HintsBack: it answers true. Conditions: those written in each statement.
-/
import Derived.Test.YtmnokkomhgpmmaaLd
namespace Go.Proofs.Ytmnokkomhgpmmaa
open Go.RowKit
set_option linter.unusedVariables false
set_option linter.unusedSimpArgs false
theorem bytes_ok (s : Int) (A : Option Addr) (n c : Nat) (hs : List HD) (w : World) (hh : HintsAt w w.heap.size A n hs) (hc : n ≤ c) (hm : n < 9223372036854775808) (hck : chkB s hs = true) :
    Calls Try.prog 11 #[.agg #[.int .i64 s, .slice A n c]] w fun e w' => ∃ A1 c1, 3 + 25 * n ≤ c1 ∧ e = .returned (.tuple #[.slice A1 (3 + 25 * n) c1, .int .i64 0]) ∧ Reads w' w'.heap.size 1 A1 (3 + 25 * n) ((hsB s hs).map (Value.int .u8)) ∧ Below w.heap.size w w' := by
  refine (bytes_yes s A n c hs w hh hc hm hck).mono ?_
  rintro e w' ⟨sv, rfl, hown, hb⟩
  obtain ⟨A1, c1, rfl, h1, hr⟩ := own_slice hown (by omega)
  exact ⟨A1, c1, h1, rfl, hr, hb⟩
/-- The box of the law, the bytes that came in. -/
structure BF (s : Int) (A : Option Addr) (n c : Nat) (hs : List HD) (A2 : Option Addr) (n2 : Nat) (l : List Int) (w W : World) : Prop where
  below : Below w.heap.size w W
  lt : w.heap.size < W.heap.size
  c0 : W.cell? ⟨w.heap.size, 0, none⟩ = some (.int .i64 s)
  c1 : W.cell? ⟨w.heap.size, 1, none⟩ = some (.slice A n c)
  hints : HintsAt W W.heap.size A n hs
  reads : Reads W W.heap.size 1 A2 n2 (l.map (Value.int .u8))
section
variable {s : Int} {A A2 : Option Addr} {n c n2 : Nat} {hs : List HD} {l : List Int} {w W V : World}
theorem BF.step (h : BF s A n c hs A2 n2 l w W) (hb : Below W.heap.size W V) : BF s A n c hs A2 n2 l w V :=
  ⟨h.below.trans (hb.mono (Nat.le_of_lt h.lt)), Nat.lt_of_lt_of_le h.lt hb.size, (hb.cell (p := ⟨w.heap.size, 0, none⟩) h.lt).trans h.c0, (hb.cell (p := ⟨w.heap.size, 1, none⟩) h.lt).trans h.c1, h.hints.up hb hb.size, (h.reads.below hb).more hb.size⟩
theorem BF.new (hh : HintsAt w w.heap.size A n hs) (hr : Reads w w.heap.size 1 A2 n2 (l.map (Value.int .u8))) : BF s A n c hs A2 n2 l w (w.alloc (.cells #[.int .i64 s, .slice A n c] 24)) :=
  have hb : Below w.heap.size w (w.alloc (.cells #[.int .i64 s, .slice A n c] 24)) := (Below.refl _ _).alloc (Nat.le_refl _) _
  ⟨hb, by simp, by simp, by simp, hh.up hb hb.size, (hr.below hb).more hb.size⟩
end
/-- Behind the first half: the second one. -/
def Half (s : Int) (A : Option Addr) (n c : Nat) (hs : List HD) (A2 : Option Addr) (n2 : Nat) (l : List Int) (w W : World) : Prop := BF s A n c hs A2 n2 l w W
set_option maxRecDepth 100000 in
set_option maxHeartbeats 2000000 in
theorem back_walk (s : Int) (A : Option Addr) (n c : Nat) (hs : List HD) (A2 : Option Addr) (n2 c2 : Nat) (l : List Int) (w : World) (hh : HintsAt w w.heap.size A n hs) (hc : n ≤ c) (hm : n < 9223372036854775808)
    (hr : Reads w w.heap.size 1 A2 n2 (l.map (Value.int .u8))) (hb : IsBytes l) (hc2 : n2 ≤ c2) :
    Calls Try.prog 6 #[.agg #[.int .i64 s, .slice A n c], .slice A2 n2 c2] w fun e w' => e = .returned (.bool true) ∧ Below w.heap.size w w' := by
  have hl : l.length = n2 := by have := hr.1; simpa using this
  have HL := hide hl
  have HB := hide hb
  have HF := hide (BF.new (s := s) (c := c) hh hr)
  have HW := hide hh.2.1
  have HN := hide hh.1
  clear hl hr hb hh
  go_enter Try.func6, Try.ntmps6
  go_wp2_with fail
  refine (great_any s A n c _ hm).mono ?_
  rintro e w1 ⟨rfl, hb⟩
  replace HF := hide (HF.out.step hb)
  clear hb
  cases hg : decide (100 < n)
  · have HG := hide hg
    clear hg
    by_cases h2 : 2000 < n2
    · have h2d : decide ((2000 : Int) < (n2 : Int)) = true := by simp; omega
      go_wp2_with fail
      refine (wakes_any _).mono ?_
      rintro e w5 ⟨rfl, hb⟩
      replace HF := hide (HF.out.step hb)
      clear hb
      go_wp2
      go_ret
      exact ⟨rfl, HF.out.below⟩
    · have h2d : decide ((2000 : Int) < (n2 : Int)) = false := by simp; omega
      have h2' : n2 ≤ 2000 := by omega
      have hn100 : n ≤ 100 := by have := HG.out; simp at this; omega
      clear h2
      have d0 := HF.out.c0
      have d1 := HF.out.c1
      cases hck : chkB s hs
      case' false =>
        have HCK := hide hck
        clear hck
        go_wp2_with fail
        refine (bytes_no s A n c hs _ HF.out.hints hc hm HCK.out).mono ?_
        rintro e w3 ⟨rfl, hb⟩
        replace HF := hide (HF.out.step hb)
        clear hb d0 d1
      case' true =>
        have HCK := hide hck
        clear hck
        go_wp2_with fail
        refine (bytes_ok s A n c hs _ HF.out.hints hc hm HCK.out).mono ?_
        rintro e w3 ⟨B1, e1, he1, rfl, hr1, hb⟩
        replace HF := hide (HF.out.step hb)
        have HR1 := hide hr1
        clear hb d0 d1 hr1
        go_wp2_with fail
        have hlen : (hsB s hs).length = 3 + 25 * n := by rw [hsB_len HW.out, HN.out]
        refine (read_any (hsB s hs) B1 (3 + 25 * n) e1 _ hlen HR1.out (hsB_bytes _ _) he1 (by omega)).mono ?_
        rintro e w4 hg
        obtain ⟨A4, n4, c4, hc4, hn4, rfl, hh4, hb⟩ := gives_ex hg
        replace HF := hide (HF.out.step hb)
        have HR := rd_hsB HCK.out HW.out
        have eE : rdE (hsB s hs) = 0 := by unfold rdE; rw [HR.2.2]; rfl
        have eS : rdSo (hsB s hs) = s := by unfold rdSo; rw [HR.2.2]; exact HR.1
        have eL : rdLo (hsB s hs) = hs := by unfold rdLo; rw [HR.2.2]; exact HR.2.1
        rw [eE, eS]
        rw [eL] at hh4
        have HH4 := hide hh4
        clear hb hg hh4 HR eE eS eL hlen
        have d0 := HF.out.c0
        have d1 := HF.out.c1
        have hlt := HF.out.lt
        go_wp2_with fail
        have hb4 : Below w4.heap.size w4 (w4.alloc (.cells #[.int .i64 s, .slice A4 n4 c4] 24)) := (Below.refl _ _).alloc (Nat.le_refl _) _
        replace HF := hide (HF.out.step hb4)
        refine (same_any s s A4 A n4 c4 n c _ _ _ (HH4.out.up hb4 hb4.size) HF.out.hints hc4 hc (by omega) hm).mono ?_
        rintro e w5 ⟨rfl, hb5⟩
        rw [sameB_refl s HW.out]
        replace HF := hide (HF.out.step hb5)
        clear hb4 hb5 d0 d1 HH4 hlt
        have d0 := HF.out.c0
        have d1 := HF.out.c1
        go_wp2_with fail
        refine (check_any s A n c hs _ HF.out.hints hc hm).mono ?_
        rintro e w6 ⟨rfl, hb6⟩
        rw [HCK.out, show errC true = 0 from rfl]
        replace HF := hide (HF.out.step hb6)
        clear hb6 d0 d1
        have d1 := HF.out.c1
        have bl : (((3 + 25 * n : Nat) : Int) != 3 + 25 * (n : Int)) = false := by simp
        have bl' : ((3 + 25 * (n : Int)) != 3 + 25 * (n : Int)) = false := by simp
      all_goals
        go_wp2_with fail
        refine (read_any l A2 n2 c2 _ HL.out HF.out.reads HB.out hc2 (by omega)).mono ?_
        rintro e w7 hg
        obtain ⟨A7, n7, c7, hc7, hn7, rfl, hh7, hb⟩ := gives_ex hg
        replace HF := hide (HF.out.step hb)
        have HH7 := hide hh7
        clear hb hg hh7
        cases hgd : rdGood l
        · have HGD := hide hgd
          clear hgd
          rw [show rdE l = 30 by unfold rdE; rw [HGD.out]; rfl]
          obtain ⟨so, hso⟩ : ∃ s, rdSo l = s := ⟨_, rfl⟩
          rw [hso]
          clear hso
          go_wp2_with fail
          have hba : Below w7.heap.size w7 (w7.alloc (.cells #[.int .i64 so, .slice A7 n7 c7] 24)) := (Below.refl _ _).alloc (Nat.le_refl _) _
          replace HF := hide (HF.out.step hba)
          clear hba
          refine (wakes_any _).mono ?_
          rintro e w9 ⟨rfl, hb⟩
          replace HF := hide (HF.out.step hb)
          clear hb
          go_wp2
          go_ret
          exact ⟨rfl, HF.out.below⟩
        · have HGD := hide hgd
          clear hgd
          rw [show rdE l = 0 by unfold rdE; rw [HGD.out]; rfl]
          have hso : rdSo l = rdS l := by unfold rdSo; rw [HGD.out]; rfl
          have hlo : rdLo l = rdL l := by unfold rdLo; rw [HGD.out]; rfl
          have hck : chkB (rdS l) (rdL l) = true := by have := HGD.out; unfold rdGood at this; exact (Bool.and_eq_true _ _ ▸ this).2
          have hbk := hsB_rd HB.out HGD.out
          rw [hso]
          rw [hlo] at HH7
          generalize rdS l = so at *
          generalize rdL l = lo at *
          have HK7 := hide hck
          have HBK := hide hbk
          clear hso hlo hck hbk
          go_wp2_with fail
          have hba : Below w7.heap.size w7 (w7.alloc (.cells #[.int .i64 so, .slice A7 n7 c7] 24)) := (Below.refl _ _).alloc (Nat.le_refl _) _
          replace HF := hide (HF.out.step hba)
          refine (bytes_ok so A7 n7 c7 lo _ (HH7.out.up hba hba.size) hc7 (by omega) HK7.out).mono ?_
          rintro e w8 ⟨B8, e8, he8, rfl, hr8, hb⟩
          replace HF := hide (HF.out.step hb)
          rw [HBK.out] at hr8
          obtain ⟨z1, hz1, cz1⟩ := conv_name w8 38 9 5 Try.underlying38 Try.underlying5 Try.underlying9 hr8 (c := e8)
          obtain ⟨z2, hz2, cz2⟩ := conv_name w8 38 9 5 Try.underlying38 Try.underlying5 Try.underlying9 HF.out.reads (c := c2)
          obtain rfl : z1 = z2 := by rw [hz1.out, hz2.out]
          clear hba hb hr8 hz1 hz2
          go_wp2_with fail
          refine (wakes_any _).mono ?_
          rintro e w9 ⟨rfl, hb⟩
          replace HF := hide (HF.out.step hb)
          clear hb cz1 cz2
          go_wp2
          go_ret
          exact ⟨rfl, HF.out.below⟩
  · go_wp2_with fail
    refine (wakes_any _).mono ?_
    rintro e w5 ⟨rfl, hb⟩
    replace HF := hide (HF.out.step hb)
    clear hb
    go_wp2
    go_ret
    exact ⟨rfl, HF.out.below⟩
end Go.Proofs.Ytmnokkomhgpmmaa
