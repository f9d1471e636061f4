/-
  The walk of HintsTell: it answers true. Conditions: those written in each statement.
-/
import Derived.Test.YtmnokkomhgpmmaaWf
import Derived.Test.YtmnokkomhgpmmaaWh
import Derived.Test.YtmnokkomhgpmmaaWi
import Derived.Deep.RegionHeld3
namespace Go.Proofs.Ytmnokkomhgpmmaa
open Go.RowKit
set_option linter.unusedVariables false
set_option linter.unusedSimpArgs false
def hsBo (s : Int) (hs : List HD) : List Int := if chkB s hs then hsB s hs else []
theorem bytes_any (s : Int) (A : Option Addr) (n c : Nat) (hs : List HD) (w : World) (hh : HintsAt w w.heap.size A n hs) (hc : n ≤ c) (hm : n < 9223372036854775808) :
    Calls Try.prog 11 #[.agg #[.int .i64 s, .slice A n c]] w fun e w' => ∃ A1 m c1, e = .returned (.tuple #[.slice A1 m c1, .int .i64 (errC (chkB s hs))]) ∧ Reads w' w'.heap.size 1 A1 m ((hsBo s hs).map (Value.int .u8)) ∧ Below w.heap.size w w' := by
  cases hck : chkB s hs
  · refine (bytes_no s A n c hs w hh hc hm hck).mono ?_
    rintro e w' ⟨rfl, hb⟩
    exact ⟨none, 0, 0, rfl, by simpa [hsBo, hck] using Reads.none_, hb⟩
  · refine (bytes_yes s A n c hs w hh hc hm hck).mono ?_
    rintro e w' ⟨sv, rfl, hown, hb⟩
    obtain ⟨A1, c1, rfl, _, hr⟩ := own_slice hown (by omega)
    exact ⟨A1, _, c1, rfl, by simpa [hsBo, hck] using hr, hb⟩
theorem rbytes_any (s : Int) (A : Option Addr) (n c : Nat) (hs : List HD) (w : World) (hh : HintsAt w w.heap.size A n hs) (hc : n ≤ c) (hm : n < 9223372036854775808) :
    Calls Try.prog 12 #[.agg #[.int .i64 s, .slice A n c]] w fun e w' => ∃ A1 m c1, e = .returned (.tuple #[.slice A1 m c1, .int .i64 (errC (chkB s hs))]) ∧ Reads w' w'.heap.size 1 A1 m ((hsBo s hs).map (Value.int .u8)) ∧ Below w.heap.size w w' := by
  cases hck : chkB s hs
  · have HH := hide hh
    have HCK := hide hck
    clear hh hck
    go_enter Try.func12, Try.ntmps12
    go_wp2_with fail
    have hb0 : Below w.heap.size w (w.alloc (.cells #[.int .i64 s, .slice A n c] 24)) := (Below.refl _ _).alloc (Nat.le_refl _) _
    refine (rcheck_any s A n c hs _ (HH.out.up hb0 hb0.size) hc hm).mono ?_
    rintro e w1 ⟨rfl, hb1⟩
    rw [HCK.out]
    rw [show errC false = 250 from rfl]
    have HB1 := hide (hb0.trans (hb1.mono hb0.size))
    clear hb0 hb1
    go_wp2
    go_ret2
    exact ⟨none, 0, 0, rfl, by simpa [hsBo, HCK.out] using Reads.none_, HB1.out⟩
  · refine (rbytes_yes rcheck_any s A n c hs w hh hc hm hck).mono ?_
    rintro e w' ⟨sv, rfl, hown, hb⟩
    obtain ⟨A1, c1, rfl, _, hr⟩ := own_slice hown (by omega)
    exact ⟨A1, _, c1, rfl, by simpa [hsBo, hck] using hr, hb⟩
/-- The two boxes of the law lie in a world. -/
structure TF (s : Int) (A : Option Addr) (n c : Nat) (t : Int) (A2 : Option Addr) (n2 c2 : Nat) (w W : World) : Prop where
  below : Below w.heap.size w W
  lt : w.heap.size + 1 < W.heap.size
  c0 : W.cell? ⟨w.heap.size, 0, none⟩ = some (.int .i64 s)
  c1 : W.cell? ⟨w.heap.size, 1, none⟩ = some (.slice A n c)
  d0 : W.cell? ⟨w.heap.size + 1, 0, none⟩ = some (.int .i64 t)
  d1 : W.cell? ⟨w.heap.size + 1, 1, none⟩ = some (.slice A2 n2 c2)
section
variable {s t : Int} {A A2 : Option Addr} {n c n2 c2 : Nat} {w W V : World}
theorem TF.step (h : TF s A n c t A2 n2 c2 w W) (hb : Below W.heap.size W V) : TF s A n c t A2 n2 c2 w V := by
  have h1 : w.heap.size < W.heap.size := by have := h.lt; omega
  exact ⟨h.below.trans (hb.mono (Nat.le_of_lt h1)), Nat.lt_of_lt_of_le h.lt hb.size, (hb.cell (p := ⟨w.heap.size, 0, none⟩) h1).trans h.c0, (hb.cell (p := ⟨w.heap.size, 1, none⟩) h1).trans h.c1,
    (hb.cell (p := ⟨w.heap.size + 1, 0, none⟩) h.lt).trans h.d0, (hb.cell (p := ⟨w.heap.size + 1, 1, none⟩) h.lt).trans h.d1⟩
theorem TF.drew (h : TF s A n c t A2 n2 c2 w W) : TF s A n c t A2 n2 c2 w W.drew := ⟨h.below.drew, h.lt, h.c0, h.c1, h.d0, h.d1⟩
theorem TF.new (w : World) : TF s A n c t A2 n2 c2 w ((w.alloc (.cells #[.int .i64 s, .slice A n c] 24)).alloc (.cells #[.int .i64 t, .slice A2 n2 c2] 24)) :=
  ⟨((Below.refl _ _).alloc (Nat.le_refl _) _).alloc (le_alloc _ (Nat.le_refl _)) _, by simp, by simp, by simp, by simp, by simp⟩
theorem TF.hints {hs : List HD} {A' : Option Addr} {n' : Nat} (h : TF s A n c t A2 n2 c2 w W) (hh : HintsAt w w.heap.size A' n' hs) : HintsAt W W.heap.size A' n' hs := hh.up h.below h.below.size
end
theorem same0 : sameB 0 0 [hd0] [hd0] = true := by decide +kernel
set_option maxRecDepth 100000 in
set_option maxHeartbeats 4000000 in
theorem tell_walk (s : Int) (A : Option Addr) (n c : Nat) (hs : List HD) (t : Int) (A2 : Option Addr) (n2 c2 : Nat) (ho : List HD) (a : Int) (w : World) (hh : HintsAt w w.heap.size A n hs) (hc : n ≤ c) (hm : n < 9223372036854775808) (hh2 : HintsAt w w.heap.size A2 n2 ho) (hc2 : n2 ≤ c2) (hm2 : n2 < 9223372036854775808) :
    Calls Try.prog 4 #[.agg #[.int .i64 s, .slice A n c], .agg #[.int .i64 t, .slice A2 n2 c2], .int .i64 a] w fun e w' => e = .returned (.bool true) ∧ Below w.heap.size w w' := by
  have HH := hide hh
  have HH2 := hide hh2
  clear hh hh2
  have HF := hide (TF.new (s := s) (A := A) (n := n) (c := c) (t := t) (A2 := A2) (n2 := n2) (c2 := c2) w)
  go_enter Try.func4, Try.ntmps4
  go_wp2_with fail
  refine (great_any s A n c _ hm).mono ?_
  rintro e w1 ⟨rfl, hb⟩
  replace HF := hide (HF.out.step hb)
  obtain ⟨-, -, -, -, d0, d1⟩ := HF.out
  clear hb
  cases hg : decide (100 < n)
  · have HG := hide hg
    clear hg
    go_wp2_with fail
    refine (great_any t A2 n2 c2 _ hm2).mono ?_
    rintro e w2 ⟨rfl, hb⟩
    replace HF := hide (HF.out.step hb)
    clear hb d0 d1
    obtain ⟨-, -, c0, c1, d0, d1⟩ := HF.out
    cases hg2 : decide (100 < n2)
    · have HG2 := hide hg2
      clear hg2
      go_wp2_with fail
      refine (bytes_any s A n c hs _ (HF.out.hints HH.out) hc hm).mono ?_
      rintro e w3 ⟨B1, m1, e1, rfl, hr1, hb⟩
      replace HF := hide (HF.out.step hb)
      have HR1 := hide hr1
      clear hb c0 c1 d0 d1 hr1
      obtain ⟨-, -, c0, c1, d0, d1⟩ := HF.out
      go_wp2_with fail
      refine (rbytes_any s A n c hs _ (HF.out.hints HH.out) hc hm).mono ?_
      rintro e w4 ⟨B2, m2, e2, rfl, hr2, hb⟩
      replace HF := hide (HF.out.step hb)
      replace HR1 := hide ((HR1.out.below hb).more hb.size)
      have HR2 := hide hr2
      clear hb c0 c1 d0 d1 hr2
      obtain ⟨-, -, c0, c1, d0, d1⟩ := HF.out
      go_wp2_with fail
      refine (block_any s a A n c hs _ (HF.out.hints HH.out) hc hm).mono ?_
      rintro e w5 ⟨rfl, hb⟩
      replace HF := hide (HF.out.step hb)
      replace HR1 := hide ((HR1.out.below hb).more hb.size)
      replace HR2 := hide ((HR2.out.below hb).more hb.size)
      clear hb c0 c1 d0 d1
      obtain ⟨-, -, c0, c1, d0, d1⟩ := HF.out
      go_wp2_with fail
      refine (rblock_any rcheck_any s a A n c hs _ (HF.out.hints HH.out) hc hm).mono ?_
      rintro e w6 ⟨rfl, hb⟩
      replace HF := hide (HF.out.step hb)
      replace HR1 := hide ((HR1.out.below hb).more hb.size)
      replace HR2 := hide ((HR2.out.below hb).more hb.size)
      clear hb c0 c1 d0 d1
      obtain ⟨-, -, c0, c1, d0, d1⟩ := HF.out
      generalize blkC hs s a = k1, blkO hs s a = o1 at *
      generalize her : errC (chkB s hs) = er at *
      have HER := hide her
      clear her
      obtain ⟨z1, hz1⟩ : ∃ z, z = strOfNums (hsBo s hs) := ⟨_, rfl⟩
      have HS1 := hide hz1
      clear hz1
      obtain ⟨bs, hbs⟩ : ∃ b, sameB s t hs ho = b := ⟨_, rfl⟩
      have HBS := hide hbs
      clear hbs
      have hf1 : ∀ W V : World, TF s A n c t A2 n2 c2 w W → V = W ∨ V = W.drew → HintsAt V V.heap.size A n hs := fun W V h hv => by rcases hv with rfl | rfl <;> first | exact h.hints HH.out | exact h.drew.hints HH.out
      have hf2 : ∀ W V : World, TF s A n c t A2 n2 c2 w W → V = W ∨ V = W.drew → HintsAt V V.heap.size A2 n2 ho := fun W V h hv => by rcases hv with rfl | rfl <;> first | exact h.hints HH2.out | exact h.drew.hints HH2.out
      have HF1 := hide hf1
      have HF2 := hide hf2
      clear hf1 hf2
      go_wp2_with fail
      have HT := HF.out
      clear HF
      go_region_held3 (fun w' => w'.cell? ⟨w.heap.size, 0, none⟩ = some (.int .i64 s) ∧ w'.cell? ⟨w.heap.size, 1, none⟩ = some (.slice A n c) ∧ w'.cell? ⟨w.heap.size + 1, 0, none⟩ = some (.int .i64 t) ∧ w'.cell? ⟨w.heap.size + 1, 1, none⟩ = some (.slice A2 n2 c2) ∧
          Sem.run Try.prog (convert 38 9 (.slice B1 m1 e1)) w' = .ok (.string z1) w' ∧ Sem.run Try.prog (convert 38 9 (.slice B2 m2 e2)) w' = .ok (.string z1) w')
        (first
          | exact ⟨HT.c0, HT.c1, HT.d0, HT.d1, by rw [HS1.out]; exact run_convert_reads _ _ _ _ Try.underlying38 Try.underlying5 Try.underlying9 _ _ _ _ _ HR1.out, by rw [HS1.out]; exact run_convert_reads _ _ _ _ Try.underlying38 Try.underlying5 Try.underlying9 _ _ _ _ _ HR2.out⟩
          | exact ⟨HT.c0, HT.c1, HT.d0, HT.d1, by rw [HS1.out]; exact run_convert_reads _ _ _ _ Try.underlying38 Try.underlying5 Try.underlying9 _ _ _ _ _ HR1.out.drew, by rw [HS1.out]; exact run_convert_reads _ _ _ _ Try.underlying38 Try.underlying5 Try.underlying9 _ _ _ _ _ HR2.out.drew⟩)
        (first
          | (go_at_call 10
             refine (check_any s A n c hs _ (HF1.out _ _ HT (by first | exact .inl rfl | exact .inr rfl)) hc hm).mono ?_
             rintro e wx ⟨rfl, hb⟩
             rw [HER.out]
             replace HT : TF s A n c t A2 n2 c2 w wx := (by first | exact HT.step hb | exact HT.drew.step hb)
             replace HR1 : Hid (Reads wx wx.heap.size 1 B1 m1 ((hsBo s hs).map (Value.int .u8))) := hide ((HR1.out.keep fun p hp => hb.cell hp).more hb.size)
             replace HR2 : Hid (Reads wx wx.heap.size 1 B2 m2 ((hsBo s hs).map (Value.int .u8))) := hide ((HR2.out.keep fun p hp => hb.cell hp).more hb.size)
             try replace HP := hide (HP.out.up hb hb.size)
             try replace HQ := hide (HQ.out.up hb hb.size)
             clear hb)
          | (go_at_call 14
             refine (rcheck_any s A n c hs _ (HF1.out _ _ HT (by first | exact .inl rfl | exact .inr rfl)) hc hm).mono ?_
             rintro e wx ⟨rfl, hb⟩
             rw [HER.out]
             replace HT : TF s A n c t A2 n2 c2 w wx := (by first | exact HT.step hb | exact HT.drew.step hb)
             replace HR1 : Hid (Reads wx wx.heap.size 1 B1 m1 ((hsBo s hs).map (Value.int .u8))) := hide ((HR1.out.keep fun p hp => hb.cell hp).more hb.size)
             replace HR2 : Hid (Reads wx wx.heap.size 1 B2 m2 ((hsBo s hs).map (Value.int .u8))) := hide ((HR2.out.keep fun p hp => hb.cell hp).more hb.size)
             try replace HP := hide (HP.out.up hb hb.size)
             try replace HQ := hide (HQ.out.up hb hb.size)
             clear hb)
          | (go_at_call 15
             refine (same_any s t A A2 n c n2 c2 hs ho _ (HF1.out _ _ HT (by first | exact .inl rfl | exact .inr rfl)) (HF2.out _ _ HT (by first | exact .inl rfl | exact .inr rfl)) hc hc2 hm hm2).mono ?_
             rintro e wx ⟨rfl, hb⟩
             rw [HBS.out]
             replace HT : TF s A n c t A2 n2 c2 w wx := (by first | exact HT.step hb | exact HT.drew.step hb)
             replace HR1 : Hid (Reads wx wx.heap.size 1 B1 m1 ((hsBo s hs).map (Value.int .u8))) := hide ((HR1.out.keep fun p hp => hb.cell hp).more hb.size)
             replace HR2 : Hid (Reads wx wx.heap.size 1 B2 m2 ((hsBo s hs).map (Value.int .u8))) := hide ((HR2.out.keep fun p hp => hb.cell hp).more hb.size)
             try replace HP := hide (HP.out.up hb hb.size)
             try replace HQ := hide (HQ.out.up hb hb.size)
             clear hb)
          | (go_at_call_of 16 n2
             refine (rsame_any s t A A2 n c n2 c2 hs ho _ (HF1.out _ _ HT (by first | exact .inl rfl | exact .inr rfl)) (HF2.out _ _ HT (by first | exact .inl rfl | exact .inr rfl)) hc hc2 hm hm2).mono ?_
             rintro e wx ⟨rfl, hb⟩
             rw [HBS.out]
             replace HT : TF s A n c t A2 n2 c2 w wx := (by first | exact HT.step hb | exact HT.drew.step hb)
             replace HR1 : Hid (Reads wx wx.heap.size 1 B1 m1 ((hsBo s hs).map (Value.int .u8))) := hide ((HR1.out.keep fun p hp => hb.cell hp).more hb.size)
             replace HR2 : Hid (Reads wx wx.heap.size 1 B2 m2 ((hsBo s hs).map (Value.int .u8))) := hide ((HR2.out.keep fun p hp => hb.cell hp).more hb.size)
             try replace HP := hide (HP.out.up hb hb.size)
             try replace HQ := hide (HQ.out.up hb hb.size)
             clear hb)
          | (go_at_call 17
             refine (first_any _).mono ?_
             rintro e wx ⟨A3, rfl, hh3, hb⟩
             replace HT : TF s A n c t A2 n2 c2 w wx := (by first | exact HT.step hb | exact HT.drew.step hb)
             replace HR1 : Hid (Reads wx wx.heap.size 1 B1 m1 ((hsBo s hs).map (Value.int .u8))) := hide ((HR1.out.keep fun p hp => hb.cell hp).more hb.size)
             replace HR2 : Hid (Reads wx wx.heap.size 1 B2 m2 ((hsBo s hs).map (Value.int .u8))) := hide ((HR2.out.keep fun p hp => hb.cell hp).more hb.size)
             try replace HP := hide (HP.out.up hb hb.size)
             try replace HQ := hide (HQ.out.up hb hb.size)
             clear hb
             have HP := hide hh3
             clear hh3)
          | (go_at_call 18
             refine (rfirst_any _).mono ?_
             rintro e wx ⟨A4, rfl, hh4, hb⟩
             replace HT : TF s A n c t A2 n2 c2 w wx := (by first | exact HT.step hb | exact HT.drew.step hb)
             replace HR1 : Hid (Reads wx wx.heap.size 1 B1 m1 ((hsBo s hs).map (Value.int .u8))) := hide ((HR1.out.keep fun p hp => hb.cell hp).more hb.size)
             replace HR2 : Hid (Reads wx wx.heap.size 1 B2 m2 ((hsBo s hs).map (Value.int .u8))) := hide ((HR2.out.keep fun p hp => hb.cell hp).more hb.size)
             try replace HP := hide (HP.out.up hb hb.size)
             try replace HQ := hide (HQ.out.up hb hb.size)
             clear hb
             have HQ := hide hh4
             clear hh4)
          | (go_at_call 16
             refine (rsame_any 0 0 A3 A4 1 1 1 1 [hd0] [hd0] _ (by first | exact HP.out | exact HP.out.drew) (by first | exact HQ.out | exact HQ.out.drew) (by omega) (by omega) (by omega) (by omega)).mono ?_
             rintro e wx ⟨rfl, hb⟩
             rw [same0]
             clear HP HQ
             replace HT : TF s A n c t A2 n2 c2 w wx := (by first | exact HT.step hb | exact HT.drew.step hb)
             replace HR1 : Hid (Reads wx wx.heap.size 1 B1 m1 ((hsBo s hs).map (Value.int .u8))) := hide ((HR1.out.keep fun p hp => hb.cell hp).more hb.size)
             replace HR2 : Hid (Reads wx wx.heap.size 1 B2 m2 ((hsBo s hs).map (Value.int .u8))) := hide ((HR2.out.keep fun p hp => hb.cell hp).more hb.size)
             try replace HP := hide (HP.out.up hb hb.size)
             try replace HQ := hide (HQ.out.up hb hb.size)
             clear hb)
          | (go_at_call 8
             refine (wakes_any _).mono ?_
             rintro e wx ⟨rfl, hb⟩
             replace HT : TF s A n c t A2 n2 c2 w wx := (by first | exact HT.step hb | exact HT.drew.step hb)
             replace HR1 : Hid (Reads wx wx.heap.size 1 B1 m1 ((hsBo s hs).map (Value.int .u8))) := hide ((HR1.out.keep fun p hp => hb.cell hp).more hb.size)
             replace HR2 : Hid (Reads wx wx.heap.size 1 B2 m2 ((hsBo s hs).map (Value.int .u8))) := hide ((HR2.out.keep fun p hp => hb.cell hp).more hb.size)
             try replace HP := hide (HP.out.up hb hb.size)
             try replace HQ := hide (HQ.out.up hb hb.size)
             clear hb))
      all_goals
        go_wp2
        go_ret
        exact ⟨rfl, HT.below⟩
    · go_wp2_with fail
      refine (wakes_any _).mono ?_
      rintro e w5 ⟨rfl, hb⟩
      replace HF := hide (HF.out.step hb)
      clear hb c0 c1 d0 d1
      go_wp2
      go_ret
      exact ⟨rfl, HF.out.below⟩
  · go_wp2_with fail
    refine (wakes_any _).mono ?_
    rintro e w5 ⟨rfl, hb⟩
    replace HF := hide (HF.out.step hb)
    clear hb d0 d1
    go_wp2
    go_ret
    exact ⟨rfl, HF.out.below⟩
end Go.Proofs.Ytmnokkomhgpmmaa
