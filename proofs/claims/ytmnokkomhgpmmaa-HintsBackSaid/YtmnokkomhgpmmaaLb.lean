/-
  The walk of HintsBlock: it answers true. Conditions: those written in each statement.
-/
import Derived.Test.YtmnokkomhgpmmaaLa
namespace Go.Proofs.Ytmnokkomhgpmmaa
open Go.RowKit
set_option linter.unusedVariables false
set_option linter.unusedSimpArgs false
def LRel (s : Int) (hs : List HD) (W : World) (A : Option Addr) (n c m : Nat) (i : Value) (wr : World) : Prop :=
  ∃ k : Nat, k ≤ m ∧ i = .int .i64 k ∧ HintsAt wr W.heap.size A n hs ∧ wr.cell? ⟨W.heap.size, 0, none⟩ = some (.int .i64 s) ∧ wr.cell? ⟨W.heap.size, 1, none⟩ = some (.slice A n c) ∧ Below W.heap.size W wr ∧ W.heap.size < wr.heap.size
theorem first_none_inv {hs : List HD} {a : Int} (h : firstAt hs a < 0) {k : Nat} {x : HD} (hx : hs[k]? = some x) : ¬ x.at_ = a := by
  intro hxa
  by_cases hex : ∃ j : Nat, ∃ y, hs[j]? = some y ∧ y.at_ = a ∧ ∀ i z, i < j → hs[i]? = some z → ¬ z.at_ = a
  · obtain ⟨j, y, h1, h2, h3⟩ := hex
    rw [first_some h1 h2 h3] at h
    omega
  · have : ∀ m : Nat, ∀ i z, i < m → hs[i]? = some z → ¬ z.at_ = a := by
      intro m
      induction m with
      | zero => intro i z hi; omega
      | succ m ih =>
        intro i z hi hz hza
        rcases Nat.lt_or_ge i m with h1 | h1
        · exact ih i z h1 hz hza
        · obtain rfl : i = m := by omega
          exact hex ⟨i, z, hz, hza, ih⟩
    exact this (k + 1) k x (by omega) hx hxa
theorem first_inv {hs : List HD} {a : Int} {k : Nat} (h : firstAt hs a = (k : Int)) : (∃ x, hs[k]? = some x ∧ x.at_ = a) ∧ ∀ i z, i < k → hs[i]? = some z → ¬ z.at_ = a := by
  by_cases hex : ∃ j : Nat, ∃ y, hs[j]? = some y ∧ y.at_ = a ∧ ∀ i z, i < j → hs[i]? = some z → ¬ z.at_ = a
  · obtain ⟨j, y, h1, h2, h3⟩ := hex
    rw [first_some h1 h2 h3] at h
    obtain rfl : j = k := by omega
    exact ⟨⟨y, h1, h2⟩, h3⟩
  · have : ∀ m : Nat, ∀ i z, i < m → hs[i]? = some z → ¬ z.at_ = a := by
      intro m
      induction m with
      | zero => intro i z hi; omega
      | succ m ih =>
        intro i z hi hz hza
        rcases Nat.lt_or_ge i m with h1 | h1
        · exact ih i z h1 hz hza
        · obtain rfl : i = m := by omega
          exact hex ⟨i, z, hz, hza, ih⟩
    rw [first_none rfl (fun j x hj hx => this (j + 1) j x (by omega) hx)] at h
    omega
set_option maxRecDepth 100000 in
set_option maxHeartbeats 2000000 in
theorem hblock_no (s a : Int) (A : Option Addr) (n c : Nat) (hs : List HD) (w : World) (hh : HintsAt w w.heap.size A n hs) (hc : n ≤ c) (hm : n < 9223372036854775808) (hg : ¬ 100 < n) (hno : blkO hs s a = false) :
    Calls Try.prog 3 #[.agg #[.int .i64 s, .slice A n c], .int .i64 a] w fun e w' => e = .returned (.bool true) ∧ Below w.heap.size w w' := by
  have HH := hide hh
  have HN := hide hno
  clear hh hno
  obtain ⟨iH, hiH, hzH, hsH, _⟩ := info_parts infH
  have IH := hide (And.intro hiH (And.intro hzH hsH))
  clear hiH hzH hsH
  have hgd : decide (100 < n) = false := by simpa using hg
  go_enter Try.func3, Try.ntmps3
  go_wp2_with fail
  have hb0 : Below w.heap.size w (w.alloc (.cells #[.int .i64 s, .slice A n c] 24)) := (Below.refl _ _).alloc (Nat.le_refl _) _
  refine (great_any s A n c _ hm).mono ?_
  rintro e w1 ⟨rfl, hb1⟩
  rw [hgd]
  have c0 : w1.cell? ⟨w.heap.size, 0, none⟩ = some (.int .i64 s) := by rw [hb1.cell (by simp)]; simp
  have c1 : w1.cell? ⟨w.heap.size, 1, none⟩ = some (.slice A n c) := by rw [hb1.cell (by simp)]; simp
  have HB1 := hide (hb0.trans (hb1.mono hb0.size))
  have hlt1 : w.heap.size < w1.heap.size := World.block_lt_of_cell? w1 ⟨w.heap.size, 0, none⟩ c0
  clear hb0 hb1 hgd
  go_wp2_with fail
  refine (block_any s a A n c hs _ (HH.out.up HB1.out HB1.out.size) hc hm).mono ?_
  rintro e w2 ⟨rfl, hb2⟩
  rw [HN.out]
  have d0 : w2.cell? ⟨w.heap.size, 0, none⟩ = some (.int .i64 s) := (hb2.cell (p := ⟨w.heap.size, 0, none⟩) hlt1).trans c0
  have d1 : w2.cell? ⟨w.heap.size, 1, none⟩ = some (.slice A n c) := (hb2.cell (p := ⟨w.heap.size, 1, none⟩) hlt1).trans c1
  have HB2 := hide (HB1.out.trans (hb2.mono HB1.out.size))
  have hlt2 : w.heap.size < w2.heap.size := Nat.lt_of_lt_of_le hlt1 hb2.size
  clear hb2 c0 c1 hlt1 HB1
  generalize blkC hs s a = bc
  go_wp2_with fail
  go_loopw [25] (fun i wr => LRel s hs w A n c n i wr) (fun i _ => n - (intOf i).toNat)
  case atStart => exact ⟨0, by omega, rfl, HH.out.below HB2.out, d0, d1, HB2.out, hlt2⟩
  case round =>
    obtain ⟨k, hk, rfl, hat, e0, e1, hbel, hlt⟩ := hrel
    have HBr := hide hbel
    clear hbel d0 d1 hlt2 HB2
    by_cases hkn : k < n
    · obtain ⟨ad, x, rfl, hab, hx, hxw, hcell⟩ := hat.at_ hkn
      have HX := hide hx
      have HAT := hide hat
      have HC := hide hcell
      have HW := hide hxw
      clear hx hat hcell hxw
      by_cases hxa : x.at_ = a
      · have hb : (x.at_ == a) = true := by simpa using hxa
        have hck : chkB s hs = false := by
          have h1 := HN.out
          unfold blkO at h1
          cases hq : chkB s hs with
          | false => rfl
          | true =>
            rw [hq] at h1
            simp at h1
            exact absurd hxa (first_none_inv h1 HX.out)
        have HCK := hide hck
        clear hck hxa
        go_wp2_with (first
          | (refine wpList_load_at rfl 34 (.tmp 27) rfl (ad.add (k * 23)) rfl x.cells _ HC.out Try.underlying34 rfl (by rw [HD.cells_len HW.out, IH.out.1]; simp [IH.out.2.2]) ?_)
          | (refine wpList_new rfl rfl 34 (.tmp 8) (.tmp 28) rfl rfl iH _ (.agg x.cells.toArray) x.cells.toArray IH.out.1 IH.out.2.1 (by rw [IH.out.2.2]; rfl) rfl (by rw [IH.out.2.2]; simpa using HD.cells_len HW.out) (HD.one x) (by rfl) (by rfl) ?_
             intro w3 g3 G3 X3 L3
             have q3 : w3.cell? ⟨g3, 0, none⟩ = some (.int .i64 x.at_) := by simpa [HD.cells] using X3.cell 0
             have f0 : w3.cell? ⟨w.heap.size, 0, none⟩ = some (.int .i64 s) := (L3.cell (p := ⟨w.heap.size, 0, none⟩) hlt).trans e0
             have f1 : w3.cell? ⟨w.heap.size, 1, none⟩ = some (.slice (some ad) n c) := (L3.cell (p := ⟨w.heap.size, 1, none⟩) hlt).trans e1
             have HB3 := hide (HBr.out.trans (L3.mono (Nat.le_of_lt hlt)))
             have hlt3 := Nat.lt_of_lt_of_le hlt L3.size
             clear X3 L3)
          | (go_at_call 10
             refine (check_any s (some ad) n c hs _ (HH.out.up HB3.out (Nat.le_of_lt hlt3)) hc hm).mono ?_
             rintro e w4 ⟨rfl, hb4⟩
             rw [HCK.out, show errC false = 250 from rfl]
             have g0 : w4.cell? ⟨w.heap.size, 0, none⟩ = some (.int .i64 s) := (hb4.cell (p := ⟨w.heap.size, 0, none⟩) hlt3).trans f0
             have g1 : w4.cell? ⟨w.heap.size, 1, none⟩ = some (.slice (some ad) n c) := (hb4.cell (p := ⟨w.heap.size, 1, none⟩) hlt3).trans f1
             have HB4 := hide (HB3.out.trans (hb4.mono (Nat.le_of_lt hlt3)))
             have hlt4 := Nat.lt_of_lt_of_le hlt3 hb4.size
             clear hb4 f0 f1 q3))
        go_roundw
        case measure => simp [intOf]; omega
        case rel => exact ⟨k + 1, by omega, by go_num, HH.out.below HB4.out, g0, g1, HB4.out, hlt4⟩
      · have hb : (x.at_ == a) = false := by simpa using hxa
        clear hxa
        go_wp2_with (first
          | (refine wpList_load_at rfl 34 (.tmp 27) rfl (ad.add (k * 23)) rfl x.cells _ HC.out Try.underlying34 rfl (by rw [HD.cells_len HW.out, IH.out.1]; simp [IH.out.2.2]) ?_)
          | (refine wpList_new rfl rfl 34 (.tmp 8) (.tmp 28) rfl rfl iH _ (.agg x.cells.toArray) x.cells.toArray IH.out.1 IH.out.2.1 (by rw [IH.out.2.2]; rfl) rfl (by rw [IH.out.2.2]; simpa using HD.cells_len HW.out) (HD.one x) (by rfl) (by rfl) ?_
             intro w3 g3 G3 X3 L3
             have q3 : w3.cell? ⟨g3, 0, none⟩ = some (.int .i64 x.at_) := by simpa [HD.cells] using X3.cell 0
             have f0 : w3.cell? ⟨w.heap.size, 0, none⟩ = some (.int .i64 s) := (L3.cell (p := ⟨w.heap.size, 0, none⟩) hlt).trans e0
             have f1 : w3.cell? ⟨w.heap.size, 1, none⟩ = some (.slice (some ad) n c) := (L3.cell (p := ⟨w.heap.size, 1, none⟩) hlt).trans e1
             have HB3 := hide (HBr.out.trans (L3.mono (Nat.le_of_lt hlt)))
             have hlt3 := Nat.lt_of_lt_of_le hlt L3.size
             clear X3 L3))
        go_roundw
        case measure => simp [intOf]; omega
        case rel => exact ⟨k + 1, by omega, by go_num, HH.out.below HB3.out, f0, f1, HB3.out, hlt3⟩
    · obtain rfl : k = n := by omega
      clear hk hkn
      go_wp2_with fail
      refine (wakes_any _).mono ?_
      rintro e w5 ⟨rfl, hb5⟩
      go_wp2
      go_ret
      exact ⟨rfl, HBr.out.trans (hb5.mono (Nat.le_of_lt hlt))⟩
set_option maxRecDepth 100000 in
set_option maxHeartbeats 2000000 in
theorem hblock_yes (s a : Int) (A : Option Addr) (n c : Nat) (hs : List HD) (w : World) (hh : HintsAt w w.heap.size A n hs) (hc : n ≤ c) (hm : n < 9223372036854775808) (hg : ¬ 100 < n) (hck : chkB s hs = true) (k0 : Nat) (hF : firstAt hs a = (k0 : Int)) :
    Calls Try.prog 3 #[.agg #[.int .i64 s, .slice A n c], .int .i64 a] w fun e w' => e = .returned (.bool true) ∧ Below w.heap.size w w' := by
  obtain ⟨⟨y, hy, hya⟩, hbefore⟩ := first_inv hF
  have hkn : k0 < n := by have := (List.getElem?_eq_some_iff.1 hy).1; have := hh.1; omega
  have HH := hide hh
  have HCK := hide hck
  have HF := hide hF
  have HY := hide hy
  have HYA := hide hya
  have HBF := hide hbefore
  clear hh hck hF hy hya hbefore
  obtain ⟨iH, hiH, hzH, hsH, _⟩ := info_parts infH
  have IH := hide (And.intro hiH (And.intro hzH hsH))
  clear hiH hzH hsH
  have hgd : decide (100 < n) = false := by simpa using hg
  obtain ⟨ad, y', hA, hab, hy', hyw, _⟩ := HH.out.at_ hkn
  subst hA
  go_enter Try.func3, Try.ntmps3
  go_wp2_with fail
  have hb0 : Below w.heap.size w (w.alloc (.cells #[.int .i64 s, .slice (some ad) n c] 24)) := (Below.refl _ _).alloc (Nat.le_refl _) _
  refine (great_any s (some ad) n c _ hm).mono ?_
  rintro e w1 ⟨rfl, hb1⟩
  rw [hgd]
  have c0 : w1.cell? ⟨w.heap.size, 0, none⟩ = some (.int .i64 s) := by rw [hb1.cell (by simp)]; simp
  have c1 : w1.cell? ⟨w.heap.size, 1, none⟩ = some (.slice (some ad) n c) := by rw [hb1.cell (by simp)]; simp
  have HB1 := hide (hb0.trans (hb1.mono hb0.size))
  have hlt1 : w.heap.size < w1.heap.size := World.block_lt_of_cell? w1 ⟨w.heap.size, 0, none⟩ c0
  clear hb0 hb1 hgd hy' hyw
  go_wp2_with fail
  refine (block_any s a (some ad) n c hs _ (HH.out.up HB1.out HB1.out.size) hc hm).mono ?_
  rintro e w2 ⟨rfl, hb2⟩
  rw [show blkC hs s a = (k0 : Int) by simp [blkC, HCK.out, HF.out], show blkO hs s a = true by simp [blkO, HCK.out, HF.out]]
  have d0 : w2.cell? ⟨w.heap.size, 0, none⟩ = some (.int .i64 s) := (hb2.cell (p := ⟨w.heap.size, 0, none⟩) hlt1).trans c0
  have d1 : w2.cell? ⟨w.heap.size, 1, none⟩ = some (.slice (some ad) n c) := (hb2.cell (p := ⟨w.heap.size, 1, none⟩) hlt1).trans c1
  have HB2 := hide (HB1.out.trans (hb2.mono HB1.out.size))
  have hlt2 : w.heap.size < w2.heap.size := Nat.lt_of_lt_of_le hlt1 hb2.size
  clear hb2 c0 c1 hlt1 HB1
  have hv : w2.cell? (ad.add (k0 * 23)) = some (.int .i64 a) := by
    obtain ⟨ad2, x2, hA2, _, hx2, _, hc2⟩ := (HH.out.below HB2.out).at_ hkn
    obtain rfl : ad = ad2 := by injection hA2
    have h1 := hc2 0 _ rfl
    have h2 := HY.out
    rw [hx2] at h2
    obtain rfl := Option.some.inj h2
    rw [← HYA.out]
    simpa [add_of_add] using h1
  have bk0 : decide ((k0 : Int) < 0) = false := by simp
  have bk1 : decide (n ≤ k0) = false := by simp; omega
  have bk2 : (a != a) = false := by simp
  go_wp2_with fail
  go_loopw [64] (fun i wr => LRel s hs w (some ad) n c k0 i wr) (fun i _ => k0 - (intOf i).toNat)
  case atStart => exact ⟨0, by omega, rfl, HH.out.below HB2.out, d0, d1, HB2.out, hlt2⟩
  case round =>
    obtain ⟨k, hk, rfl, hat, e0, e1, hbel, hlt⟩ := hrel
    have HBr := hide hbel
    clear hbel d0 d1 hlt2 HB2 hv
    by_cases hkk : k < k0
    · obtain ⟨ad2, x, hA2, _, hx, hxw, hcell⟩ := hat.at_ (show k < n by omega)
      obtain rfl : ad = ad2 := by injection hA2
      have hxa : ¬ x.at_ = a := HBF.out k x hkk hx
      have HC := hide hcell
      have HW := hide hxw
      have hb : (x.at_ == a) = false := by simpa using hxa
      clear hx hat hcell hxw hxa hA2
      go_wp2_with (first
        | (refine wpList_load_at rfl 34 (.tmp 66) rfl (ad.add (k * 23)) rfl x.cells _ HC.out Try.underlying34 rfl (by rw [HD.cells_len HW.out, IH.out.1]; simp [IH.out.2.2]) ?_)
        | (refine wpList_new rfl rfl 34 (.tmp 10) (.tmp 67) rfl rfl iH _ (.agg x.cells.toArray) x.cells.toArray IH.out.1 IH.out.2.1 (by rw [IH.out.2.2]; rfl) rfl (by rw [IH.out.2.2]; simpa using HD.cells_len HW.out) (HD.one x) (by rfl) (by rfl) ?_
           intro w3 g3 G3 X3 L3
           have q3 : w3.cell? ⟨g3, 0, none⟩ = some (.int .i64 x.at_) := by simpa [HD.cells] using X3.cell 0
           have f0 : w3.cell? ⟨w.heap.size, 0, none⟩ = some (.int .i64 s) := (L3.cell (p := ⟨w.heap.size, 0, none⟩) hlt).trans e0
           have f1 : w3.cell? ⟨w.heap.size, 1, none⟩ = some (.slice (some ad) n c) := (L3.cell (p := ⟨w.heap.size, 1, none⟩) hlt).trans e1
           have HB3 := hide (HBr.out.trans (L3.mono (Nat.le_of_lt hlt)))
           have hlt3 := Nat.lt_of_lt_of_le hlt L3.size
           clear X3 L3))
      go_roundw
      case measure => simp [intOf]; omega
      case rel => exact ⟨k + 1, by omega, by go_num, HH.out.below HB3.out, f0, f1, HB3.out, hlt3⟩
    · obtain rfl : k = k0 := by omega
      clear hk hkk hat
      go_wp2_with fail
      refine (check_any s (some ad) n c hs _ (HH.out.up HBr.out (Nat.le_of_lt hlt)) hc hm).mono ?_
      rintro e w4 ⟨rfl, hb4⟩
      rw [HCK.out, show errC true = 0 from rfl]
      have HB4 := hide (HBr.out.trans (hb4.mono (Nat.le_of_lt hlt)))
      clear hb4
      go_wp2_with fail
      refine (wakes_any _).mono ?_
      rintro e w5 ⟨rfl, hb5⟩
      have HB5 := hide (HB4.out.trans (hb5.mono HB4.out.size))
      clear hb5
      go_wp2
      go_ret
      exact ⟨rfl, HB5.out⟩
set_option maxHeartbeats 400000 in
theorem hblock_great (s a : Int) (A : Option Addr) (n c : Nat) (w : World) (hm : n < 9223372036854775808) (hg : 100 < n) :
    Calls Try.prog 3 #[.agg #[.int .i64 s, .slice A n c], .int .i64 a] w fun e w' => e = .returned (.bool true) ∧ Below w.heap.size w w' := by
  have hgd : decide (100 < n) = true := by simpa using hg
  go_enter Try.func3, Try.ntmps3
  go_wp2_with fail
  have hb0 : Below w.heap.size w (w.alloc (.cells #[.int .i64 s, .slice A n c] 24)) := (Below.refl _ _).alloc (Nat.le_refl _) _
  refine (great_any s A n c _ hm).mono ?_
  rintro e w1 ⟨rfl, hb1⟩
  rw [hgd]
  have HB1 := hide (hb0.trans (hb1.mono hb0.size))
  clear hb0 hb1 hgd
  go_wp2_with fail
  refine (wakes_any _).mono ?_
  rintro e w5 ⟨rfl, hb5⟩
  have HB5 := hide (HB1.out.trans (hb5.mono HB1.out.size))
  clear hb5
  go_wp2
  go_ret
  exact ⟨rfl, HB5.out⟩
theorem hblock_walk (s : Int) (A : Option Addr) (n c : Nat) (hs : List HD) (a : Int) (w : World) (hh : HintsAt w w.heap.size A n hs) (hc : n ≤ c) (hm : n < 9223372036854775808) :
    Calls Try.prog 3 #[.agg #[.int .i64 s, .slice A n c], .int .i64 a] w fun e w' => e = .returned (.bool true) ∧ Below w.heap.size w w' := by
  by_cases hg : 100 < n
  · exact hblock_great s a A n c w hm hg
  · cases ho : blkO hs s a with
    | false => exact hblock_no s a A n c hs w hh hc hm hg ho
    | true =>
      have h1 := ho
      unfold blkO at h1
      simp only [Bool.and_eq_true, decide_eq_true_eq] at h1
      obtain ⟨k0, hk0⟩ := Int.eq_ofNat_of_zero_le h1.2
      exact hblock_yes s a A n c hs w hh hc hm hg h1.1 k0 hk0
end Go.Proofs.Ytmnokkomhgpmmaa
