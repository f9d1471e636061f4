/-
  latheref25.Bytes: hints as bytes. Conditions: those written in each statement.
-/
import Derived.Test.YtmnokkomhgpmmaaWg
import Derived.Deep.RegionLaw
namespace Go.Proofs.Ytmnokkomhgpmmaa
open Go.RowKit
set_option linter.unusedVariables false
set_option linter.unusedSimpArgs false
theorem add_pos (a : Addr) (i : Nat) (hi : 0 < i) : a.add i = ⟨a.block, a.off + i, none⟩ := by
  unfold Addr.add
  rw [if_neg (by omega)]
theorem hd_place {w : World} {a : Addr} {j : Nat} {x : HD} {p : Int × Int} (hc : ∀ i u, x.cells[i]? = some u → w.cell? (a.add i) = some u) (h : x.pl[j]? = some p) :
    w.cell? ⟨a.block, a.off + 1 + j * 2, none⟩ = some (.int .i8 p.1) ∧ w.cell? ⟨a.block, a.off + 1 + j * 2 + 1, none⟩ = some (.int .i8 p.2) := by
  have h0 := flat_at (fun p : Int × Int => [Value.int .i8 p.1, .int .i8 p.2]) 2 x.pl (fun x _ => rfl) j 0 p _ h rfl
  have h1 := flat_at (fun p : Int × Int => [Value.int .i8 p.1, .int .i8 p.2]) 2 x.pl (fun x _ => rfl) j 1 p _ h rfl
  have c0 := hc (j * 2 + 0 + 1) _ (by rw [HD.cells, List.getElem?_cons_succ]; exact h0)
  have c1 := hc (j * 2 + 1 + 1) _ (by rw [HD.cells, List.getElem?_cons_succ]; exact h1)
  rw [add_pos _ _ (by omega)] at c0 c1
  rw [show a.off + (j * 2 + 0 + 1) = a.off + 1 + j * 2 by omega] at c0
  rw [show a.off + (j * 2 + 1 + 1) = a.off + 1 + j * 2 + 1 by omega] at c1
  exact ⟨c0, c1⟩
def RCheck : Prop := ∀ (s : Int) (A : Option Addr) (n c : Nat) (hs : List HD) (w : World), HintsAt w w.heap.size A n hs → n ≤ c → n < 9223372036854775808 → Calls Try.prog 14 #[.agg #[.int .i64 s, .slice A n c]] w fun e w' => e = .returned (.int .i64 (errC (chkB s hs))) ∧ Below w.heap.size w w'
def RbRel (s : Int) (hs : List HD) (W : World) (A : Option Addr) (n c : Nat) (sv i : Value) (wr : World) : Prop :=
  ∃ k : Nat, k ≤ n ∧ i = .int .i64 k ∧ wr.ownsRow (W.heap.size + 1) 5 1 sv (3 + 25 * k) ((putB s 2 ++ [(n : Int) % 256] ++ (hs.take k).flatMap hdB).map (Value.int .u8)) ∧ HintsAt wr W.heap.size A n hs ∧ wr.cell? ⟨W.heap.size, 1, none⟩ = some (.slice A n c) ∧ Below W.heap.size W wr ∧ W.heap.size < wr.heap.size
def RiRel (pre : List Int) (l : List (Int × Int)) (hs : List HD) (W : World) (A : Option Addr) (n c m : Nat) (sv i : Value) (wr : World) : Prop :=
  ∃ j : Nat, j ≤ 11 ∧ i = .int .i64 j ∧ wr.ownsRow (W.heap.size + 1) 5 1 sv (m + 2 * j) ((pre ++ plB (l.take j)).map (Value.int .u8)) ∧ HintsAt wr W.heap.size A n hs ∧ wr.cell? ⟨W.heap.size, 1, none⟩ = some (.slice A n c) ∧ Below W.heap.size W wr ∧ W.heap.size < wr.heap.size
set_option maxRecDepth 100000 in
set_option maxHeartbeats 2000000 in
theorem rbytes_yes (rc : RCheck) (s : Int) (A : Option Addr) (n c : Nat) (hs : List HD) (w : World) (hh : HintsAt w w.heap.size A n hs) (hc : n ≤ c) (hm : n < 9223372036854775808) (hck : chkB s hs = true) :
    Calls Try.prog 12 #[.agg #[.int .i64 s, .slice A n c]] w fun e w' => ∃ sv, e = .returned (.tuple #[sv, .int .i64 0]) ∧ w'.ownsRow w.heap.size 5 1 sv (3 + 25 * n) ((hsB s hs).map (Value.int .u8)) ∧ Below w.heap.size w w' := by
  have HH := hide hh
  have HCK := hide hck
  have RC := hide rc
  clear hh hck rc
  have hs0 : 0 ≤ s ∧ s ≤ 88 := by
    have := HCK.out
    unfold chkB at this
    simp only [Bool.and_eq_true, decide_eq_true_eq] at this
    omega
  obtain ⟨hs0, hs1⟩ := hs0
  obtain ⟨i8, hi8, hz8, hs8, hb8⟩ := info_parts inf8
  have I8_ := hide (And.intro hi8 (And.intro hz8 (And.intro hs8 hb8)))
  clear hi8 hz8 hs8 hb8
  have HLN := hide (chk_len HCK.out)
  have hn65 : n ≤ 65 := by have := HLN.out; have := HH.out.1; omega
  go_enter Try.func12, Try.ntmps12
  go_wp2_with fail
  have hb0 : Below w.heap.size w (w.alloc (.cells #[.int .i64 s, .slice A n c] 24)) := (Below.refl _ _).alloc (Nat.le_refl _) _
  refine (RC.out s A n c hs _ (HH.out.up hb0 hb0.size) hc hm).mono ?_
  rintro e w1 ⟨rfl, hb1⟩
  rw [HCK.out]
  rw [show errC true = 0 from rfl]
  have c0 : w1.cell? ⟨w.heap.size, 0, none⟩ = some (.int .i64 s) := by rw [hb1.cell (by simp)]; simp
  have c1 : w1.cell? ⟨w.heap.size, 1, none⟩ = some (.slice A n c) := by rw [hb1.cell (by simp)]; simp
  have HB1 := hide (hb0.trans (hb1.mono hb0.size))
  have hlt1 : w.heap.size < w1.heap.size := World.block_lt_of_cell? w1 ⟨w.heap.size, 0, none⟩ c0
  clear hb0 hb1
  go_wp2_with fail
  refine (rput_n _ 2 2 _ rfl ⟨hs0, by omega⟩ (by omega)).mono ?_
  rintro e w3 ⟨sv, rfl, hown3, hb3⟩
  have c13 : w3.cell? ⟨w.heap.size, 1, none⟩ = some (.slice A n c) := (hb3.cell (p := ⟨w.heap.size, 1, none⟩) hlt1).trans c1
  have HB3 := hide (HB1.out.trans (hb3.mono (Nat.le_of_lt hlt1)))
  have hlt3 : w.heap.size < w3.heap.size := Nat.lt_of_lt_of_le hlt1 hb3.size
  have HO3 := hide hown3
  have hz3 := hb3.size
  have HK3 := hide hb3
  clear hown3 hb3 c0 c1 HB1
  go_wp2_with (first
    | (refine wpList_push rfl rfl 38 5 (.tmp 18) (.tmp 14) (.tmp 19) rfl rfl w1.heap.size 1 1 i8 (.int .u8 0) (.int .u8 (n : Int)) sv [.int .u8 (n : Int)] _ 2 Try.underlying38 I8_.out.1 I8_.out.2.1 I8_.out.2.2.1 I8_.out.2.2.2 rfl (by omega) (by omega) (by rfl) rfl rfl one_int HO3.out hz3 (by unfold maxLen; omega) (by omega) (by rfl) (by rfl) ?_
       intro v4 w4 g4 G4 hown4 hb4 hg4
       have c14 : w4.cell? ⟨w.heap.size, 1, none⟩ = some (.slice A n c) := (hb4.cell (p := ⟨w.heap.size, 1, none⟩) hlt1).trans c13
       have HB4 := hide (HB3.out.trans (hb4.mono (Nat.le_of_lt hlt1)))
       have hlt4 : w.heap.size < w4.heap.size := World.block_lt_of_cell? w4 ⟨w.heap.size, 1, none⟩ c14
       have HO4 := hide (own_base (b := w.heap.size + 1) hown4 hlt1)
       clear hown4 hb4 hg4 c13))
  go_loopw [4, 5] (fun sv i wr => RbRel s hs w A n c sv i wr) (fun _ i _ => n - (intOf i).toNat)
  case atStart =>
    refine ⟨0, by omega, rfl, ?_, HH.out.below HB4.out, c14, HB4.out, hlt4⟩
    rw [show (n : Int) % 256 = n by omega]
    simpa using HO4.out
  case round =>
    obtain ⟨k, hk, rfl, hown, hat, hcr, hbel, hltr⟩ := hrel
    have HOr := hide hown
    have HBr := hide hbel
    clear hown hbel HO4 HB4 c14 hlt4 HO3 HB3 HK3
    by_cases hlt : k < n
    · obtain ⟨ad, x, rfl, hab, hx, hxw, hcell⟩ := hat.at_ hlt
      have HAB := hide (hd_at HCK.out hx)
      have hv : wr.cell? (ad.add (k * 23)) = some (.int .i64 x.at_) := by
        have := hcell 0 _ rfl
        simpa [add_of_add] using this
      have HX := hide hx
      have HAT := hide hat
      have HW := hide hxw
      clear hx hat hcell hxw
      obtain ⟨ha0, ha1⟩ := HAB.out
      have hszr := HBr.out.size
      go_wp2_with (first
        | (go_at_call 25
           refine (rput_n _ 3 3 _ rfl ⟨ha0, by omega⟩ (by omega)).mono ?_
           rintro e w5 ⟨sv3, rfl, hown3, hb3⟩
           obtain ⟨A3, c3, rfl, hc3, rd3⟩ := own_slice hown3 (by omega)
           have HB5 := hide hb3
           have HR5 := hide rd3
           clear hown3 hb3 rd3)
        | (at_builtin
           refine wpList_append_any _ rfl (.tmp 28) (.tmp 36) _ rfl (w.heap.size + 1) 5 i8 _ 1 1 Try.underlying38 I8_.out.1 I8_.out.2.1 I8_.out.2.2.1 I8_.out.2.2.2 rfl (by omega) u4 (3 + 25 * k) _ (by rfl) (own_below HOr.out HB5.out) _ A3 3 c3 _ (by rfl) HR5.out (by intro u hu; simp at hu; obtain ⟨a, _, rfl⟩ := hu; rfl) (by simp only [maxLen]; omega) (by omega) (Nat.le_trans hltr HB5.out.size) ?_
           intro v6 w6 hown6 hg6 _
           have hs5 := HB5.out.size
           have hk6 : Below w.heap.size wr w6 := (HB5.out.mono hszr).grown hg6 (by omega) (fun g hg => Nat.le_of_succ_le (own_ge HOr.out g hg))
           have c16 : w6.cell? ⟨w.heap.size, 1, none⟩ = some (.slice (some ad) n c) := by
             have hg1 : ∀ g, u4.ownBlock = some g → w.heap.size + 1 ≤ g := own_ge HOr.out
             exact (((HB5.out.mono hltr).grown hg6 (by omega) hg1).cell (p := ⟨w.heap.size, 1, none⟩) (Nat.lt_succ_self _)).trans hcr
           have HAT6 := hide (HAT.out.below hk6)
           have HB6 := hide (HBr.out.trans hk6)
           have HO6 := hide hown6
           have hlt6 : w.heap.size < w6.heap.size := World.block_lt_of_cell? w6 ⟨w.heap.size, 1, none⟩ c16
           clear hown6 hg6 hk6 hv))
      obtain ⟨wo, rfl⟩ : ∃ wo : World, wo = wr := ⟨_, rfl⟩
      go_loopw [4, 6] (fun sv i wq => RiRel (putB s 2 ++ [(n : Int) % 256] ++ (hs.take k).flatMap hdB ++ putB x.at_ 3) x.pl hs w (some ad) n c (3 + 25 * k + 3) sv i wq) (fun _ i _ => 11 - (intOf i).toNat)
      case atStart => exact ⟨0, by omega, rfl, by simpa [plB] using HO6.out, HAT6.out, c16, HB6.out, hlt6⟩
      case round =>
        obtain ⟨j, hj, rfl, hownq, hatq, hcq, hbq, hltq⟩ := hrel
        have HOq := hide hownq
        have HATq := hide hatq
        have HBq := hide hbq
        clear hownq hatq hbq HO6 HB6 HAT6 HOr HBr HAT c16 hlt6 hcr
        have hszq := HBq.out.size
        by_cases hlj : j < 11
        · have hxl : j < x.pl.length := by rw [HW.out.2.1]; exact hlj
          obtain ⟨pp, hpp⟩ : ∃ p, plD x.pl j = p := ⟨_, rfl⟩
          have hV := HW.out.2.2 pp (List.mem_of_getElem? (plD_at hxl hpp))
          have HPP := hide (plD_at hxl hpp)
          clear hpp
          obtain ⟨pa, pb⟩ := pp
          have HV := hide hV
          clear hV
          have hji : (j : Int) < 11 := by omega
          have hki : (k : Int) < n := by omega
          obtain ⟨ad2, x2, hA2, _, hx2, _, hcell2⟩ := HATq.out.at_ hlt
          obtain rfl : ad = ad2 := by injection hA2
          obtain rfl : x2 = x := by have := HX.out; rw [hx2] at this; exact Option.some.inj this
          obtain ⟨p0, p1⟩ := hd_place hcell2 HPP.out
          dsimp only at p0 p1
          clear hA2 hx2 hcell2
          have hw0 : IntKind.u8.wrap pa = pa % 256 := by rw [IntKind.wrap_u8]
          have hw1 : IntKind.u8.wrap pb = pb % 256 := by rw [IntKind.wrap_u8]
          go_wp2_with fail
          go_region_law (first
            | (refine step_append_any _ rfl (.tmp 42) (.tmp 63) 38 rfl (w.heap.size + 1) 5 i8 (.int .u8 0) 1 1 Try.underlying38 I8_.out.1 I8_.out.2.1 I8_.out.2.2.1 I8_.out.2.2.2 rfl (by omega) u4 (3 + 25 * k + 3 + 2 * j) _ (by rfl) (by first | exact HOq.out | exact HOq.out.alloc _) _ _ 2 2 [.int .u8 (pa % 256), .int .u8 (pb % 256)] (by rfl) (reads_new _ _ _ 2 rfl) (by intro u hu; simp at hu; rcases hu with rfl | rfl <;> rfl) (by simp only [maxLen]; omega) (by omega) (by simp; omega) ?_
               intro v7 w7 hown7 hg7 _))
          all_goals
            have hk7 : Below (w.heap.size + 1) wr w7 := by
              first
                | exact ((Below.refl _ _).alloc (by omega) _).grown hg7 (le_alloc _ (by omega)) (own_ge HOq.out)
                | exact (((Below.refl _ _).alloc (by omega) _).drew).grown hg7 (by simp; omega) (own_ge HOq.out)
                | exact ((Below.refl _ _).drew.alloc (by simp; omega) _).grown hg7 (by simp; omega) (own_ge HOq.out)
            have c17 : w7.cell? ⟨w.heap.size, 1, none⟩ = some (.slice (some ad) n c) := (hk7.cell (p := ⟨w.heap.size, 1, none⟩) (Nat.lt_succ_self _)).trans hcq
            have HAT7 := hide (HATq.out.below (hk7.mono (Nat.le_succ _)))
            have HB7 := hide (HBq.out.trans (hk7.mono (Nat.le_succ _)))
            have HO7 := hide hown7
            have hlt7 : w.heap.size < w7.heap.size := World.block_lt_of_cell? w7 ⟨w.heap.size, 1, none⟩ c17
            clear hown7 hg7 hk7 p0 p1 hcq
            go_wp2
            go_roundw
            case measure => simp [intOf]; omega
            case rel =>
              refine ⟨j + 1, by omega, by go_num, ?_, HAT7.out, c17, HB7.out, hlt7⟩
              have := HO7.out
              rw [plB_take HPP.out]
              simpa [Nat.mul_add, Nat.add_assoc] using this
        · obtain rfl : j = 11 := by omega
          clear hj hlj
          go_wp2
          go_roundw
          case measure => simp [intOf]; omega
          case rel =>
            refine ⟨k + 1, by omega, by go_num, ?_, HATq.out, hcq, HBq.out, hltq⟩
            have h1 := HOq.out
            rw [show x.pl.take 11 = x.pl from List.take_of_length_le (by have := HW.out.2.1; omega)] at h1
            rw [flat_take hdB HX.out, show 3 + 25 * (k + 1) = 3 + 25 * k + 3 + 2 * 11 by omega]
            simpa [hdB] using h1
    · obtain rfl : k = n := by omega
      clear hk hlt
      go_wp2
      go_ret2
      refine ⟨_, rfl, ?_, HBr.out⟩
      have := own_base (b := w.heap.size) HOr.out (Nat.le_succ _)
      rw [List.take_of_length_le (by have := HH.out.1; omega)] at this
      unfold hsB
      rw [HH.out.1]
      exact this
end Go.Proofs.Ytmnokkomhgpmmaa
