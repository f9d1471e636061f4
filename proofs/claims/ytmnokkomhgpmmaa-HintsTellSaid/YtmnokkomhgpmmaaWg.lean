/-
  latheref25.Block, Bytes; latheref01.Put. Conditions: those written in each statement.
-/
import Derived.Test.YtmnokkomhgpmmaaLa
import Derived.Test.YtmnokkomhgpmmaaEq
namespace Go.Proofs.Ytmnokkomhgpmmaa
open Go.RowKit
set_option linter.unusedVariables false
set_option linter.unusedSimpArgs false
def RPRel (v : Int) (n : Nat) (W : World) (b c : Value) (wr : World) : Prop :=
  ∃ k : Nat, k ≤ n ∧ c = .int .i64 k ∧ wr.ownsRow W.heap.size 5 1 b k ((putB v k).map (Value.int .u8)) ∧ Below W.heap.size W wr
set_option maxHeartbeats 1000000 in
theorem rput_any (v : Int) (n : Nat) (w : World) (hv : U64 v) (hn : n ≤ 8) :
    Calls Try.prog 25 #[.int .u64 v, .int .i64 n] w fun e w' => ∃ sv, e = .returned sv ∧ w'.ownsRow w.heap.size 5 1 sv n ((putB v n).map (Value.int .u8)) ∧ Below w.heap.size w w' := by
  obtain ⟨i8, hi8, hz8, hs8, hb8⟩ := info_parts inf8
  have I8_ := hide (And.intro hi8 (And.intro hz8 (And.intro hs8 hb8)))
  clear hi8 hz8 hs8 hb8
  have HV := hide hv
  obtain ⟨hv0, hv1⟩ := hv
  go_enter Try.func25, Try.ntmps25
  go_wp2
  go_loopw [5, 6] (fun b c wr => RPRel v n w b c wr) (fun _ c _ => n - (intOf c).toNat)
  case atStart => exact ⟨0, by omega, rfl, ⟨by simp [putB], .inl ⟨rfl, by simp [putB]⟩⟩, Below.refl _ _⟩
  case round =>
    obtain ⟨k, hk, rfl, hown, hbel⟩ := hrel
    have HO := hide hown
    have HB := hide hbel
    clear hown hbel
    by_cases hlt : k < n
    · have HBS := HB.out.size
      go_wp2_with (first
        | (refine wpList_push rfl rfl 38 5 (.tmp 21) (.tmp 15) (.tmp 22) rfl rfl w.heap.size 1 1 i8 (.int .u8 0) (.int .u8 (v / 2 ^ (8 * k) % 256)) u5 [.int .u8 (v / 2 ^ (8 * k) % 256)] _ k Try.underlying38 I8_.out.1 I8_.out.2.1 I8_.out.2.2.1 I8_.out.2.2.2 rfl (by omega) (by omega) (by rfl) rfl rfl one_int HO.out HBS (by unfold maxLen; omega) (by omega) (by rfl) (by rfl) ?_
           intro v' w1 g1 G1 hown1 hb1 _
           have HO1 := hide hown1
           have HB1 := hide (HB.out.trans hb1)
           clear hown1 hb1))
      go_roundw
      case measure => simp [intOf]; omega
      case rel =>
        refine ⟨k + 1, by omega, by go_num, ?_, HB1.out⟩
        rw [putB_succ, List.map_append]; exact HO1.out
    · obtain rfl : k = n := by omega
      clear hk hlt
      go_wp2
      go_ret
      exact ⟨_, rfl, HO.out, HB.out⟩
theorem rput_n (v m : Int) (n : Nat) (w : World) (hm : m = n) (hv : U64 v) (hn : n ≤ 8) :
    Calls Try.prog 25 #[.int .u64 v, .int .i64 m] w fun e w' => ∃ sv, e = .returned sv ∧ w'.ownsRow w.heap.size 5 1 sv n ((putB v n).map (Value.int .u8)) ∧ Below w.heap.size w w' := by
  subst hm
  exact rput_any v n w hv hn
def BRRel (hs : List HD) (a : Int) (W : World) (A : Option Addr) (n c : Nat) (i : Value) (wr : World) : Prop :=
  ∃ k : Nat, k ≤ n ∧ i = .int .i64 k ∧ (∀ j x, j < k → hs[j]? = some x → ¬ x.at_ = a) ∧ HintsAt wr W.heap.size A n hs ∧ wr.cell? ⟨W.heap.size, 1, none⟩ = some (.slice A n c) ∧ Below W.heap.size W wr
set_option maxHeartbeats 1000000 in
theorem rblock_any (rc : ∀ (s : Int) (A : Option Addr) (n c : Nat) (hs : List HD) (w : World), HintsAt w w.heap.size A n hs → n ≤ c → n < 9223372036854775808 → Calls Try.prog 14 #[.agg #[.int .i64 s, .slice A n c]] w fun e w' => e = .returned (.int .i64 (errC (chkB s hs))) ∧ Below w.heap.size w w')
    (s a : Int) (A : Option Addr) (n c : Nat) (hs : List HD) (w : World) (hh : HintsAt w w.heap.size A n hs) (hc : n ≤ c) (hm : n < 9223372036854775808) :
    Calls Try.prog 13 #[.agg #[.int .i64 s, .slice A n c], .int .i64 a] w fun e w' => e = .returned (.tuple #[.int .i64 (blkC hs s a), .bool (blkO hs s a)]) ∧ Below w.heap.size w w' := by
  have HH := hide hh
  have RC := hide rc
  have HL := hide hh.1
  clear hh rc
  go_enter Try.func13, Try.ntmps13
  go_wp2_with fail
  have hb0 : Below w.heap.size w (w.alloc (.cells #[.int .i64 s, .slice A n c] 24)) := (Below.refl _ _).alloc (Nat.le_refl _) _
  refine (RC.out s A n c hs _ (HH.out.up hb0 hb0.size) hc hm).mono ?_
  rintro e w1 ⟨rfl, hb1⟩
  have c1 : w1.cell? ⟨w.heap.size, 1, none⟩ = some (.slice A n c) := by rw [hb1.cell (by simp)]; simp
  have HB1 := hide (hb0.trans (hb1.mono hb0.size))
  clear hb0 hb1
  cases hck : chkB s hs
  · go_wp2
    go_ret2
    exact ⟨by simp [blkC, blkO, hck], HB1.out⟩
  · have HCK := hide hck
    clear hck
    rw [show errC true = 0 from rfl]
    go_wp2
    go_loopw [6] (fun i wr => BRRel hs a w A n c i wr) (fun i _ => n - (intOf i).toNat)
    case atStart => exact ⟨0, by omega, rfl, by omega, HH.out.below HB1.out, c1, HB1.out⟩
    case round =>
      obtain ⟨k, hk, rfl, hno, hat, hcr, hbel⟩ := hrel
      have HB := hide hbel
      have HN := hide hno
      clear hbel hno c1 HB1
      by_cases hlt : k < n
      · obtain ⟨ad, x, rfl, hab, hx, hxw, hcell⟩ := hat.at_ hlt
        have hv : wr.cell? (ad.add (k * 23)) = some (.int .i64 x.at_) := by
          have := hcell 0 _ rfl
          simpa [add_of_add] using this
        have HX := hide hx
        have HAT := hide hat
        clear hx hat hcell hxw
        by_cases hxa : x.at_ = a
        · have hb : (x.at_ == a) = true := by simpa using hxa
          have hf := first_some HX.out hxa HN.out
          have HF := hide hf
          clear hxa hf
          go_wp2
          go_ret2
          exact ⟨by simp [blkC, blkO, HCK.out, HF.out], HB.out⟩
        · have hb : (x.at_ == a) = false := by simpa using hxa
          have HXA := hide hxa
          clear hxa
          go_wp2
          go_roundw
          case measure => simp [intOf]; omega
          case rel =>
            refine ⟨k + 1, by omega, by go_num, fun j y hj hy => ?_, HAT.out, hcr, HB.out⟩
            rcases Nat.lt_or_ge j k with h | h
            · exact HN.out j y h hy
            · obtain rfl : j = k := by omega
              have := HX.out
              rw [hy] at this
              obtain rfl := Option.some.inj this
              exact HXA.out
      · obtain rfl : k = n := by omega
        clear hk hlt
        go_wp2
        go_ret2
        exact ⟨by simp [blkC, blkO, HCK.out, first_none HL.out HN.out], HB.out⟩
end Go.Proofs.Ytmnokkomhgpmmaa
