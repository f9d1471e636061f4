/-
  latheref01.Put, Get, Width, Cut, Sign: numbers as bytes, and a number's sign, the document's. Conditions: those written in each statement.
-/
import Derived.Test.YtopanomcbkhbnaaPu
import Derived.Test.YtopanomcbkhbnaaGe
import Derived.Test.YtopanomcbkhbnaaPush
import Derived.Test.YtopanomcbkhbnaaIr
import Derived.Test.YtopanomcbkhbnaaId
namespace Go.Proofs.Ytopanomcbkhbnaa
open Go.RowKit
set_option linter.unusedVariables false
set_option linter.unusedSimpArgs false
def QPut (v : Int) (n : Nat) (W : World) (b c : Value) (wr : World) : Prop :=
  ∃ k : Nat, k ≤ n ∧ c = .int .i64 k ∧ wr.ownsRow W.heap.size 5 1 b k ((putB v k).map (Value.int .u8)) ∧ Below W.heap.size W wr
set_option maxHeartbeats 2000000 in
theorem rput_any (v : Int) (n : Nat) (w : World) (hv : U64 v) (hn : n ≤ 8) :
    Calls Try.prog 35 #[.int .u64 v, .int .i64 n] w fun e w' => ∃ sv, e = .returned sv ∧ w'.ownsRow w.heap.size 5 1 sv n ((putB v n).map (Value.int .u8)) ∧ Below w.heap.size w w' := by
  obtain ⟨i8, hi8, hz8, hs8, hb8⟩ := info_parts inf8
  have I8_ := hide (And.intro hi8 (And.intro hz8 (And.intro hs8 hb8)))
  clear hi8 hz8 hs8 hb8
  obtain ⟨hv0, hv1⟩ := hv
  go_enter Try.func35, Try.ntmps35
  go_wp2
  go_loopw [5, 6] (fun b c wr => QPut v n w b c wr) (fun _ c _ => n - (intOf c).toNat)
  case atStart => exact ⟨0, by omega, rfl, ⟨by simp [putB], .inl ⟨rfl, by simp [putB]⟩⟩, Below.refl _ _⟩
  case round =>
    obtain ⟨k, hk, rfl, hown, hbel⟩ := hrel
    have HO := hide hown
    have HB := hide hbel
    clear hown hbel
    by_cases hlt : k < n
    · have HBS := HB.out.size
      have hk8 : k = 0 ∨ k = 1 ∨ k = 2 ∨ k = 3 ∨ k = 4 ∨ k = 5 ∨ k = 6 ∨ k = 7 := by omega
      have HPS := hide (putB_succ v k)
      rcases hk8 with rfl | rfl | rfl | rfl | rfl | rfl | rfl | rfl
      · go_wp2_with (first
          | (refine wpList_push rfl rfl 36 5 (.tmp 21) (.tmp 15) (.tmp 22) rfl rfl w.heap.size 1 1 i8 (.int .u8 0) (.int .u8 (v % 256)) u5 [.int .u8 (v % 256)] _ 0 Try.underlying36 I8_.out.1 I8_.out.2.1 I8_.out.2.2.1 I8_.out.2.2.2 rfl (by omega) (by omega) (by rfl) rfl rfl one_int HO.out HBS (by unfold maxLen; omega) (by omega) (by rfl) (by rfl) ?_
             intro v' w1 g1 G1 hown1 hb1 _
             have HO1 := hide hown1
             have HB1 := hide (HB.out.trans hb1)
             clear hown1 hb1))
        go_roundw
        case measure => simp [intOf]; omega
        case rel => exact ⟨0 + 1, by omega, by go_num, by rw [HPS.out, List.map_append]; simpa using HO1.out, HB1.out⟩
      · go_wp2_with (first
          | (refine wpList_push rfl rfl 36 5 (.tmp 21) (.tmp 15) (.tmp 22) rfl rfl w.heap.size 1 1 i8 (.int .u8 0) (.int .u8 (v / 256 % 256)) u5 [.int .u8 (v / 256 % 256)] _ 1 Try.underlying36 I8_.out.1 I8_.out.2.1 I8_.out.2.2.1 I8_.out.2.2.2 rfl (by omega) (by omega) (by rfl) rfl rfl one_int HO.out HBS (by unfold maxLen; omega) (by omega) (by rfl) (by rfl) ?_
             intro v' w1 g1 G1 hown1 hb1 _
             have HO1 := hide hown1
             have HB1 := hide (HB.out.trans hb1)
             clear hown1 hb1))
        go_roundw
        case measure => simp [intOf]; omega
        case rel => exact ⟨1 + 1, by omega, by go_num, by rw [HPS.out, List.map_append]; simpa using HO1.out, HB1.out⟩
      · go_wp2_with (first
          | (refine wpList_push rfl rfl 36 5 (.tmp 21) (.tmp 15) (.tmp 22) rfl rfl w.heap.size 1 1 i8 (.int .u8 0) (.int .u8 (v / 65536 % 256)) u5 [.int .u8 (v / 65536 % 256)] _ 2 Try.underlying36 I8_.out.1 I8_.out.2.1 I8_.out.2.2.1 I8_.out.2.2.2 rfl (by omega) (by omega) (by rfl) rfl rfl one_int HO.out HBS (by unfold maxLen; omega) (by omega) (by rfl) (by rfl) ?_
             intro v' w1 g1 G1 hown1 hb1 _
             have HO1 := hide hown1
             have HB1 := hide (HB.out.trans hb1)
             clear hown1 hb1))
        go_roundw
        case measure => simp [intOf]; omega
        case rel => exact ⟨2 + 1, by omega, by go_num, by rw [HPS.out, List.map_append]; simpa using HO1.out, HB1.out⟩
      · go_wp2_with (first
          | (refine wpList_push rfl rfl 36 5 (.tmp 21) (.tmp 15) (.tmp 22) rfl rfl w.heap.size 1 1 i8 (.int .u8 0) (.int .u8 (v / 16777216 % 256)) u5 [.int .u8 (v / 16777216 % 256)] _ 3 Try.underlying36 I8_.out.1 I8_.out.2.1 I8_.out.2.2.1 I8_.out.2.2.2 rfl (by omega) (by omega) (by rfl) rfl rfl one_int HO.out HBS (by unfold maxLen; omega) (by omega) (by rfl) (by rfl) ?_
             intro v' w1 g1 G1 hown1 hb1 _
             have HO1 := hide hown1
             have HB1 := hide (HB.out.trans hb1)
             clear hown1 hb1))
        go_roundw
        case measure => simp [intOf]; omega
        case rel => exact ⟨3 + 1, by omega, by go_num, by rw [HPS.out, List.map_append]; simpa using HO1.out, HB1.out⟩
      · go_wp2_with (first
          | (refine wpList_push rfl rfl 36 5 (.tmp 21) (.tmp 15) (.tmp 22) rfl rfl w.heap.size 1 1 i8 (.int .u8 0) (.int .u8 (v / 4294967296 % 256)) u5 [.int .u8 (v / 4294967296 % 256)] _ 4 Try.underlying36 I8_.out.1 I8_.out.2.1 I8_.out.2.2.1 I8_.out.2.2.2 rfl (by omega) (by omega) (by rfl) rfl rfl one_int HO.out HBS (by unfold maxLen; omega) (by omega) (by rfl) (by rfl) ?_
             intro v' w1 g1 G1 hown1 hb1 _
             have HO1 := hide hown1
             have HB1 := hide (HB.out.trans hb1)
             clear hown1 hb1))
        go_roundw
        case measure => simp [intOf]; omega
        case rel => exact ⟨4 + 1, by omega, by go_num, by rw [HPS.out, List.map_append]; simpa using HO1.out, HB1.out⟩
      · go_wp2_with (first
          | (refine wpList_push rfl rfl 36 5 (.tmp 21) (.tmp 15) (.tmp 22) rfl rfl w.heap.size 1 1 i8 (.int .u8 0) (.int .u8 (v / 1099511627776 % 256)) u5 [.int .u8 (v / 1099511627776 % 256)] _ 5 Try.underlying36 I8_.out.1 I8_.out.2.1 I8_.out.2.2.1 I8_.out.2.2.2 rfl (by omega) (by omega) (by rfl) rfl rfl one_int HO.out HBS (by unfold maxLen; omega) (by omega) (by rfl) (by rfl) ?_
             intro v' w1 g1 G1 hown1 hb1 _
             have HO1 := hide hown1
             have HB1 := hide (HB.out.trans hb1)
             clear hown1 hb1))
        go_roundw
        case measure => simp [intOf]; omega
        case rel => exact ⟨5 + 1, by omega, by go_num, by rw [HPS.out, List.map_append]; simpa using HO1.out, HB1.out⟩
      · go_wp2_with (first
          | (refine wpList_push rfl rfl 36 5 (.tmp 21) (.tmp 15) (.tmp 22) rfl rfl w.heap.size 1 1 i8 (.int .u8 0) (.int .u8 (v / 281474976710656 % 256)) u5 [.int .u8 (v / 281474976710656 % 256)] _ 6 Try.underlying36 I8_.out.1 I8_.out.2.1 I8_.out.2.2.1 I8_.out.2.2.2 rfl (by omega) (by omega) (by rfl) rfl rfl one_int HO.out HBS (by unfold maxLen; omega) (by omega) (by rfl) (by rfl) ?_
             intro v' w1 g1 G1 hown1 hb1 _
             have HO1 := hide hown1
             have HB1 := hide (HB.out.trans hb1)
             clear hown1 hb1))
        go_roundw
        case measure => simp [intOf]; omega
        case rel => exact ⟨6 + 1, by omega, by go_num, by rw [HPS.out, List.map_append]; simpa using HO1.out, HB1.out⟩
      · go_wp2_with (first
          | (refine wpList_push rfl rfl 36 5 (.tmp 21) (.tmp 15) (.tmp 22) rfl rfl w.heap.size 1 1 i8 (.int .u8 0) (.int .u8 (v / 72057594037927936)) u5 [.int .u8 (v / 72057594037927936)] _ 7 Try.underlying36 I8_.out.1 I8_.out.2.1 I8_.out.2.2.1 I8_.out.2.2.2 rfl (by omega) (by omega) (by rfl) rfl rfl one_int HO.out HBS (by unfold maxLen; omega) (by omega) (by rfl) (by rfl) ?_
             intro v' w1 g1 G1 hown1 hb1 _
             have HO1 := hide hown1
             have HB1 := hide (HB.out.trans hb1)
             clear hown1 hb1))
        go_roundw
        case measure => simp [intOf]; omega
        case rel => exact ⟨7 + 1, by omega, by go_num, by rw [HPS.out, List.map_append]; (have h7 : v / 72057594037927936 % 256 = v / 72057594037927936 := by omega); simpa [h7] using HO1.out, HB1.out⟩
    · obtain rfl : k = n := by omega
      clear hk hlt
      go_wp2
      go_ret
      exact ⟨_, rfl, HO.out, HB.out⟩
theorem rput_n (v m : Int) (n : Nat) (w : World) (hm : m = n) (hv : U64 v) (hn : n ≤ 8) :
    Calls Try.prog 35 #[.int .u64 v, .int .i64 m] w fun e w' => ∃ sv, e = .returned sv ∧ w'.ownsRow w.heap.size 5 1 sv n ((putB v n).map (Value.int .u8)) ∧ Below w.heap.size w w' := by
  subst hm
  exact rput_any v n w hv hn
theorem getB_snoc : ∀ (l : List Int) (x : Int), getB (l ++ [x]) = getB l + 256 ^ l.length * x
  | [], x => by simp [getB]
  | y :: t, x => by
    rw [List.cons_append, getB, getB_snoc t x, getB, List.length_cons, Int.pow_succ]
    have : (256 : Int) ^ t.length * 256 * x = 256 * (256 ^ t.length * x) := by rw [Int.mul_comm (256 ^ t.length) 256, Int.mul_assoc]
    rw [this]
    omega
theorem getB_take {l : List Int} {k : Nat} {x : Int} (h : l[k]? = some x) : getB (l.take (k + 1)) = getB (l.take k) + 256 ^ k * x := by
  rw [List.take_add_one, h]
  have hl := (List.getElem?_eq_some_iff.1 h).1
  rw [Option.toList_some, getB_snoc, List.length_take, Nat.min_eq_left (by omega)]
set_option maxHeartbeats 2000000 in
theorem rget_any (l : List Int) (B : Nat) (A : Option Addr) (n c : Nat) (w : World) (hl : l.length = n) (hr : Reads w B 1 A n (l.map (Value.int .u8))) (hb : IsBytes l) (hn : n ≤ 8) :
    Calls Try.prog 41 #[.slice A n c] w fun e w' => e = .returned (.int .u64 (getB l)) ∧ w = w' := by
  have HL := hide hl
  have HR := hide hr
  have HB := hide hb
  clear hl hr hb
  go_enter Try.func41, Try.ntmps41
  go_wp2
  go_loop [3, 4] (fun v i => ∃ k : Nat, k ≤ n ∧ i = .int .i64 k ∧ v = .int .u64 (getB (l.take k))) (fun _ i => n - (intOf i).toNat)
  case atStart => exact ⟨0, by omega, rfl, rfl⟩
  case round =>
    obtain ⟨k, hk, rfl, rfl⟩ := hrel
    by_cases hlt : k < n
    · obtain ⟨ad, u, rfl, _, hx, hcell⟩ := HR.out.at_ hlt
      have hlm : k < l.length := by have := HL.out; omega
      obtain ⟨x, hlx⟩ : ∃ x, l[k]? = some x := ⟨l[k], List.getElem?_eq_getElem hlm⟩
      have hux : u = .int .u8 x := by simp [hlx] at hx; exact hx.symm
      subst hux
      obtain ⟨hx0, hx1⟩ := HB.out x (List.mem_of_getElem? hlx)
      have HT := hide (getB_take hlx)
      obtain ⟨v0, v1⟩ := getB_bd (l.take k) (fun y hy => HB.out y (List.mem_of_mem_take hy))
      rw [List.length_take, Nat.min_eq_left (Nat.le_of_lt hlm)] at v1
      clear hx hlx hlm
      generalize getB (l.take k) = v at *
      have hk8 : k = 0 ∨ k = 1 ∨ k = 2 ∨ k = 3 ∨ k = 4 ∨ k = 5 ∨ k = 6 ∨ k = 7 := by omega
      rcases hk8 with rfl | rfl | rfl | rfl | rfl | rfl | rfl | rfl
      · simp only [Int.reducePow] at v1
        simp [Addr.add] at hcell
        go_wp2
        go_round
        case measure => simp [intOf]; omega
        case rel => exact ⟨0 + 1, by omega, by go_num, by rw [HT.out]; congr 1; omega⟩
      · simp only [Int.reducePow] at v1
        simp [Addr.add] at hcell
        go_wp2
        go_round
        case measure => simp [intOf]; omega
        case rel => exact ⟨1 + 1, by omega, by go_num, by rw [HT.out]; congr 1; omega⟩
      · simp only [Int.reducePow] at v1
        simp [Addr.add] at hcell
        go_wp2
        go_round
        case measure => simp [intOf]; omega
        case rel => exact ⟨2 + 1, by omega, by go_num, by rw [HT.out]; congr 1; omega⟩
      · simp only [Int.reducePow] at v1
        simp [Addr.add] at hcell
        go_wp2
        go_round
        case measure => simp [intOf]; omega
        case rel => exact ⟨3 + 1, by omega, by go_num, by rw [HT.out]; congr 1; omega⟩
      · simp only [Int.reducePow] at v1
        simp [Addr.add] at hcell
        go_wp2
        go_round
        case measure => simp [intOf]; omega
        case rel => exact ⟨4 + 1, by omega, by go_num, by rw [HT.out]; congr 1; omega⟩
      · simp only [Int.reducePow] at v1
        simp [Addr.add] at hcell
        go_wp2
        go_round
        case measure => simp [intOf]; omega
        case rel => exact ⟨5 + 1, by omega, by go_num, by rw [HT.out]; congr 1; omega⟩
      · simp only [Int.reducePow] at v1
        simp [Addr.add] at hcell
        go_wp2
        go_round
        case measure => simp [intOf]; omega
        case rel => exact ⟨6 + 1, by omega, by go_num, by rw [HT.out]; congr 1; omega⟩
      · simp only [Int.reducePow] at v1
        simp [Addr.add] at hcell
        go_wp2
        go_round
        case measure => simp [intOf]; omega
        case rel => exact ⟨7 + 1, by omega, by go_num, by rw [HT.out]; congr 1; omega⟩
    · obtain rfl : k = n := by omega
      have ht : l.take k = l := List.take_of_length_le (by rw [HL.out]; exact Nat.le_refl _)
      have HT := hide ht
      clear hlt ht
      go_wp2
      go_ret
      exact ⟨by rw [HT.out]; rfl, rfl⟩
def wdB (n : Int) : Bool := n == 8 || (n == 16 || (n == 32 || n == 64))
theorem rwidth_16 (w : World) : Calls Try.prog 45 #[.int .i8 16] w fun e w' => e = .returned (.bool true) ∧ w = w' := by
  go_enter Try.func45, Try.ntmps45
  go_wp2
  go_ret
  exact ⟨rfl, rfl⟩
theorem rcut_16 (v : Int) (w : World) (h0 : 0 ≤ v) (h1 : v < 65536) : Calls Try.prog 46 #[.int .u64 v, .int .i8 16] w fun e w' => e = .returned (.int .u64 v) ∧ w = w' := by
  have ha : bits .and .u64 v 65535 = v := by
    obtain ⟨a, rfl⟩ := Int.eq_ofNat_of_zero_le h0
    have := u64_and_nat a 65535 (by omega) (by omega)
    rw [show a &&& 65535 = a % 2 ^ 16 from Nat.and_two_pow_sub_one_eq_mod a 16] at this
    rw [show ((65535 : Nat) : Int) = 65535 from rfl] at this
    rw [this]
    omega
  go_enter Try.func46, Try.ntmps46
  go_wp2_with fail
  refine (rwidth_16 _).mono ?_
  rintro e w' ⟨rfl, rfl⟩
  go_wp2
  go_ret
  exact ⟨rfl, rfl⟩
theorem rsign_16 (v : Int) (w : World) (h0 : 0 ≤ v) (h1 : v < 65536) : Calls Try.prog 40 #[.int .u64 v, .int .i8 16] w fun e w' => e = .returned (.int .u64 (uOf (sg16 v))) ∧ w = w' := by
  have hs : uOf (sg16 v) = if v < 32768 then v else v - 65536 + 18446744073709551616 := by unfold uOf sg16; split <;> omega
  have HS := hide hs
  clear hs
  by_cases hh : v < 32768
  · have hd : v / 32768 = 0 := by omega
    have ha : bits .and .u64 0 1 = 0 := by decide +kernel
    go_enter Try.func40, Try.ntmps40
    go_wp2_with (first
      | (go_at_call 45; refine (rwidth_16 _).mono ?_; rintro e w' ⟨rfl, rfl⟩)
      | (go_at_call 46; refine (rcut_16 v _ h0 h1).mono ?_; rintro e w' ⟨rfl, rfl⟩))
    go_ret
    exact ⟨ret_i (by rw [HS.out, if_pos hh]), rfl⟩
  · have hd : v / 32768 = 1 := by omega
    have ha : bits .and .u64 1 1 = 1 := by decide +kernel
    go_enter Try.func40, Try.ntmps40
    go_wp2_with (first
      | (go_at_call 45; refine (rwidth_16 _).mono ?_; rintro e w' ⟨rfl, rfl⟩)
      | (go_at_call 46; refine (rcut_16 v _ h0 h1).mono ?_; rintro e w' ⟨rfl, rfl⟩))
    go_ret
    exact ⟨ret_i (by rw [HS.out, if_neg (by omega), IntKind.wrap_u64]; omega), rfl⟩
theorem rwidth_32 (w : World) : Calls Try.prog 45 #[.int .i8 32] w fun e w' => e = .returned (.bool true) ∧ w = w' := by
  go_enter Try.func45, Try.ntmps45
  go_wp2
  go_ret
  exact ⟨rfl, rfl⟩
theorem rcut_32 (v : Int) (w : World) (h0 : 0 ≤ v) (h1 : v < 4294967296) : Calls Try.prog 46 #[.int .u64 v, .int .i8 32] w fun e w' => e = .returned (.int .u64 v) ∧ w = w' := by
  have ha : bits .and .u64 v 4294967295 = v := by
    obtain ⟨a, rfl⟩ := Int.eq_ofNat_of_zero_le h0
    have := u64_and_nat a 4294967295 (by omega) (by omega)
    rw [show a &&& 4294967295 = a % 2 ^ 32 from Nat.and_two_pow_sub_one_eq_mod a 32] at this
    rw [show ((4294967295 : Nat) : Int) = 4294967295 from rfl] at this
    rw [this]
    omega
  go_enter Try.func46, Try.ntmps46
  go_wp2_with fail
  refine (rwidth_32 _).mono ?_
  rintro e w' ⟨rfl, rfl⟩
  go_wp2
  go_ret
  exact ⟨rfl, rfl⟩
theorem rsign_32 (v : Int) (w : World) (h0 : 0 ≤ v) (h1 : v < 4294967296) : Calls Try.prog 40 #[.int .u64 v, .int .i8 32] w fun e w' => e = .returned (.int .u64 (uOf (sg32 v))) ∧ w = w' := by
  have hs : uOf (sg32 v) = if v < 2147483648 then v else v - 4294967296 + 18446744073709551616 := by unfold uOf sg32; split <;> omega
  have HS := hide hs
  clear hs
  by_cases hh : v < 2147483648
  · have hd : v / 2147483648 = 0 := by omega
    have ha : bits .and .u64 0 1 = 0 := by decide +kernel
    go_enter Try.func40, Try.ntmps40
    go_wp2_with (first
      | (go_at_call 45; refine (rwidth_32 _).mono ?_; rintro e w' ⟨rfl, rfl⟩)
      | (go_at_call 46; refine (rcut_32 v _ h0 h1).mono ?_; rintro e w' ⟨rfl, rfl⟩))
    go_ret
    exact ⟨ret_i (by rw [HS.out, if_pos hh]), rfl⟩
  · have hd : v / 2147483648 = 1 := by omega
    have ha : bits .and .u64 1 1 = 1 := by decide +kernel
    go_enter Try.func40, Try.ntmps40
    go_wp2_with (first
      | (go_at_call 45; refine (rwidth_32 _).mono ?_; rintro e w' ⟨rfl, rfl⟩)
      | (go_at_call 46; refine (rcut_32 v _ h0 h1).mono ?_; rintro e w' ⟨rfl, rfl⟩))
    go_ret
    exact ⟨ret_i (by rw [HS.out, if_neg (by omega), IntKind.wrap_u64]; omega), rfl⟩
theorem rlog_any (n : Int) (w : World) : Calls Try.prog 44 #[.int .i8 n] w fun e w' => e = .returned (.int .i64 (lgN 4 n)) ∧ w = w' := by
  have hl : lgN 4 n = if n = 2 then 1 else if n = 4 then 2 else if n = 8 then 3 else 0 := by
    by_cases h2 : n = 2
    · subst h2; rfl
    · by_cases h4 : n = 4
      · subst h4; rfl
      · by_cases h8 : n = 8
        · subst h8; rfl
        · rw [if_neg h2, if_neg h4, if_neg h8]
          unfold lgN lgN lgN lgN lgN
          simp
          omega
  have HLG := hide hl
  clear hl
  cases h2 : (n == 2)
  · cases h4 : (n == 4)
    · cases h8 : (n == 8)
      all_goals
        go_enter Try.func44, Try.ntmps44
        go_wp2
        go_ret
        exact ⟨ret_i (by rw [HLG.out]; simp_all), rfl⟩
    · go_enter Try.func44, Try.ntmps44
      go_wp2
      go_ret
      exact ⟨ret_i (by rw [HLG.out]; simp_all), rfl⟩
  · go_enter Try.func44, Try.ntmps44
    go_wp2
    go_ret
    exact ⟨ret_i (by rw [HLG.out]; simp_all), rfl⟩
end Go.Proofs.Ytopanomcbkhbnaa
