/-
  bits.Put: numbers as bytes; rows of the call's own, as they are kept. Conditions: those written in each statement.
-/
import Derived.Test.YtopanomcbkhbnaaProg
import Derived.Test.YtopanomcbkhbnaaPush
namespace Go.Proofs.Ytopanomcbkhbnaa
open Go.RowKit
set_option linter.unusedVariables false
set_option linter.unusedSimpArgs false
theorem own_slice {w : World} {base e size n : Nat} {v : Value} {xs : List Value} (h : w.ownsRow base e size v n xs) (h0 : 0 < size) : ∃ A c, v = .slice A n c ∧ n ≤ c ∧ Reads w w.heap.size size A n xs := by
  rcases h.2 with ⟨hv, hx⟩ | ⟨g, cap, cur, hv, hb, hg, hnc, _⟩
  · subst hx
    have hxs : xs = [] := List.eq_nil_of_length_eq_zero (by have := h.1; omega)
    rw [hxs]
    exact ⟨none, 0, hv, by omega, Reads.none_⟩
  · subst hv
    exact ⟨_, _, rfl, hnc, Reads.of_own h⟩
theorem own_base {w : World} {base b e size n : Nat} {v : Value} {xs : List Value} (h : w.ownsRow base e size v n xs) (hb : b ≤ base) : w.ownsRow b e size v n xs :=
  ⟨h.1, h.2.imp id fun ⟨g, cap, cur, h1, h2, h3⟩ => ⟨g, cap, cur, h1, Nat.le_trans hb h2, h3⟩⟩
theorem own_ge {w : World} {base e size n : Nat} {v : Value} {xs : List Value} (h : w.ownsRow base e size v n xs) : ∀ g, v.ownBlock = some g → base ≤ g := by
  intro g hg
  rcases h.2 with ⟨rfl, _⟩ | ⟨g', cap, cur, rfl, hb, _⟩
  · simp [Value.ownBlock] at hg
  · simp [Value.ownBlock] at hg; omega
theorem own_below {w w' : World} {base e size n : Nat} {v : Value} {xs : List Value} (h : w.ownsRow base e size v n xs) (hb : Below w.heap.size w w') : w'.ownsRow base e size v n xs :=
  ⟨h.1, h.2.imp id fun ⟨g, cap, cur, h1, h2, h3, h4⟩ => ⟨g, cap, cur, h1, h2, (hb.block g (Blk.lt (t := e) (cs := cur) h3)).trans h3, h4⟩⟩
theorem reads_one {w : World} {g : Nat} {u : Value} (h : w.cell? ⟨g, 0, none⟩ = some u) : Reads w w.heap.size 1 (some ⟨g, 0, none⟩) 1 [u] :=
  ⟨rfl, fun _ => ⟨_, rfl, World.block_lt_of_cell? w ⟨g, 0, none⟩ h, fun j v hj => by
    cases j with
    | zero => simp at hj; subst hj; exact h
    | succ j => simp at hj⟩⟩
def U64 (v : Int) : Prop := 0 ≤ v ∧ v < 18446744073709551616
/-- Byte i of a number. -/
def byI (v : Int) (i : Nat) : Int := v / 2 ^ (8 * i) % 256
def putB (v : Int) (n : Nat) : List Int := (List.range n).map (byI v)
theorem putB_succ (v : Int) (k : Nat) : putB v (k + 1) = putB v k ++ [v / 2 ^ (8 * k) % 256] := by simp [putB, List.range_succ, byI]
theorem div_step (v : Int) (k : Nat) : v / 2 ^ (8 * k) / 256 = v / 2 ^ (8 * (k + 1)) := by
  rw [Int.ediv_ediv_of_nonneg (Int.pow_nonneg (by omega)), show (2 : Int) ^ (8 * (k + 1)) = 2 ^ (8 * k) * 256 by rw [Nat.mul_succ, Int.pow_add]; rfl]
theorem div_bd {v : Int} (hv : U64 v) (k : Nat) : U64 (v / 2 ^ (8 * k)) := by
  unfold U64 at *
  have hp : (0 : Int) < 2 ^ (8 * k) := Int.pow_pos (by omega)
  refine ⟨Int.ediv_nonneg hv.1 (Int.le_of_lt hp), Int.lt_of_le_of_lt (Int.ediv_le_self _ hv.1) hv.2⟩
theorem inf8 : (Try.prog.info? 5).map (fun i => (i.zero, i.size, i.bytes)) = some (some (.int .u8 0), 1, 1) := by kernel_rfl
def PRel (v : Int) (n : Nat) (W : World) (a b c : Value) (wr : World) : Prop :=
  ∃ k : Nat, k ≤ n ∧ c = .int .i64 k ∧ a = .int .u64 (v / 2 ^ (8 * k)) ∧ wr.ownsRow W.heap.size 5 1 b k ((putB v k).map (Value.int .u8)) ∧ Below W.heap.size W wr
set_option maxHeartbeats 1000000 in
theorem put_any (v : Int) (n : Nat) (w : World) (hv : U64 v) (hn : n ≤ 8) :
    Calls Try.prog 32 #[.int .u64 v, .int .i64 n] w fun e w' => ∃ sv, e = .returned sv ∧ w'.ownsRow w.heap.size 5 1 sv n ((putB v n).map (Value.int .u8)) ∧ Below w.heap.size w w' := by
  obtain ⟨i8, hi8, hz8, hs8, hb8⟩ := info_parts inf8
  have I8_ := hide (And.intro hi8 (And.intro hz8 (And.intro hs8 hb8)))
  clear hi8 hz8 hs8 hb8
  have HV := hide hv
  clear hv
  go_enter Try.func32, Try.ntmps32
  go_wp2
  go_loopw [0, 5, 9] (fun a b c wr => PRel v n w a b c wr) (fun _ _ c _ => n - (intOf c).toNat)
  case atStart => exact ⟨0, by omega, rfl, by simp, ⟨by simp [putB], .inl ⟨rfl, by simp [putB]⟩⟩, Below.refl _ _⟩
  case round =>
    obtain ⟨k, hk, rfl, rfl, hown, hbel⟩ := hrel
    have HO := hide hown
    have HB := hide hbel
    clear hown hbel
    by_cases hlt : k < n
    · obtain ⟨d0, d1⟩ := div_bd HV.out k
      generalize hd : v / 2 ^ (8 * k) = d at *
      have HD_ := hide hd
      clear hd
      have HBS := HB.out.size
      go_wp2_with (first
        | (refine wpList_push rfl rfl 36 5 (.tmp 13) (.tmp 11) (.tmp 14) rfl rfl w.heap.size 1 1 i8 (.int .u8 0) (.int .u8 (d % 256)) u5 [.int .u8 (d % 256)] _ k Try.underlying36 I8_.out.1 I8_.out.2.1 I8_.out.2.2.1 I8_.out.2.2.2 rfl (by omega) (by omega) (by rfl) rfl rfl one_int HO.out HBS (by unfold maxLen; omega) (by omega) (by rfl) (by rfl) ?_
           intro v' w1 g1 G1 hown1 hb1 _
           have HO1 := hide hown1
           have HB1 := hide (HB.out.trans hb1)
           clear hown1 hb1))
      go_roundw
      case measure => simp [intOf]; omega
      case rel =>
        refine ⟨k + 1, by omega, by go_num, ?_, ?_, HB1.out⟩
        · rw [← div_step, HD_.out]
        · rw [putB_succ, List.map_append, HD_.out]; exact HO1.out
    · obtain rfl : k = n := by omega
      clear hk hlt
      go_wp2
      go_ret
      exact ⟨_, rfl, HO.out, HB.out⟩
theorem put_n (v m : Int) (n : Nat) (w : World) (hm : m = n) (hv : U64 v) (hn : n ≤ 8) :
    Calls Try.prog 32 #[.int .u64 v, .int .i64 m] w fun e w' => ∃ sv, e = .returned sv ∧ w'.ownsRow w.heap.size 5 1 sv n ((putB v n).map (Value.int .u8)) ∧ Below w.heap.size w w' := by
  subst hm
  exact put_any v n w hv hn
end Go.Proofs.Ytopanomcbkhbnaa
