/-
  bits.Get: bytes as a number. Conditions: those written in each statement.
-/
import Derived.Test.YtopanomcbkhbnaaProg
import Derived.Test.YtopanomcbkhbnaaKit
namespace Go.Proofs.Ytopanomcbkhbnaa
open Go.RowKit
set_option linter.unusedVariables false
set_option linter.unusedSimpArgs false
def getB : List Int → Int
  | [] => 0
  | x :: r => x + 256 * getB r
theorem getB_bd : ∀ (l : List Int), IsBytes l → 0 ≤ getB l ∧ getB l < 256 ^ l.length
  | [], _ => by simp [getB]
  | x :: r, h => by
    have hx := h x (by simp)
    have ih := getB_bd r (fun y hy => h y (by simp [hy]))
    simp only [getB, List.length_cons, Int.pow_succ]
    generalize (256 : Int) ^ r.length = p at *
    omega
theorem getB_drop {l : List Int} {i : Nat} {x : Int} (h : l[i]? = some x) : getB (l.drop i) = x + 256 * getB (l.drop (i + 1)) := by
  have hi : i < l.length := (List.getElem?_eq_some_iff.1 h).1
  rw [List.drop_eq_getElem_cons hi, getB]
  rw [List.getElem?_eq_getElem hi] at h
  rw [Option.some.inj h]
theorem pow_le {k m : Nat} (h : k ≤ m) : (256 : Int) ^ k ≤ 256 ^ m := by
  obtain ⟨d, rfl⟩ := Nat.le.dest h
  rw [Int.pow_add]
  have h1 : (0 : Int) < 256 ^ k := Int.pow_pos (by omega)
  have h2 : (0 : Int) < 256 ^ d := Int.pow_pos (by omega)
  have := Int.mul_le_mul_of_nonneg_left (show (1 : Int) ≤ 256 ^ d by omega) (Int.le_of_lt h1)
  omega
theorem or_byte {v x : Int} (hv : 0 ≤ v) (hv2 : v < 72057594037927936) (hx : 0 ≤ x ∧ x < 256) : bits .or .u64 (v * 256) x = x + 256 * v := by
  rw [u64_or _ _ (by omega) (by omega) hx.1 (by omega)]
  obtain ⟨a, rfl⟩ := Int.eq_ofNat_of_zero_le hv
  obtain ⟨b, rfl⟩ := Int.eq_ofNat_of_zero_le hx.1
  have hb : b < 2 ^ 8 := by omega
  have : (((a : Int) * 256).toNat ||| (b : Int).toNat) = a * 256 + b := by
    have h1 : ((a : Int) * 256).toNat = 2 ^ 8 * a := by omega
    rw [h1, Int.toNat_natCast, ← Nat.two_pow_add_eq_or_of_lt hb]
    omega
  rw [this]
  omega
def GRel (l : List Int) (W : World) (B : Nat) (A : Option Addr) (n : Nat) (v i : Value) (wr : World) : Prop :=
  ∃ k : Nat, k ≤ n ∧ i = .int .i64 ((k : Int) - 1) ∧ v = .int .u64 (getB (l.drop k)) ∧ wr = W
set_option maxHeartbeats 1000000 in
theorem get_any (l : List Int) (B : Nat) (A : Option Addr) (n c : Nat) (w : World) (hl : l.length = n) (hr : Reads w B 1 A n (l.map (Value.int .u8))) (hb : IsBytes l) (hn : n ≤ 8) :
    Calls Try.prog 38 #[.slice A n c] w fun e w' => e = .returned (.int .u64 (getB l)) ∧ w = w' := by
  have HL := hide hl
  have HR := hide hr
  have HB := hide hb
  clear hl hr hb
  go_enter Try.func38, Try.ntmps38
  go_wp2
  go_loop [3, 4] (fun v i => ∃ k : Nat, k ≤ n ∧ i = .int .i64 ((k : Int) - 1) ∧ v = .int .u64 (getB (l.drop k))) (fun _ i => (intOf i + 1).toNat)
  case atStart => exact ⟨n, by omega, rfl, by rw [List.drop_of_length_le (by rw [HL.out]; omega)]; rfl⟩
  case round =>
    obtain ⟨k, hk, rfl, rfl⟩ := hrel
    by_cases hk0 : k = 0
    · subst hk0
      rw [show (((0 : Nat) : Int) - 1) = -1 by omega]
      go_wp2
      go_ret
      exact ⟨by simp, rfl⟩
    · obtain ⟨m, rfl⟩ : ∃ m, k = m + 1 := ⟨k - 1, by omega⟩
      rw [show (((m + 1 : Nat) : Int) - 1) = m by omega]
      have hmn : m < n := by omega
      obtain ⟨ad, u, rfl, _, hx, hcell⟩ := HR.out.at_ hmn
      have hlm : m < l.length := by have := HL.out; omega
      obtain ⟨x, hlx⟩ : ∃ x, l[m]? = some x := ⟨l[m], List.getElem?_eq_getElem hlm⟩
      have hux : u = .int .u8 x := by simp [hlx] at hx; exact hx.symm
      subst hux
      obtain ⟨hx0, hx1⟩ := HB.out x (List.mem_of_getElem? hlx)
      have hd := getB_drop hlx
      obtain ⟨v0, v1⟩ := getB_bd (l.drop (m + 1)) (fun y hy => HB.out y (List.mem_of_mem_drop hy))
      have v2 : getB (l.drop (m + 1)) < 72057594037927936 := by
        have := pow_le (k := (l.drop (m + 1)).length) (m := 7) (by rw [List.length_drop]; have := HL.out; omega)
        rw [show (256 : Int) ^ 7 = 72057594037927936 by rfl] at this
        omega
      have hor := or_byte v0 v2 ⟨hx0, hx1⟩
      have HD_ := hide hd
      clear hd hx hlx v1
      generalize getB (l.drop (m + 1)) = v at *
      go_wp2
      go_round
      case measure => simp [intOf]
      case rel => exact ⟨m, by omega, rfl, by rw [HD_.out]⟩
end Go.Proofs.Ytopanomcbkhbnaa
