/-
  Plain words on numbers of 64 bits: cuts, signs, sums, differences; no program in sight. Conditions: those written in each statement.
-/
import Derived.Test.YtejgpgkigcbflaaKit
namespace Go.Proofs.Ytejgpgkigcbflaa
open Go.RowKit
/-- A word of 64 bits. -/
def U (v : Int) : Prop := 0 ≤ v ∧ v < 18446744073709551616
/-- A width of arithmetic. -/
def Wd (w : Int) : Prop := w = 32 ∨ w = 64
def modW (w : Int) : Int := if w = 32 then 4294967296 else 18446744073709551616
def halfW (w : Int) : Int := if w = 32 then 2147483648 else 9223372036854775808
def cutW (w v : Int) : Int := if w = 32 then v % 4294967296 else v
def negW (w v : Int) : Bool := decide (halfW w ≤ cutW w v)
def sumW (w a b : Int) : Int := (cutW w a + cutW w b) % modW w
def difW (w a b : Int) : Int := (cutW w a - cutW w b) % modW w
def addC (w a b : Int) : Bool := decide (modW w ≤ cutW w a + cutW w b)
def addZ (w a b : Int) : Bool := sumW w a b == 0
def addS (w a b : Int) : Bool := decide (halfW w ≤ sumW w a b)
def addO (w a b : Int) : Bool := (negW w a == negW w b) && (addS w a b != negW w a)
def subC (w a b : Int) : Bool := decide (cutW w a < cutW w b)
def subZ (w a b : Int) : Bool := difW w a b == 0
def subS (w a b : Int) : Bool := decide (halfW w ≤ difW w a b)
def subO (w a b : Int) : Bool := (negW w a != negW w b) && (subS w a b != negW w a)
theorem U_wrap (x : Int) : U (IntKind.u64.wrap x) := by unfold U; rw [IntKind.wrap_u64]; omega
theorem cut_sum {w a b : Int} (hw : Wd w) : cutW w (IntKind.u64.wrap (a + b)) = sumW w a b := by
  rw [IntKind.wrap_u64]
  rcases hw with rfl | rfl <;> simp [cutW, sumW, modW] <;> omega
theorem cut_dif {w a b : Int} (hw : Wd w) : cutW w (IntKind.u64.wrap (a - b)) = difW w a b := by
  rw [IntKind.wrap_u64]
  rcases hw with rfl | rfl <;> simp [cutW, difW, modW] <;> omega
theorem cut_cut {w v : Int} : cutW w (cutW w v) = cutW w v := by unfold cutW; split <;> omega
theorem cut_bd {w v : Int} (hw : Wd w) (hv : U v) : 0 ≤ cutW w v ∧ cutW w v < modW w := by
  unfold U at hv
  rcases hw with rfl | rfl <;> simp [cutW, modW] <;> omega
theorem U_cut {w v : Int} (hw : Wd w) (hv : U v) : U (cutW w v) := by
  have := cut_bd hw hv
  unfold U
  rcases hw with rfl | rfl <;> simp [modW] at this <;> omega
theorem neg_sum {w a b : Int} (hw : Wd w) : negW w (IntKind.u64.wrap (a + b)) = addS w a b := by rw [negW, cut_sum hw]; rfl
theorem neg_dif {w a b : Int} (hw : Wd w) : negW w (IntKind.u64.wrap (a - b)) = subS w a b := by rw [negW, cut_dif hw]; rfl
theorem neg_cut {w v : Int} : negW w (cutW w v) = negW w v := by rw [negW, cut_cut]; rfl
theorem sum_cut {w a b : Int} : sumW w (cutW w a) (cutW w b) = sumW w a b := by rw [sumW, cut_cut, cut_cut]; rfl
theorem dif_cut {w a b : Int} : difW w (cutW w a) (cutW w b) = difW w a b := by rw [difW, cut_cut, cut_cut]; rfl
def topBit (w : Int) : Nat := if w = 32 then 31 else 63
theorem neg_bit {w v : Int} (hw : Wd w) (hv : U v) : negW w v = v.toNat.testBit (topBit w) := by
  unfold U at hv
  rw [Nat.testBit_eq_decide_div_mod_eq]
  rcases hw with rfl | rfl
  · simp [negW, halfW, cutW, topBit] <;> omega
  · simp [negW, halfW, cutW, topBit] <;> omega
theorem bits_toNat_xor {a b : Int} (ha : U a) (hb : U b) : bits .xor .u64 a b = ((a.toNat ^^^ b.toNat : Nat) : Int) := u64_xor a b ha.1 ha.2 hb.1 hb.2
theorem U_nat {n : Nat} (h : n < 2 ^ 64) : U (n : Int) := by unfold U; omega
theorem U_lt {v : Int} (h : U v) : v.toNat < 2 ^ 64 := by unfold U at h; omega
theorem U_xor {a b : Int} (ha : U a) (hb : U b) : U (bits .xor .u64 a b) := by rw [bits_toNat_xor ha hb]; exact U_nat (Nat.xor_lt_two_pow (U_lt ha) (U_lt hb))
theorem U_and {a b : Int} (ha : U a) (hb : U b) : U (bits .and .u64 a b) := by rw [u64_and a b ha.1 ha.2 hb.1 hb.2]; exact U_nat (Nat.and_lt_two_pow _ (U_lt hb))
theorem neg_xor {w a b : Int} (hw : Wd w) (ha : U a) (hb : U b) : negW w (bits .xor .u64 a b) = (negW w a != negW w b) := by
  rw [neg_bit hw (U_xor ha hb), neg_bit hw ha, neg_bit hw hb, bits_toNat_xor ha hb, Int.toNat_natCast, Nat.testBit_xor]
theorem neg_and {w a b : Int} (hw : Wd w) (ha : U a) (hb : U b) : negW w (bits .and .u64 a b) = (negW w a && negW w b) := by
  rw [neg_bit hw (U_and ha hb), neg_bit hw ha, neg_bit hw hb, u64_and a b ha.1 ha.2 hb.1 hb.2, Int.toNat_natCast, Nat.testBit_and]
theorem o_sum {w a b : Int} (hw : Wd w) (ha : U a) (hb : U b) :
    negW w (bits .and .u64 (bits .xor .u64 a (IntKind.u64.wrap (a + b))) (bits .xor .u64 b (IntKind.u64.wrap (a + b)))) = addO w a b := by
  rw [neg_and hw (U_xor ha (U_wrap _)) (U_xor hb (U_wrap _)), neg_xor hw ha (U_wrap _), neg_xor hw hb (U_wrap _), neg_sum hw]
  unfold addO
  cases negW w a <;> cases negW w b <;> cases addS w a b <;> rfl
theorem o_dif {w a b : Int} (hw : Wd w) (ha : U a) (hb : U b) :
    negW w (bits .and .u64 (bits .xor .u64 a b) (bits .xor .u64 a (IntKind.u64.wrap (a - b)))) = subO w a b := by
  rw [neg_and hw (U_xor ha hb) (U_xor ha (U_wrap _)), neg_xor hw ha hb, neg_xor hw ha (U_wrap _), neg_dif hw]
  unfold subO
  cases negW w a <;> cases negW w b <;> cases subS w a b <;> rfl
theorem c_sum {w a b : Int} (hw : Wd w) (ha : U a) (hb : U b) : decide (cutW w (IntKind.u64.wrap (a + b)) < cutW w a) = addC w a b := by
  rw [cut_sum hw]
  have h1 := cut_bd hw ha
  have h2 := cut_bd hw hb
  unfold addC sumW
  rw [decide_eq_decide]
  rcases hw with rfl | rfl <;> simp only [modW] at * <;> simp at * <;> omega
end Go.Proofs.Ytejgpgkigcbflaa
