/-
  Plain words on instructions: which may be, in numbers; there and back. Conditions: those written in each statement.
-/
import Derived.Test.YtopanomcbkhbnaaIf
import Derived.Test.YtopanomcbkhbnaaGe
namespace Go.Proofs.Ytopanomcbkhbnaa
open Go.RowKit
set_option linter.unusedVariables false
set_option linter.unusedSimpArgs false
def Rng (x : ID) : Prop := 0 ≤ x.dst ∧ x.dst ≤ 10 ∧ 0 ≤ x.src ∧ x.src ≤ 10 ∧ -32768 ≤ x.off ∧ x.off ≤ 32767 ∧ -2147483648 ≤ x.imm ∧ x.imm ≤ 2147483647
def MayK (x : ID) : Prop :=
  (x.kind = 0 ∧ 0 ≤ x.op ∧ x.op ≤ 12 ∧ (x.width = 32 ∨ x.width = 64) ∧ x.dst < 10 ∧ x.size = 0 ∧ x.off = 0 ∧ ((x.byReg = true ∧ x.op ≠ 8 ∧ x.imm = 0) ∨ (x.byReg = false ∧ x.src = 0 ∧ (x.op = 8 → x.imm = 0))))
  ∨ (x.kind = 1 ∧ (x.size = 1 ∨ x.size = 2 ∨ x.size = 4 ∨ x.size = 8) ∧ x.dst < 10 ∧ x.op = 0 ∧ x.width = 0 ∧ x.byReg = false ∧ x.imm = 0)
  ∨ (x.kind = 2 ∧ (x.size = 1 ∨ x.size = 2 ∨ x.size = 4 ∨ x.size = 8) ∧ x.op = 0 ∧ x.width = 0 ∧ x.byReg = false ∧ x.imm = 0)
  ∨ (x.kind = 3 ∧ 0 ≤ x.op ∧ x.op ≤ 10 ∧ x.width = 0 ∧ x.size = 0 ∧ ((x.byReg = true ∧ x.imm = 0) ∨ (x.byReg = false ∧ x.src = 0)))
  ∨ (x.kind = 4 ∧ x.op = 0 ∧ x.width = 0 ∧ x.size = 0 ∧ x.byReg = false ∧ x.dst = 0 ∧ x.src = 0 ∧ x.imm = 0)
  ∨ (x.kind = 5 ∧ x.op = 0 ∧ x.width = 0 ∧ x.size = 0 ∧ x.byReg = false ∧ x.dst = 0 ∧ x.src = 0 ∧ x.off = 0 ∧ 0 ≤ x.imm ∧ x.imm ≤ 15)
  ∨ (x.kind = 6 ∧ x.op = 0 ∧ x.width = 0 ∧ x.size = 0 ∧ x.byReg = false ∧ x.dst = 0 ∧ x.src = 0 ∧ x.off = 0 ∧ x.imm = 0)
theorem rng_iff (x : ID) : rngB x = true ↔ Rng x := by
  unfold rngB Rng
  simp only [Bool.and_eq_true, inB_iff]
  omega
theorem mayk_iff (x : ID) : (bareM x && eqL (bareR x).cells (kz x.kind).cells) = true ↔ MayK x := by
  obtain ⟨k, op, wd, sz, br, dst, src, off, imm⟩ := x
  unfold MayK bareM bareR immR kz ID.cells
  dsimp only
  by_cases h0 : k = 0
  · subst h0
    cases br <;> simp [eqL, eqV, inB] <;> omega
  by_cases h1 : k = 1
  · subst h1
    cases br <;> simp [eqL, eqV, inB, szB] <;> omega
  by_cases h2 : k = 2
  · subst h2
    cases br <;> simp [eqL, eqV, inB, szB] <;> omega
  by_cases h3 : k = 3
  · subst h3
    cases br <;> simp [eqL, eqV, inB] <;> omega
  by_cases h4 : k = 4
  · subst h4
    cases br <;> simp [eqL, eqV, inB] <;> omega
  by_cases h5 : k = 5
  · subst h5
    cases br <;> simp [eqL, eqV, inB] <;> omega
  by_cases h6 : k = 6
  · subst h6
    cases br <;> simp [eqL, eqV, inB] <;> omega
  · simp [h0, h1, h2, h3, h4, h5, h6]
theorem may_iff (x : ID) : mayB x = true ↔ Rng x ∧ MayK x := by
  unfold mayB
  rw [Bool.and_eq_true, rng_iff, mayk_iff]
/-! ### there and back -/
def sg16 (v : Int) : Int := (v + 32768) % 65536 - 32768
def sg32 (v : Int) : Int := (v + 2147483648) % 4294967296 - 2147483648
/-- What eight bytes read as, if anything: the first byte must name something. -/
def rdOp (c : Int) : Bool := decide (c < 64) || (decide (64 ≤ c) && decide (c < 68)) || (decide (72 ≤ c) && decide (c < 76)) || (decide (80 ≤ c) && decide (c < 112) && decide (c % 16 ≤ 10)) || (decide (111 ≤ c) && decide (c ≤ 113))
def szOf (k : Int) : Int := if k = 0 then 1 else if k = 1 then 2 else if k = 2 then 4 else 8
def rdX (b : List Int) : ID :=
  let c := b.getD 0 0
  let d := b.getD 1 0 % 16
  let s := b.getD 1 0 / 16
  let o := sg16 (getB ((b.drop 2).take 2))
  let i := sg32 (getB ((b.drop 4).take 4))
  if c < 64 then ⟨0, c % 16, if c % 64 / 32 = 1 then 32 else 64, 0, c % 32 / 16 == 1, d, s, o, i⟩
  else if c < 68 then ⟨1, 0, 0, szOf (c - 64), false, d, s, o, i⟩
  else if c < 76 then ⟨2, 0, 0, szOf (c - 72), false, d, s, o, i⟩
  else if c < 112 ∧ c % 16 ≤ 10 then ⟨3, c % 16, 0, 0, decide (96 ≤ c), d, s, o, i⟩
  else ⟨4 + (c - 111), 0, 0, 0, false, d, s, o, i⟩
theorem putB_two (v : Int) : putB v 2 = [v % 256, v / 256 % 256] := by
  unfold putB
  simp [List.range_succ, byI]
theorem putB_four (v : Int) : putB v 4 = [v % 256, v / 256 % 256, v / 65536 % 256, v / 16777216 % 256] := by
  unfold putB
  simp [List.range_succ, byI]
theorem insB_eq (x : ID) : insB x = [codeN x, x.dst + 16 * x.src, uOf x.off % 256, uOf x.off / 256 % 256, uOf x.imm % 256, uOf x.imm / 256 % 256, uOf x.imm / 65536 % 256, uOf x.imm / 16777216 % 256] := by
  unfold insB
  rw [putB_two, putB_four]
  rfl
theorem sg16_u (v : Int) (h : -32768 ≤ v ∧ v ≤ 32767) : sg16 (uOf v % 256 + 256 * (uOf v / 256 % 256 + 256 * 0)) = v := by unfold sg16 uOf; omega
theorem sg32_u (v : Int) (h : -2147483648 ≤ v ∧ v ≤ 2147483647) : sg32 (uOf v % 256 + 256 * (uOf v / 256 % 256 + 256 * (uOf v / 65536 % 256 + 256 * (uOf v / 16777216 % 256 + 256 * 0)))) = v := by unfold sg32 uOf; omega
theorem ID.ext_ {x y : ID} (h0 : x.kind = y.kind) (h1 : x.op = y.op) (h2 : x.width = y.width) (h3 : x.size = y.size) (h4 : x.byReg = y.byReg) (h5 : x.dst = y.dst) (h6 : x.src = y.src) (h7 : x.off = y.off) (h8 : x.imm = y.imm) : x = y := by
  cases x
  cases y
  simp_all
theorem rd_ins (x : ID) (h : mayB x = true) : rdX (insB x) = x ∧ rdOp ((insB x).getD 0 0) = true := by
  obtain ⟨hr, hk⟩ := (may_iff x).1 h
  clear h
  obtain ⟨k, op, wd, sz, br, dst, src, off, imm⟩ := x
  unfold Rng at hr
  dsimp only at hr
  have ho := sg16_u off (by omega)
  have hi := sg32_u imm (by omega)
  have hd : (dst + 16 * src) % 16 = dst := by omega
  have hs : (dst + 16 * src) / 16 = src := by omega
  rw [insB_eq]
  unfold rdX
  simp only [List.getD_cons_zero, List.getD_cons_succ, List.drop_succ_cons, List.drop_zero, List.take_succ_cons, List.take_zero, getB]
  rw [ho, hi, hd, hs]
  unfold MayK at hk
  dsimp only at hk
  rcases hk with ⟨rfl, h⟩ | ⟨rfl, h⟩ | ⟨rfl, h⟩ | ⟨rfl, h⟩ | ⟨rfl, h⟩ | ⟨rfl, h⟩ | ⟨rfl, h⟩
  · have hc : codeN ⟨0, op, wd, sz, br, dst, src, off, imm⟩ = op + (if br then 16 else 0) + (if wd = 32 then 32 else 0) := rfl
    rw [hc]
    obtain ⟨h1, h2, h3, h4, h5, h6, h7⟩ := h
    rcases h3 with rfl | rfl
    all_goals
      cases br
      all_goals
        simp only [if_true, if_false, Bool.false_eq_true, reduceIte, Int.reduceEq]
        refine ⟨?_, by unfold rdOp; simp; omega⟩
        rw [if_pos (by omega)]
        refine ID.ext_ rfl ?_ ?_ (by dsimp only; omega) ?_ rfl rfl rfl rfl
        · dsimp only; omega
        · dsimp only; first | (rw [if_pos (by omega)]; done) | (rw [if_neg (by omega)]; done)
        · dsimp only; first | (rw [beq_iff_eq]; omega) | (rw [beq_eq_false_iff_ne]; omega)
  · have hc : codeN ⟨1, op, wd, sz, br, dst, src, off, imm⟩ = 64 + lgN 4 sz := rfl
    rw [hc]
    obtain ⟨h1, h2, rfl, rfl, rfl, rfl⟩ := h
    rcases h1 with rfl | rfl | rfl | rfl
    all_goals exact ⟨rfl, rfl⟩
  · have hc : codeN ⟨2, op, wd, sz, br, dst, src, off, imm⟩ = 72 + lgN 4 sz := rfl
    rw [hc]
    obtain ⟨h1, rfl, rfl, rfl, rfl⟩ := h
    rcases h1 with rfl | rfl | rfl | rfl
    all_goals exact ⟨rfl, rfl⟩
  · have hc : codeN ⟨3, op, wd, sz, br, dst, src, off, imm⟩ = 80 + op + (if br then 16 else 0) := rfl
    rw [hc]
    obtain ⟨h1, h2, h3, h4, h5⟩ := h
    cases br
    all_goals
      simp only [if_true, if_false, Bool.false_eq_true, reduceIte]
      refine ⟨?_, by unfold rdOp; simp; omega⟩
      rw [if_neg (by omega), if_neg (by omega), if_neg (by omega), if_pos (by omega)]
      refine ID.ext_ rfl ?_ (by dsimp only; omega) (by dsimp only; omega) ?_ rfl rfl rfl rfl
      · dsimp only; omega
      · dsimp only; first | (rw [decide_eq_true_eq]; omega) | (rw [decide_eq_false_iff_not]; omega)
  · have hc : codeN ⟨4, op, wd, sz, br, dst, src, off, imm⟩ = 111 := rfl
    rw [hc]
    obtain ⟨rfl, rfl, rfl, rfl, rfl, rfl, rfl⟩ := h
    exact ⟨rfl, rfl⟩
  · have hc : codeN ⟨5, op, wd, sz, br, dst, src, off, imm⟩ = 112 := rfl
    rw [hc]
    obtain ⟨rfl, rfl, rfl, rfl, rfl, rfl, rfl, _⟩ := h
    exact ⟨rfl, rfl⟩
  · have hc : codeN ⟨6, op, wd, sz, br, dst, src, off, imm⟩ = 113 := rfl
    rw [hc]
    obtain ⟨rfl, rfl, rfl, rfl, rfl, rfl, rfl, rfl⟩ := h
    exact ⟨rfl, rfl⟩
theorem ins_inj {x y : ID} (hx : mayB x = true) (hy : mayB y = true) (h : insB x = insB y) : x = y := by
  rw [← (rd_ins x hx).1, ← (rd_ins y hy).1, h]
end Go.Proofs.Ytopanomcbkhbnaa
