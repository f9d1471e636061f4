/-
  instr.Bytes: an instruction's bytes. Conditions: those written in each statement.
-/
import Derived.Test.YtopanomcbkhbnaaId
import Derived.Test.YtopanomcbkhbnaaPu
import Derived.Deep.RegionHeld3
namespace Go.Proofs.Ytopanomcbkhbnaa
open Go.RowKit
set_option linter.unusedVariables false
set_option linter.unusedSimpArgs false
theorem ofInt_u8 (a : Nat) (ha : a < 256) : (BitVec.ofInt 8 (a : Int)).toNat = a := by
  rw [BitVec.ofInt_natCast, BitVec.toNat_ofNat]; exact Nat.mod_eq_of_lt (by omega)
theorem u8_or_nat (a b : Nat) (ha : a < 256) (hb : b < 256) : bits .or .u8 (a : Int) (b : Int) = ((a ||| b : Nat) : Int) := by
  have hx : a ||| b < 2 ^ 8 := Nat.or_lt_two_pow (by omega) (by omega)
  show IntKind.u8.wrap ((BitVec.ofInt 8 (a : Int) ||| BitVec.ofInt 8 (b : Int)).toNat : Int) = _
  rw [BitVec.toNat_or, ofInt_u8 a ha, ofInt_u8 b hb, IntKind.wrap_u8]
  omega
theorem or_nib {a b : Int} (ha : 0 ≤ a ∧ a ≤ 10) (hb : 0 ≤ b ∧ b ≤ 10) : bits .or .u8 a (b * 16) = a + 16 * b := by
  obtain ⟨m, rfl⟩ := Int.eq_ofNat_of_zero_le ha.1
  obtain ⟨n, rfl⟩ := Int.eq_ofNat_of_zero_le hb.1
  have hm : m < 2 ^ 4 := by omega
  rw [show ((n : Int) * 16) = ((n * 16 : Nat) : Int) by omega, u8_or_nat m (n * 16) (by omega) (by omega)]
  have := Nat.two_pow_add_eq_or_of_lt hm n
  rw [Nat.or_comm, show n * 16 = 2 ^ 4 * n by omega, ← this]
  omega
/-- A number as 64 bits. -/
def uOf (v : Int) : Int := v % 18446744073709551616
theorem uOf_bd (v : Int) : U64 (uOf v) := by unfold uOf U64; omega
def insB (x : ID) : List Int := [codeN x, x.dst + 16 * x.src] ++ putB (uOf x.off) 2 ++ putB (uOf x.imm) 4
theorem may_regs {x : ID} (h : mayB x = true) : (0 ≤ x.dst ∧ x.dst ≤ 10) ∧ (0 ≤ x.src ∧ x.src ≤ 10) ∧ (-32768 ≤ x.off ∧ x.off ≤ 32767) ∧ (-2147483648 ≤ x.imm ∧ x.imm ≤ 2147483647) := by
  unfold mayB rngB at h
  simp only [Bool.and_eq_true] at h
  exact ⟨inB_iff.1 h.1.1.1.1, inB_iff.1 h.1.1.1.2, inB_iff.1 h.1.1.2, inB_iff.1 h.1.2⟩
set_option maxRecDepth 100000 in
set_option maxHeartbeats 2000000 in
theorem bytes_yes (x : ID) (w : World) (hx : x.wf) (hm : mayB x = true) :
    Calls Try.prog 13 #[.agg x.cells.toArray] w fun e w' => ∃ sv, e = .returned (.tuple #[sv, .int .i64 0]) ∧ w'.ownsRow w.heap.size 5 1 sv 8 ((insB x).map (Value.int .u8)) ∧ Below w.heap.size w w' := by
  have HX := hide hx
  have HM := hide hm
  have HK := hide (may_kind hm)
  have hrg := may_regs hm
  have HMY := hide (fun w => may_any x w hx)
  have HCD := hide (fun g w h => code_any x g w h (may_kind hm))
  obtain ⟨cd, hcd⟩ : ∃ c, codeN x = c := ⟨_, rfl⟩
  have HCN := hide hcd
  obtain ⟨i8, hi8, hz8, hs8, hb8⟩ := info_parts inf8
  have I8_ := hide (And.intro hi8 (And.intro hz8 (And.intro hs8 hb8)))
  clear hx hm hcd hi8 hz8 hs8 hb8
  obtain ⟨k, op, wd, sz, br, dst, src, off, imm⟩ := x
  obtain ⟨⟨d0, d1⟩, ⟨s0, s1⟩, ⟨f0, f1⟩, ⟨m0, m1⟩⟩ := hrg
  dsimp only at d0 d1 s0 s1 f0 f1 m0 m1
  have hor := or_nib ⟨d0, d1⟩ ⟨s0, s1⟩
  have hw1 : IntKind.u8.wrap dst = dst := by rw [IntKind.wrap_u8]; omega
  have hw2 : IntKind.u8.wrap src = src := by rw [IntKind.wrap_u8]; omega
  have hw3 : IntKind.u8.wrap (src * 16) = src * 16 := by rw [IntKind.wrap_u8]; omega
  obtain ⟨ov, hov⟩ : ∃ v, IntKind.u64.wrap off = v := ⟨_, rfl⟩
  obtain ⟨iv, hiv⟩ : ∃ v, IntKind.u64.wrap imm = v := ⟨_, rfl⟩
  have HOV := hide (show uOf off = ov by rw [← hov, IntKind.wrap_u64]; rfl)
  have HIV := hide (show uOf imm = iv by rw [← hiv, IntKind.wrap_u64]; rfl)
  have HOU := hide (show U64 ov by rw [← HOV.out]; exact uOf_bd _)
  have HIU := hide (show U64 iv by rw [← HIV.out]; exact uOf_bd _)
  show Calls Try.prog 13 #[.agg #[.int .i8 k, .int .i8 op, .int .i8 wd, .int .i8 sz, .bool br, .int .i8 dst, .int .i8 src, .int .i64 off, .int .i64 imm]] w _
  have hX0 := Blk.new w 32 #[.int .i8 k, .int .i8 op, .int .i8 wd, .int .i8 sz, .bool br, .int .i8 dst, .int .i8 src, .int .i64 off, .int .i64 imm]
  have HX0 := hide hX0
  clear hX0
  go_enter Try.func13, Try.ntmps13
  go_wp2_with fail
  refine (HMY.out _).mono ?_
  rintro e w1 ⟨rfl, hb⟩
  rw [HM.out]
  have hX1 := HX0.out.below hb (by simp)
  have HB1 := hide (((Below.refl w.heap.size w).alloc (Nat.le_refl _) _).trans (hb.mono (le_alloc _ (Nat.le_refl _))))
  have q5 : w1.cell? ⟨w.heap.size, 5, none⟩ = some (.int .i8 dst) := hX1.cell 5
  have q6 : w1.cell? ⟨w.heap.size, 6, none⟩ = some (.int .i8 src) := hX1.cell 6
  have HX1 := hide hX1
  have hl1 := hX1.lt
  clear hb hX1 HX0
  go_wp2_with fail
  go_region_held3 (fun w' => w'.cell? ⟨w.heap.size, 5, none⟩ = some (.int .i8 dst) ∧ w'.cell? ⟨w.heap.size, 6, none⟩ = some (.int .i8 src))
    (first | exact ⟨q5, q6⟩ | exact ⟨(World.cell?_alloc_lt _ _ ⟨w.heap.size, 5, none⟩ HX2.out.lt).trans q5, (World.cell?_alloc_lt _ _ ⟨w.heap.size, 6, none⟩ HX2.out.lt).trans q6⟩)
    ((go_at_call 31
      refine (HCD.out _ _ (by exact HX1.out)).mono ?_
      rintro e w2 ⟨rfl, hb⟩
      rw [HCN.out]
      have hb' : Below w1.heap.size w1 w2 := by first | exact hb | exact (Below.refl _ _).drew.trans hb
      replace q5 : w2.cell? ⟨w.heap.size, 5, none⟩ = some (.int .i8 dst) := (hb'.cell (p := ⟨w.heap.size, 5, none⟩) hl1).trans q5
      replace q6 : w2.cell? ⟨w.heap.size, 6, none⟩ = some (.int .i8 src) := (hb'.cell (p := ⟨w.heap.size, 6, none⟩) hl1).trans q6
      have HX2 := hide (HX1.out.below hb' hl1)
      have HB2 := hide (HB1.out.trans (hb'.mono (Nat.le_of_lt hl1)))
      clear hb hb'))
  clear hor hw1 hw2 hw3 q5 q6
  have hl2 := HX2.out.lt
  obtain ⟨sv3, hsv3⟩ : ∃ v : Value, v = .slice (some ⟨w2.heap.size, 0, none⟩) 2 2 := ⟨_, rfl⟩
  have hO3 := own_new w2 (w.heap.size + 1) 5 [.int .u8 cd, .int .u8 (dst + 16 * src)] 2 hl2 rfl (by unfold maxLen; omega)
  have hX3 := HX2.out.alloc (.cells #[.int .u8 cd, .int .u8 (dst + 16 * src)] 5)
  have hB3 := HB2.out.alloc HB2.out.size (.cells #[.int .u8 cd, .int .u8 (dst + 16 * src)] 5)
  go_wp2_with fail
  generalize (w2.alloc (.cells #[.int .u8 cd, .int .u8 (dst + 16 * src)] 5)) = w3 at hO3 hX3 hB3 ⊢
  rw [← hsv3] at hO3 ⊢
  have q7 : w3.cell? ⟨w.heap.size, 7, none⟩ = some (.int .i64 off) := hX3.cell 7
  have q8 : w3.cell? ⟨w.heap.size, 8, none⟩ = some (.int .i64 imm) := hX3.cell 8
  have hl3 := hX3.lt
  have HO3 := hide hO3
  have HB3 := hide hB3
  clear hO3 hX3 hB3 hsv3 HX2 HB2 HX1 HB1
  go_region_held3 (fun w' => w'.cell? ⟨w.heap.size, 7, none⟩ = some (.int .i64 off) ∧ w'.cell? ⟨w.heap.size, 8, none⟩ = some (.int .i64 imm))
    (exact ⟨q7, q8⟩)
    ((first
      | (go_at_call_of 32 ov
         refine (put_n ov 2 2 _ rfl HOU.out (by omega)).mono ?_
         rintro e w4 ⟨p1, rfl, hown, hb⟩
         have hb' : Below w3.heap.size w3 w4 := by first | exact hb | exact (Below.refl _ _).drew.trans hb
         have HO4 := hide (own_below HO3.out hb')
         obtain ⟨A1, c1, rfl, _, hr1⟩ := own_slice hown (by omega)
         have HR1 := hide hr1
         have HB4 := hide (HB3.out.trans (hb'.mono (Nat.le_of_lt hl3)))
         replace q7 : w4.cell? ⟨w.heap.size, 7, none⟩ = some (.int .i64 off) := (hb'.cell (p := ⟨w.heap.size, 7, none⟩) hl3).trans q7
         replace q8 : w4.cell? ⟨w.heap.size, 8, none⟩ = some (.int .i64 imm) := (hb'.cell (p := ⟨w.heap.size, 8, none⟩) hl3).trans q8
         have hl4 : w.heap.size < w4.heap.size := Nat.lt_of_lt_of_le hl3 hb'.size
         clear hb hb' hown hr1)
      | (refine step_append_any _ (by rfl) (.tmp 18) (.tmp 22) 36 rfl (w.heap.size + 1) 5 i8 (.int .u8 0) 1 1 Try.underlying36 I8_.out.1 I8_.out.2.1 I8_.out.2.2.1 I8_.out.2.2.2 rfl (by omega) sv3 2 _ (by rfl) (by exact HO4.out) _ A1 2 c1 _ (by rfl) (by exact HR1.out) (by intro u hu; simp at hu; obtain ⟨a, _, rfl⟩ := hu; rfl) (by unfold maxLen; omega) (by omega) (by exact hl4) ?_
         intro v5 w5 hown hg _
         have hg' : w4.grownBy w5 sv3.ownBlock := hg
         have hne : ∀ g, sv3.ownBlock = some g → w.heap.size + 1 ≤ g := own_ge HO4.out
         have hne' : some w.heap.size ≠ sv3.ownBlock := fun e => by have := hne _ e.symm; omega
         have HO5 := hide hown
         have HB5 := hide (HB4.out.grown hg' (Nat.le_of_lt hl4) (fun g e => by have := hne g e; omega))
         replace q7 : w5.cell? ⟨w.heap.size, 7, none⟩ = some (.int .i64 off) := hg'.cell q7 hne'
         replace q8 : w5.cell? ⟨w.heap.size, 8, none⟩ = some (.int .i64 imm) := hg'.cell q8 hne'
         have hl5 : w.heap.size < w5.heap.size := Nat.lt_of_lt_of_le hl4 hg'.size
         clear hown hg hg' hne hne')
      | (go_at_call_of 32 iv
         refine (put_n iv 4 4 _ rfl HIU.out (by omega)).mono ?_
         rintro e w6 ⟨p2, rfl, hown, hb⟩
         have hb' : Below w5.heap.size w5 w6 := by first | exact hb | exact (Below.refl _ _).drew.trans hb
         have HO6 := hide (own_below HO5.out hb')
         obtain ⟨A2, c2, rfl, _, hr2⟩ := own_slice hown (by omega)
         have HR2 := hide hr2
         have HB6 := hide (HB5.out.trans (hb'.mono (Nat.le_of_lt hl5)))
         replace q7 : w6.cell? ⟨w.heap.size, 7, none⟩ = some (.int .i64 off) := (hb'.cell (p := ⟨w.heap.size, 7, none⟩) hl5).trans q7
         replace q8 : w6.cell? ⟨w.heap.size, 8, none⟩ = some (.int .i64 imm) := (hb'.cell (p := ⟨w.heap.size, 8, none⟩) hl5).trans q8
         have hl6 : w.heap.size < w6.heap.size := Nat.lt_of_lt_of_le hl5 hb'.size
         clear hb hb' hown hr2)
      | (refine step_append_any _ (by rfl) (.tmp 23) (.tmp 27) 36 rfl (w.heap.size + 1) 5 i8 (.int .u8 0) 1 1 Try.underlying36 I8_.out.1 I8_.out.2.1 I8_.out.2.2.1 I8_.out.2.2.2 rfl (by omega) v5 (2 + 2) _ (by rfl) (by exact HO6.out) _ A2 4 c2 _ (by rfl) (by exact HR2.out) (by intro u hu; simp at hu; obtain ⟨a, _, rfl⟩ := hu; rfl) (by unfold maxLen; omega) (by omega) (by exact hl6) ?_
         intro v7 w7 hown hg _
         have hg' : w6.grownBy w7 v5.ownBlock := hg
         have hne : ∀ g, v5.ownBlock = some g → w.heap.size + 1 ≤ g := own_ge HO6.out
         have hne' : some w.heap.size ≠ v5.ownBlock := fun e => by have := hne _ e.symm; omega
         have HO7 := hide hown
         have HB7 := hide (HB6.out.grown hg' (Nat.le_of_lt hl6) (fun g e => by have := hne g e; omega))
         replace q7 : w7.cell? ⟨w.heap.size, 7, none⟩ = some (.int .i64 off) := hg'.cell q7 hne'
         replace q8 : w7.cell? ⟨w.heap.size, 8, none⟩ = some (.int .i64 imm) := hg'.cell q8 hne'
         clear hown hg hg' hne hne')))
  all_goals
    go_wp2
    go_ret2
    refine ⟨_, rfl, own_base (b := w.heap.size) ?_ (Nat.le_succ _), HB7.out⟩
    have := HO7.out
    unfold insB
    dsimp only
    rw [HCN.out, HOV.out, HIV.out]
    simpa using this
end Go.Proofs.Ytopanomcbkhbnaa
