/-
  latheref03.code, Bytes: an instruction's bytes, or none, the document's. Conditions: those written in each statement.
-/
import Derived.Test.YtopanomcbkhbnaaSc
import Derived.Test.YtopanomcbkhbnaaSd
import Derived.Test.YtopanomcbkhbnaaIf
import Derived.Deep.RegionHeld3
namespace Go.Proofs.Ytopanomcbkhbnaa
open Go.RowKit
set_option linter.unusedVariables false
set_option linter.unusedSimpArgs false
theorem codeN_bd {x : ID} (h : KindOk x) : 0 ≤ codeN x ∧ codeN x < 256 := by
  have hk := h
  have hl := lg_bd 4 (by omega) x.size
  unfold KindOk at hk
  unfold codeN byN
  repeat' split
  all_goals omega
def RCodeP (x : ID) (w : World) (e : Ending) (w' : World) : Prop := e = .returned (.int .i64 (codeN x)) ∧ Below w.heap.size w w'
set_option maxRecDepth 100000 in
set_option maxHeartbeats 2000000 in
theorem rcode_0t (op wd sz dst src off imm : Int) (w : World) (o0 : 0 ≤ op) (o1 : op ≤ 12) : Calls Try.prog 34 #[.agg #[.int .i8 0, .int .i8 op, .int .i8 wd, .int .i8 sz, .bool true, .int .i8 dst, .int .i8 src, .int .i64 off, .int .i64 imm]] w (RCodeP ⟨0, op, wd, sz, true, dst, src, off, imm⟩ w) := by
  cases hw : (wd == 32)
  all_goals
    go_enter Try.func34, Try.ntmps34
    go_wp2
    go_ret
    exact ⟨ret_i (by unfold codeN byN; dsimp only; simp at hw; simp [*] <;> omega), (Below.refl _ _).alloc (Nat.le_refl _) _⟩
set_option maxRecDepth 100000 in
set_option maxHeartbeats 2000000 in
theorem rcode_0f (op wd sz dst src off imm : Int) (w : World) (o0 : 0 ≤ op) (o1 : op ≤ 12) : Calls Try.prog 34 #[.agg #[.int .i8 0, .int .i8 op, .int .i8 wd, .int .i8 sz, .bool false, .int .i8 dst, .int .i8 src, .int .i64 off, .int .i64 imm]] w (RCodeP ⟨0, op, wd, sz, false, dst, src, off, imm⟩ w) := by
  cases hw : (wd == 32)
  all_goals
    go_enter Try.func34, Try.ntmps34
    go_wp2
    go_ret
    exact ⟨ret_i (by unfold codeN byN; dsimp only; simp at hw; simp [*] <;> omega), (Below.refl _ _).alloc (Nat.le_refl _) _⟩
set_option maxRecDepth 100000 in
set_option maxHeartbeats 2000000 in
theorem rcode_1 (op wd sz dst src off imm : Int) (w : World) (br : Bool) (o0 : 0 ≤ op) (o1 : op ≤ 12) : Calls Try.prog 34 #[.agg #[.int .i8 1, .int .i8 op, .int .i8 wd, .int .i8 sz, .bool br, .int .i8 dst, .int .i8 src, .int .i64 off, .int .i64 imm]] w (RCodeP ⟨1, op, wd, sz, br, dst, src, off, imm⟩ w) := by
  have hlg := lg_bd 4 (by omega) sz
  obtain ⟨lg, hlgn⟩ : ∃ v, lgN 4 sz = v := ⟨_, rfl⟩
  rw [hlgn] at hlg
  obtain ⟨l0, l1⟩ := hlg
  have HLG := hide hlgn
  clear hlgn
  go_enter Try.func34, Try.ntmps34
  go_wp2_with fail
  refine (rlog_any _ _).mono ?_
  rintro e w' ⟨rfl, rfl⟩
  rw [HLG.out]
  go_wp2
  go_ret
  exact ⟨ret_i (by unfold codeN byN; dsimp only; rw [HLG.out]; simp [*] <;> omega), (Below.refl _ _).alloc (Nat.le_refl _) _⟩
set_option maxRecDepth 100000 in
set_option maxHeartbeats 2000000 in
theorem rcode_2 (op wd sz dst src off imm : Int) (w : World) (br : Bool) (o0 : 0 ≤ op) (o1 : op ≤ 12) : Calls Try.prog 34 #[.agg #[.int .i8 2, .int .i8 op, .int .i8 wd, .int .i8 sz, .bool br, .int .i8 dst, .int .i8 src, .int .i64 off, .int .i64 imm]] w (RCodeP ⟨2, op, wd, sz, br, dst, src, off, imm⟩ w) := by
  have hlg := lg_bd 4 (by omega) sz
  obtain ⟨lg, hlgn⟩ : ∃ v, lgN 4 sz = v := ⟨_, rfl⟩
  rw [hlgn] at hlg
  obtain ⟨l0, l1⟩ := hlg
  have HLG := hide hlgn
  clear hlgn
  go_enter Try.func34, Try.ntmps34
  go_wp2_with fail
  refine (rlog_any _ _).mono ?_
  rintro e w' ⟨rfl, rfl⟩
  rw [HLG.out]
  go_wp2
  go_ret
  exact ⟨ret_i (by unfold codeN byN; dsimp only; rw [HLG.out]; simp [*] <;> omega), (Below.refl _ _).alloc (Nat.le_refl _) _⟩
set_option maxRecDepth 100000 in
set_option maxHeartbeats 2000000 in
theorem rcode_3t (op wd sz dst src off imm : Int) (w : World) (o0 : 0 ≤ op) (o1 : op ≤ 12) : Calls Try.prog 34 #[.agg #[.int .i8 3, .int .i8 op, .int .i8 wd, .int .i8 sz, .bool true, .int .i8 dst, .int .i8 src, .int .i64 off, .int .i64 imm]] w (RCodeP ⟨3, op, wd, sz, true, dst, src, off, imm⟩ w) := by
  go_enter Try.func34, Try.ntmps34
  go_wp2
  go_ret
  exact ⟨ret_i (by unfold codeN byN; dsimp only; skip; simp [*] <;> omega), (Below.refl _ _).alloc (Nat.le_refl _) _⟩
set_option maxRecDepth 100000 in
set_option maxHeartbeats 2000000 in
theorem rcode_3f (op wd sz dst src off imm : Int) (w : World) (o0 : 0 ≤ op) (o1 : op ≤ 12) : Calls Try.prog 34 #[.agg #[.int .i8 3, .int .i8 op, .int .i8 wd, .int .i8 sz, .bool false, .int .i8 dst, .int .i8 src, .int .i64 off, .int .i64 imm]] w (RCodeP ⟨3, op, wd, sz, false, dst, src, off, imm⟩ w) := by
  go_enter Try.func34, Try.ntmps34
  go_wp2
  go_ret
  exact ⟨ret_i (by unfold codeN byN; dsimp only; skip; simp [*] <;> omega), (Below.refl _ _).alloc (Nat.le_refl _) _⟩
set_option maxRecDepth 100000 in
set_option maxHeartbeats 2000000 in
theorem rcode_4 (op wd sz dst src off imm : Int) (w : World) (br : Bool) (o0 : 0 ≤ op) (o1 : op ≤ 12) : Calls Try.prog 34 #[.agg #[.int .i8 4, .int .i8 op, .int .i8 wd, .int .i8 sz, .bool br, .int .i8 dst, .int .i8 src, .int .i64 off, .int .i64 imm]] w (RCodeP ⟨4, op, wd, sz, br, dst, src, off, imm⟩ w) := by
  go_enter Try.func34, Try.ntmps34
  go_wp2
  go_ret
  exact ⟨ret_i (by unfold codeN byN; dsimp only; skip; simp [*] <;> omega), (Below.refl _ _).alloc (Nat.le_refl _) _⟩
set_option maxRecDepth 100000 in
set_option maxHeartbeats 2000000 in
theorem rcode_5 (op wd sz dst src off imm : Int) (w : World) (br : Bool) (o0 : 0 ≤ op) (o1 : op ≤ 12) : Calls Try.prog 34 #[.agg #[.int .i8 5, .int .i8 op, .int .i8 wd, .int .i8 sz, .bool br, .int .i8 dst, .int .i8 src, .int .i64 off, .int .i64 imm]] w (RCodeP ⟨5, op, wd, sz, br, dst, src, off, imm⟩ w) := by
  go_enter Try.func34, Try.ntmps34
  go_wp2
  go_ret
  exact ⟨ret_i (by unfold codeN byN; dsimp only; skip; simp [*] <;> omega), (Below.refl _ _).alloc (Nat.le_refl _) _⟩
set_option maxRecDepth 100000 in
set_option maxHeartbeats 2000000 in
theorem rcode_6 (op wd sz dst src off imm : Int) (w : World) (br : Bool) (o0 : 0 ≤ op) (o1 : op ≤ 12) : Calls Try.prog 34 #[.agg #[.int .i8 6, .int .i8 op, .int .i8 wd, .int .i8 sz, .bool br, .int .i8 dst, .int .i8 src, .int .i64 off, .int .i64 imm]] w (RCodeP ⟨6, op, wd, sz, br, dst, src, off, imm⟩ w) := by
  go_enter Try.func34, Try.ntmps34
  go_wp2
  go_ret
  exact ⟨ret_i (by unfold codeN byN; dsimp only; skip; simp [*] <;> omega), (Below.refl _ _).alloc (Nat.le_refl _) _⟩
theorem rcode_any (x : ID) (w : World) (hm : KindOk x) : Calls Try.prog 34 #[.agg x.cells.toArray] w (RCodeP x w) := by
  obtain ⟨k, op, wd, sz, br, dst, src, off, imm⟩ := x
  obtain ⟨k0, k1, o0, o1⟩ := hm
  dsimp only at k0 k1 o0 o1
  have hk7 : k = 0 ∨ k = 1 ∨ k = 2 ∨ k = 3 ∨ k = 4 ∨ k = 5 ∨ k = 6 := by omega
  rcases hk7 with rfl | rfl | rfl | rfl | rfl | rfl | rfl
  · cases br
    · exact rcode_0f op wd sz dst src off imm w o0 o1
    · exact rcode_0t op wd sz dst src off imm w o0 o1
  · exact rcode_1 op wd sz dst src off imm w br o0 o1
  · exact rcode_2 op wd sz dst src off imm w br o0 o1
  · cases br
    · exact rcode_3f op wd sz dst src off imm w o0 o1
    · exact rcode_3t op wd sz dst src off imm w o0 o1
  · exact rcode_4 op wd sz dst src off imm w br o0 o1
  · exact rcode_5 op wd sz dst src off imm w br o0 o1
  · exact rcode_6 op wd sz dst src off imm w br o0 o1
set_option maxRecDepth 100000 in
set_option maxHeartbeats 4000000 in
theorem rbytes_yes (x : ID) (w : World) (hx : x.wf) (hm : mayB x = true) :
    Calls Try.prog 16 #[.agg x.cells.toArray] w fun e w' => ∃ sv, e = .returned (.tuple #[sv, .int .i64 0]) ∧ w'.ownsRow w.heap.size 5 1 sv 8 ((insB x).map (Value.int .u8)) ∧ Below w.heap.size w w' := by
  have HM := hide hm
  have hrg := may_regs hm
  have HMY := hide (fun w => rmay_any x w hx)
  have HCD := hide (fun w => rcode_any x w (may_kind hm))
  obtain ⟨cd0, cd1⟩ := codeN_bd (may_kind hm)
  obtain ⟨cd, hcd⟩ : ∃ c, codeN x = c := ⟨_, rfl⟩
  rw [hcd] at cd0 cd1
  have HCN := hide hcd
  obtain ⟨i8, hi8, hz8, hs8, hb8⟩ := info_parts inf8
  have I8_ := hide (And.intro hi8 (And.intro hz8 (And.intro hs8 hb8)))
  clear hx hm hcd hi8 hz8 hs8 hb8
  obtain ⟨k, op, wd, sz, br, dst, src, off, imm⟩ := x
  obtain ⟨⟨d0, d1⟩, ⟨s0, s1⟩, ⟨f0, f1⟩, ⟨m0, m1⟩⟩ := hrg
  dsimp only at d0 d1 s0 s1 f0 f1 m0 m1
  have hw0 : IntKind.u8.wrap cd = cd := by rw [IntKind.wrap_u8]; omega
  have hw1 : IntKind.u8.wrap dst = dst := by rw [IntKind.wrap_u8]; omega
  have hw2 : IntKind.u8.wrap src = src := by rw [IntKind.wrap_u8]; omega
  have hw3 : IntKind.u8.wrap (16 * src) = 16 * src := by rw [IntKind.wrap_u8]; omega
  have hw4 : IntKind.u8.wrap (dst + 16 * src) = dst + 16 * src := by rw [IntKind.wrap_u8]; omega
  obtain ⟨ov, hov⟩ : ∃ v, IntKind.u64.wrap off = v := ⟨_, rfl⟩
  obtain ⟨iv, hiv⟩ : ∃ v, IntKind.u64.wrap imm = v := ⟨_, rfl⟩
  have HOV := hide (show uOf off = ov by rw [← hov, IntKind.wrap_u64]; rfl)
  have HIV := hide (show uOf imm = iv by rw [← hiv, IntKind.wrap_u64]; rfl)
  have HOU := hide (show U64 ov by rw [← HOV.out]; exact uOf_bd _)
  have HIU := hide (show U64 iv by rw [← HIV.out]; exact uOf_bd _)
  have HMY2 := hide (HMY.out : ∀ w, Calls Try.prog 17 #[.agg #[.int .i8 k, .int .i8 op, .int .i8 wd, .int .i8 sz, .bool br, .int .i8 dst, .int .i8 src, .int .i64 off, .int .i64 imm]] w _)
  have HCD2 := hide (HCD.out : ∀ w, Calls Try.prog 34 #[.agg #[.int .i8 k, .int .i8 op, .int .i8 wd, .int .i8 sz, .bool br, .int .i8 dst, .int .i8 src, .int .i64 off, .int .i64 imm]] w _)
  show Calls Try.prog 16 #[.agg #[.int .i8 k, .int .i8 op, .int .i8 wd, .int .i8 sz, .bool br, .int .i8 dst, .int .i8 src, .int .i64 off, .int .i64 imm]] w _
  have HX0 := hide (Blk.new w 32 #[.int .i8 k, .int .i8 op, .int .i8 wd, .int .i8 sz, .bool br, .int .i8 dst, .int .i8 src, .int .i64 off, .int .i64 imm])
  clear HMY HCD
  go_enter Try.func16, Try.ntmps16
  go_wp2_with fail
  refine (HMY2.out _).mono ?_
  rintro e w1 ⟨rfl, hb⟩
  rw [HM.out]
  have hX1 := HX0.out.below hb (by simp)
  have HB1 := hide (((Below.refl w.heap.size w).alloc (Nat.le_refl _) _).trans (hb.mono (le_alloc _ (Nat.le_refl _))))
  have HX1 := hide hX1
  have hl1 := hX1.lt
  clear hb hX1 HX0
  go_wp2_with fail
  go_region_held3 (fun w' => w'.cell? ⟨w.heap.size, 0, none⟩ = some (.int .i8 k) ∧ w'.cell? ⟨w.heap.size, 1, none⟩ = some (.int .i8 op) ∧ w'.cell? ⟨w.heap.size, 2, none⟩ = some (.int .i8 wd) ∧ w'.cell? ⟨w.heap.size, 3, none⟩ = some (.int .i8 sz) ∧ w'.cell? ⟨w.heap.size, 4, none⟩ = some (.bool br) ∧ w'.cell? ⟨w.heap.size, 5, none⟩ = some (.int .i8 dst) ∧ w'.cell? ⟨w.heap.size, 6, none⟩ = some (.int .i8 src) ∧ w'.cell? ⟨w.heap.size, 7, none⟩ = some (.int .i64 off) ∧ w'.cell? ⟨w.heap.size, 8, none⟩ = some (.int .i64 imm))
    (first
      | exact ⟨HX1.out.cell 0, HX1.out.cell 1, HX1.out.cell 2, HX1.out.cell 3, HX1.out.cell 4, HX1.out.cell 5, HX1.out.cell 6, HX1.out.cell 7, HX1.out.cell 8⟩
      | exact ⟨HX2.out.cell 0, HX2.out.cell 1, HX2.out.cell 2, HX2.out.cell 3, HX2.out.cell 4, HX2.out.cell 5, HX2.out.cell 6, HX2.out.cell 7, HX2.out.cell 8⟩
      | exact ⟨(HX2.out.alloc _).cell 0, (HX2.out.alloc _).cell 1, (HX2.out.alloc _).cell 2, (HX2.out.alloc _).cell 3, (HX2.out.alloc _).cell 4, (HX2.out.alloc _).cell 5, (HX2.out.alloc _).cell 6, (HX2.out.alloc _).cell 7, (HX2.out.alloc _).cell 8⟩)
    ((go_at_call 34
      refine (HCD2.out _).mono ?_
      rintro e w2 ⟨rfl, hb⟩
      rw [HCN.out]
      have hb' : Below w1.heap.size w1 w2 := by first | exact hb | exact (Below.refl _ _).drew.trans hb
      have HX2 := hide (HX1.out.below hb' hl1)
      have HB2 := hide (HB1.out.trans (hb'.mono (Nat.le_of_lt hl1)))
      clear hb hb'))
  clear hw0 hw1 hw2 hw3 hw4
  have hl2 := HX2.out.lt
  obtain ⟨sv3, hsv3⟩ : ∃ v : Value, v = .slice (some ⟨w2.heap.size, 0, none⟩) 2 2 := ⟨_, rfl⟩
  have hO3 := own_new w2 (w.heap.size + 1) 5 [.int .u8 cd, .int .u8 (dst + 16 * src)] 2 hl2 rfl (by unfold maxLen; omega)
  have hX3 := HX2.out.alloc (.cells #[.int .u8 cd, .int .u8 (dst + 16 * src)] 5)
  have hB3 := HB2.out.alloc HB2.out.size (.cells #[.int .u8 cd, .int .u8 (dst + 16 * src)] 5)
  generalize (w2.alloc (.cells #[.int .u8 cd, .int .u8 (dst + 16 * src)] 5)) = w3 at hO3 hX3 hB3 ⊢
  rw [← hsv3] at hO3 ⊢
  have q7 : w3.cell? ⟨w.heap.size, 7, none⟩ = some (.int .i64 off) := hX3.cell 7
  have hl3 := hX3.lt
  have HO3 := hide hO3
  have HB3 := hide hB3
  have HX3 := hide hX3
  clear hO3 hX3 hB3 hsv3 HX2 HB2 HX1 HB1
  go_wp2_with fail
  refine (rput_n ov 2 2 _ rfl HOU.out (by omega)).mono ?_
  rintro e w4 ⟨p1, rfl, hown, hb⟩
  have HO4 := hide (own_below HO3.out hb)
  obtain ⟨A1, c1, rfl, _, hr1⟩ := own_slice hown (by omega)
  have HR1 := hide hr1
  have HB4 := hide (HB3.out.trans (hb.mono (Nat.le_of_lt hl3)))
  have HX4 := hide (HX3.out.below hb hl3)
  have hl4 := HX4.out.lt
  clear hb hown hr1 q7
  go_wp2_with (first
    | (at_builtin
       refine wpList_append_any _ rfl (.tmp 20) (.tmp 24) 36 rfl (w.heap.size + 1) 5 i8 (.int .u8 0) 1 1 Try.underlying36 I8_.out.1 I8_.out.2.1 I8_.out.2.2.1 I8_.out.2.2.2 rfl (by omega) sv3 2 _ (by rfl) HO4.out _ A1 2 c1 _ (by rfl) HR1.out (by intro u hu; simp at hu; obtain ⟨a, _, rfl⟩ := hu; rfl) (by unfold maxLen; omega) (by omega) hl4 ?_
       intro v5 w5 hown hg _
       have hne : ∀ g, sv3.ownBlock = some g → w.heap.size + 1 ≤ g := own_ge HO4.out
       have hne' : some w.heap.size ≠ sv3.ownBlock := fun e => by have := hne _ e.symm; omega
       have HO5 := hide hown
       have HB5 := hide (HB4.out.grown hg (Nat.le_of_lt hl4) (fun g e => by have := hne g e; omega))
       have HX5 := hide (HX4.out.grown hg hne')
       have hl5 := HX5.out.lt
       have q8 : w5.cell? ⟨w.heap.size, 8, none⟩ = some (.int .i64 imm) := HX5.out.cell 8
       clear hown hg hne hne')
    | fail)
  refine (rput_n iv 4 4 _ rfl HIU.out (by omega)).mono ?_
  rintro e w6 ⟨p2, rfl, hown, hb⟩
  have HO6 := hide (own_below HO5.out hb)
  obtain ⟨A2, c2, rfl, _, hr2⟩ := own_slice hown (by omega)
  have HR2 := hide hr2
  have HB6 := hide (HB5.out.trans (hb.mono (Nat.le_of_lt hl5)))
  have hl6 : w.heap.size < w6.heap.size := Nat.lt_of_lt_of_le hl5 hb.size
  clear hb hown hr2 q8
  go_wp2_with (first
    | (at_builtin
       refine wpList_append_any _ rfl (.tmp 26) (.tmp 30) 36 rfl (w.heap.size + 1) 5 i8 (.int .u8 0) 1 1 Try.underlying36 I8_.out.1 I8_.out.2.1 I8_.out.2.2.1 I8_.out.2.2.2 rfl (by omega) v5 (2 + 2) _ (by rfl) HO6.out _ A2 4 c2 _ (by rfl) HR2.out (by intro u hu; simp at hu; obtain ⟨a, _, rfl⟩ := hu; rfl) (by unfold maxLen; omega) (by omega) hl6 ?_
       intro v7 w7 hown hg _
       have hne : ∀ g, v5.ownBlock = some g → w.heap.size + 1 ≤ g := own_ge HO6.out
       have HO7 := hide hown
       have HB7 := hide (HB6.out.grown hg (Nat.le_of_lt hl6) (fun g e => by have := hne g e; omega))
       clear hown hg hne))
  go_ret2
  refine ⟨_, rfl, own_base (b := w.heap.size) ?_ (Nat.le_succ _), HB7.out⟩
  have := HO7.out
  unfold insB
  dsimp only
  rw [HCN.out, HOV.out, HIV.out]
  simpa using this
set_option maxRecDepth 100000 in
set_option maxHeartbeats 1000000 in
theorem rbytes_any (x : ID) (w : World) (hx : x.wf) :
    Calls Try.prog 16 #[.agg x.cells.toArray] w fun e w' => ∃ A c, e = .returned (.tuple #[.slice A (insO x).length c, .int .i64 (insE x)]) ∧ (insO x).length ≤ c ∧ Reads w' w'.heap.size 1 A (insO x).length ((insO x).map (Value.int .u8)) ∧ Below w.heap.size w w' := by
  cases hm : mayB x
  · have hO : insO x = [] := by unfold insO; rw [hm]; rfl
    have hE : insE x = 31 := by unfold insE; rw [hm]; rfl
    rw [hO, hE]
    have HM := hide hm
    have HMY := hide (fun w => rmay_any x w hx)
    clear hm hO hE hx
    obtain ⟨k, op, wd, sz, br, dst, src, off, imm⟩ := x
    show Calls Try.prog 16 #[.agg #[.int .i8 k, .int .i8 op, .int .i8 wd, .int .i8 sz, .bool br, .int .i8 dst, .int .i8 src, .int .i64 off, .int .i64 imm]] w _
    go_enter Try.func16, Try.ntmps16
    go_wp2_with fail
    refine (HMY.out _).mono ?_
    rintro e w1 ⟨rfl, hb⟩
    rw [HM.out]
    have HB1 := hide (((Below.refl w.heap.size w).alloc (Nat.le_refl _) _).trans (hb.mono (le_alloc _ (Nat.le_refl _))))
    clear hb
    go_wp2
    go_ret2
    exact ⟨none, 0, rfl, Nat.le_refl _, Reads.none_, HB1.out⟩
  · have hO : insO x = insB x := by unfold insO; rw [hm]; rfl
    have hE : insE x = 0 := by unfold insE; rw [hm]; rfl
    rw [hO, hE, insB_len]
    refine (rbytes_yes x w hx hm).mono ?_
    rintro e w' ⟨sv, rfl, hown, hb⟩
    obtain ⟨A, c, rfl, hc, hr⟩ := own_slice hown (by omega)
    exact ⟨A, c, rfl, hc, hr, hb⟩
end Go.Proofs.Ytopanomcbkhbnaa
