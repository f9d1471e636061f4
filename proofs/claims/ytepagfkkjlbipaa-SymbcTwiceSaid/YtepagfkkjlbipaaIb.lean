/-
  instr.May, instr.Target: which instructions may be, where they lead. Conditions: those written in each statement.
-/
import Derived.Test.YtepagfkkjlbipaaKas
import Derived.Test.YtepagfkkjlbipaaIq
namespace Go.Proofs.Ytepagfkkjlbipaa
open Go.RowKit
set_option linter.unusedVariables false
set_option linter.unusedSimpArgs false
def BoolP (b : Bool) (w : World) (e : Ending) (w' : World) : Prop := e = .returned (.bool b) ∧ Below w.heap.size w w'
set_option maxRecDepth 100000 in
set_option maxHeartbeats 2000000 in
theorem may_any (x : ID) (w : World) (hx : x.wf) : Calls Try.prog 54 #[.agg x.cells.toArray] w (BoolP (mayB x) w) := by
  have hr := bareR_wf hx
  have hk := kz_wf hx.1
  have heq := eql_id hr hk
  obtain ⟨r, hR⟩ : ∃ r, bareR x = r := ⟨_, rfl⟩
  obtain ⟨m, hM⟩ : ∃ m, bareM x = m := ⟨_, rfl⟩
  obtain ⟨q, hQ⟩ : ∃ m, eqL (bareR x).cells (kz x.kind).cells = m := ⟨_, rfl⟩
  have hB : mayB x = (rngB x && (m && q)) := by unfold mayB; rw [hM, hQ]
  rw [hB]
  have HBA : ∀ W, Calls Try.prog 90 #[.agg x.cells.toArray] W fun e w' => e = .returned (.tuple #[.agg r.cells.toArray, .bool m]) ∧ Below W.heap.size W w' := fun W => by
    have := bare_any x W
    unfold BareP at this
    rw [hR, hM] at this
    exact this
  simp only [hQ] at heq
  rw [hR] at heq
  have hrl : r.cells.length = 9 := rfl
  clear hr hk hB hM hQ hR
  obtain ⟨iI, hiI, hzI, hsI, _⟩ := info_parts infI
  have II := hide (And.intro hiI (And.intro hzI hsI))
  clear hiI hzI hsI
  obtain ⟨k, op, wd, sz, br, dst, src, off, imm⟩ := x
  unfold rngB
  dsimp only
  have HB := hide HBA
  have HE : ∀ W, (binOp .eql 26 (.agg r.cells.toArray) (.agg #[.int .i8 k, .int .i8 0, .int .i8 0, .int .i8 0, .bool false, .int .i8 0, .int .i8 0, .int .i64 0, .int .i64 0])).run Try.prog W = .ok (.bool q) W := heq
  have HEH := hide HE
  clear HBA heq hx HE
  cases h1 : inB dst 0 10
  · show Calls Try.prog 54 #[.agg #[.int .i8 k, .int .i8 op, .int .i8 wd, .int .i8 sz, .bool br, .int .i8 dst, .int .i8 src, .int .i64 off, .int .i64 imm]] w _
    go_enter Try.func54, Try.ntmps54
    go_wp2_with (first
      | (go_at_call 89; refine (within8 _ _ _ _).mono ?_; rintro e w' ⟨rfl, rfl⟩; first | rw [h1] | rw [h2]))
    go_ret
    exact ⟨rfl, (Below.refl _ _).alloc (Nat.le_refl _) _⟩
  · cases h2 : inB src 0 10
    · show Calls Try.prog 54 #[.agg #[.int .i8 k, .int .i8 op, .int .i8 wd, .int .i8 sz, .bool br, .int .i8 dst, .int .i8 src, .int .i64 off, .int .i64 imm]] w _
      go_enter Try.func54, Try.ntmps54
      go_wp2_with fail
      refine (within8 _ _ _ _).mono ?_; rintro e w' ⟨rfl, rfl⟩; rw [h1]
      go_wp2_with fail
      refine (within8 _ _ _ _).mono ?_; rintro e w' ⟨rfl, rfl⟩; rw [h2]
      go_wp2
      go_ret
      exact ⟨rfl, (Below.refl _ _).alloc (Nat.le_refl _) _⟩
    · cases h3 : inB off (-32768) 32767
      · show Calls Try.prog 54 #[.agg #[.int .i8 k, .int .i8 op, .int .i8 wd, .int .i8 sz, .bool br, .int .i8 dst, .int .i8 src, .int .i64 off, .int .i64 imm]] w _
        go_enter Try.func54, Try.ntmps54
        go_wp2_with fail
        refine (within8 _ _ _ _).mono ?_; rintro e w' ⟨rfl, rfl⟩; rw [h1]
        go_wp2_with fail
        refine (within8 _ _ _ _).mono ?_; rintro e w' ⟨rfl, rfl⟩; rw [h2]
        go_wp2_with fail
        refine (within64 _ _ _ _).mono ?_; rintro e w' ⟨rfl, rfl⟩; rw [h3]
        go_wp2
        go_ret
        exact ⟨rfl, (Below.refl _ _).alloc (Nat.le_refl _) _⟩
      · cases h4 : inB imm (-2147483648) 2147483647
        · show Calls Try.prog 54 #[.agg #[.int .i8 k, .int .i8 op, .int .i8 wd, .int .i8 sz, .bool br, .int .i8 dst, .int .i8 src, .int .i64 off, .int .i64 imm]] w _
          go_enter Try.func54, Try.ntmps54
          go_wp2_with fail
          refine (within8 _ _ _ _).mono ?_; rintro e w' ⟨rfl, rfl⟩; rw [h1]
          go_wp2_with fail
          refine (within8 _ _ _ _).mono ?_; rintro e w' ⟨rfl, rfl⟩; rw [h2]
          go_wp2_with fail
          refine (within64 _ _ _ _).mono ?_; rintro e w' ⟨rfl, rfl⟩; rw [h3]
          go_wp2_with fail
          refine (within64 _ _ _ _).mono ?_; rintro e w' ⟨rfl, rfl⟩; rw [h4]
          go_wp2
          go_ret
          exact ⟨rfl, (Below.refl _ _).alloc (Nat.le_refl _) _⟩
        · cases m
          all_goals
            show Calls Try.prog 54 #[.agg #[.int .i8 k, .int .i8 op, .int .i8 wd, .int .i8 sz, .bool br, .int .i8 dst, .int .i8 src, .int .i64 off, .int .i64 imm]] w _
            go_enter Try.func54, Try.ntmps54
            go_wp2_with fail
            refine (within8 _ _ _ _).mono ?_; rintro e w' ⟨rfl, rfl⟩; rw [h1]
            go_wp2_with fail
            refine (within8 _ _ _ _).mono ?_; rintro e w' ⟨rfl, rfl⟩; rw [h2]
            go_wp2_with fail
            refine (within64 _ _ _ _).mono ?_; rintro e w' ⟨rfl, rfl⟩; rw [h3]
            go_wp2_with fail
            refine (within64 _ _ _ _).mono ?_; rintro e w' ⟨rfl, rfl⟩; rw [h4]
            go_wp2_with fail
            refine (HB.out _).mono ?_
            rintro e w1 ⟨rfl, hb⟩
            have hbb : Below w.heap.size w w1 := ((Below.refl _ _).alloc (Nat.le_refl _) _).trans (hb.mono (le_alloc _ (Nat.le_refl _)))
            have q0 : w1.cell? ⟨w.heap.size, 0, none⟩ = some (.int .i8 k) := by rw [hb.cell (by simp)]; simp
            have hlt : w.heap.size < w1.heap.size := by have := hb.size; simp at this; omega
            have HBB := hide hbb
            clear hb hbb
            go_wp2_with (first
              | (refine wpList_new rfl rfl 26 (.tmp 3) (.tmp 30) rfl rfl iI _ (.agg r.cells.toArray) r.cells.toArray II.out.1 II.out.2.1 (by rw [II.out.2.2]; rfl) rfl (by rw [II.out.2.2]; rfl) (all_one r.one) (by rfl) (by rfl) ?_
                 intro w2 g2 G2 X2 L2
                 have q1 : w2.cell? ⟨w.heap.size, 0, none⟩ = some (.int .i8 k) := (L2.cell (p := ⟨w.heap.size, 0, none⟩) hlt).trans q0
                 have HX2 := hide X2
                 have HB2 := hide (HBB.out.trans (L2.mono (Nat.le_of_lt hlt)))
                 have HE := HEH.out
                 clear X2 L2 q0)
              | (refine wpList_load_atw (by rfl) 26 (.tmp 3) rfl ⟨g2, 0, none⟩ (by rfl) r.cells _ (blk_list HX2.out) Try.underlying26 rfl sizI ?_))
            go_ret
            exact ⟨rfl, HB2.out⟩
end Go.Proofs.Ytepagfkkjlbipaa
