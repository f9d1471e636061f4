/-
  How many arguments a host takes. Conditions: those written in each statement.
  instr.May, instr.Target: which instructions may be, where they lead. Conditions: those written in each statement.
  Instructions and programs that came in, opened. Conditions: those written in each statement.
  Rows of words that came in, opened. Conditions: those written in each statement.
-/
import Derived.Test.YtepagfkkjlbipaaIa
import Derived.Test.YtepagfkkjlbipaaLaa
import Derived.Test.YtepagfkkjlbipaaKac
import Derived.Test.YtepagfkkjlbipaaKad
section
namespace Go.Proofs.Ytepagfkkjlbipaa
open Go.RowKit
set_option linter.unusedVariables false
set_option linter.unusedSimpArgs false
set_option maxRecDepth 100000
def argsN (n : Int) : Int := if inB n 0 15 then n % 6 else 0
theorem argsN_bd (n : Int) : 0 ≤ argsN n ∧ argsN n ≤ 5 := by
  unfold argsN
  split <;> omega
theorem args_any (n : Int) (w : World) : Calls Try.prog 42 #[.int .i64 n] w fun e w' => e = .returned (.int .i64 (argsN n)) ∧ w = w' := by
  cases h : inB n 0 15
  · have HN := hide (show argsN n = 0 by unfold argsN; rw [h]; rfl)
    go_enter Try.func42, Try.ntmps42
    go_wp2_with fail
    refine (within64 _ _ _ _).mono ?_; rintro e w' ⟨rfl, rfl⟩; rw [h]
    go_wp2
    go_ret
    exact ⟨ret_ia HN.out.symm, rfl⟩
  · obtain ⟨h0, h1⟩ := inB_iff.1 h
    have HN := hide (show argsN n = n % 6 by unfold argsN; rw [h]; rfl)
    go_enter Try.func42, Try.ntmps42
    go_wp2_with fail
    refine (within64 _ _ _ _).mono ?_; rintro e w' ⟨rfl, rfl⟩; rw [h]
    go_wp2
    go_ret
    exact ⟨ret_ia HN.out.symm, rfl⟩
end Go.Proofs.Ytepagfkkjlbipaa
end
section
namespace Go.Proofs.Ytepagfkkjlbipaa
open Go.RowKit
set_option linter.unusedVariables false
set_option linter.unusedSimpArgs false
def BoolP (b : Bool) (w : World) (e : Ending) (w' : World) : Prop := e = .returned (.bool b) ∧ Below w.heap.size w w'
set_option maxRecDepth 100000 in
set_option maxHeartbeats 2000000 in
theorem may_any (x : ID) (w : World) (hx : x.wf) : Calls Try.prog 54 #[.agg x.cells.toArray] w (BoolP (mayB x) w) := by
  have hr := bareR_wf hx
  have hk := kz_wf hx.1
  have heq := eql_id hr hk
  obtain ⟨r, hR⟩ : ∃ r, bareR x = r := ⟨_, rfl⟩
  obtain ⟨m, hM⟩ : ∃ m, bareM x = m := ⟨_, rfl⟩
  obtain ⟨q, hQ⟩ : ∃ m, eqL (bareR x).cells (kz x.kind).cells = m := ⟨_, rfl⟩
  have hB : mayB x = (rngB x && (m && q)) := by unfold mayB; rw [hM, hQ]
  rw [hB]
  have HBA : ∀ W, Calls Try.prog 90 #[.agg x.cells.toArray] W fun e w' => e = .returned (.tuple #[.agg r.cells.toArray, .bool m]) ∧ Below W.heap.size W w' := fun W => by
    have := bare_any x W
    unfold BareP at this
    rw [hR, hM] at this
    exact this
  simp only [hQ] at heq
  rw [hR] at heq
  have hrl : r.cells.length = 9 := rfl
  clear hr hk hB hM hQ hR
  obtain ⟨iI, hiI, hzI, hsI, _⟩ := info_parts infI
  have II := hide (And.intro hiI (And.intro hzI hsI))
  clear hiI hzI hsI
  obtain ⟨k, op, wd, sz, br, dst, src, off, imm⟩ := x
  unfold rngB
  dsimp only
  have HB := hide HBA
  have HE : ∀ W, (binOp .eql 26 (.agg r.cells.toArray) (.agg #[.int .i8 k, .int .i8 0, .int .i8 0, .int .i8 0, .bool false, .int .i8 0, .int .i8 0, .int .i64 0, .int .i64 0])).run Try.prog W = .ok (.bool q) W := heq
  have HEH := hide HE
  clear HBA heq hx HE
  cases h1 : inB dst 0 10
  · show Calls Try.prog 54 #[.agg #[.int .i8 k, .int .i8 op, .int .i8 wd, .int .i8 sz, .bool br, .int .i8 dst, .int .i8 src, .int .i64 off, .int .i64 imm]] w _
    go_enter Try.func54, Try.ntmps54
    go_wp2_with (first
      | (go_at_call 89; refine (within8 _ _ _ _).mono ?_; rintro e w' ⟨rfl, rfl⟩; first | rw [h1] | rw [h2]))
    go_ret
    exact ⟨rfl, (Below.refl _ _).alloc (Nat.le_refl _) _⟩
  · cases h2 : inB src 0 10
    · show Calls Try.prog 54 #[.agg #[.int .i8 k, .int .i8 op, .int .i8 wd, .int .i8 sz, .bool br, .int .i8 dst, .int .i8 src, .int .i64 off, .int .i64 imm]] w _
      go_enter Try.func54, Try.ntmps54
      go_wp2_with fail
      refine (within8 _ _ _ _).mono ?_; rintro e w' ⟨rfl, rfl⟩; rw [h1]
      go_wp2_with fail
      refine (within8 _ _ _ _).mono ?_; rintro e w' ⟨rfl, rfl⟩; rw [h2]
      go_wp2
      go_ret
      exact ⟨rfl, (Below.refl _ _).alloc (Nat.le_refl _) _⟩
    · cases h3 : inB off (-32768) 32767
      · show Calls Try.prog 54 #[.agg #[.int .i8 k, .int .i8 op, .int .i8 wd, .int .i8 sz, .bool br, .int .i8 dst, .int .i8 src, .int .i64 off, .int .i64 imm]] w _
        go_enter Try.func54, Try.ntmps54
        go_wp2_with fail
        refine (within8 _ _ _ _).mono ?_; rintro e w' ⟨rfl, rfl⟩; rw [h1]
        go_wp2_with fail
        refine (within8 _ _ _ _).mono ?_; rintro e w' ⟨rfl, rfl⟩; rw [h2]
        go_wp2_with fail
        refine (within64 _ _ _ _).mono ?_; rintro e w' ⟨rfl, rfl⟩; rw [h3]
        go_wp2
        go_ret
        exact ⟨rfl, (Below.refl _ _).alloc (Nat.le_refl _) _⟩
      · cases h4 : inB imm (-2147483648) 2147483647
        · show Calls Try.prog 54 #[.agg #[.int .i8 k, .int .i8 op, .int .i8 wd, .int .i8 sz, .bool br, .int .i8 dst, .int .i8 src, .int .i64 off, .int .i64 imm]] w _
          go_enter Try.func54, Try.ntmps54
          go_wp2_with fail
          refine (within8 _ _ _ _).mono ?_; rintro e w' ⟨rfl, rfl⟩; rw [h1]
          go_wp2_with fail
          refine (within8 _ _ _ _).mono ?_; rintro e w' ⟨rfl, rfl⟩; rw [h2]
          go_wp2_with fail
          refine (within64 _ _ _ _).mono ?_; rintro e w' ⟨rfl, rfl⟩; rw [h3]
          go_wp2_with fail
          refine (within64 _ _ _ _).mono ?_; rintro e w' ⟨rfl, rfl⟩; rw [h4]
          go_wp2
          go_ret
          exact ⟨rfl, (Below.refl _ _).alloc (Nat.le_refl _) _⟩
        · cases m
          all_goals
            show Calls Try.prog 54 #[.agg #[.int .i8 k, .int .i8 op, .int .i8 wd, .int .i8 sz, .bool br, .int .i8 dst, .int .i8 src, .int .i64 off, .int .i64 imm]] w _
            go_enter Try.func54, Try.ntmps54
            go_wp2_with fail
            refine (within8 _ _ _ _).mono ?_; rintro e w' ⟨rfl, rfl⟩; rw [h1]
            go_wp2_with fail
            refine (within8 _ _ _ _).mono ?_; rintro e w' ⟨rfl, rfl⟩; rw [h2]
            go_wp2_with fail
            refine (within64 _ _ _ _).mono ?_; rintro e w' ⟨rfl, rfl⟩; rw [h3]
            go_wp2_with fail
            refine (within64 _ _ _ _).mono ?_; rintro e w' ⟨rfl, rfl⟩; rw [h4]
            go_wp2_with fail
            refine (HB.out _).mono ?_
            rintro e w1 ⟨rfl, hb⟩
            have hbb : Below w.heap.size w w1 := ((Below.refl _ _).alloc (Nat.le_refl _) _).trans (hb.mono (le_alloc _ (Nat.le_refl _)))
            have q0 : w1.cell? ⟨w.heap.size, 0, none⟩ = some (.int .i8 k) := by rw [hb.cell (by simp)]; simp
            have hlt : w.heap.size < w1.heap.size := by have := hb.size; simp at this; omega
            have HBB := hide hbb
            clear hb hbb
            go_wp2_with (first
              | (refine wpList_new rfl rfl 26 (.tmp 3) (.tmp 30) rfl rfl iI _ (.agg r.cells.toArray) r.cells.toArray II.out.1 II.out.2.1 (by rw [II.out.2.2]; rfl) rfl (by rw [II.out.2.2]; rfl) (all_one r.one) (by rfl) (by rfl) ?_
                 intro w2 g2 G2 X2 L2
                 have q1 : w2.cell? ⟨w.heap.size, 0, none⟩ = some (.int .i8 k) := (L2.cell (p := ⟨w.heap.size, 0, none⟩) hlt).trans q0
                 have HX2 := hide X2
                 have HB2 := hide (HBB.out.trans (L2.mono (Nat.le_of_lt hlt)))
                 have HE := HEH.out
                 clear X2 L2 q0)
              | (refine wpList_load_atw (by rfl) 26 (.tmp 3) rfl ⟨g2, 0, none⟩ (by rfl) r.cells _ (blk_list HX2.out) Try.underlying26 rfl sizI ?_))
            go_ret
            exact ⟨rfl, HB2.out⟩
end Go.Proofs.Ytepagfkkjlbipaa
end
section
namespace Go.Proofs.Ytepagfkkjlbipaa
open Go.RowKit Go.WideShapes Go.ChangeShapes Go.Deep
set_option linter.unusedVariables false
set_option maxRecDepth 100000
set_option linter.unusedSimpArgs false
theorem cellsPg : Try.prog.cellsOf 29 = 2 := by kernel_rfl
theorem cellsIt : Try.prog.cellsOf 3 = 1 := by kernel_rfl
theorem cellsLi : Try.prog.cellsOf 22 = 1 := by kernel_rfl
section
variable {H : Type} {enc : TypeId × Value → H} {w : World} {base b0 : Nat} {re : Reach} {spare : Nat → Bool} {held : Bool}
theorem prog_in {v : Value} {d : DataW H} {p : List MemPlace} (hv : Value.okWide Try.prog w re b0 29 v) (h : DataW.Trod enc Try.prog w base spare held 29 v d p) :
    ∃ c A n cap l, v = .agg #[.int .i64 c, .slice A n cap] ∧ InsAt w w.heap.size A n l ∧ n ≤ cap ∧ n < 9223372036854775808 ∧ I64 c := by
  obtain ⟨cs, rfl, hsz⟩ := okWide_struct Try.underlying29 hv
  obtain ⟨l⟩ := cs
  match l, hsz.trans cellsPg with
  | [c0, c1], _ =>
    obtain ⟨fuel, hf⟩ := h
    obtain ⟨xs, n, _, hx, _, hlen, hg⟩ := DataW.trod_struct Try.underlying29 hf
    have g0 := hg 0 _ rfl
    have g1 := hg 1 _ rfl
    match xs, hlen with
    | [y0, y1], _ =>
      simp only [cellsIt, cellsLi, Value.cells] at g0 g1
      obtain ⟨s, hs0, _, hw⟩ := DataW.trod_int (cs := [c0]) Try.underlying3 g0
      injection hs0 with hs0 _
      subst hs0
      have hb := bounds_i64 hw
      rcases DataW.trod_slice (cs := [c1]) Try.underlying22 g1 with ⟨hc, _⟩ | ⟨a, len, cap, _, _, _, _, hc, _⟩
      · injection hc with hc _
        subst hc
        exact ⟨s, none, 0, 0, [], rfl, ⟨rfl, by simp, Reads.none_⟩, Nat.le_refl _, by omega, by unfold I64; omega⟩
      · injection hc with hc _
        subst hc
        obtain ⟨rows, hr, hA, hR, hc, hm⟩ := open_flat (A := some a) (n := len) (c := cap) Try.underlying22 flatI (by decide) g1
        obtain ⟨l, h1, h2, h3⟩ := rows_id rows hA
        rw [h3] at hR
        unfold maxLen at hm
        exact ⟨s, some a, len, cap, l, rfl, ⟨by omega, h2, hR⟩, hc, by omega, by unfold I64; omega⟩
end
end Go.Proofs.Ytepagfkkjlbipaa
end
section
namespace Go.Proofs.Ytepagfkkjlbipaa
open Go.RowKit Go.WideShapes Go.ChangeShapes Go.Deep
set_option linter.unusedVariables false
set_option maxRecDepth 100000
set_option linter.unusedSimpArgs false
theorem flatUw : flatK Try.prog 4 46 = some [some .u64] := by kernel_rfl
theorem rows_uw : ∀ rows : List (List Value), (∀ r ∈ rows, AllK [some .u64] r) → ∃ l : List Int, l.length = rows.length ∧ (∀ x ∈ l, U64 x) ∧ rows.flatten = l.map (Value.int .u64)
  | [], _ => ⟨[], rfl, by simp, rfl⟩
  | r :: t, h => by
    obtain ⟨l, h1, h2, h3⟩ := rows_uw t (fun q hq => h q (by simp [hq]))
    obtain ⟨hl, hk⟩ := h r (by simp)
    match r, hl with
    | [c0], _ =>
      obtain ⟨n0, rfl, w0⟩ := hk 0 _ _ rfl rfl
      have a0 := bounds_u64 w0
      refine ⟨n0 :: l, by simp [h1], fun y hy => ?_, by simp [h3]⟩
      rcases List.mem_cons.1 hy with rfl | hy
      · unfold U64; omega
      · exact h2 y hy
section
variable {H : Type} {enc : TypeId × Value → H} {w : World} {base b0 : Nat} {re : Reach} {spare : Nat → Bool} {held : Bool}
theorem words_in {v : Value} {d : DataW H} {p : List MemPlace} (hv : Value.okWide Try.prog w re b0 44 v) (h : DataW.Trod enc Try.prog w base spare held 44 v d p) :
    ∃ A n cap, ∃ l : List Int, v = .slice A n cap ∧ (l.length = n ∧ (∀ x ∈ l, U64 x) ∧ Reads w w.heap.size 1 A n (l.map (Value.int .u64))) ∧ n ≤ cap ∧ n < 9223372036854775808 := by
  obtain ⟨fuel, hf⟩ := h
  rcases DataW.trod_slice Try.underlying44 hf with ⟨hc, _⟩ | ⟨a, len, cap, _, _, _, _, hc, _⟩
  · have hv0 : v = .slice none 0 0 := by
      obtain ⟨A, n, c, rfl⟩ := okWide_slice Try.underlying44 hv
      simp [Value.cells] at hc
      simp [hc]
    subst hv0
    exact ⟨none, 0, 0, [], rfl, ⟨rfl, by simp, Reads.none_⟩, Nat.le_refl _, by omega⟩
  · obtain ⟨A, n, c, rfl⟩ := okWide_slice Try.underlying44 hv
    have hf' : DataW.trod enc Try.prog w base spare held fuel 44 [.slice A n c] = some (d, p) := by simpa [Value.cells] using hf
    obtain ⟨rows, hr, hA, hR, hc', hm⟩ := open_flat (A := A) (n := n) (c := c) Try.underlying44 flatUw (by decide) hf'
    obtain ⟨l, h1, h2, h3⟩ := rows_uw rows hA
    rw [h3] at hR
    unfold maxLen at hm
    exact ⟨A, n, c, l, rfl, ⟨by omega, h2, hR⟩, hc', by omega⟩
end
end Go.Proofs.Ytepagfkkjlbipaa
end
