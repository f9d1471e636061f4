/-
  instr.code: an instruction's first byte. Conditions: those written in each statement.
-/
import Derived.Test.YtopanomcbkhbnaaIb
import Derived.Test.YtopanomcbkhbnaaMie
namespace Go.Proofs.Ytopanomcbkhbnaa
open Go.RowKit
set_option linter.unusedVariables false
set_option linter.unusedSimpArgs false
/-- The place of a size among 1, 2, 4, 8, of the first k. -/
def lgN : Nat → Int → Int
  | 0, _ => 0
  | k + 1, s => if ([1, 2, 4, 8] : List Int).getD k 0 = s then (k : Int) else lgN k s
theorem lg_bd (k : Nat) (hk : k ≤ 4) (s : Int) : 0 ≤ lgN k s ∧ lgN k s ≤ 3 := by
  have : ∀ k : Nat, k ≤ 4 → 0 ≤ lgN k s ∧ lgN k s ≤ 3 := by
    intro k
    induction k with
    | zero => intro _; simp [lgN]
    | succ k ih =>
      intro hk
      unfold lgN
      split
      · omega
      · exact ih (by omega)
  exact this k hk
def byN (x : ID) : Int := if x.byReg then 16 else 0
def codeN (x : ID) : Int :=
  if x.kind = 0 then x.op + byN x + (if x.width = 32 then 32 else 0)
  else if x.kind = 1 then 64 + lgN 4 x.size
  else if x.kind = 2 then 72 + lgN 4 x.size
  else if x.kind = 3 then 80 + x.op + byN x
  else 107 + x.kind
def KindOk (x : ID) : Prop := 0 ≤ x.kind ∧ x.kind ≤ 6 ∧ 0 ≤ x.op ∧ x.op ≤ 12
theorem may_kind {x : ID} (h : mayB x = true) : KindOk x := by
  unfold mayB at h
  simp only [Bool.and_eq_true] at h
  obtain ⟨_, hm, he⟩ := h
  obtain ⟨k, op, wd, sz, br, dst, src, off, imm⟩ := x
  unfold KindOk
  dsimp only
  unfold bareM at hm
  unfold bareR immR at he
  dsimp only at hm he
  by_cases h0 : k = 0
  · subst h0
    simp only [if_true, Bool.and_eq_true] at hm
    have := inB_iff.1 hm.1.1.1
    omega
  · by_cases h1 : k = 1
    · subst h1; simp [eqL, eqV, ID.cells, kz] at he; omega
    · by_cases h2 : k = 2
      · subst h2; simp [eqL, eqV, ID.cells, kz] at he; omega
      · by_cases h3 : k = 3
        · subst h3
          simp at hm
          have := inB_iff.1 hm
          omega
        · by_cases h4 : k = 4
          · subst h4; simp [eqL, eqV, ID.cells, kz] at he; omega
          · by_cases h5 : k = 5
            · subst h5; simp [eqL, eqV, ID.cells, kz] at he; omega
            · by_cases h6 : k = 6
              · subst h6; simp [eqL, eqV, ID.cells, kz] at he; omega
              · simp [h0, h1, h2, h3, h4, h5, h6] at hm
set_option maxHeartbeats 400000 in
theorem sizes_any (w : World) : Calls Try.prog 39 #[] w fun e w' => e = .returned (.agg #[.int .i8 1, .int .i8 2, .int .i8 4, .int .i8 8]) ∧ Below w.heap.size w w' := by
  go_enter Try.func39, Try.ntmps39
  go_wp2
  refine bodyPost_ret (v := .agg #[.int .i8 1, .int .i8 2, .int .i8 4, .int .i8 8]) (by simp [results, Try.results39, go_sem]) rfl ⟨rfl, ?_⟩
  exact (Below.refl _ _).alloc (Nat.le_refl _) _
def SzRel (sz : Int) (W : World) (s3 s8 : Value) (wr : World) : Prop := ∃ k : Nat, k ≤ 4 ∧ s8 = .int .i64 k ∧ s3 = .int .u8 (lgN k sz) ∧ wr = W
def CodeP (x : ID) (w : World) (e : Ending) (w' : World) : Prop := e = .returned (.int .u8 (codeN x)) ∧ Below w.heap.size w w'
set_option maxRecDepth 100000 in
set_option maxHeartbeats 2000000 in
theorem code_any (x : ID) (g : Nat) (w : World) (hB : Blk w g 32 x.cells.toArray) (hm : KindOk x) : Calls Try.prog 31 #[.pointer (some ⟨g, 0, none⟩)] w (CodeP x w) := by
  have i0 : ∀ w, (Instr.index 65 (.agg #[.int .i8 1, .int .i8 2, .int .i8 4, .int .i8 8]) (.int .i64 0)).run Try.prog w = .ok (.int .i8 1) w := fun _ => by kernel_rfl
  have i1 : ∀ w, (Instr.index 65 (.agg #[.int .i8 1, .int .i8 2, .int .i8 4, .int .i8 8]) (.int .i64 1)).run Try.prog w = .ok (.int .i8 2) w := fun _ => by kernel_rfl
  have i2 : ∀ w, (Instr.index 65 (.agg #[.int .i8 1, .int .i8 2, .int .i8 4, .int .i8 8]) (.int .i64 2)).run Try.prog w = .ok (.int .i8 4) w := fun _ => by kernel_rfl
  have i3 : ∀ w, (Instr.index 65 (.agg #[.int .i8 1, .int .i8 2, .int .i8 4, .int .i8 8]) (.int .i64 3)).run Try.prog w = .ok (.int .i8 8) w := fun _ => by kernel_rfl
  obtain ⟨k, op, wd, sz, br, dst, src, off, imm⟩ := x
  obtain ⟨k0, k1, o0, o1⟩ := hm
  dsimp only at k0 k1 o0 o1
  have HB := hide hB
  have hg := hB.lt
  clear hB
  go_enter Try.func31, Try.ntmps31
  go_wp2_with fail
  refine (sizes_any _).mono ?_
  rintro e w1 ⟨rfl, hb⟩
  have hB1 := HB.out.below hb hg
  have c0 : w1.cell? ⟨g, 0, none⟩ = some (.int .i8 k) := hB1.cell 0
  have c1 : w1.cell? ⟨g, 1, none⟩ = some (.int .i8 op) := hB1.cell 1
  have c2 : w1.cell? ⟨g, 2, none⟩ = some (.int .i8 wd) := hB1.cell 2
  have c3 : w1.cell? ⟨g, 3, none⟩ = some (.int .i8 sz) := hB1.cell 3
  have c4 : w1.cell? ⟨g, 4, none⟩ = some (.bool br) := hB1.cell 4
  have HBB := hide hb
  clear hb hB1
  go_wp2_with fail
  go_loopw [3, 8] (fun a b wr => SzRel sz w1 a b wr) (fun _ i _ => 4 - (intOf i).toNat)
  case atStart => exact ⟨0, by omega, rfl, rfl, rfl⟩
  case round =>
    obtain ⟨j, hj, rfl, rfl, rfl⟩ := hrel
    have lb := lg_bd j hj sz
    have LG := hide (show ∀ m, lgN (m + 1) sz = if ([1, 2, 4, 8] : List Int).getD m 0 = sz then (m : Int) else lgN m sz from fun m => rfl)
    obtain ⟨l0, l1⟩ := lb
    obtain ⟨lj, hlj⟩ : ∃ v, lgN j sz = v := ⟨_, rfl⟩
    rw [hlj] at l0 l1 ⊢
    have HLJ := hide hlj
    clear hlj
    have hj5 : j = 0 ∨ j = 1 ∨ j = 2 ∨ j = 3 ∨ j = 4 := by omega
    rcases hj5 with rfl | rfl | rfl | rfl | rfl
    · cases hs : ((1 : Int) == sz)
      all_goals
        go_wp2
        go_roundw
        case measure => simp [intOf]
        case rel => exact ⟨1, by omega, rfl, by rw [LG.out 0, HLJ.out]; simp at hs; simp [hs], rfl⟩
    · cases hs : ((2 : Int) == sz)
      all_goals
        go_wp2
        go_roundw
        case measure => simp [intOf]
        case rel => exact ⟨2, by omega, rfl, by rw [LG.out 1, HLJ.out]; simp at hs; simp [hs], rfl⟩
    · cases hs : ((4 : Int) == sz)
      all_goals
        go_wp2
        go_roundw
        case measure => simp [intOf]
        case rel => exact ⟨3, by omega, rfl, by rw [LG.out 2, HLJ.out]; simp at hs; simp [hs], rfl⟩
    · cases hs : ((8 : Int) == sz)
      all_goals
        go_wp2
        go_roundw
        case measure => simp [intOf]
        case rel => exact ⟨4, by omega, rfl, by rw [LG.out 3, HLJ.out]; simp at hs; simp [hs], rfl⟩
    · clear i0 i1 i2 i3
      have k7 : k = 0 ∨ k = 1 ∨ k = 2 ∨ k = 3 ∨ k = 4 ∨ k = 5 ∨ k = 6 := by omega
      rcases k7 with rfl | rfl | rfl | rfl | rfl | rfl | rfl
      · cases h32 : (wd == 32)
        all_goals
          cases br
          all_goals
            go_wp2
            go_ret
            exact ⟨ret_i (by simp at h32; simp [codeN, byN, h32] <;> omega), HBB.out⟩
      all_goals
        cases br
        all_goals
          go_wp2
          go_ret
          exact ⟨ret_i (by simp [codeN, byN, HLJ.out] <;> omega), HBB.out⟩
end Go.Proofs.Ytopanomcbkhbnaa
