/-
  Contracts of norm's narrow, Narrow, operand, both, zext, Zext. Conditions: those written in each statement.
-/
import Derived.Test.YtfjflefgclfbfaaGreatNe
import Derived.Test.YtfjflefgclfbfaaGreatNb
import Derived.BigRegion
import Derived.RegionTactic
namespace Go.Proofs.YtfjflefgclfbfaaGreat
open Go.RowKit
set_option linter.unusedVariables false
set_option linter.unusedSimpArgs false
set_option maxRecDepth 100000
theorem cut_less {x n : Int} (hx : x = 8 ∨ x = 16 ∨ x = 32) (h : 0 ≤ n) : (n / 2 ^ x.toNat == 0) = decide (n = cutV x n) := by
  rw [Bool.eq_iff_iff]
  simp only [beq_iff_eq, decide_eq_true_eq]
  unfold cutV
  rcases hx with rfl | rfl | rfl
  · show n / 256 = 0 ↔ _
    simp
    omega
  · show n / 65536 = 0 ↔ _
    simp
    omega
  · show n / 4294967296 = 0 ↔ _
    simp
    omega
theorem ret_b6 {a b : Bool} (h : a = b) : Ending.returned (.bool a) = .returned (.bool b) := by rw [h]
section
variable {base g : Nat} {F : Nat → Prop} {p : PS}
set_option maxHeartbeats 2000000 in
theorem narrow_any (k x : Int) (hx : x = 8 ∨ x = 16 ∨ x = 32 ∨ x = 64) (w : World) (h : PoolAt w base F g p) :
    Calls Tryz.prog 31 #[.agg #[.pointer (some ⟨g, 0, none⟩)], .int .i64 k, .int .i8 x] w fun e w' => e = .returned (.bool (narrowP p.T k x)) ∧ Below w.heap.size w w' := by
  obtain ⟨t, ht⟩ : ∃ t, atP p.T k = t := ⟨_, rfl⟩
  have htw : t.wf := by rw [← ht]; exact atP_wf h.rng k
  obtain ⟨r, hr⟩ : ∃ r, narrowP p.T k x = r := ⟨_, rfl⟩
  rw [hr]
  unfold narrowP at hr
  rw [ht] at hr
  have HR := hide hr
  have HT := hide ht
  have HU := hide htw.2.2.2.1
  have hb0 : Below w.heap.size w (w.alloc (.cells #[.pointer (some ⟨g, 0, none⟩)] 63)) := (Below.refl _ w).alloc (Nat.le_refl _) _
  have HP := hide (h.below hb0)
  have HB := hide hb0
  have HX0 := hide hx
  clear h hb0 ht htw hr hx
  go_enter Tryz.func31, Tryz.ntmps31
  go_wp2_with fail
  refine (at_any k _ HP.out).mono ?_
  rintro e w1 ⟨rfl, hb⟩
  have HB1 := hide (HB.out.trans (hb.mono HB.out.size))
  clear hb HP HB
  rw [HT.out]
  go_upto_region 2 with (first
    | (refine wpList_store_new rfl 67 (.tmp 7) (.tmp 10) rfl _ t.cells (termV t) (by rfl) (by rfl) rfl sizT rfl (TD.one _) ?_
       intro w5 G5 L5 Z5
       have HX := hide G5
       have HB2 := hide (HB1.out.trans (L5.mono HB1.out.size))
       clear G5 L5 Z5)
    | fail)
  have b0 := HX.out.cell 0
  have b2 := HX.out.cell 2
  have b3 := HX.out.cell 3
  simp [TD.cells] at b0 b2 b3
  cases h64 : (x == 64)
  · cases h4 : (t.kind == 4)
    · have hx0 : (0 : Int) ≤ x := by have := HX0.out; omega
      have hx1 : x < 64 := by have := HX0.out; simp at h64; omega
      cases hk0 : (t.kind == 0)
      · cases hk3 : (t.kind == 3)
        · cases hk1 : (t.kind == 1)
          · cases hk2 : (t.kind == 2)
            · go_wp2
              go_ret
              exact ⟨ret_b6 (by rw [← HR.out]; simp at h64 h4 hk0 hk3 hk1 hk2; simp [h64, h4, hk0, hk3, hk1, hk2]), HB2.out⟩
            · cases hw : (t.w == 32)
              · go_wp2
                go_ret
                exact ⟨ret_b6 (by rw [← HR.out]; simp at h64 h4 hk0 hk3 hk1 hk2 hw; simp [h64, hk2, hw]), HB2.out⟩
              · go_wp2
                go_ret
                exact ⟨ret_b6 (by rw [← HR.out]; simp at h64 h4 hk0 hk3 hk1 hk2 hw; simp [h64, hk2, hw]; try rfl), HB2.out⟩
          · go_wp2
            go_ret
            exact ⟨ret_b6 (by rw [← HR.out]; simp at h64 h4 hk0 hk3 hk1; simp [h64, hk1]), HB2.out⟩
        · go_wp2
          go_ret
          exact ⟨ret_b6 (by rw [← HR.out]; simp at h64 h4 hk0 hk3; simp [h64, hk3]), HB2.out⟩
      · go_wp2
        go_ret
        exact ⟨ret_b6 (by rw [← HR.out]; simp at h64 h4 hk0; rw [cut_less (by have := HX0.out; omega) HU.out.1]; simp [h64, hk0]), HB2.out⟩
    · go_wp2
      go_ret
      exact ⟨ret_b6 (by rw [← HR.out]; simp at h64 h4; simp [h4]), HB2.out⟩
  · go_wp2
    go_ret
    exact ⟨ret_b6 (by rw [← HR.out]; simp at h64; simp [h64]), HB2.out⟩
theorem cutV_u64 {x n : Int} (h : U64 n) : U64 (cutV x n) := by
  unfold U64 at *
  unfold cutV
  split
  · omega
  · split
    · omega
    · split <;> omega
set_option maxHeartbeats 2000000 in
theorem operand_any (x k : Int) (hx : x = 32 ∨ x = 64) (w : World) (h : PoolAt w base F g p) (hbase : base ≤ w.heap.size) :
    Calls Tryz.prog 93 #[.agg #[.pointer (some ⟨g, 0, none⟩)], .int .i8 x, .int .i64 k] w (RetP base g F w (operandP p x k)) := by
  obtain ⟨t, ht⟩ : ∃ t, atP p.T k = t := ⟨_, rfl⟩
  have htw : t.wf := by rw [← ht]; exact atP_wf h.rng k
  have HE : Hid (operandP p x k = if t.kind = 0 then putR p (constT (cutV x t.n)) else if x = 32 ∧ t.kind = 3 ∧ t.w = 32 then (p, t.a, 0) else (p, k, 0)) := hide (by unfold operandP; rw [ht])
  obtain ⟨r, hr⟩ : ∃ r, operandP p x k = r := ⟨_, rfl⟩
  rw [hr] at HE ⊢
  have HT := hide ht
  have HU := hide (cutV_u64 (x := x) htw.2.2.2.1)
  have hb0 : Below w.heap.size w (w.alloc (.cells #[.pointer (some ⟨g, 0, none⟩)] 63)) := (Below.refl _ w).alloc (Nat.le_refl _) _
  have HP := hide (PG.of_below h hb0)
  have HZ := hide (Blk.new w 63 #[.pointer (some ⟨g, 0, none⟩)])
  clear h hb0 ht htw hr
  go_enter Tryz.func93, Tryz.ntmps93
  go_wp2_with fail
  refine (at_any k _ HP.out.pool).mono ?_
  rintro e w1 ⟨rfl, hb⟩
  have HP1 := hide (HP.out.step hb)
  have HZ1 := hide (HZ.out.below hb HZ.out.lt)
  clear hb HP HZ
  rw [HT.out]
  go_upto_region 2 with (first
    | (refine wpList_store_new rfl 67 (.tmp 8) (.tmp 11) rfl _ t.cells (termV t) (by rfl) (by rfl) rfl sizT rfl (TD.one _) ?_
       intro w5 G5 L5 Z5
       have HX := hide G5
       have HP2 := hide (HP1.out.step L5)
       have HZ2 := hide (HZ1.out.below L5 HZ1.out.lt)
       clear G5 L5 Z5)
    | fail)
  obtain ⟨b8, hb8⟩ : ∃ b, w1.heap.size = b := ⟨_, rfl⟩
  rw [hb8] at HX ⊢
  have c0 := HZ2.out.cell 0
  have b0 := HX.out.cell 0
  have b2 := HX.out.cell 2
  have b3 := HX.out.cell 3
  have b4 := HX.out.cell 4
  simp [TD.cells] at b0 b2 b3 b4 c0
  have hb5 : base ≤ w5.heap.size := Nat.le_trans hbase HP2.out.size
  cases hk0 : (t.kind == 0)
  · cases hx32 : (x == 32)
    · go_wp2
      go_ret2
      rw [HE.out, if_neg (by simpa using hk0), if_neg (by simp at hx32; simp [hx32])]
      exact RetP.same HP2.out
    · cases hk3 : (t.kind == 3)
      · go_wp2
        go_ret2
        rw [HE.out, if_neg (by simpa using hk0), if_neg (by simp at hk3; simp [hk3])]
        exact RetP.same HP2.out
      · cases hw32 : (t.w == 32)
        · go_wp2
          go_ret2
          rw [HE.out, if_neg (by simpa using hk0), if_neg (by simp at hw32; simp [hw32])]
          exact RetP.same HP2.out
        · go_wp2
          go_ret2
          rw [HE.out, if_neg (by simpa using hk0), if_pos ⟨by simpa using hx32, by simpa using hk3, by simpa using hw32⟩]
          exact RetP.same HP2.out
  · go_upto_region 3 with fail
    go_region_with (first
      | (go_at_call 50; refine (cut_any _ _ _).mono ?_; rintro e w' ⟨rfl, rfl⟩)
      | (go_at_call 14; refine (const_any _ HU.out _ (HP2.out.pool.drew) hb5).mono ?_; rintro e w' ⟨rfl, hr⟩))
    all_goals
      have HR := hide hr
      clear hr
      go_wp2
      go_ret2
      rw [HE.out, if_pos (by simpa using hk0)]
      exact RetP.from (HP2.out.step ((Below.refl _ _).drew)) ⟨rfl, HR.out⟩
end
end Go.Proofs.YtfjflefgclfbfaaGreat
