/-
  Contract of norm.Ite. Conditions: those written in each statement.
-/
import Derived.Test.YtfjflefgclfbfaaGreatTu
namespace Go.Proofs.YtfjflefgclfbfaaGreat
open Go.RowKit
set_option linter.unusedVariables false
set_option linter.unusedSimpArgs false
set_option maxRecDepth 100000
/-- The four variables that Ite's parameters lie in. -/
structure O4 (g : Nat) (a b c : Int) (b4 : Nat) (F : Nat → Prop) (w : World) : Prop where
  e4 : Own1 w F b4 26 (.pointer (some ⟨g, 0, none⟩))
  e5 : Own1 w F (b4 + 1) 3 (.int .i64 a)
  e6 : Own1 w F (b4 + 1 + 1) 3 (.int .i64 b)
  e7 : Own1 w F (b4 + 1 + 1 + 1) 3 (.int .i64 c)
section
variable {base g b4 : Nat} {a b c : Int} {F F1 : Nat → Prop} {w w1 : World} {p : PS}
theorem O4.below (h : O4 g a b c b4 F w) (k : Below w.heap.size w w1) : O4 g a b c b4 F w1 := ⟨h.e4.below k, h.e5.below k, h.e6.below k, h.e7.below k⟩
theorem O4.new (W : World) (hp : PoolAt W base F g p) : O4 g a b c W.heap.size F ((((W.alloc (.cells #[.pointer (some ⟨g, 0, none⟩)] 26)).alloc (.cells #[.int .i64 a] 3)).alloc (.cells #[.int .i64 b] 3)).alloc (.cells #[.int .i64 c] 3)) ∧ Below W.heap.size W ((((W.alloc (.cells #[.pointer (some ⟨g, 0, none⟩)] 26)).alloc (.cells #[.int .i64 a] 3)).alloc (.cells #[.int .i64 b] 3)).alloc (.cells #[.int .i64 c] 3)) := by
  have nf : ∀ k, W.heap.size ≤ k → ¬ F k := fun k hk q => by have := (hp.fb k q).2; omega
  have c0 := (((Boxed.new W 26 (.pointer (some ⟨g, 0, none⟩))).alloc (.cells #[.int .i64 a] 3)).alloc (.cells #[.int .i64 b] 3)).alloc (.cells #[.int .i64 c] 3)
  have c1 := ((Boxed.new (W.alloc (.cells #[.pointer (some ⟨g, 0, none⟩)] 26)) 3 (.int .i64 a)).alloc (.cells #[.int .i64 b] 3)).alloc (.cells #[.int .i64 c] 3)
  have c2 := (Boxed.new ((W.alloc (.cells #[.pointer (some ⟨g, 0, none⟩)] 26)).alloc (.cells #[.int .i64 a] 3)) 3 (.int .i64 b)).alloc (.cells #[.int .i64 c] 3)
  have c3 := Boxed.new (((W.alloc (.cells #[.pointer (some ⟨g, 0, none⟩)] 26)).alloc (.cells #[.int .i64 a] 3)).alloc (.cells #[.int .i64 b] 3)) 3 (.int .i64 c)
  simp only [World.size_alloc] at c0 c1 c2 c3
  refine ⟨⟨⟨c0, nf _ (by omega)⟩, ⟨c1, nf _ (by omega)⟩, ⟨c2, nf _ (by omega)⟩, ⟨c3, nf _ (by omega)⟩⟩, ?_⟩
  exact ((((Below.refl _ W).alloc (Nat.le_refl _) _).alloc (by simp) _).alloc (by simp; omega) _).alloc (by simp; omega) _
end
section
variable {base g : Nat}
set_option maxHeartbeats 8000000 in
theorem ite_step (f : Nat) (hIH : IteC base g iteF f) : IteC base g iteF (f + 1) := by
  intro a b c ha hb hc F p r hO W h hbase
  have HIH := hide hIH
  have HI := hide (And.intro ha (And.intro hb hc))
  have HB := hide hbase
  rw [iteF_succ] at hO
  have HO := hide hO
  have HP := hide h
  have HN4 := hide (O4.new (a := a) (b := b) (c := c) W h)
  clear hIH ha hb hc hbase hO h
  go_enter Tryz.func19, Tryz.ntmps19
  go_upto_region 1 with fail
  generalize ((((W.alloc (.cells #[.pointer (some ⟨g, 0, none⟩)] 26)).alloc (.cells #[.int .i64 a] 3)).alloc (.cells #[.int .i64 b] 3)).alloc (.cells #[.int .i64 c] 3)) = W1 at HN4 ⊢
  have H4 := hide HN4.out.1
  have HQ := hide (PG.of_below HP.out HN4.out.2)
  clear HN4
  obtain ⟨b4, hb4⟩ : ∃ b, W.heap.size = b := ⟨_, rfl⟩
  rw [hb4] at H4 ⊢
  clear hb4
  have c4 := H4.out.e4.1.cell 0
  have c5 := H4.out.e5.1.cell 0
  have c6 := H4.out.e6.1.cell 0
  have c7 := H4.out.e7.1.cell 0
  simp at c4 c5 c6 c7
  go_wp2_with fail
  have hb1 := bl_alloc W1 (.cells #[.int .i64 a, .int .i64 b, .int .i64 c] 3)
  have HQ1 := hide (HQ.out.step hb1)
  have H41 := hide (H4.out.below hb1)
  refine (there_any [a, b, c] _ 3 3 _ HQ1.out.pool (reads_list W1 3 [.int .i64 a, .int .i64 b, .int .i64 c] 3 rfl) rfl (Nat.le_refl _) (by omega)).mono ?_
  rintro e W2 ⟨rfl, hb⟩
  have HQ2 := hide (HQ1.out.step hb)
  have H42 := hide (H41.out.below hb)
  clear hb hb1 HQ HQ1 H4 H41 c4 c5 c6 c7
  cases hh : ([a, b, c].all (hasB p.T))
  · have hO := HO.out
    rw [if_pos hh] at hO
    injection hO with hO
    subst hO
    simp only [Bool.false_eq_true, if_false]
    go_wp2
    go_ret2
    exact RetP.same HQ2.out
  · have hO := HO.out
    rw [if_neg (by rw [hh]; simp)] at hO
    have HO2 := hide hO
    simp only [if_true]
    clear hO HO hh
    have c4 := H42.out.e4.1.cell 0
    simp at c4
    go_upto_region 5 with fail
    have hb4 := bl_alloc W2 (.cells #[.pointer (some ⟨g, 0, none⟩)] 63)
    have HQ4 := hide (HQ2.out.step hb4)
    have H44 := hide (H42.out.below hb4)
    have H11 := hide (Own1.new HQ2.out.pool 63 (.pointer (some ⟨g, 0, none⟩)))
    obtain ⟨b11, hb11⟩ : ∃ b, W2.heap.size = b := ⟨_, rfl⟩
    rw [hb11] at H11 ⊢
    clear hb4 c4 HQ2 H42 hb11
    generalize W2.alloc (.cells #[.pointer (some ⟨g, 0, none⟩)] 63) = W4 at HQ4 H44 H11 ⊢
    have c11 := H11.out.1.cell 0
    have c5 := H44.out.e5.1.cell 0
    simp at c11 c5
    obtain ⟨s, hs⟩ : ∃ s, atP p.T a = s := ⟨_, rfl⟩
    have HS := hide hs
    have HU := hide (show U64 s.n from hs ▸ (atP_wf HQ4.out.pool.rng a).2.2.2.1)
    clear hs
    obtain ⟨iU, hiU, hzU, hsU, hbU⟩ := info_parts infT
    have IU := hide (And.intro hiU (And.intro hzU (And.intro hsU hbU)))
    clear hiU hzU hsU hbU
    go_wp2_with fail
    refine (at_any a _ HQ4.out.pool).mono ?_
    rintro e W5 ⟨rfl, hb⟩
    rw [HS.out]
    have HQ5 := hide (HQ4.out.step hb)
    have H45 := hide (H44.out.below hb)
    have H115 := hide (H11.out.below hb)
    clear hb HQ4 H44 H11 c11 c5
    go_upto_region 6 with (first
      | (refine wpList_store_new rfl 67 (.tmp 12) (.tmp 28) rfl _ s.cells (termV s) (by rfl) (by rfl) rfl sizT rfl (TD.one _) ?_
         intro W6 G6 L6 Z6
         have HZ6 := hide G6
         have HL6 := hide L6
         clear G6 L6 Z6)
      | fail)
    have HQ6 := hide (HQ5.out.step HL6.out)
    have H46 := hide (H45.out.below HL6.out)
    have H116 := hide (H115.out.below HL6.out)
    have H12 := hide (show Blk W6 W5.heap.size 67 s.cells.toArray ∧ ¬ F W5.heap.size from ⟨HZ6.out, fun q => by have := (HQ5.out.pool.fb _ q).2; omega⟩)
    obtain ⟨b12, hb12⟩ : ∃ b, W5.heap.size = b := ⟨_, rfl⟩
    rw [hb12] at H12 ⊢
    clear HQ5 H45 H115 hb12 HL6 HZ6
    simp only [Act.put, List.setIfInBounds_toArray, List.set_cons_zero, List.set_cons_succ]
    have c7 := H46.out.e7.1.cell 0
    simp at c7
    go_upto_region 7 with fail
    have hb7 := bl_alloc W6 (.cells #[.int .i64 c] 3)
    have HQ7 := hide (HQ6.out.step hb7)
    have H47 := hide (H46.out.below hb7)
    have H117 := hide (H116.out.below hb7)
    have H127 := hide (show Blk (W6.alloc (.cells #[.int .i64 c] 3)) b12 67 s.cells.toArray ∧ ¬ F b12 from ⟨H12.out.1.below hb7 H12.out.1.lt, H12.out.2⟩)
    have H13 := hide (Own1.new HQ6.out.pool 3 (.int .i64 c))
    obtain ⟨b13, hb13⟩ : ∃ b, W6.heap.size = b := ⟨_, rfl⟩
    have HLT := hide (show b4 + 1 + 1 + 1 < b13 ∧ b11 < b13 ∧ b12 < b13 from hb13 ▸ ⟨H46.out.e7.1.lt, H116.out.1.lt, H12.out.1.lt⟩)
    have HGE := hide (show W.heap.size ≤ b13 from hb13 ▸ HQ6.out.size)
    rw [hb13] at H13 ⊢
    clear hb7 c7 HQ6 H46 H116 H12 hb13
    generalize W6.alloc (.cells #[.int .i64 c] 3) = W7 at HQ7 H47 H117 H127 H13 ⊢
    have q3 := H127.out.1.cell 3
    have c6 := H47.out.e6.1.cell 0
    have f13 := H13.out.1.frozen 0
    have c13 := H13.out.1.cell 0
    simp [TD.cells] at q3 c6 c13
    cases hz : (s.n == 0)
    · have HZ0 := hide (show (if s.n = 0 then c else b) = b from if_neg (by simpa using hz))
      have hz1 : (s.n != 0) = true := by simp only [bne, hz]; rfl
      go_upto_region 9 with fail
      have HQ8 := hide (HQ7.out.set H13.out.2 HGE.out (.int .i64 b))
      have H48 := hide (show O4 g a b c b4 F (W7.setCell ⟨b13, 0, none⟩ (.int .i64 b)) from ⟨H47.out.e4.other _ (by have := HLT.out; omega), H47.out.e5.other _ (by have := HLT.out; omega), H47.out.e6.other _ (by have := HLT.out; omega), H47.out.e7.other _ (by have := HLT.out; omega)⟩)
      have H118 := hide (H117.out.other (.int .i64 b) (show b11 ≠ b13 by have := HLT.out; omega))
      have H128 := hide (show Blk (W7.setCell ⟨b13, 0, none⟩ (.int .i64 b)) b12 67 s.cells.toArray ∧ ¬ F b12 from ⟨H127.out.1.set2 _ (by have := HLT.out; omega), H127.out.2⟩)
      have H138 := hide (H13.out.set (.int .i64 b))
      clear HQ7 H47 H117 H127 H13 q3 c6 f13 c13
      generalize W7.setCell ⟨b13, 0, none⟩ (.int .i64 b) = W8 at HQ8 H48 H118 H128 H138 ⊢
      go_upto_region 10 with fail
      have hb9 := bl_alloc W8 (.cells #[.func (.func 64) #[] #[]] 85)
      have HQ9 := hide (HQ8.out.step hb9)
      have H49 := hide (H48.out.below hb9)
      have H119 := hide (H118.out.below hb9)
      have H129 := hide (show Blk (W8.alloc (.cells #[.func (.func 64) #[] #[]] 85)) b12 67 s.cells.toArray ∧ ¬ F b12 from ⟨H128.out.1.below hb9 H128.out.1.lt, H128.out.2⟩)
      have H139 := hide (H138.out.below hb9)
      have H14 := hide (Own1.new HQ8.out.pool 85 (.func (.func 64) #[] #[]))
      obtain ⟨b14, hb14⟩ : ∃ b, W8.heap.size = b := ⟨_, rfl⟩
      rw [hb14] at H14 ⊢
      clear hb9 HQ8 H48 H118 H128 H138 hb14
      generalize W8.alloc (.cells #[.func (.func 64) #[] #[]] 85) = W9 at HQ9 H49 H119 H129 H139 H14 ⊢
      go_wp2_with fail
      have hbA := bl_alloc W9 (.cells (ilawsL b4 (b4 + 1) (b4 + 1 + 1) (b4 + 1 + 1 + 1) b11 b12 b13 b14).toArray 115)
      have HQA := hide (HQ9.out.step hbA)
      have HRD := hide (reads_list W9 115 (ilawsL b4 (b4 + 1) (b4 + 1 + 1) (b4 + 1 + 1 + 1) b11 b12 b13 b14) 4 rfl)
      have hE : IteE g a b c (if s.n = 0 then c else b) s b4 (b4 + 1) (b4 + 1 + 1) (b4 + 1 + 1 + 1) b11 b12 b13 b14 F (W9.alloc (.cells (ilawsL b4 (b4 + 1) (b4 + 1 + 1) (b4 + 1 + 1 + 1) b11 b12 b13 b14).toArray 115)) :=
        ⟨H49.out.e4.below hbA, H49.out.e5.below hbA, H49.out.e6.below hbA, H49.out.e7.below hbA, H119.out.below hbA, ⟨H129.out.1.below hbA H129.out.1.lt, H129.out.2⟩, (by have := H139.out.below hbA; rw [HZ0.out]; exact this), H14.out.below hbA⟩
      obtain ⟨j, hj, hno, hyes, hput⟩ := ite_choose hE HQA.out.pool (Nat.le_trans HB.out HQA.out.size) HIH.out HS.out HI.out.1 HI.out.2.1 HI.out.2.2 HO2.out
      refine (first_any _ _ 4 4 _ _ j _ rfl (by omega) (Nat.le_refl _) HRD.out hj hno hyes hput).mono ?_
      rintro e W15 ⟨n, m, rfl, hrr⟩
      have HRR := hide hrr
      clear hrr hno hyes hput hE
      go_wp2
      go_ret2
      exact (HRR.out.from HQA.out).ret
    · have HZ0 := hide (show (if s.n = 0 then c else b) = c from if_pos (by simpa using hz))
      have hz1 : (s.n != 0) = false := by simp only [bne, hz]; rfl
      have HQ8 := HQ7
      have H48 := H47
      have H118 := H117
      have H128 := H127
      have H138 := H13
      generalize W7 = W8 at HQ7 H47 H117 H127 H13 q3 c6 f13 c13 HQ8 H48 H118 H128 H138 ⊢
      clear HQ7 H47 H117 H127 H13
      go_upto_region 10 with fail
      have hb9 := bl_alloc W8 (.cells #[.func (.func 64) #[] #[]] 85)
      have HQ9 := hide (HQ8.out.step hb9)
      have H49 := hide (H48.out.below hb9)
      have H119 := hide (H118.out.below hb9)
      have H129 := hide (show Blk (W8.alloc (.cells #[.func (.func 64) #[] #[]] 85)) b12 67 s.cells.toArray ∧ ¬ F b12 from ⟨H128.out.1.below hb9 H128.out.1.lt, H128.out.2⟩)
      have H139 := hide (H138.out.below hb9)
      have H14 := hide (Own1.new HQ8.out.pool 85 (.func (.func 64) #[] #[]))
      obtain ⟨b14, hb14⟩ : ∃ b, W8.heap.size = b := ⟨_, rfl⟩
      rw [hb14] at H14 ⊢
      clear hb9 HQ8 H48 H118 H128 H138 hb14
      generalize W8.alloc (.cells #[.func (.func 64) #[] #[]] 85) = W9 at HQ9 H49 H119 H129 H139 H14 ⊢
      go_wp2_with fail
      have hbA := bl_alloc W9 (.cells (ilawsL b4 (b4 + 1) (b4 + 1 + 1) (b4 + 1 + 1 + 1) b11 b12 b13 b14).toArray 115)
      have HQA := hide (HQ9.out.step hbA)
      have HRD := hide (reads_list W9 115 (ilawsL b4 (b4 + 1) (b4 + 1 + 1) (b4 + 1 + 1 + 1) b11 b12 b13 b14) 4 rfl)
      have hE : IteE g a b c (if s.n = 0 then c else b) s b4 (b4 + 1) (b4 + 1 + 1) (b4 + 1 + 1 + 1) b11 b12 b13 b14 F (W9.alloc (.cells (ilawsL b4 (b4 + 1) (b4 + 1 + 1) (b4 + 1 + 1 + 1) b11 b12 b13 b14).toArray 115)) :=
        ⟨H49.out.e4.below hbA, H49.out.e5.below hbA, H49.out.e6.below hbA, H49.out.e7.below hbA, H119.out.below hbA, ⟨H129.out.1.below hbA H129.out.1.lt, H129.out.2⟩, (by have := H139.out.below hbA; rw [HZ0.out]; exact this), H14.out.below hbA⟩
      obtain ⟨j, hj, hno, hyes, hput⟩ := ite_choose hE HQA.out.pool (Nat.le_trans HB.out HQA.out.size) HIH.out HS.out HI.out.1 HI.out.2.1 HI.out.2.2 HO2.out
      refine (first_any _ _ 4 4 _ _ j _ rfl (by omega) (Nat.le_refl _) HRD.out hj hno hyes hput).mono ?_
      rintro e W15 ⟨n, m, rfl, hrr⟩
      have HRR := hide hrr
      clear hrr hno hyes hput hE
      go_wp2
      go_ret2
      exact (HRR.out.from HQA.out).ret
theorem ite_all (f : Nat) : IteC base g iteF f := by
  induction f with
  | zero => intro a b c _ _ _ F p r hO; cases hO
  | succ f ih => exact ite_step f ih
end
end Go.Proofs.YtfjflefgclfbfaaGreat
