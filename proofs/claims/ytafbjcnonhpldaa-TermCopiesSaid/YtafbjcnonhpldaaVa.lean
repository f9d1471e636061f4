/-
  Contract: Vars. Conditions: those written in each statement.
-/
import Derived.Test.YtafbjcnonhpldaaVk
import Derived.Laws.EntriesVeiled
namespace Go.Proofs.Ytafbjcnonhpldaa
open Go.RowKit
set_option linter.unusedVariables false
set_option linter.unusedSimpArgs false
theorem vars_nil (k : Int) (w : World) : Calls Try.prog 15 #[.pointer none, .int .i64 k] w fun e w' => e = .returned (.slice none 0 0) ∧ Below w.heap.size w w' := by
  go_enter Try.func15, Try.ntmps15
  go_wp2_with fail
  refine (has_nil k _).mono ?_
  rintro e w' ⟨rfl, rfl⟩
  go_wp2
  exact bodyPost_ret (v := .slice none 0 0) (by simp [results, Try.results15, go_sem]) rfl ⟨rfl, ((Below.refl _ _).alloc (Nat.le_refl _) _).alloc (by simp) _⟩
def VarsP (p : PS) (k : Nat) (w : World) (e : Ending) (w' : World) : Prop := ∃ s l, e = .returned s ∧ IsVars p.T k l ∧ NumsAt w' w.heap.size s l ∧ l.length ≤ 4000 ∧ Below w.heap.size w w'
set_option maxRecDepth 100000 in
set_option maxHeartbeats 4000000 in
theorem vars_any {base g k : Nat} {F : Nat → Prop} {p : PS} (w : World) (h : PoolAt w base F g p) (hk : k < p.T.length) :
    Calls Try.prog 15 #[.pointer (some ⟨g, 0, none⟩), .int .i64 k] w (VarsP p k w) := by
  have HH := hide (show hasB p.T k = true by unfold hasB; simp; exact hk)
  have HU := hide (fun t ht => (h.rng t ht).2.2.2.1 : ∀ t ∈ p.T, U64 t.n)
  have hb1 : Below w.heap.size w (w.alloc (.cells #[.pointer (some ⟨g, 0, none⟩)] 24)) := (Below.refl _ _).alloc (Nat.le_refl _) _
  have N1 := Blk.new w 24 #[.pointer (some ⟨g, 0, none⟩)]
  have HOLD := hide (fun b q => (h.fb b q).2 : ∀ b, F b → b < w.heap.size)
  have H1 := hide (h.below hb1)
  have HN1 := hide N1
  have HB1 := hide hb1
  clear h hb1 N1
  go_enter Try.func15, Try.ntmps15
  go_wp2_with fail
  have N2 := Blk.new (w.alloc (.cells #[.pointer (some ⟨g, 0, none⟩)] 24)) 39 #[.slice none 0 0]
  have L2 : Below w.heap.size w ((w.alloc (.cells #[.pointer (some ⟨g, 0, none⟩)] 24)).alloc (.cells #[.slice none 0 0] 39)) := HB1.out.alloc (by simp) _
  rw [show (w.alloc (.cells #[.pointer (some ⟨g, 0, none⟩)] 24)).heap.size = w.heap.size + 1 from by simp] at N2
  have hb2 : Below w.heap.size w ((w.alloc (.cells #[.pointer (some ⟨g, 0, none⟩)] 24)).alloc (.cells #[.slice none 0 0] 39)) := L2
  have HP2 := hide (H1.out.below ((Below.refl _ _).alloc (Nat.le_refl _) (.cells #[.slice none 0 0] 39)))
  have HN1' := hide (HN1.out.alloc (.cells #[.slice none 0 0] 39))
  have HN2 := hide N2
  have HL2 := hide L2
  clear N2 L2 hb2 HN1 H1 HB1
  obtain ⟨w2, hw2⟩ : ∃ w2, (w.alloc (.cells #[.pointer (some ⟨g, 0, none⟩)] 24)).alloc (.cells #[.slice none 0 0] 39) = w2 := ⟨_, rfl⟩
  rw [hw2] at HP2 HN1' HN2 HL2 ⊢
  obtain ⟨gp, hgp⟩ : ∃ b, w.heap.size = b := ⟨_, rfl⟩
  obtain ⟨go, hgo⟩ : ∃ b, w.heap.size + 1 = b := ⟨_, rfl⟩
  have hgo2 : gp < go := by omega
  have hgo3 : w.heap.size ≤ gp := by omega
  have hz2 : go < w2.heap.size := by rw [← hgo]; exact HN2.out.lt
  have HG := hide hgp
  rw [hgo] at HN2 ⊢
  rw [hgp] at HN1' ⊢
  clear hw2 hgp hgo
  refine (has_any k HP2.out).mono ?_
  rintro e w3 ⟨rfl, rfl⟩
  rw [HH.out]
  go_upto_region 4 with (first
    | (refine wpList_makeMap (Value.int .i64) I64 3 rfl 57 rfl ?_
       intro w3 gm G3 M3 L3
       have HM3 := hide M3
       have HP3 := hide (HP2.out.below L3)
       have HO3 := hide (HN2.out.below L3 HN2.out.lt)
       have HV3 := hide (HN1'.out.below L3 HN1'.out.lt)
       have HL3 := hide (HL2.out.trans (L3.mono HL2.out.size))
       have hz3 : go < w3.heap.size := HO3.out.lt
       have hgm : go < gm := by omega
       clear M3 G3 L3)
    | fail)
  have X4 := Blk.new w3 57 #[.map (some gm)]
  have L4 : Below w3.heap.size w3 (w3.alloc (.cells #[.map (some gm)] 57)) := (Below.refl _ _).alloc (Nat.le_refl _) _
  obtain ⟨w4, hw4⟩ : ∃ w4, w3.alloc (.cells #[.map (some gm)] 57) = w4 := ⟨_, rfl⟩
  rw [hw4] at X4 L4 ⊢
  have HX4 := hide X4
  have HL4 := hide L4
  have hz4 : w3.heap.size < w4.heap.size := X4.lt
  obtain ⟨gs, hgs⟩ : ∃ b, w3.heap.size = b := ⟨_, rfl⟩
  have hgs2 : go < gs := by omega
  have HGS := hide hgs
  rw [hgs] at HX4 hz4 ⊢
  clear X4 L4 hw4 hgs
  go_upto_region 6 with fail
  have X5 := Blk.new w4 58 #[wkV gs gp go w4.heap.size]
  have L5 : Below w4.heap.size w4 (w4.alloc (.cells #[wkV gs gp go w4.heap.size] 58)) := (Below.refl _ _).alloc (Nat.le_refl _) _
  generalize w4.alloc (.cells #[wkV gs gp go w4.heap.size] 58) = w5 at X5 L5 ⊢
  have HVK := hide (show VkF base g F p w.heap.size gs gm gp go w4.heap.size (.slice none 0 0) [] [] w5 from
    ⟨(HP3.out.below HL4.out).below L5, HX4.out.below L5 HX4.out.lt, (HV3.out.below HL4.out HV3.out.lt).below L5 (by omega), (HO3.out.below HL4.out HO3.out.lt).below L5 (by omega), X5,
     ((HM3.out.below HL4.out HM3.out.lt).below L5 (by have := HM3.out.lt; have := HL4.out.size; omega)).congr (fun x => by unfold seenF; simp), ⟨rfl, .inl ⟨rfl, rfl⟩⟩, HOLD.out, by have := HG.out; have := HL4.out.size; omega, List.nodup_nil, by simp⟩)
  have HL5 := hide ((HL3.out.trans (HL4.out.mono HL3.out.size)).trans (L5.mono (by have := HL3.out.size; have := HL4.out.size; omega)))
  have c4 := HVK.out.vw.cell 0
  simp at c4
  clear X5 L5 HX4 HL4 HV3 HO3 HM3 HP3 HL3
  go_wp2_with fail
  refine (vwalk_any base g F p w.heap.size gs gm gp go w4.heap.size (k + 1) k (.slice none 0 0) [] w5 (by omega) hk HVK.out).mono ?_
  rintro e w6 ⟨s, L, rfl, hf, hwt, hc, hs⟩
  have HF6 := hide hf
  have HWT := hide hwt
  have HB6 := hide (HL5.out.trans (hc.below (B := w.heap.size) (fun b q => by
    have hfar := HVK.out.far
    rcases q with q | q | q
    · omega
    · omega
    · simp [Value.ownBlock] at q) (by have := HL5.out.size; omega)))
  have c6 := hf.vo.cell 0
  simp at c6
  clear hf hwt hc hs c4
  have hX := HF6.out.row
  rcases hX.2 with ⟨rfl, h0⟩ | ⟨g6, cap, cur, rfl, h7, h8, h9, h10, h11, h12⟩
  · go_wp2_with fail
    refine (sorted_nil _).mono ?_
    rintro e w7 ⟨rfl, rfl⟩
    have f6 := HF6.out.vo.frozen 0
    have hgo6 := HF6.out.far.2.2.2.1
    have hz6 := HF6.out.vo.lt
    have HIV := hide (show IsVars p.T k [] from isVars_of HF6.out.pool.wf HU.out HWT.out (by rw [List.eq_nil_of_length_eq_zero h0]) List.Pairwise.nil)
    clear h0 hX
    go_wp2
    exact bodyPost_ret (v := .slice none 0 0) (by simp [results, Try.results15, go_sem, hz6, c6]) rfl ⟨_, _, rfl, HIV.out, NumsAt.nil _ _, by simp, HB6.out.setCell hgo6 _⟩
  · have hcap := h9
    clear h8 h10 h11 h12 hX
    have HRW := hide (RowL.of_own HF6.out.row)
    obtain ⟨q, hq⟩ : ∃ q, (varsOf p.T L).length = q := ⟨_, rfl⟩
    have hq4 : q ≤ 4000 := by rw [← hq]; exact Nat.le_trans (varsOf_len _ _) HF6.out.len
    rw [hq] at HRW h9 hcap c6
    have HQ := hide hq
    clear hq
    go_wp2_with fail
    refine (sorted_any w.heap.size g6 q cap (varsOf p.T L) _ HRW.out (by omega) hcap).mono ?_
    rintro e w7 ⟨rfl, ys, hr7, hp7, hs7, hg7⟩
    have hgo6 := HF6.out.far.2.2.2.1
    have hvo := HF6.out.vo.grown hg7 (fun e => by
      injection e with e
      subst e
      exact own_blk_ne HF6.out.row HF6.out.vo (by decide) rfl)
    have c7 := hvo.cell 0
    have f7 := hvo.frozen 0
    have hz7 := hvo.lt
    simp at c7
    have HIV := hide (show IsVars p.T k ys from isVars_of HF6.out.pool.wf HU.out HWT.out hp7 hs7)
    have hyl : ys.length = q := by rw [hp7.length_eq, HQ.out]
    have HYL := hide hyl
    have HR7 := hide hr7
    have HB7 := hide (HB6.out.grown hg7 HB6.out.size (fun b e => by injection e with e; subst e; exact h7))
    have HVO := hide hvo
    clear hr7 hp7 hs7 hg7 hyl hvo c6
    go_wp2
    refine bodyPost_ret (v := .slice (some ⟨g6, 0, none⟩) q cap) (by simp [results, Try.results15, go_sem, hz7, c7]) rfl ⟨_, ys, rfl, HIV.out, ?_, by rw [HYL.out]; exact hq4, HB7.out.setCell hgo6 _⟩
    have hr8 : RowL (w7.setCell ⟨go, 0, none⟩ (.slice (some ⟨g6, 0, none⟩) q cap)) w.heap.size 3 1 (.slice (some ⟨g6, 0, none⟩) q cap) q (ys.map (Value.int .i64)) := HR7.out.block_ (fun r e => heap_setCell_other _ ⟨go, 0, none⟩ r _ (fun e2 => by
      injection e with e
      have := HVO.out
      subst e
      rcases HR7.out.2 with ⟨q1, _⟩ | ⟨g', cap', cur', q1, _, q3, _⟩
      · simp at q1
      · simp only [Value.slice.injEq, Option.some.injEq, Addr.mk.injEq, and_true, true_and] at q1
        obtain ⟨rfl, rfl⟩ := q1
        rw [show g6 = go from e2] at q3
        unfold Blk at this
        rw [this] at q3
        injection q3 with q3
        injection q3 with _ q3
        exact absurd q3 (by decide)))
    obtain ⟨A', c', e', hl', hr'⟩ := hr8.slice
    injection e' with e1 e2 e3
    subst e1 e3
    exact ⟨_, _, by rw [HYL.out], by rw [HYL.out]; exact hl', by rw [HYL.out]; exact hr', fun ad e => by injection e with e; subst e; exact h7⟩
end Go.Proofs.Ytafbjcnonhpldaa
