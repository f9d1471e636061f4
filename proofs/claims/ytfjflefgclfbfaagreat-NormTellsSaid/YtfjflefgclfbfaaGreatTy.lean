/-
  division: its walk. Conditions: those written in each statement.
-/
import Derived.Test.YtfjflefgclfbfaaGreatTx
import Derived.Test.YtfjflefgclfbfaaGreatNt
namespace Go.Proofs.YtfjflefgclfbfaaGreat
open Go.RowKit
set_option linter.unusedVariables false
set_option linter.unusedSimpArgs false
set_option maxRecDepth 100000
theorem infT : (Tryz.prog.info? 67).map (fun i => (i.zero, i.size, i.bytes)) = some (some (.agg zeroT.cells.toArray), 7, 40) := by kernel_rfl
section
variable {base g : Nat} {F : Nat → Prop} {p : PS}
/-- The first test of division: the shapes of its two parts. -/
def divA (T : List TD) (a c : Int) : Bool := (atP T a).kind == 4 && (atP T a).op == 0 && isP T (atP T a).b 0 && (atP T c).kind == 2 && (atP T c).w == (atP T a).w
set_option maxHeartbeats 4000000 in
theorem division_no (a b c : Int) (w : World) (h : PoolAt w base F g p) (hd : divA p.T a c = false) : Calls Tryz.prog 71 #[.agg #[.pointer (some ⟨g, 0, none⟩)], .int .i64 a, .int .i64 b, .int .i64 c] w fun e w' => e = .returned (.tuple #[.int .i64 0, .bool false, .int .i64 0]) ∧ Below w.heap.size w w' := by
  obtain ⟨x, hx⟩ : ∃ t, atP p.T a = t := ⟨_, rfl⟩
  obtain ⟨y, hy⟩ : ∃ t, atP p.T c = t := ⟨_, rfl⟩
  unfold divA at hd
  rw [hx, hy] at hd
  have HD := hide hd
  have HXC := hide (show x.cells.length = 7 by simp [TD.cells])
  have HYC := hide (show y.cells.length = 7 by simp [TD.cells])
  have hb0 : Below w.heap.size w (w.alloc (.cells #[.pointer (some ⟨g, 0, none⟩)] 63)) := (Below.refl _ w).alloc (Nat.le_refl _) _
  have HG := hide (Blk.new w 63 #[.pointer (some ⟨g, 0, none⟩)])
  have HP := hide (h.below hb0)
  have HB := hide hb0
  have HX := hide (fun (v : World) (hb : Below (w.alloc (.cells #[.pointer (some ⟨g, 0, none⟩)] 63)).heap.size (w.alloc (.cells #[.pointer (some ⟨g, 0, none⟩)] 63)) v) => (at_any a v (HP.out.below hb)).mono fun e w' q => (by rw [hx] at q; exact q : e = .returned (termV x) ∧ Below v.heap.size v w'))
  have HY := hide (fun (v : World) (hb : Below (w.alloc (.cells #[.pointer (some ⟨g, 0, none⟩)] 63)).heap.size (w.alloc (.cells #[.pointer (some ⟨g, 0, none⟩)] 63)) v) => (at_any c v (HP.out.below hb)).mono fun e w' q => (by rw [hy] at q; exact q : e = .returned (termV y) ∧ Below v.heap.size v w'))
  obtain ⟨iU, hiU, hzU, hsU, hbU⟩ := info_parts infT
  have IU := hide (And.intro hiU (And.intro hzU (And.intro hsU hbU)))
  clear h hb0 hx hy hd hiU hzU hsU hbU
  go_enter Tryz.func71, Tryz.ntmps71
  go_upto_region 1 with fail
  generalize hw1 : w.alloc (.cells #[.pointer (some ⟨g, 0, none⟩)] 63) = w1 at HG HP HB HX HY ⊢
  have hdr : Below w1.heap.size w1 w1.drew := (Below.refl _ _).drew
  have hgl : w.heap.size < w1.heap.size := by rw [← hw1]; simp
  refine wp_region_any (by kernel_rfl) ?_
  refine two_calls (B := w1.heap.size) (w0 := w1.drew) (gR := w.heap.size) 67 63 iU _ zeroT.cells [.pointer (some ⟨g, 0, none⟩)] x.cells y.cells 54 54 (.int .i64 a) (.int .i64 c) 63 3 63 3
    (by decide +kernel) (by kernel_rfl) (by decide +kernel)
    _ _ _ _ _ _ _ _ _ _ rfl rfl rfl rfl rfl rfl rfl rfl rfl rfl rfl rfl rfl rfl rfl rfl rfl rfl rfl rfl rfl rfl rfl rfl rfl rfl rfl rfl rfl rfl rfl rfl rfl rfl rfl rfl rfl rfl rfl rfl
    rfl rfl rfl (by simp) Tryz.underlying63 rfl (by kernel_rfl) IU.out.1 IU.out.2.1 (by rw [IU.out.2.2.1, HXC.out]) (by rw [IU.out.2.2.1, HYC.out]) (by rw [IU.out.2.2.1]; simp [TD.cells]) (TD.one _) (TD.one _)
    (fun v hb => ?_) (fun _ _ => by kernel_rfl) (fun _ _ => by kernel_rfl) (fun v hb _ => HX.out v (hdr.trans hb)) (fun v hb _ => HY.out v (hdr.trans hb)) ?_
    10 false false false false false false false false false false 0 0 _ _ ⟨fun k => by simp [ex8], rfl, rfl⟩ ⟨(fun h => by cases h), (fun h => by cases h), (fun h => by cases h), Below.refl _ _, Nat.le_refl _, (fun h => by cases h), (fun h => by cases h)⟩ (by decide)
  · intro j u hu
    exact blk_list (HG.out.below (hdr.trans hb) hgl) j u hu
  intro g9 g10 w3 X9 X10 bel3
  have HX9 := hide X9
  have HX10 := hide X10
  have HP3 := hide (HP.out.below (hdr.trans bel3))
  have HB3 := hide (HB.out.trans ((hdr.trans bel3).mono HB.out.size))
  have HG3 := hide (HG.out.below (hdr.trans bel3) hgl)
  simp only [Act.put, List.setIfInBounds_toArray, List.set_cons_zero, List.set_cons_succ]
  clear X9 X10 bel3 hdr HX HY HP HB HG hgl hw1
  have b0 := HX9.out.cell 0
  have b1 := HX9.out.cell 1
  have b2 := HX9.out.cell 2
  have b5 := HX9.out.cell 5
  have d0 := HX10.out.cell 0
  have d2 := HX10.out.cell 2
  have dg := HG3.out.cell 0
  simp [TD.cells] at b0 b1 b2 b5 d0 d2 dg
  cases h1 : (x.kind == 4)
  · have n1 : ¬ x.kind = 4 := by simpa using h1
    go_wp2
    exact bodyPost_ret (v := .tuple #[.int .i64 0, .bool false, .int .i64 0]) (by simp [results, Tryz.results71, go_sem]) rfl ⟨rfl, HB3.out⟩
  · have n1 : x.kind = 4 := by simpa using h1
    cases h2 : (x.op == 0)
    · have n2 : ¬ x.op = 0 := by simpa using h2
      go_wp2
      exact bodyPost_ret (v := .tuple #[.int .i64 0, .bool false, .int .i64 0]) (by simp [results, Tryz.results71, go_sem]) rfl ⟨rfl, HB3.out⟩
    · have n2 : x.op = 0 := by simpa using h2
      go_wp2_with fail
      refine (is_any x.b 0 _ HP3.out).mono ?_
      rintro e w4 ⟨rfl, hb⟩
      have hi : isP p.T x.b 0 = ((atP p.T x.b).kind == 0 && (atP p.T x.b).n == 0) := rfl
      have HI := hide hi
      clear hi
      rw [← HI.out]
      have HB4 := hide (HB3.out.trans (hb.mono HB3.out.size))
      have e2 := (HX9.out.below hb HX9.out.lt).cell 2
      have e0 := (HX10.out.below hb HX10.out.lt).cell 0
      have e3 := (HX10.out.below hb HX10.out.lt).cell 2
      simp [TD.cells] at e2 e0 e3
      clear hb b0 b1 b2 b5 d0 d2
      cases h3 : isP p.T x.b 0
      · go_wp2
        exact bodyPost_ret (v := .tuple #[.int .i64 0, .bool false, .int .i64 0]) (by simp [results, Tryz.results71, go_sem]) rfl ⟨rfl, HB4.out⟩
      · cases h4 : (y.kind == 2)
        · have n4 : ¬ y.kind = 2 := by simpa using h4
          go_wp2
          exact bodyPost_ret (v := .tuple #[.int .i64 0, .bool false, .int .i64 0]) (by simp [results, Tryz.results71, go_sem]) rfl ⟨rfl, HB4.out⟩
        · have n4 : y.kind = 2 := by simpa using h4
          cases h5 : (y.w == x.w)
          · have n5 : ¬ y.w = x.w := by simpa using h5
            go_wp2
            exact bodyPost_ret (v := .tuple #[.int .i64 0, .bool false, .int .i64 0]) (by simp [results, Tryz.results71, go_sem]) rfl ⟨rfl, HB4.out⟩
          · have n5 : y.w = x.w := by simpa using h5
            exact absurd HD.out (by rw [h1, h2, h3, h4, h5]; decide)
end
end Go.Proofs.YtfjflefgclfbfaaGreat
