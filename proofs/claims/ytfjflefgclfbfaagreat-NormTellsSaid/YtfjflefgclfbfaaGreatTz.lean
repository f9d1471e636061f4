/-
  division's inner function. Conditions: those written in each statement.
-/
import Derived.Test.YtfjflefgclfbfaaGreatTy
namespace Go.Proofs.YtfjflefgclfbfaaGreat
open Go.RowKit
set_option linter.unusedVariables false
set_option linter.unusedSimpArgs false
set_option maxRecDepth 100000
section
variable {base g : Nat} {F : Nat → Prop} {p : PS}
theorem entersD_1 : EntersB 99 := enters_of Tryz.func99 (by kernel_rfl) rfl
set_option maxHeartbeats 4000000 in
/-- division's inner function: the remainder, or the quotient, of the two operands. -/
theorem division1_any (f : Nat) (x y : TD) (hxw : x.wf) (hyw : y.wf) (b4 b12 b11 : Nat) (w : World) (r : RS) (h : PoolAt w base F g p) (hbase : base ≤ w.heap.size) (hO : opF f p y.op x.w y.a x.a = some r)
    (h4 : Blk w b4 63 #[.pointer (some ⟨g, 0, none⟩)]) (h12 : Blk w b12 67 y.cells.toArray) (h11 : Blk w b11 67 x.cells.toArray) :
    Calls Tryz.prog 99 #[.pointer (some ⟨b4, 0, none⟩), .pointer (some ⟨b12, 0, none⟩), .pointer (some ⟨b11, 0, none⟩)] w (RetP base g F w r) := by
  have HC := hide (op_all (base := base) (g := g) f y.op x.w y.a x.a hyw.2.2.2.2.1 hxw.2.2.2.2.1 F p r hO w h hbase)
  have c4 := h4.cell 0
  have y1 := h12.cell 1
  have y4 := h12.cell 4
  have x2 := h11.cell 2
  have x4 := h11.cell 4
  simp [TD.cells] at c4 y1 y4 x2 x4
  clear h hbase hO h4 h12 h11 hxw hyw
  go_enter Tryz.func99, Tryz.ntmps99
  go_wp2_with fail
  refine HC.out.mono ?_
  rintro e w1 ⟨rfl, hr⟩
  have HR := hide hr
  clear hr
  go_wp2
  go_ret2
  exact ⟨rfl, HR.out⟩
/-- A condition that is there is of 32 or 64 bits. -/
theorem atP_cond {a : Int} {w : World} (h : PoolAt w base F g p) (hk : (atP p.T a).kind = 4) : (atP p.T a).w = 32 ∨ (atP p.T a).w = 64 := by
  cases hb : hasB p.T a
  · rw [atP_no hb] at hk; cases hk
  · obtain ⟨k, _, hk'⟩ := atP_yes hb
    have := h.wf.ok k _ hk'
    unfold okF askT at this
    rw [hk] at this
    simp at this
    exact this.1.1
/-- The sum that division looks for, behind its first test. -/
def divG (T : List TD) (a c : Int) : Bool := (atP T (atP T c).b).kind == 5 && ((atP T (atP T c).b).a == a && (isP T (atP T (atP T c).b).b 1 && likeP T (atP T (atP T c).b).c (atP T a).a (atP T a).w))
def divM (T : List TD) (a b c : Int) : Bool := (atP T c).op == 9 && (likeP T b (atP T c).a (atP T a).w && (b != (atP T c).a || narrowP T b (atP T a).w))
def divD (T : List TD) (b c : Int) : Bool := (atP T c).op == 3 && isP T b 0
set_option maxHeartbeats 4000000 in
theorem division_walk (f : Nat) (r : RS) (a b c : Int) (w : World) (hbase : base ≤ w.heap.size) (h : PoolAt w base F g p) (hd : divA p.T a c = true)
    (hO : (divG p.T a c && (divD p.T b c || divM p.T a b c)) = true → opF f p (atP p.T c).op (atP p.T a).w (atP p.T c).a (atP p.T a).a = some r) :
    Calls Tryz.prog 71 #[.agg #[.pointer (some ⟨g, 0, none⟩)], .int .i64 a, .int .i64 b, .int .i64 c] w fun e w' =>
      ((divG p.T a c && (divD p.T b c || divM p.T a b c)) = false ∧ e = .returned (.tuple #[.int .i64 0, .bool false, .int .i64 0]) ∧ Below w.heap.size w w') ∨
      ((divG p.T a c && (divD p.T b c || divM p.T a b c)) = true ∧ ∃ n m, e = .returned (.tuple #[.int .i64 n, .bool true, .int .i64 m]) ∧ RR base g F w r n m w') := by
  obtain ⟨ok, hok⟩ : ∃ ok, (divG p.T a c && (divD p.T b c || divM p.T a b c)) = ok := ⟨_, rfl⟩
  rw [hok] at hO ⊢
  unfold divG divD divM at hok
  obtain ⟨x, hx⟩ : ∃ t, atP p.T a = t := ⟨_, rfl⟩
  obtain ⟨y, hy⟩ : ∃ t, atP p.T c = t := ⟨_, rfl⟩
  have hxw := atP_wf h.rng a
  have hyw := atP_wf h.rng c
  have hk4 := atP_cond (a := a) h
  unfold divA at hd
  rw [hx, hy] at hd hO hok
  rw [hx] at hxw hk4
  rw [hy] at hyw
  have HO := hide hO
  have HOK := hide hok
  have HXW := hide hxw
  have HYW := hide hyw
  have HK4 := hide hk4
  have HBASE := hide hbase
  have HP0 := hide h
  have HD := hide hd
  have HXC := hide (show x.cells.length = 7 by simp [TD.cells])
  have HYC := hide (show y.cells.length = 7 by simp [TD.cells])
  have hb0 : Below w.heap.size w (w.alloc (.cells #[.pointer (some ⟨g, 0, none⟩)] 63)) := (Below.refl _ w).alloc (Nat.le_refl _) _
  have HG := hide (Blk.new w 63 #[.pointer (some ⟨g, 0, none⟩)])
  have HP := hide (h.below hb0)
  have HB := hide hb0
  have HX := hide (fun (v : World) (hb : Below (w.alloc (.cells #[.pointer (some ⟨g, 0, none⟩)] 63)).heap.size (w.alloc (.cells #[.pointer (some ⟨g, 0, none⟩)] 63)) v) => (at_any a v (HP.out.below hb)).mono fun e w' q => (by rw [hx] at q; exact q : e = .returned (termV x) ∧ Below v.heap.size v w'))
  have HY := hide (fun (v : World) (hb : Below (w.alloc (.cells #[.pointer (some ⟨g, 0, none⟩)] 63)).heap.size (w.alloc (.cells #[.pointer (some ⟨g, 0, none⟩)] 63)) v) => (at_any c v (HP.out.below hb)).mono fun e w' q => (by rw [hy] at q; exact q : e = .returned (termV y) ∧ Below v.heap.size v w'))
  obtain ⟨iU, hiU, hzU, hsU, hbU⟩ := info_parts infT
  have IU := hide (And.intro hiU (And.intro hzU (And.intro hsU hbU)))
  clear h hb0 hx hy hd hiU hzU hsU hbU hO hok hxw hyw hk4 hbase
  go_enter Tryz.func71, Tryz.ntmps71
  go_upto_region 1 with fail
  generalize hw1 : w.alloc (.cells #[.pointer (some ⟨g, 0, none⟩)] 63) = w1 at HG HP HB HX HY ⊢
  have hdr : Below w1.heap.size w1 w1.drew := (Below.refl _ _).drew
  have hgl : w.heap.size < w1.heap.size := by rw [← hw1]; simp
  refine wp_region_any (by kernel_rfl) ?_
  refine two_calls (B := w1.heap.size) (w0 := w1.drew) (gR := w.heap.size) 67 63 iU _ zeroT.cells [.pointer (some ⟨g, 0, none⟩)] x.cells y.cells 54 54 (.int .i64 a) (.int .i64 c) 63 3 63 3
    (by decide +kernel) (by kernel_rfl) (by decide +kernel)
    _ _ _ _ _ _ _ _ _ _ rfl rfl rfl rfl rfl rfl rfl rfl rfl rfl rfl rfl rfl rfl rfl rfl rfl rfl rfl rfl rfl rfl rfl rfl rfl rfl rfl rfl rfl rfl rfl rfl rfl rfl rfl rfl rfl rfl rfl rfl
    rfl rfl rfl (by simp) Tryz.underlying63 rfl (by kernel_rfl) IU.out.1 IU.out.2.1 (by rw [IU.out.2.2.1, HXC.out]) (by rw [IU.out.2.2.1, HYC.out]) (by rw [IU.out.2.2.1]; simp [TD.cells]) (TD.one _) (TD.one _)
    (fun v hb => ?_) (fun _ _ => by kernel_rfl) (fun _ _ => by kernel_rfl) (fun v hb _ => HX.out v (hdr.trans hb)) (fun v hb _ => HY.out v (hdr.trans hb)) ?_
    10 false false false false false false false false false false 0 0 _ _ ⟨fun k => by simp [ex8], rfl, rfl⟩ ⟨(fun h => by cases h), (fun h => by cases h), (fun h => by cases h), Below.refl _ _, Nat.le_refl _, (fun h => by cases h), (fun h => by cases h)⟩ (by decide)
  · intro j u hu
    exact blk_list (HG.out.below (hdr.trans hb) hgl) j u hu
  intro g9 g10 w3 X9 X10 bel3
  have HX9 := hide X9
  have HX10 := hide X10
  have HP3 := hide (HP.out.below (hdr.trans bel3))
  have HB3 := hide (HB.out.trans ((hdr.trans bel3).mono HB.out.size))
  have HG3 := hide (HG.out.below (hdr.trans bel3) hgl)
  simp only [Act.put, List.setIfInBounds_toArray, List.set_cons_zero, List.set_cons_succ]
  clear X9 X10 bel3 hdr HX HY HP HB HG hgl hw1
  have b0 := HX9.out.cell 0
  have b1 := HX9.out.cell 1
  have b2 := HX9.out.cell 2
  have b5 := HX9.out.cell 5
  have d0 := HX10.out.cell 0
  have d2 := HX10.out.cell 2
  have d5 := HX10.out.cell 5
  have dg := HG3.out.cell 0
  simp [TD.cells] at b0 b1 b2 b5 d0 d2 d5 dg
  have hdd := HD.out
  simp only [Bool.and_eq_true] at hdd
  obtain ⟨⟨⟨⟨h1, h2⟩, h3⟩, h4⟩, h5⟩ := hdd
  have n1 : x.kind = 4 := by simpa using h1
  have n2 : x.op = 0 := by simpa using h2
  have n4 : y.kind = 2 := by simpa using h4
  have n5 : y.w = x.w := by simpa using h5
  go_wp2_with fail
  refine (is_any x.b 0 _ HP3.out).mono ?_
  rintro e w4 ⟨rfl, hb⟩
  have hi : isP p.T x.b 0 = ((atP p.T x.b).kind == 0 && (atP p.T x.b).n == 0) := rfl
  rw [← hi, h3]
  clear hi
  have HB4 := hide (HB3.out.trans (hb.mono HB3.out.size))
  have HP4 := hide (HP3.out.below hb)
  have HX94 := hide (HX9.out.below hb HX9.out.lt)
  have HX104 := hide (HX10.out.below hb HX10.out.lt)
  have HG4 := hide (HG3.out.below hb HG3.out.lt)
  clear HX9 HX10 HP3 HB3 HG3
  have e2 := HX94.out.cell 2
  have e0 := HX104.out.cell 0
  have e3 := HX104.out.cell 2
  have e5 := HX104.out.cell 5
  have eg := HG4.out.cell 0
  simp [TD.cells] at e2 e0 e3 e5 eg
  clear hb b0 b1 b2 b5 d0 d2 d5 dg
  obtain ⟨z, hz⟩ : ∃ t, atP p.T y.b = t := ⟨_, rfl⟩
  have HZ := hide hz
  clear hz
  go_wp2_with fail
  refine (at_any y.b _ HP4.out).mono ?_
  rintro e w5 ⟨rfl, hb⟩
  rw [HZ.out]
  have HB5 := hide (HB4.out.trans (hb.mono HB4.out.size))
  have HP5 := hide (HP4.out.below hb)
  have HX95 := hide (HX94.out.below hb HX94.out.lt)
  have HX105 := hide (HX104.out.below hb HX104.out.lt)
  have HG5 := hide (HG4.out.below hb HG4.out.lt)
  clear HX94 HX104 HP4 HB4 HG4 hb e2 e0 e3 e5 eg
  go_upto_region 5 with (first
    | (refine wpList_store_new rfl 67 (.tmp 13) (.tmp 53) rfl _ z.cells (termV z) (by rfl) (by rfl) rfl sizT rfl (TD.one _) ?_
       intro w6 G6 L6 Z6
       have HZ6 := hide G6
       have HL6 := hide L6
       clear G6 L6 Z6)
    | fail)
  have HB6 := hide (HB5.out.trans (HL6.out.mono HB5.out.size))
  have HP6 := hide (HP5.out.below HL6.out)
  have HX96 := hide (HX95.out.below HL6.out HX95.out.lt)
  have HX106 := hide (HX105.out.below HL6.out HX105.out.lt)
  have HG6 := hide (HG5.out.below HL6.out HG5.out.lt)
  clear HX95 HX105 HP5 HB5 HG5 HL6
  obtain ⟨G, hG⟩ : ∃ t, (z.kind == 5 && (z.a == a && (isP p.T z.b 1 && likeP p.T z.c x.a x.w))) = t := ⟨_, rfl⟩
  have HGG := hide hG
  clear hG
  simp only [Act.put, List.setIfInBounds_toArray, List.set_cons_zero, List.set_cons_succ]
  go_cut [14] from 54 to 78 (fun sv wc => sv = .bool G ∧ Below w6.heap.size w6 wc)
  case first =>
    have f0 := HZ6.out.cell 0
    have f4 := HZ6.out.cell 4
    have f5 := HZ6.out.cell 5
    have fg := HG6.out.cell 0
    simp [TD.cells] at f0 f4 f5 fg
    cases k1 : (z.kind == 5)
    · go_wp2
      go_meet
      case rel => exact ⟨by rw [← HGG.out, k1]; rfl, Below.refl _ _⟩
    · cases k2 : (z.a == a)
      · go_wp2
        go_meet
        case rel => exact ⟨by rw [← HGG.out, k1, k2]; rfl, Below.refl _ _⟩
      · go_wp2_with fail
        refine (is_any z.b 1 _ HP6.out).mono ?_
        rintro e w7 ⟨rfl, hb⟩
        have hi : isP p.T z.b 1 = ((atP p.T z.b).kind == 0 && (atP p.T z.b).n == 1) := rfl
        rw [← hi]
        clear hi
        have HB7 := hide hb
        have HP7 := hide (HP6.out.below hb)
        have m6 := (HZ6.out.below hb HZ6.out.lt).cell 6
        have m4 := (HX96.out.below hb HX96.out.lt).cell 4
        have m2 := (HX96.out.below hb HX96.out.lt).cell 2
        have mg := (HG6.out.below hb HG6.out.lt).cell 0
        simp [TD.cells] at m6 m4 m2 mg
        clear hb f0 f4 f5 fg
        cases k3 : isP p.T z.b 1
        · go_wp2
          go_meet
          case rel => exact ⟨by rw [← HGG.out, k1, k2, k3]; rfl, HB7.out⟩
        · go_wp2_with fail
          refine (like_any z.c x.a x.w _ HP7.out).mono ?_
          rintro e w8 ⟨rfl, hb⟩
          have HB8 := hide (HB7.out.trans (hb.mono HB7.out.size))
          clear hb
          obtain ⟨L, hL⟩ : ∃ t, likeP p.T z.c x.a x.w = t := ⟨_, rfl⟩
          rw [hL]
          have HLL := hide hL
          clear hL
          go_wp2
          go_meet
          case rel => exact ⟨by rw [← HGG.out, k1, k2, k3, HLL.out]; rfl, HB8.out⟩
  case rest =>

    obtain ⟨rfl, hb⟩ := hcut
    have HB9 := hide (HB6.out.trans (hb.mono HB6.out.size))
    have HP9 := hide (HP6.out.below hb)
    have HX99 := hide (HX96.out.below hb HX96.out.lt)
    have HX109 := hide (HX106.out.below hb HX106.out.lt)
    have HG9 := hide (HG6.out.below hb HG6.out.lt)
    clear HX96 HX106 HP6 HB6 HG6 hb HZ6
    obtain ⟨D, hD⟩ : ∃ t, (y.op == 3 && isP p.T b 0) = t := ⟨_, rfl⟩
    have HDD := hide hD
    clear hD
    go_upto_region 6 with fail
    go_cut [15] from 79 to 86 (fun sv wd => sv = .bool D ∧ Below wc.heap.size wc wd)
    case first =>
      have y1 := HX109.out.cell 1
      have cg := HG9.out.cell 0
      simp [TD.cells] at y1 cg
      cases k1 : (y.op == 3)
      · go_wp2
        go_meet
        case rel => exact ⟨by rw [← HDD.out, k1]; rfl, Below.refl _ _⟩
      · go_wp2_with fail
        refine (is_any b 0 _ HP9.out).mono ?_
        rintro e w7 ⟨rfl, hb⟩
        have hi : isP p.T b 0 = ((atP p.T b).kind == 0 && (atP p.T b).n == 0) := rfl
        rw [← hi]
        clear hi
        obtain ⟨L, hL⟩ : ∃ t, isP p.T b 0 = t := ⟨_, rfl⟩
        rw [hL]
        have HLL := hide hL
        have HB7 := hide hb
        clear hb y1 cg hL
        go_wp2
        go_meet
        case rel => exact ⟨by rw [← HDD.out, k1, HLL.out]; rfl, HB7.out⟩
    case rest =>
      obtain ⟨rfl, hb⟩ := hcut
      have HBa := hide (HB9.out.trans (hb.mono HB9.out.size))
      have HPa := hide (HP9.out.below hb)
      have HX9a := hide (HX99.out.below hb HX99.out.lt)
      have HX10a := hide (HX109.out.below hb HX109.out.lt)
      have HGa := hide (HG9.out.below hb HG9.out.lt)
      clear HX99 HX109 HP9 HB9 HG9 hb
      obtain ⟨M, hM⟩ : ∃ t, (y.op == 9 && (likeP p.T b y.a x.w && (b != y.a || narrowP p.T b x.w))) = t := ⟨_, rfl⟩
      have HMM := hide hM
      clear hM
      generalize wc = W9 at HBa HPa HX9a HX10a HGa ⊢
      go_upto_region 7 with fail
      go_cut [16] from 87 to 111 (fun sv wd => sv = .bool M ∧ Below W9.heap.size W9 wd)
      case first =>
        have y1 := HX10a.out.cell 1
        have y4 := HX10a.out.cell 4
        have x2 := HX9a.out.cell 2
        have cg := HGa.out.cell 0
        simp [TD.cells] at y1 y4 x2 cg
        cases k1 : (y.op == 9)
        · go_wp2
          go_meet
          case rel => exact ⟨by rw [← HMM.out, k1]; rfl, Below.refl _ _⟩
        · go_wp2_with fail
          refine (like_any b y.a x.w _ HPa.out).mono ?_
          rintro e w7 ⟨rfl, hb⟩
          have HB7 := hide hb
          have HP7 := hide (HPa.out.below hb)
          have m4 := (HX10a.out.below hb HX10a.out.lt).cell 4
          have m2 := (HX9a.out.below hb HX9a.out.lt).cell 2
          have mg := (HGa.out.below hb HGa.out.lt).cell 0
          simp [TD.cells] at m4 m2 mg
          clear hb y1 y4 x2 cg
          cases k2 : likeP p.T b y.a x.w
          · go_wp2
            go_meet
            case rel => exact ⟨by rw [← HMM.out, k1, k2]; rfl, HB7.out⟩
          · cases k3 : (b == y.a)
            · have k3' : (b != y.a) = true := by unfold bne; rw [k3]; rfl
              go_wp2
              go_meet
              case rel => exact ⟨by rw [← HMM.out, k1, k2, k3']; rfl, HB7.out⟩
            · have k3' : (b != y.a) = false := by unfold bne; rw [k3]; rfl
              go_wp2_with fail
              refine (narrow_any b x.w (by have := HK4.out n1; omega) _ HP7.out).mono ?_
              rintro e w8 ⟨rfl, hb⟩
              have HB8 := hide (HB7.out.trans (hb.mono HB7.out.size))
              clear hb
              obtain ⟨L, hL⟩ : ∃ t, narrowP p.T b x.w = t := ⟨_, rfl⟩
              rw [hL]
              have HLL := hide hL
              clear hL
              go_wp2
              go_meet
              case rel => exact ⟨by rw [← HMM.out, k1, k2, k3', HLL.out]; rfl, HB8.out⟩
      case rest =>
        obtain ⟨rfl, hb⟩ := hcut
        have HBb := hide (HBa.out.trans (hb.mono HBa.out.size))
        have HPb := hide (HPa.out.below hb)
        have HX9b := hide (HX9a.out.below hb HX9a.out.lt)
        have HX10b := hide (HX10a.out.below hb HX10a.out.lt)
        have HGb := hide (HGa.out.below hb HGa.out.lt)
        clear HX9a HX10a HPa HBa HGa hb
        generalize wc = W10 at HBb HPb HX9b HX10b HGb ⊢
        have hk : (G && (D || M)) = ok := by
          rw [← HOK.out, HZ.out, HGG.out, HDD.out, HMM.out]
        have HK := hide hk
        clear hk
        cases kG : G
        · go_wp2_with fail
          refine (then_no _ _).mono ?_
          rintro e w11 ⟨rfl, rfl⟩
          go_wp2
          exact bodyPost_ret (v := .tuple #[.int .i64 0, .bool false, .int .i64 0]) (by simp [results, Tryz.results71, go_sem]) rfl (.inl ⟨by rw [← HK.out, kG]; rfl, rfl, HBb.out⟩)
        · cases kO : (D || M)
          · have kD : D = false := by revert kO; cases D <;> simp
            have kM : M = false := by revert kO; cases M <;> simp
            go_wp2_with fail
            refine (then_no _ _).mono ?_
            rintro e w11 ⟨rfl, rfl⟩
            go_wp2
            exact bodyPost_ret (v := .tuple #[.int .i64 0, .bool false, .int .i64 0]) (by simp [results, Tryz.results71, go_sem]) rfl (.inl ⟨by rw [← HK.out, kG, kO]; rfl, rfl, HBb.out⟩)
          · have HD1 := hide (division1_any f x y HXW.out HYW.out _ _ _ _ r HPb.out (Nat.le_trans HBASE.out HBb.out.size) (HO.out (by rw [← HK.out, kG, kO]; rfl)) HGb.out HX10b.out HX9b.out)
            have HKO := hide kO
            clear kO
            cases kD : D
            · have kM : M = true := by have := HKO.out; rw [kD] at this; simpa using this
              go_wp2_with fail
              refine (then_yes 99 _ _ (RR base g F W10 r) entersD_1 (HD1.out.mono fun e w' q => RR.of q)).mono ?_
              rintro e w11 ⟨n, m, rfl, hr⟩
              have HRR := hide hr
              clear hr
              go_wp2
              exact bodyPost_ret (v := .tuple #[.int .i64 n, .bool true, .int .i64 m]) (by simp [results, Tryz.results71, go_sem]) rfl (.inr ⟨by rw [← HK.out, kG, HKO.out]; rfl, n, m, rfl, HRR.out.from (PG.of_below HP0.out HBb.out)⟩)
            · go_wp2_with fail
              refine (then_yes 99 _ _ (RR base g F W10 r) entersD_1 (HD1.out.mono fun e w' q => RR.of q)).mono ?_
              rintro e w11 ⟨n, m, rfl, hr⟩
              have HRR := hide hr
              clear hr
              go_wp2
              exact bodyPost_ret (v := .tuple #[.int .i64 n, .bool true, .int .i64 m]) (by simp [results, Tryz.results71, go_sem]) rfl (.inr ⟨by rw [← HK.out, kG, HKO.out]; rfl, n, m, rfl, HRR.out.from (PG.of_below HP0.out HBb.out)⟩)
end
end Go.Proofs.YtfjflefgclfbfaaGreat
