/-
  latheref25.Read: hints out of bytes, the document's. Conditions: those written in each statement.
-/
import Derived.Test.YtmnokkomhgpmmaaWk
import Derived.Test.YtmnokkomhgpmmaaWf
namespace Go.Proofs.Ytmnokkomhgpmmaa
open Go.RowKit
set_option linter.unusedVariables false
set_option linter.unusedSimpArgs false
/-- What stands while blocks are read: the result's block, the hints' block, the row of blocks behind it. -/
structure RrF (sp : Int) (b : List Int) (k n : Nat) (A : Option Addr) (sv : Value) (g : Nat) (w W : World) : Prop where
  reads : Reads W w.heap.size 1 A n (b.map (Value.int .u8))
  res : Blk W w.heap.size 24 #[.int .i64 0, .slice none 0 0]
  blk : Blk W g 24 #[.int .i64 sp, sv]
  own : W.ownsRow (w.heap.size + 1) 34 23 sv k ((rdHs k (b.drop 3)).flatMap HD.cells)
  gt : w.heap.size < g
  below : Below w.heap.size w W
section
variable {sp : Int} {b : List Int} {k n : Nat} {A : Option Addr} {sv : Value} {g : Nat} {w W V : World}
theorem RrF.lt (h : RrF sp b k n A sv g w W) : w.heap.size < W.heap.size := h.res.lt
theorem RrF.step (h : RrF sp b k n A sv g w W) (hb : Below W.heap.size W V) : RrF sp b k n A sv g w V :=
  ⟨h.reads.keep fun p hp => hb.cell (Nat.lt_trans hp h.lt), h.res.below hb h.lt, h.blk.below hb h.blk.lt, own_below h.own hb, h.gt, h.below.trans (hb.mono (Nat.le_of_lt h.lt))⟩
theorem RrF.only {g' : Nat} (h : RrF sp b k n A sv g w W) (hg : W.grownBy V (some g')) (h0 : w.heap.size < g') (hgg : g ≠ g') (hne : sv.ownBlock ≠ some g') : RrF sp b k n A sv g w V :=
  ⟨h.reads.grown hg (Nat.le_of_lt h.lt) (fun g'' e => by injection e with e; omega), h.res.grown hg (fun e => by injection e with e; omega), h.blk.grown hg (fun e => by injection e with e; omega), h.own.kept hg (.inr hne), h.gt, h.below.grown hg (Nat.le_of_lt h.lt) (fun g'' e => by injection e with e; omega)⟩
theorem RrF.drew (h : RrF sp b k n A sv g w W) : RrF sp b k n A sv g w W.drew := ⟨h.reads, h.res, h.blk, h.own, h.gt, h.below.drew⟩
end
def RjRel (sp : Int) (b : List Int) (k n : Nat) (A : Option Addr) (sv : Value) (g : Nat) (w : World) (x : HD) (gx : Nat) (i : Value) (wr : World) : Prop :=
  ∃ j : Nat, j ≤ 11 ∧ i = .int .i64 j ∧ Blk wr gx 34 (partC x j).toArray ∧ RrF sp b k n A sv g w wr
theorem infHs : (Try.prog.info? 24).map (fun i => (i.zero, i.size, i.bytes)) = some (some (.agg #[.int .i64 0, .slice none 0 0]), 2, 32) := by kernel_rfl
def RrRel (b : List Int) (m n : Nat) (A : Option Addr) (sp : Int) (g : Nat) (W : World) (iv : Value) (wr : World) : Prop :=
  ∃ (k q : Nat) (sv : Value), k ≤ m ∧ q = 3 + 25 * k ∧ iv = .int .i64 q ∧ RrF sp b k n A sv g W wr
set_option maxRecDepth 100000 in
set_option maxHeartbeats 2000000 in
theorem rread_any (b : List Int) (A : Option Addr) (n c : Nat) (w : World) (hl : b.length = n) (hr : Reads w w.heap.size 1 A n (b.map (Value.int .u8))) (hb : IsBytes b) (hc : n ≤ c) (hm : n < 9223372036854775808) :
    Calls Try.prog 20 #[.slice A n c] w (GivesHints b w) := by
  have HL := hide hl
  have HR := hide hr
  have HB := hide hb
  clear hl hr hb
  by_cases h3 : 3 ≤ n
  · have h3' : 2 ≤ n := by omega
    obtain ⟨ad, rfl, hab, hcell⟩ := HR.out.2 (by omega)
    obtain ⟨x2, hx2⟩ : ∃ x, b[2]? = some x := ⟨b[2]'(by have := HL.out; omega), List.getElem?_eq_getElem _⟩
    have c2 : w.cell? ⟨ad.block, ad.off + 2, none⟩ = some (.int .u8 x2) := by
      have := hcell 2 (.int .u8 x2) (by simp [hx2])
      unfold Addr.add at this
      rwa [if_neg (by omega)] at this
    obtain ⟨x20, x21⟩ := HB.out x2 (List.mem_of_getElem? hx2)
    have HX2 := hide hx2
    clear hx2 hcell
    by_cases hn : (n : Int) = 3 + x2 * 25
    · have bn : ((n : Int) != 3 + x2 * 25) = false := by simpa using hn
      have HN := hide hn
      have hn6 : n ≤ 6378 := by omega
      clear hn
      go_enter Try.func20, Try.ntmps20
      go_wp2_with fail
      have hg := getB_bd (b.take 2) (HB.out.take 2)
      rw [show (256 : Int) ^ (b.take 2).length = 65536 by rw [List.length_take, Nat.min_eq_left (by have := HL.out; omega)]; rfl] at hg
      refine (rget_any (b.take 2) _ (some ad) 2 c _ (by rw [List.length_take]; have := HL.out; omega) ((HR.out.take h3').alloc (Nat.le_refl _) _) (HB.out.take 2) (by omega)).mono ?_
      rintro e w' ⟨rfl, rfl⟩
      obtain ⟨g0, g1⟩ := hg
      obtain ⟨sp, hsp⟩ : ∃ s, getB (b.take 2) = s := ⟨_, rfl⟩
      rw [hsp] at g0 g1 ⊢
      have HSP := hide hsp
      clear hsp
      have h3n : 3 ≤ n := h3
      obtain ⟨m, hm2⟩ : ∃ m : Nat, x2 = (m : Int) := ⟨x2.toNat, by omega⟩
      have hm256 : m < 256 := by omega
      have HM2 := hide hm2
      have HX2' := hide (show (b.getD 2 0).toNat = m by rw [List.getD_eq_getElem?_getD, HX2.out, Option.getD_some]; omega)
      have hbl : 3 + 25 * m = n := by have := HN.out; omega
      have HBL := hide hbl
      have HBL' := hide (show 3 + 25 * m = b.length by have := HL.out; omega)
      clear hm2 hbl
      obtain ⟨iS, hiS, hzS, hsS, hbS⟩ := info_parts infHs
      have IS := hide (And.intro hiS (And.intro hzS (And.intro hsS hbS)))
      clear hiS hzS hsS hbS
      obtain ⟨iH, hiH, hzH, hsH, hbH⟩ := info_parts infH
      have IH := hide (And.intro hiH (And.intro hzH (And.intro hsH hbH)))
      clear hiH hzH hsH hbH
      have hR0 := hide (Blk.new w 24 #[.int .i64 0, .slice none 0 0])
      have hRd := hide (HR.out.alloc (Nat.le_refl _) (.cells #[.int .i64 0, .slice none 0 0] 24))
      have hRb := hide ((Below.refl w.heap.size w).alloc (Nat.le_refl _) (.cells #[.int .i64 0, .slice none 0 0] 24))
      go_wp2_with (refine wpList_new rfl rfl 24 (.tmp 4) (.tmp 27) rfl rfl iS _ _ #[.int .i64 sp, .slice none 0 0] IS.out.1 IS.out.2.1 (by rw [IS.out.2.2.1]; rfl) rfl (by rw [IS.out.2.2.1]; rfl) (all_one (cs := [.int .i64 sp, .slice none 0 0]) (by intro u hu; simp at hu; rcases hu with rfl | rfl <;> rfl)) (by rfl) (by rfl) ?_
                   intro w1 g1_ G1 X1 L1)
      have hF0 : RrF sp b 0 n (some ad) (.slice none 0 0) g1_ w w1 := ⟨hRd.out.keep fun p hp => L1.cell (by simp; omega), hR0.out.below L1 (by simp), X1, ⟨rfl, .inl ⟨rfl, rfl⟩⟩, by simp at G1; omega, hRb.out.trans (L1.mono (by simp))⟩
      have HF0 := hide hF0
      clear hF0 X1 L1 hR0 hRd hRb
      go_loopw [5] (fun iv wr => RrRel b m n (some ad) sp g1_ w iv wr) (fun iv _ => n - (intOf iv).toNat)
      case atStart => exact ⟨0, 3, _, by omega, rfl, rfl, HF0.out⟩
      case round =>
        obtain ⟨k, q, sv, hk, hq, rfl, hf⟩ := hrel
        have HQ := hide hq
        have HF := hide hf
        clear hq hf HF0
        by_cases hlt : k < m
        · have hq25 : q + 25 ≤ n := by have := HQ.out; have := HBL.out; omega
          have hqn : q < n := by omega
          have hqi : (q : Int) < n := by omega
          have hbd := getB_bd (((b.drop q)).take 3) ((HB.out.drop _).take 3)
          have hl3 : ((b.drop q).take 3).length = 3 := by rw [List.length_take, List.length_drop]; have := HL.out; omega
          rw [hl3, show (256 : Int) ^ 3 = 16777216 from rfl] at hbd
          have hqc : q + 3 ≤ n := by omega
          go_wp2_with (refine wpList_fromto rfl 38 5 (.tmp 34) _ _ rfl Try.underlying38 1 (by kernel_rfl) (some ad) n c q (q + 3) .i64 .i64 (by rfl) (by rfl) (by rfl) (by omega) hqc hc w.heap.size _ HF.out.reads ?_; intro A3 R3)
          refine (rget_any _ _ A3 _ _ _ (hl3.trans (by omega)) (by simpa using R3) ((HB.out.drop _).take 3) (by omega)).mono ?_
          rintro e w' ⟨rfl, rfl⟩
          clear R3
          obtain ⟨v0, v1⟩ := hbd
          have hxx : (rdH (b.drop q)).at_ = getB ((b.drop q).take 3) := rfl
          have hxw := rdH_wf (HB.out.drop q) (by rw [List.length_drop]; have := HL.out; omega)
          obtain ⟨x, hx⟩ : ∃ x, rdH (b.drop q) = x := ⟨_, rfl⟩
          rw [hx] at hxx hxw
          rw [← hxx] at v0 v1 ⊢
          have HX := hide hx
          have HW := hide hxw
          clear hx hxx hxw hl3
          generalize hat : x.at_ = at_ at v0 v1 ⊢
          have HAT := hide hat
          clear hat
          have hp0 : (Value.agg #[.int .i64 at_, .int .i8 0, .int .i8 0, .int .i8 0, .int .i8 0, .int .i8 0, .int .i8 0, .int .i8 0, .int .i8 0, .int .i8 0, .int .i8 0, .int .i8 0, .int .i8 0, .int .i8 0, .int .i8 0, .int .i8 0, .int .i8 0, .int .i8 0, .int .i8 0, .int .i8 0, .int .i8 0, .int .i8 0, .int .i8 0]).cells = (partC x 0).toArray := by
            unfold partC; rw [HAT.out]; rfl
          have HP0 := hide hp0
          clear hp0
          have hbu : ∀ W : World, (Instr.build 34 #[(0, .int .i64 at_)]).run Try.prog W = .ok (Value.agg #[.int .i64 at_, .int .i8 0, .int .i8 0, .int .i8 0, .int .i8 0, .int .i8 0, .int .i8 0, .int .i8 0, .int .i8 0, .int .i8 0, .int .i8 0, .int .i8 0, .int .i8 0, .int .i8 0, .int .i8 0, .int .i8 0, .int .i8 0, .int .i8 0, .int .i8 0, .int .i8 0, .int .i8 0, .int .i8 0, .int .i8 0]) W := fun W => by kernel_rfl
          go_wp2_with (refine wpList_new rfl rfl 34 (.tmp 6) (.tmp 41) rfl rfl iH _ _ (partC x 0).toArray IH.out.1 IH.out.2.1 (by rw [IH.out.2.2.1]; rfl) HP0.out (by rw [IH.out.2.2.1]; simpa using partC_len HW.out (j := 0) (by omega)) (all_one (partC_one x 0)) (by rfl) (by rfl) ?_
                       intro w2 gx G2 X2 L2)
          have HF1 := hide (HF.out.step L2)
          have hne : sv.ownBlock ≠ some gx := fun e => by have := own_lt HF.out.own gx e; omega
          have hgw : w.heap.size < gx := by have := HF.out.lt; omega
          have hgg : g1_ ≠ gx := by have := HF.out.blk.lt; omega
          have HX1 := hide X2
          clear X2 L2 HF
          obtain ⟨wo, rfl⟩ : ∃ wo : World, wo = wr := ⟨_, rfl⟩
          go_loopw [7] (fun i wq => RjRel sp b k n (some ad) sv g1_ w x gx i wq) (fun i _ => 11 - (intOf i).toNat)
          case atStart => exact ⟨0, by omega, rfl, HX1.out, HF1.out⟩
          case round =>
            obtain ⟨j, hj, rfl, hxb, hf⟩ := hrel
            have HXB := hide hxb
            have HF := hide hf
            clear hxb hf HX1 HF1
            by_cases hlj : j < 11
            · have h3j : q + 3 + 2 * j < n := by omega
              have h4j : q + 4 + 2 * j < n := by omega
              obtain ⟨ad2, u1, e2, _, hu1, hcu1⟩ := HF.out.reads.at_ h3j
              obtain ⟨ad3, u2, e3, _, hu2, hcu2⟩ := HF.out.reads.at_ h4j
              obtain rfl : ad = ad2 := by injection e2
              obtain rfl : ad = ad3 := by injection e3
              rw [List.getElem?_map] at hu1 hu2
              obtain ⟨y1, hy1, rfl⟩ := Option.map_eq_some_iff.1 hu1
              obtain ⟨y2, hy2, rfl⟩ := Option.map_eq_some_iff.1 hu2
              have HY1 := hide hy1
              have HY2 := hide hy2
              clear hu1 hu2 hy1 hy2 e3 e2
              have hw0 : IntKind.i64.wrap (2 * (j : Int)) = 2 * (j : Int) := IntWalk.i64_in _ (by omega)
              have hwa : IntKind.i64.wrap ((q : Int) + 3) = (q : Int) + 3 := IntWalk.i64_in _ (by omega)
              have hwb : IntKind.i64.wrap ((q : Int) + 4) = (q : Int) + 4 := IntWalk.i64_in _ (by omega)
              have hw3 : IntKind.i64.wrap ((q : Int) + 3 + 2 * (j : Int)) = (q : Int) + 3 + 2 * (j : Int) := IntWalk.i64_in _ (by omega)
              have hw4 : IntKind.i64.wrap ((q : Int) + 4 + 2 * (j : Int)) = (q : Int) + 4 + 2 * (j : Int) := IntWalk.i64_in _ (by omega)
              have hp3 : 0 ≤ (q : Int) + 3 + 2 * (j : Int) := by omega
              have hp4 : 0 ≤ (q : Int) + 4 + 2 * (j : Int) := by omega
              have hq3' : (q : Int) + 3 + 2 * (j : Int) < n := by omega
              have hq4' : (q : Int) + 4 + 2 * (j : Int) < n := by omega
              have ht3 : ((q : Int) + 3 + 2 * (j : Int)).toNat = q + 3 + 2 * j := by omega
              have ht4 : ((q : Int) + 4 + 2 * (j : Int)).toNat = q + 4 + 2 * j := by omega
              have hlj' : (j : Int) < 11 := by omega
              go_wp2_with fail
              go_still_tail 22, (by kernel_rfl)
              change wpList _ _ _ _ _ wr.drew
              refine wpList_store_at rfl 31 (.tmp 67) (.tmp 65) rfl gx (1 + 2 * j) 34 (partC x j) [.int .i8 (i8 y1), .int .i8 (i8 y2)] (.agg #[.int .i8 (i8 y1), .int .i8 (i8 y2)]) HXB.out.drew ?hx ?hy rfl (by kernel_rfl) (by rw [partC_len HW.out hj]; simp; omega) (by intro u hu; simp at hu; rcases hu with rfl | rfl <;> rfl) ?_
              case hx => simp [Act.eval, Array.getD]
              case hy => simp [Act.eval, Array.getD, i8]
              intro w5 X5 G5 S5
              have hpx : x.pl[j]? = some (i8 y1, i8 y2) := by
                rw [← HX.out]
                unfold rdH
                dsimp only
                refine rdPl_at _ j y1 y2 ?_ ?_
                · rw [List.getElem?_take, if_pos (by omega), List.getElem?_drop, List.getElem?_drop, show q + (3 + 2 * j) = q + 3 + 2 * j by omega]; exact HY1.out
                · rw [List.getElem?_take, if_pos (by omega), List.getElem?_drop, List.getElem?_drop, show q + (3 + (2 * j + 1)) = q + 4 + 2 * j by omega]; exact HY2.out
              rw [partC_step HW.out hlj hpx] at X5
              have HX5 := hide X5
              have HF5 := hide (HF.out.drew.only G5 hgw hgg hne)
              clear X5 G5 S5 HF HXB hcu1 hcu2 hpx hw3 hw4 hp3 hp4 hq3' hq4' ht3 ht4 hw0 hwa hwb
              go_wp2
              go_roundw
              case measure => simp [intOf]; omega
              case rel => exact ⟨j + 1, by omega, by go_num, HX5.out, HF5.out⟩
            · obtain rfl : j = 11 := by omega
              clear hlj hj
              have hX := HXB.out
              rw [partC_all HW.out] at hX
              have HXX := hide hX
              have hs0 : wr.cell? ⟨g1_, 1, none⟩ = some sv := by rw [HF.out.blk.cell 1]; rfl
              clear hX
              go_wp2_with (first
                | (refine wpList_load_at rfl 34 (.tmp 6) rfl ⟨gx, 0, none⟩ rfl x.cells _ (blk_list HXX.out) Try.underlying34 rfl (by rw [HD.cells_len HW.out]; kernel_rfl) ?_)
                | (refine wpList_push rfl rfl 22 34 (.tmp 70) (.tmp 69) (.tmp 71) rfl rfl (w.heap.size + 1) 23 32 iH _ (.agg x.cells.toArray) sv x.cells _ k Try.underlying22 IH.out.1 IH.out.2.1 IH.out.2.2.1 IH.out.2.2.2 rfl (by omega) (by omega) (by rfl) rfl (HD.cells_len HW.out) (all_oneL x) HF.out.own (by have := HF.out.lt; omega) (by unfold maxLen; omega) (by omega) (by rfl) (by rfl) ?_
                   intro v6 w6 g6 G6 O6 B6 P6
                   obtain ⟨A6, c6, rfl, hc6, hr6⟩ := own_slice O6 (by omega)
                   have hneb : (some g1_ : Option Nat) ≠ sv.ownBlock := fun e => own_blk_ne HF.out.own HF.out.blk (by decide) e.symm
                   have hner : (some w.heap.size : Option Nat) ≠ sv.ownBlock := fun e => own_blk_ne HF.out.own HF.out.res (by decide) e.symm
                   have hb6 := HF.out.blk.grown P6 hneb
                   have q6 : w6.cell? ⟨g1_, 1, none⟩ = some sv := by rw [hb6.cell 1]; rfl
                   have f6 : w6.frozen? ⟨g1_, 1, none⟩ = false := hb6.frozen 1
                   have hgt := HF.out.gt
                   have HB6 := hide (hb6.set_ 1 (.slice A6 (k + 1) c6))
                   have HO6 := hide (O6.kept (only_setCell (World.grownBy.refl w6 (some g1_)) (.inl rfl) (.slice A6 (k + 1) c6) (p := ⟨g1_, 1, none⟩)) (.inr (fun e => own_blk_ne O6 hb6 (by decide) e)))
                   have HR6 := hide ((HF.out.reads.keep (w' := w6) (fun p hp => B6.cell (Nat.lt_succ_of_lt hp))).setCell (p := ⟨g1_, 1, none⟩) (Nat.le_of_lt hgt) (.slice A6 (k + 1) c6))
                   have HE6 := hide ((HF.out.res.grown P6 hner).far (p := ⟨g1_, 1, none⟩) (Nat.ne_of_lt hgt) (.slice A6 (k + 1) c6))
                   have HL6 := hide ((HF.out.below.trans (B6.mono (Nat.le_succ _))).setCell (p := ⟨g1_, 1, none⟩) (Nat.le_of_lt hgt) (.slice A6 (k + 1) c6))
                   clear O6 B6 P6 hr6 hb6 hs0))
              go_roundw
              case measure => simp [intOf]; omega
              case rel =>
                refine ⟨k + 1, q + 25, _, by omega, by have := HQ.out; omega, by go_num, HR6.out, HE6.out, HB6.out, ?_, hgt, HL6.out⟩
                rw [rdHs_snoc, List.flatMap_append, List.drop_drop, ← HQ.out, HX.out]
                simpa using HO6.out
        · obtain rfl : k = m := by omega
          obtain rfl : q = n := by have := HQ.out; have := HBL.out; omega
          clear hk hlt
          have hck := hO_hints HF.out.own (rdHs_all HB.out HBL'.out)
          obtain ⟨AL, cL, rfl, hcL, hhL⟩ := hck
          have HHL := hide hhL
          clear hhL
          have hsz0 := HF.out.lt
          cases hcb : chkB sp (rdHs k (b.drop 3))
          all_goals
            have HCB := hide hcb
            clear hcb
            go_wp2_with (first
              | (refine wpList_load_at rfl 24 (.tmp 4) rfl ⟨g1_, 0, none⟩ rfl [.int .i64 sp, .slice AL k cL] _ (blk_list HF.out.blk) Try.underlying24 rfl (by kernel_rfl) ?_)
              | (go_at_call 14
                 refine (rcheck_any sp AL k cL _ _ HHL.out hcL (by omega)).mono ?_
                 rintro e w7 ⟨rfl, hb7⟩
                 rw [HCB.out]
                 have HF7 := hide (HF.out.step hb7)
                 clear hb7
                 simp only [errC])
              | (refine wpList_load_at rfl 24 (.tmp 4) rfl ⟨g1_, 0, none⟩ rfl [.int .i64 sp, .slice AL k cL] _ (blk_list HF7.out.blk) Try.underlying24 rfl (by kernel_rfl) ?_)
              | (refine wpList_store_at rfl 24 (.tmp 2) (.tmp 77) rfl w.heap.size 0 24 [.int .i64 0, .slice none 0 0] [.int .i64 0, .slice none 0 0] _ HF7.out.res (by rfl) (by rfl) rfl (by kernel_rfl) (by simp) (by intro u hu; simp at hu; rcases hu with rfl | rfl <;> rfl) ?_
                 intro w8 X8 G8 S8
                 have c80 : w8.cell? ⟨w.heap.size, 0, none⟩ = some (.int .i64 0) := X8.cell 0
                 have c81 : w8.cell? ⟨w.heap.size, 1, none⟩ = some (.slice none 0 0) := X8.cell 1
                 have HB8 := hide (HF7.out.below.grown G8 (Nat.le_of_lt HF7.out.lt) (fun g e => by injection e with e; omega))
                 clear X8 G8 S8)
              | (refine wpList_store_at rfl 24 (.tmp 2) (.tmp 78) rfl w.heap.size 0 24 [.int .i64 0, .slice none 0 0] [.int .i64 sp, .slice AL k cL] _ HF7.out.res (by rfl) (by rfl) rfl (by kernel_rfl) (by simp) (by intro u hu; simp at hu; rcases hu with rfl | rfl <;> rfl) ?_
                 intro w8 X8 G8 S8
                 have c80 : w8.cell? ⟨w.heap.size, 0, none⟩ = some (.int .i64 sp) := X8.cell 0
                 have c81 : w8.cell? ⟨w.heap.size, 1, none⟩ = some (.slice AL k cL) := X8.cell 1
                 have HB8 := hide (HF7.out.below.grown G8 (Nat.le_of_lt HF7.out.lt) (fun g e => by injection e with e; omega))
                 have HG8 := hide G8
                 clear X8 G8 S8))
          · refine bodyPost_ret (v := .tuple #[.agg #[.int .i64 0, .slice none 0 0], .int .i64 30]) (by simp [results, Try.results20, go_sem, c80, c81]) rfl ⟨HB8.out, .inr ⟨?_, rfl⟩⟩
            unfold rdGood rdS rdL
            rw [HX2'.out, HSP.out, HCB.out, Bool.and_false]
          · refine bodyPost_ret (v := .tuple #[.agg #[.int .i64 sp, .slice AL k cL], .int .i64 0]) (by simp [results, Try.results20, go_sem, c80, c81]) rfl ⟨HB8.out, .inl ⟨?_, AL, k, cL, hcL, by omega, ?_, ?_⟩⟩
            · unfold rdGood rdS rdL rdOk
              rw [HX2'.out, HSP.out, HCB.out, Bool.and_true, Bool.and_eq_true, decide_eq_true_eq, beq_iff_eq, HL.out]
              refine ⟨h3n, ?_⟩
              rw [List.getD_eq_getElem?_getD, HX2.out, Option.getD_some]
              have := HN.out
              omega
            · unfold rdS
              rw [HSP.out]
            · have ho8 := HF7.out.own.kept HG8.out (.inr (fun e => own_blk_ne HF7.out.own HF7.out.res (by decide) e))
              obtain ⟨A9, c9, e9, _, h9⟩ := hO_hints ho8 (rdHs_all HB.out HBL'.out)
              injection e9 with e9
              subst e9
              unfold rdL
              rw [HX2'.out]
              exact h9
    · have bn : ((n : Int) != 3 + x2 * 25) = true := by rw [bne_iff_ne]; exact hn
      have HN := hide hn
      clear hn
      go_enter Try.func20, Try.ntmps20
      go_wp2
      refine bodyPost_ret (v := .tuple #[.agg #[.int .i64 0, .slice none 0 0], .int .i64 30]) (by simp [results, Try.results20, go_sem]) rfl ⟨(Below.refl _ _).alloc (Nat.le_refl _) _, .inr ⟨?_, rfl⟩⟩
      unfold rdGood rdOk
      rw [HL.out, List.getD_eq_getElem?_getD, HX2.out, Option.getD_some]
      simp only [Bool.and_eq_false_iff]
      left; right
      refine beq_eq_false_iff_ne.2 (fun h => HN.out ?_)
      omega
  · go_enter Try.func20, Try.ntmps20
    go_wp2
    refine bodyPost_ret (v := .tuple #[.agg #[.int .i64 0, .slice none 0 0], .int .i64 30]) (by simp [results, Try.results20, go_sem]) rfl ⟨(Below.refl _ _).alloc (Nat.le_refl _) _, .inr ⟨?_, rfl⟩⟩
    unfold rdGood rdOk
    rw [HL.out]
    simp [h3]
end Go.Proofs.Ytmnokkomhgpmmaa
