/-
  SymbcSays: events alike, how many bring something; no pool, no such terms: the walk. Conditions: those written in each statement.
-/
import Derived.Lib.QuietBelow
import Derived.Test.YtepagfkkjlbipaaGreatKax
import Derived.Test.YtepagfkkjlbipaaGreatLu
import Derived.Test.YtepagfkkjlbipaaGreatKav
import Derived.Test.YtepagfkkjlbipaaGreatSc
import Derived.Test.YtepagfkkjlbipaaGreatKaw
namespace Go.Proofs.YtepagfkkjlbipaaGreat
open Go.RowKit
set_option linter.unusedVariables false
set_option linter.unusedSimpArgs false
set_option maxRecDepth 100000
theorem and_small (n : Int) (m : Nat) (hm : m < 9223372036854775808) : ∃ k : Nat, k ≤ m ∧ bits .and .i64 n (m : Int) = (k : Int) := by
 have hx : (BitVec.ofInt 64 n).toNat &&& m ≤ m := Nat.and_le_right
 refine ⟨(BitVec.ofInt 64 n).toNat &&& m, hx, ?_⟩
 show IntKind.i64.wrap ((BitVec.ofInt 64 n &&& BitVec.ofInt 64 (m : Int)).toNat : Int) = _
 rw [BitVec.toNat_and, ofInt_i64 m hm, IntKind.wrap_i64]
 omega
theorem says_run (c : Int) (l : List ID) {regs : List Int} {i : Nat} {v : Int} (hi : i < regs.length) (hv : regs[i]? = some v) (hb : 11 ≤ v) : runV P0 c l 0 regs = ⟨P0, zeroRg, [], zeroEx, if (chkP c l).2 = 0 then 2 else (chkP c l).2⟩ := by
 by_cases hc : (chkP c l).2 = 0
 ·rw [if_pos hc]
  have ha : askB P0 l 0 regs = false := by
   unfold askB
   have : regsB P0 regs = false := by
    unfold regsB
    rw [List.all_eq_false]
    refine ⟨v, List.mem_of_getElem? hv, ?_⟩
    have : (P0.T.length : Int) = 11 := rfl
    rw [this]
    simp
    omega
   rw [this]
   simp
  rw [run_arg hc ha]
 ·rw [if_neg hc, run_bad hc]
set_option maxHeartbeats 16000000 in
theorem says_walk (x y : EvD) (v u : Value) (A1 : Option Addr) (n1 c1 : Nat) (l1 : List EvD) (c : Int) (A : Option Addr) (n cap : Nat) (l : List ID) (num : Int) (w : World) (hv : NxAt w w.heap.size v x.args) (hu : NxAt w w.heap.size u y.args) (hl1 : AcsAt w w.heap.size A1 n1 l1) (hlc : n1 ≤ c1) (hlm : n1 < 9223372036854775808)
  (hh : InsAt w w.heap.size A n l) (hc : n ≤ cap) (hm : n < 9223372036854775808) :
  Calls Tryz.prog 5 #[.agg (evC (x, v)).toArray, .agg (evC (y, u)).toArray, .slice A1 n1 c1, .agg #[.int .i64 c, .slice A n cap], .int .i64 num] w fun e w' => e = .returned (.bool true) ∧ Below w.heap.size w w' := by
 have zr := zeroR
 obtain ⟨Av, cv, rfl⟩ := hv.form
 obtain ⟨Au, cu, rfl⟩ := hu.form
 obtain ⟨m1, hm1⟩ : ∃ k, x.args.length = k := ⟨_, rfl⟩
 obtain ⟨m2, hm2⟩ : ∃ k, y.args.length = k := ⟨_, rfl⟩
 rw [hm1] at hv ⊢
 rw [hm2] at hu ⊢
 obtain ⟨w1, hw1⟩ : ∃ z, ((w.alloc (.cells (evC (x, .slice Av m1 cv)).toArray 72)).alloc (.cells (evC (y, .slice Au m2 cu)).toArray 72)).alloc (.cells #[.int .i64 c, .slice A n cap] 24) = z := ⟨_, rfl⟩
 have hb0 : Below w.heap.size w w1 := by rw [← hw1]; exact (((Below.refl _ w).alloc (Nat.le_refl _) _).alloc (by simp) _).alloc (by simp; omega) _
 have hs1 : w1.heap.size = w.heap.size + 3 := by rw [← hw1]; simp
 have hxa : Blk w1 w.heap.size 72 (evC (x, .slice Av m1 cv)).toArray := by rw [← hw1]; exact ((Blk.new w _ _).alloc _).alloc _
 have hxb : Blk w1 (w.heap.size + 1) 72 (evC (y, .slice Au m2 cu)).toArray := by
  rw [← hw1]
  have := (Blk.new (w.alloc (.cells (evC (x, .slice Av m1 cv)).toArray 72)) 72 (evC (y, .slice Au m2 cu)).toArray).alloc (.cells #[.int .i64 c, .slice A n cap] 24)
  simpa using this
 have hxp : Blk w1 (w.heap.size + 1 + 1) 24 #[.int .i64 c, .slice A n cap] := by
  rw [← hw1]
  have := Blk.new ((w.alloc (.cells (evC (x, .slice Av m1 cv)).toArray 72)).alloc (.cells (evC (y, .slice Au m2 cu)).toArray 72)) 24 #[.int .i64 c, .slice A n cap]
  simpa using this
 have HXA := hide hxa
 have HXB := hide hxb
 have HXP := hide hxp
 have HV := hide ((hv.below hb0).more hb0.size)
 have HU := hide ((hu.below hb0).more hb0.size)
 have HL1 := hide ((hl1.below hb0).more hb0.size)
 have HI := hide (hh.up hb0 hb0.size)
 have HW := hide hb0
 have HN := hide (And.intro hc hm)
 have c15 : w1.cell? ⟨w.heap.size, 5, none⟩ = some (.slice Av m1 cv) := hxa.cell 5
 have c25 : w1.cell? ⟨w.heap.size + 1, 5, none⟩ = some (.slice Au m2 cu) := hxb.cell 5
 have c31 : w1.cell? ⟨w.heap.size + 1 + 1, 1, none⟩ = some (.slice A n cap) := hxp.cell 1
 have HM := hide (And.intro hm1 hm2)
 clear hv hu hl1 hh hc hm hb0 hxa hxb hxp hs1 hm1 hm2
 cases g1 : decide (100 < m1)
 rotate_left
 ·have hm1 : 100 < m1 := by simpa using g1
  go_enter Tryz.func5, Tryz.ntmps5
  go_wp2_with fail
  refine (wakes_any _).mono ?_
  rintro e w2 ⟨rfl, hb⟩
  have HQ := hide hb
  clear hb
  go_wp2
  go_ret
  exact ⟨rfl, HW.out.trans (HQ.out.mono HW.out.size)⟩
 have hm1 : m1 ≤ 100 := by simpa using g1
 clear g1
 cases g2 : decide (100 < m2)
 rotate_left
 ·have hm2 : 100 < m2 := by simpa using g2
  go_enter Tryz.func5, Tryz.ntmps5
  go_wp2_with fail
  refine (wakes_any _).mono ?_
  rintro e w2 ⟨rfl, hb⟩
  have HQ := hide hb
  clear hb
  go_wp2
  go_ret
  exact ⟨rfl, HW.out.trans (HQ.out.mono HW.out.size)⟩
 have hm2 : m2 ≤ 100 := by simpa using g2
 clear g2
 cases g3 : decide (100 < n1)
 rotate_left
 ·have hn1 : 100 < n1 := by simpa using g3
  go_enter Tryz.func5, Tryz.ntmps5
  go_wp2_with fail
  refine (wakes_any _).mono ?_
  rintro e w2 ⟨rfl, hb⟩
  have HQ := hide hb
  clear hb
  go_wp2
  go_ret
  exact ⟨rfl, HW.out.trans (HQ.out.mono HW.out.size)⟩
 have hn1 : n1 ≤ 100 := by simpa using g3
 clear g3 hlm
 cases g4 : decide (100 < n)
 rotate_left
 ·have hn : 100 < n := by simpa using g4
  go_enter Tryz.func5, Tryz.ntmps5
  go_wp2_with fail
  refine (wakes_any _).mono ?_
  rintro e w2 ⟨rfl, hb⟩
  have HQ := hide hb
  clear hb
  go_wp2
  go_ret
  exact ⟨rfl, HW.out.trans (HQ.out.mono HW.out.size)⟩
 have hn : n ≤ 100 := by simpa using g4
 clear g4
 obtain ⟨b5, hb5⟩ : ∃ k, w.heap.size = k := ⟨_, rfl⟩
 have HB5 := hide hb5
 rw [hb5] at HXA HXB HXP c15 c25 c31
 go_enter Tryz.func5, Tryz.ntmps5
 go_upto_region 4 with fail
 clear hw1 hb5
 obtain ⟨b11, hb11⟩ : ∃ k, w1.heap.size = k := ⟨_, rfl⟩
 have hx11 := Blk.new w1 57 (rgC zeroRg).toArray
 have hl11 : Below w1.heap.size w1 (w1.alloc (.cells (rgC zeroRg).toArray 57)) := (Below.refl _ _).alloc (Nat.le_refl _) _
 have HLZ := hide hl11
 rw [hb11] at hx11 ⊢
 generalize w1.alloc (.cells (rgC zeroRg).toArray 57) = w2 at hx11 HLZ ⊢
 have HX11 := hide hx11
 have HBW := hide HLZ.out
 clear hx11 hl11 hb11 HLZ zr
 have c30 : w2.cell? ⟨b5 + 1 + 1, 0, none⟩ = some (.int .i64 c) := (HBW.out.cell (p := ⟨b5 + 1 + 1, 0, none⟩) HXP.out.lt).trans (HXP.out.cell 0)
 replace c31 : w2.cell? ⟨b5 + 1 + 1, 1, none⟩ = some (.slice A n cap) := (HBW.out.cell (p := ⟨b5 + 1 + 1, 1, none⟩) HXP.out.lt).trans (HXP.out.cell 1)
 clear c15 c25
 go_wp2_with (first
  | (refine wpList_load_at rfl 57 (.tmp 11) rfl ⟨b11, 0, none⟩ (by rfl) (rgC zeroRg) _ (blk_list HX11.out) Tryz.underlying57 rfl (sizR) ?_)
  | fail)
 refine (srun_nil c A n cap 0 zeroRg _).mono ?_
 rintro e w3 ⟨rfl, hb⟩
 replace HBW := hide (HBW.out.trans (hb.mono HBW.out.size))
 clear hb c30 c31 HX11
 go_upto_region 5 with (first
  | (refine wpList_store_new rfl 65 (.tmp 12) (.tmp 51) rfl _ zeroS (.agg zeroS.toArray) (by rfl) (by rfl) rfl sizS (by rfl) zeroS_one ?_
     intro w4 Gz Lz Zz
     replace HBW := hide (HBW.out.trans (Lz.mono HBW.out.size))
     clear Gz Lz Zz)
  | fail)
 go_wp2_with fail
 refine (start_nil _).mono ?_
 rintro e w5 ⟨rfl, hb⟩
 replace HBW := hide (HBW.out.trans (hb.mono HBW.out.size))
 clear hb
 go_upto_region 6 with (first
  | (refine wpList_store_new rfl 57 (.tmp 14) (.tmp 55) rfl _ (rgC zeroRg) (.agg (rgC zeroRg).toArray) (by rfl) (by rfl) rfl sizR (by rfl) (rgC_one _) ?_
     intro w6 Gz Lz Zz
     replace HBW := hide (HBW.out.trans (Lz.mono HBW.out.size))
     clear Gz Lz Zz)
  | fail)
 go_wp2_with fail
 refine (entry_nil _).mono ?_
 rintro e w7 ⟨rfl, hb⟩
 replace HBW := hide (HBW.out.trans (hb.mono HBW.out.size))
 clear hb
 go_upto_region 7 with (first
  | (refine wpList_store_new rfl 57 (.tmp 16) (.tmp 59) rfl _ (rgC zeroRg) (.agg (rgC zeroRg).toArray) (by rfl) (by rfl) rfl sizR (by rfl) (rgC_one _) ?_
     intro w8 Gz Lz Zz
     replace HBW := hide (HBW.out.trans (Lz.mono HBW.out.size))
     clear Gz Lz Zz)
  | fail)
 -- the facts, in the world ahead of the pool
 replace HXA := hide (HXA.out.below HBW.out HXA.out.lt)
 replace HXB := hide (HXB.out.below HBW.out HXB.out.lt)
 replace HXP := hide (HXP.out.below HBW.out HXP.out.lt)
 replace HV := hide ((HV.out.below HBW.out).more HBW.out.size)
 replace HU := hide ((HU.out.below HBW.out).more HBW.out.size)
 replace HL1 := hide ((HL1.out.below HBW.out).more HBW.out.size)
 replace HI := hide (HI.out.up HBW.out HBW.out.size)
 replace HW := hide (HW.out.trans (HBW.out.mono HW.out.size))
 clear HBW
 go_wp2_with fail
 refine (new_any _).mono ?_
 rintro e w9 ⟨g, F0, rfl, hp, hb⟩
 have HF := hide (fun b q => (hp.fb b q).1 : ∀ b, F0 b → w8.heap.size ≤ b)
 have HQ := hide (PG.refl hp)
 have HB := hide hb.size
 have HB9 := hide hb
 clear hp hb
 go_upto_region 8 with fail
 go_wp2_with fail
 refine (start_any HQ.out.pool HB.out).mono ?_
 rintro e w10 ⟨rfl, F1, hp1⟩
 rw [start_empty] at hp1 ⊢
 replace HQ := hide (HQ.out.trans hp1)
 replace HB := hide (Nat.le_trans HB.out hp1.chg.size)
 clear hp1
 go_upto_region 9 with (first
  | (refine wpList_store_new rfl 57 (.tmp 19) (.tmp 65) rfl _ (rgC R0) (.agg (rgC R0).toArray) (by rfl) (by rfl) rfl sizR (by rfl) (rgC_one _) ?_
     intro w11 Gz Lz Zz
     have HB19 := hide Gz
     have HLz := hide Lz
     clear Gz Lz Zz)
  | fail)
 have hn19 : ¬ F1 w10.heap.size := fun q => by have := (HQ.out.pool.fb _ q).2; omega
 obtain ⟨b19, hb19⟩ : ∃ k, w10.heap.size = k := ⟨_, rfl⟩
 have HS19 := hide (show w9.heap.size ≤ b19 by rw [← hb19]; exact HQ.out.chg.size)
 rw [hb19] at HB19 hn19 ⊢
 replace HB19 := hide (And.intro HB19.out hn19)
 replace HQ := hide (HQ.out.step HLz.out)
 replace HB := hide (Nat.le_trans HB.out HLz.out.size)
 clear hb19 HLz hn19
 obtain ⟨i7, hi7, ha7⟩ := and_small num 7 (by omega)
 obtain ⟨i1, hi1, ha1⟩ := and_small num 1023 (by omega)
 have ha7 : bits .and .i64 num 7 = (i7 : Int) := ha7
 have ha1 : bits .and .i64 num 1023 = (i1 : Int) := ha1
 have hw1 : IntKind.i64.wrap (1000 + (i1 : Int)) = 1000 + (i1 : Int) := by rw [IntKind.wrap_i64]; omega
 have hk : w11.cell? ⟨b19, i7, none⟩ = some (.int .i64 (i7 : Int)) := by
  rw [HB19.out.1.cell i7, List.getElem?_toArray]
  show (((List.range 11).map (fun (i : Nat) => (i : Int))).map (Value.int .i64))[i7]? = _
  rw [List.getElem?_map, List.getElem?_map, List.getElem?_range (by omega)]
  rfl
 have hf := HB19.out.1.frozen i7
 go_upto_region 10 with fail
 have hb12 : Blk (w11.setCell ⟨b19, i7, none⟩ (.int .i64 (1000 + (i1 : Int)))) b19 57 (rgC (R0.set i7 (1000 + (i1 : Int)))).toArray := by
  have := HB19.out.1.set_ i7 (.int .i64 (1000 + (i1 : Int)))
  rw [List.setIfInBounds_toArray] at this
  unfold rgC at this ⊢
  rwa [List.map_set]
 have HX19 := hide hb12
 replace HQ := hide (HQ.out.own (w2 := w11.setCell ⟨b19, i7, none⟩ (.int .i64 (1000 + (i1 : Int)))) HB19.out.2 HS19.out (chg_setCell (b := b19) rfl _ rfl))
 have hsz12 : (w11.setCell ⟨b19, i7, none⟩ (.int .i64 (1000 + (i1 : Int)))).heap.size = w11.heap.size := by simp [World.setCell]
 replace HB := hide (show w8.heap.size ≤ (w11.setCell ⟨b19, i7, none⟩ (.int .i64 (1000 + (i1 : Int)))).heap.size by rw [hsz12]; exact HB.out)
 generalize w11.setCell ⟨b19, i7, none⟩ (.int .i64 (1000 + (i1 : Int))) = w12 at HX19 HQ HB ⊢
 have hlow : Below w8.heap.size w8 w12 := HB9.out.trans (HQ.out.chg.below (B := w8.heap.size) (fun b q => HF.out b q) HB9.out.size)
 have HLOW := hide hlow
 have hie : InsF w12 F1 A n l := InsF.of_ins (HI.out.below hlow) HB.out (fun k q => (HQ.out.pool.fb k q).1)
 have hrun := says_run c l (regs := R0.set i7 (1000 + (i1 : Int))) (i := i7) (v := 1000 + (i1 : Int)) (by rw [List.length_set]; show i7 < 11; omega) (by rw [List.getElem?_set, if_pos rfl, if_pos (by show i7 < 11; omega)]) (by omega)
 have hr64 : ∀ r ∈ R0.set i7 (1000 + (i1 : Int)), I64 r := fun r hr => (List.mem_or_eq_of_mem_set hr).elim (fun h => has_i64 P0_good.1 (P0_good.2.2 r h)) (fun e => by rw [e]; unfold I64; omega)
 have hlen : (R0.set i7 (1000 + (i1 : Int))).length = 11 := by rw [List.length_set]; rfl
 obtain ⟨er, her⟩ : ∃ q, (if (chkP c l).2 = 0 then (2 : Int) else (chkP c l).2) = q := ⟨_, rfl⟩
 rw [her] at hrun
 generalize R0.set i7 (1000 + (i1 : Int)) = rg at HX19 hrun hr64 hlen
 have HRUN := hide hrun
 have HER := hide her
 clear hk hf hw1 ha7 ha1 hb12 hsz12 her hrun HB19
 have c30 : w12.cell? ⟨b5 + 1 + 1, 0, none⟩ = some (.int .i64 c) := (hlow.cell (p := ⟨b5 + 1 + 1, 0, none⟩) HXP.out.lt).trans (HXP.out.cell 0)
 have c31 : w12.cell? ⟨b5 + 1 + 1, 1, none⟩ = some (.slice A n cap) := (hlow.cell (p := ⟨b5 + 1 + 1, 1, none⟩) HXP.out.lt).trans (HXP.out.cell 1)
 clear hlow
 go_wp2_with (first
  | (refine wpList_load_at rfl 57 (.tmp 19) rfl ⟨b19, 0, none⟩ (by rfl) (rgC rg) _ (blk_list HX19.out) Tryz.underlying57 rfl (by simp only [rgC, List.length_map, hlen]; exact sizR) ?_)
  | fail)
 refine (srun_any HQ.out.pool HB.out c A n cap l hie HN.out.1 HN.out.2 0 (by unfold I64; omega) rg hlen hr64).mono ?_
 rintro e w13 ⟨es, F2, rfl, hp2, hev, ho⟩
 rw [HRUN.out] at hp2 hev ⊢
 dsimp only at hp2 hev ⊢
 replace HQ := hide (HQ.out.trans hp2)
 replace HB := hide (Nat.le_trans HB.out hp2.chg.size)
 have HO := hide ho
 clear hp2 hev ho c30 c31 hie hr64 HRUN HX19
 go_upto_region 11 with (first
  | (refine wpList_store_new rfl 65 (.tmp 21) (.tmp 78) rfl _ (srcC zeroRg es zeroEx) (.agg (srcC zeroRg es zeroEx).toArray) (by rfl) (by rfl) rfl sizS (by rfl) (srcC_one HO.out _) ?_
     intro w14 Gz Lz Zz
     have HLz := hide Lz
     clear Gz Lz Zz)
  | fail)
 replace HQ := hide (HQ.out.step HLz.out)
 replace HLOW := hide (HB9.out.trans (HQ.out.chg.below (B := w8.heap.size) (fun b q => HF.out b q) HB9.out.size))
 clear HO HLz hlen
 have c30 : w14.cell? ⟨b5 + 1 + 1, 0, none⟩ = some (.int .i64 c) := (HLOW.out.cell (p := ⟨b5 + 1 + 1, 0, none⟩) HXP.out.lt).trans (HXP.out.cell 0)
 have c31 : w14.cell? ⟨b5 + 1 + 1, 1, none⟩ = some (.slice A n cap) := (HLOW.out.cell (p := ⟨b5 + 1 + 1, 1, none⟩) HXP.out.lt).trans (HXP.out.cell 1)
 go_wp2_with fail
 refine (rcheck_any c A n cap l _ (HI.out.up HLOW.out HLOW.out.size) HN.out.1 HN.out.2).mono ?_
 rintro e w15 ⟨rfl, hb⟩
 replace HLOW := hide (HLOW.out.trans (hb.mono HLOW.out.size))
 clear hb c30 c31 HQ HB HB9 HF HI
 obtain ⟨cq, hcq⟩ : ∃ q, (chkP c l).1 = q := ⟨_, rfl⟩
 obtain ⟨cr, hcr⟩ : ∃ q, (chkP c l).2 = q := ⟨_, rfl⟩
 rw [hcq, hcr]
 rw [hcr] at HER
 clear hcq hcr
 go_upto_if 86 with fail
 go_cut [24] (fun x wc => x = .int .i64 er ∧ wc = w15)
 case first =>
  by_cases hz : cr = 0
  ·have he2 : (2 : Int) = er := by have := HER.out; rwa [if_pos hz] at this
   subst hz
   subst he2
   go_wp2_with fail
   all_goals (go_meet; exact ⟨rfl, rfl⟩)
  ·have he2 : cr = er := by have := HER.out; rwa [if_neg hz] at this
   subst he2
   go_wp2_with fail
   all_goals (go_meet; exact ⟨rfl, rfl⟩)
 obtain ⟨rfl, rfl⟩ := hcut
 clear HER
 replace HXA := hide (HXA.out.below HLOW.out HXA.out.lt)
 replace HXB := hide (HXB.out.below HLOW.out HXB.out.lt)
 replace HV := hide ((HV.out.below HLOW.out).more HLOW.out.size)
 replace HU := hide ((HU.out.below HLOW.out).more HLOW.out.size)
 replace HL1 := hide ((HL1.out.below HLOW.out).more HLOW.out.size)
 replace HW := hide (HW.out.trans (HLOW.out.mono HW.out.size))
 clear HLOW HXP HN hlc
 obtain ⟨sb, hsb⟩ : ∃ b, sameE x y = b := ⟨_, rfl⟩
 obtain ⟨nb, hnb⟩ : ∃ b, (bringsN l1 : Int) = b := ⟨_, rfl⟩
 have HS1 := hide (fun k os => by
  have hb := below_regrown wc k os
  have := same_any x y (.slice Av m1 cv) (.slice Au m2 cu) (Sort.grow (redrawn wc k) os) ((HV.out.below hb).more hb.size) ((HU.out.below hb).more hb.size)
  rwa [hsb] at this : ∀ k os, Calls Tryz.prog 22 #[.agg (evC (x, .slice Av m1 cv)).toArray, .agg (evC (y, .slice Au m2 cu)).toArray] (Sort.grow (redrawn wc k) os) fun e w' => e = .returned (.bool sb) ∧ Below (Sort.grow (redrawn wc k) os).heap.size (Sort.grow (redrawn wc k) os) w')
 have HS2 := hide (fun k os => by
  have hb := below_regrown wc k os
  have := rsame_any x y (.slice Av m1 cv) (.slice Au m2 cu) (Sort.grow (redrawn wc k) os) ((HV.out.below hb).more hb.size) ((HU.out.below hb).more hb.size)
  rwa [hsb] at this : ∀ k os, Calls Tryz.prog 23 #[.agg (evC (x, .slice Av m1 cv)).toArray, .agg (evC (y, .slice Au m2 cu)).toArray] (Sort.grow (redrawn wc k) os) fun e w' => e = .returned (.bool sb) ∧ Below (Sort.grow (redrawn wc k) os).heap.size (Sort.grow (redrawn wc k) os) w')
 have HR1 := hide (fun k os => by
  have hb := below_regrown wc k os
  have := brings_in A1 n1 c1 wc.heap.size l1 (Sort.grow (redrawn wc k) os) (HL1.out.below hb) hb.size hn1
  rwa [hnb] at this : ∀ k os, Calls Tryz.prog 24 #[.slice A1 n1 c1] (Sort.grow (redrawn wc k) os) fun e w' => e = .returned (.int .i64 nb) ∧ Below (Sort.grow (redrawn wc k) os).heap.size (Sort.grow (redrawn wc k) os) w')
 have HR2 := hide (fun k os => by
  have hb := below_regrown wc k os
  have := rbrings_any A1 n1 c1 wc.heap.size l1 (Sort.grow (redrawn wc k) os) (HL1.out.below hb) hb.size hn1
  rwa [hnb] at this : ∀ k os, Calls Tryz.prog 25 #[.slice A1 n1 c1] (Sort.grow (redrawn wc k) os) fun e w' => e = .returned (.int .i64 nb) ∧ Below (Sort.grow (redrawn wc k) os).heap.size (Sort.grow (redrawn wc k) os) w')
 have HLP := hide (fun (W' : World) (h : ∃ p : Regrown, W' = Sort.grow (redrawn wc p.d) p.os) => (by
  obtain ⟨p, rfl⟩ := h
  exact blk_list (HXA.out.below (below_regrown wc p.d p.os) HXA.out.lt) : ∀ j u, (evC (x, .slice Av m1 cv))[j]? = some u → W'.cell? ((⟨b5, 0, none⟩ : Addr).add j) = some u))
 have HLQ := hide (fun (W' : World) (h : ∃ p : Regrown, W' = Sort.grow (redrawn wc p.d) p.os) => (by
  obtain ⟨p, rfl⟩ := h
  exact blk_list (HXB.out.below (below_regrown wc p.d p.os) HXB.out.lt) : ∀ j u, (evC (y, .slice Au m2 cu))[j]? = some u → W'.cell? ((⟨b5 + 1, 0, none⟩ : Addr).add j) = some u))
 clear hsb hnb HXA HXB HV HU HL1 HM
 go_wp2_with fail
 refine wp_region_quiet_below (by kernel_rfl) (by kernel_rfl) ?_
 repeat (first
  | (refine wpQuiet_loadC (by rfl) 72 (.tmp 5) rfl ⟨b5, 0, none⟩ (by rfl) (evC (x, .slice Av m1 cv)) _ HLP.out Tryz.underlying72 rfl (by kernel_rfl) ?_; go_simp)
  | (refine wpQuiet_loadC (by rfl) 72 (.tmp 6) rfl ⟨b5 + 1, 0, none⟩ (by rfl) (evC (y, .slice Au m2 cu)) _ HLQ.out Tryz.underlying72 rfl (by kernel_rfl) ?_; go_simp)
  | go_big_quiet_step ((first
    | (go_at_call 22; exact Calls.regrown_of (HS1.out _ _))
    | (go_at_call 23; exact Calls.regrown_of (HS2.out _ _))
    | (go_at_call 24; exact Calls.regrown_of (HR1.out _ _))
    | (go_at_call 25; exact Calls.regrown_of (HR2.out _ _))
    | (go_at_call 6; exact Calls.regrown_of (wakes_any _)))))
 refine wpQuiet_nil ?_
 first
  | (intro wq hwq; obtain ⟨pq, rfl⟩ := hwq)
  | intro pq
 replace HW := hide (HW.out.trans ((below_regrown wc pq.d pq.os).mono HW.out.size))
 generalize Sort.grow (redrawn wc pq.d) pq.os = w16 at HW ⊢
 clear HS1 HS2 HR1 HR2 HLP HLQ
 go_wp2_with fail
 go_ret
 exact ⟨rfl, HW.out⟩
theorem says_row (x : EvD) (v : Value) (y : EvD) (u : Value) (A1 : Option Addr) (n1 c1 : Nat) (l1 : List EvD) (c : Int) (A : Option Addr) (n cap : Nat) (l : List ID) (num : Int) (w : World) (hv : NxAt w w.heap.size v x.args) (hu : NxAt w w.heap.size u y.args) (hl1 : AcsAt w w.heap.size A1 n1 l1) (hlc : n1 ≤ c1) (hlm : n1 < 9223372036854775808)
  (hh : InsAt w w.heap.size A n l) (hc : n ≤ cap) (hm : n < 9223372036854775808) :
  Calls Tryz.prog 5 #[.agg (evC (x, v)).toArray, .agg (evC (y, u)).toArray, .slice A1 n1 c1, .agg #[.int .i64 c, .slice A n cap], .int .i64 num] w fun e w' => e = .returned (.bool true) ∧ Below w.heap.size w w' := says_walk x y v u A1 n1 c1 l1 c A n cap l num w hv hu hl1 hlc hlm hh hc hm
end Go.Proofs.YtepagfkkjlbipaaGreat
