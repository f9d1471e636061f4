/-
  latheref06.Snaps: the walk. Conditions: those written in each statement.
-/
import Derived.Test.YtepagfkkjlbipaaGreatKbf
set_option linter.unusedVariables false
set_option linter.unusedSimpArgs false
set_option maxHeartbeats 64000000
set_option maxRecDepth 100000
namespace Go.Proofs.YtepagfkkjlbipaaGreat
open Tryz
open Go.RowKit
theorem sizOut : (prog.info? 34).map (·.size) = some 5 := by kernel_rfl
theorem sizSn : (prog.info? 86).map (·.size) = some 76 := by kernel_rfl
theorem zOut_one : ∀ u ∈ zOut, u.oneCell' = true := by
 intro u hu
 unfold zOut at hu
 simp only [List.mem_cons, List.not_mem_nil, or_false] at hu
 rcases hu with rfl | rfl | rfl | rfl | rfl <;> rfl
theorem infS : (prog.info? 86).map (fun i => (i.zero, i.size, i.bytes)) = some (some (.agg (snC ⟨z11, 0, z64⟩).toArray), 76, 160) := by kernel_rfl
theorem infNm : (prog.info? 3).map (fun i => (i.zero, i.size, i.bytes)) = some (some (.int .i64 0), 1, 8) := by kernel_rfl
theorem sn_any (c : Int) (A : Option Addr) (n cap : Nat) (l : List ID) (Ax : Option Addr) (nx cx : Nat) (lx : List Int) (AA : Option Addr) (ca : Nat) (la : List Int) (fuel : Int) (w : World) (hh : InsAt w w.heap.size A n l) (hc : n ≤ cap) (hm : n < 9223372036854775808)
  (hx : Reads w w.heap.size 1 Ax nx (u8C lx)) (hlx : lx.length = nx) (hnx : nx ≤ cx ∧ nx < 9223372036854775808) (hu : ∀ x ∈ lx, U8 x) (ha : Reads w w.heap.size 1 AA la.length (la.map (Value.int .u64))) (hca : la.length ≤ ca) (hau : ∀ v ∈ la, U64 v) (hf : I64 fuel) (hf5 : fuel ≤ 500) :
  Calls prog 7 #[.agg #[.int .i64 c, .slice A n cap], .slice Ax nx cx, .slice AA la.length ca, .int .i64 fuel] w (SnP c l fuel w) := by
 obtain ⟨w1, hw1⟩ : ∃ v, (w.alloc (.cells #[.int .i64 c, .slice A n cap] 24)).alloc (.cells #[.int .i8 0, .int .u64 0, .slice none 0 0, .slice none 0 0, .int .i64 0] 34) = v := ⟨_, rfl⟩
 have hb0 : Below w.heap.size w w1 := by rw [← hw1]; exact ((Below.refl _ w).alloc (Nat.le_refl _) _).alloc (by simp) _
 have hbp : Blk w1 w.heap.size 24 #[.int .i64 c, .slice A n cap] := by rw [← hw1]; exact (Blk.new w 24 #[.int .i64 c, .slice A n cap]).alloc _
 have hbo : Blk w1 (w.heap.size + 1) 34 zOut.toArray := by
  rw [← hw1]
  have := Blk.new (w.alloc (.cells #[.int .i64 c, .slice A n cap] 24)) 34 zOut.toArray
  have e : (w.alloc (.cells #[.int .i64 c, .slice A n cap] 24)).heap.size = w.heap.size + 1 := by simp
  rw [e] at this
  exact this
 have hs1 : w1.heap.size = w.heap.size + 2 := by rw [← hw1]; simp
 have HIF := Hd (show InsF w1 (fun b => w.heap.size ≤ b) A n l from (InsF.of_ins (F := fun b => w.heap.size ≤ b) hh (Nat.le_refl _) (fun b z => z)).step hb0)
 have HI := Hd (hh.up hb0 hb0.size)
 have HX := Hd (show Reads w1 w1.heap.size 1 Ax nx (u8C lx) from (hx.below hb0).more hb0.size)
 have HA := Hd (show Reads w1 w.heap.size 1 AA la.length (la.map (Value.int .u64)) from ha.below hb0)
 have HU := Hd (And.intro hlx (And.intro hu (And.intro hca hau)))
 have HN := Hd (And.intro hc hm)
 have HW := Hd hb0
 obtain ⟨b4, hb4⟩ : ∃ q, w.heap.size = q := ⟨_, rfl⟩
 have HB4 := Hd (And.intro hb4 hs1)
 rw [hb4] at hbp hbo
 have HBP := Hd hbp
 have HBO := Hd hbo
 have c40 : w1.cell? ⟨b4, 0, none⟩ = some (.int .i64 c) := hbp.cell 0
 have c41 : w1.cell? ⟨b4, 1, none⟩ = some (.slice A n cap) := hbp.cell 1
 clear hh hx ha hlx hu hca hau hc hm hbp hbo hb0 hs1
 go_enter func7, ntmps7
 go_wp2_with fail
 clear hw1 c40 c41
 refine (rcheck_any c A n cap l _ HI.out HN.out.1 HN.out.2).mono ?_
 rintro e w2 ⟨rfl, hb⟩
 replace HBP := Hd (HBP.out.below hb HBP.out.lt)
 replace HBO := Hd (HBO.out.below hb HBO.out.lt)
 replace HI := Hd (HI.out.up hb hb.size)
 replace HIF := Hd (HIF.out.step hb)
 replace HX := Hd ((HX.out.below hb).more hb.size)
 replace HA := Hd (HA.out.below (hb.mono HW.out.size))
 have HLT := Hd (show b4 + 1 < w2.heap.size by have := HB4.out; have := hb.size; omega)
 replace HW := Hd (HW.out.trans (hb.mono HW.out.size))
 clear hb
 obtain ⟨cq, hcq⟩ : ∃ q, (chkP c l).1 = q := ⟨_, rfl⟩
 obtain ⟨cr, hcr⟩ : ∃ q, (chkP c l).2 = q := ⟨_, rfl⟩
 rw [hcq, hcr]
 have HCR := Hd hcr
 clear hcq hcr
 cases h0 : (cr != 0)
 rotate_left
 ·have H0 := Hd h0
  go_wp2_with (first
   | (refine wpList_store_at rfl 34 (.tmp 10) (.tmp 27) rfl (b4 + 1) 0 34 zOut zOut (.agg zOut.toArray) HBO.out (by rfl) (by rfl) rfl sizOut (by decide) zOut_one ?_
      intro wq hBq hgq hsq
      have HBQ := Hd hBq
      have HGQ := Hd hgq
      clear hBq hgq hsq)
   | fail)
  have hrl := run_loadVar_at (P := prog) wq ⟨b4 + 1, 0, none⟩ 34 zOut _ (blk_list HBQ.out) underlying34 rfl sizOut
  refine bodyPost_ret (v := .tuple #[.slice none 0 0, .slice none 0 0, .agg zOut.toArray, .int .i64 cr]) ?_ rfl ⟨HW.out.grown HGQ.out HW.out.size (fun g e => by have := HB4.out; have e := Option.some.inj e; omega), .inl ⟨cr, rfl, H0.out⟩⟩
  simp [results, results7, Act.put, asAddr, Result.andThen, hrl]
 have h00 : cr = 0 := by simpa using h0
 subst h00
 clear h0
 have c40 : w2.cell? ⟨b4, 0, none⟩ = some (.int .i64 c) := HBP.out.cell 0
 cases h1 : ((nx : Int) != c)
 rotate_left
 ·skip
  go_wp2_with (first
   | (refine wpList_store_at rfl 34 (.tmp 10) (.tmp 42) rfl (b4 + 1) 0 34 zOut zOut (.agg zOut.toArray) HBO.out (by rfl) (by rfl) rfl sizOut (by decide) zOut_one ?_
      intro wq hBq hgq hsq
      have HBQ := Hd hBq
      have HGQ := Hd hgq
      clear hBq hgq hsq)
   | fail)
  have hrl := run_loadVar_at (P := prog) wq ⟨b4 + 1, 0, none⟩ 34 zOut _ (blk_list HBQ.out) underlying34 rfl sizOut
  refine bodyPost_ret (v := .tuple #[.slice none 0 0, .slice none 0 0, .agg zOut.toArray, .int .i64 2]) ?_ rfl ⟨HW.out.grown HGQ.out HW.out.size (fun g e => by have := HB4.out; have e := Option.some.inj e; omega), .inl ⟨2, rfl, rfl⟩⟩
  simp [results, results7, Act.put, asAddr, Result.andThen, hrl]
 have h11 : c = (nx : Int) := (show (nx : Int) = c by simpa using h1).symm
 subst h11
 clear h1
 cases h2 : decide (fuel < 0)
 rotate_left
 ·skip
  go_wp2_with (first
   | (refine wpList_store_at rfl 34 (.tmp 10) (.tmp 42) rfl (b4 + 1) 0 34 zOut zOut (.agg zOut.toArray) HBO.out (by rfl) (by rfl) rfl sizOut (by decide) zOut_one ?_
      intro wq hBq hgq hsq
      have HBQ := Hd hBq
      have HGQ := Hd hgq
      clear hBq hgq hsq)
   | fail)
  have hrl := run_loadVar_at (P := prog) wq ⟨b4 + 1, 0, none⟩ 34 zOut _ (blk_list HBQ.out) underlying34 rfl sizOut
  refine bodyPost_ret (v := .tuple #[.slice none 0 0, .slice none 0 0, .agg zOut.toArray, .int .i64 2]) ?_ rfl ⟨HW.out.grown HGQ.out HW.out.size (fun g e => by have := HB4.out; have e := Option.some.inj e; omega), .inl ⟨2, rfl, rfl⟩⟩
  simp [results, results7, Act.put, asAddr, Result.andThen, hrl]
 have h22 : 0 ≤ fuel := by simpa using h2
 have h3 : decide (10000 < fuel) = false := by simp; omega
 have c41 : w2.cell? ⟨b4, 1, none⟩ = some (.slice A n cap) := HBP.out.cell 1
 have hcc := chk_ok HCR.out
 have HPF := Hd (PrF.of HCR.out)
 have hnx2 : nx ≤ 256 := by omega
 have hl64 : l.length ≤ 64 := hcc.2.2.2.1
 have hl1 : 0 < l.length := hcc.2.2.1
 have HX0 := Hd (show ∃ x, l[0]? = some x from ⟨_, List.getElem?_eq_getElem hl1⟩)
 clear hcc h2
 go_upto_region 6 with fail
 go_wp2_with fail
 refine (md_new (nx : Int) A n cap Ax nx cx lx AA ca la _ w.heap.size HW.out.size HX.out HU.out.1 hnx2 HU.out.2.1 HA.out HU.out.2.2.1 HU.out.2.2.2).mono ?_
 rintro e w3 ⟨bm, bq, G, rfl, hmd, hgl, hb⟩
 replace HBO := Hd (HBO.out.below hb HBO.out.lt)
 replace HIF := Hd (HIF.out.step hb)
 have HNG := Hd (show ¬ G (b4 + 1) from fun z => by have := hgl _ z; have := HLT.out; omega)
 rw [HB4.out.1] at hmd HIF
 have HMD := Hd hmd
 replace HW := Hd (HW.out.trans (hb.mono HW.out.size))
 clear hmd hgl hb c40 c41 HX HA HU HI HBP HLT
 obtain ⟨iN, hiN, hzN, hsN, hbN⟩ := info_parts infNm
 have IN := Hd (And.intro hiN (And.intro hzN (And.intro hsN hbN)))
 obtain ⟨iS, hiS, hzS, hsS, hbS⟩ := info_parts infS
 have IS := Hd (And.intro hiS (And.intro hzS (And.intro hsS hbS)))
 clear hiN hzN hsN hbN hiS hzS hsS hbS
 go_upto_region 10 with fail
 obtain ⟨fl, rfl⟩ : ∃ f : Nat, fuel = (f : Int) := ⟨fuel.toNat, by omega⟩
 have hB03 : b4 ≤ w3.heap.size := by rw [← HB4.out.1]; exact HW.out.size
 have hl0 := LpS.start (l := l) (w' := w3.alloc (.cells #[.int .i8 0, .int .u64 0, .slice none 0 0, .slice none 0 0, .int .i64 0] 34)) HMD.out HIF.out hB03 ((Below.refl _ _).alloc (Nat.le_refl _) _) (Blk.new w3 _ _) HBO.out HNG.out (Nat.le_succ _)
 have HNE := Hd (show w3.heap.size ≠ b4 + 1 from fun e => by have := HBO.out.lt; omega)
 have HBO1 := Hd (show w.heap.size ≤ w3.heap.size from HW.out.size)
 have HLP := Hd hl0
 replace HW := Hd (HW.out.alloc HW.out.size (.cells #[.int .i8 0, .int .u64 0, .slice none 0 0, .slice none 0 0, .int .i64 0] 34))
 obtain ⟨bo, hbo⟩ : ∃ q, w3.heap.size = q := ⟨_, rfl⟩
 rw [hbo] at HLP HNE HBO1 ⊢
 obtain ⟨b1, hb1⟩ : ∃ q, b4 + 1 = q := ⟨_, rfl⟩
 have HB1 := Hd hb1
 rw [hb1] at HLP HNE ⊢
 generalize w3.alloc (.cells #[.int .i8 0, .int .u64 0, .slice none 0 0, .slice none 0 0, .int .i64 0] 34) = w4 at HLP HW ⊢
 obtain ⟨x0, hx0⟩ := HX0.out
 have HP0 := Hd (show Path l ([] ++ [(((0 : Nat) : Int), VE)]) [] from .one 0 x0 VE hx0 ve_ok)
 clear hx0 hl0 hbo hb1 HBO HNG HMD HIF h3
 go_loopw [3, 15, 16, 18, 19] (fun f av sv kd on wr => ∃ (m k : Nat) (q : List (Int × List Int)) (T : List TrE) (rs la : List Int) (G : Nat → Prop) (ss : List SnD), f = .int .i64 (m : Int) ∧ Hid (Path l (q ++ [((k : Int), rs)]) T ∧ LpS l b4 bm bq bo b1 G (nx : Int) A n cap rs (k : Int) la T (q.map (·.1)) ss av sv wr ∧ ss.map (·.regs) = q.map (·.2) ∧ (∀ s ∈ ss, s.ok) ∧ q.length + m = fl ∧ T.length ≤ q.length ∧ Below w.heap.size w wr)) (fun f _ _ _ _ _ => (intOf f).toNat)
 case atStart => exact ⟨fl, 0, [], [], VE, la, G, [], rfl, HP0.out, HLP.out, rfl, (fun s hs => by cases hs), by simp, by simp, HW.out⟩
 case round =>
  obtain ⟨m, k, q, T, rs, la, G, ss, rfl, HX⟩ := hrel
  rename World => wr
  clear HP0 HLP HW
  have HW := Hd HX.out.2.2.2.2.2.2
  have HLQ := Hd (show ss.length = q.length by have := congrArg List.length HX.out.2.2.1; simpa using this)
  by_cases hlt : 0 < m
  ·have hm5 : m ≤ 500 := by have := HX.out.2.2.2.2.1; omega
   have HL5 := Hd (show (q.map (·.1)).length ≤ 500 ∧ ss.length ≤ 500 ∧ b4 ≤ wr.heap.size by
    have h1 := HX.out.2.2.2.2.1
    have h2 := HLQ.out
    have h3 := HX.out.2.1.low
    rw [List.length_map]
    omega)
   obtain ⟨x, hxk, hrg⟩ := HX.out.1.last_in
   have HXK := Hd (And.intro hxk (may_facts (x := x) (by have := HPF.out.ok k x hxk; unfold okAt at this; simp only [Bool.and_eq_true] at this; exact this.1)))
   have hk64 : k < 64 := by have := (List.getElem?_eq_some_iff.1 hxk).1; omega
   obtain ⟨st, fr, an, tr, F, hB, hR⟩ := HX.out.2.1.md.box
   have c79 : wr.cell? ⟨bm, 79, none⟩ = some (.int .i64 (k : Int)) := hB.cell (mdC_pc hB.len hB.frl)
   have HO1 := Hd HX.out.2.1.ow1
   clear hB hR hxk hrg
   go_upto_region 12 with (first
    | (refine wpList_push2 rfl rfl 28 3 (.tmp 54) (.tmp 50) (.tmp 55) rfl rfl b4 1 8 iN _ (.int .i64 (k : Int)) u15 [.int .i64 (k : Int)] _ _ underlying28 IN.out.1 IN.out.2.1 IN.out.2.2.1 IN.out.2.2.2 rfl (by omega) (by omega) (by rfl) rfl rfl one_i64 HO1.out HL5.out.2.2 (by have := HL5.out.1; unfold maxLen; omega) (by have := HL5.out.1; omega) (by rfl) (by rfl) ?_
       intro v5 w5 g5 hg5 O5 B5 P5 Q5
       have H5 := Hd (HX.out.2.1.push1 O5 P5 Q5)
       have HB5 := Hd B5
       clear hg5 O5 B5 P5 Q5)
    | fail)
   clear c79 HO1
   obtain ⟨st5, fr5, an5, tr5, F5, hB, hR⟩ := H5.out.md.box
   have HSN := Hd (show ∀ j u, (snC ⟨rs, st5, fr5⟩)[j]? = some u → w5.cell? ((⟨bm, 3, none⟩ : Addr).add j) = some u from hB.snap)
   have HSO := Hd (show (⟨rs, st5, fr5⟩ : SnD).ok from ⟨hB.len, hB.frl⟩)
   clear hB hR
   replace HL5 := Hd (And.intro HL5.out.2.1 (Nat.le_trans HL5.out.2.2 HB5.out.size))
   replace HW := Hd (HW.out.trans (HB5.out.mono (Nat.le_of_eq HB4.out.1)))
   have HO2 := Hd H5.out.ow2
   go_upto_region 13 with (first
    | (refine wpList_load_at rfl 86 (.tmp 60) rfl ⟨bm, 3, none⟩ (by rfl) (snC ⟨rs, st5, fr5⟩) _ HSN.out underlying86 rfl (by rw [snC_len HSO.out]; exact sizSn) ?_)
    | (refine wpList_push2 rfl rfl 29 86 (.tmp 61) (.tmp 57) (.tmp 62) rfl rfl b4 76 160 iS _ (.agg (snC ⟨rs, st5, fr5⟩).toArray) u16 (snC ⟨rs, st5, fr5⟩) _ _ underlying29 IS.out.1 IS.out.2.1 IS.out.2.2.1 IS.out.2.2.2 (by rfl) (by omega) (by omega) (by rfl) rfl (snC_len HSO.out) (snC_one _) HO2.out HL5.out.2 (by have := HL5.out.1; unfold maxLen; omega) (by have := HL5.out.1; omega) (by rfl) (by rfl) ?_
       intro v6 w6 g6 hg6 O6 B6 P6 Q6
       have H6 := Hd (H5.out.push2 O6 P6 Q6)
       have HB6 := Hd B6
       clear hg6 O6 B6 P6 Q6)
    | fail)
   clear HO2 HSN
   replace HW := Hd (HW.out.trans (HB6.out.mono (Nat.le_of_eq HB4.out.1)))
   clear HB5 HB6 HL5
   have HTF := Hd (show T.length < 1000 by have := HX.out.2.2.2.2.2.1; have := HX.out.2.2.2.2.1; omega)
   go_wp2_with fail
   refine (md_step H6.out.md H6.out.insG HXK.out.1 HXK.out.2 HTF.out (by omega)).mono ?_
   rintro e w7 (⟨kd', rfl, hkd, hkd0, hkd3, hG⟩ | ⟨i', rs', la', tr', G', rfl, hS, hG⟩)
   ·have H7 := Hd (H6.out.step hG)
    have HKD := Hd hkd
    replace HW := Hd (HW.out.trans (hG.chg.below (fun b z => by rw [HB4.out.1]; exact (H6.out.md.lowG z).1) HW.out.size))
    clear hG hkd
    have hlp := H7.out.post HNE.out
    obtain ⟨A1, c1, A2, c2, st7, fr7, an7, tr7, rfl, h1, rfl, h2, hp⟩ := hlp
    have HP := Hd hp
    simp only [zOut] at HP
    obtain ⟨qz, hqz⟩ : ∃ z, q ++ [((k : Int), rs)] = z := ⟨_, rfl⟩
    have HQZ := Hd hqz
    have hlq : (q.map (·.1) ++ [(k : Int)]).length = qz.length := by rw [← hqz]; simp
    have hls : (ss ++ [(⟨rs, st5, fr5⟩ : SnD)]).length = qz.length := by have := HLQ.out; rw [← hqz]; simp [this]
    rw [hls] at h2 ⊢
    rw [hlq] at h1 ⊢
    have HC := Hd (And.intro h1 h2)
    have HSS := Hd (show (ss ++ [(⟨rs, st5, fr5⟩ : SnD)]).map (·.regs) = qz.map (·.2) ∧ (∀ s ∈ ss ++ [(⟨rs, st5, fr5⟩ : SnD)], s.ok) ∧ (ss ++ [(⟨rs, st5, fr5⟩ : SnD)]).length = qz.length ∧ q.map (·.1) ++ [(k : Int)] = qz.map (·.1) from ⟨by rw [← hqz, List.map_append, List.map_append, HX.out.2.2.1]; rfl, fun s hs => by
     rcases List.mem_append.1 hs with hs | hs
     ·exact HX.out.2.2.2.1 s hs
     ·obtain rfl : s = ⟨rs, st5, fr5⟩ := by simpa using hs
      exact HSO.out, hls, by rw [← hqz, List.map_append]; rfl⟩)
    have HFN := Hd (show kd' = 1 → ([] : List (Int × List Int)) = [] ∧ ∃ i : Nat, ∃ x r, qz.getLast? = some ((i : Int), r) ∧ l[i]? = some x ∧ x.kind = 6 from fun e => ⟨rfl, k, x, rs, by rw [← hqz]; simp, HXK.out.1, HKD.out e⟩)
    have HLN := Hd (show (qz.length : Int) ≤ max 0 (fl : Int) by
     have := HX.out.2.2.2.2.1
     rw [← hqz]
     simp only [List.length_append, List.length_cons, List.length_nil]
     omega)
    have HPQ := Hd (show Path l (qz ++ []) T by rw [List.append_nil, ← hqz]; exact HX.out.1)
    obtain ⟨ssz, hssz⟩ : ∃ z, ss ++ [(⟨rs, st5, fr5⟩ : SnD)] = z := ⟨_, rfl⟩
    rw [hssz] at HP HSS
    have hqa := HSS.out.2.2.2
    rw [hqa] at HP
    clear hp h1 h2 hlq hls hqz hssz hqa
    have ck : w7.cell? ⟨bo, 0, none⟩ = some (.int .i8 0) := HP.out.ob.cell 0
    have fk := HP.out.ob.frozen 0
    go_upto_region 17 with fail
    replace HW := Hd (HW.out.trans (Chg.below (F := fun b => b = bo) (chg_setCell (c := ⟨bo, 0, none⟩) rfl (.int .i8 kd') rfl) (fun b e => by rw [e]; exact HBO1.out) HW.out.size))
    replace HP := Hd (HP.out.put 0 (.int .i8 kd'))
    simp only [List.set_cons_succ, List.set_cons_zero] at HP
    generalize w7.setCell ⟨bo, 0, none⟩ (.int .i8 kd') = w8 at HP HW ⊢
    clear ck fk
    have ck : w8.cell? ⟨bo, 0, none⟩ = some (.int .i8 kd') := HP.out.ob.cell 0
    cases hk1 : (kd' == 1)
    ·go_upto_region 19 with fail
     clear ck hk1
     have cm : w8.cell? ⟨bm, 2, none⟩ = some (.pointer (some ⟨bq, 0, none⟩)) := HP.out.mb.cell rfl
     go_wp2_with fail
     refine (context_any HP.out.mm).mono ?_
     rintro e wc ⟨Ac, nc, cc, rfl, hb⟩
     replace HP := Hd (HP.out.below hb)
     replace HW := Hd (HW.out.trans (hb.mono HW.out.size))
     clear hb cm
     have c2 : wc.cell? ⟨bo, 2, none⟩ = some (.slice none 0 0) := HP.out.ob.cell 2
     have f2 := HP.out.ob.frozen 2
     go_upto_region 20 with fail
     replace HW := Hd (HW.out.trans (Chg.below (F := fun b => b = bo) (chg_setCell (c := ⟨bo, 2, none⟩) rfl (.slice Ac nc cc) rfl) (fun b e => by rw [e]; exact HBO1.out) HW.out.size))
     replace HP := Hd (HP.out.put 2 (.slice Ac nc cc))
     simp only [List.set_cons_succ, List.set_cons_zero] at HP
     generalize wc.setCell ⟨bo, 2, none⟩ (.slice Ac nc cc) = wd at HP HW ⊢
     clear c2 f2
     obtain ⟨At, ct, qt, ht, _, _, _, _⟩ := HP.out.t
     subst ht
     have c2 : wd.cell? ⟨bo, 3, none⟩ = some (.slice none 0 0) := HP.out.ob.cell 3
     have f2 := HP.out.ob.frozen 3
     have ct81 : wd.cell? ⟨bm, 81, none⟩ = some (.slice At T.length ct) := HP.out.mb.cell (mdC_tr HP.out.mb.len HP.out.mb.frl)
     go_upto_region 21 with fail
     replace HW := Hd (HW.out.trans (Chg.below (F := fun b => b = bo) (chg_setCell (c := ⟨bo, 3, none⟩) rfl (.slice At T.length ct) rfl) (fun b e => by rw [e]; exact HBO1.out) HW.out.size))
     replace HP := Hd (HP.out.put 3 (.slice At T.length ct))
     simp only [List.set_cons_succ, List.set_cons_zero] at HP
     generalize wd.setCell ⟨bo, 3, none⟩ (.slice At T.length ct) = we at HP HW ⊢
     clear c2 f2 ct81
     have c2 : we.cell? ⟨bo, 4, none⟩ = some (.int .i64 0) := HP.out.ob.cell 4
     have f2 := HP.out.ob.frozen 4
     go_upto_region 22 with fail
     replace HW := Hd (HW.out.trans (Chg.below (F := fun b => b = bo) (chg_setCell (c := ⟨bo, 4, none⟩) rfl (.int .i64 ((m : Int) - 1)) rfl) (fun b e => by rw [e]; exact HBO1.out) HW.out.size))
     replace HP := Hd (HP.out.put 4 (.int .i64 ((m : Int) - 1)))
     simp only [List.set_cons_succ, List.set_cons_zero] at HP
     generalize we.setCell ⟨bo, 4, none⟩ (.int .i64 ((m : Int) - 1)) = wf at HP HW ⊢
     clear c2 f2
     have HOC := Hd (show ∀ u ∈ ([.int .i8 kd', .int .u64 0, .slice Ac nc cc, .slice At (T.length) ct, .int .i64 ((m : Int) - 1)] : List Value), u.oneCell' = true by
      intro u hu
      simp only [List.mem_cons, List.not_mem_nil, or_false] at hu
      rcases hu with rfl | rfl | rfl | rfl | rfl <;> rfl)
     refine wp_region_E (fun w' => Blk w' bo 34 ([.int .i8 kd', .int .u64 0, .slice Ac nc cc, .slice At (T.length) ct, .int .i64 ((m : Int) - 1)] : List Value).toArray) (fun _ => True) [] (by kernel_rfl) ?_
     replace HP := Hd (HP.out.below ((Below.refl _ _).drew))
     replace HW := Hd (HW.out.drew)
     have HT := Hd HP.out.ob
     generalize wf.drew = wg at HP HW HT ⊢
     refine em 0 (.slice A1 qz.length c1) (bT HT) ?_
     refine em 1 (.slice A2 qz.length c2) (bT HT) ?_
     refine eL false 2 ⟨bo, 0, none⟩ [.int .i8 kd', .int .u64 0, .slice Ac nc cc, .slice At (T.length) ct, .int .i64 ((m : Int) - 1)] (fun w hS => blk_list hS.1) underlying34 sizOut (bT HT) ?_
     refine eS 3 (.slice A1 qz.length c1) (bT HT) ?_
     refine eS 4 (.slice A2 qz.length c2) (bT HT) ?_
     refine E_one 5 (by kernel_rfl) (StepE.store_whole 5 34 _ _ b1 zOut [.int .i8 kd', .int .u64 0, .slice Ac nc cc, .slice At (T.length) ct, .int .i64 ((m : Int) - 1)] rfl (by rfl) HP.out.o1 (by rfl) (by rfl) sizOut (by rfl) HOC.out ?_)
     intro wz hBz hgz
     have HBZ := Hd hBz
     have HGZ := Hd hgz
     clear hBz hgz
     refine ⟨.both (HT.out.grown HGZ.out (fun e => HP.out.ng.2.2 (Option.some.inj e))) trivial, ?_⟩
     simp only [pt, pn, sL]
     replace HT := Hd (HT.out.grown HGZ.out (fun e => HP.out.ng.2.2 (Option.some.inj e)))
     refine eS 6 (.int .i64 0) (bT HT) ?_
     refine wpAnyE_done (by kernel_rfl) ?_ _
     go_wp2_with fail
     have hrl := run_loadVar_at (P := prog) wz ⟨b1, 0, none⟩ 34 ([.int .i8 kd', .int .u64 0, .slice Ac nc cc, .slice At (T.length) ct, .int .i64 ((m : Int) - 1)] : List Value) _ (blk_list HBZ.out) underlying34 rfl sizOut
     have hcz : Chg (fun b => b = b1) wg wz := Chg.of_grown HGZ.out (fun k e => .inl (Option.some.inj e).symm)
     have htz : TrAt wz (fun _ => False) (.slice At T.length ct) T := HP.out.t.chg hcz (fun b z => .inl (.inr z)) (fun b z => z.elim)
     have hr1 := (HP.out.r1.chg (G := fun _ => False) hcz (fun b z => .inl (.inr z)) (fun b z => z.elim)).reads
     have hr2 := (HP.out.r2.chg (G := fun _ => False) hcz (fun b z => .inl (.inr z)) (fun b z => z.elim)).reads
     refine bodyPost_ret (v := .tuple #[.slice A1 qz.length c1, .slice A2 qz.length c2, .agg ([.int .i8 kd', .int .u64 0, .slice Ac nc cc, .slice At (T.length) ct, .int .i64 ((m : Int) - 1)] : List Value).toArray, .int .i64 0]) ?_ rfl ⟨HW.out.trans (hcz.below (fun b e => by rw [e, ← HB1.out, HB4.out.1]; exact Nat.le_succ _) HW.out.size), .inr ⟨_, _, .slice At T.length ct, Ac, nc, cc, kd', 0, ((m : Int) - 1), qz, [], T, rfl, HCR.out, SnOk.mk2 HPQ.out (by simp) (fun e => ⟨rfl, (HFN.out e).2⟩) HLN.out HC.out HSS.out.1 HSS.out.2.1 HSS.out.2.2.1 hr1 hr2 htz⟩⟩
     simp [results, results7, Act.put, asAddr, Result.andThen, hrl]
    ·have c0 : w8.cell? ⟨bm, 3, none⟩ = some (.int .u64 (rs.getD 0 0)) := HP.out.mb.cell (mdC_reg HP.out.mb.len (k := 0) (by omega))
     have c1' : w8.cell? ⟨bo, 1, none⟩ = some (.int .u64 0) := HP.out.ob.cell 1
     have f1' := HP.out.ob.frozen 1
     obtain ⟨r0, hr0⟩ : ∃ z, rs.getD 0 0 = z := ⟨_, rfl⟩
     rw [hr0] at c0
     go_upto_region 19 with fail
     replace HW := Hd (HW.out.trans (Chg.below (F := fun b => b = bo) (chg_setCell (c := ⟨bo, 1, none⟩) rfl (.int .u64 r0) rfl) (fun b e => by rw [e]; exact HBO1.out) HW.out.size))
     replace HP := Hd (HP.out.put 1 (.int .u64 r0))
     simp only [List.set_cons_succ, List.set_cons_zero] at HP
     generalize w8.setCell ⟨bo, 1, none⟩ (.int .u64 r0) = w9 at HP HW ⊢
     clear ck hk1 c0 c1' f1' hr0
     have cm : w9.cell? ⟨bm, 2, none⟩ = some (.pointer (some ⟨bq, 0, none⟩)) := HP.out.mb.cell rfl
     go_wp2_with fail
     refine (context_any HP.out.mm).mono ?_
     rintro e wc ⟨Ac, nc, cc, rfl, hb⟩
     replace HP := Hd (HP.out.below hb)
     replace HW := Hd (HW.out.trans (hb.mono HW.out.size))
     clear hb cm
     have c2 : wc.cell? ⟨bo, 2, none⟩ = some (.slice none 0 0) := HP.out.ob.cell 2
     have f2 := HP.out.ob.frozen 2
     go_upto_region 20 with fail
     replace HW := Hd (HW.out.trans (Chg.below (F := fun b => b = bo) (chg_setCell (c := ⟨bo, 2, none⟩) rfl (.slice Ac nc cc) rfl) (fun b e => by rw [e]; exact HBO1.out) HW.out.size))
     replace HP := Hd (HP.out.put 2 (.slice Ac nc cc))
     simp only [List.set_cons_succ, List.set_cons_zero] at HP
     generalize wc.setCell ⟨bo, 2, none⟩ (.slice Ac nc cc) = wd at HP HW ⊢
     clear c2 f2
     obtain ⟨At, ct, qt, ht, _, _, _, _⟩ := HP.out.t
     subst ht
     have c2 : wd.cell? ⟨bo, 3, none⟩ = some (.slice none 0 0) := HP.out.ob.cell 3
     have f2 := HP.out.ob.frozen 3
     have ct81 : wd.cell? ⟨bm, 81, none⟩ = some (.slice At T.length ct) := HP.out.mb.cell (mdC_tr HP.out.mb.len HP.out.mb.frl)
     go_upto_region 21 with fail
     replace HW := Hd (HW.out.trans (Chg.below (F := fun b => b = bo) (chg_setCell (c := ⟨bo, 3, none⟩) rfl (.slice At T.length ct) rfl) (fun b e => by rw [e]; exact HBO1.out) HW.out.size))
     replace HP := Hd (HP.out.put 3 (.slice At T.length ct))
     simp only [List.set_cons_succ, List.set_cons_zero] at HP
     generalize wd.setCell ⟨bo, 3, none⟩ (.slice At T.length ct) = we at HP HW ⊢
     clear c2 f2 ct81
     have c2 : we.cell? ⟨bo, 4, none⟩ = some (.int .i64 0) := HP.out.ob.cell 4
     have f2 := HP.out.ob.frozen 4
     go_upto_region 22 with fail
     replace HW := Hd (HW.out.trans (Chg.below (F := fun b => b = bo) (chg_setCell (c := ⟨bo, 4, none⟩) rfl (.int .i64 ((m : Int) - 1)) rfl) (fun b e => by rw [e]; exact HBO1.out) HW.out.size))
     replace HP := Hd (HP.out.put 4 (.int .i64 ((m : Int) - 1)))
     simp only [List.set_cons_succ, List.set_cons_zero] at HP
     generalize we.setCell ⟨bo, 4, none⟩ (.int .i64 ((m : Int) - 1)) = wf at HP HW ⊢
     clear c2 f2
     have HOC := Hd (show ∀ u ∈ ([.int .i8 kd', .int .u64 r0, .slice Ac nc cc, .slice At (T.length) ct, .int .i64 ((m : Int) - 1)] : List Value), u.oneCell' = true by
      intro u hu
      simp only [List.mem_cons, List.not_mem_nil, or_false] at hu
      rcases hu with rfl | rfl | rfl | rfl | rfl <;> rfl)
     refine wp_region_E (fun w' => Blk w' bo 34 ([.int .i8 kd', .int .u64 r0, .slice Ac nc cc, .slice At (T.length) ct, .int .i64 ((m : Int) - 1)] : List Value).toArray) (fun _ => True) [] (by kernel_rfl) ?_
     replace HP := Hd (HP.out.below ((Below.refl _ _).drew))
     replace HW := Hd (HW.out.drew)
     have HT := Hd HP.out.ob
     generalize wf.drew = wg at HP HW HT ⊢
     refine em 0 (.slice A1 qz.length c1) (bT HT) ?_
     refine em 1 (.slice A2 qz.length c2) (bT HT) ?_
     refine eL false 2 ⟨bo, 0, none⟩ [.int .i8 kd', .int .u64 r0, .slice Ac nc cc, .slice At (T.length) ct, .int .i64 ((m : Int) - 1)] (fun w hS => blk_list hS.1) underlying34 sizOut (bT HT) ?_
     refine eS 3 (.slice A1 qz.length c1) (bT HT) ?_
     refine eS 4 (.slice A2 qz.length c2) (bT HT) ?_
     refine E_one 5 (by kernel_rfl) (StepE.store_whole 5 34 _ _ b1 zOut [.int .i8 kd', .int .u64 r0, .slice Ac nc cc, .slice At (T.length) ct, .int .i64 ((m : Int) - 1)] rfl (by rfl) HP.out.o1 (by rfl) (by rfl) sizOut (by rfl) HOC.out ?_)
     intro wz hBz hgz
     have HBZ := Hd hBz
     have HGZ := Hd hgz
     clear hBz hgz
     refine ⟨.both (HT.out.grown HGZ.out (fun e => HP.out.ng.2.2 (Option.some.inj e))) trivial, ?_⟩
     simp only [pt, pn, sL]
     replace HT := Hd (HT.out.grown HGZ.out (fun e => HP.out.ng.2.2 (Option.some.inj e)))
     refine eS 6 (.int .i64 0) (bT HT) ?_
     refine wpAnyE_done (by kernel_rfl) ?_ _
     go_wp2_with fail
     have hrl := run_loadVar_at (P := prog) wz ⟨b1, 0, none⟩ 34 ([.int .i8 kd', .int .u64 r0, .slice Ac nc cc, .slice At (T.length) ct, .int .i64 ((m : Int) - 1)] : List Value) _ (blk_list HBZ.out) underlying34 rfl sizOut
     have hcz : Chg (fun b => b = b1) wg wz := Chg.of_grown HGZ.out (fun k e => .inl (Option.some.inj e).symm)
     have htz : TrAt wz (fun _ => False) (.slice At T.length ct) T := HP.out.t.chg hcz (fun b z => .inl (.inr z)) (fun b z => z.elim)
     have hr1 := (HP.out.r1.chg (G := fun _ => False) hcz (fun b z => .inl (.inr z)) (fun b z => z.elim)).reads
     have hr2 := (HP.out.r2.chg (G := fun _ => False) hcz (fun b z => .inl (.inr z)) (fun b z => z.elim)).reads
     refine bodyPost_ret (v := .tuple #[.slice A1 qz.length c1, .slice A2 qz.length c2, .agg ([.int .i8 kd', .int .u64 r0, .slice Ac nc cc, .slice At (T.length) ct, .int .i64 ((m : Int) - 1)] : List Value).toArray, .int .i64 0]) ?_ rfl ⟨HW.out.trans (hcz.below (fun b e => by rw [e, ← HB1.out, HB4.out.1]; exact Nat.le_succ _) HW.out.size), .inr ⟨_, _, .slice At T.length ct, Ac, nc, cc, kd', r0, ((m : Int) - 1), qz, [], T, rfl, HCR.out, SnOk.mk2 HPQ.out (by simp) (fun e => ⟨rfl, (HFN.out e).2⟩) HLN.out HC.out HSS.out.1 HSS.out.2.1 HSS.out.2.2.1 hr1 hr2 htz⟩⟩
     simp [results, results7, Act.put, asAddr, Result.andThen, hrl]
   ·obtain ⟨k', y, rfl, hy⟩ := step_in HPF.out HXK.out.1 hS
    have H7 := Hd (H6.out.step hG)
    have HPA := Hd (HX.out.1.snoc HXK.out.1 hS hy H7.out.md.reg)
    have HTR := Hd (show (T ++ tr').length ≤ (q ++ [((k : Int), rs)]).length by
     have h1 := mstep_tr hS
     have h2 := HX.out.2.2.2.2.2.1
     simp only [List.length_append, List.length_cons, List.length_nil]
     omega)
    replace HW := Hd (HW.out.trans (hG.chg.below (fun b z => by rw [HB4.out.1]; exact (H6.out.md.lowG z).1) HW.out.size))
    clear hG hS hy
    go_wp2_with fail
    go_roundw
    case measure => simp [intOf]; omega
    case rel =>
     refine ⟨m - 1, k', q ++ [((k : Int), rs)], T ++ tr', rs', la', G', ss ++ [⟨rs, st5, fr5⟩], by congr 1; omega, Hd ⟨HPA.out, ?_, ?_, ?_, ?_, HTR.out, HW.out⟩⟩
     ·rw [List.map_append]; exact H7.out
     ·rw [List.map_append, List.map_append, HX.out.2.2.1]; rfl
     ·intro s hs
      rcases List.mem_append.1 hs with hs | hs
      ·exact HX.out.2.2.2.1 s hs
      ·obtain rfl : s = ⟨rs, st5, fr5⟩ := by simpa using hs
       exact HSO.out
     ·have := HX.out.2.2.2.2.1
      simp only [List.length_append, List.length_cons, List.length_nil]
      omega
  ·obtain rfl : m = 0 := by omega
   have hlp := HX.out.2.1.post HNE.out
   obtain ⟨A1, c1, A2, c2, st, fr, an, tr, rfl, h1, rfl, h2, hp⟩ := hlp
   have HP := Hd hp
   simp only [zOut] at HP
   have HC := Hd (And.intro h1 h2)
   have hlq : (q.map (·.1)).length = q.length := List.length_map _
   have hls := HLQ.out
   rw [hls] at HC ⊢
   rw [hlq] at HC ⊢
   have ck : wr.cell? ⟨bo, 0, none⟩ = some (.int .i8 0) := HP.out.ob.cell 0
   clear hp h1 h2 hlq hls
   go_upto_region 19 with fail
   clear ck
   have cm : wr.cell? ⟨bm, 2, none⟩ = some (.pointer (some ⟨bq, 0, none⟩)) := HP.out.mb.cell rfl
   go_wp2_with fail
   refine (context_any HP.out.mm).mono ?_
   rintro e wc ⟨Ac, nc, cc, rfl, hb⟩
   replace HP := Hd (HP.out.below hb)
   replace HW := Hd (HW.out.trans (hb.mono HW.out.size))
   clear hb cm
   have c2 : wc.cell? ⟨bo, 2, none⟩ = some (.slice none 0 0) := HP.out.ob.cell 2
   have f2 := HP.out.ob.frozen 2
   go_upto_region 20 with fail
   replace HW := Hd (HW.out.trans (Chg.below (F := fun b => b = bo) (chg_setCell (c := ⟨bo, 2, none⟩) rfl (.slice Ac nc cc) rfl) (fun b e => by rw [e]; exact HBO1.out) HW.out.size))
   replace HP := Hd (HP.out.put 2 (.slice Ac nc cc))
   simp only [List.set_cons_succ, List.set_cons_zero] at HP
   generalize wc.setCell ⟨bo, 2, none⟩ (.slice Ac nc cc) = wd at HP HW ⊢
   clear c2 f2
   obtain ⟨At, ct, qt, ht, _, _, _, _⟩ := HP.out.t
   subst ht
   have c2 : wd.cell? ⟨bo, 3, none⟩ = some (.slice none 0 0) := HP.out.ob.cell 3
   have f2 := HP.out.ob.frozen 3
   have ct81 : wd.cell? ⟨bm, 81, none⟩ = some (.slice At T.length ct) := HP.out.mb.cell (mdC_tr HP.out.mb.len HP.out.mb.frl)
   go_upto_region 21 with fail
   replace HW := Hd (HW.out.trans (Chg.below (F := fun b => b = bo) (chg_setCell (c := ⟨bo, 3, none⟩) rfl (.slice At T.length ct) rfl) (fun b e => by rw [e]; exact HBO1.out) HW.out.size))
   replace HP := Hd (HP.out.put 3 (.slice At T.length ct))
   simp only [List.set_cons_succ, List.set_cons_zero] at HP
   generalize wd.setCell ⟨bo, 3, none⟩ (.slice At T.length ct) = we at HP HW ⊢
   clear c2 f2 ct81
   have c2 : we.cell? ⟨bo, 4, none⟩ = some (.int .i64 0) := HP.out.ob.cell 4
   have f2 := HP.out.ob.frozen 4
   go_upto_region 22 with fail
   replace HW := Hd (HW.out.trans (Chg.below (F := fun b => b = bo) (chg_setCell (c := ⟨bo, 4, none⟩) rfl (.int .i64 0) rfl) (fun b e => by rw [e]; exact HBO1.out) HW.out.size))
   replace HP := Hd (HP.out.put 4 (.int .i64 0))
   simp only [List.set_cons_succ, List.set_cons_zero] at HP
   generalize we.setCell ⟨bo, 4, none⟩ (.int .i64 0) = wf at HP HW ⊢
   clear c2 f2
   have HOC := Hd (show ∀ u ∈ ([.int .i8 0, .int .u64 0, .slice Ac nc cc, .slice At (T.length) ct, .int .i64 0] : List Value), u.oneCell' = true by
    intro u hu
    simp only [List.mem_cons, List.not_mem_nil, or_false] at hu
    rcases hu with rfl | rfl | rfl | rfl | rfl <;> rfl)
   refine wp_region_E (fun w' => Blk w' bo 34 ([.int .i8 0, .int .u64 0, .slice Ac nc cc, .slice At (T.length) ct, .int .i64 0] : List Value).toArray) (fun _ => True) [] (by kernel_rfl) ?_
   replace HP := Hd (HP.out.below ((Below.refl _ _).drew))
   replace HW := Hd (HW.out.drew)
   have HT := Hd HP.out.ob
   generalize wf.drew = wg at HP HW HT ⊢
   refine em 0 (.slice A1 q.length c1) (bT HT) ?_
   refine em 1 (.slice A2 q.length c2) (bT HT) ?_
   refine eL false 2 ⟨bo, 0, none⟩ [.int .i8 0, .int .u64 0, .slice Ac nc cc, .slice At (T.length) ct, .int .i64 0] (fun w hS => blk_list hS.1) underlying34 sizOut (bT HT) ?_
   refine eS 3 (.slice A1 q.length c1) (bT HT) ?_
   refine eS 4 (.slice A2 q.length c2) (bT HT) ?_
   refine E_one 5 (by kernel_rfl) (StepE.store_whole 5 34 _ _ b1 zOut [.int .i8 0, .int .u64 0, .slice Ac nc cc, .slice At (T.length) ct, .int .i64 0] rfl (by rfl) HP.out.o1 (by rfl) (by rfl) sizOut (by rfl) HOC.out ?_)
   intro wz hBz hgz
   have HBZ := Hd hBz
   have HGZ := Hd hgz
   clear hBz hgz
   refine ⟨.both (HT.out.grown HGZ.out (fun e => HP.out.ng.2.2 (Option.some.inj e))) trivial, ?_⟩
   simp only [pt, pn, sL]
   replace HT := Hd (HT.out.grown HGZ.out (fun e => HP.out.ng.2.2 (Option.some.inj e)))
   refine eS 6 (.int .i64 0) (bT HT) ?_
   refine wpAnyE_done (by kernel_rfl) ?_ _
   go_wp2_with fail
   have hrl := run_loadVar_at (P := prog) wz ⟨b1, 0, none⟩ 34 ([.int .i8 0, .int .u64 0, .slice Ac nc cc, .slice At (T.length) ct, .int .i64 0] : List Value) _ (blk_list HBZ.out) underlying34 rfl sizOut
   have hcz : Chg (fun b => b = b1) wg wz := Chg.of_grown HGZ.out (fun k e => .inl (Option.some.inj e).symm)
   have htz : TrAt wz (fun _ => False) (.slice At T.length ct) T := HP.out.t.chg hcz (fun b z => .inl (.inr z)) (fun b z => z.elim)
   have hr1 := (HP.out.r1.chg (G := fun _ => False) hcz (fun b z => .inl (.inr z)) (fun b z => z.elim)).reads
   have hr2 := (HP.out.r2.chg (G := fun _ => False) hcz (fun b z => .inl (.inr z)) (fun b z => z.elim)).reads
   refine bodyPost_ret (v := .tuple #[.slice A1 q.length c1, .slice A2 q.length c2, .agg ([.int .i8 0, .int .u64 0, .slice Ac nc cc, .slice At (T.length) ct, .int .i64 0] : List Value).toArray, .int .i64 0]) ?_ rfl ⟨HW.out.trans (hcz.below (fun b e => by rw [e, ← HB1.out, HB4.out.1]; exact Nat.le_succ _) HW.out.size), .inr ⟨_, _, .slice At T.length ct, Ac, nc, cc, 0, 0, 0, q, [((k : Int), rs)], T, rfl, HCR.out, SnOk.mk2 HX.out.1 (by simp) (fun e => absurd e (by decide)) (by have := HX.out.2.2.2.2.1; omega) HC.out HX.out.2.2.1 HX.out.2.2.2.1 HLQ.out hr1 hr2 htz⟩⟩
   simp [results, results7, Act.put, asAddr, Result.andThen, hrl]
end Go.Proofs.YtepagfkkjlbipaaGreat
