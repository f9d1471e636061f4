/-
  SymbcSound: a model that goes through a block does what its terms tell: the walk. Conditions: those written in each statement.
-/
import Derived.Test.YtepagfkkjlbipaaGreatTh
import Derived.Deep.LoopGhost
import Derived.Test.YtepagfkkjlbipaaGreatMo
import Derived.Test.YtepagfkkjlbipaaGreatLy
import Derived.Test.YtepagfkkjlbipaaGreatWk
set_option linter.unusedVariables false
set_option linter.unusedSimpArgs false
set_option maxHeartbeats 64000000
set_option maxRecDepth 100000
namespace Go.Proofs.YtepagfkkjlbipaaGreat
open Tryz
open Go.RowKit
theorem sizPg2 : (prog.info? 24).map (·.size) = some 2 := by kernel_rfl
theorem sizInt : (prog.info? 3).map (·.size) = some 1 := by kernel_rfl
def pgD (c : Int) (adp : Addr) (n cap : Nat) : List Value := [.int .i64 c, .slice (some adp) n cap]
def ouC (kd r0 : Int) (Ac : Option Addr) (nc cc : Nat) (At : Option Addr) (nT ct : Nat) (left : Int) : List Value := [.int .i8 kd, .int .u64 r0, .slice Ac nc cc, .slice At nT ct, .int .i64 left]
theorem ouC_one {kd r0 : Int} {Ac : Option Addr} {nc cc : Nat} {At : Option Addr} {nT ct : Nat} {left : Int} : ∀ u ∈ ouC kd r0 Ac nc cc At nT ct left, u.oneCell' = true := by
 intro u hu
 unfold ouC at hu
 simp only [List.mem_cons, List.not_mem_nil, or_false] at hu
 rcases hu with rfl | rfl | rfl | rfl | rfl <;> rfl
theorem fit5 {p q r s y : Bool} (h : (p && (q && (r || s))) = y) : (Hid (p = false) ∧ y = false) ∨ (Hid (p = true) ∧ Hid (q = false) ∧ y = false) ∨ (Hid (p = true) ∧ Hid (q = true) ∧ Hid (r = true) ∧ y = true) ∨
  (Hid (p = true) ∧ Hid (q = true) ∧ Hid (r = false) ∧ Hid (s = true) ∧ y = true) ∨ (Hid (p = true) ∧ Hid (q = true) ∧ Hid (r = false) ∧ Hid (s = false) ∧ y = false) := by
 unfold Hid
 subst h
 cases p <;> cases q <;> cases r <;> cases s <;> simp
theorem sound_walk (c : Int) (A : Option Addr) (n cap : Nat) (l : List ID) (Ax : Option Addr) (nx cx : Nat) (lx : List Int) (AA : Option Addr) (m0 ca : Nat) (la : List Int) (fuel : Int) (w : World) (hh : InsAt w w.heap.size A n l) (hc : n ≤ cap) (hm : n < 9223372036854775808)
  (hx : Reads w w.heap.size 1 Ax nx (u8C lx)) (hlx : lx.length = nx) (hnx0 : nx ≤ cx) (hu : ∀ x ∈ lx, U8 x) (ha : Reads w w.heap.size 1 AA m0 (la.map (Value.int .u64))) (hla : la.length = m0) (hca : m0 ≤ ca ∧ m0 < 9223372036854775808) (hau : ∀ v ∈ la, U64 v) (hf : I64 fuel) :
  Calls prog 3 #[.agg #[.int .i64 c, .slice A n cap], .slice Ax nx cx, .slice AA m0 ca, .int .i64 fuel] w fun e w' => e = .returned (.bool true) ∧ Below w.heap.size w w' := by
 have hnx : nx ≤ cx ∧ (nx ≤ 300 → nx < 9223372036854775808) := ⟨hnx0, fun h => by omega⟩
 clear hnx0
 obtain ⟨w1, hw1⟩ : ∃ v, w.alloc (.cells #[.int .i64 c, .slice A n cap] 24) = v := ⟨_, rfl⟩
 have hb0 : Below w.heap.size w w1 := by rw [← hw1]; exact (Below.refl _ w).alloc (Nat.le_refl _) _
 have HBP := Hd (show Blk w1 w.heap.size 24 #[.int .i64 c, .slice A n cap] by rw [← hw1]; exact Blk.new w 24 #[.int .i64 c, .slice A n cap])
 have HI := Hd (hh.up hb0 hb0.size)
 have HX := Hd (show Reads w1 w1.heap.size 1 Ax nx (u8C lx) from (hx.below hb0).more hb0.size)
 have HA := Hd (show Reads w1 w1.heap.size 1 AA la.length (la.map (Value.int .u64)) from by rw [hla]; exact (ha.below hb0).more hb0.size)
 have HW := Hd hb0
 have HN := Hd (And.intro hc hm)
 have HU := Hd (And.intro hlx (And.intro hnx (And.intro hu (And.intro hla (And.intro hca (And.intro hau hf))))))
 obtain ⟨b4, hb4⟩ : ∃ k, w.heap.size = k := ⟨_, rfl⟩
 rw [hb4] at HBP
 have c40 : w1.cell? ⟨b4, 0, none⟩ = some (.int .i64 c) := HBP.out.cell 0
 have c41 : w1.cell? ⟨b4, 1, none⟩ = some (.slice A n cap) := HBP.out.cell 1
 clear hh hx hlx hu ha hla hau hc hm hb0
 cases hg : decide (100 < n)
 rotate_left
 ·have h1 : 100 < n := by simpa using hg
  go_enter func3, ntmps3
  go_wp2_with fail
  refine (wakes_any _).mono ?_
  rintro e w2 ⟨rfl, hb⟩
  have HQ := Hd hb
  clear hb
  go_wp2
  go_ret
  exact ⟨rfl, HW.out.trans (HQ.out.mono HW.out.size)⟩
 have hn100 : n ≤ 100 := by simpa using hg
 clear hg
 cases hg : decide (300 < nx)
 rotate_left
 ·have h1 : 300 < nx := by simpa using hg
  go_enter func3, ntmps3
  go_wp2_with fail
  refine (wakes_any _).mono ?_
  rintro e w2 ⟨rfl, hb⟩
  have HQ := Hd hb
  clear hb
  go_wp2
  go_ret
  exact ⟨rfl, HW.out.trans (HQ.out.mono HW.out.size)⟩
 have hn300 : nx ≤ 300 := by simpa using hg
 clear hg
 cases hg : decide (200 < m0)
 rotate_left
 ·have h1 : 200 < m0 := by simpa using hg
  go_enter func3, ntmps3
  go_wp2_with fail
  refine (wakes_any _).mono ?_
  rintro e w2 ⟨rfl, hb⟩
  have HQ := Hd hb
  clear hb
  go_wp2
  go_ret
  exact ⟨rfl, HW.out.trans (HQ.out.mono HW.out.size)⟩
 have hn200 : m0 ≤ 200 := by simpa using hg
 clear hg
 cases hg : decide (500 < fuel)
 rotate_left
 ·have h1 : 500 < fuel := by simpa using hg
  go_enter func3, ntmps3
  go_wp2_with fail
  refine (wakes_any _).mono ?_
  rintro e w2 ⟨rfl, hb⟩
  have HQ := Hd hb
  clear hb
  go_wp2
  go_ret
  exact ⟨rfl, HW.out.trans (HQ.out.mono HW.out.size)⟩
 have hf500 : fuel ≤ 500 := by simpa using hg
 clear hg hnx hca
 go_enter func3, ntmps3
 go_wp2_with fail
 rw [← HU.out.2.2.2.1]
 refine (sn_any c A n cap l Ax nx cx lx AA ca la fuel _ HI.out HN.out.1 HN.out.2 HX.out HU.out.1 ⟨HU.out.2.1.1, HU.out.2.1.2 hn300⟩ HU.out.2.2.1 HA.out (by have := HU.out.2.2.2.1; have := HU.out.2.2.2.2.1; omega) HU.out.2.2.2.2.2.1 HU.out.2.2.2.2.2.2 hf500).mono ?_
 rintro e w2 ⟨hb, hres⟩
 replace HBP := Hd (HBP.out.below hb HBP.out.lt)
 replace HI := Hd (HI.out.up hb hb.size)
 replace HW := Hd (HW.out.trans (hb.mono HW.out.size))
 clear hb c40 c41 hw1 HX HA
 rcases hres with ⟨er, rfl, her⟩ | ⟨atv, snv, trv, Ac, nc, cc, kd, r0, left, q, rest, T, rfl, hck, hS⟩
 ·have HER := Hd her
  have her2 := her
  clear her
  go_upto_region 4 with (first
   | (refine wpList_store_new rfl 34 (.tmp 11) (.tmp 47) rfl _ zOut (.agg zOut.toArray) (by rfl) (by rfl) rfl sizOut (by rfl) zOut_one ?_
      intro w3 Gz Lz Zz
      have HL11 := Hd Lz
      clear Gz Lz Zz)
   | fail)
  replace HBP := Hd (HBP.out.below HL11.out HBP.out.lt)
  replace HI := Hd (HI.out.up HL11.out HL11.out.size)
  replace HW := Hd (HW.out.trans (HL11.out.mono HW.out.size))
  clear HL11
  have c40 : w3.cell? ⟨b4, 0, none⟩ = some (.int .i64 c) := HBP.out.cell 0
  have c41 : w3.cell? ⟨b4, 1, none⟩ = some (.slice A n cap) := HBP.out.cell 1
  go_wp2_with fail
  refine (drun_any c A n cap l _ HI.out HN.out.1 HN.out.2).mono ?_
  rintro e w4 ⟨A4, k4, rfl, _, _, hb⟩
  replace HW := Hd (HW.out.trans (hb.mono HW.out.size))
  clear hb c40 c41
  go_wp2_with fail
  refine (wakes_any _).mono ?_
  rintro e w5 ⟨rfl, hb⟩
  have HQ := Hd hb
  clear hb
  go_wp2
  go_ret
  exact ⟨rfl, HW.out.trans (HQ.out.mono HW.out.size)⟩
 obtain ⟨At, ct, qt, rfl, hTt⟩ := hS.tr
 obtain ⟨A1, c1, rfl, h1, hr1⟩ := hS.at_
 obtain ⟨A2, c2, ss, rfl, h2, hss, hok, hr2⟩ := hS.sn
 have HTT := Hd hS.tr
 have HS := Hd (And.intro hS.path (And.intro hS.few (And.intro hS.fin (And.intro hS.len (And.intro hss hok)))))
 have HR1 := Hd hr1
 have HR2 := Hd hr2
 have HC := Hd (And.intro h1 h2)
 have HCK := Hd hck
 obtain ⟨nT, hnT⟩ : ∃ z, T.length = z := ⟨_, rfl⟩
 obtain ⟨m, hqm⟩ : ∃ z, q.length = z := ⟨_, rfl⟩
 rw [hnT] at HTT ⊢
 rw [hqm] at HR1 HR2 HC ⊢
 have HNT := Hd hnT
 have HQM := Hd hqm
 clear hTt hS h1 h2 hss hok hr1 hr2 hck hnT hqm
 go_upto_region 4 with (first
  | (refine wpList_store_new rfl 34 (.tmp 11) (.tmp 47) rfl _ (ouC kd r0 Ac nc cc At nT ct left) (.agg (ouC kd r0 Ac nc cc At nT ct left).toArray) (by rfl) (by rfl) rfl sizOut (by rfl) ouC_one ?_
     intro w3 Gz Lz Zz
     have HB11 := Hd Gz
     have HL11 := Hd Lz
     clear Gz Lz Zz)
  | fail)
 obtain ⟨b11, hb11⟩ : ∃ z, w2.heap.size = z := ⟨_, rfl⟩
 rw [hb11] at HB11 ⊢
 clear hb11
 replace HBP := Hd (HBP.out.below HL11.out HBP.out.lt)
 replace HI := Hd (HI.out.up HL11.out HL11.out.size)
 replace HR1 := Hd ((HR1.out.below HL11.out).more HL11.out.size)
 replace HR2 := Hd ((HR2.out.below HL11.out).more HL11.out.size)
 replace HTT := Hd (HTT.out.chg (H := fun _ => False) (G := fun _ => False) (Chg.of_below HL11.out) (fun b z => z.elim) (fun b z => z.elim))
 replace HW := Hd (HW.out.trans (HL11.out.mono HW.out.size))
 clear HL11
 have c40 : w3.cell? ⟨b4, 0, none⟩ = some (.int .i64 c) := HBP.out.cell 0
 have c41 : w3.cell? ⟨b4, 1, none⟩ = some (.slice A n cap) := HBP.out.cell 1
 go_wp2_with fail
 refine (drun_any c A n cap l _ HI.out HN.out.1 HN.out.2).mono ?_
 rintro e w4 ⟨Ab, cb, rfl, hcb, hbk, hb⟩
 have hbl : blkR c l = blkL l := by unfold blkR; rw [if_pos HCK.out]
 rw [hbl] at hcb hbk ⊢
 rw [HCK.out]
 replace HBP := Hd (HBP.out.below hb HBP.out.lt)
 replace HB11 := Hd (HB11.out.below hb HB11.out.lt)
 replace HI := Hd (HI.out.up hb hb.size)
 replace HR1 := Hd ((HR1.out.below hb).more hb.size)
 replace HR2 := Hd ((HR2.out.below hb).more hb.size)
 replace HTT := Hd (HTT.out.chg (H := fun _ => False) (G := fun _ => False) (Chg.of_below hb) (fun b z => z.elim) (fun b z => z.elim))
 replace HW := Hd (HW.out.trans (hb.mono HW.out.size))
 have HBK := Hd hbk.all
 obtain ⟨nb, hnb⟩ : ∃ z, (blkL l).length = z := ⟨_, rfl⟩
 rw [hnb] at HBK ⊢
 have HNB := Hd hnb
 have HPF := Hd (PrF.of HCK.out)
 clear hb hbl hcb hbk hnb c40 c41
 have hm5 : m ≤ 500 := by have := HS.out.2.2.2.1; have := HQM.out; omega
 have HM5 := Hd hm5
 go_wp2_with fail
 have HSO0 := Hd (show SoL l (q ++ rest) T 0 0 from ⟨Nat.zero_le _, fun _ => by rw [List.drop_zero, List.drop_zero]; exact HS.out.1⟩)
 have HTL := Hd (show T.length ≤ 501 from Nat.le_trans (path_tr HS.out.1) (by have h1 := HS.out.2.1; have h2 := HQM.out; have h3 := HM5.out; rw [List.length_append]; omega))
 go_loopg [15, 16, 17, 18, 19] m (fun k cv iv _ _ _ wr => ∃ cl i : Nat, cv = .int .i64 (cl : Int) ∧ iv = .int .i64 (i : Int) ∧ i + k = m ∧ Hid (SoL l (q ++ rest) T i cl ∧ Below w4.heap.size w4 wr))
 case atStart => exact ⟨0, 0, rfl, rfl, by omega, HSO0.out, Below.refl _ _⟩
 case round =>
  obtain ⟨cl, i, rfl, rfl, him, HX⟩ := hrel
  rename World => wr
  have HSO := Hd HX.out.1
  have HWr := Hd HX.out.2
  have HGK := Hd him
  clear HX him
  by_cases hlt : i < m
  ·obtain ⟨p, hp⟩ : ∃ y, q[i]? = some y := ⟨_, List.getElem?_eq_getElem (by have := HQM.out; omega)⟩
   have hpQ : (q ++ rest)[i]? = some p := by rw [List.getElem?_append_left (List.getElem?_eq_some_iff.1 hp).1]; exact hp
   have hiQ : i < (q ++ rest).length := (List.getElem?_eq_some_iff.1 hpQ).1
   have hd := HSO.out.path hiQ
   rw [List.drop_eq_getElem_cons hiQ, (List.getElem?_eq_some_iff.1 hpQ).2] at hd
   obtain ⟨pc, xi, hpc, hxi, hro⟩ := hd.head
   have HIQ := Hd (And.intro hiQ (And.intro hpQ (And.intro hpc hxi)))
   have HP := Hd hp
   have HCF := Hd (show cl < 1000 by have := HSO.out.few; have := HTL.out; omega)
   have HIM := Hd hlt
   obtain ⟨b, f, z, x, hof, hB⟩ := of_blk HPF.out (List.getElem?_eq_some_iff.1 hxi).1
   have HB := Hd hB
   have HBN := Hd (show b < nb by have := (List.getElem?_eq_some_iff.1 hB.at_).1; have := HNB.out; omega)
   have HPC := Hd (show pc < n by have := HI.out.1; have := (List.getElem?_eq_some_iff.1 hxi).1; omega)
   obtain ⟨ada, u1, rfl, _, hu1, hc1⟩ := HR1.out.at_ hlt
   have KA4 := Hd (show w4.cell? (ada.add i) = some (.int .i64 (pc : Int)) by
    rw [List.getElem?_map, hp] at hu1
    have h := Option.some.inj hu1
    rw [hc1, ← h]
    show some (Value.int .i64 p.1) = _
    rw [hpc])
   obtain ⟨s0, hs0⟩ : ∃ y, ss[i]? = some y := ⟨_, List.getElem?_eq_getElem (by have := congrArg List.length HS.out.2.2.2.2.1; simp at this; have := HQM.out; omega)⟩
   obtain ⟨ads, rfl, _, _⟩ := sn_cell HR2.out HS.out.2.2.2.2.2 hs0 hlt
   obtain ⟨adp, x2, rfl, _, hx2, _, hc2⟩ := HI.out.at_ HPC.out
   obtain rfl : x2 = xi := by rw [hxi] at hx2; exact (Option.some.inj hx2).symm
   rename ID => xi
   have KI4 := Hd (show w4.cell? (adp.add (pc * 9)) = some (.int .i8 xi.kind) by
    have h := hc2 0 _ rfl
    rwa [add_of_add, Nat.add_zero] at h)
   obtain ⟨adb, bx, sx, rfl, _, hbx, _, _, hc3⟩ := HBK.out.at_ HBN.out
   obtain rfl : bx = ⟨(f : Int), (z : Int) + 1, nextOf (begB l) b z x⟩ := by rw [hB.at_] at hbx; exact (Option.some.inj hbx).symm
   have KF4 := Hd (show w4.cell? (adb.add (b * 3)) = some (.int .i64 (f : Int)) by
    have h := hc3 0 _ rfl
    rwa [add_of_add, Nat.add_zero] at h)
   have KT4 := Hd (show w4.cell? ⟨(adb.add (b * 3)).block, (adb.add (b * 3)).off + 1, none⟩ = some (.int .i64 ((z : Int) + 1)) by
    have h := hc3 1 _ rfl
    rwa [add_one_eq] at h)
   have KP4 := Hd (show w4.cell? ⟨b4, 1, none⟩ = some (.slice (some adp) n cap) from HBP.out.cell 1)
   have KK4 := Hd (show w4.cell? ⟨b11, 0, none⟩ = some (.int .i8 kd) from HB11.out.cell 0)
   have KTR4 := Hd (show w4.cell? ⟨b11, 3, none⟩ = some (.slice At nT ct) from HB11.out.cell 3)
   obtain ⟨sz, hsz⟩ : ∃ y, z + 1 - f = y := ⟨_, rfl⟩
   have HSZ := Hd (show (z : Int) + 1 - (f : Int) = (sz : Int) ∧ sz ≤ 64 ∧ 0 < sz ∧ z < 64 ∧ f < 64 by have h2 := hB.le; have h3 := hB.in_; have h4 := HPF.out.le; omega)
   have hka : wr.cell? (ada.add i) = some (.int .i64 (pc : Int)) := bcell HWr.out KA4.out
   clear hp hpQ hiQ hd hpc hxi hro hu1 hc1 hs0 hx2 hc2 hbx hc3 hsz hB
   go_upto_region 11 with fail
   go_wp2_with fail
   refine (dof_any (some adb) nb cb wr.heap.size (blkL l) (pc : Int) wr (HBK.out.up HWr.out HWr.out.size) (by have := HNB.out; have := blkL_few HPF.out; omega)).mono ?_
   rintro e w5 ⟨rfl, rfl⟩
   rw [hof]
   clear hof hka
   have KF := Hd (bcell HWr.out KF4.out)
   have KT := Hd (bcell HWr.out KT4.out)
   go_upto_region 12 with fail
   refine wp_region_E (fun w' => Below wr.heap.size wr w') (fun _ => True) [] (by kernel_rfl) ?_
   have HT := Hd ((Below.refl wr.heap.size wr).drew)
   generalize wr.drew = wa at HT ⊢
   refine em 0 (.slice (some adb) nb cb) (bT HT) ?_
   refine em 1 (.int .i64 (b : Int)) (bT HT) ?_
   refine ej 2 (.slice (some adb) nb cb) (.int .i64 (b : Int)) (.pointer (some (adb.add (b * 3)))) (run_ixbk HBN.out) (bT HT) ?_
   refine E_field 3 (some 79) 44 _ 1 (adb.add (b * 3)) ⟨(adb.add (b * 3)).block, (adb.add (b * 3)).off + 1, none⟩ rfl (by kernel_rfl) (by rfl) (fun _ _ _ h => h) (by rfl) (fun w => by go_simp) (bT HT) ?_
   simp only [pt, pn, sL]
   refine el false 4 ⟨(adb.add (b * 3)).block, (adb.add (b * 3)).off + 1, none⟩ (.int .i64 ((z : Int) + 1)) underlying3 (fun w hS => (bcell hS.1 KT.out)) (bT HT) ?_
   refine em 5 (.slice (some adb) nb cb) (bT HT) ?_
   refine em 6 (.int .i64 (b : Int)) (bT HT) ?_
   refine ej 7 (.slice (some adb) nb cb) (.int .i64 (b : Int)) (.pointer (some (adb.add (b * 3)))) (run_ixbk HBN.out) (bT HT) ?_
   refine E_field 8 (some 84) 44 _ 0 (adb.add (b * 3)) (adb.add (b * 3)) rfl (by kernel_rfl) (by rfl) (fun _ _ _ h => h) (by rfl) (fun w => by go_simp) (bT HT) ?_
   simp only [pt, pn, sL]
   refine el false 9 (adb.add (b * 3)) (.int .i64 (f : Int)) underlying3 (fun w hS => (bcell hS.1 KF.out)) (bT HT) ?_
   refine eb 10 (.int .i64 (sz : Int)) rfl (fun o e w _ => by unfold execOp; simp only [e]; go_simp; all_goals (have := HSZ.out; rw [wrap_in (by omega)]; try (congr 1; omega))) (bT HT) ?_
   refine eS 11 (.int .i64 (sz : Int)) (bT HT) ?_
   refine wpAnyE_done (by kernel_rfl) ?_ _
   replace HWr := Hd (HWr.out.trans (HT.out.mono HWr.out.size))
   clear HT KF KT
   obtain ⟨FIT, hFIT⟩ : ∃ y : Bool, (((pc : Int) == (f : Int)) && (decide ((i : Int) + (sz : Int) ≤ (m : Int)) && (decide ((i : Int) + (sz : Int) < (m : Int)) || (kd == 1)))) = y := ⟨_, rfl⟩
   have HFT := Hd hFIT
   clear hFIT
   have HWA := Hd HWr.out
   clear HWr
   go_upto_region 13 with fail
   go_cut [117] from 61 to 151 (fun v wc => v = .bool FIT ∧ Below wa.heap.size wa wc)
   case first => as_aux_lemma =>
    have KF := Hd (bcell HWA.out KF4.out)
    have KA := Hd (bcell HWA.out KA4.out)
    have KK := Hd (bcell HWA.out KK4.out)
    rcases fit5 HFT.out with ⟨H1, rfl⟩ | ⟨H1, H2, rfl⟩ | ⟨H1, H2, H3, rfl⟩ | ⟨H1, H2, H3, H4, rfl⟩ | ⟨H1, H2, H3, H4, rfl⟩
    all_goals
     refine wp_region_E (fun w' => Below wa.heap.size wa w') (fun _ => True) [] (by kernel_rfl) ?_
     have HT := Hd ((Below.refl wa.heap.size wa).drew)
     generalize wa.drew = wb at HT ⊢
     refine em 0 (.slice (some ada) m c1) (bT HT) ?_
     refine em 1 (.int .i64 (i : Int)) (bT HT) ?_
     refine ej 2 (.slice (some ada) m c1) (.int .i64 (i : Int)) (.pointer (some (ada.add i))) (run_ixs rfl HIM.out) (bT HT) ?_
     refine el false 3 (ada.add i) (.int .i64 (pc : Int)) underlying3 (fun w hS => (bcell hS.1 KA.out)) (bT HT) ?_
     refine em 4 (.slice (some adb) nb cb) (bT HT) ?_
     refine em 5 (.int .i64 (b : Int)) (bT HT) ?_
     refine ej 6 (.slice (some adb) nb cb) (.int .i64 (b : Int)) (.pointer (some (adb.add (b * 3)))) (run_ixbk HBN.out) (bT HT) ?_
     refine E_field 7 (some 94) 44 _ 0 (adb.add (b * 3)) (adb.add (b * 3)) rfl (by kernel_rfl) (by rfl) (fun _ _ _ h => h) (by rfl) (fun w => by go_simp) (bT HT) ?_
     simp only [pt, pn, sL]
     refine el false 8 (adb.add (b * 3)) (.int .i64 (f : Int)) underlying3 (fun w hS => (bcell hS.1 KF.out)) (bT HT) ?_
     first | refine eb 9 (.bool false) rfl (fun o e w _ => by unfold execOp; simp only [e]; go_simp; have hq := H1.out; simp at hq; omega) (bT HT) ?_ | refine eb 9 (.bool true) rfl (fun o e w _ => by unfold execOp; simp only [e]; go_simp; have hq := H1.out; simp at hq; omega) (bT HT) ?_
     first | refine em 10 (.bool false) (bT HT) ?_ | refine em 10 (.bool true) (bT HT) ?_
     first | refine en 11 (bT HT) ?_ | refine em 11 (.int .i64 (i : Int)) (bT HT) ?_
     first | refine en 12 (bT HT) ?_ | refine em 12 (.int .i64 (sz : Int)) (bT HT) ?_
     first | refine en 13 (bT HT) ?_ | refine eb 13 (.int .i64 ((i : Int) + (sz : Int))) rfl (fun o e w _ => by unfold execOp; simp only [e]; go_simp; have := HSZ.out; have := HIM.out; have := HM5.out; rw [wrap_in (by omega)]) (bT HT) ?_
     first | refine en 14 (bT HT) ?_ | refine em 14 (.slice (some ada) m c1) (bT HT) ?_
     first | refine en 15 (bT HT) ?_ | refine eg 15 (.int .i64 (m : Int)) (bT HT) ?_
     first | refine en 16 (bT HT) ?_ | refine eb 16 (.bool false) rfl (fun o e w _ => by unfold execOp; simp only [e]; go_simp; have hq := H2.out; simp at hq; omega) (bT HT) ?_ | refine eb 16 (.bool true) rfl (fun o e w _ => by unfold execOp; simp only [e]; go_simp; have hq := H2.out; simp at hq; omega) (bT HT) ?_
     first | refine ep 17 false (.bool false) (bT HT) ?_ | refine ep 17 true (.bool false) (bT HT) ?_ | refine ep 17 true (.bool true) (bT HT) ?_
     first | refine em 18 (.bool false) (bT HT) ?_ | refine em 18 (.bool true) (bT HT) ?_
     first | refine en 19 (bT HT) ?_ | refine em 19 (.int .i64 (i : Int)) (bT HT) ?_
     first | refine en 20 (bT HT) ?_ | refine em 20 (.int .i64 (sz : Int)) (bT HT) ?_
     first | refine en 21 (bT HT) ?_ | refine eb 21 (.int .i64 ((i : Int) + (sz : Int))) rfl (fun o e w _ => by unfold execOp; simp only [e]; go_simp; have := HSZ.out; have := HIM.out; have := HM5.out; rw [wrap_in (by omega)]) (bT HT) ?_
     first | refine en 22 (bT HT) ?_ | refine em 22 (.slice (some ada) m c1) (bT HT) ?_
     first | refine en 23 (bT HT) ?_ | refine eg 23 (.int .i64 (m : Int)) (bT HT) ?_
     first | refine en 24 (bT HT) ?_ | refine eb 24 (.bool true) rfl (fun o e w _ => by unfold execOp; simp only [e]; go_simp; have hq := H3.out; simp at hq; omega) (bT HT) ?_ | refine eb 24 (.bool false) rfl (fun o e w _ => by unfold execOp; simp only [e]; go_simp; have hq := H3.out; simp at hq; omega) (bT HT) ?_
     first | refine en 25 (bT HT) ?_ | refine em 25 (.bool true) (bT HT) ?_ | refine em 25 (.bool false) (bT HT) ?_
     first | refine en 26 (bT HT) ?_ | refine ef 26 ⟨b11, 0, none⟩ ⟨b11, 0, none⟩ (bT HT) ?_
     first | refine en 27 (bT HT) ?_ | refine el false 27 ⟨b11, 0, none⟩ (.int .i8 kd) underlying30 (fun w hS => (bcell hS.1 KK.out)) (bT HT) ?_
     first | refine en 28 (bT HT) ?_ | refine eb 28 (.bool true) rfl (fun o e w _ => by unfold execOp; simp only [e]; go_simp; have hq := H4.out; simp at hq; omega) (bT HT) ?_ | refine eb 28 (.bool false) rfl (fun o e w _ => by unfold execOp; simp only [e]; go_simp; have hq := H4.out; simp at hq; omega) (bT HT) ?_
     first | refine en 29 (bT HT) ?_ | refine ep 29 true (.bool true) (bT HT) ?_ | refine ep 29 false (.bool true) (bT HT) ?_ | refine ep 29 false (.bool false) (bT HT) ?_
     first | refine ep 30 false (.bool false) (bT HT) ?_ | refine ep 30 true (.bool true) (bT HT) ?_ | refine ep 30 true (.bool false) (bT HT) ?_
     refine wpAnyE_done (by kernel_rfl) ?_ _
     go_wp2
     go_meet
     case rel => exact ⟨rfl, HT.out⟩
   case rest =>
   obtain ⟨rfl, hwc⟩ := hcut
   rename World => wb
   have HWb := Hd (HWA.out.trans (hwc.mono HWA.out.size))
   clear hwc
   go_upto_if 117 with fail
   go_cut [] from 61 to 151 (fun wx => Below wb.heap.size wb wx)
   case first => as_aux_lemma =>
    cases FIT
    ·go_wp2
     go_meet
     case rel => exact Below.refl _ _
    ·have HFIT := Hd (show i + sz ≤ m ∧ (i + sz < m ∨ kd = 1) from by
      have h := HFT.out
      simp only [Bool.and_eq_true, Bool.or_eq_true, decide_eq_true_eq, beq_iff_eq] at h
      omega)
     have HPF2 := Hd (show (pc : Int) = (f : Int) from by
      have h := HFT.out
      simp only [Bool.and_eq_true, Bool.or_eq_true, decide_eq_true_eq, beq_iff_eq] at h
      exact h.1)
     have HCL := Hd (show cl ≤ nT ∧ nT ≤ ct by
      have h := (HTT.out.cutN (k := 0) (Nat.zero_le _)).2.1
      have h2 := HSO.out.few
      have h3 := HNT.out
      omega)
     obtain ⟨cs, hcs⟩ : ∃ v, pgD c adp n cap = v := ⟨_, rfl⟩
     obtain ⟨V1, hV1⟩ : ∃ v, Value.slice (if c1 = i then some ada else (some ada).map (·.add (i * 1))) (m - i) (c1 - i) = v := ⟨_, rfl⟩
     obtain ⟨V2, hV2⟩ : ∃ v, Value.slice (if c2 = i then some ads else (some ads).map (·.add (i * 76))) (m - i) (c2 - i) = v := ⟨_, rfl⟩
     obtain ⟨V3, hV3⟩ : ∃ v, Value.slice (if ct = cl then At else At.map (·.add (cl * 3))) (nT - cl) (ct - cl) = v := ⟨_, rfl⟩
     have HCS := Hd hcs
     have HV1 := Hd hV1
     have HV2 := Hd hV2
     have HV3 := Hd hV3
     clear hcs hV1 hV2 hV3
     have KPG := Hd (show ∀ j u, cs[j]? = some u → wb.cell? ((⟨b4, 0, none⟩ : Addr).add j) = some u from fun j u hu => bcell HWb.out (blk_list HBP.out j u (by rw [show ([.int .i64 c, .slice (some adp) n cap] : List Value) = cs from HCS.out]; exact hu)))
     have KTR := Hd (bcell HWb.out KTR4.out)
     have KTH := Hd (show ∀ W, Below wb.heap.size wb W → Calls prog 10 #[.agg cs.toArray, .slice (some adb) nb cb, .int .i64 (b : Int), V1, V2, V3] W fun e w' => e = .returned (.bool true) ∧ Below W.heap.size W w' from fun W hW => by
      rw [← HCS.out, ← HV1.out, ← HV2.out, ← HV3.out]
      have hWW := HWb.out.trans (hW.mono HWb.out.size)
      have htr := ((HTT.out.chg (H := fun _ => False) (G := fun _ => False) (Chg.of_below hWW) (fun b z => z.elim) (fun b z => z.elim)).cutN (k := cl) HCL.out.1).2.2
      have hle : (T.drop cl).length = nT - cl := by rw [List.length_drop, HNT.out]
      rw [← hle]
      have hlq : q.length = m := HQM.out
      have hpf : p.1 = (f : Int) := by rw [HIQ.out.2.2.1]; exact HPF2.out
      have hr1 := ((HR1.out.below hWW).more hWW.size).cut (k := i) (cap := c1) (Nat.le_of_lt HIM.out) HC.out.1
      have hr2 := ((HR2.out.below hWW).more hWW.size).cut (k := i) (cap := c2) (Nat.le_of_lt HIM.out) HC.out.2
      have hlen : (insOf l (blkAt l b)).length = sz := by
       have h := blkAt_of HB.out
       rw [h]
       unfold insOf
       rw [List.length_take, List.length_drop]
       have h1 := HB.out.in_
       have h2 := HB.out.le
       have h3 := HSZ.out.1
       dsimp only
       omega
      have hq0 : ((q ++ rest).drop i)[0]? = some ((f : Int), p.2) := by
       rw [List.getElem?_drop, Nat.add_zero, HIQ.out.2.1, ← hpf]
      refine through_any c (some adp) n cap l (some adb) nb cb b _ (m - i) _ ((q.drop i).map (·.1)) _ _ (ss.drop i) _ _ (T.drop cl) ((q ++ rest).drop i) (insOf l (blkAt l b)) f z x p.2 W (HI.out.up hWW hWW.size) HN.out.1 HN.out.2 HCK.out (HBK.out.up hWW hWW.size) ?_ ?_ (fun s hs => HS.out.2.2.2.2.2 s (List.mem_of_mem_drop hs)) (HSO.out.path HIQ.out.1) hq0 (fun k hk => ?_) ?_ (by have := HM5.out; omega) HB.out rfl ?_ ?_ htr
      ·rw [Nat.mul_one] at hr1 ⊢
       rw [List.map_map, List.map_drop]
       exact hr1
      ·have e : (ss.drop i).flatMap snC = (ss.flatMap snC).drop (i * 76) := sn_drop HS.out.2.2.2.2.2 (by have := congrArg List.length HS.out.2.2.2.2.1; simp at this; have := HIM.out; omega)
       rw [e]
       exact hr2
      ·obtain ⟨pk, hpk⟩ : ∃ y, q[i + k]? = some y := ⟨_, List.getElem?_eq_getElem (by omega)⟩
       obtain ⟨sk, hsk⟩ : ∃ y, ss[i + k]? = some y := ⟨_, List.getElem?_eq_getElem (by have := congrArg List.length HS.out.2.2.2.2.1; simp at this; omega)⟩
       refine ⟨pk, by rw [List.getElem?_drop, List.getElem?_append_left (List.getElem?_eq_some_iff.1 hpk).1]; exact hpk, by rw [List.getElem?_map, List.getElem?_drop, hpk]; rfl, sk, by rw [List.getElem?_drop]; exact hsk, ?_⟩
       have h := congrArg (fun L => L[i + k]?) HS.out.2.2.2.2.1
       simp only [List.getElem?_map, hpk, hsk] at h
       exact Option.some.inj h
      ·rw [List.length_drop, List.length_append]
       omega
      ·rw [hlen]
       have := HFIT.out.1
       omega
      ·rw [hlen]
       rcases HFIT.out.2 with hz | hz
       ·exact .inl (by omega)
       ·by_cases hz2 : i + sz < m
        ·exact .inl (by omega)
        ·right
         obtain ⟨hr, i9, x9, r9, hl9, hx9, hk9⟩ := HS.out.2.2.1 hz
         have hi9 : (q ++ rest).drop i = q.drop i := by rw [hr, List.append_nil]
         have hsz := HSZ.out
         have hf1 := HFIT.out.1
         have hq9 : ((q ++ rest).drop i)[sz - 1]? = some ((i9 : Int), r9) := by
          rw [hi9, List.getElem?_drop, show i + (sz - 1) = q.length - 1 by omega, ← List.getLast?_eq_getElem?]
          exact hl9
         have h := path_blk HB.out (HSO.out.path HIQ.out.1) hq0 (sz - 1) _ hq9 (by omega)
         have h : (i9 : Int) = ((f + (sz - 1) : Nat) : Int) := h
         have h9 : i9 = z := by omega
         rw [h9, HB.out.ins] at hx9
         rw [Option.some.inj hx9]
         refine ⟨hk9, ?_⟩
         rw [hi9, List.length_drop]
         omega)
     go_upto_region 14 with fail
     refine wp_region_E (fun w' => Below wb.heap.size wb w') (fun _ => True) [] (by kernel_rfl) ?_
     have HT := Hd ((Below.refl wb.heap.size wb).drew)
     generalize wb.drew = wc at HT ⊢
     refine eL false 0 ⟨b4, 0, none⟩ cs (fun w hS => fun j u hu => bcell hS.1 (KPG.out j u hu)) underlying24 (by have h := HCS.out; subst h; exact sizPg2) (bT HT) ?_
     refine em 1 (.slice (some adb) nb cb) (bT HT) ?_
     refine em 2 (.int .i64 (b : Int)) (bT HT) ?_
     refine em 3 (.slice (some ada) m c1) (bT HT) ?_
     refine em 4 (.int .i64 (i : Int)) (bT HT) ?_
     refine E_sliceL 5 (some 123) 28 _ _ (.slice (some ada) m c1) (.int .i64 (i : Int)) (V1) rfl (by kernel_rfl) (by rfl) (fun _ _ _ h => h) (by rfl) (by rfl) (by have h := HV1.out; subst h; exact run_sliceL underlying28 1 sizInt _ _ _ _ (Nat.le_of_lt HIM.out) HC.out.1) (bT HT) ?_
     simp only [pt, pn, sL]
     refine em 6 (.slice (some ads) m c2) (bT HT) ?_
     refine em 7 (.int .i64 (i : Int)) (bT HT) ?_
     refine E_sliceL 8 (some 126) 29 _ _ (.slice (some ads) m c2) (.int .i64 (i : Int)) (V2) rfl (by kernel_rfl) (by rfl) (fun _ _ _ h => h) (by rfl) (by rfl) (by have h := HV2.out; subst h; exact run_sliceL underlying29 76 sizSn _ _ _ _ (Nat.le_of_lt HIM.out) HC.out.2) (bT HT) ?_
     simp only [pt, pn, sL]
     refine ef 9 ⟨b11, 0, none⟩ ⟨b11, 3, none⟩ (bT HT) ?_
     refine el false 10 ⟨b11, 3, none⟩ (.slice At nT ct) underlying32 (fun w hS => (bcell hS.1 KTR.out)) (bT HT) ?_
     refine em 11 (.int .i64 (cl : Int)) (bT HT) ?_
     refine E_sliceL 12 (some 130) 32 _ _ (.slice At nT ct) (.int .i64 (cl : Int)) (V3) rfl (by kernel_rfl) (by rfl) (fun _ _ _ h => h) (by rfl) (by rfl) (by have h := HV3.out; subst h; exact run_sliceL underlying32 3 sizEv _ _ _ _ HCL.out.1 HCL.out.2) (bT HT) ?_
     simp only [pt, pn, sL]
     refine eo 13 fun o K h2 h3 hKK => ?_
     unfold Oper.wp execOp
     simp only [h3]
     go_simp
     refine (KTH.out _ HT.out).mono ?_
     rintro e wq ⟨rfl, hbq⟩
     replace HT := Hd (HT.out.trans (hbq.mono HT.out.size))
     clear hbq
     dsimp only
     refine hKK _ _ (bT HT) ?_
     clear hKK h2 h3 K o
     try simp only [pt, pn, sL]
     refine eg 14 (.bool false) (bT HT) ?_
     refine wpAnyE_done (by kernel_rfl) ?_ _
     clear KPG KTR KTH
     go_wp2
     go_meet
     case rel => exact HT.out
   case rest =>
   rename World => wz
   have HWr := Hd (HWb.out.trans (hcut.mono HWb.out.size))
   clear hcut HWb HWA
   have KP := Hd (bcell HWr.out KP4.out)
   have KA := Hd (bcell HWr.out KA4.out)
   have KI := Hd (bcell HWr.out KI4.out)
   have KTR := Hd (bcell HWr.out KTR4.out)
   have hclm : cl < 1000 := HCF.out
   go_upto_region 16 with fail
   have h3 : (Hid ((xi.kind == 5) = false) ∧ Hid (SoL l (q ++ rest) T (i + 1) cl)) ∨ (Hid ((xi.kind == 5) = true) ∧ Hid (decide ((cl : Int) < (nT : Int)) = false) ∧ Hid (SoL l (q ++ rest) T (i + 1) cl)) ∨
     (Hid ((xi.kind == 5) = true) ∧ Hid (decide ((cl : Int) < (nT : Int)) = true) ∧ Hid (SoL l (q ++ rest) T (i + 1) (cl + 1))) := by
    have h := HSO.out.next HIQ.out.1 HIQ.out.2.1 HIQ.out.2.2.1 HIQ.out.2.2.2
    have hn := HNT.out
    by_cases h5 : xi.kind = 5
    ·by_cases h6 : cl < nT
     ·rw [if_pos ⟨h5, by omega⟩] at h
      exact .inr (.inr ⟨Hd (by simp [h5]), Hd (by rw [decide_eq_true_eq]; omega), Hd h⟩)
     ·rw [if_neg (fun z => h6 (by have := z.2; omega))] at h
      exact .inr (.inl ⟨Hd (by simp [h5]), Hd (by rw [decide_eq_false_iff_not]; omega), Hd h⟩)
    ·rw [if_neg (fun z => h5 z.1)] at h
     exact .inl ⟨Hd (by simp [h5]), Hd h⟩
   rcases h3 with ⟨H5, HNX⟩ | ⟨H5, H6, HNX⟩ | ⟨H5, H6, HNX⟩
   all_goals
    refine wp_region_E (fun w' => Below wz.heap.size wz w') (fun _ => True) [] (by kernel_rfl) ?_
    have HT := Hd ((Below.refl wz.heap.size wz).drew)
    generalize wz.drew = we at HT ⊢
    refine ef 0 ⟨b4, 0, none⟩ ⟨b4, 1, none⟩ (bT HT) ?_
    refine el false 1 ⟨b4, 1, none⟩ (.slice (some adp) n cap) underlying22 (fun w hS => (bcell hS.1 KP.out)) (bT HT) ?_
    refine em 2 (.slice (some ada) m c1) (bT HT) ?_
    refine em 3 (.int .i64 (i : Int)) (bT HT) ?_
    refine ej 4 (.slice (some ada) m c1) (.int .i64 (i : Int)) (.pointer (some (ada.add i))) (run_ixs rfl HIM.out) (bT HT) ?_
    refine el false 5 (ada.add i) (.int .i64 (pc : Int)) underlying3 (fun w hS => (bcell hS.1 KA.out)) (bT HT) ?_
    refine ej 6 (.slice (some adp) n cap) (.int .i64 (pc : Int)) (.pointer (some (adp.add (pc * 9)))) (run_ixIns HPC.out) (bT HT) ?_
    refine E_field 7 (some 140) 47 _ 0 (adp.add (pc * 9)) (adp.add (pc * 9)) rfl (by kernel_rfl) (by rfl) (fun _ _ _ h => h) (by rfl) (fun w => by go_simp) (bT HT) ?_
    simp only [pt, pn, sL]
    refine el false 8 (adp.add (pc * 9)) (.int .i8 xi.kind) underlying30 (fun w hS => (bcell hS.1 KI.out)) (bT HT) ?_
    first | refine eb 9 (.bool false) rfl (fun o e w _ => by unfold execOp; simp only [e]; go_simp; have hq := H5.out; simp at hq; omega) (bT HT) ?_ | refine eb 9 (.bool true) rfl (fun o e w _ => by unfold execOp; simp only [e]; go_simp; have hq := H5.out; simp at hq; omega) (bT HT) ?_
    first | refine em 10 (.bool false) (bT HT) ?_ | refine em 10 (.bool true) (bT HT) ?_
    first | refine en 11 (bT HT) ?_ | refine em 11 (.int .i64 (cl : Int)) (bT HT) ?_
    first | refine en 12 (bT HT) ?_ | refine ef 12 ⟨b11, 0, none⟩ ⟨b11, 3, none⟩ (bT HT) ?_
    first | refine en 13 (bT HT) ?_ | refine el false 13 ⟨b11, 3, none⟩ (.slice At nT ct) underlying32 (fun w hS => (bcell hS.1 KTR.out)) (bT HT) ?_
    first | refine en 14 (bT HT) ?_ | refine eg 14 (.int .i64 (nT : Int)) (bT HT) ?_
    first | refine en 15 (bT HT) ?_ | refine eb 15 (.bool false) rfl (fun o e w _ => by unfold execOp; simp only [e]; go_simp; have hq := H6.out; simp at hq; omega) (bT HT) ?_ | refine eb 15 (.bool true) rfl (fun o e w _ => by unfold execOp; simp only [e]; go_simp; have hq := H6.out; simp at hq; omega) (bT HT) ?_
    first | refine ep 16 false (.bool false) (bT HT) ?_ | refine ep 16 true (.bool false) (bT HT) ?_ | refine ep 16 true (.bool true) (bT HT) ?_
    first
    | (refine wpAnyE_done (by kernel_rfl) ?_ _
       replace HWr := Hd (HWr.out.trans (HT.out.mono HWr.out.size))
       clear HT KP KA KI KTR
       go_wp2_with fail
       go_roundg (m - (i + 1))
       case measure => have := HGK.out; omega
       case rel => exact ⟨cl, i + 1, rfl, by go_num, by have := HGK.out; omega, Hd ⟨HNX.out, HWr.out⟩⟩)
    | (refine wpAnyE_done (by kernel_rfl) ?_ _
       replace HWr := Hd (HWr.out.trans (HT.out.mono HWr.out.size))
       clear HT KP KA KI KTR
       go_wp2_with fail
       go_roundg (m - (i + 1))
       case measure => have := HGK.out; omega
       case rel => exact ⟨cl + 1, i + 1, by go_num, by go_num, by have := HGK.out; omega, Hd ⟨HNX.out, HWr.out⟩⟩)
  ·obtain rfl : i = m := by have := HGK.out; omega
   go_wp2_with fail
   refine (wakes_any _).mono ?_
   rintro e w5 ⟨rfl, hb⟩
   have HQ := Hd (HWr.out.trans (hb.mono HWr.out.size))
   clear hb
   go_wp2
   go_ret
   exact ⟨rfl, HW.out.trans (HQ.out.mono HW.out.size)⟩
end Go.Proofs.YtepagfkkjlbipaaGreat
