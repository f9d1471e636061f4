/-
  The walk of InstrApart: it answers true. Conditions: those written in each statement.
-/
import Derived.Test.YtopanomcbkhbnaaLb
import Derived.Test.YtopanomcbkhbnaaIi
import Derived.Test.YtopanomcbkhbnaaQuiew
import Derived.Deep.RegionHeld3
import Derived.Lib.QuietBelow
namespace Go.Proofs.Ytopanomcbkhbnaa
open Go.RowKit
set_option linter.unusedVariables false
set_option linter.unusedSimpArgs false
/-- The boxes of the law, its programs' instructions. -/
structure AF (x y : ID) (c : Int) (A : Option Addr) (n cap : Nat) (l : List ID) (d : Int) (A2 : Option Addr) (n2 cap2 : Nat) (m : List ID) (w W : World) : Prop where
  below : Below w.heap.size w W
  bx : Blk W w.heap.size 32 x.cells.toArray
  by_ : Blk W (w.heap.size + 1) 32 y.cells.toArray
  bp : Blk W (w.heap.size + 2) 24 #[.int .i64 c, .slice A n cap]
  bq : Blk W (w.heap.size + 3) 24 #[.int .i64 d, .slice A2 n2 cap2]
  ins : InsAt W W.heap.size A n l
  ins2 : InsAt W W.heap.size A2 n2 m
section
variable {x y : ID} {c d : Int} {A A2 : Option Addr} {n cap n2 cap2 : Nat} {l m : List ID} {w W V : World}
theorem AF.lt (h : AF x y c A n cap l d A2 n2 cap2 m w W) : w.heap.size + 3 < W.heap.size := h.bq.lt
theorem AF.step (h : AF x y c A n cap l d A2 n2 cap2 m w W) (hb : Below W.heap.size W V) : AF x y c A n cap l d A2 n2 cap2 m w V :=
  have hl := h.lt
  ⟨h.below.trans (hb.mono (by omega)), h.bx.below hb h.bx.lt, h.by_.below hb h.by_.lt, h.bp.below hb h.bp.lt, h.bq.below hb h.bq.lt, h.ins.up hb hb.size, h.ins2.up hb hb.size⟩
theorem AF.drew (h : AF x y c A n cap l d A2 n2 cap2 m w W) : AF x y c A n cap l d A2 n2 cap2 m w W.drew := ⟨h.below.drew, h.bx, h.by_, h.bp, h.bq, h.ins, h.ins2⟩
theorem AF.drewN (h : AF x y c A n cap l d A2 n2 cap2 m w W) (k : Nat) : AF x y c A n cap l d A2 n2 cap2 m w (W.drewN k) := ⟨below_drewN h.below k, h.bx, h.by_, h.bp, h.bq, h.ins, h.ins2⟩
theorem AF.new (hh : InsAt w w.heap.size A n l) (hh2 : InsAt w w.heap.size A2 n2 m) :
    AF x y c A n cap l d A2 n2 cap2 m w ((((w.alloc (.cells x.cells.toArray 32)).alloc (.cells y.cells.toArray 32)).alloc (.cells #[.int .i64 c, .slice A n cap] 24)).alloc (.cells #[.int .i64 d, .slice A2 n2 cap2] 24)) := by
  have hb : Below w.heap.size w ((((w.alloc (.cells x.cells.toArray 32)).alloc (.cells y.cells.toArray 32)).alloc (.cells #[.int .i64 c, .slice A n cap] 24)).alloc (.cells #[.int .i64 d, .slice A2 n2 cap2] 24)) :=
    ((((Below.refl _ _).alloc (Nat.le_refl _) _).alloc (by simp) _).alloc (by simp; omega) _).alloc (by simp; omega) _
  refine ⟨hb, ?_, ?_, ?_, ?_, hh.up hb hb.size, hh2.up hb hb.size⟩
  · exact (((Blk.new w _ _).alloc _).alloc _).alloc _
  · have := ((Blk.new (w.alloc (.cells x.cells.toArray 32)) 32 y.cells.toArray).alloc (.cells #[.int .i64 c, .slice A n cap] 24)).alloc (.cells #[.int .i64 d, .slice A2 n2 cap2] 24)
    simpa using this
  · have := (Blk.new ((w.alloc (.cells x.cells.toArray 32)).alloc (.cells y.cells.toArray 32)) 24 #[.int .i64 c, .slice A n cap]).alloc (.cells #[.int .i64 d, .slice A2 n2 cap2] 24)
    simpa using this
  · have := Blk.new (((w.alloc (.cells x.cells.toArray 32)).alloc (.cells y.cells.toArray 32)).alloc (.cells #[.int .i64 c, .slice A n cap] 24)) 24 #[.int .i64 d, .slice A2 n2 cap2]
    simpa using this
end
theorem insO_bytes (x : ID) : IsBytes (insO x) := by
  unfold insO
  split
  · rename_i h; exact insB_bytes h
  · intro v hv; simp at hv
set_option maxRecDepth 100000 in
set_option maxHeartbeats 2000000 in
theorem apart_walk (x y : ID) (c : Int) (A : Option Addr) (n cap : Nat) (l : List ID) (d : Int) (A2 : Option Addr) (n2 cap2 : Nat) (m : List ID) (w : World) (hx : x.wf) (hy : y.wf) (hh : InsAt w w.heap.size A n l) (hc : n ≤ cap) (hm : n < 9223372036854775808) (hh2 : InsAt w w.heap.size A2 n2 m) (hc2 : n2 ≤ cap2) (hm2 : n2 < 9223372036854775808) :
    Calls Try.prog 4 #[.agg x.cells.toArray, .agg y.cells.toArray, .agg #[.int .i64 c, .slice A n cap], .agg #[.int .i64 d, .slice A2 n2 cap2]] w fun e w' => e = .returned (.bool true) ∧ Below w.heap.size w w' := by
  have HF := hide (AF.new (x := x) (y := y) (c := c) (d := d) (cap := cap) (cap2 := cap2) hh hh2)
  have HX := hide hx
  have HY := hide hy
  have HI := hide hh
  have HI2 := hide hh2
  clear hx hy hh hh2
  go_enter Try.func4, Try.ntmps4
  go_wp2_with fail
  refine (great_any c A n cap _ hm).mono ?_
  rintro e w1 ⟨rfl, hb⟩
  replace HF := hide (HF.out.step hb)
  clear hb
  have d0 : w1.cell? ⟨w.heap.size + 3, 0, none⟩ = some (.int .i64 d) := HF.out.bq.cell 0
  have d1 : w1.cell? ⟨w.heap.size + 3, 1, none⟩ = some (.slice A2 n2 cap2) := HF.out.bq.cell 1
  cases hg : decide (100 < n)
  · have HG := hide hg
    clear hg
    go_wp2_with fail
    refine (great_any d A2 n2 cap2 _ hm2).mono ?_
    rintro e w2 ⟨rfl, hb⟩
    replace HF := hide (HF.out.step hb)
    clear hb d0 d1
    cases hg2 : decide (100 < n2)
    · have HG2 := hide hg2
      clear hg2
      go_wp2_with (first
        | (refine wpList_load_at rfl 32 (.tmp 4) rfl ⟨w.heap.size, 0, none⟩ rfl x.cells _ (blk_list HF.out.bx) Try.underlying32 rfl sizI ?_)
        | fail)
      refine (bytes_any x _ HX.out).mono ?_
      rintro e w3 ⟨A3, c3, rfl, hc3, hr3, hb⟩
      obtain ⟨exv, hex⟩ : ∃ v, insE x = v := ⟨_, rfl⟩
      rw [hex]
      have HEX := hide hex
      clear hex
      replace HF := hide (HF.out.step hb)
      have HR3 := hide hr3
      clear hb hr3
      go_wp2_with (first
        | (refine wpList_load_at rfl 32 (.tmp 5) rfl ⟨w.heap.size + 1, 0, none⟩ rfl y.cells _ (blk_list HF.out.by_) Try.underlying32 rfl sizI ?_)
        | fail)
      refine (bytes_any y _ HY.out).mono ?_
      rintro e w4 ⟨A4, c4, rfl, hc4, hr4, hb⟩
      replace HF := hide (HF.out.step hb)
      replace HR3 := hide ((HR3.out.below hb).more hb.size)
      have HR4 := hide hr4
      clear hb hr4
      obtain ⟨eyv, hey⟩ : ∃ v, insE y = v := ⟨_, rfl⟩
      rw [hey]
      have HEY := hide hey
      clear hey
      go_upto_region 5 with fail
      go_cut [46] (fun v wc => v = .bool false ∧ AF x y c A n cap l d A2 n2 cap2 m w wc)
      case first =>
        cases hmx : mayB x
        · have ex : (exv == 0) = false := by rw [← HEX.out]; unfold insE; rw [hmx]; rfl
          go_wp2_with fail
          refine wp_region_quiet_lit (by kernel_rfl) (by kernel_rfl) ?_
          repeat (first | go_big_quiet_step (fail))
          refine wpQuiet_nil ?_
          intro wq hwq
          obtain ⟨nq, rfl⟩ := hwq
          go_wp2_with fail
          go_meet
          exact ⟨rfl, HF.out.drewN nq⟩
        · cases hmy : mayB y
          · have ey : (eyv == 0) = false := by rw [← HEY.out]; unfold insE; rw [hmy]; rfl
            have ex : (exv == 0) = true := by rw [← HEX.out]; unfold insE; rw [hmx]; rfl
            go_wp2_with fail
            refine wp_region_quiet_lit (by kernel_rfl) (by kernel_rfl) ?_
            repeat (first | go_big_quiet_step (fail))
            refine wpQuiet_nil ?_
            intro wq hwq
            obtain ⟨nq, rfl⟩ := hwq
            go_wp2_with fail
            go_meet
            exact ⟨rfl, HF.out.drewN nq⟩
          · have ey : (eyv == 0) = true := by rw [← HEY.out]; unfold insE; rw [hmy]; rfl
            have ex : (exv == 0) = true := by rw [← HEX.out]; unfold insE; rw [hmx]; rfl
            have cv1 : ∀ k, (convert 36 9 (.slice A3 (insO x).length c3)).run Try.prog (w4.drewN k) = .ok (.string (strOfNums (insO x))) (w4.drewN k) := fun k => run_convert_reads _ _ _ _ Try.underlying36 Try.underlying5 Try.underlying9 _ _ c3 _ _ (HR3.out.drewN k)
            have cv2 : ∀ k, (convert 36 9 (.slice A4 (insO y).length c4)).run Try.prog (w4.drewN k) = .ok (.string (strOfNums (insO y))) (w4.drewN k) := fun k => run_convert_reads _ _ _ _ Try.underlying36 Try.underlying5 Try.underlying9 _ _ c4 _ _ (HR4.out.drewN k)
            have es : ((strOfNums (insO x)).toList == (strOfNums (insO y)).toList) = eqL x.cells y.cells := by
              rw [str_eq (insO_bytes x) (insO_bytes y), Bool.eq_iff_iff, beq_iff_eq, eq_id_iff HX.out HY.out]
              unfold insO
              rw [hmx, hmy]
              exact ⟨fun h => ins_inj hmx hmy h, fun h => by rw [h]⟩
            have hE := fun W => eql_id HX.out HY.out W
            obtain ⟨z1, hz1⟩ : ∃ z, strOfNums (insO x) = z := ⟨_, rfl⟩
            obtain ⟨z2, hz2⟩ : ∃ z, strOfNums (insO y) = z := ⟨_, rfl⟩
            obtain ⟨bb, hbb⟩ : ∃ z, eqL x.cells y.cells = z := ⟨_, rfl⟩
            simp only [hz1, hz2, hbb] at cv1 cv2 es hE
            clear hz1 hz2 hbb
            have hxx := hide (blk_list HF.out.bx)
            have hyy := hide (blk_list HF.out.by_)
            go_wp2_with fail
            refine wp_region_quiet_lit (by kernel_rfl) (by kernel_rfl) ?_
            repeat (first
              | (refine wpQuiet_loadw (by rfl) 32 (.tmp 4) rfl ⟨w.heap.size, 0, none⟩ (by rfl) x.cells _ hxx.out Try.underlying32 rfl sizI ?_; go_simp)
              | (refine wpQuiet_loadw (by rfl) 32 (.tmp 5) rfl ⟨w.heap.size + 1, 0, none⟩ (by rfl) y.cells _ hyy.out Try.underlying32 rfl sizI ?_; go_simp)
              | go_big_quiet_step (fail))
            refine wpQuiet_nil ?_
            first
              | (intro wq hwq; obtain ⟨nq, rfl⟩ := hwq)
              | intro nq
            go_wp2_with fail
            go_meet
            exact ⟨rfl, HF.out.drewN nq⟩
      case rest =>
        obtain ⟨rfl, hF⟩ := hcut
        replace HF := hide hF
        clear hF HR3 HR4
        have c0 : wc.cell? ⟨w.heap.size + 2, 0, none⟩ = some (.int .i64 c) := HF.out.bp.cell 0
        have c1 : wc.cell? ⟨w.heap.size + 2, 1, none⟩ = some (.slice A n cap) := HF.out.bp.cell 1
        go_wp2_with fail
        refine (encode_any c A n cap l _ HF.out.ins hc hm).mono ?_
        rintro e w5 ⟨A5, c5, rfl, hc5, hr5, hb⟩
        replace HF := hide (HF.out.step hb)
        have HR5 := hide hr5
        clear hb hr5 c0 c1
        have c0 : w5.cell? ⟨w.heap.size + 3, 0, none⟩ = some (.int .i64 d) := HF.out.bq.cell 0
        have c1 : w5.cell? ⟨w.heap.size + 3, 1, none⟩ = some (.slice A2 n2 cap2) := HF.out.bq.cell 1
        obtain ⟨fx, hfx⟩ : ∃ v, (chkP c l).2 = v := ⟨_, rfl⟩
        obtain ⟨fy, hfy⟩ : ∃ v, (chkP d m).2 = v := ⟨_, rfl⟩
        rw [hfx]
        go_wp2_with fail
        refine (encode_any d A2 n2 cap2 m _ HF.out.ins2 hc2 hm2).mono ?_
        rintro e w6 ⟨A6, c6, rfl, hc6, hr6, hb⟩
        replace HF := hide (HF.out.step hb)
        replace HR5 := hide ((HR5.out.below hb).more hb.size)
        have HR6 := hide hr6
        clear hb hr6 c0 c1
        rw [hfy]
        have HFX := hide hfx
        have HFY := hide hfy
        clear hfx hfy
        by_cases hzx : fx = 0
        · by_cases hzy : fy = 0
          · have b1 : (fx != 0) = false := by simp [hzx]
            have b2 : (fy != 0) = false := by simp [hzy]
            have hcx : (chkP c l).2 = 0 := by rw [HFX.out]; exact hzx
            have hcy : (chkP d m).2 = 0 := by rw [HFY.out]; exact hzy
            have ho1 : encO c l = encB c l := by unfold encO; rw [if_pos hcx]
            have ho2 : encO d m = encB d m := by unfold encO; rw [if_pos hcy]
            have hb1 := encB_bytes (c := c) (chk_mays hcx)
            have hb2 := encB_bytes (c := d) (chk_mays hcy)
            have es : ((strOfNums (encO c l)).toList == (strOfNums (encO d m)).toList) = sameB c d l m := by
              rw [ho1, ho2, str_eq hb1 hb2, Bool.eq_iff_iff, beq_iff_eq, sameB_eq HI.out.2.1 HI2.out.2.1]
              exact ⟨fun h => enc_inj hcx hcy h, fun h => by rw [h.1, h.2]⟩
            obtain ⟨z1, hz1⟩ : ∃ z, z = strOfNums (encO c l) := ⟨_, rfl⟩
            obtain ⟨z2, hz2⟩ : ∃ z, z = strOfNums (encO d m) := ⟨_, rfl⟩
            obtain ⟨bb, hbb⟩ : ∃ z, sameB c d l m = z := ⟨_, rfl⟩
            rw [← hz1, ← hz2, hbb] at es
            have HZ1 := hide hz1
            have HZ2 := hide hz2
            have HBB := hide hbb
            clear hz1 hz2 hbb hb1 hb2 ho1 ho2 hcx hcy hzx hzy
            have HT := HF.out
            clear HF
            go_wp2_with fail
            go_region_held3 (fun w' => w'.cell? ⟨w.heap.size + 2, 0, none⟩ = some (.int .i64 c) ∧ w'.cell? ⟨w.heap.size + 2, 1, none⟩ = some (.slice A n cap) ∧ w'.cell? ⟨w.heap.size + 3, 0, none⟩ = some (.int .i64 d) ∧ w'.cell? ⟨w.heap.size + 3, 1, none⟩ = some (.slice A2 n2 cap2) ∧
                Sem.run Try.prog (convert 36 9 (.slice A5 (encO c l).length c5)) w' = .ok (.string z1) w' ∧ Sem.run Try.prog (convert 36 9 (.slice A6 (encO d m).length c6)) w' = .ok (.string z2) w')
              (first
                | exact ⟨HT.bp.cell 0, HT.bp.cell 1, HT.bq.cell 0, HT.bq.cell 1, by rw [HZ1.out]; exact run_convert_reads _ _ _ _ Try.underlying36 Try.underlying5 Try.underlying9 _ _ _ _ _ HR5.out, by rw [HZ2.out]; exact run_convert_reads _ _ _ _ Try.underlying36 Try.underlying5 Try.underlying9 _ _ _ _ _ HR6.out⟩
                | exact ⟨HT.bp.cell 0, HT.bp.cell 1, HT.bq.cell 0, HT.bq.cell 1, by rw [HZ1.out]; exact run_convert_reads _ _ _ _ Try.underlying36 Try.underlying5 Try.underlying9 _ _ _ _ _ HR5.out.drew, by rw [HZ2.out]; exact run_convert_reads _ _ _ _ Try.underlying36 Try.underlying5 Try.underlying9 _ _ _ _ _ HR6.out.drew⟩)
              (first
                | (go_at_call 15
                   refine (same_any c d A A2 n cap n2 cap2 l m _ (by first | exact HT.ins | exact HT.drew.ins) (by first | exact HT.ins2 | exact HT.drew.ins2) hc hc2 hm hm2).mono ?_
                   rintro e wx ⟨rfl, hb⟩
                   rw [HBB.out]
                   replace HT : AF x y c A n cap l d A2 n2 cap2 m w wx := (by first | exact HT.step hb | exact HT.drew.step hb)
                   replace HR5 : Hid (Reads wx wx.heap.size 1 A5 (encO c l).length ((encO c l).map (Value.int .u8))) := hide ((HR5.out.keep fun p hp => hb.cell hp).more hb.size)
                   replace HR6 : Hid (Reads wx wx.heap.size 1 A6 (encO d m).length ((encO d m).map (Value.int .u8))) := hide ((HR6.out.keep fun p hp => hb.cell hp).more hb.size)
                   clear hb)
                | (go_at_call 9
                   refine (wakes_any _).mono ?_
                   rintro e wx ⟨rfl, hb⟩
                   replace HT : AF x y c A n cap l d A2 n2 cap2 m w wx := (by first | exact HT.step hb | exact HT.drew.step hb)
                   replace HR5 : Hid (Reads wx wx.heap.size 1 A5 (encO c l).length ((encO c l).map (Value.int .u8))) := hide ((HR5.out.keep fun p hp => hb.cell hp).more hb.size)
                   replace HR6 : Hid (Reads wx wx.heap.size 1 A6 (encO d m).length ((encO d m).map (Value.int .u8))) := hide ((HR6.out.keep fun p hp => hb.cell hp).more hb.size)
                   clear hb))
            all_goals
              go_wp2
              go_ret
              exact ⟨rfl, HT.below⟩
          · have b1 : (fx != 0) = false := by simp [hzx]
            have b2 : (fy != 0) = true := by simp [hzy]
            clear hzx hzy
            go_wp2_with fail
            refine wp_region_quiet_below (by kernel_rfl) (by kernel_rfl) ?_
            repeat (first
              | go_big_quiet_step ((go_at_call 9; exact Calls.regrown_of (wakes_any _))))
            refine wpQuiet_nil ?_
            first
              | (intro wq hwq; obtain ⟨pq, rfl⟩ := hwq)
              | intro pq
            have hbq := HF.out.below.trans ((below_regrown w6 pq.d pq.os).mono HF.out.below.size)
            have HBQ := hide hbq
            clear hbq
            go_wp2
            go_ret
            exact ⟨rfl, HBQ.out⟩
        · have b1 : (fx != 0) = true := by simp [hzx]
          clear hzx
          go_wp2_with fail
          refine wp_region_quiet_below (by kernel_rfl) (by kernel_rfl) ?_
          repeat (first
            | go_big_quiet_step ((go_at_call 9; exact Calls.regrown_of (wakes_any _))))
          refine wpQuiet_nil ?_
          first
            | (intro wq hwq; obtain ⟨pq, rfl⟩ := hwq)
            | intro pq
          have hbq := HF.out.below.trans ((below_regrown w6 pq.d pq.os).mono HF.out.below.size)
          have HBQ := hide hbq
          clear hbq
          go_wp2
          go_ret
          exact ⟨rfl, HBQ.out⟩
    · go_wp2_with fail
      refine (wakes_any _).mono ?_
      rintro e w5 ⟨rfl, hb⟩
      replace HF := hide (HF.out.step hb)
      clear hb
      go_wp2
      go_ret
      exact ⟨rfl, HF.out.below⟩
  · go_wp2_with fail
    refine (wakes_any _).mono ?_
    rintro e w5 ⟨rfl, hb⟩
    replace HF := hide (HF.out.step hb)
    clear hb d0 d1
    go_wp2
    go_ret
    exact ⟨rfl, HF.out.below⟩
end Go.Proofs.Ytopanomcbkhbnaa
