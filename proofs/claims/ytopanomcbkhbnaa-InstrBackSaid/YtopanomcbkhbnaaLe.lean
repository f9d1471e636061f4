/-
  The walk of InstrBack: it answers true. Conditions: those written in each statement.
-/
import Derived.Test.YtopanomcbkhbnaaLd
import Derived.Test.YtopanomcbkhbnaaIi
import Derived.Test.YtopanomcbkhbnaaIl
import Derived.Test.YtopanomcbkhbnaaQuiew
import Derived.Deep.RegionHeld3
import Derived.Lib.QuietBelow
namespace Go.Proofs.Ytopanomcbkhbnaa
open Go.RowKit
set_option linter.unusedVariables false
set_option linter.unusedSimpArgs false
/-- The boxes of the law, its program's instructions, its bytes. -/
structure KF (x : ID) (c : Int) (A : Option Addr) (n cap : Nat) (l : List ID) (A2 : Option Addr) (n2 : Nat) (b : List Int) (w W : World) : Prop where
  below : Below w.heap.size w W
  bx : Blk W w.heap.size 32 x.cells.toArray
  bp : Blk W (w.heap.size + 1) 24 #[.int .i64 c, .slice A n cap]
  ins : InsAt W W.heap.size A n l
  reads : Reads W W.heap.size 1 A2 n2 (b.map (Value.int .u8))
section
variable {x : ID} {c : Int} {A A2 : Option Addr} {n cap n2 : Nat} {l : List ID} {b : List Int} {w W V : World}
theorem KF.lt (h : KF x c A n cap l A2 n2 b w W) : w.heap.size + 1 < W.heap.size := h.bp.lt
theorem KF.step (h : KF x c A n cap l A2 n2 b w W) (hb : Below W.heap.size W V) : KF x c A n cap l A2 n2 b w V :=
  have hl := h.lt
  ⟨h.below.trans (hb.mono (by omega)), h.bx.below hb h.bx.lt, h.bp.below hb h.bp.lt, h.ins.up hb hb.size, (h.reads.keep fun p hp => hb.cell hp).more hb.size⟩
theorem KF.drewN (h : KF x c A n cap l A2 n2 b w W) (k : Nat) : KF x c A n cap l A2 n2 b w (W.drewN k) := ⟨below_drewN h.below k, h.bx, h.bp, h.ins, h.reads⟩
theorem KF.new (hh : InsAt w w.heap.size A n l) (hr : Reads w w.heap.size 1 A2 n2 (b.map (Value.int .u8))) :
    KF x c A n cap l A2 n2 b w ((w.alloc (.cells x.cells.toArray 32)).alloc (.cells #[.int .i64 c, .slice A n cap] 24)) := by
  have hb : Below w.heap.size w ((w.alloc (.cells x.cells.toArray 32)).alloc (.cells #[.int .i64 c, .slice A n cap] 24)) :=
    ((Below.refl _ _).alloc (Nat.le_refl _) _).alloc (by simp) _
  refine ⟨hb, ?_, ?_, hh.up hb hb.size, (hr.keep fun p hp => hb.cell hp).more hb.size⟩
  · exact (Blk.new w _ _).alloc _
  · have := Blk.new (w.alloc (.cells x.cells.toArray 32)) 24 #[.int .i64 c, .slice A n cap]
    simpa using this
end
theorem insO_bytes2 (x : ID) : IsBytes (insO x) := by
  unfold insO
  split
  · rename_i h; exact insB_bytes h
  · intro v hv; simp at hv
theorem str_name (l : List Int) : ∃ s, Hid (s = strOfNums l) := ⟨_, hide rfl⟩
set_option maxRecDepth 100000 in
set_option maxHeartbeats 4000000 in
theorem back_walk (x : ID) (c : Int) (A : Option Addr) (n cap : Nat) (l : List ID) (A2 : Option Addr) (n2 c2 : Nat) (b : List Int) (w : World) (hx : x.wf) (hh : InsAt w w.heap.size A n l) (hc : n ≤ cap) (hm : n < 9223372036854775808)
    (hr : Reads w w.heap.size 1 A2 n2 (b.map (Value.int .u8))) (hbb : IsBytes b) (hc2 : n2 ≤ c2) :
    Calls Try.prog 7 #[.agg x.cells.toArray, .agg #[.int .i64 c, .slice A n cap], .slice A2 n2 c2] w fun e w' => e = .returned (.bool true) ∧ Below w.heap.size w w' := by
  have hl : b.length = n2 := by have := hr.1; simpa using this
  have HL := hide hl
  have HI := hide hh
  have HBB := hide hbb
  have HX := hide hx
  have HF := hide (KF.new (x := x) (c := c) (cap := cap) hh hr)
  clear hl hh hr hbb hx
  go_enter Try.func7, Try.ntmps7
  have c0 := HF.out.bp.cell 0
  go_wp2_with fail
  refine (great_any c A n cap _ hm).mono ?_
  rintro e w1 ⟨rfl, hb⟩
  replace HF := hide (HF.out.step hb)
  clear hb c0
  cases hg : decide (100 < n)
  · have HG := hide hg
    clear hg
    by_cases h2 : 900 < n2
    · have h2d : decide ((900 : Int) < (n2 : Int)) = true := by simp; omega
      clear h2
      go_wp2_with fail
      refine (wakes_any _).mono ?_
      rintro e w5 ⟨rfl, hb⟩
      replace HF := hide (HF.out.step hb)
      clear hb
      go_wp2
      go_ret
      exact ⟨rfl, HF.out.below⟩
    · have h2d : decide ((900 : Int) < (n2 : Int)) = false := by simp; omega
      have h2' : n2 ≤ 900 := by omega
      clear h2
      obtain ⟨iI, hiI, hzI, hsI, hbI⟩ := info_parts infI
      have II := hide (And.intro hiI (And.intro hzI (And.intro hsI hbI)))
      clear hiI hzI hsI hbI
      have HLX := hide (fun (W : World) (h : KF x c A n cap l A2 n2 b w W) => (blk_list h.bx : ∀ j u, x.cells[j]? = some u → W.cell? ((⟨w.heap.size, 0, none⟩ : Addr).add j) = some u))
      go_wp2_with (first
        | (refine wpList_load_at rfl 32 (.tmp 3) rfl ⟨w.heap.size, 0, none⟩ rfl x.cells _ (HLX.out _ HF.out) Try.underlying32 rfl sizI ?_)
        | fail)
      refine (bytes_any x _ HX.out).mono ?_
      rintro e w3 ⟨A3, c3, rfl, hc3, hr3, hb⟩
      replace HF := hide (HF.out.step hb)
      have HR3 := hide hr3
      clear hb hr3
      obtain ⟨ev, hev⟩ : ∃ v, insE x = v := ⟨_, rfl⟩
      obtain ⟨n3, hn3⟩ : ∃ v, (insO x).length = v := ⟨_, rfl⟩
      rw [hev, hn3]
      rw [hn3] at hc3 HR3
      have HEV := hide hev
      have HN3 := hide hn3
      clear hev hn3
      go_upto_if 36 with fail
      go_cut [] (fun wc => KF x c A n cap l A2 n2 b w wc)
      case first =>
        cases hmx : mayB x
        · have be : (ev == 0) = false := by rw [← HEV.out]; unfold insE; rw [hmx]; rfl
          clear hmx
          go_wp2_with fail
          go_meet
          exact HF.out
        · have be : (ev == 0) = true := by rw [← HEV.out]; unfold insE; rw [hmx]; rfl
          have hO : insO x = insB x := by unfold insO; rw [hmx]; rfl
          have h8 : n3 = 8 := by rw [← HN3.out, hO, insB_len]
          have b8 : ((n3 : Int) != 8) = false := by rw [h8]; rfl
          have hs8 : n3 < 9223372036854775808 := by omega
          have HM := hide hmx
          have HO := hide hO
          have hE := fun W => neq_id HX.out HX.out W
          rw [(eq_id_iff HX.out HX.out).2 rfl] at hE
          clear hmx hO h8
          go_wp2_with fail
          refine (read_any (insO x) A3 n3 c3 _ HN3.out HR3.out (insO_bytes2 x) hc3 hs8).mono ?_
          rintro e w4 ⟨rfl, hb⟩
          rw [HO.out, (rd_of_ins HM.out).1, (rd_of_ins HM.out).2]
          replace HF := hide (HF.out.step hb)
          clear hb HR3
          go_wp2_with (first
            | (refine wpList_new rfl rfl 32 (.tmp 9) (.tmp 40) rfl rfl iI _ (.agg x.cells.toArray) x.cells.toArray II.out.1 II.out.2.1 (by rw [II.out.2.2.1]; rfl) rfl (by rw [II.out.2.2.1]; rfl) (all_one x.one) (by rfl) (by rfl) ?_
               intro w5 g5 G5 X5 L5
               replace HF := hide (HF.out.step L5)
               have HX5 := hide X5
               clear X5 L5)
            | (refine wpList_load_atw (by rfl) 32 (.tmp 9) rfl ⟨g5, 0, none⟩ (by rfl) x.cells _ (blk_list HX5.out) Try.underlying32 rfl sizI ?_)
            | (refine wpList_load_atw (by rfl) 32 (.tmp 3) rfl ⟨w.heap.size, 0, none⟩ (by rfl) x.cells _ (HLX.out _ HF.out) Try.underlying32 rfl sizI ?_))
          go_meet
          exact HF.out
      case rest =>
        replace HF := hide hcut
        clear hcut HR3
        have hn100 : n ≤ 100 := by have := HG.out; simp at this; omega
        have c0 : wc.cell? ⟨w.heap.size + 1, 0, none⟩ = some (.int .i64 c) := HF.out.bp.cell 0
        have c1 : wc.cell? ⟨w.heap.size + 1, 1, none⟩ = some (.slice A n cap) := HF.out.bp.cell 1
        go_wp2_with fail
        refine (encode_any c A n cap l _ HF.out.ins hc hm).mono ?_
        rintro e w5 ⟨A5, c5, rfl, hc5, hr5, hb⟩
        replace HF := hide (HF.out.step hb)
        have HR5 := hide hr5
        clear hb hr5 c0 c1
        obtain ⟨fv, hfv⟩ : ∃ v, (chkP c l).2 = v := ⟨_, rfl⟩
        obtain ⟨n5, hn5⟩ : ∃ v, (encO c l).length = v := ⟨_, rfl⟩
        rw [hfv, hn5]
        rw [hn5] at hc5 HR5
        have HFV := hide hfv
        have HN5 := hide hn5
        clear hfv hn5
        go_upto_if 60 with fail
        go_cut [] (fun wc => KF x c A n cap l A2 n2 b w wc)
        case first =>
          by_cases hz : fv = 0
          · have be : (fv == 0) = true := by simp [hz]
            have hck : (chkP c l).2 = 0 := by rw [HFV.out]; exact hz
            have hO : encO c l = encB c l := by unfold encO; rw [if_pos hck]
            have h8 : n5 = 2 + 8 * n := by rw [← HN5.out, hO, encB_len, HI.out.1]
            have b8 : ((n5 : Int) != 2 + 8 * (n : Int)) = false := by rw [h8]; simp
            have hs8 : n5 < 9223372036854775808 := by omega
            have HCK := hide hck
            have HO := hide hO
            clear hz hck hO h8
            go_wp2_with fail
            refine (decode_any (encO c l) A5 n5 c5 _ HN5.out HR5.out (by rw [HO.out]; exact encB_bytes (chk_mays HCK.out)) hc5 hs8).mono ?_
            rintro e w6 ⟨A6, n6, c6, hc6, hn6, rfl, hi6, hb⟩
            rw [HO.out, dec_enc HCK.out] at hi6 ⊢
            dsimp only at hi6 ⊢
            replace HF := hide (HF.out.step hb)
            have HI6 := hide hi6
            clear hb hi6 HR5
            have hltg := HF.out.lt
            have d0 : w6.cell? ⟨w.heap.size + 1, 0, none⟩ = some (.int .i64 c) := HF.out.bp.cell 0
            have d1 : w6.cell? ⟨w.heap.size + 1, 1, none⟩ = some (.slice A n cap) := HF.out.bp.cell 1
            go_wp2_with fail
            have hba : Below w6.heap.size w6 (w6.alloc (.cells #[.int .i64 c, .slice A6 n6 c6] 24)) := (Below.refl _ _).alloc (Nat.le_refl _) _
            replace HF := hide (HF.out.step hba)
            refine (rsame_any c c A6 A n6 c6 n cap l l _ (HI6.out.up hba hba.size) HF.out.ins hc6 hc (by omega) hm).mono ?_
            rintro e w7 ⟨rfl, hb⟩
            replace HF := hide (HF.out.step hb)
            rw [(sameB_eq HI.out.2.1 HI.out.2.1).2 ⟨rfl, rfl⟩]
            clear hb hba d0 d1 hltg
            have d0 : w7.cell? ⟨w.heap.size + 1, 0, none⟩ = some (.int .i64 c) := HF.out.bp.cell 0
            have d1 : w7.cell? ⟨w.heap.size + 1, 1, none⟩ = some (.slice A n cap) := HF.out.bp.cell 1
            go_wp2_with fail
            go_meet
            exact HF.out
          · have be : (fv == 0) = false := by simp [hz]
            clear hz
            go_wp2_with fail
            go_meet
            exact HF.out
        case rest =>
          replace HF := hide hcut
          clear hcut HR5
          have HLR := HL.out
          go_wp2_with fail
          refine (read_any b A2 n2 c2 _ HL.out HF.out.reads HBB.out hc2 (by omega)).mono ?_
          rintro e w8 ⟨rfl, hb⟩
          replace HF := hide (HF.out.step hb)
          clear hb
          obtain ⟨y, hy⟩ : ∃ v, rdO b = v := ⟨_, rfl⟩
          obtain ⟨gv, hgv⟩ : ∃ v, rdE b = v := ⟨_, rfl⟩
          have hyw : y.wf := by rw [← hy]; exact rdO_wf b
          rw [hy, hgv]
          have HY := hide hy
          have HYW := hide hyw
          have HGV := hide hgv
          clear hy hgv hyw HLR
          go_upto_if 95 with (refine wpList_new rfl rfl 32 (.tmp 14) (.tmp 92) rfl rfl iI _ (.agg y.cells.toArray) y.cells.toArray II.out.1 II.out.2.1 (by rw [II.out.2.2.1]; rfl) rfl (by rw [II.out.2.2.1]; rfl) (all_one y.one) (by rfl) (by rfl) ?_
                              intro w9 g9 G9 X9 L9
                              replace HF := hide (HF.out.step L9)
                              have HX9 := hide X9
                              clear X9 L9)
          go_cut [] (fun wc => KF x c A n cap l A2 n2 b w wc)
          case first =>
            by_cases hz : gv = 0
            · have be : (gv == 0) = true := by simp [hz]
              obtain ⟨q1, q2, q3⟩ := ins_of_rd HBB.out (by rw [HGV.out]; exact hz)
              rw [HY.out] at q1 q2
              have hE : insE y = 0 := by unfold insE; rw [q1]; rfl
              have hO : insO y = b := by unfold insO; rw [q1]; exact q2
              have HE := hide hE
              have HO := hide hO
              clear hz q1 q2 q3 hE hO
              go_wp2_with (first
                | (refine wpList_load_at rfl 32 (.tmp 14) rfl ⟨g9, 0, none⟩ rfl y.cells _ (blk_list HX9.out) Try.underlying32 rfl sizI ?_)
                | fail)
              refine (bytes_any y _ HYW.out).mono ?_
              rintro e w10 ⟨A10, c10, rfl, hc10, hr10, hb⟩
              rw [HE.out]
              rw [HO.out] at hr10 hc10 ⊢
              replace HF := hide (HF.out.step hb)
              obtain ⟨z1, hz1, cz1⟩ := conv_name w10 36 9 5 Try.underlying36 Try.underlying5 Try.underlying9 hr10 (c := c10)
              obtain ⟨z2, hz2, cz2⟩ := conv_name w10 36 9 5 Try.underlying36 Try.underlying5 Try.underlying9 HF.out.reads (c := c2)
              obtain rfl : z1 = z2 := by rw [hz1.out, hz2.out]
              clear hb hr10 hz1 hz2
              go_wp2_with fail
              go_meet
              exact HF.out
            · have be : (gv == 0) = false := by simp [hz]
              clear hz
              go_wp2_with fail
              go_meet
              exact HF.out
          case rest =>
            replace HF := hide hcut
            clear hcut
            go_wp2_with fail
            refine (decode_any b A2 n2 c2 _ HL.out HF.out.reads HBB.out hc2 (by omega)).mono ?_
            rintro e w11 ⟨A11, n11, c11, hc11, hn11, rfl, hi11, hb⟩
            replace HF := hide (HF.out.step hb)
            have HI11 := hide hi11
            clear hb hi11
            obtain ⟨ct, hct⟩ : ∃ v, (decR b).1.1 = v := ⟨_, rfl⟩
            obtain ⟨lt, hlt⟩ : ∃ v, (decR b).1.2 = v := ⟨_, rfl⟩
            obtain ⟨av, hav⟩ : ∃ v, (decR b).2.1 = v := ⟨_, rfl⟩
            obtain ⟨kv, hkv⟩ : ∃ v, (decR b).2.2 = v := ⟨_, rfl⟩
            rw [hct, hav, hkv]
            rw [hlt] at HI11
            have HCT := hide hct
            have HLT := hide hlt
            have HKV := hide hkv
            clear hct hlt hkv hav
            by_cases hz : kv = 0
            · have be : (kv == 0) = true := by simp [hz]
              obtain ⟨q1, q2⟩ := enc_dec HBB.out (by rw [HKV.out]; exact hz)
              rw [HCT.out, HLT.out] at q1 q2
              have hO : encO ct lt = b := by unfold encO; rw [if_pos q1]; exact q2
              have HO := hide hO
              have HQ := hide q1
              clear hz q1 q2 hO
              go_wp2_with fail
              have hba : Below w11.heap.size w11 (w11.alloc (.cells #[.int .i64 ct, .slice A11 n11 c11] 24)) := (Below.refl _ _).alloc (Nat.le_refl _) _
              replace HF := hide (HF.out.step hba)
              refine (encode_any ct A11 n11 c11 lt _ (HI11.out.up hba hba.size) hc11 (by omega)).mono ?_
              rintro e w12 ⟨A12, c12, rfl, hc12, hr12, hb⟩
              rw [HQ.out]
              rw [HO.out] at hr12 hc12 ⊢
              replace HF := hide (HF.out.step hb)
              obtain ⟨z1, hz1, cz1⟩ := conv_name w12 36 9 5 Try.underlying36 Try.underlying5 Try.underlying9 hr12 (c := c12)
              obtain ⟨z2, hz2, cz2⟩ := conv_name w12 36 9 5 Try.underlying36 Try.underlying5 Try.underlying9 HF.out.reads (c := c2)
              obtain rfl : z1 = z2 := by rw [hz1.out, hz2.out]
              clear hba hb hr12 hz1 hz2
              go_wp2_with fail
              refine (wakes_any _).mono ?_
              rintro e w13 ⟨rfl, hb⟩
              replace HF := hide (HF.out.step hb)
              clear hb cz1 cz2
              go_wp2
              go_ret
              exact ⟨rfl, HF.out.below⟩
            · have be : (kv == 0) = false := by simp [hz]
              clear hz
              go_wp2_with fail
              have hba : Below w11.heap.size w11 (w11.alloc (.cells #[.int .i64 ct, .slice A11 n11 c11] 24)) := (Below.refl _ _).alloc (Nat.le_refl _) _
              replace HF := hide (HF.out.step hba)
              clear hba
              refine (wakes_any _).mono ?_
              rintro e w13 ⟨rfl, hb⟩
              replace HF := hide (HF.out.step hb)
              clear hb
              go_wp2
              go_ret
              exact ⟨rfl, HF.out.below⟩
  · go_wp2_with fail
    refine (wakes_any _).mono ?_
    rintro e w5 ⟨rfl, hb⟩
    replace HF := hide (HF.out.step hb)
    clear hb
    go_wp2
    go_ret
    exact ⟨rfl, HF.out.below⟩
end Go.Proofs.Ytopanomcbkhbnaa
