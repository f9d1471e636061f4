/-
  The walk of InstrReads: it answers true. Conditions: those written in each statement.
-/
import Derived.Test.YtopanomcbkhbnaaSf
import Derived.Test.YtopanomcbkhbnaaIl
namespace Go.Proofs.Ytopanomcbkhbnaa
open Go.RowKit
set_option linter.unusedVariables false
set_option linter.unusedSimpArgs false
theorem infP : (Try.prog.info? 24).map (fun i => (i.zero, i.size, i.bytes)) = some (some (.agg #[.int .i64 0, .slice none 0 0]), 2, 32) := by kernel_rfl
structure RF (A : Option Addr) (n : Nat) (b : List Int) (w W : World) : Prop where
  below : Below w.heap.size w W
  reads : Reads W W.heap.size 1 A n (b.map (Value.int .u8))
section
variable {A : Option Addr} {n : Nat} {b : List Int} {w W V : World}
theorem RF.step (h : RF A n b w W) (hb : Below W.heap.size W V) : RF A n b w V :=
  ⟨h.below.trans (hb.mono h.below.size), (h.reads.keep fun p hp => hb.cell hp).more hb.size⟩
end
set_option maxRecDepth 100000 in
set_option maxHeartbeats 4000000 in
theorem reads_walk (A : Option Addr) (n c : Nat) (b : List Int) (w : World) (hr : Reads w w.heap.size 1 A n (b.map (Value.int .u8))) (hb : IsBytes b) (hc : n ≤ c) :
    Calls Try.prog 6 #[.slice A n c] w fun e w' => e = .returned (.bool true) ∧ Below w.heap.size w w' := by
  have hl : b.length = n := by have := hr.1; simpa using this
  have HL := hide hl
  have HB := hide hb
  have HF := hide (RF.mk (Below.refl _ _) hr)
  clear hl hr hb
  by_cases h9 : 900 < n
  · have hd : decide ((900 : Int) < (n : Int)) = true := by simp; omega
    clear h9
    go_enter Try.func6, Try.ntmps6
    go_wp2_with fail
    refine (wakes_any _).mono ?_
    rintro e w1 ⟨rfl, hb⟩
    replace HF := hide (HF.out.step hb)
    clear hb
    go_wp2
    go_ret
    exact ⟨rfl, HF.out.below⟩
  · have hd : decide ((900 : Int) < (n : Int)) = false := by simp; omega
    have h9' : n ≤ 900 := by omega
    have hn63 : n < 9223372036854775808 := by omega
    obtain ⟨iI, hiI, hzI, hsI, hbI⟩ := info_parts infI
    have II := hide (And.intro hiI (And.intro hzI (And.intro hsI hbI)))
    obtain ⟨iP, hiP, hzP, hsP, hbP⟩ := info_parts infP
    have IP := hide (And.intro hiP (And.intro hzP (And.intro hsP hbP)))
    clear h9 hiI hzI hsI hbI hiP hzP hsP hbP
    obtain ⟨x, hx⟩ : ∃ x, rdO b = x := ⟨_, rfl⟩
    obtain ⟨er, her⟩ : ∃ x, rdE b = x := ⟨_, rfl⟩
    have HX := hide hx
    have HER := hide her
    have HXW := hide (show x.wf by rw [← hx]; exact rdO_wf b)
    clear hx her
    go_enter Try.func6, Try.ntmps6
    go_wp2_with fail
    refine (read_any b A n c _ HL.out HF.out.reads HB.out hc hn63).mono ?_
    rintro e w1 ⟨rfl, hb⟩
    rw [HX.out, HER.out]
    replace HF := hide (HF.out.step hb)
    clear hb
    go_wp2_with (first
      | (refine wpList_new rfl rfl 32 (.tmp 3) (.tmp 20) rfl rfl iI _ (.agg x.cells.toArray) x.cells.toArray II.out.1 II.out.2.1 (by rw [II.out.2.2.1]; rfl) rfl (by rw [II.out.2.2.1]; rfl) (all_one x.one) (by rfl) (by rfl) ?_
         intro w2 g2 G2 X2 L2
         replace HF := hide (HF.out.step L2)
         have HX2 := hide X2
         clear X2 L2)
      | fail)
    refine (rread_any b A n c _ HL.out HF.out.reads HB.out hc hn63).mono ?_
    rintro e w3 ⟨rfl, hb⟩
    rw [HX.out, HER.out]
    replace HF := hide (HF.out.step hb)
    replace HX2 := hide (HX2.out.below hb HX2.out.lt)
    clear hb
    go_wp2_with (first
      | (refine wpList_new rfl rfl 32 (.tmp 5) (.tmp 25) rfl rfl iI _ (.agg x.cells.toArray) x.cells.toArray II.out.1 II.out.2.1 (by rw [II.out.2.2.1]; rfl) rfl (by rw [II.out.2.2.1]; rfl) (all_one x.one) (by rfl) (by rfl) ?_
         intro w4 g4 G4 X4 L4
         replace HF := hide (HF.out.step L4)
         replace HX2 := hide (HX2.out.below L4 HX2.out.lt)
         have HX4 := hide X4
         clear X4 L4)
      | fail)
    refine (decode_any b A n c _ HL.out HF.out.reads HB.out hc hn63).mono ?_
    rintro e w5 ⟨A5, n5, c5, hc5, hn5, rfl, hi5, hb⟩
    replace HF := hide (HF.out.step hb)
    replace HX2 := hide (HX2.out.below hb HX2.out.lt)
    replace HX4 := hide (HX4.out.below hb HX4.out.lt)
    have HI5 := hide hi5
    clear hb hi5
    obtain ⟨ct, hct⟩ : ∃ v, (decR b).1.1 = v := ⟨_, rfl⟩
    obtain ⟨lt, hlt⟩ : ∃ v, (decR b).1.2 = v := ⟨_, rfl⟩
    obtain ⟨av, hav⟩ : ∃ v, (decR b).2.1 = v := ⟨_, rfl⟩
    obtain ⟨kv, hkv⟩ : ∃ v, (decR b).2.2 = v := ⟨_, rfl⟩
    rw [hct, hav, hkv]
    rw [hlt] at HI5
    have HD := hide (And.intro hct (And.intro hlt (And.intro hav hkv)))
    clear hct hlt hav hkv
    go_wp2_with fail
    have L6 : Below w5.heap.size w5 (w5.alloc (.cells #[.int .i64 ct, .slice A5 n5 c5] 24)) := (Below.refl _ _).alloc (Nat.le_refl _) _
    have X6 := Blk.new w5 24 #[.int .i64 ct, .slice A5 n5 c5]
    generalize w5.alloc (.cells #[.int .i64 ct, .slice A5 n5 c5] 24) = w6 at L6 X6 ⊢
    replace HF := hide (HF.out.step L6)
    replace HX2 := hide (HX2.out.below L6 HX2.out.lt)
    replace HX4 := hide (HX4.out.below L6 HX4.out.lt)
    replace HI5 := hide (HI5.out.up L6 L6.size)
    have HX6 := hide X6
    clear X6 L6
    refine (rdecode_any b A n c _ HL.out HF.out.reads HB.out hc hn63).mono ?_
    rintro e w7 ⟨A7, n7, c7, hc7, hn7, rfl, hi7, hb⟩
    rw [HD.out.1, HD.out.2.2.1, HD.out.2.2.2]
    rw [HD.out.2.1] at hi7
    replace HF := hide (HF.out.step hb)
    replace HX2 := hide (HX2.out.below hb HX2.out.lt)
    replace HX4 := hide (HX4.out.below hb HX4.out.lt)
    replace HX6 := hide (HX6.out.below hb HX6.out.lt)
    replace HI5 := hide (HI5.out.up hb hb.size)
    have HI7 := hide hi7
    clear hb hi7
    have hE := fun W => eql_id HXW.out HXW.out W
    rw [(eq_id_iff HXW.out HXW.out).2 rfl] at hE
    have hEH := hide hE
    clear hE
    go_upto_region 7 with fail
    have L8 : Below w7.heap.size w7 (w7.alloc (.cells #[.int .i64 ct, .slice A7 n7 c7] 24)) := (Below.refl _ _).alloc (Nat.le_refl _) _
    have X8 := Blk.new w7 24 #[.int .i64 ct, .slice A7 n7 c7]
    generalize w7.alloc (.cells #[.int .i64 ct, .slice A7 n7 c7] 24) = w8 at L8 X8 ⊢
    replace HF := hide (HF.out.step L8)
    replace HX2 := hide (HX2.out.below L8 HX2.out.lt)
    replace HX4 := hide (HX4.out.below L8 HX4.out.lt)
    replace HX6 := hide (HX6.out.below L8 HX6.out.lt)
    replace HI5 := hide (HI5.out.up L8 L8.size)
    replace HI7 := hide (HI7.out.up L8 L8.size)
    have HX8 := hide X8
    have hE := hEH.out
    clear X8 L8
    go_wp2_with (first
      | (refine wpList_load_at rfl 32 (.tmp 3) rfl ⟨g2, 0, none⟩ (by rfl) x.cells _ (blk_list HX2.out) Try.underlying32 rfl sizI ?_)
      | (refine wpList_load_at rfl 32 (.tmp 5) rfl ⟨g4, 0, none⟩ (by rfl) x.cells _ (blk_list HX4.out) Try.underlying32 rfl sizI ?_)
      | (refine wpList_load_atw (by rfl) 24 (.tmp 7) rfl ⟨w5.heap.size, 0, none⟩ (by rfl) [.int .i64 ct, .slice A5 n5 c5] _ (blk_list HX6.out) Try.underlying24 rfl (by kernel_rfl) ?_)
      | (refine wpList_load_atw (by rfl) 24 (.tmp 10) rfl ⟨w7.heap.size, 0, none⟩ (by rfl) [.int .i64 ct, .slice A7 n7 c7] _ (blk_list HX8.out) Try.underlying24 rfl (by kernel_rfl) ?_)
      | fail)
    refine (rsame_any ct ct A5 A7 n5 c5 n7 c7 lt lt _ HI5.out HI7.out hc5 hc7 (by omega) (by omega)).mono ?_
    rintro e w9 ⟨rfl, hb⟩
    rw [(sameB_eq HI5.out.2.1 HI7.out.2.1).2 ⟨rfl, rfl⟩]
    replace HF := hide (HF.out.step hb)
    clear hb
    go_wp2_with fail
    refine (wakes_any _).mono ?_
    rintro e w10 ⟨rfl, hb⟩
    replace HF := hide (HF.out.step hb)
    clear hb
    go_wp2
    go_ret
    exact ⟨rfl, HF.out.below⟩
end Go.Proofs.Ytopanomcbkhbnaa
