/-
  lathelaw28.wakes answers true. Conditions: those written in each statement.
  symbc's Run, Start, Entry where there is no pool. Conditions: those written in each statement.
-/
import Derived.Test.YtepagfkkjlbipaaGreatKaw
import Derived.Test.YtepagfkkjlbipaaGreatRr
import Derived.Test.YtepagfkkjlbipaaGreatUe
section
namespace Go.Proofs.YtepagfkkjlbipaaGreat
open Go.RowKit
set_option linter.unusedVariables false
set_option linter.unusedSimpArgs false
set_option maxRecDepth 100000
def wkL : List ID := [⟨0, 11, 64, 0, true, 0, 1, 0, 0⟩, ⟨0, 0, 64, 0, false, 0, 0, 0, 2⟩, ⟨6, 0, 0, 0, false, 0, 0, 0, 0⟩]
def wkP1 : PS := ⟨P0.T ++ [constT 2], P0.D ++ [1]⟩
def wkP : PS := ⟨wkP1.T ++ [opT 0 64 1 11], wkP1.D ++ [2]⟩
def wkR : List Int := [12, 1, 2, 3, 4, 5, 6, 7, 8, 9, 10]
theorem wk_o1 : opV P0 11 64 0 1 = (P0, 1, 0) := opV_of (f := 3) (by kernel_rfl)
theorem wk_o2 : opV wkP1 0 64 1 11 = (wkP, 12, 0) := opV_of (f := 3) (by kernel_rfl)
theorem wk_n : putR P0 (constT (IntKind.u64.wrap 2)) = (wkP1, 11, 0) := by kernel_rfl
theorem wk_s1 : (SM.mk P0 R0 [] 0).step ⟨0, 11, 64, 0, true, 0, 1, 0, 0⟩ = ⟨P0, [1, 1, 2, 3, 4, 5, 6, 7, 8, 9, 10], [], 0⟩ := by
 show (let s := (SM.mk P0 R0 [] 0).keep (opV P0 11 64 0 1); s.1.set 0 s.2) = _
 rw [wk_o1]
 rfl
theorem wk_s2 : (SM.mk P0 [1, 1, 2, 3, 4, 5, 6, 7, 8, 9, 10] [] 0).step ⟨0, 0, 64, 0, false, 0, 0, 0, 2⟩ = ⟨wkP, wkR, [], 0⟩ := by
 show (let q := (SM.mk P0 [1, 1, 2, 3, 4, 5, 6, 7, 8, 9, 10] [] 0).keep (putR P0 (constT (IntKind.u64.wrap 2))); let s := q.1.keep (opV q.1.p 0 64 1 q.2); s.1.set 0 s.2) = _
 rw [wk_n]
 show (let s := (SM.mk wkP1 [1, 1, 2, 3, 4, 5, 6, 7, 8, 9, 10] [] 0).keep (opV wkP1 0 64 1 11); s.1.set 0 s.2) = _
 rw [wk_o2]
 rfl
theorem wk_go : goV P0 wkL 0 R0 = ⟨wkP, wkR, [], 0⟩ := by
 have e : insOf wkL (blkAt wkL 0) = wkL := by kernel_rfl
 unfold goV
 rw [e]
 show (((SM.mk P0 R0 [] 0).step ⟨0, 11, 64, 0, true, 0, 1, 0, 0⟩).step ⟨0, 0, 64, 0, false, 0, 0, 0, 2⟩).step ⟨6, 0, 0, 0, false, 0, 0, 0, 0⟩ = _
 rw [wk_s1, wk_s2]
 rfl
theorem wk_run : runV P0 0 wkL 0 R0 = ⟨wkP, wkR, [], ⟨0, 12, 0, 0⟩, 0⟩ := by
 have h1 : (chkP 0 wkL).2 = 0 := by kernel_rfl
 have h2 : askB P0 wkL 0 R0 = true := by kernel_rfl
 rw [run_go h1 h2, wk_go]
 have e : wkL.getD ((blkAt wkL 0).upto - 1).toNat noIns = ⟨6, 0, 0, 0, false, 0, 0, 0, 0⟩ := by kernel_rfl
 rw [e]
 rfl
def wkV : List Int := [0, 40, 0, 0, 0, 0, 0, 0, 0, 0, 0]
theorem wk_val : resV (evP wkP.T wkV 12) = (42, 0) := by kernel_rfl
set_option maxHeartbeats 1000000 in
theorem wakes_any (w : World) : Calls Tryz.prog 6 #[] w fun e w' => e = .returned (.bool true) ∧ Below w.heap.size w w' := by
 go_enter Tryz.func6, Tryz.ntmps6
 go_wp2_with fail
 refine (new_any _).mono ?_
 rintro e w0 ⟨g, F0, rfl, hp, hb⟩
 have HF := hide (fun b q => (hp.fb b q).1 : ∀ b, F0 b → w.heap.size ≤ b)
 have HB := hide hb
 have HW := hide hb
 have HQ := hide (PG.refl hp)
 clear hp hb
 go_upto_region 3 with fail
 have hs0 : w0.heap.size = w0.heap.size := rfl
 obtain ⟨b0, hb0⟩ : ∃ k, w0.heap.size = k := ⟨_, rfl⟩
 rw [hb0]
 obtain ⟨w1, hw1⟩ : ∃ v, (w0.alloc (.cells (wkL.flatMap ID.cells).toArray 47)).alloc (.cells #[.int .i64 0, .slice (some ⟨b0, 0, none⟩) 3 3] 24) = v := ⟨_, rfl⟩
 show Code.wp Tryz.prog _ _ _ ((w0.alloc (.cells (wkL.flatMap ID.cells).toArray 47)).alloc (.cells #[.int .i64 0, .slice (some ⟨b0, 0, none⟩) 3 3] 24))
 rw [hw1]
 have hb1 : Below w0.heap.size w0 w1 := by rw [← hw1]; exact ((Below.refl _ w0).alloc (Nat.le_refl _) _).alloc (by simp) _
 have HBL := hide (show Blk w1 b0 47 (wkL.flatMap ID.cells).toArray by rw [← hw1, ← hb0]; exact (Blk.new w0 47 (wkL.flatMap ID.cells).toArray).alloc _)
 have HBP := hide (show Blk w1 (b0 + 1) 24 #[.int .i64 0, .slice (some ⟨b0, 0, none⟩) 3 3] by
  rw [← hw1, ← hb0]
  have := Blk.new (w0.alloc (.cells (wkL.flatMap ID.cells).toArray 47)) 24 #[.int .i64 0, .slice (some ⟨w0.heap.size, 0, none⟩) 3 3]
  simpa using this)
 have HNF := hide (fun q => by have := (HQ.out.pool.fb b0 q).2; omega : ¬ F0 b0)
 have HNP := hide (fun q => by have := (HQ.out.pool.fb (b0 + 1) q).2; omega : ¬ F0 (b0 + 1))
 replace HQ := hide (HQ.out.step hb1)
 replace HB := hide (Nat.le_trans HB.out.size hb1.size)
 have HB0 := hide hb0
 clear hw1 hb1 hs0 hb0
 go_wp2_with fail
 refine (start_any HQ.out.pool HB.out).mono ?_
 rintro e w2 ⟨rfl, F1, hp1⟩
 rw [start_empty] at hp1 ⊢
 have HBL1 := hide (hp1.blk HBL.out HNF.out)
 have HBP1 := hide (hp1.blk HBP.out HNP.out)
 replace HQ := hide (HQ.out.trans hp1)
 replace HB := hide (Nat.le_trans HB.out hp1.chg.size)
 clear hp1 HBL HBP HNF HNP
 go_upto_region 4 with (first
  | (refine wpList_store_new rfl 57 (.tmp 3) (.tmp 18) rfl _ (rgC R0) (.agg (rgC R0).toArray) (by rfl) (by rfl) rfl sizR (by rfl) (rgC_one _) ?_
     intro w3 G3 L3 Z3
     have HB3 := hide G3
     have HL3 := hide L3
     clear G3 L3 Z3)
  | fail)
 have hn3 : ¬ F1 w2.heap.size := fun q => by have := (HQ.out.pool.fb _ q).2; omega
 obtain ⟨b3, hb3⟩ : ∃ k, w2.heap.size = k := ⟨_, rfl⟩
 rw [hb3] at HB3 hn3 ⊢
 have HBL2 := hide (And.intro (HBL1.out.1.below HL3.out HBL1.out.1.lt) HBL1.out.2)
 have HBP2 := hide (And.intro (HBP1.out.1.below HL3.out HBP1.out.1.lt) HBP1.out.2)
 replace HQ := hide (HQ.out.step HL3.out)
 replace HB := hide (Nat.le_trans HB.out HL3.out.size)
 have HIN := hide (show InsF w3 F1 (some ⟨b0, 0, none⟩) 3 wkL from ⟨rfl, by
  intro x hx
  simp only [wkL, List.mem_cons, List.not_mem_nil, or_false] at hx
  rcases hx with rfl | rfl | rfl <;> (unfold ID.wf I8 I64; dsimp only; omega), rfl, fun _ => ⟨_, rfl, HBL2.out.1.lt, HBL2.out.2, blk_list HBL2.out.1⟩⟩)
 have c20 : w3.cell? ⟨b0 + 1, 0, none⟩ = some (.int .i64 0) := HBP2.out.1.cell 0
 have c21 : w3.cell? ⟨b0 + 1, 1, none⟩ = some (.slice (some ⟨b0, 0, none⟩) 3 3) := HBP2.out.1.cell 1
 clear hb3 HL3 HBL1 HBP1 HBL2 HBP2
 go_wp2_with (first
  | (refine wpList_load_at rfl 57 (.tmp 3) rfl ⟨b3, 0, none⟩ (by rfl) (rgC R0) _ (blk_list HB3.out) Tryz.underlying57 rfl sizR ?_)
  | fail)
 refine (srun_any HQ.out.pool HB.out 0 (some ⟨b0, 0, none⟩) 3 3 wkL HIN.out (Nat.le_refl _) (by omega) 0 (by unfold I64; omega) R0 rfl (fun r hr => has_i64 P0_good.1 (P0_good.2.2 r hr))).mono ?_
 rintro e w4 ⟨es, F2, rfl, hp2, hev, ho⟩
 rw [wk_run] at hp2 ⊢
 replace HQ := hide (HQ.out.trans hp2)
 replace HB := hide (Nat.le_trans HB.out hp2.chg.size)
 have HO := hide ho
 clear hp2 hev ho c20 c21 HIN HB3 hn3
 go_upto_region 5 with (first
  | (refine wpList_store_new rfl 65 (.tmp 5) (.tmp 25) rfl _ (srcC wkR es ⟨0, 12, 0, 0⟩) (.agg (srcC wkR es ⟨0, 12, 0, 0⟩).toArray) (by rfl) (by rfl) rfl sizS (by rfl) (srcC_one HO.out _) ?_
     intro w5 G5 L5 Z5
     have HB5 := hide G5
     have HL5 := hide L5
     clear G5 L5 Z5)
  | fail)
 replace HQ := hide (HQ.out.step HL5.out)
 replace HB := hide (Nat.le_trans HB.out HL5.out.size)
 obtain ⟨b5, hb5⟩ : ∃ k, w4.heap.size = k := ⟨_, rfl⟩
 rw [hb5] at HB5 ⊢
 have c513 : w5.cell? ⟨b5, 13, none⟩ = some (.int .i64 12) := HB5.out.cell 13
 have HK5 := hide (show w5.cell? ⟨b5, 12, none⟩ = some (.int .i8 0) from HB5.out.cell 12)
 have HL55 := HB5.out.lt
 clear hb5 HL5 HB5
 go_wp2_with fail
 have hbA := bl_alloc w5 (.cells (wkV.map (Value.int .u64)).toArray 31)
 replace HQ := hide (HQ.out.step hbA)
 replace HB := hide (Nat.le_trans HB.out hbA.size)
 refine (Eval_any (vs := wkV) (nn := 11) (c := 11) 12 (by unfold I64; omega) _ HQ.out.pool (reads_list w5 31 (wkV.map (Value.int .u64)) 11 rfl) rfl (Nat.le_refl _) (by omega) (fun v hv => by simp only [wkV, List.mem_cons, List.not_mem_nil, or_false] at hv; unfold U64; omega)).mono ?_
 rintro e w6 ⟨rfl, hb⟩
 rw [wk_val]
 have c512 : w6.cell? ⟨b5, 12, none⟩ = some (.int .i8 0) := (hb.cell (by simp; omega)).trans ((hbA.cell (by exact HL55)).trans HK5.out)
 replace HQ := hide (HQ.out.step hb)
 clear hb hbA HK5 c513
 go_wp2
 go_ret
 exact ⟨rfl, HW.out.trans (HQ.out.chg.below (B := w.heap.size) (fun b q => HF.out b q) HW.out.size)⟩
end Go.Proofs.YtepagfkkjlbipaaGreat
end
section
namespace Go.Proofs.YtepagfkkjlbipaaGreat
open Go.RowKit
set_option linter.unusedVariables false
set_option linter.unusedSimpArgs false
set_option maxRecDepth 100000
set_option maxHeartbeats 4000000 in
theorem srun_nil (c : Int) (A : Option Addr) (n cap : Nat) (block : Int) (regs : List Int) (w : World) :
  Calls Tryz.prog 18 #[.pointer none, .agg #[.int .i64 c, .slice A n cap], .int .i64 block, .agg (rgC regs).toArray] w fun e w' => e = .returned (.tuple #[.agg zeroS.toArray, .int .i64 1]) ∧ Below w.heap.size w w' := by
 have zs := zeroSV
 obtain ⟨w1, hw1⟩ : ∃ v, ((w.alloc (.cells #[.int .i64 c, .slice A n cap] 24)).alloc (.cells (rgC regs).toArray 57)).alloc (.cells zeroS.toArray 65) = v := ⟨_, rfl⟩
 have hb0 : Below w.heap.size w w1 := by rw [← hw1]; exact (((Below.refl _ w).alloc (Nat.le_refl _) _).alloc (by simp) _).alloc (by simp; omega) _
 have HB0 := hide hb0
 have HB8 := hide (show Blk w1 (w.heap.size + 1 + 1) 65 zeroS.toArray by
  rw [← hw1]
  have := Blk.new ((w.alloc (.cells #[.int .i64 c, .slice A n cap] 24)).alloc (.cells (rgC regs).toArray 57)) 65 zeroS.toArray
  simpa using this)
 obtain ⟨b5, hb5⟩ : ∃ k, w.heap.size = k := ⟨_, rfl⟩
 have HB5 := hide hb5
 rw [hb5] at HB8
 clear hb0
 go_enter Tryz.func18, Tryz.ntmps18
 go_wp2_with (first
  | (refine wpList_load_at rfl 65 (.tmp 8) rfl ⟨b5 + 1 + 1, 0, none⟩ (by rfl) zeroS _ (blk_list HB8.out) Tryz.underlying65 rfl sizS ?_)
  | (refine wpList_store_at rfl 65 (.tmp 8) (.tmp 21) rfl (b5 + 1 + 1) 0 65 zeroS zeroS (.agg zeroS.toArray) HB8.out (by rfl) (by rfl) rfl sizS (by rw [zeroS_len]; decide) zeroS_one ?_
     intro wq hBq hgq hsq
     have HBQ := hide hBq
     have HGQ := hide hgq
     clear hBq hgq hsq)
  | fail)
 have hrl := load_src HBQ.out rfl rfl
 refine bodyPost_ret (v := .tuple #[.agg zeroS.toArray, .int .i64 1]) ?_ rfl ⟨rfl, HB0.out.grown HGQ.out HB0.out.size (fun k e => by injection e with e; have := HB5.out; omega)⟩
 simp [results, Tryz.results18, Act.put, asAddr, Result.andThen, hrl]
set_option maxHeartbeats 4000000 in
theorem each_nil (f : Nat) (caps : Array Value) (he : EntersB f) (w : World) (H : ∀ W, Below w.heap.size w W → Calls Tryz.prog f (#[.int .i64 0] ++ caps) W fun e w' => e = .returned (.tuple #[.int .i64 0, .int .i64 1]) ∧ Below W.heap.size W w') :
  Calls Tryz.prog 34 #[.func (.func f) #[] caps] w fun e w' => e = .returned (.tuple #[.agg (rgC zeroRg).toArray, .int .i64 1]) ∧ Below w.heap.size w w' := by
 have he' : ∀ args w, (callFunc f args).run Tryz.prog w = .ok (.enter f args) w := he
 have hb0 : Below w.heap.size w (w.alloc (.cells (rgC zeroRg).toArray 57)) := (Below.refl _ w).alloc (Nat.le_refl _) _
 have HP := hide hb0
 have HB := hide (show Blk (w.alloc (.cells (rgC zeroRg).toArray 57)) w.heap.size 57 (rgC zeroRg).toArray from Blk.new w 57 (rgC zeroRg).toArray)
 have HH := hide H
 have zr := zeroR
 clear H hb0 he
 go_enter Tryz.func34, Tryz.ntmps34
 go_wp2
 obtain ⟨bx, hbx⟩ : ∃ k, w.heap.size = k := ⟨_, rfl⟩
 rw [hbx] at HB ⊢
 have HBX := hide hbx
 clear hbx
 generalize w.alloc (.cells (rgC zeroRg).toArray 57) = w0 at HP HB ⊢
 go_loopw [3, 5] (fun v i wr => i = .int .i64 0 ∧ v = .int .i64 0 ∧ Hid (Below w.heap.size w wr ∧ Blk wr bx 57 (rgC zeroRg).toArray)) (fun _ i _ => 0)
 case atStart => exact ⟨rfl, rfl, HP.out, HB.out⟩
 case round =>
  obtain ⟨rfl, rfl, HX⟩ := hrel
  rename World => wr
  clear HP HB
  have HC := hide (HH.out wr HX.out.1)
  go_wp2_with fail
  refine HC.out.mono ?_
  rintro e w1 ⟨rfl, hb⟩
  have HP2 := hide (HX.out.1.trans (hb.mono HX.out.1.size))
  have HB2 := hide (HX.out.2.below hb HX.out.2.lt)
  clear hb HC HX
  have ck : w1.cell? ⟨bx, 0, none⟩ = some (.int .i64 0) := HB2.out.cell 0
  have fk := HB2.out.frozen 0
  have HB3 := hide (show Blk (w1.setCell ⟨bx, 0, none⟩ (.int .i64 0)) bx 57 (rgC zeroRg).toArray from HB2.out.set_ 0 (.int .i64 0))
  have HG3 := hide (show w1.grownBy (w1.setCell ⟨bx, 0, none⟩ (.int .i64 0)) (some bx) from ⟨rfl, rfl, rfl, by simp [World.setCell], fun i _ hne => Below.heap_setCell w1 ⟨bx, 0, none⟩ _ i (fun e => hne (by rw [e]))⟩)
  have qb := build_zr
  go_wp2_with (first
   | (refine wpList_store_at rfl 57 (.tmp 2) (.tmp 18) rfl bx 0 57 (rgC zeroRg) (rgC zeroRg) (.agg (rgC zeroRg).toArray) HB3.out (by rfl) (by rfl) rfl sizR (by simp [rgC, zeroRg]) (rgC_one _) ?_
      intro wq hBq hgq hsq
      have HBQ := hide hBq
      have HGQ := hide hgq
      clear hBq hgq hsq)
   | fail)
  have hov : overC (rgC zeroRg) 0 (rgC zeroRg) = rgC zeroRg := by
   unfold overC
   rw [List.take_zero, List.nil_append, Nat.zero_add, List.drop_of_length_le (by simp [rgC, zeroRg]), List.append_nil]
  have hx8 := HBQ.out
  rw [hov] at hx8
  have hrl := run_loadVar_at (P := Tryz.prog) wq ⟨bx, 0, none⟩ 57 (rgC zeroRg) _ (blk_list hx8) Tryz.underlying57 rfl sizR
  refine bodyPost_ret (v := .tuple #[.agg (rgC zeroRg).toArray, .int .i64 1]) ?_ rfl ⟨rfl, (HP2.out.grown HG3.out HP2.out.size (fun k e => by injection e with e; have := HBX.out; omega)).grown HGQ.out (Nat.le_trans HP2.out.size HG3.out.size) (fun k e => by injection e with e; have := HBX.out; omega)⟩
  simp [results, Tryz.results34, Act.put, asAddr, Result.andThen, hrl]
theorem start1_nil (W : World) (bp : Nat) (hb : Blk W bp 50 #[.pointer none]) :
  Calls Tryz.prog 35 #[.int .i64 0, .pointer (some ⟨bp, 0, none⟩)] W fun e w' => e = .returned (.tuple #[.int .i64 0, .int .i64 1]) ∧ Below W.heap.size W w' := by
 have c0 := hb.cell 0
 simp at c0
 clear hb
 go_enter Tryz.func35, Tryz.ntmps35
 go_wp2_with fail
 refine (var_nil 0 64 _).mono ?_
 rintro e w1 ⟨rfl, rfl⟩
 go_wp2
 go_ret2
 exact ⟨rfl, Below.refl _ _⟩
set_option maxHeartbeats 1000000 in
theorem start_nil (w : World) : Calls Tryz.prog 14 #[.pointer none] w fun e w' => e = .returned (.tuple #[.agg (rgC zeroRg).toArray, .int .i64 1]) ∧ Below w.heap.size w w' := by
 have zr := zeroR
 obtain ⟨w1, hw1⟩ : ∃ v, (w.alloc (.cells #[.pointer none] 50)).alloc (.cells (rgC zeroRg).toArray 57) = v := ⟨_, rfl⟩
 have hb0 : Below w.heap.size w w1 := by rw [← hw1]; exact ((Below.refl _ w).alloc (Nat.le_refl _) _).alloc (by simp) _
 have HP := hide hb0
 have HB := hide (show Blk w1 w.heap.size 50 #[.pointer none] by rw [← hw1]; exact (Blk.new w 50 #[.pointer none]).alloc _)
 have HO := hide (show Blk w1 (w.heap.size + 1) 57 (rgC zeroRg).toArray by rw [← hw1]; exact Blk.new (w.alloc (.cells #[.pointer none] 50)) 57 (rgC zeroRg).toArray |> fun q => by simpa using q)
 have HC := hide (each_nil 35 #[.pointer (some ⟨w.heap.size, 0, none⟩)] enters_start w1 (fun W hW => start1_nil W w.heap.size (HB.out.below hW HB.out.lt)))
 clear hb0
 go_enter Tryz.func14, Tryz.ntmps14
 go_wp2_with fail
 refine HC.out.mono ?_
 rintro e w2 ⟨rfl, hb⟩
 have HP2 := hide (HP.out.trans (hb.mono HP.out.size))
 have HO2 := hide (HO.out.below hb HO.out.lt)
 clear hb hw1 HC HP HB HO
 go_wp2_with (first
  | (refine wpList_store_at rfl 57 (.tmp 2) (.tmp 6) rfl (w.heap.size + 1) 0 57 (rgC zeroRg) (rgC zeroRg) (.agg (rgC zeroRg).toArray) HO2.out (by rfl) (by rfl) rfl sizR (by simp [rgC, zeroRg]) (rgC_one _) ?_
     intro wq hBq hgq hsq
     have HBQ := hide hBq
     have HGQ := hide hgq
     clear hBq hgq hsq)
  | fail)
 have hov : overC (rgC zeroRg) 0 (rgC zeroRg) = rgC zeroRg := by
  unfold overC
  rw [List.take_zero, List.nil_append, Nat.zero_add, List.drop_of_length_le (by simp [rgC, zeroRg]), List.append_nil]
 have hx8 := HBQ.out
 rw [hov] at hx8
 have hrl := run_loadVar_at (P := Tryz.prog) wq ⟨w.heap.size + 1, 0, none⟩ 57 (rgC zeroRg) _ (blk_list hx8) Tryz.underlying57 rfl sizR
 refine bodyPost_ret (v := .tuple #[.agg (rgC zeroRg).toArray, .int .i64 1]) ?_ rfl ⟨rfl, HP2.out.grown HGQ.out HP2.out.size (fun k e => by injection e with e; omega)⟩
 simp [results, Tryz.results14, Act.put, asAddr, Result.andThen, hrl]
theorem entry1_nil (W : World) (bp bf : Nat) (hb : Blk W bp 50 #[.pointer none]) (hf : Blk W bf 83 firstL.toArray) :
  Calls Tryz.prog 38 #[.int .i64 0, .pointer (some ⟨bp, 0, none⟩), .pointer (some ⟨bf, 0, none⟩)] W fun e w' => e = .returned (.tuple #[.int .i64 0, .int .i64 1]) ∧ Below W.heap.size W w' := by
 have c0 := hb.cell 0
 simp at c0
 have cf : W.cell? ⟨bf, 0, none⟩ = some (.int .u64 0) := hf.cell 0
 clear hb hf
 go_enter Tryz.func38, Tryz.ntmps38
 go_upto_region 1 with fail
 go_region_with (first
  | (go_at_call 39; refine (const_nil 0 _).mono ?_; rintro e w' ⟨rfl, rfl⟩))
 all_goals
  go_wp2
  go_ret2
  exact ⟨rfl, (Below.refl _ _).drew⟩
set_option maxHeartbeats 1000000 in
theorem entry_nil (w : World) : Calls Tryz.prog 16 #[.pointer none] w fun e w' => e = .returned (.tuple #[.agg (rgC zeroRg).toArray, .int .i64 1]) ∧ Below w.heap.size w w' := by
 have zr := zeroR
 have qf := build_first
 obtain ⟨w1, hw1⟩ : ∃ v, (w.alloc (.cells #[.pointer none] 50)).alloc (.cells (rgC zeroRg).toArray 57) = v := ⟨_, rfl⟩
 have hs1 : w1.heap.size = w.heap.size + 2 := by rw [← hw1]; simp
 have hb0 : Below w.heap.size w w1 := by rw [← hw1]; exact ((Below.refl _ w).alloc (Nat.le_refl _) _).alloc (by simp) _
 have HP0 := hide hb0
 have HB0 := hide (show Blk w1 w.heap.size 50 #[.pointer none] by rw [← hw1]; exact (Blk.new w 50 #[.pointer none]).alloc _)
 have HO0 := hide (show Blk w1 (w.heap.size + 1) 57 (rgC zeroRg).toArray by rw [← hw1]; exact Blk.new (w.alloc (.cells #[.pointer none] 50)) 57 (rgC zeroRg).toArray |> fun q => by simpa using q)
 clear hb0
 go_enter Tryz.func16, Tryz.ntmps16
 go_upto_region 1 with fail
 clear hw1
 have HS1 := hide hs1
 clear hs1
 go_wp2_with (first
  | (refine wpList_store_new rfl 83 (.tmp 4) (.tmp 5) rfl _ firstL (.agg firstL.toArray) (by rfl) (by rfl) rfl sizF (by rfl) firstL_one ?_
     intro w3 X3 L3 S3
     have HP := hide (HP0.out.trans (L3.mono HP0.out.size))
     have HB := hide (HB0.out.below L3 HB0.out.lt)
     have HO := hide (HO0.out.below L3 HO0.out.lt)
     have HFB := hide X3
     clear X3 L3 S3)
  | fail)
 clear HP0 HB0 HO0
 obtain ⟨bf, hbf⟩ : ∃ k, w1.heap.size = k := ⟨_, rfl⟩
 rw [hbf] at HFB ⊢
 clear hbf HS1
 have HC := hide (each_nil 38 #[.pointer (some ⟨w.heap.size, 0, none⟩), .pointer (some ⟨bf, 0, none⟩)] enters_entry w3 (fun W hW => entry1_nil W w.heap.size bf (HB.out.below hW HB.out.lt) (HFB.out.below hW HFB.out.lt)))
 go_wp2_with fail
 refine HC.out.mono ?_
 rintro e w2 ⟨rfl, hb⟩
 have HP2 := hide (HP.out.trans (hb.mono HP.out.size))
 have HO2 := hide (HO.out.below hb HO.out.lt)
 clear hb HC HP HB HO HFB
 go_wp2_with (first
  | (refine wpList_store_at rfl 57 (.tmp 2) (.tmp 8) rfl (w.heap.size + 1) 0 57 (rgC zeroRg) (rgC zeroRg) (.agg (rgC zeroRg).toArray) HO2.out (by rfl) (by rfl) rfl sizR (by simp [rgC, zeroRg]) (rgC_one _) ?_
     intro wq hBq hgq hsq
     have HBQ := hide hBq
     have HGQ := hide hgq
     clear hBq hgq hsq)
  | fail)
 have hov : overC (rgC zeroRg) 0 (rgC zeroRg) = rgC zeroRg := by
  unfold overC
  rw [List.take_zero, List.nil_append, Nat.zero_add, List.drop_of_length_le (by simp [rgC, zeroRg]), List.append_nil]
 have hx8 := HBQ.out
 rw [hov] at hx8
 have hrl := run_loadVar_at (P := Tryz.prog) wq ⟨w.heap.size + 1, 0, none⟩ 57 (rgC zeroRg) _ (blk_list hx8) Tryz.underlying57 rfl sizR
 refine bodyPost_ret (v := .tuple #[.agg (rgC zeroRg).toArray, .int .i64 1]) ?_ rfl ⟨rfl, HP2.out.grown HGQ.out HP2.out.size (fun k e => by injection e with e; omega)⟩
 simp [results, Tryz.results16, Act.put, asAddr, Result.andThen, hrl]
end Go.Proofs.YtepagfkkjlbipaaGreat
end
