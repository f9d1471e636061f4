/-
  lathelaw28.wakes answers true. Conditions: those written in each statement.
-/
import Derived.Test.YtepagfkkjlbipaaGreatRr
set_option linter.unusedVariables false
set_option linter.unusedSimpArgs false
set_option maxHeartbeats 64000000
set_option maxRecDepth 100000
namespace Go.Proofs.YtepagfkkjlbipaaGreat
open Tryz
open Go.RowKit
def wkL : List ID := [⟨0, 11, 64, 0, true, 0, 1, 0, 0⟩, ⟨0, 0, 64, 0, false, 0, 0, 0, 2⟩, ⟨6, 0, 0, 0, false, 0, 0, 0, 0⟩]
def wkP1 : PS := ⟨P0.T ++ [constT 2], P0.D ++ [1]⟩
def wkP : PS := ⟨wkP1.T ++ [opT 0 64 1 11], wkP1.D ++ [2]⟩
def wkR : List Int := [12, 1, 2, 3, 4, 5, 6, 7, 8, 9, 10]
theorem wk_o1 : opV P0 11 64 0 1 = (P0, 1, 0) := opV_of (f := 3) (by kernel_rfl)
theorem wk_o2 : opV wkP1 0 64 1 11 = (wkP, 12, 0) := opV_of (f := 3) (by kernel_rfl)
theorem wk_n : putR P0 (constT (IntKind.u64.wrap 2)) = (wkP1, 11, 0) := by kernel_rfl
theorem wk_s1 : (SM.mk P0 R0 [] 0).step ⟨0, 11, 64, 0, true, 0, 1, 0, 0⟩ = ⟨P0, [1, 1, 2, 3, 4, 5, 6, 7, 8, 9, 10], [], 0⟩ := by
 show (let s := (SM.mk P0 R0 [] 0).keep (opV P0 11 64 0 1); s.1.set 0 s.2) = _
 rw [wk_o1]
 rfl
theorem wk_s2 : (SM.mk P0 [1, 1, 2, 3, 4, 5, 6, 7, 8, 9, 10] [] 0).step ⟨0, 0, 64, 0, false, 0, 0, 0, 2⟩ = ⟨wkP, wkR, [], 0⟩ := by
 show (let q := (SM.mk P0 [1, 1, 2, 3, 4, 5, 6, 7, 8, 9, 10] [] 0).keep (putR P0 (constT (IntKind.u64.wrap 2))); let s := q.1.keep (opV q.1.p 0 64 1 q.2); s.1.set 0 s.2) = _
 rw [wk_n]
 show (let s := (SM.mk wkP1 [1, 1, 2, 3, 4, 5, 6, 7, 8, 9, 10] [] 0).keep (opV wkP1 0 64 1 11); s.1.set 0 s.2) = _
 rw [wk_o2]
 rfl
theorem wk_go : goV P0 wkL 0 R0 = ⟨wkP, wkR, [], 0⟩ := by
 have e : insOf wkL (blkAt wkL 0) = wkL := by kernel_rfl
 unfold goV
 rw [e]
 show (((SM.mk P0 R0 [] 0).step ⟨0, 11, 64, 0, true, 0, 1, 0, 0⟩).step ⟨0, 0, 64, 0, false, 0, 0, 0, 2⟩).step ⟨6, 0, 0, 0, false, 0, 0, 0, 0⟩ = _
 rw [wk_s1, wk_s2]
 rfl
theorem wk_run : runV P0 0 wkL 0 R0 = ⟨wkP, wkR, [], ⟨0, 12, 0, 0⟩, 0⟩ := by
 have h1 : (chkP 0 wkL).2 = 0 := by kernel_rfl
 have h2 : askB P0 wkL 0 R0 = true := by kernel_rfl
 rw [run_go h1 h2, wk_go]
 have e : wkL.getD ((blkAt wkL 0).upto - 1).toNat noIns = ⟨6, 0, 0, 0, false, 0, 0, 0, 0⟩ := by kernel_rfl
 rw [e]
 rfl
def wkV : List Int := [0, 40, 0, 0, 0, 0, 0, 0, 0, 0, 0]
theorem wk_val : resV (evP wkP.T wkV 12) = (42, 0) := by kernel_rfl
theorem wakes_any (w : World) : Calls prog 6 #[] w fun e w' => e = .returned (.bool true) ∧ Below w.heap.size w w' := by
 go_enter func6, ntmps6
 go_wp2_with fail
 refine (new_any _).mono ?_
 rintro e w0 ⟨g, F0, rfl, hp, hb⟩
 have HF := Hd (fun b q => (hp.fb b q).1 : ∀ b, F0 b → w.heap.size ≤ b)
 have HB := Hd hb
 have HW := Hd hb
 have HQ := Hd (PG.refl hp)
 clear hp hb
 go_upto_region 3 with fail
 have hs0 : w0.heap.size = w0.heap.size := rfl
 obtain ⟨b0, hb0⟩ : ∃ k, w0.heap.size = k := ⟨_, rfl⟩
 rw [hb0]
 obtain ⟨w1, hw1⟩ : ∃ v, (w0.alloc (.cells (wkL.flatMap ID.cells).toArray 47)).alloc (.cells #[.int .i64 0, .slice (some ⟨b0, 0, none⟩) 3 3] 24) = v := ⟨_, rfl⟩
 show Code.wp prog _ _ _ ((w0.alloc (.cells (wkL.flatMap ID.cells).toArray 47)).alloc (.cells #[.int .i64 0, .slice (some ⟨b0, 0, none⟩) 3 3] 24))
 rw [hw1]
 have hb1 : Below w0.heap.size w0 w1 := by rw [← hw1]; exact ((Below.refl _ w0).alloc (Nat.le_refl _) _).alloc (by simp) _
 have HBL := Hd (show Blk w1 b0 47 (wkL.flatMap ID.cells).toArray by rw [← hw1, ← hb0]; exact (Blk.new w0 47 (wkL.flatMap ID.cells).toArray).alloc _)
 have HBP := Hd (show Blk w1 (b0 + 1) 24 #[.int .i64 0, .slice (some ⟨b0, 0, none⟩) 3 3] by
  rw [← hw1, ← hb0]
  have := Blk.new (w0.alloc (.cells (wkL.flatMap ID.cells).toArray 47)) 24 #[.int .i64 0, .slice (some ⟨w0.heap.size, 0, none⟩) 3 3]
  simpa using this)
 have HNF := Hd (fun q => by have := (HQ.out.pool.fb b0 q).2; omega : ¬ F0 b0)
 have HNP := Hd (fun q => by have := (HQ.out.pool.fb (b0 + 1) q).2; omega : ¬ F0 (b0 + 1))
 replace HQ := Hd (HQ.out.step hb1)
 replace HB := Hd (Nat.le_trans HB.out.size hb1.size)
 have HB0 := Hd hb0
 clear hw1 hb1 hs0 hb0
 go_wp2_with fail
 refine (start_any HQ.out.pool HB.out).mono ?_
 rintro e w2 ⟨rfl, F1, hp1⟩
 rw [start_empty] at hp1 ⊢
 have HBL1 := Hd (hp1.blk HBL.out HNF.out)
 have HBP1 := Hd (hp1.blk HBP.out HNP.out)
 replace HQ := Hd (HQ.out.trans hp1)
 replace HB := Hd (Nat.le_trans HB.out hp1.chg.size)
 clear hp1 HBL HBP HNF HNP
 go_upto_region 4 with (first
  | (refine wpList_store_new rfl 57 (.tmp 3) (.tmp 18) rfl _ (rgC R0) (.agg (rgC R0).toArray) (by rfl) (by rfl) rfl sizR (by rfl) (rgC_one _) ?_
     intro w3 G3 L3 Z3
     have HB3 := Hd G3
     have HL3 := Hd L3
     clear G3 L3 Z3)
  | fail)
 have hn3 : ¬ F1 w2.heap.size := fun q => by have := (HQ.out.pool.fb _ q).2; omega
 obtain ⟨b3, hb3⟩ : ∃ k, w2.heap.size = k := ⟨_, rfl⟩
 rw [hb3] at HB3 hn3 ⊢
 have HBL2 := Hd (And.intro (HBL1.out.1.below HL3.out HBL1.out.1.lt) HBL1.out.2)
 have HBP2 := Hd (And.intro (HBP1.out.1.below HL3.out HBP1.out.1.lt) HBP1.out.2)
 replace HQ := Hd (HQ.out.step HL3.out)
 replace HB := Hd (Nat.le_trans HB.out HL3.out.size)
 have HIN := Hd (show InsF w3 F1 (some ⟨b0, 0, none⟩) 3 wkL from ⟨rfl, by
  intro x hx
  simp only [wkL, List.mem_cons, List.not_mem_nil, or_false] at hx
  rcases hx with rfl | rfl | rfl <;> (unfold ID.wf I8 I64; dsimp only; omega), rfl, fun _ => ⟨_, rfl, HBL2.out.1.lt, HBL2.out.2, blk_list HBL2.out.1⟩⟩)
 have c20 : w3.cell? ⟨b0 + 1, 0, none⟩ = some (.int .i64 0) := HBP2.out.1.cell 0
 have c21 : w3.cell? ⟨b0 + 1, 1, none⟩ = some (.slice (some ⟨b0, 0, none⟩) 3 3) := HBP2.out.1.cell 1
 clear hb3 HL3 HBL1 HBP1 HBL2 HBP2
 go_wp2_with (first
  | (refine wpList_load_at rfl 57 (.tmp 3) rfl ⟨b3, 0, none⟩ (by rfl) (rgC R0) _ (blk_list HB3.out) underlying57 rfl sizR ?_)
  | fail)
 refine (srun_any HQ.out.pool HB.out 0 (some ⟨b0, 0, none⟩) 3 3 wkL HIN.out (Nat.le_refl _) (by omega) 0 (by unfold I64; omega) R0 rfl (fun r hr => has_i64 P0_good.1 (P0_good.2.2 r hr))).mono ?_
 rintro e w4 ⟨es, F2, rfl, hp2, hev, ho⟩
 rw [wk_run] at hp2 ⊢
 replace HQ := Hd (HQ.out.trans hp2)
 replace HB := Hd (Nat.le_trans HB.out hp2.chg.size)
 have HO := Hd ho
 clear hp2 hev ho c20 c21 HIN HB3 hn3
 go_upto_region 5 with (first
  | (refine wpList_store_new rfl 65 (.tmp 5) (.tmp 25) rfl _ (srcC wkR es ⟨0, 12, 0, 0⟩) (.agg (srcC wkR es ⟨0, 12, 0, 0⟩).toArray) (by rfl) (by rfl) rfl sizS (by rfl) (srcC_one HO.out _) ?_
     intro w5 G5 L5 Z5
     have HB5 := Hd G5
     have HL5 := Hd L5
     clear G5 L5 Z5)
  | fail)
 replace HQ := Hd (HQ.out.step HL5.out)
 replace HB := Hd (Nat.le_trans HB.out HL5.out.size)
 obtain ⟨b5, hb5⟩ : ∃ k, w4.heap.size = k := ⟨_, rfl⟩
 rw [hb5] at HB5 ⊢
 have c513 : w5.cell? ⟨b5, 13, none⟩ = some (.int .i64 12) := HB5.out.cell 13
 have HK5 := Hd (show w5.cell? ⟨b5, 12, none⟩ = some (.int .i8 0) from HB5.out.cell 12)
 have HL55 := HB5.out.lt
 clear hb5 HL5 HB5
 go_wp2_with fail
 have hbA := bl_alloc w5 (.cells (wkV.map (Value.int .u64)).toArray 31)
 replace HQ := Hd (HQ.out.step hbA)
 replace HB := Hd (Nat.le_trans HB.out hbA.size)
 refine (Eval_any (vs := wkV) (nn := 11) (c := 11) 12 (by unfold I64; omega) _ HQ.out.pool (reads_list w5 31 (wkV.map (Value.int .u64)) 11 rfl) rfl (Nat.le_refl _) (by omega) (fun v hv => by simp only [wkV, List.mem_cons, List.not_mem_nil, or_false] at hv; unfold U64; omega)).mono ?_
 rintro e w6 ⟨rfl, hb⟩
 rw [wk_val]
 have c512 : w6.cell? ⟨b5, 12, none⟩ = some (.int .i8 0) := (hb.cell (by simp; omega)).trans ((hbA.cell (by exact HL55)).trans HK5.out)
 replace HQ := Hd (HQ.out.step hb)
 clear hb hbA HK5 c513
 go_wp2
 go_ret
 exact ⟨rfl, HW.out.trans (HQ.out.chg.below (B := w.heap.size) (fun b q => HF.out b q) HW.out.size)⟩
end Go.Proofs.YtepagfkkjlbipaaGreat
