/-
  Contracts of norm.Eval and of the laws' wakes. Conditions: those written in each statement.
  lathelaw28.wakes answers true. Conditions: those written in each statement.
  The start made again; what lies on while a pool goes on. Conditions: those written in each statement.
  Arithmetic that a goto cuts in two comes to the same: in plain words. Conditions: those written in each statement.
  A program that is put together in a variable of the call's own. Conditions: those written in each statement.
-/
import Derived.Test.YtepagfkkjlbipaaUc
import Derived.Test.YtepagfkkjlbipaaNs
import Derived.Test.YtepagfkkjlbipaaKay
import Derived.Test.YtepagfkkjlbipaaRr
import Derived.Test.YtepagfkkjlbipaaKac
import Derived.Test.YtepagfkkjlbipaaKae
section
namespace Go.Proofs.Ytepagfkkjlbipaa
open Go.RowKit
set_option linter.unusedVariables false
set_option linter.unusedSimpArgs false
set_option maxRecDepth 100000
section
variable {base g nn c B gm : Nat} {F : Nat → Prop} {p : PS} {vs : List Int} {A : Option Addr}
theorem eval_all : ∀ (N : Nat) (n : Int), I64 n → n.toNat < N → EvC base g F p vs A nn c B gm n := by
  intro N
  induction N with
  | zero => intro n hI h; omega
  | succ N ih =>
    intro n hI h
    exact eval_step n hI fun k h0 h1 => ih k (by unfold I64 at *; omega) (by omega)
set_option maxHeartbeats 1000000 in
/-- Eval: a term's value, of the variables that came in. -/
theorem Eval_any (n : Int) (hI : I64 n) (W : World) (h : PoolAt W base F g p) (hr : Reads W W.heap.size 1 A nn (vs.map (Value.int .u64))) (hl : vs.length = nn) (hc : nn ≤ c) (hs : nn < 9223372036854775808) (hu : ∀ v ∈ vs, U64 v) :
    Calls Try.prog 13 #[.pointer (some ⟨g, 0, none⟩), .int .i64 n, .slice A nn c] W fun e w' => e = .returned (.tuple #[.int .u64 (resV (evP p.T vs n)).1, .int .i64 (resV (evP p.T vs n)).2]) ∧ Below W.heap.size W w' := by
  have HP := hide h
  have HR := hide hr
  have HX := hide (And.intro hl (And.intro hc (And.intro hs hu)))
  have HI := hide hI
  clear h hr hl hc hs hu hI
  go_enter Try.func13, Try.ntmps13
  go_wp2_with (first
    | (refine wpList_makeMap (Value.int .i64) I64 3 rfl 83 rfl ?_
       intro w1 gm hgm hm hb
       have HM := hide hm
       have HG := hide hgm
       have HB := hide hb
       clear hm hb hgm)
    | fail)
  have hF : EvF base g F p vs A nn c W.heap.size gm [] w1 :=
    ⟨HP.out.below HB.out, HR.out.below HB.out, HX.out.1, HX.out.2.1, HX.out.2.2.1, HX.out.2.2.2, HM.out.congr fun x => rfl, ⟨fun q => by have := (HP.out.fb _ q).2; have := HG.out; omega, HG.out⟩, List.nodup_nil, fun i hi => absurd hi (by simp), fun i hi => absurd hi (by simp)⟩
  have hall := eval_all (base := base) (g := g) (F := F) (p := p) (vs := vs) (A := A) (nn := nn) (c := c) (B := W.heap.size) (gm := gm) (n.toNat + 1) n HI.out (by omega) [] w1 hF
  refine hall.mono ?_
  rintro e w2 ⟨L, rfl, _, hc, _⟩
  have HC := hide (HB.out.trans (hc.below (B := W.heap.size) (fun b q => q ▸ HG.out) HB.out.size))
  clear hF hall hc
  go_wp2
  go_ret2
  exact ⟨rfl, HC.out⟩
end
/-- What the document says of x + 3 + 4, and of x Xor x. -/
def wT1 : List TD := [varT 0 64]
def wT4 : List TD := [varT 0 64, constT 3, constT 4, constT 7]
def wT5 : List TD := [varT 0 64, constT 3, constT 4, constT 7, opT 0 64 0 1]
def wT6 : List TD := [varT 0 64, constT 3, constT 4, constT 7, opT 0 64 0 1, opT 0 64 0 3]
def wT7 : List TD := [varT 0 64, constT 3, constT 4, constT 7, opT 0 64 0 1, opT 0 64 0 3, constT 0]
end Go.Proofs.Ytepagfkkjlbipaa
end
section
namespace Go.Proofs.Ytepagfkkjlbipaa
open Go.RowKit
set_option linter.unusedVariables false
set_option linter.unusedSimpArgs false
set_option maxRecDepth 100000
def wkL : List ID := [⟨0, 11, 64, 0, true, 0, 1, 0, 0⟩, ⟨0, 0, 64, 0, false, 0, 0, 0, 2⟩, ⟨6, 0, 0, 0, false, 0, 0, 0, 0⟩]
def wkP1 : PS := ⟨P0.T ++ [constT 2], P0.D ++ [1]⟩
def wkP : PS := ⟨wkP1.T ++ [opT 0 64 1 11], wkP1.D ++ [2]⟩
def wkR : List Int := [12, 1, 2, 3, 4, 5, 6, 7, 8, 9, 10]
theorem wk_o1 : opV P0 11 64 0 1 = (P0, 1, 0) := opV_of (f := 3) (by kernel_rfl)
theorem wk_o2 : opV wkP1 0 64 1 11 = (wkP, 12, 0) := opV_of (f := 3) (by kernel_rfl)
theorem wk_n : putR P0 (constT (IntKind.u64.wrap 2)) = (wkP1, 11, 0) := by kernel_rfl
theorem wk_s1 : (SM.mk P0 R0 [] 0).step ⟨0, 11, 64, 0, true, 0, 1, 0, 0⟩ = ⟨P0, [1, 1, 2, 3, 4, 5, 6, 7, 8, 9, 10], [], 0⟩ := by
  show (let s := (SM.mk P0 R0 [] 0).keep (opV P0 11 64 0 1); s.1.set 0 s.2) = _
  rw [wk_o1]
  rfl
theorem wk_s2 : (SM.mk P0 [1, 1, 2, 3, 4, 5, 6, 7, 8, 9, 10] [] 0).step ⟨0, 0, 64, 0, false, 0, 0, 0, 2⟩ = ⟨wkP, wkR, [], 0⟩ := by
  show (let q := (SM.mk P0 [1, 1, 2, 3, 4, 5, 6, 7, 8, 9, 10] [] 0).keep (putR P0 (constT (IntKind.u64.wrap 2))); let s := q.1.keep (opV q.1.p 0 64 1 q.2); s.1.set 0 s.2) = _
  rw [wk_n]
  show (let s := (SM.mk wkP1 [1, 1, 2, 3, 4, 5, 6, 7, 8, 9, 10] [] 0).keep (opV wkP1 0 64 1 11); s.1.set 0 s.2) = _
  rw [wk_o2]
  rfl
theorem wk_go : goV P0 wkL 0 R0 = ⟨wkP, wkR, [], 0⟩ := by
  have e : insOf wkL (blkAt wkL 0) = wkL := by kernel_rfl
  unfold goV
  rw [e]
  show (((SM.mk P0 R0 [] 0).step ⟨0, 11, 64, 0, true, 0, 1, 0, 0⟩).step ⟨0, 0, 64, 0, false, 0, 0, 0, 2⟩).step ⟨6, 0, 0, 0, false, 0, 0, 0, 0⟩ = _
  rw [wk_s1, wk_s2]
  rfl
theorem wk_run : runV P0 0 wkL 0 R0 = ⟨wkP, wkR, [], ⟨0, 12, 0, 0⟩, 0⟩ := by
  have h1 : (chkP 0 wkL).2 = 0 := by kernel_rfl
  have h2 : askB P0 wkL 0 R0 = true := by kernel_rfl
  rw [run_go h1 h2, wk_go]
  have e : wkL.getD ((blkAt wkL 0).upto - 1).toNat noIns = ⟨6, 0, 0, 0, false, 0, 0, 0, 0⟩ := by kernel_rfl
  rw [e]
  rfl
def wkV : List Int := [0, 40, 0, 0, 0, 0, 0, 0, 0, 0, 0]
theorem wk_val : resV (evP wkP.T wkV 12) = (42, 0) := by kernel_rfl
set_option maxHeartbeats 1000000 in
theorem wakes_any (w : World) : Calls Try.prog 6 #[] w fun e w' => e = .returned (.bool true) ∧ Below w.heap.size w w' := by
  go_enter Try.func6, Try.ntmps6
  go_wp2_with fail
  refine (new_any _).mono ?_
  rintro e w0 ⟨g, F0, rfl, hp, hb⟩
  have HF := hide (fun b q => (hp.fb b q).1 : ∀ b, F0 b → w.heap.size ≤ b)
  have HB := hide hb
  have HW := hide hb
  have HQ := hide (PG.refl hp)
  clear hp hb
  go_upto_region 3 with fail
  have hs0 : w0.heap.size = w0.heap.size := rfl
  obtain ⟨b0, hb0⟩ : ∃ k, w0.heap.size = k := ⟨_, rfl⟩
  rw [hb0]
  obtain ⟨w1, hw1⟩ : ∃ v, (w0.alloc (.cells (wkL.flatMap ID.cells).toArray 26)).alloc (.cells #[.int .i64 0, .slice (some ⟨b0, 0, none⟩) 3 3] 29) = v := ⟨_, rfl⟩
  show Code.wp Try.prog _ _ _ ((w0.alloc (.cells (wkL.flatMap ID.cells).toArray 26)).alloc (.cells #[.int .i64 0, .slice (some ⟨b0, 0, none⟩) 3 3] 29))
  rw [hw1]
  have hb1 : Below w0.heap.size w0 w1 := by rw [← hw1]; exact ((Below.refl _ w0).alloc (Nat.le_refl _) _).alloc (by simp) _
  have HBL := hide (show Blk w1 b0 26 (wkL.flatMap ID.cells).toArray by rw [← hw1, ← hb0]; exact (Blk.new w0 26 (wkL.flatMap ID.cells).toArray).alloc _)
  have HBP := hide (show Blk w1 (b0 + 1) 29 #[.int .i64 0, .slice (some ⟨b0, 0, none⟩) 3 3] by
    rw [← hw1, ← hb0]
    have := Blk.new (w0.alloc (.cells (wkL.flatMap ID.cells).toArray 26)) 29 #[.int .i64 0, .slice (some ⟨w0.heap.size, 0, none⟩) 3 3]
    simpa using this)
  have HNF := hide (fun q => by have := (HQ.out.pool.fb b0 q).2; omega : ¬ F0 b0)
  have HNP := hide (fun q => by have := (HQ.out.pool.fb (b0 + 1) q).2; omega : ¬ F0 (b0 + 1))
  replace HQ := hide (HQ.out.step hb1)
  replace HB := hide (Nat.le_trans HB.out.size hb1.size)
  have HB0 := hide hb0
  clear hw1 hb1 hs0 hb0
  go_wp2_with fail
  refine (start_any HQ.out.pool HB.out).mono ?_
  rintro e w2 ⟨rfl, F1, hp1⟩
  rw [start_empty] at hp1 ⊢
  have HBL1 := hide (hp1.blk HBL.out HNF.out)
  have HBP1 := hide (hp1.blk HBP.out HNP.out)
  replace HQ := hide (HQ.out.trans hp1)
  replace HB := hide (Nat.le_trans HB.out hp1.chg.size)
  clear hp1 HBL HBP HNF HNP
  go_upto_region 4 with (first
    | (refine wpList_store_new rfl 32 (.tmp 3) (.tmp 18) rfl _ (rgC R0) (.agg (rgC R0).toArray) (by rfl) (by rfl) rfl sizR (by rfl) (rgC_one _) ?_
       intro w3 G3 L3 Z3
       have HB3 := hide G3
       have HL3 := hide L3
       clear G3 L3 Z3)
    | fail)
  have hn3 : ¬ F1 w2.heap.size := fun q => by have := (HQ.out.pool.fb _ q).2; omega
  obtain ⟨b3, hb3⟩ : ∃ k, w2.heap.size = k := ⟨_, rfl⟩
  rw [hb3] at HB3 hn3 ⊢
  have HBL2 := hide (And.intro (HBL1.out.1.below HL3.out HBL1.out.1.lt) HBL1.out.2)
  have HBP2 := hide (And.intro (HBP1.out.1.below HL3.out HBP1.out.1.lt) HBP1.out.2)
  replace HQ := hide (HQ.out.step HL3.out)
  replace HB := hide (Nat.le_trans HB.out HL3.out.size)
  have HIN := hide (show InsF w3 F1 (some ⟨b0, 0, none⟩) 3 wkL from ⟨rfl, by
    intro x hx
    simp only [wkL, List.mem_cons, List.not_mem_nil, or_false] at hx
    rcases hx with rfl | rfl | rfl <;> (unfold ID.wf I8 I64; dsimp only; omega), rfl, fun _ => ⟨_, rfl, HBL2.out.1.lt, HBL2.out.2, blk_list HBL2.out.1⟩⟩)
  have c20 : w3.cell? ⟨b0 + 1, 0, none⟩ = some (.int .i64 0) := HBP2.out.1.cell 0
  have c21 : w3.cell? ⟨b0 + 1, 1, none⟩ = some (.slice (some ⟨b0, 0, none⟩) 3 3) := HBP2.out.1.cell 1
  clear hb3 HL3 HBL1 HBP1 HBL2 HBP2
  go_wp2_with (first
    | (refine wpList_load_at rfl 32 (.tmp 3) rfl ⟨b3, 0, none⟩ (by rfl) (rgC R0) _ (blk_list HB3.out) Try.underlying32 rfl sizR ?_)
    | fail)
  refine (srun_any HQ.out.pool HB.out 0 (some ⟨b0, 0, none⟩) 3 3 wkL HIN.out (Nat.le_refl _) (by omega) 0 (by unfold I64; omega) R0 rfl (fun r hr => has_i64 P0_good.1 (P0_good.2.2 r hr))).mono ?_
  rintro e w4 ⟨es, F2, rfl, hp2, hev, ho⟩
  rw [wk_run] at hp2 ⊢
  replace HQ := hide (HQ.out.trans hp2)
  replace HB := hide (Nat.le_trans HB.out hp2.chg.size)
  have HO := hide ho
  clear hp2 hev ho c20 c21 HIN HB3 hn3
  go_upto_region 5 with (first
    | (refine wpList_store_new rfl 40 (.tmp 5) (.tmp 25) rfl _ (srcC wkR es ⟨0, 12, 0, 0⟩) (.agg (srcC wkR es ⟨0, 12, 0, 0⟩).toArray) (by rfl) (by rfl) rfl sizS (by rfl) (srcC_one HO.out _) ?_
       intro w5 G5 L5 Z5
       have HB5 := hide G5
       have HL5 := hide L5
       clear G5 L5 Z5)
    | fail)
  replace HQ := hide (HQ.out.step HL5.out)
  replace HB := hide (Nat.le_trans HB.out HL5.out.size)
  obtain ⟨b5, hb5⟩ : ∃ k, w4.heap.size = k := ⟨_, rfl⟩
  rw [hb5] at HB5 ⊢
  have c513 : w5.cell? ⟨b5, 13, none⟩ = some (.int .i64 12) := HB5.out.cell 13
  have HK5 := hide (show w5.cell? ⟨b5, 12, none⟩ = some (.int .i8 0) from HB5.out.cell 12)
  have HL55 := HB5.out.lt
  clear hb5 HL5 HB5
  go_wp2_with fail
  have hbA := bl_alloc w5 (.cells (wkV.map (Value.int .u64)).toArray 46)
  replace HQ := hide (HQ.out.step hbA)
  replace HB := hide (Nat.le_trans HB.out hbA.size)
  refine (Eval_any (vs := wkV) (nn := 11) (c := 11) 12 (by unfold I64; omega) _ HQ.out.pool (reads_list w5 46 (wkV.map (Value.int .u64)) 11 rfl) rfl (Nat.le_refl _) (by omega) (fun v hv => by simp only [wkV, List.mem_cons, List.not_mem_nil, or_false] at hv; unfold U64; omega)).mono ?_
  rintro e w6 ⟨rfl, hb⟩
  rw [wk_val]
  have c512 : w6.cell? ⟨b5, 12, none⟩ = some (.int .i8 0) := (hb.cell (by simp; omega)).trans ((hbA.cell (by exact HL55)).trans HK5.out)
  replace HQ := hide (HQ.out.step hb)
  clear hb hbA HK5 c513
  go_wp2
  go_ret
  exact ⟨rfl, HW.out.trans (HQ.out.chg.below (B := w.heap.size) (fun b q => HF.out b q) HW.out.size)⟩
end Go.Proofs.Ytepagfkkjlbipaa
end
section
namespace Go.Proofs.Ytepagfkkjlbipaa
open Go.RowKit
set_option linter.unusedVariables false
set_option linter.unusedSimpArgs false
set_option maxRecDepth 100000
section
variable {w w' : World} {base g : Nat} {F F' G : Nat → Prop} {p : PS} {s : Value} {l : List EvD}
theorem EvsAt.pg (h : EvsAt w F s l) (k : PG base g F w F' p w') : EvsAt w' F' s l := h.chg k.chg (fun b q => .inl q) (fun b q => k.new b q)
theorem EvsAt.step (h : EvsAt w F s l) (hb : Below w.heap.size w w') : EvsAt w' F s l := h.chg (Chg.of_below hb) (fun k q => .inr q) (fun k q => .inl q)
theorem EvsAt.less (h : EvsAt w G s l) (hG : ∀ b, F b → G b) : EvsAt w F s l := h.chg (H := fun _ => False) (Chg.refl _ w) (fun _ q => q.elim) (fun b q => .inl (hG b q))
end
end Go.Proofs.Ytepagfkkjlbipaa
end
section
namespace Go.Proofs.Ytepagfkkjlbipaa
open Go.RowKit
set_option linter.unusedVariables false
set_option linter.unusedSimpArgs false
set_option maxRecDepth 100000
def wholeL (l : List ID) : List ID := l ++ [kz 6]
def partsL (l : List ID) (c : Nat) : List ID := l.take c ++ [kz 4] ++ l.drop c ++ [kz 6]
/-- Arithmetic that may be. -/
def AluL (l : List ID) : Prop := ∀ x ∈ l, x.kind = 0 ∧ mayB x = true
theorem AluL.take {l : List ID} (h : AluL l) (c : Nat) : AluL (l.take c) := fun x hx => h x (List.mem_of_mem_take hx)
theorem AluL.drop {l : List ID} (h : AluL l) (c : Nat) : AluL (l.drop c) := fun x hx => h x (List.mem_of_mem_drop hx)
theorem alu_tgt {x : ID} (h : x.kind = 0) (i : Int) : tgtB i x = false := by unfold tgtB; rw [h]; rfl
theorem alu_ok {x : ID} (h : x.kind = 0 ∧ mayB x = true) (n i : Nat) : okAt n i x = true := by unfold okAt; rw [h.2, alu_tgt h.1]; rfl
theorem exit_ok (n i : Nat) : okAt n i (kz 6) = true := by unfold okAt; rw [show mayB (kz 6) = true by decide]; rfl
theorem goto_tgt {i : Nat} (hi : i ≤ 1000) : tgtB i (kz 4) = true ∧ tgtN i (kz 4) = (i : Int) + 1 := by
  have h : tgtB i (kz 4) = true := by
    unfold tgtB
    simp only [Bool.and_eq_true]
    rw [inB_iff, inB_iff]
    refine ⟨⟨rfl, by omega⟩, ?_⟩
    show (-1099511627776 : Int) ≤ 0 ∧ (0 : Int) ≤ 1099511627776
    omega
  refine ⟨h, ?_⟩
  unfold tgtN
  rw [if_pos h]
  show (i : Int) + 1 + 0 = _
  omega
theorem goto_ok {n i : Nat} (hi : i + 1 < n) (hn : n ≤ 1000) : okAt n i (kz 4) = true := by
  obtain ⟨h1, h2⟩ := goto_tgt (i := i) (by omega)
  unfold okAt
  rw [h1, h2, show mayB (kz 4) = true by decide, show inB ((i : Int) + 1) 0 ((n : Int) - 1) = true by rw [inB_iff]; omega]
  rfl
theorem chk_exit {l : List ID} (h1 : l.length ≤ 63) (hok : ∀ i y, (l ++ [kz 6])[i]? = some y → okAt (l ++ [kz 6]).length i y = true) : chkP 0 (l ++ [kz 6]) = (0, 0) := by
  have hl : lastK (l ++ [kz 6]) = 6 := by
    unfold lastK
    rw [app_last]
    rfl
  rw [chk_end (by decide) (by rw [inB_iff]; simp; omega) hok, if_neg (by rw [hl]; simp)]
/-- What an instruction of the whole is. -/
theorem whole_at {l : List ID} (h : AluL l) {i : Nat} {y : ID} (hy : (wholeL l)[i]? = some y) : (y.kind = 0 ∧ mayB y = true) ∨ (i = l.length ∧ y = kz 6) := by
  rcases app_at hy with ⟨_, hy⟩ | ⟨e, e2⟩
  · exact .inl (h y (List.mem_of_getElem? hy))
  · exact .inr ⟨e, e2⟩
theorem parts_at {l : List ID} (h : AluL l) {c : Nat} (hc : c ≤ l.length) {i : Nat} {y : ID} (hy : (partsL l c)[i]? = some y) : (y.kind = 0 ∧ mayB y = true) ∨ (i = c ∧ y = kz 4) ∨ (i = l.length + 1 ∧ y = kz 6) := by
  have hlc : (l.take c).length = c := by rw [List.length_take]; omega
  unfold partsL at hy
  rcases app_at hy with ⟨_, hy⟩ | ⟨e, e2⟩
  · rw [List.getElem?_append] at hy
    split at hy
    · rcases app_at hy with ⟨_, hy⟩ | ⟨e, e2⟩
      · exact .inl (h.take c y (List.mem_of_getElem? hy))
      · exact .inr (.inl ⟨by omega, e2⟩)
    · exact .inl (h.drop c y (List.mem_of_getElem? hy))
  · refine .inr (.inr ⟨?_, e2⟩)
    rw [e]
    simp
    omega
theorem whole_len (l : List ID) : (wholeL l).length = l.length + 1 := by unfold wholeL; simp
theorem parts_len {l : List ID} {c : Nat} (hc : c ≤ l.length) : (partsL l c).length = l.length + 2 := by unfold partsL; simp; omega
theorem chk_whole {l : List ID} (h : AluL l) (hl : l.length ≤ 60) : chkP 0 (wholeL l) = (0, 0) := by
  refine chk_exit (by omega) fun i y hy => ?_
  rcases whole_at h hy with e | ⟨_, rfl⟩
  · exact alu_ok e _ _
  · exact exit_ok _ _
theorem chk_parts {l : List ID} (h : AluL l) (hl : l.length ≤ 60) {c : Nat} (hc : c ≤ l.length) : chkP 0 (partsL l c) = (0, 0) := by
  have hn := parts_len hc
  refine chk_exit (by unfold partsL at hn; simp at hn ⊢; omega) fun i y hy => ?_
  rcases parts_at h hc hy with e | ⟨rfl, rfl⟩ | ⟨_, rfl⟩
  · exact alu_ok e _ _
  · exact goto_ok (by show _ < (partsL l i).length; omega) (by show (partsL l i).length ≤ _; omega)
  · exact exit_ok _ _
/-! ### their blocks -/
theorem whole_beg {l : List ID} (h : AluL l) {i : Nat} (h0 : 0 < i) (hi : i ≤ l.length) : begB (wholeL l) i = false := by
  refine begB_no h0 fun j x hx => ?_
  unfold mark
  rcases whole_at h hx with e | ⟨rfl, rfl⟩
  · rw [alu_tgt e.1]
    unfold jmpB
    rw [e.1]
    rfl
  · rw [show tgtB (l.length : Int) (kz 6) = false from rfl]
    simp
    omega
theorem parts_beg {l : List ID} (h : AluL l) {c : Nat} (hc : c ≤ l.length) {i : Nat} (h0 : 0 < i) (hi : i ≤ l.length + 1) (hl : l.length ≤ 60) : begB (partsL l c) i = decide (i = c + 1) := by
  by_cases e : i = c + 1
  · subst e
    rw [decide_eq_true rfl]
    refine begB_of (j := c) (x := kz 4) ?_ ?_
    · have hlc : (l.take c).length = c := by rw [List.length_take]; omega
      unfold partsL
      rw [List.append_assoc, List.append_assoc, List.getElem?_append_right (by omega), hlc, Nat.sub_self]
      rfl
    · unfold mark
      rw [show jmpB (kz 4) = true from rfl]
      simp
  · rw [decide_eq_false e]
    refine begB_no h0 fun j x hx => ?_
    unfold mark
    rcases parts_at h hc hx with q | ⟨rfl, rfl⟩ | ⟨rfl, rfl⟩
    · rw [alu_tgt q.1]
      unfold jmpB
      rw [q.1]
      rfl
    · obtain ⟨h1, h2⟩ := goto_tgt (i := j) (by omega)
      rw [h1, h2]
      simp
      omega
    · rw [show tgtB ((l.length + 1 : Nat) : Int) (kz 6) = false from rfl]
      simp
      omega
theorem blkT_no {B : Nat → Bool} {k : Nat} {q : List (Int × Int)} {f t : Int} (h : B k = false) (he : blkT B k = q ++ [(f, t)]) : blkT B (k + 1) = q ++ [(f, (k : Int) + 1)] := by
  rw [blkT_succ]
  unfold preBk
  rw [if_neg (by rw [h]; simp), he, extT_app]
theorem blkT_run {B : Nat → Bool} {q : List (Int × Int)} {f : Int} {a : Nat} (ha : B a = true) (hq : blkT B a = q) (hf : (a : Int) = f) : ∀ k, (∀ j, a < j → j ≤ a + k → B j = false) → blkT B (a + k + 1) = q ++ [(f, (a : Int) + k + 1)] := by
  intro k
  induction k with
  | zero =>
    intro _
    have := blkT_yes (k := a) ha
    rw [hq, hf] at this
    rw [Nat.add_zero, this, hf]
    simp
  | succ k ih =>
    intro h
    have h1 := ih (fun j h1 h2 => h j h1 (by omega))
    have h2 := blkT_no (k := a + k + 1) (h (a + k + 1) (by omega) (by omega)) h1
    rw [show a + (k + 1) + 1 = a + k + 1 + 1 by omega, h2]
    congr 3
theorem blkL_whole {l : List ID} (h : AluL l) : blkL (wholeL l) = [⟨0, (l.length : Int) + 1, []⟩] := by
  have ht : blkT (begB (wholeL l)) (wholeL l).length = [(0, (l.length : Int) + 1)] := by
    have := blkT_run (B := begB (wholeL l)) (a := 0) (f := 0) (q := []) (begB_zero _) rfl rfl l.length (fun j h1 h2 => whole_beg h h1 (by omega))
    rw [whole_len, show l.length + 1 = 0 + l.length + 1 by omega, this]
    simp
  have hx : (wholeL l)[l.length]? = some (kz 6) := by unfold wholeL; simp
  unfold blkL
  rw [ht]
  show [bkAt (wholeL l) 0 (0, (l.length : Int) + 1)] = _
  rw [bkAt_eq hx]
  unfold nextOf
  rw [show tgtB (l.length : Int) (kz 6) = false from rfl, if_neg (by simp), if_pos (.inr rfl)]
  rfl
theorem blkL_parts {l : List ID} (h : AluL l) (hl : l.length ≤ 60) {c : Nat} (hc : c ≤ l.length) : blkL (partsL l c) = [⟨0, (c : Int) + 1, [1]⟩, ⟨(c : Int) + 1, (l.length : Int) + 2, []⟩] := by
  have h1 : blkT (begB (partsL l c)) (c + 1) = [(0, (c : Int) + 1)] := by
    have := blkT_run (B := begB (partsL l c)) (a := 0) (f := 0) (q := []) (begB_zero _) rfl rfl c (fun j h1 h2 => by rw [parts_beg h hc h1 (by omega) hl, decide_eq_false (by omega)])
    rw [show c + 1 = 0 + c + 1 by omega, this]
    simp
  have hB : begB (partsL l c) (c + 1) = true := by rw [parts_beg h hc (by omega) (by omega) hl, decide_eq_true rfl]
  have h2 : ∀ k, c + 1 + k ≤ l.length + 1 → blkT (begB (partsL l c)) (c + 1 + k + 1) = [(0, (c : Int) + 1), ((c : Int) + 1, (c : Int) + 1 + k + 1)] := fun k hk => by
    have := blkT_run (B := begB (partsL l c)) (a := c + 1) (f := (c : Int) + 1) hB h1 (by omega) k (fun j h1 h2 => by rw [parts_beg h hc (by omega) (by omega) hl, decide_eq_false (by omega)])
    rw [this]
    simp
  have ht : blkT (begB (partsL l c)) (partsL l c).length = [(0, (c : Int) + 1), ((c : Int) + 1, (l.length : Int) + 2)] := by
    have := h2 (l.length - c) (by omega)
    rw [parts_len hc, show l.length + 2 = c + 1 + (l.length - c) + 1 by omega, this, show (c : Int) + 1 + ((l.length - c : Nat) : Int) + 1 = (l.length : Int) + 2 by omega]
  have ho : ofT (begB (partsL l c)) (c + 1) = 1 := by
    unfold ofT
    rw [h2 0 (by omega)]
    rfl
  have hx : (partsL l c)[c]? = some (kz 4) := by
    have hlc : (l.take c).length = c := by rw [List.length_take]; omega
    unfold partsL
    rw [List.append_assoc, List.append_assoc, List.getElem?_append_right (by omega), hlc, Nat.sub_self]
    rfl
  have hy : (partsL l c)[l.length + 1]? = some (kz 6) := by
    have hn := parts_len hc
    unfold partsL at hn ⊢
    rw [List.getElem?_append_right (by simp at hn ⊢; omega), show l.length + 1 - (l.take c ++ [kz 4] ++ l.drop c).length = 0 by simp; omega]
    rfl
  unfold blkL
  rw [ht]
  show [bkAt (partsL l c) 0 (0, (c : Int) + 1), bkAt (partsL l c) 1 ((c : Int) + 1, (l.length : Int) + 2)] = _
  rw [bkAt_eq hx, show (l.length : Int) + 2 = ((l.length + 1 : Nat) : Int) + 1 by omega, bkAt_eq hy]
  obtain ⟨h3, h4⟩ := goto_tgt (i := c) (by omega)
  unfold nextOf
  rw [h3, h4, show tgtB ((l.length + 1 : Nat) : Int) (kz 6) = false from rfl, if_pos rfl, if_pos (.inl rfl), if_neg (by simp), if_pos (.inr rfl), show ((c : Int) + 1).toNat = c + 1 by omega, ho]
  rfl
/-! ### what they come to -/
theorem step_jump (m : SM) {x : ID} (h : x.kind = 4 ∨ x.kind = 6) : m.step x = m := by
  unfold SM.step
  split
  · rfl
  rw [if_neg (by omega), if_neg (by omega), if_neg (by omega), if_neg (by omega)]
theorem go_alu (m : SM) : ∀ (l : List ID), AluL l → (m.go l).evs = m.evs := by
  intro l
  induction l generalizing m with
  | nil => intro _; rfl
  | cons x r ih =>
    intro h
    have h1 := ih (m.step x) (fun y hy => h y (List.mem_cons_of_mem _ hy))
    show ((m.step x).go r).evs = _
    rw [h1]
    unfold SM.step
    split
    · rfl
    rw [if_pos (h x List.mem_cons_self).1]
    exact second_evl m x
theorem go_tail (m : SM) (l : List ID) {x : ID} (h : x.kind = 4 ∨ x.kind = 6) : m.go (l ++ [x]) = m.go l := by
  rw [go_app]
  exact step_jump _ h
/-- What whole and parts come to. -/
structure PartsF (l : List ID) (c : Nat) (q : PS) (rgs r1 : List Int) (v : Int) : Prop where
  whole : runV P0 0 (wholeL l) 0 R0 = ⟨q, rgs, [], ⟨0, v, 0, 0⟩, 0⟩
  fst : runV q 0 (partsL l c) 0 R0 = ⟨q, r1, [], ⟨1, 0, 1, 0⟩, 0⟩
  snd : runV q 0 (partsL l c) 1 r1 = ⟨q, rgs, [], ⟨0, v, 0, 0⟩, 0⟩
  len : rgs.length = 11 ∧ r1.length = 11
  rng : (∀ r ∈ rgs, I64 r) ∧ (∀ r ∈ r1, I64 r) ∧ I64 v
  ext : Ext P0 q
theorem parts_plain {l : List ID} (h : AluL l) (hl : l.length ≤ 60) {c : Nat} (hc : c ≤ l.length) : ∃ q rgs r1 v, PartsF l c q rgs r1 v := by
  have hm : ∀ x ∈ l, MayF x := fun x hx => may_facts (h x hx).2
  have hmt : ∀ x ∈ l.take c, MayF x := fun x hx => hm x (List.mem_of_mem_take hx)
  have hmd : ∀ x ∈ l.drop c, MayF x := fun x hx => hm x (List.mem_of_mem_drop hx)
  have hlt : (l.take c).length = c := by rw [List.length_take]; omega
  have hld : (l.drop c).length = l.length - c := by rw [List.length_drop]
  obtain ⟨M, hM⟩ : ∃ m, SM.mk P0 R0 [] 0 = m := ⟨_, rfl⟩
  have hMI : ∀ k, k ≤ 3900 → MI M k 1 := fun k hk => hM ▸ ⟨P0_mi.rm.less (by omega), P0_mi.len, P0_mi.reg, P0_mi.err, P0_mi.vi⟩
  have hb0 : bringsN M.evs = 0 := by rw [← hM]; rfl
  obtain ⟨m1, hm1⟩ : ∃ m, M.go (l.take c) = m := ⟨_, rfl⟩
  obtain ⟨m2, hm2⟩ : ∃ m, M.go l = m := ⟨_, rfl⟩
  have h12 : m1.go (l.drop c) = m2 := by rw [← hm1, ← go_app, List.take_append_drop, hm2]
  obtain ⟨g1, e1⟩ := go_fit (k := 1950) (l.take c) (hMI (1950 + 30 * (l.take c).length) (by omega)) (Int.le_refl 1) (by omega) (by rw [hb0]; omega) hmt
  rw [hm1] at g1 e1
  have hv1 : m1.evs = [] := by rw [← hm1, go_alu M _ (h.take c), ← hM]
  have g1' : MI m1 (1950 + 30 * (l.drop c).length - 30 * (l.drop c).length) (1 + (l.take c).length) := by rw [Nat.add_sub_cancel]; exact g1
  obtain ⟨g2, e2⟩ := go_fit (k := 30) (l.drop c) (m := m1) (d := 1 + (l.take c).length) ⟨g1.rm.less (by omega), g1.len, g1.reg, g1.err, g1.vi⟩ (by omega) (by omega) (by rw [hv1]; show 0 + _ ≤ 64; omega) hmd
  rw [h12] at g2 e2
  have hv2 : m2.evs = [] := by rw [← hm2, go_alu M _ h, ← hM]
  have hPM : M.p = P0 := by rw [← hM]
  rw [hPM] at e1
  have a1 := go_ag (k := 1950) (l.take c) (hMI (1950 + 30 * (l.take c).length) (by omega)) (Int.le_refl 1) (by omega) (by rw [hb0]; omega) hmt g2.rm.wf (by rw [hm1]; exact e2)
  rw [hm1] at a1
  have a2 := go_ag (k := 30) (l.drop c) (m := m1) (d := 1 + (l.take c).length) ⟨g1.rm.less (by omega), g1.len, g1.reg, g1.err, g1.vi⟩ (by omega) (by omega) (by rw [hv1]; show 0 + _ ≤ 64; omega) hmd g2.rm.wf (by rw [h12]; exact Ext.refl _)
  rw [h12] at a2
  have hR0 : ∀ q, Ext P0 q → regsB q R0 = true := fun q hq => (regsB_ext P0_good.2.2 hq).1
  have hr1 : regsB m2.p m1.regs = true := (regsB_ext (fun r hr => (g1.reg r hr).1) e2).1
  have bw := blkL_whole h
  have bp := blkL_parts h hl hc
  have e1' : (m1.on m2.p) = ⟨m2.p, m1.regs, [], 0⟩ := by unfold SM.on; rw [hv1, g1.err]
  have e2' : (m2.on m2.p) = ⟨m2.p, m2.regs, [], 0⟩ := by unfold SM.on; rw [hv2, g2.err]
  have e2'' : m2 = ⟨m2.p, m2.regs, [], 0⟩ := by rw [← e2']; unfold SM.on; rfl
  rw [e1'] at a1
  rw [e1', e2'] at a2
  have eM : M.on m2.p = ⟨m2.p, R0, [], 0⟩ := by rw [← hM]; rfl
  rw [eM] at a1
  refine ⟨m2.p, m2.regs, m1.regs, m2.reg 0, ?_, ?_, ?_, ⟨g2.len, g1.len⟩, ⟨fun r hr => has_i64 g2.rm.wf (g2.reg r hr).1, fun r hr => has_i64 g1.rm.wf (g1.reg r hr).1, has_i64 g2.rm.wf (g2.at_ (by omega)).1⟩, e1.trans e2⟩
  · have hgo : goV P0 (wholeL l) 0 R0 = m2 := by
      unfold goV blkAt insOf
      rw [bw]
      show (SM.mk P0 R0 [] 0).go (((wholeL l).drop 0).take ((l.length : Int) + 1 - 0).toNat) = m2
      rw [List.drop_zero, List.take_of_length_le (by rw [whole_len]; omega), hM]
      unfold wholeL
      rw [go_tail M l (.inr rfl), hm2]
    have hla : (wholeL l).getD ((blkAt (wholeL l) 0).upto - 1).toNat noIns = kz 6 := by
      unfold blkAt
      rw [bw]
      show (wholeL l).getD ((l.length : Int) + 1 - 1).toNat noIns = _
      rw [show ((l.length : Int) + 1 - 1).toNat = l.length by omega, List.getD_eq_getElem?_getD]
      unfold wholeL
      simp
    have hask : askB P0 (wholeL l) 0 R0 = true := by
      unfold askB
      rw [bw, hR0 _ (Ext.refl _)]
      rfl
    unfold runV
    rw [chk_whole h hl, if_neg (by simp), if_neg (by rw [hask]; simp)]
    dsimp only
    rw [hgo, if_neg (by rw [g2.err]; simp), hla]
    have hen : m2.ends (kz 6) (blkAt (wholeL l) 0).next = (m2, ⟨0, m2.reg 0, 0, 0⟩) := by
      unfold SM.ends
      rw [if_pos (show (kz 6).kind = 6 from rfl)]
    rw [hen, if_neg (by rw [g2.err]; simp), hv2]
  · have hgo : goV m2.p (partsL l c) 0 R0 = ⟨m2.p, m1.regs, [], 0⟩ := by
      unfold goV blkAt insOf
      rw [bp]
      show (SM.mk m2.p R0 [] 0).go (((partsL l c).drop 0).take ((c : Int) + 1 - 0).toNat) = _
      have : ((partsL l c).drop 0).take ((c : Int) + 1 - 0).toNat = l.take c ++ [kz 4] := by
        rw [List.drop_zero, show ((c : Int) + 1 - 0).toNat = (l.take c ++ [kz 4]).length by simp; omega]
        unfold partsL
        rw [List.append_assoc]
        exact List.take_left
      rw [this, go_tail _ _ (.inl rfl), a1]
    have hla : (partsL l c).getD ((blkAt (partsL l c) 0).upto - 1).toNat noIns = kz 4 := by
      unfold blkAt
      rw [bp]
      show (partsL l c).getD ((c : Int) + 1 - 1).toNat noIns = _
      rw [show ((c : Int) + 1 - 1).toNat = c by omega, List.getD_eq_getElem?_getD]
      unfold partsL
      rw [List.append_assoc, List.append_assoc, List.getElem?_append_right (by omega), hlt, Nat.sub_self]
      rfl
    have hask : askB m2.p (partsL l c) 0 R0 = true := by
      unfold askB
      rw [bp, hR0 _ (e1.trans e2)]
      rfl
    have hnx : (blkAt (partsL l c) 0).next = [1] := by
      unfold blkAt
      rw [bp]
      rfl
    unfold runV
    rw [chk_parts h hl hc, if_neg (by simp), if_neg (by rw [hask]; simp)]
    dsimp only
    rw [hgo, if_neg (by simp), hla, hnx]
    have hen : (SM.mk m2.p m1.regs [] 0).ends (kz 4) [1] = (⟨m2.p, m1.regs, [], 0⟩, ⟨1, 0, 1, 0⟩) := by
      unfold SM.ends
      rw [if_neg (by decide), if_neg (by intro q; exact absurd q.1 (by decide))]
      rfl
    rw [hen]
    rfl
  · have hgo : goV m2.p (partsL l c) 1 m1.regs = ⟨m2.p, m2.regs, [], 0⟩ := by
      unfold goV blkAt insOf
      rw [bp]
      show (SM.mk m2.p m1.regs [] 0).go (((partsL l c).drop ((c : Int) + 1).toNat).take ((l.length : Int) + 2 - ((c : Int) + 1)).toNat) = _
      have : ((partsL l c).drop ((c : Int) + 1).toNat).take ((l.length : Int) + 2 - ((c : Int) + 1)).toNat = l.drop c ++ [kz 6] := by
        rw [show ((c : Int) + 1).toNat = (l.take c ++ [kz 4]).length by simp; omega]
        unfold partsL
        rw [List.append_assoc, List.drop_left, List.take_of_length_le (by simp; omega)]
      rw [this, go_tail _ _ (.inr rfl), a2]
    have hla : (partsL l c).getD ((blkAt (partsL l c) 1).upto - 1).toNat noIns = kz 6 := by
      unfold blkAt
      rw [bp]
      show (partsL l c).getD ((l.length : Int) + 2 - 1).toNat noIns = _
      have hn := parts_len hc
      rw [show ((l.length : Int) + 2 - 1).toNat = l.length + 1 by omega, List.getD_eq_getElem?_getD]
      unfold partsL at hn ⊢
      rw [List.getElem?_append_right (by simp at hn ⊢; omega), show l.length + 1 - (l.take c ++ [kz 4] ++ l.drop c).length = 0 by simp; omega]
      rfl
    have hask : askB m2.p (partsL l c) 1 m1.regs = true := by
      unfold askB
      rw [bp, hr1]
      rfl
    unfold runV
    rw [chk_parts h hl hc, if_neg (by simp), if_neg (by rw [hask]; simp)]
    dsimp only
    rw [hgo, if_neg (by simp), hla]
    have hen : (SM.mk m2.p m2.regs [] 0).ends (kz 6) (blkAt (partsL l c) 1).next = (⟨m2.p, m2.regs, [], 0⟩, ⟨0, m2.reg 0, 0, 0⟩) := by
      unfold SM.ends
      rw [if_pos (show (kz 6).kind = 6 from rfl)]
      rfl
    rw [hen]
    rfl
end Go.Proofs.Ytepagfkkjlbipaa
end
section
namespace Go.Proofs.Ytepagfkkjlbipaa
open Go.RowKit
set_option linter.unusedVariables false
set_option linter.unusedSimpArgs false
set_option maxRecDepth 100000

theorem flatI_one (l : List ID) : ∀ u ∈ l.flatMap ID.cells, u.oneCell' = true := by
  intro u hu
  obtain ⟨x, _, h⟩ := List.mem_flatMap.1 hu
  exact x.one u h
theorem build_kz6 (w : World) : (Instr.build 26 #[(0, .int .i8 6)]).run Try.prog w = .ok (.agg #[.int .i8 6, .int .i8 0, .int .i8 0, .int .i8 0, .bool false, .int .i8 0, .int .i8 0, .int .i64 0, .int .i64 0]) w := run_build w 26 _ _ (by kernel_rfl)
theorem build_kz4 (w : World) : (Instr.build 26 #[(0, .int .i8 4)]).run Try.prog w = .ok (.agg #[.int .i8 4, .int .i8 0, .int .i8 0, .int .i8 0, .bool false, .int .i8 0, .int .i8 0, .int .i64 0, .int .i64 0]) w := run_build w 26 _ _ (by kernel_rfl)
/-- x[:k]. -/
theorem run_to {A : Option Addr} {n c k : Nat} (hk : k ≤ n) (hc : n ≤ c) (w : World) : (Instr.sliceAt 22 (.slice A n c) none (some (.int .i64 (k : Int))) none).run Try.prog w = .ok (.slice A k c) w := by
  have hte : Try.prog.underlying 22 = some (.slice (Try.prog.elem 22)) := by rw [elem_of Try.underlying22]; exact Try.underlying22
  obtain ⟨i, hi, _, hs, _⟩ := info_parts infI
  rw [run_sliceAt_slice w _ _ _ _ _ hte, run_slice_h w _ A n c hte .i64 (k : Int) (by omega) (by omega), elem_of Try.underlying22]
  simp [sizeOf, typeInfo, hi, hs, Go.sliced, Sem.run_bind]
  intro _
  cases A with
  | none => rfl
  | some ad => cases ad; simp [Addr.add]
/-- x[k:]. -/
theorem run_from {A : Option Addr} {n c k : Nat} (hk : k ≤ n) (hc : n ≤ c) (w : World) : (Instr.sliceAt 22 (.slice A n c) (some (.int .i64 (k : Int))) none none).run Try.prog w = .ok (.slice (if c = k then A else A.map (·.add (k * 9))) (n - k) (c - k)) w := by
  have hte : Try.prog.underlying 22 = some (.slice (Try.prog.elem 22)) := by rw [elem_of Try.underlying22]; exact Try.underlying22
  obtain ⟨i, hi, _, hs, _⟩ := info_parts infI
  rw [run_sliceAt_slice w _ _ _ _ _ hte, run_slice_l w _ A n c hte .i64 (k : Int) (by omega) (by omega), elem_of Try.underlying22]
  simp [sizeOf, typeInfo, hi, hs, Go.sliced, Sem.run_bind]
theorem E_sliceT {P : Program} {ops : Array Oper} {Q : Exit → Act → World → Prop} {md : Region.Mode} {T S : World → Prop} {late : List Nat} {fuel : Nat} {listed : Array Bool} {a : Act} {w : World} (i : Nat) (d : Option Tmp) (t : TypeId) (x : Operand) (lo hi : Option Operand) (vx : Value) (vl vh : Option Value) (v : Value) (ho : opAt ops i = some (d, .slice t x lo hi none)) (hc : checkE md ops late listed i false = true) (hw : wantAt ops i a = some true)
    (hQ : ∀ c a w, Q (.panic c) (a.put d v) w → Q (.panic c) a w) (hx : a.eval x = vx) (hl : lo.map a.eval = vl) (hh : hi.map a.eval = vh) (hr : ∀ w, (Instr.sliceAt t vx vl vh none).run P w = .ok v w)
    (hS : St T S late listed w) (h : wpAnyE P md ops Q T S late fuel (listed.setIfInBounds i true) (a.put d v) w) : wpAnyE P md ops Q T S late (fuel + 1) listed a w :=
  E_any false i d _ _ ho hc hw hQ (fun o e w _ => by
    unfold execOp
    simp only [e, hx, hl, hh, Option.map_none, Sem.run_bind, hr, Result.andThen_ok, Sem.run_pure]) hS h
/-- A variable of the call's own at block b, its program's row behind lo. -/
structure GA (b lo : Nat) (ps : List ID) (A : Option Addr) (n c : Nat) (W : World) : Prop where
  x : Blk W b 29 #[.int .i64 0, .slice A n c]
  o : W.ownsRow lo 26 9 (.slice A n c) n (ps.flatMap ID.cells)
  ln : ps.length = n
  wf : ∀ x ∈ ps, x.wf
  bl : b < lo
  le : lo ≤ W.heap.size
def apartF (b lo : Nat) : Nat → Prop := fun k => k = b ∨ lo ≤ k
section
variable {b lo n c : Nat} {ps : List ID} {A : Option Addr} {W W' : World}
theorem GA.nil {W : World} {b lo : Nat} (hx : Blk W b 29 #[.int .i64 0, .slice none 0 0]) (hb : b < lo) (hl : lo ≤ W.heap.size) : GA b lo [] none 0 0 W := ⟨hx, ⟨rfl, .inl ⟨rfl, rfl⟩⟩, rfl, by simp, hb, hl⟩
theorem GA.drew (h : GA b lo ps A n c W) : GA b lo ps A n c W.drew := ⟨h.x, h.o, h.ln, h.wf, h.bl, h.le⟩
/-- What has been put behind its row is stored into it. -/
theorem GA.app (h : GA b lo ps A n c W) {qs : List ID} {m : Nat} (hm : qs.length = m) (hq : ∀ x ∈ qs, x.wf) {v' : Value} (R : W'.ownsRow lo 26 9 v' (n + m) (ps.flatMap ID.cells ++ qs.flatMap ID.cells)) (G : W.grownBy W' (Value.ownBlock (.slice A n c))) :
    ∃ A' c', v' = .slice A' (n + m) c' ∧ W'.cell? ⟨b, 1, none⟩ = some (.slice A n c) ∧ W'.frozen? ⟨b, 1, none⟩ = false ∧ Blk W' b 29 #[.int .i64 0, .slice A n c] ∧ GA b lo (ps ++ qs) A' (n + m) c' (W'.setCell ⟨b, 1, none⟩ v') ∧ Chg (apartF b lo) W (W'.setCell ⟨b, 1, none⟩ v') := by
  obtain ⟨A', c', e, _, _⟩ := (RowL.of_own R).slice
  subst e
  have hne : some b ≠ Value.ownBlock (.slice A n c) := fun e => by have := (own_ge h.o b e.symm).1; have := h.bl; omega
  have hX := h.x.grown G hne
  have hgr : W'.grownBy (W'.setCell ⟨b, 1, none⟩ (.slice A' (n + m) c')) (some b) := ⟨rfl, rfl, rfl, by simp [World.setCell], fun i _ hne => Below.heap_setCell W' ⟨b, 1, none⟩ _ i (fun e => hne (by rw [e]))⟩
  have c1 : Chg (apartF b lo) W W' := Chg.of_grown G (fun g e => .inl (.inr (own_ge h.o g e).1))
  have c2 : Chg (apartF b lo) W' (W'.setCell ⟨b, 1, none⟩ (.slice A' (n + m) c')) := Chg.of_grown hgr (fun g e => by injection e with e; exact .inl (.inl e.symm))
  have hc := c1.trans c2 (fun k q => .inl q)
  refine ⟨A', c', rfl, hX.cell 1, hX.frozen 1, hX, ⟨hX.set_ 1 _, ?_, by rw [List.length_append, h.ln, hm], fun x hx => (List.mem_append.1 hx).elim (h.wf x) (hq x), h.bl, Nat.le_trans h.le hc.size⟩, hc⟩
  rw [List.flatMap_append]
  refine own_block R fun g q => ?_
  exact hgr.block g (own_ge R g q).2 (fun e => by injection e with e; have := (own_ge R g q).1; have := h.bl; omega)
/-- The row as it reads, apart from what may yet change. -/
theorem GA.ins (h : GA b lo ps A n c W) {F : Nat → Prop} (hF : ∀ k, F k → k < lo ∨ W.heap.size ≤ k) : n ≤ c ∧ InsF W F A n ps := by
  obtain ⟨A', c', e, hc, hR⟩ := ReadsF.of_own (F := F) h.o (fun k hk q => by have := own_ge h.o k hk; have := hF k q; omega)
  injection e with e1 e2 e3
  subst e1 e3
  exact ⟨hc, h.ln, h.wf, hR⟩
end
end Go.Proofs.Ytepagfkkjlbipaa
end
