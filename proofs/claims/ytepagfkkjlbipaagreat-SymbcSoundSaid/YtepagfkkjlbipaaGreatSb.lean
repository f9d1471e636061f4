/-
  latheref03.May: may an instruction be, the document's. Conditions: those written in each statement.
-/
import Derived.Test.YtepagfkkjlbipaaGreatKal
import Derived.Lib.QuietBelow
set_option linter.unusedVariables false
set_option linter.unusedSimpArgs false
set_option maxHeartbeats 64000000
set_option maxRecDepth 100000
namespace Go.Proofs.YtepagfkkjlbipaaGreat
open Tryz
open Go.RowKit Go.Sort
theorem wpQuiet_loadC {P : Program} {C : World → Prop} {ops : Array Oper} {rest : List Oper} {o : Oper} {a : Act} {Q : Act → Prop} (hw : Region.wanted o (yielded ops a.tmps) = true) (ty : TypeId) (x : Operand) (ho : o.op = .load ty x)
 (ad : Addr) (hx : a.eval x = .pointer (some ad)) (cs : List Value) (d : TypeDesc) (hc : ∀ W, C W → ∀ j u, cs[j]? = some u → W.cell? (ad.add j) = some u)
 (hu : P.underlying ty = some d) (hd : aggD d = true) (hi : (P.info? ty).map (·.size) = some cs.length)
 (h : wpQuiet P ops C Q rest (a.put o.dst (.agg cs.toArray))) : wpQuiet P ops C Q (o :: rest) a := by
 unfold wpQuiet
 rw [if_pos hw]
 refine ⟨.agg cs.toArray, ?_, h⟩
 intro w hC
 unfold Oper.quietAt execOp
 simp only [ho, hx, Instr.loadAt, Instr.sureAddr, Sem.run_bind, Sem.run_pure, Result.andThen_ok, run_loadVar_at (P := P) w ad ty cs d (hc w hC) hu hd hi]
 exact ⟨rfl, rfl⟩
theorem fieldsR_wf {x : ID} (h : x.wf) : (fieldsR x).wf := by
 have h' := h
 unfold ID.wf I8 I64 at h' ⊢
 unfold fieldsR kz
 repeat' split
 all_goals (dsimp only; omega)
def anyB (x : ID) : Bool := decide (x.kind < 0) || (decide (6 < x.kind) || (!eqL x.cells (fieldsR x).cells || (decide (x.dst < 0) || (decide (10 < x.dst) || (decide (x.src < 0) || (decide (10 < x.src) || (decide (x.off < -32768) || (decide (32768 ≤ x.off) || (decide (x.imm < -2147483648) || decide (2147483648 ≤ x.imm))))))))))
def kindB (x : ID) : Bool :=
 if x.kind = 0 then decide (0 ≤ x.op) && (decide (x.op ≤ 12) && ((x.width == 32 || x.width == 64) && decide (x.dst < 10)))
 else if x.kind = 1 then szB x.size && decide (x.dst < 10)
 else if x.kind = 2 then szB x.size
 else if x.kind = 3 then decide (0 ≤ x.op) && decide (x.op ≤ 10)
 else if x.kind = 5 then decide (0 ≤ x.imm) && decide (x.imm < 16)
 else true
theorem fields_eq {x : ID} (h : MayK x) : fieldsR x = x := by
 obtain ⟨k, op, wd, sz, br, dst, src, off, imm⟩ := x
 unfold MayK at h
 dsimp only at h
 unfold fieldsR
 rcases h with ⟨rfl, h⟩ | ⟨rfl, h⟩ | ⟨rfl, h⟩ | ⟨rfl, h⟩ | ⟨rfl, h⟩ | ⟨rfl, h⟩ | ⟨rfl, h⟩
 ·obtain ⟨h1, h2, h3, h4, rfl, rfl, ⟨rfl, h5, rfl⟩ | ⟨rfl, rfl, h5⟩⟩ := h
  ·have : (op != 8) = true := by simpa using h5
   simp [this]
  ·by_cases h8 : op = 8
   ·simp [h5 h8, h8]
   ·simp [h8]
 ·obtain ⟨h1, h2, rfl, rfl, rfl, rfl⟩ := h; rfl
 ·obtain ⟨h1, rfl, rfl, rfl, rfl⟩ := h; rfl
 ·obtain ⟨h1, h2, rfl, rfl, ⟨rfl, rfl⟩ | ⟨rfl, rfl⟩⟩ := h <;> rfl
 ·obtain ⟨rfl, rfl, rfl, rfl, rfl, rfl, rfl⟩ := h; rfl
 ·obtain ⟨rfl, rfl, rfl, rfl, rfl, rfl, rfl, h1, h2⟩ := h; rfl
 ·obtain ⟨rfl, rfl, rfl, rfl, rfl, rfl, rfl, rfl⟩ := h; rfl
theorem any_iff {x : ID} (hx : x.wf) : anyB x = false ↔ (0 ≤ x.kind ∧ x.kind ≤ 6) ∧ x = fieldsR x ∧ Rng x := by
 unfold anyB Rng
 simp only [Bool.or_eq_false_iff, decide_eq_false_iff_not, Bool.not_eq_false', eq_id_iff hx (fieldsR_wf hx)]
 constructor
 ·rintro ⟨h0, h1, h2, h3⟩
  exact ⟨by omega, h2, by omega⟩
 ·rintro ⟨h1, h2, h3⟩
  exact ⟨by omega, by omega, h2, by omega⟩
theorem any_no {x : ID} (hx : x.wf) (h : anyB x = true) : mayB x = false := by
 cases hm : mayB x with
 | false => rfl
 | true =>
  obtain ⟨hr, hk⟩ := (may_iff x).1 hm
  have : anyB x = false := (any_iff hx).2 ⟨by unfold MayK at hk; omega, (fields_eq hk).symm, hr⟩
  rw [this] at h
  cases h
theorem szB_iff {n : Int} : szB n = true ↔ n = 1 ∨ n = 2 ∨ n = 4 ∨ n = 8 := by
 unfold szB
 simp only [Bool.or_eq_true, beq_iff_eq]
 omega
theorem any_yes {x : ID} (hx : x.wf) (h : anyB x = false) : mayB x = kindB x := by
 obtain ⟨hk, hf, hr⟩ := (any_iff hx).1 h
 rw [Bool.eq_iff_iff, may_iff]
 refine (and_iff_right hr).trans ?_
 clear hr
 have e0 := congrArg ID.op hf
 have e1 := congrArg ID.width hf
 have e2 := congrArg ID.size hf
 have e3 := congrArg ID.byReg hf
 have e4 := congrArg ID.dst hf
 have e5 := congrArg ID.src hf
 have e6 := congrArg ID.off hf
 have e7 := congrArg ID.imm hf
 clear hf h hx
 obtain ⟨k, op, wd, sz, br, dst, src, off, imm⟩ := x
 unfold MayK kindB
 unfold fieldsR kz at e0 e1 e2 e3 e4 e5 e6 e7
 dsimp only at *
 have hk7 : k = 0 ∨ k = 1 ∨ k = 2 ∨ k = 3 ∨ k = 4 ∨ k = 5 ∨ k = 6 := by omega
 rcases hk7 with rfl | rfl | rfl | rfl | rfl | rfl | rfl
 ·by_cases h8 : op = 8
  ·cases br <;> simp [h8] at e0 e1 e2 e3 e4 e5 e6 e7 ⊢ <;> first | done | (simp [*]; done) | (simp [*]; omega) | omega
  ·cases br <;> simp [h8] at e0 e1 e2 e3 e4 e5 e6 e7 ⊢ <;> first | done | (simp [*]; done) | (simp [*]; omega) | omega
 ·cases br <;> simp [szB_iff] at e0 e1 e2 e3 e4 e5 e6 e7 ⊢ <;> simp [*]
 ·cases br <;> simp [szB_iff] at e0 e1 e2 e3 e4 e5 e6 e7 ⊢ <;> simp [*]
 ·cases br <;> simp at e0 e1 e2 e3 e4 e5 e6 e7 ⊢ <;> simp [*]
 ·cases br <;> simp at e0 e1 e2 e3 e4 e5 e6 e7 ⊢ <;> simp [*]
 ·cases br <;> simp at e0 e1 e2 e3 e4 e5 e6 e7 ⊢ <;> first | done | (simp [*]; done) | (simp [*]; omega) | omega
 ·cases br <;> simp at e0 e1 e2 e3 e4 e5 e6 e7 ⊢ <;> simp [*]
theorem rmay_any (x : ID) (w : World) (hx : x.wf) : Calls prog 54 #[.agg x.cells.toArray] w (BoolP (mayB x) w) := by
 have hne := neq_id hx (fieldsR_wf hx)
 obtain ⟨r, hR⟩ : ∃ r, fieldsR x = r := ⟨_, rfl⟩
 obtain ⟨q, hQ⟩ : ∃ q, (!eqL x.cells (fieldsR x).cells) = q := ⟨_, rfl⟩
 have HFB := Hd (fun W => by
  have := fields_any x W
  unfold FieldsP at this
  rw [hR] at this
  exact this : ∀ W, Calls prog 93 #[.agg x.cells.toArray] W fun e w' => e = .returned (.agg r.cells.toArray) ∧ Below W.heap.size W w')
 rw [hQ, hR] at hne
 have HNE2 := Hd hne
 have HNO := Hd (fun h => any_no hx h : anyB x = true → mayB x = false)
 have HYES := Hd (fun h => any_yes hx h : anyB x = false → mayB x = kindB x)
 have HQ := Hd hQ
 have hrl : r.cells.length = 9 := rfl
 have hxl : x.cells.length = 9 := rfl
 clear hne hR hQ hx
 obtain ⟨W, hW⟩ : ∃ W, w.alloc (.cells x.cells.toArray 47) = W := ⟨_, rfl⟩
 have HBX := Hd (show Blk W w.heap.size 47 x.cells.toArray by rw [← hW]; exact Blk.new w _ _)
 have HBW := Hd (show Below w.heap.size w W by rw [← hW]; exact (Below.refl _ _).alloc (Nat.le_refl _) _)
 have HLC := Hd (fun (W' : World) (h : ∃ p : Regrown, W' = grow (redrawn W p.d) p.os) => (by
  obtain ⟨p, rfl⟩ := h
  exact fun j u hu => cell_regrown (blk_list HBX.out j u hu) p.d p.os : ∀ j u, x.cells[j]? = some u → W'.cell? ((⟨w.heap.size, 0, none⟩ : Addr).add j) = some u))
 obtain ⟨k, e0⟩ : ∃ v, x.kind = v := ⟨_, rfl⟩
 have c0 : ∀ (d : Nat) (os : Array Obj), (grow (redrawn W d) os).cell? ⟨w.heap.size, 0, none⟩ = some (.int .i8 k) := by rw [← e0]; exact fun d os => cell_regrown (HBX.out.cell 0) d os
 have E0 := Hd e0
 clear e0
 obtain ⟨op, e1⟩ : ∃ v, x.op = v := ⟨_, rfl⟩
 have c1 : ∀ (d : Nat) (os : Array Obj), (grow (redrawn W d) os).cell? ⟨w.heap.size, 1, none⟩ = some (.int .i8 op) := by rw [← e1]; exact fun d os => cell_regrown (HBX.out.cell 1) d os
 have E1 := Hd e1
 clear e1
 obtain ⟨wd, e2⟩ : ∃ v, x.width = v := ⟨_, rfl⟩
 have c2 : ∀ (d : Nat) (os : Array Obj), (grow (redrawn W d) os).cell? ⟨w.heap.size, 2, none⟩ = some (.int .i8 wd) := by rw [← e2]; exact fun d os => cell_regrown (HBX.out.cell 2) d os
 have E2 := Hd e2
 clear e2
 obtain ⟨sz, e3⟩ : ∃ v, x.size = v := ⟨_, rfl⟩
 have c3 : ∀ (d : Nat) (os : Array Obj), (grow (redrawn W d) os).cell? ⟨w.heap.size, 3, none⟩ = some (.int .i8 sz) := by rw [← e3]; exact fun d os => cell_regrown (HBX.out.cell 3) d os
 have E3 := Hd e3
 clear e3
 obtain ⟨dst, e5⟩ : ∃ v, x.dst = v := ⟨_, rfl⟩
 have c5 : ∀ (d : Nat) (os : Array Obj), (grow (redrawn W d) os).cell? ⟨w.heap.size, 5, none⟩ = some (.int .i8 dst) := by rw [← e5]; exact fun d os => cell_regrown (HBX.out.cell 5) d os
 have E5 := Hd e5
 clear e5
 obtain ⟨src, e6⟩ : ∃ v, x.src = v := ⟨_, rfl⟩
 have c6 : ∀ (d : Nat) (os : Array Obj), (grow (redrawn W d) os).cell? ⟨w.heap.size, 6, none⟩ = some (.int .i8 src) := by rw [← e6]; exact fun d os => cell_regrown (HBX.out.cell 6) d os
 have E6 := Hd e6
 clear e6
 obtain ⟨off, e7⟩ : ∃ v, x.off = v := ⟨_, rfl⟩
 have c7 : ∀ (d : Nat) (os : Array Obj), (grow (redrawn W d) os).cell? ⟨w.heap.size, 7, none⟩ = some (.int .i64 off) := by rw [← e7]; exact fun d os => cell_regrown (HBX.out.cell 7) d os
 have E7 := Hd e7
 clear e7
 obtain ⟨imm, e8⟩ : ∃ v, x.imm = v := ⟨_, rfl⟩
 have c8 : ∀ (d : Nat) (os : Array Obj), (grow (redrawn W d) os).cell? ⟨w.heap.size, 8, none⟩ = some (.int .i64 imm) := by rw [← e8]; exact fun d os => cell_regrown (HBX.out.cell 8) d os
 have E8 := Hd e8
 clear e8
 go_enter func54, ntmps54
 go_wp2_with fail
 cases t0 : decide (k < 0)
 cases t1 : decide (6 < k)
 cases q
 cases t3 : decide (dst < 0)
 cases t4 : decide (10 < dst)
 cases t5 : decide (src < 0)
 cases t6 : decide (10 < src)
 cases t7 : decide (off < -32768)
 cases t8 : decide (32768 ≤ off)
 cases t9 : decide (imm < -2147483648)
 cases t10 : decide (2147483648 ≤ imm)
 ·have hk7 : k = 0 ∨ k = 1 ∨ k = 2 ∨ k = 3 ∨ k = 4 ∨ k = 5 ∨ k = 6 := by simp at t0 t1; omega
  have HK := Hd (HYES.out (by unfold anyB; rw [HQ.out, E0.out, E5.out, E6.out, E7.out, E8.out, t0, t1, t3, t4, t5, t6, t7, t8, t9, t10]; rfl))
  clear HYES HNO HQ
  rcases hk7 with rfl | rfl | rfl | rfl | rfl | rfl | rfl
  all_goals
   have hE := HNE2.out
   refine wp_region_quiet_below (by kernel_rfl) (by kernel_rfl) ?_
   repeat (first
    | (refine wpQuiet_loadC (by rfl) 47 (.tmp 1) rfl ⟨w.heap.size, 0, none⟩ (by rfl) x.cells _ HLC.out underlying47 rfl sizI ?_; go_simp)
    | go_big_quiet_step ((go_at_call 93; exact Calls.regrown_of (HFB.out _))))
   refine wpQuiet_nil ?_
   first
    | (intro wq hwq; obtain ⟨pq, rfl⟩ := hwq)
    | intro pq
   have HBQ := Hd (HBW.out.trans ((below_regrown W pq.d pq.os).mono HBW.out.size))
   go_wp2_with (first
    | (go_at_call 94; refine (rsized_any _ _).mono ?_; rintro e w' ⟨rfl, rfl⟩; cases hsz : szB sz))
   all_goals
    go_ret
    exact ⟨ret_b (by rw [HK.out]; unfold kindB; rw [E0.out, E1.out, E2.out, E3.out, E5.out, E8.out]; first | (simp_all; done) | (simp_all; intros; omega)), HBQ.out⟩
 all_goals
  have hE := HNE2.out
  refine wp_region_quiet_below (by kernel_rfl) (by kernel_rfl) ?_
  repeat (first
   | (refine wpQuiet_loadC (by rfl) 47 (.tmp 1) rfl ⟨w.heap.size, 0, none⟩ (by rfl) x.cells _ HLC.out underlying47 rfl sizI ?_; go_simp)
   | go_big_quiet_step ((go_at_call 93; exact Calls.regrown_of (HFB.out _))))
  refine wpQuiet_nil ?_
  first
   | (intro wq hwq; obtain ⟨pq, rfl⟩ := hwq)
   | intro pq
  have HBQ := Hd (HBW.out.trans ((below_regrown W pq.d pq.os).mono HBW.out.size))
  go_wp2
  go_ret
  exact ⟨ret_b (HNO.out (by unfold anyB; first | (rw [HQ.out, E0.out, E5.out, E6.out, E7.out, E8.out, t0, t1, t3, t4, t5, t6, t7, t8, t9, t10]; rfl) | (rw [HQ.out, E0.out, E5.out, E6.out, E7.out, E8.out, t0, t1, t3, t4, t5, t6, t7, t8, t9]; rfl) | (rw [HQ.out, E0.out, E5.out, E6.out, E7.out, E8.out, t0, t1, t3, t4, t5, t6, t7, t8]; rfl) | (rw [HQ.out, E0.out, E5.out, E6.out, E7.out, E8.out, t0, t1, t3, t4, t5, t6, t7]; rfl) | (rw [HQ.out, E0.out, E5.out, E6.out, E7.out, E8.out, t0, t1, t3, t4, t5, t6]; rfl) | (rw [HQ.out, E0.out, E5.out, E6.out, E7.out, E8.out, t0, t1, t3, t4, t5]; rfl) | (rw [HQ.out, E0.out, E5.out, E6.out, E7.out, E8.out, t0, t1, t3, t4]; rfl) | (rw [HQ.out, E0.out, E5.out, E6.out, E7.out, E8.out, t0, t1, t3]; rfl) | (rw [HQ.out, E0.out, E5.out, E6.out, E7.out, E8.out, t0, t1]; rfl) | (rw [HQ.out, E0.out, E5.out, E6.out, E7.out, E8.out, t0]; rfl))).symm, HBQ.out⟩
end Go.Proofs.YtepagfkkjlbipaaGreat
