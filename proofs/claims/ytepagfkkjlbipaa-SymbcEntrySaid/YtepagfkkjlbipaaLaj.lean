/-
  Contracts of symbc's methods: next, place, event. Conditions: those written in each statement.
  Contract of symbc's method second: the other operand. Conditions: those written in each statement.
-/
import Derived.Test.YtepagfkkjlbipaaLai
import Derived.RegionTactic
import Derived.Laws.Closers25b
section
namespace Go.Proofs.Ytepagfkkjlbipaa
open Go.RowKit
set_option linter.unusedVariables false
set_option linter.unusedSimpArgs false
set_option maxRecDepth 100000
section
variable {base g b : Nat} {F G F1 G1 : Nat → Prop} {m : SM} {ex : ExD} {w : World}
theorem wrap_in {n : Int} (h : -9223372036854775808 ≤ n ∧ n < 9223372036854775808) : IntKind.i64.wrap n = n := by rw [IntKind.wrap_i64]; omega
set_option maxHeartbeats 4000000 in
theorem next_any (h : MA base g b F G m ex w) (x : Int) (hx : I8 x) : Calls Try.prog 39 #[.pointer (some ⟨b, 0, none⟩), .int .i8 x] w (MRet base g b G ex w (m.next x)) := by
  obtain ⟨A, c, c12, hev⟩ := h.evs
  have hn := brT_le m.evs m.evs.length
  have hfew := h.few
  obtain ⟨n, hbn⟩ : ∃ n, bringsN m.evs = n := ⟨_, rfl⟩
  have hn64 : n ≤ 64 := by
    rw [← hbn, show bringsN m.evs = brT m.evs m.evs.length by unfold brT; rw [List.take_length]]
    omega
  have hb0 : base ≤ w.heap.size := Nat.le_trans (h.low b h.nb.2).1 (Nat.le_of_lt h.lt)
  obtain ⟨r, hr⟩ : ∃ r, putR m.p (varT (38 + 3 * (n : Int)) x) = r := ⟨_, rfl⟩
  have HV := hide (fun (W : World) (F : Nat → Prop) (hW : PoolAt W base F g m.p) (hb : base ≤ W.heap.size) => by have := var_any (38 + 3 * (n : Int)) x (by omega) (by omega) hx W hW hb; rw [hr] at this; exact this)
  have HRN := hide (show I64 r.2.1 by rw [← hr]; exact putN_i64 h.pool.wf _)
  have HNX := hide (show m.next x = m.keep r by unfold SM.next; rw [hbn, hr])
  obtain ⟨rp, rn, re⟩ := r
  dsimp only at HV HRN
  have HM := hide (MG.of_below h ((Below.refl _ _).drew))
  have HT := hide (show MT b g m.regs w.drew from h.mt)
  have HS := hide (show w.drew.cell? ⟨b, 12, none⟩ = some (.slice A m.evs.length c) from c12)
  have HEV := hide (show EvsAt w.drew (fun _ => False) (.slice A m.evs.length c) m.evs from hev)
  have HFEW := hide hfew
  have HBN := hide hbn
  clear h hev hbn c12 hx hn hfew hr
  go_enter Try.func39, Try.ntmps39
  go_wp2
  refine wp_region_E (MT b g m.regs) (fun w' => w'.cell? ⟨b, 12, none⟩ = some (.slice A m.evs.length c)) [10, 14, 17] (by kernel_rfl) ?_
  generalize w.drew = Wd at HM HT HS HEV ⊢
  refine E_move 0 (some 5) _ (.pointer (some ⟨b, 0, none⟩)) rfl (by kernel_rfl) (by rfl) (fun _ _ _ h => h) (by rfl) (.both HT.out HS.out) ?_
  simp only [Act.put, List.setIfInBounds_toArray, List.set_cons_zero, List.set_cons_succ]
  refine E_move 1 (some 6) _ (.pointer (some ⟨b, 0, none⟩)) rfl (by kernel_rfl) (by rfl) (fun _ _ _ h => h) (by rfl) (.both HT.out HS.out) ?_
  simp only [Act.put, List.setIfInBounds_toArray, List.set_cons_zero, List.set_cons_succ]
  refine E_nil 2 (some 7) _ ⟨b, 0, none⟩ rfl (by kernel_rfl) (by rfl) (fun _ _ _ h => h) (by rfl) (.both HT.out HS.out) ?_
  simp only [Act.put, List.setIfInBounds_toArray, List.set_cons_zero, List.set_cons_succ]
  refine E_field 3 (some 8) 72 _ 0 ⟨b, 0, none⟩ ⟨b, 0, none⟩ rfl (by kernel_rfl) (by rfl) (fun _ _ _ h => h) (by rfl) (fun w => by kernel_rfl) (.both HT.out HS.out) ?_
  simp only [Act.put, List.setIfInBounds_toArray, List.set_cons_zero, List.set_cons_succ]
  refine E_load1 false 4 (some 9) 30 _ ⟨b, 0, none⟩ (.pointer (some ⟨g, 0, none⟩)) rfl (by kernel_rfl) (by rfl) (fun _ _ _ h => h) (by rfl) (fun w hS => run_loadVar_one _ _ _ _ Try.underlying30 rfl hS.1.1) (.both HT.out HS.out) ?_
  simp only [Act.put, List.setIfInBounds_toArray, List.set_cons_zero, List.set_cons_succ]
  refine E_move 5 (some 10) _ (.pointer (some ⟨b, 0, none⟩)) rfl (by kernel_rfl) (by rfl) (fun _ _ _ h => h) (by rfl) (.both HT.out HS.out) ?_
  simp only [Act.put, List.setIfInBounds_toArray, List.set_cons_zero, List.set_cons_succ]
  refine E_nil 6 (some 11) _ ⟨b, 0, none⟩ rfl (by kernel_rfl) (by rfl) (fun _ _ _ h => h) (by rfl) (.both HT.out HS.out) ?_
  simp only [Act.put, List.setIfInBounds_toArray, List.set_cons_zero, List.set_cons_succ]
  refine E_field 7 (some 12) 72 _ 1 ⟨b, 0, none⟩ ⟨b, 1, none⟩ rfl (by kernel_rfl) (by rfl) (fun _ _ _ h => h) (by rfl) (fun w => by kernel_rfl) (.both HT.out HS.out) ?_
  simp only [Act.put, List.setIfInBounds_toArray, List.set_cons_zero, List.set_cons_succ]
  refine E_field 8 (some 13) 40 _ 1 ⟨b, 1, none⟩ ⟨b, 12, none⟩ rfl (by kernel_rfl) (by rfl) (fun _ _ _ h => h) (by rfl) (fun w => by kernel_rfl) (.both HT.out HS.out) ?_
  simp only [Act.put, List.setIfInBounds_toArray, List.set_cons_zero, List.set_cons_succ]
  refine E_load1 true 9 (some 14) 36 _ ⟨b, 12, none⟩ (.slice A m.evs.length c) rfl (by kernel_rfl) (by rfl) (fun _ _ _ h => h) (by rfl) (fun w hS => run_loadVar_one _ _ _ _ Try.underlying36 rfl (hS.2 rfl)) (.both HT.out HS.out) ?_
  simp only [Act.put, List.setIfInBounds_toArray, List.set_cons_zero, List.set_cons_succ]
  refine E_move 13 (some 18) _ (.int .i8 x) rfl (by kernel_rfl) (by rfl) (fun _ _ _ h => h) (by rfl) (.both HT.out HS.out) ?_
  simp only [Act.put, List.setIfInBounds_toArray, List.set_cons_zero, List.set_cons_succ]
  refine E_one 10 (by kernel_rfl) (StepE.of 10 (some 15) _ rfl (by rfl) fun o K h2 h3 hKK => ?_)
  unfold Oper.wp execOp
  simp only [h3]
  go_simp
  refine (brings_any _ _ _ _ _ HEV.out HFEW.out).mono ?_
  rintro e wq ⟨rfl, hbq⟩
  replace HM := hide (HM.out.step hbq)
  replace HT := hide HM.out.at_.mt
  clear hbq HEV HS
  dsimp only
  refine hKK _ _ (.after HT.out (by kernel_rfl)) ?_
  clear hKK h2 h3 K o
  try simp only [Act.put, List.setIfInBounds_toArray, List.set_cons_zero, List.set_cons_succ]
  rw [HBN.out]
  refine E_any false 11 (some 16) _ (.int .i64 (3 * (n : Int))) rfl (by kernel_rfl) (by rfl) (fun _ _ _ h => h) (fun o e w _ => by unfold execOp; simp only [e]; go_simp; rw [wrap_in (by omega)]) (.after HT.out (by kernel_rfl)) ?_
  simp only [Act.put, List.setIfInBounds_toArray, List.set_cons_zero, List.set_cons_succ]
  refine E_any false 12 (some 17) _ (.int .i64 (38 + 3 * (n : Int))) rfl (by kernel_rfl) (by rfl) (fun _ _ _ h => h) (fun o e w _ => by unfold execOp; simp only [e]; go_simp; rw [wrap_in (by omega)]) (.after HT.out (by kernel_rfl)) ?_
  simp only [Act.put, List.setIfInBounds_toArray, List.set_cons_zero, List.set_cons_succ]
  refine E_one 14 (by kernel_rfl) (StepE.of 14 (some 19) _ rfl (by rfl) fun o K h2 h3 hKK => ?_)
  unfold Oper.wp execOp
  simp only [h3]
  go_simp
  refine (HV.out _ _ HM.out.at_.pool (Nat.le_trans hb0 HM.out.size)).mono ?_
  rintro e wq ⟨rfl, Fq, hpq⟩
  replace HM := hide (HM.out.trans (HM.out.at_.pg hpq))
  replace HT := hide HM.out.at_.mt
  clear hpq
  dsimp only
  refine hKK _ _ (.after HT.out (by kernel_rfl)) ?_
  clear hKK h2 h3 K o
  try simp only [Act.put, List.setIfInBounds_toArray, List.set_cons_zero, List.set_cons_succ]
  refine E_any false 15 (some 20) _ (.int .i64 rn) rfl (by kernel_rfl) (by rfl) (fun _ _ _ h => h) (fun o e w _ => by unfold execOp; simp only [e]; go_simp) (.after HT.out (by kernel_rfl)) ?_
  simp only [Act.put, List.setIfInBounds_toArray, List.set_cons_zero, List.set_cons_succ]
  refine E_any false 16 (some 21) _ (.int .i64 re) rfl (by kernel_rfl) (by rfl) (fun _ _ _ h => h) (fun o e w _ => by unfold execOp; simp only [e]; go_simp) (.after HT.out (by kernel_rfl)) ?_
  simp only [Act.put, List.setIfInBounds_toArray, List.set_cons_zero, List.set_cons_succ]
  refine E_one 17 (by kernel_rfl) (StepE.of 17 (some 22) _ rfl (by rfl) fun o K h2 h3 hKK => ?_)
  unfold Oper.wp execOp
  simp only [h3]
  go_simp
  refine (made_any HM.out.at_ (rn) (re) HRN.out).mono ?_
  rintro e wq ⟨rfl, _, Fq, Gq, hmq⟩
  replace HM := hide (HM.out.trans hmq)
  replace HT := hide HM.out.at_.mt
  clear hmq
  dsimp only
  refine hKK _ _ (.after HT.out (by kernel_rfl)) ?_
  clear hKK h2 h3 K o
  try simp only [Act.put, List.setIfInBounds_toArray, List.set_cons_zero, List.set_cons_succ]
  refine E_one 18 (by kernel_rfl) (StepE.assign 18 (some 4) _ (.int .i64 (rn)) rfl (by rfl) (by rfl) (.after HT.out (by kernel_rfl)) ?_)
  simp only [Act.put, List.setIfInBounds_toArray, List.set_cons_zero, List.set_cons_succ]
  refine wpAnyE_done (by kernel_rfl) ?_ _
  go_wp2
  go_ret
  rw [HNX.out]
  exact ⟨rfl, HRN.out, _, _, HM.out⟩
theorem num_i64 (h : MA base g b F G m ex w) (n : Int) : I64 (m.num n).2 := putN_i64 h.pool.wf _
theorem num_wf (h : MA base g b F G m ex w) (n : Int) : WfP (m.num n).1.p ∧ ∀ t ∈ (m.num n).1.p.T, t.wf := put_facts h.pool.wf h.pool.rng (constT_wf (wrap_u64 n))
set_option maxHeartbeats 4000000 in
theorem place_any (h : MA base g b F G m ex w) (r off : Int) {d : Nat} (hr : r = (d : Int)) (hd : d < 11) (ho : I64 off) : Calls Try.prog 38 #[.pointer (some ⟨b, 0, none⟩), .int .i8 r, .int .i64 off] w (MRet base g b G ex w (m.place r off)) := by
  have hb0 : base ≤ w.heap.size := Nat.le_trans (h.low b h.nb.2).1 (Nat.le_of_lt h.lt)
  have HRD := hide hr
  have hri := h.reg_i64 hd
  have hrr : m.reg r = m.regs.getD d 0 := by unfold SM.reg; rw [hr, Int.toNat_natCast]
  clear hr
  obtain ⟨q, hq⟩ : ∃ q, m.num off = q := ⟨_, rfl⟩
  have HN := hide (fun (W : World) (F G : Nat → Prop) (hW : MA base g b F G m ex W) => by have := num_any hW (off) ho; rw [hq] at this; exact this)
  have hqw : WfP q.1.p ∧ ∀ t ∈ q.1.p.T, t.wf := by rw [← hq]; exact num_wf h off
  have hqi : I64 q.2 := by rw [← hq]; exact num_i64 h off
  have HRQ := hide (show q.1.regs = m.regs by rw [← hq]; rfl)
  obtain ⟨rs, hr⟩ : ∃ r, opV q.1.p 0 64 (m.regs.getD d 0) q.2 = r := ⟨_, rfl⟩
  have HO := hide (fun (W : World) (F : Nat → Prop) (hW : PoolAt W base F g q.1.p) (hb : base ≤ W.heap.size) => by obtain ⟨f, hf⟩ := opV_some hW.wf hW.rng 0 64 (m.regs.getD d 0) q.2; rw [hr] at hf; exact op_all f 0 64 (m.regs.getD d 0) q.2 hri hqi F q.1.p rs hf W hW hb)
  have HON := hide (show I64 rs.2.1 by rw [← hr]; exact opV_num hqw.1 hqw.2 _ _ _ _)
  have HNX := hide (show m.place r off = q.1.keep rs by unfold SM.place; rw [hq, hrr, hr])
  obtain ⟨mq, nq⟩ := q
  obtain ⟨rp, rn, re⟩ := rs
  dsimp only at HN HRQ HO HON
  have HM := hide (MG.of_below h ((Below.refl _ _).drew))
  have HT := hide (show MT b g m.regs w.drew from h.mt)
  have HD := hide hd
  clear h hd ho hq hr hqi hqw hri hrr
  go_enter Try.func38, Try.ntmps38
  go_wp2
  refine wp_region_E (fun _ => True) (MT b g m.regs) [] (by kernel_rfl) ?_
  generalize w.drew = Wd at HM HT ⊢
  refine E_move 0 (some 7) _ (.pointer (some ⟨b, 0, none⟩)) rfl (by kernel_rfl) (by rfl) (fun _ _ _ h => h) (by rfl) (.both trivial HT.out) ?_
  simp only [Act.put, List.setIfInBounds_toArray, List.set_cons_zero, List.set_cons_succ]
  refine E_move 1 (some 8) _ (.pointer (some ⟨b, 0, none⟩)) rfl (by kernel_rfl) (by rfl) (fun _ _ _ h => h) (by rfl) (.both trivial HT.out) ?_
  simp only [Act.put, List.setIfInBounds_toArray, List.set_cons_zero, List.set_cons_succ]
  refine E_nil 2 (some 9) _ ⟨b, 0, none⟩ rfl (by kernel_rfl) (by rfl) (fun _ _ _ h => h) (by rfl) (.both trivial HT.out) ?_
  simp only [Act.put, List.setIfInBounds_toArray, List.set_cons_zero, List.set_cons_succ]
  refine E_field 3 (some 10) 72 _ 0 ⟨b, 0, none⟩ ⟨b, 0, none⟩ rfl (by kernel_rfl) (by rfl) (fun _ _ _ h => h) (by rfl) (fun w => by kernel_rfl) (.both trivial HT.out) ?_
  simp only [Act.put, List.setIfInBounds_toArray, List.set_cons_zero, List.set_cons_succ]
  refine E_load1 true 4 (some 11) 30 _ ⟨b, 0, none⟩ (.pointer (some ⟨g, 0, none⟩)) rfl (by kernel_rfl) (by rfl) (fun _ _ _ h => h) (by rfl) (fun w hS => run_loadVar_one _ _ _ _ Try.underlying30 rfl (hS.2 rfl).1) (.both trivial HT.out) ?_
  simp only [Act.put, List.setIfInBounds_toArray, List.set_cons_zero, List.set_cons_succ]
  refine E_move 5 (some 12) _ (.pointer (some ⟨b, 0, none⟩)) rfl (by kernel_rfl) (by rfl) (fun _ _ _ h => h) (by rfl) (.both trivial HT.out) ?_
  simp only [Act.put, List.setIfInBounds_toArray, List.set_cons_zero, List.set_cons_succ]
  refine E_move 6 (some 13) _ (.int .i8 r) rfl (by kernel_rfl) (by rfl) (fun _ _ _ h => h) (by rfl) (.both trivial HT.out) ?_
  simp only [Act.put, List.setIfInBounds_toArray, List.set_cons_zero, List.set_cons_succ]
  refine E_nil 7 (some 14) _ ⟨b, 0, none⟩ rfl (by kernel_rfl) (by rfl) (fun _ _ _ h => h) (by rfl) (.both trivial HT.out) ?_
  simp only [Act.put, List.setIfInBounds_toArray, List.set_cons_zero, List.set_cons_succ]
  refine E_field 8 (some 15) 72 _ 1 ⟨b, 0, none⟩ ⟨b, 1, none⟩ rfl (by kernel_rfl) (by rfl) (fun _ _ _ h => h) (by rfl) (fun w => by kernel_rfl) (.both trivial HT.out) ?_
  simp only [Act.put, List.setIfInBounds_toArray, List.set_cons_zero, List.set_cons_succ]
  refine E_field 9 (some 16) 40 _ 0 ⟨b, 1, none⟩ ⟨b, 1, none⟩ rfl (by kernel_rfl) (by rfl) (fun _ _ _ h => h) (by rfl) (fun w => by kernel_rfl) (.both trivial HT.out) ?_
  simp only [Act.put, List.setIfInBounds_toArray, List.set_cons_zero, List.set_cons_succ]
  refine E_index 10 (some 17) _ _ _ (.pointer (some ⟨b, 1, none⟩)) (.int .i8 r) (.pointer (some ⟨b, 1 + d, none⟩)) rfl (by kernel_rfl) (by rfl) (fun _ _ _ h => h) (by rfl) (by rfl) (run_at11 b HRD.out HD.out) (.both trivial HT.out) ?_
  simp only [Act.put, List.setIfInBounds_toArray, List.set_cons_zero, List.set_cons_succ]
  refine E_load1 true 11 (some 18) 3 _ ⟨b, 1 + d, none⟩ (.int .i64 (m.regs.getD d 0)) rfl (by kernel_rfl) (by rfl) (fun _ _ _ h => h) (by rfl) (fun w hS => run_loadVar_one _ _ _ _ Try.underlying3 rfl ((hS.2 rfl).2 d HD.out)) (.both trivial HT.out) ?_
  simp only [Act.put, List.setIfInBounds_toArray, List.set_cons_zero, List.set_cons_succ]
  refine E_move 12 (some 19) _ (.pointer (some ⟨b, 0, none⟩)) rfl (by kernel_rfl) (by rfl) (fun _ _ _ h => h) (by rfl) (.both trivial HT.out) ?_
  simp only [Act.put, List.setIfInBounds_toArray, List.set_cons_zero, List.set_cons_succ]
  refine E_move 13 (some 20) _ (.int .i64 off) rfl (by kernel_rfl) (by rfl) (fun _ _ _ h => h) (by rfl) (.both trivial HT.out) ?_
  simp only [Act.put, List.setIfInBounds_toArray, List.set_cons_zero, List.set_cons_succ]
  refine E_one 14 (by kernel_rfl) (StepE.of 14 (some 21) _ rfl (by rfl) fun o K h2 h3 hKK => ?_)
  unfold Oper.wp execOp
  simp only [h3]
  go_simp
  refine (HN.out _ _ _ HM.out.at_).mono ?_
  rintro e wq ⟨rfl, _, Fq, Gq, hmq⟩
  replace HM := hide (HM.out.trans hmq)
  replace HT := hide (show MT b g m.regs wq from HRQ.out ▸ HM.out.at_.mt)
  clear hmq
  dsimp only
  refine hKK _ _ (.both trivial HT.out) ?_
  clear hKK h2 h3 K o
  try simp only [Act.put, List.setIfInBounds_toArray, List.set_cons_zero, List.set_cons_succ]
  refine E_one 15 (by kernel_rfl) (StepE.of 15 (some 22) _ rfl (by rfl) fun o K h2 h3 hKK => ?_)
  unfold Oper.wp execOp
  simp only [h3]
  go_simp
  refine (HO.out _ _ HM.out.at_.pool (Nat.le_trans hb0 HM.out.size)).mono ?_
  rintro e wq ⟨rfl, Fq, hpq⟩
  replace HM := hide (HM.out.trans (HM.out.at_.pg hpq))
  replace HT := hide (show MT b g m.regs wq from HRQ.out ▸ HM.out.at_.mt)
  clear hpq
  dsimp only
  refine hKK _ _ (.both trivial HT.out) ?_
  clear hKK h2 h3 K o
  try simp only [Act.put, List.setIfInBounds_toArray, List.set_cons_zero, List.set_cons_succ]
  refine E_any false 16 (some 23) _ (.int .i64 rn) rfl (by kernel_rfl) (by rfl) (fun _ _ _ h => h) (fun o e w _ => by unfold execOp; simp only [e]; go_simp) (.both trivial HT.out) ?_
  simp only [Act.put, List.setIfInBounds_toArray, List.set_cons_zero, List.set_cons_succ]
  refine E_any false 17 (some 24) _ (.int .i64 re) rfl (by kernel_rfl) (by rfl) (fun _ _ _ h => h) (fun o e w _ => by unfold execOp; simp only [e]; go_simp) (.both trivial HT.out) ?_
  simp only [Act.put, List.setIfInBounds_toArray, List.set_cons_zero, List.set_cons_succ]
  refine E_one 18 (by kernel_rfl) (StepE.of 18 (some 25) _ rfl (by rfl) fun o K h2 h3 hKK => ?_)
  unfold Oper.wp execOp
  simp only [h3]
  go_simp
  refine (made_any HM.out.at_ (rn) (re) HON.out).mono ?_
  rintro e wq ⟨rfl, _, Fq, Gq, hmq⟩
  replace HM := hide (HM.out.trans hmq)
  replace HT := hide (show MT b g m.regs wq from HRQ.out ▸ HM.out.at_.mt)
  clear hmq
  dsimp only
  refine hKK _ _ (.both trivial HT.out) ?_
  clear hKK h2 h3 K o
  try simp only [Act.put, List.setIfInBounds_toArray, List.set_cons_zero, List.set_cons_succ]
  refine E_one 19 (by kernel_rfl) (StepE.assign 19 (some 6) _ (.int .i64 (rn)) rfl (by rfl) (by rfl) (.both trivial HT.out) ?_)
  simp only [Act.put, List.setIfInBounds_toArray, List.set_cons_zero, List.set_cons_succ]
  refine wpAnyE_done (by kernel_rfl) ?_ _
  go_wp2
  go_ret
  rw [HNX.out]
  exact ⟨rfl, HON.out, _, _, HM.out⟩
end
end Go.Proofs.Ytepagfkkjlbipaa
end
section
namespace Go.Proofs.Ytepagfkkjlbipaa
open Go.RowKit
set_option linter.unusedVariables false
set_option linter.unusedSimpArgs false
set_option maxRecDepth 100000
section
variable {base g b : Nat} {F G F1 G1 : Nat → Prop} {m : SM} {ex : ExD} {w : World}
theorem second_reg {m : SM} {x : ID} (h : x.byReg = true) : m.second x = (m, m.reg x.src) := by unfold SM.second; rw [if_pos h]
theorem second_imm {m : SM} {x : ID} (h : x.byReg = false) (h2 : ¬ (x.kind = 0 ∧ shiftsB x.op = true)) : m.second x = m.num x.imm := by unfold SM.second; rw [if_neg (by rw [h]; simp), if_neg h2]
theorem second_and {m : SM} {x : ID} (h : x.byReg = false) (h2 : x.kind = 0 ∧ shiftsB x.op = true) : m.second x = m.num (bits .and .i64 x.imm (x.width - 1)) := by unfold SM.second; rw [if_neg (by rw [h]; simp), if_pos h2]
theorem and_i64 (a b : Int) : I64 (bits .and .i64 a b) := by
  have h1 := bits_lo_i64 .and a b
  have h2 := bits_hi_i64 .and a b
  unfold I64
  omega
set_option maxHeartbeats 4000000 in
theorem second_any (h : MA base g b F G m ex w) (x : ID) (hx : x.wf) (hs : x.byReg = true → 0 ≤ x.src ∧ x.src ≤ 10) (hwd : -128 < x.width) :
    Calls Try.prog 37 #[.pointer (some ⟨b, 0, none⟩), .agg x.cells.toArray] w (MRet base g b G ex w (m.second x)) := by
  obtain ⟨k, op, wd, sz, br, dst, src, off, imm⟩ := x
  show Calls Try.prog 37 #[.pointer (some ⟨b, 0, none⟩), .agg #[.int .i8 k, .int .i8 op, .int .i8 wd, .int .i8 sz, .bool br, .int .i8 dst, .int .i8 src, .int .i64 off, .int .i64 imm]] w _
  dsimp only at hs hwd
  have hbl := (Below.refl w.heap.size w).alloc (Nat.le_refl _) (.cells #[.int .i8 k, .int .i8 op, .int .i8 wd, .int .i8 sz, .bool br, .int .i8 dst, .int .i8 src, .int .i64 off, .int .i64 imm] 26)
  have HM := hide (MG.of_below h hbl)
  have HIM := hide (show I64 imm from hx.2.2.2.2.2.2.2)
  have hwd2 : wd < 128 := hx.2.1.2 |> fun _ => hx.2.2.1.2
  have HX := hide hx
  cases br
  · have HN := hide (show False → True from fun _ => trivial)
    clear h hx hbl hs
    have leaf : ∀ v : Int, I64 v → m.second ⟨k, op, wd, sz, false, dst, src, off, imm⟩ = m.num v → ∀ (w2 : World) (F2 G2 : Nat → Prop) (e : Ending), True := fun _ _ _ _ _ _ _ => trivial
    clear leaf HN
    cases hk : (k != 0)
    · have hk0 : k = 0 := by simpa using hk
      cases h6 : (op == 6)
      · cases h7 : (op == 7)
        · cases h12 : (op == 12)
          · have HNX := hide (second_imm (m := m) (x := ⟨k, op, wd, sz, false, dst, src, off, imm⟩) rfl (fun q => by have := q.2; unfold shiftsB at this; dsimp only at this; rw [h6, h7, h12] at this; cases this))
            clear hk0
            go_enter Try.func37, Try.ntmps37
            go_wp2_with fail
            refine (num_any HM.out.at_ imm HIM.out).mono ?_
            rintro e w2 ⟨rfl, hi, F2, G2, hm2⟩
            have HM2 := hide (HM.out.trans hm2)
            have HI := hide hi
            clear hm2 hi
            go_wp2
            go_ret
            rw [HNX.out]
            exact ⟨rfl, HI.out, _, _, HM2.out⟩
          · have HNX := hide (second_and (m := m) (x := ⟨k, op, wd, sz, false, dst, src, off, imm⟩) rfl ⟨hk0, by unfold shiftsB; dsimp only; rw [h12]; simp⟩)
            clear hk0
            go_enter Try.func37, Try.ntmps37
            go_wp2_with fail
            refine (num_any HM.out.at_ (bits .and .i64 imm (wd - 1)) (and_i64 _ _)).mono ?_
            rintro e w2 ⟨rfl, hi, F2, G2, hm2⟩
            have HM2 := hide (HM.out.trans hm2)
            have HI := hide hi
            clear hm2 hi
            go_wp2
            go_ret
            rw [HNX.out]
            exact ⟨rfl, HI.out, _, _, HM2.out⟩
        · have HNX := hide (second_and (m := m) (x := ⟨k, op, wd, sz, false, dst, src, off, imm⟩) rfl ⟨hk0, by unfold shiftsB; dsimp only; rw [h7]; simp⟩)
          clear hk0
          go_enter Try.func37, Try.ntmps37
          go_wp2_with fail
          refine (num_any HM.out.at_ (bits .and .i64 imm (wd - 1)) (and_i64 _ _)).mono ?_
          rintro e w2 ⟨rfl, hi, F2, G2, hm2⟩
          have HM2 := hide (HM.out.trans hm2)
          have HI := hide hi
          clear hm2 hi
          go_wp2
          go_ret
          rw [HNX.out]
          exact ⟨rfl, HI.out, _, _, HM2.out⟩
      · have HNX := hide (second_and (m := m) (x := ⟨k, op, wd, sz, false, dst, src, off, imm⟩) rfl ⟨hk0, by unfold shiftsB; dsimp only; rw [h6]; simp⟩)
        clear hk0
        go_enter Try.func37, Try.ntmps37
        go_wp2_with fail
        refine (num_any HM.out.at_ (bits .and .i64 imm (wd - 1)) (and_i64 _ _)).mono ?_
        rintro e w2 ⟨rfl, hi, F2, G2, hm2⟩
        have HM2 := hide (HM.out.trans hm2)
        have HI := hide hi
        clear hm2 hi
        go_wp2
        go_ret
        rw [HNX.out]
        exact ⟨rfl, HI.out, _, _, HM2.out⟩
    · have HNX := hide (second_imm (m := m) (x := ⟨k, op, wd, sz, false, dst, src, off, imm⟩) rfl (fun q => by have := q.1; dsimp only at this; rw [this] at hk; cases hk))
      go_enter Try.func37, Try.ntmps37
      go_wp2_with fail
      refine (num_any HM.out.at_ imm HIM.out).mono ?_
      rintro e w2 ⟨rfl, hi, F2, G2, hm2⟩
      have HM2 := hide (HM.out.trans hm2)
      have HI := hide hi
      clear hm2 hi
      go_wp2
      go_ret
      rw [HNX.out]
      exact ⟨rfl, HI.out, _, _, HM2.out⟩
  · have hsr := hs rfl
    obtain ⟨d, rfl⟩ : ∃ d : Nat, src = (d : Int) := ⟨src.toNat, by omega⟩
    have hd : d < 11 := by omega
    have HNX := hide (second_reg (m := m) (x := ⟨k, op, wd, sz, true, dst, (d : Int), off, imm⟩) rfl)
    have cr := h.creg hd
    have hi := hide (h.reg_i64 hd)
    have hbw := h.lt
    obtain ⟨rv, hrv⟩ : ∃ v, m.regs.getD d 0 = v := ⟨_, rfl⟩
    rw [hrv] at cr hi
    have HRV := hide hrv
    clear h hx hbl hs hrv hsr
    go_enter Try.func37, Try.ntmps37
    go_upto_region 6 with fail
    go_region
    go_wp2
    go_ret
    rw [HNX.out]
    exact ⟨by unfold SM.reg; rw [show ((d : Int)).toNat = d by omega, HRV.out]; rfl, by unfold SM.reg; rw [show ((d : Int)).toNat = d by omega, HRV.out]; exact hi.out, _, _, HM.out.step ((Below.refl _ _).drew)⟩
end
end Go.Proofs.Ytepagfkkjlbipaa
end
