/-
  Contract of symbc's method call. Conditions: those written in each statement.
-/
import Derived.Test.YtepagfkkjlbipaaSs
namespace Go.Proofs.Ytepagfkkjlbipaa
open Go.RowKit
set_option linter.unusedVariables false
set_option linter.unusedSimpArgs false
set_option maxRecDepth 100000
section
variable {base g b : Nat} {F G F1 G1 : Nat → Prop} {m : SM} {ex : ExD} {w : World}
theorem E_slice {P : Program} {ops : Array Oper} {Q : Exit → Act → World → Prop} {md : Region.Mode} {T S : World → Prop} {late : List Nat} {fuel : Nat} {listed : Array Bool} {a : Act} {w : World} (i : Nat) (d : Option Tmp) (t : TypeId) (x lo hi : Operand) (vx vl vh v : Value) (ho : opAt ops i = some (d, .slice t x (some lo) (some hi) none)) (hc : checkE md ops late listed i false = true) (hw : wantAt ops i a = some true)
    (hQ : ∀ c a w, Q (.panic c) (a.put d v) w → Q (.panic c) a w) (hx : a.eval x = vx) (hl : a.eval lo = vl) (hh : a.eval hi = vh) (hr : ∀ w, (Instr.sliceAt t vx (some vl) (some vh) none).run P w = .ok v w)
    (hS : St T S late listed w) (h : wpAnyE P md ops Q T S late fuel (listed.setIfInBounds i true) (a.put d v) w) : wpAnyE P md ops Q T S late (fuel + 1) listed a w :=
  E_any false i d _ _ ho hc hw hQ (fun o e w _ => by
    unfold execOp
    simp only [e, hx, hl, hh, Option.map_some, Option.map_none, Sem.run_bind, hr, Result.andThen_ok, Sem.run_pure]) hS h
theorem run_slice11 (b : Nat) {k : Nat} (hk : k ≤ 5) (w : World) : (Instr.sliceAt 32 (.pointer (some ⟨b, 1, none⟩)) (some (.int .i64 1)) (some (.int .i64 (1 + (k : Int)))) none).run Try.prog w = .ok (.slice (some ⟨b, 2, none⟩) k 10) w := by
  have h : k = 0 ∨ k = 1 ∨ k = 2 ∨ k = 3 ∨ k = 4 ∨ k = 5 := by omega
  rcases h with rfl | rfl | rfl | rfl | rfl | rfl
  all_goals go_simp
theorem MT.reads {regs : List Int} {k : Nat} (h : MT b g regs w) (hb : b < w.heap.size) (hl : regs.length = 11) (hk : k ≤ 5) : Reads w w.heap.size 1 (some ⟨b, 2, none⟩) k (((regs.drop 1).take k).map (Value.int .i64)) := by
  refine ⟨by simp; omega, fun hn => ⟨_, rfl, hb, fun j u hu => ?_⟩⟩
  have hj : j < k := by
    have := (List.getElem?_eq_some_iff.1 hu).1
    simp at this
    omega
  rw [addr_add, show 2 + j = 1 + (1 + j) by omega, h.2 (1 + j) (by omega)]
  rw [List.getElem?_map, List.getElem?_take_of_lt hj, List.getElem?_drop, List.getElem?_eq_getElem (by omega)] at hu
  rw [List.getD_eq_getElem?_getD, List.getElem?_eq_getElem (by omega)]
  exact hu
def fiveT (l : List Int) (n : Int) : Nat → List Int
  | 0 => l
  | k + 1 => (fiveT l n k).set (k + 1) n
theorem run_build1 {n i : Int} {l : List Int} {va : Value} (hv : NumsF w G va l) (W : World) : (Instr.build 51 #[(0, .int .i8 2), (4, .int .i64 i), (3, .int .i64 n), (5, va)]).run Try.prog W = .ok (.agg (evC (⟨2, 0, 0, n, i, l⟩, va)).toArray) W := by
  obtain ⟨A, c, rfl⟩ := hv.form
  exact run_build W 51 _ _ (by kernel_rfl)
theorem args_nums {W w' : World} {va : Value} {regs : List Int} {k : Nat} (Ra : w'.ownsRow W.heap.size 3 1 va (0 + k) ([] ++ ((regs.drop 1).take k).map (Value.int .i64))) (hlow : ∀ c, G c → base ≤ c ∧ c < W.heap.size) (hbW : b < W.heap.size) (hr : regs.length = 11 ∧ (∀ r ∈ regs, I64 r) ∧ k ≤ 5) (hO : ∀ c, va.ownBlock = some c → W.heap.size ≤ c) : NumsF w' (Up G b) va ((regs.drop 1).take k) := by
  have hl : ((regs.drop 1).take k).length = 0 + k := by simp; omega
  obtain ⟨A, c, e, hc, hR⟩ := ReadsF.of_own (F := Up G b) Ra (fun c hc q => q.elim (fun q => by have := hO c hc; have := (hlow c q).2; omega) (fun q => by have := hO c hc; omega))
  refine ⟨A, c, by rw [hl]; exact e, by rw [hl]; exact hc, by rw [hl]; exact hR, fun x hx => hr.2.1 x (List.mem_of_mem_drop (List.mem_of_mem_take hx)), by omega⟩
set_option maxHeartbeats 4000000 in
theorem call_any (h : MA base g b F G m ex w) (x : ID) (hx : x.wf) (hlt : m.evs.length < 64) : Calls Try.prog 26 #[.pointer (some ⟨b, 0, none⟩), .agg x.cells.toArray] w (MEnd base g b G ex w (m.call x)) := by
  have hb0 : base ≤ w.heap.size := Nat.le_trans (h.low b h.nb.2).1 (Nat.le_of_lt h.lt)
  have hbl := ((Below.refl w.heap.size w).alloc (Nat.le_refl _) (.cells x.cells.toArray 26))
  have HG := hide (MG.of_below h hbl)
  have HB0 := hide (show Blk (w.alloc (.cells x.cells.toArray 26)) w.heap.size 26 x.cells.toArray from Blk.new w 26 x.cells.toArray)
  have HLOW := hide (fun (e : G w.heap.size) => by have := (h.low _ e).2; omega : ¬ G w.heap.size)
  obtain ⟨iA, hiA, hzA, hsA, hbA⟩ := info_parts infIn
  have IA := hide (And.intro hiA (And.intro hzA (And.intro hsA hbA)))
  obtain ⟨v, hv⟩ : ∃ v, m.next 64 = v := ⟨_, rfl⟩
  have HV := hide (fun (W : World) (F G : Nat → Prop) (hW : MA base g b F G m ex W) => by have := next_any hW 64 (by unfold I8; omega); rw [hv] at this; exact this)
  have HRQ := hide (show v.1.regs = m.regs by rw [← hv]; rfl)
  have HEL := hide (show v.1.evs.length < 64 by rw [← hv]; exact hlt)
  have hab := argsN_bd x.imm
  obtain ⟨k, hk⟩ : ∃ k : Nat, argsN x.imm = (k : Int) := ⟨(argsN x.imm).toNat, by omega⟩
  have HK := hide (show k ≤ 5 by omega)
  have HA := hide (fun (W : World) => by have := args_any x.imm W; rw [hk] at this; exact this)
  have HLEN := hide h.len
  have HREG := hide (And.intro h.len (And.intro h.rng HK.out))
  obtain ⟨z, hz⟩ : ∃ z, SM.num ⟨v.1.p, v.1.regs.set 0 v.2, v.1.evs ++ [⟨2, 0, 0, v.2, x.imm, (m.regs.drop 1).take k⟩], v.1.err⟩ 0 = z := ⟨_, rfl⟩
  have HZ := hide (fun (W : World) (F G : Nat → Prop) (hW : MA base g b F G ⟨v.1.p, v.1.regs.set 0 v.2, v.1.evs ++ [⟨2, 0, 0, v.2, x.imm, (m.regs.drop 1).take k⟩], v.1.err⟩ ex W) => by have := num_any hW 0 i64_zero; rw [hz] at this; exact this)
  have HNX := hide (show m.call x = ⟨z.1.p, fiveT z.1.regs z.2 5, z.1.evs, z.1.err⟩ by
    unfold SM.call
    dsimp only
    rw [hv, hk, Int.toNat_natCast]
    show (let q := SM.num ⟨v.1.p, v.1.regs.set 0 v.2, v.1.evs ++ [⟨2, 0, 0, v.2, x.imm, (m.regs.drop 1).take k⟩], v.1.err⟩ 0; ({ q.1 with regs := fiveL q.1.regs q.2 } : SM)) = _
    dsimp only
    rw [hz]
    rfl)
  obtain ⟨mv, nv⟩ := v
  obtain ⟨mz, nz⟩ := z
  dsimp only at HV HRQ HEL HZ HNX
  have HX := hide hx
  have HM := hide (MG.refl HG.out.at_)
  clear h hx hv hlt hb0 hbl hab hk hz hiA hzA hsA hbA
  go_enter Try.func26, Try.ntmps26
  go_upto_region 1 with fail
  generalize (w.alloc (.cells x.cells.toArray 26)) = Wd at HG HM HB0 ⊢
  generalize w.heap.size = bx at HB0 HLOW ⊢
  go_wp2_with fail
  refine (HV.out _ _ _ HM.out.at_).mono ?_
  rintro e w1 ⟨rfl, hi1, F1, G1, hm1⟩
  replace HM := hide (HM.out.trans hm1)
  have HNI := hide hi1
  clear hm1 hi1
  go_wp2
  refine wp_region_E (fun w' => Blk w' bx 26 x.cells.toArray) (MT b g m.regs) [] (by kernel_rfl) ?_
  replace HM := hide (HM.out.step ((Below.refl _ _).drew))
  generalize w1.drew = w2 at HM ⊢
  have HT := hide (HM.out.blk HB0.out HLOW.out).1
  have HS := hide (show MT b g m.regs w2 from HRQ.out ▸ HM.out.at_.mt)
  refine E_move 0 (some 9) _ (.pointer (some ⟨b, 0, none⟩)) rfl (by kernel_rfl) (by rfl) (fun _ _ _ h => h) (by rfl) (.both HT.out HS.out) ?_
  simp only [Act.put, List.setIfInBounds_toArray, List.set_cons_zero, List.set_cons_succ]
  refine E_field 1 (some 10) 26 _ 8 ⟨bx, 0, none⟩ ⟨bx, 8, none⟩ rfl (by kernel_rfl) (by rfl) (fun _ _ _ h => h) (by rfl) (fun w => by kernel_rfl) (.both HT.out HS.out) ?_
  simp only [Act.put, List.setIfInBounds_toArray, List.set_cons_zero, List.set_cons_succ]
  refine E_load1 false 2 (some 11) 3 _ ⟨bx, 8, none⟩ (.int .i64 x.imm) rfl (by kernel_rfl) (by rfl) (fun _ _ _ h => h) (by rfl) (fun w hS => run_loadVar_one _ _ _ _ Try.underlying3 rfl (hS.1.cell 8)) (.both HT.out HS.out) ?_
  simp only [Act.put, List.setIfInBounds_toArray, List.set_cons_zero, List.set_cons_succ]
  refine E_move 3 (some 12) _ (.int .i64 nv) rfl (by kernel_rfl) (by rfl) (fun _ _ _ h => h) (by rfl) (.both HT.out HS.out) ?_
  simp only [Act.put, List.setIfInBounds_toArray, List.set_cons_zero, List.set_cons_succ]
  refine E_move 4 (some 13) _ (.pointer (some ⟨b, 0, none⟩)) rfl (by kernel_rfl) (by rfl) (fun _ _ _ h => h) (by rfl) (.both HT.out HS.out) ?_
  simp only [Act.put, List.setIfInBounds_toArray, List.set_cons_zero, List.set_cons_succ]
  refine E_nil 5 (some 14) _ ⟨b, 0, none⟩ rfl (by kernel_rfl) (by rfl) (fun _ _ _ h => h) (by rfl) (.both HT.out HS.out) ?_
  simp only [Act.put, List.setIfInBounds_toArray, List.set_cons_zero, List.set_cons_succ]
  refine E_field 6 (some 15) 72 _ 1 ⟨b, 0, none⟩ ⟨b, 1, none⟩ rfl (by kernel_rfl) (by rfl) (fun _ _ _ h => h) (by rfl) (fun w => by kernel_rfl) (.both HT.out HS.out) ?_
  simp only [Act.put, List.setIfInBounds_toArray, List.set_cons_zero, List.set_cons_succ]
  refine E_field 7 (some 16) 40 _ 0 ⟨b, 1, none⟩ ⟨b, 1, none⟩ rfl (by kernel_rfl) (by rfl) (fun _ _ _ h => h) (by rfl) (fun w => by kernel_rfl) (.both HT.out HS.out) ?_
  simp only [Act.put, List.setIfInBounds_toArray, List.set_cons_zero, List.set_cons_succ]
  refine E_field 8 (some 17) 26 _ 8 ⟨bx, 0, none⟩ ⟨bx, 8, none⟩ rfl (by kernel_rfl) (by rfl) (fun _ _ _ h => h) (by rfl) (fun w => by kernel_rfl) (.both HT.out HS.out) ?_
  simp only [Act.put, List.setIfInBounds_toArray, List.set_cons_zero, List.set_cons_succ]
  refine E_load1 false 9 (some 18) 3 _ ⟨bx, 8, none⟩ (.int .i64 x.imm) rfl (by kernel_rfl) (by rfl) (fun _ _ _ h => h) (by rfl) (fun w hS => run_loadVar_one _ _ _ _ Try.underlying3 rfl (hS.1.cell 8)) (.both HT.out HS.out) ?_
  simp only [Act.put, List.setIfInBounds_toArray, List.set_cons_zero, List.set_cons_succ]
  refine E_one 10 (by kernel_rfl) (StepE.of 10 (some 19) _ rfl (by rfl) fun o K h2 h3 hKK => ?_)
  unfold Oper.wp execOp
  simp only [h3]
  go_simp
  refine (HA.out _).mono ?_
  rintro e wq ⟨rfl, rfl⟩
  dsimp only
  refine hKK _ _ (.both HT.out HS.out) ?_
  clear hKK h2 h3 K o
  try simp only [Act.put, List.setIfInBounds_toArray, List.set_cons_zero, List.set_cons_succ]
  refine E_any false 11 (some 20) _ (.int .i64 (1 + (k : Int))) rfl (by kernel_rfl) (by rfl) (fun _ _ _ h => h) (fun o e w _ => by unfold execOp; simp only [e]; go_simp; have := HK.out; rw [wrap_in (by omega)]) (.both HT.out HS.out) ?_
  simp only [Act.put, List.setIfInBounds_toArray, List.set_cons_zero, List.set_cons_succ]
  refine E_slice 12 (some 21) _ _ _ _ (.pointer (some ⟨b, 1, none⟩)) (.int .i64 1) (.int .i64 (1 + (k : Int))) (.slice (some ⟨b, 2, none⟩) k 10) rfl (by kernel_rfl) (by rfl) (fun _ _ _ h => h) (by rfl) (by rfl) (by rfl) (run_slice11 b HK.out) (.both HT.out HS.out) ?_
  simp only [Act.put, List.setIfInBounds_toArray, List.set_cons_zero, List.set_cons_succ]
  refine E_one 13 (by kernel_rfl) (StepE.append 13 (some 22) 49 3 _ _ w2.heap.size iA _ 1 8 rfl (by rfl) Try.underlying49 IA.out.1 IA.out.2.1 IA.out.2.2.1 IA.out.2.2.2 rfl (by omega) (.slice none 0 0) 0 [] (by rfl) ⟨rfl, .inl ⟨rfl, rfl⟩⟩ _ (some ⟨b, 2, none⟩) k 10 (((m.regs.drop 1).take k).map (Value.int .i64)) (by rfl) (HS.out.reads HM.out.at_.lt HLEN.out HK.out) (fun u hu => by obtain ⟨_, _, rfl⟩ := List.mem_map.1 hu; rfl) (by have := HK.out; unfold maxLen; omega) (by have := HK.out; omega) (Nat.le_refl _) ?_)
  intro va wq Ra Ga Oa
  have hbq : Below w2.heap.size w2 wq := (Below.refl _ _).grown Ga (Nat.le_refl _) (fun c e => by cases e)
  have HVA := hide (args_nums Ra HM.out.at_.low HM.out.at_.lt HREG.out (fun c hc => Oa.elim (fun e => by rw [e] at hc; cases hc) (fun e => by rw [e] at hc; injection hc with hc; rw [hc]; exact Nat.le_refl _)))
  have HV1 := hide (own_one Ra)
  replace HM := hide (HM.out.step hbq)
  replace HT := hide (HM.out.blk HB0.out HLOW.out).1
  replace HS := hide (show MT b g m.regs wq from HRQ.out ▸ HM.out.at_.mt)
  clear Ra Ga Oa hbq
  refine ⟨.both HT.out HS.out, ?_⟩
  simp only [Act.put, List.setIfInBounds_toArray, List.set_cons_zero, List.set_cons_succ]
  refine E_build 14 (some 23) _ _ (#[(0, .int .i8 2), (4, .int .i64 x.imm), (3, .int .i64 nv), (5, va)]) (.agg (evC (⟨2, 0, 0, nv, x.imm, (m.regs.drop 1).take k⟩, va)).toArray) rfl (by kernel_rfl) (by rfl) (fun _ _ _ h => h) (by simp only [List.map_toArray, List.map_cons, List.map_nil]; rfl) (fun w => run_build1 HVA.out w) (.both HT.out HS.out) ?_
  simp only [Act.put, List.setIfInBounds_toArray, List.set_cons_zero, List.set_cons_succ]
  refine E_one 15 (by kernel_rfl) (StepE.of 15 (some 24) _ rfl (by rfl) fun o K h2 h3 hKK => ?_)
  unfold Oper.wp execOp
  simp only [h3]
  go_simp
  refine (event_any HM.out.at_ ⟨2, 0, 0, nv, x.imm, (m.regs.drop 1).take k⟩ va HV1.out ⟨by unfold I8; dsimp only; omega, by unfold I8; dsimp only; omega, i64_zero, HNI.out, HX.out.2.2.2.2.2.2.2⟩ HVA.out HEL.out).mono ?_
  rintro e wq ⟨rfl, Fq, Gq, hmq⟩
  replace HM := hide (HM.out.trans hmq)
  replace HT := hide (HM.out.blk HB0.out HLOW.out).1
  replace HS := hide (show MT b g m.regs wq from HRQ.out ▸ HM.out.at_.mt)
  clear hmq
  dsimp only
  refine hKK _ _ (.both HT.out HS.out) ?_
  clear hKK h2 h3 K o
  try simp only [Act.put, List.setIfInBounds_toArray, List.set_cons_zero, List.set_cons_succ]
  refine wpAnyE_done (by kernel_rfl) ?_ _
  have HWQ := hide HM.out.at_
  clear HT HVA HV1
  rename World => w5
  have c1 : w5.cell? ⟨b, 1, none⟩ = some (.int .i64 (mv.event ⟨2, 0, 0, nv, x.imm, (m.regs.drop 1).take k⟩ |>.regs.getD 0 0)) := HWQ.out.creg (d := 0) (by omega)
  have f1 : w5.frozen? ⟨b, 1, none⟩ = false := HWQ.out.frozen 1
  clear HWQ HS
  go_wp2_with fail
  have HM5 := hide (show MG base g b G Wd _ _ ⟨mv.p, mv.regs.set 0 nv, mv.evs ++ [⟨2, 0, 0, nv, x.imm, (m.regs.drop 1).take k⟩], mv.err⟩ ex (w5.setCell ⟨b, 1, none⟩ (.int .i64 nv)) from HM.out.trans (HM.out.at_.setReg (d := 0) (by omega) HNI.out))
  refine (HZ.out _ _ _ HM5.out.at_).mono ?_
  rintro e w6 ⟨rfl, hi6, F6, G6, hm6⟩
  have HM6 := hide (HM5.out.trans hm6)
  have HI6 := hide hi6
  clear hm6 hi6 HM HM5 c1 f1
  go_wp2_with fail
  go_loopw [6] (fun i wr => ∃ j : Nat, j ≤ 5 ∧ i = .int .i64 ((j : Int) + 1) ∧ ∃ F' G', MG base g b G Wd F' G' ⟨mz.p, fiveT mz.regs nz j, mz.evs, mz.err⟩ ex wr) (fun i _ => 5 - ((intOf i).toNat - 1))
  case atStart => exact ⟨0, by omega, rfl, _, _, HM6.out⟩
  case round =>
    obtain ⟨j, hj, rfl, F', G', hmr⟩ := hrel
    have HMR := hide hmr
    clear hmr
    by_cases hlt : j < 5
    · have cj := HMR.out.at_.creg (d := j + 1) (by omega)
      have fj := HMR.out.at_.frozen (1 + (j + 1))
      have hset := hide (HMR.out.trans (HMR.out.at_.setReg (d := j + 1) (by omega) HI6.out))
      obtain ⟨j1, hj1⟩ : ∃ j1, j + 1 = j1 := ⟨_, rfl⟩
      rw [hj1] at cj fj hset
      have hji : (j : Int) + 1 = (j1 : Int) := by omega
      rw [hji]
      have hj5 : j1 ≤ 5 := by omega
      have hj0 : 1 ≤ j1 := by omega
      have HJ := hide hj1
      clear hj1 hji hlt hj
      go_wp2
      go_roundw
      case measure => simp [intOf]; have := HJ.out; omega
      case rel => exact ⟨j1, hj5, by go_num, F', G', by have := hset.out; rw [← HJ.out] at this ⊢; exact this⟩
    · obtain rfl : j = 5 := by omega
      go_wp2
      go_end0
      rw [HNX.out]
      exact ⟨rfl, _, _, HG.out.trans HMR.out⟩
end
end Go.Proofs.Ytepagfkkjlbipaa
