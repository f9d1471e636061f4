/-
  Contract of symbc's method call. Conditions: those written in each statement.
  Contract of symbc's method ends. Conditions: those written in each statement.
-/
import Derived.Test.YtepagfkkjlbipaaGreatKat
import Derived.Test.YtepagfkkjlbipaaGreatKag
import Derived.Test.YtepagfkkjlbipaaGreatKah
section
namespace Go.Proofs.YtepagfkkjlbipaaGreat
open Go.RowKit
set_option linter.unusedVariables false
set_option linter.unusedSimpArgs false
set_option maxRecDepth 100000
section
variable {base g b : Nat} {F G F1 G1 : Nat → Prop} {m : SM} {ex : ExD} {w : World}
theorem E_slice {P : Program} {ops : Array Oper} {Q : Exit → Act → World → Prop} {md : Region.Mode} {T S : World → Prop} {late : List Nat} {fuel : Nat} {listed : Array Bool} {a : Act} {w : World} (i : Nat) (d : Option Tmp) (t : TypeId) (x lo hi : Operand) (vx vl vh v : Value) (ho : opAt ops i = some (d, .slice t x (some lo) (some hi) none)) (hc : checkE md ops late listed i false = true) (hw : wantAt ops i a = some true)
  (hQ : ∀ c a w, Q (.panic c) (a.put d v) w → Q (.panic c) a w) (hx : a.eval x = vx) (hl : a.eval lo = vl) (hh : a.eval hi = vh) (hr : ∀ w, (Instr.sliceAt t vx (some vl) (some vh) none).run P w = .ok v w)
  (hS : St T S late listed w) (h : wpAnyE P md ops Q T S late fuel (listed.setIfInBounds i true) (a.put d v) w) : wpAnyE P md ops Q T S late (fuel + 1) listed a w :=
 E_any false i d _ _ ho hc hw hQ (fun o e w _ => by
  unfold execOp
  simp only [e, hx, hl, hh, Option.map_some, Option.map_none, Sem.run_bind, hr, Result.andThen_ok, Sem.run_pure]) hS h
theorem run_slice11 (b : Nat) {k : Nat} (hk : k ≤ 5) (w : World) : (Instr.sliceAt 57 (.pointer (some ⟨b, 1, none⟩)) (some (.int .i64 1)) (some (.int .i64 (1 + (k : Int)))) none).run Tryz.prog w = .ok (.slice (some ⟨b, 2, none⟩) k 10) w := by
 have h : k = 0 ∨ k = 1 ∨ k = 2 ∨ k = 3 ∨ k = 4 ∨ k = 5 := by omega
 rcases h with rfl | rfl | rfl | rfl | rfl | rfl
 all_goals go_simp
theorem MT.reads {regs : List Int} {k : Nat} (h : MT b g regs w) (hb : b < w.heap.size) (hl : regs.length = 11) (hk : k ≤ 5) : Reads w w.heap.size 1 (some ⟨b, 2, none⟩) k (((regs.drop 1).take k).map (Value.int .i64)) := by
 refine ⟨by simp; omega, fun hn => ⟨_, rfl, hb, fun j u hu => ?_⟩⟩
 have hj : j < k := by
  have := (List.getElem?_eq_some_iff.1 hu).1
  simp at this
  omega
 rw [addr_add, show 2 + j = 1 + (1 + j) by omega, h.2 (1 + j) (by omega)]
 rw [List.getElem?_map, List.getElem?_take_of_lt hj, List.getElem?_drop, List.getElem?_eq_getElem (by omega)] at hu
 rw [List.getD_eq_getElem?_getD, List.getElem?_eq_getElem (by omega)]
 exact hu
def fiveT (l : List Int) (n : Int) : Nat → List Int
 | 0 => l
 | k + 1 => (fiveT l n k).set (k + 1) n
theorem run_build1 {n i : Int} {l : List Int} {va : Value} (hv : NumsF w G va l) (W : World) : (Instr.build 72 #[(0, .int .i8 2), (4, .int .i64 i), (3, .int .i64 n), (5, va)]).run Tryz.prog W = .ok (.agg (evC (⟨2, 0, 0, n, i, l⟩, va)).toArray) W := by
 obtain ⟨A, c, rfl⟩ := hv.form
 exact run_build W 72 _ _ (by kernel_rfl)
theorem args_nums {W w' : World} {va : Value} {regs : List Int} {k : Nat} (Ra : w'.ownsRow W.heap.size 3 1 va (0 + k) ([] ++ ((regs.drop 1).take k).map (Value.int .i64))) (hlow : ∀ c, G c → base ≤ c ∧ c < W.heap.size) (hbW : b < W.heap.size) (hr : regs.length = 11 ∧ (∀ r ∈ regs, I64 r) ∧ k ≤ 5) (hO : ∀ c, va.ownBlock = some c → W.heap.size ≤ c) : NumsF w' (Up G b) va ((regs.drop 1).take k) := by
 have hl : ((regs.drop 1).take k).length = 0 + k := by simp; omega
 obtain ⟨A, c, e, hc, hR⟩ := ReadsF.of_own (F := Up G b) Ra (fun c hc q => q.elim (fun q => by have := hO c hc; have := (hlow c q).2; omega) (fun q => by have := hO c hc; omega))
 refine ⟨A, c, by rw [hl]; exact e, by rw [hl]; exact hc, by rw [hl]; exact hR, fun x hx => hr.2.1 x (List.mem_of_mem_drop (List.mem_of_mem_take hx)), by omega⟩
set_option maxHeartbeats 4000000 in
theorem call_any (h : MA base g b F G m ex w) (x : ID) (hx : x.wf) (hlt : m.evs.length < 64) : Calls Tryz.prog 47 #[.pointer (some ⟨b, 0, none⟩), .agg x.cells.toArray] w (MEnd base g b G ex w (m.call x)) := by
 have hb0 : base ≤ w.heap.size := Nat.le_trans (h.low b h.nb.2).1 (Nat.le_of_lt h.lt)
 have hbl := ((Below.refl w.heap.size w).alloc (Nat.le_refl _) (.cells x.cells.toArray 47))
 have HG := hide (MG.of_below h hbl)
 have HB0 := hide (show Blk (w.alloc (.cells x.cells.toArray 47)) w.heap.size 47 x.cells.toArray from Blk.new w 47 x.cells.toArray)
 have HLOW := hide (fun (e : G w.heap.size) => by have := (h.low _ e).2; omega : ¬ G w.heap.size)
 obtain ⟨iA, hiA, hzA, hsA, hbA⟩ := info_parts infIn
 have IA := hide (And.intro hiA (And.intro hzA (And.intro hsA hbA)))
 obtain ⟨v, hv⟩ : ∃ v, m.next 64 = v := ⟨_, rfl⟩
 have HV := hide (fun (W : World) (F G : Nat → Prop) (hW : MA base g b F G m ex W) => by have := next_any hW 64 (by unfold I8; omega); rw [hv] at this; exact this)
 have HRQ := hide (show v.1.regs = m.regs by rw [← hv]; rfl)
 have HEL := hide (show v.1.evs.length < 64 by rw [← hv]; exact hlt)
 have hab := argsN_bd x.imm
 obtain ⟨k, hk⟩ : ∃ k : Nat, argsN x.imm = (k : Int) := ⟨(argsN x.imm).toNat, by omega⟩
 have HK := hide (show k ≤ 5 by omega)
 have HA := hide (fun (W : World) => by have := args_any x.imm W; rw [hk] at this; exact this)
 have HLEN := hide h.len
 have HREG := hide (And.intro h.len (And.intro h.rng HK.out))
 obtain ⟨z, hz⟩ : ∃ z, SM.num ⟨v.1.p, v.1.regs.set 0 v.2, v.1.evs ++ [⟨2, 0, 0, v.2, x.imm, (m.regs.drop 1).take k⟩], v.1.err⟩ 0 = z := ⟨_, rfl⟩
 have HZ := hide (fun (W : World) (F G : Nat → Prop) (hW : MA base g b F G ⟨v.1.p, v.1.regs.set 0 v.2, v.1.evs ++ [⟨2, 0, 0, v.2, x.imm, (m.regs.drop 1).take k⟩], v.1.err⟩ ex W) => by have := num_any hW 0 i64_zero; rw [hz] at this; exact this)
 have HNX := hide (show m.call x = ⟨z.1.p, fiveT z.1.regs z.2 5, z.1.evs, z.1.err⟩ by
  unfold SM.call
  dsimp only
  rw [hv, hk, Int.toNat_natCast]
  show (let q := SM.num ⟨v.1.p, v.1.regs.set 0 v.2, v.1.evs ++ [⟨2, 0, 0, v.2, x.imm, (m.regs.drop 1).take k⟩], v.1.err⟩ 0; ({ q.1 with regs := fiveL q.1.regs q.2 } : SM)) = _
  dsimp only
  rw [hz]
  rfl)
 obtain ⟨mv, nv⟩ := v
 obtain ⟨mz, nz⟩ := z
 dsimp only at HV HRQ HEL HZ HNX
 have HX := hide hx
 have HM := hide (MG.refl HG.out.at_)
 clear h hx hv hlt hb0 hbl hab hk hz hiA hzA hsA hbA
 go_enter Tryz.func47, Tryz.ntmps47
 go_upto_region 1 with fail
 generalize (w.alloc (.cells x.cells.toArray 47)) = Wd at HG HM HB0 ⊢
 generalize w.heap.size = bx at HB0 HLOW ⊢
 go_wp2_with fail
 refine (HV.out _ _ _ HM.out.at_).mono ?_
 rintro e w1 ⟨rfl, hi1, F1, G1, hm1⟩
 replace HM := hide (HM.out.trans hm1)
 have HNI := hide hi1
 clear hm1 hi1
 go_wp2
 refine wp_region_E (fun w' => Blk w' bx 47 x.cells.toArray) (MT b g m.regs) [] (by kernel_rfl) ?_
 replace HM := hide (HM.out.step ((Below.refl _ _).drew))
 generalize w1.drew = w2 at HM ⊢
 have HT := hide (HM.out.blk HB0.out HLOW.out).1
 have HS := hide (show MT b g m.regs w2 from HRQ.out ▸ HM.out.at_.mt)
 refine em 0 (.pointer (some ⟨b, 0, none⟩)) (.both HT.out HS.out) ?_
 simp only [sL]
 refine ef 1 ⟨bx, 0, none⟩ ⟨bx, 8, none⟩ (.both HT.out HS.out) ?_
 simp only [sL]
 refine el false 2 ⟨bx, 8, none⟩ (.int .i64 x.imm) Tryz.underlying3 (fun w hS => (hS.1.cell 8)) (.both HT.out HS.out) ?_
 simp only [sL]
 refine em 3 (.int .i64 nv) (.both HT.out HS.out) ?_
 simp only [sL]
 refine em 4 (.pointer (some ⟨b, 0, none⟩)) (.both HT.out HS.out) ?_
 simp only [sL]
 refine ez 5 ⟨b, 0, none⟩ (.both HT.out HS.out) ?_
 simp only [sL]
 refine ef 6 ⟨b, 0, none⟩ ⟨b, 1, none⟩ (.both HT.out HS.out) ?_
 simp only [sL]
 refine ef 7 ⟨b, 1, none⟩ ⟨b, 1, none⟩ (.both HT.out HS.out) ?_
 simp only [sL]
 refine ef 8 ⟨bx, 0, none⟩ ⟨bx, 8, none⟩ (.both HT.out HS.out) ?_
 simp only [sL]
 refine el false 9 ⟨bx, 8, none⟩ (.int .i64 x.imm) Tryz.underlying3 (fun w hS => (hS.1.cell 8)) (.both HT.out HS.out) ?_
 simp only [sL]
 refine E_one 10 (by kernel_rfl) (StepE.of 10 (some 19) _ rfl (by rfl) fun o K h2 h3 hKK => ?_)
 unfold Oper.wp execOp
 simp only [h3]
 go_simp
 refine (HA.out _).mono ?_
 rintro e wq ⟨rfl, rfl⟩
 dsimp only
 refine hKK _ _ (.both HT.out HS.out) ?_
 clear hKK h2 h3 K o
 try simp only [pt, pn, sL]
 refine eb 11 (.int .i64 (1 + (k : Int))) rfl (fun o e w _ => by unfold execOp; simp only [e]; go_simp; have := HK.out; rw [wrap_in (by omega)]) (.both HT.out HS.out) ?_
 simp only [sL]
 refine E_slice 12 (some 21) _ _ _ _ (.pointer (some ⟨b, 1, none⟩)) (.int .i64 1) (.int .i64 (1 + (k : Int))) (.slice (some ⟨b, 2, none⟩) k 10) rfl (by kernel_rfl) (by rfl) (fun _ _ _ h => h) (by rfl) (by rfl) (by rfl) (run_slice11 b HK.out) (.both HT.out HS.out) ?_
 simp only [pt, pn, sL]
 refine E_one 13 (by kernel_rfl) (StepE.append 13 (some 22) 28 3 _ _ w2.heap.size iA _ 1 8 rfl (by rfl) Tryz.underlying28 IA.out.1 IA.out.2.1 IA.out.2.2.1 IA.out.2.2.2 rfl (by omega) (.slice none 0 0) 0 [] (by rfl) ⟨rfl, .inl ⟨rfl, rfl⟩⟩ _ (some ⟨b, 2, none⟩) k 10 (((m.regs.drop 1).take k).map (Value.int .i64)) (by rfl) (HS.out.reads HM.out.at_.lt HLEN.out HK.out) (fun u hu => by obtain ⟨_, _, rfl⟩ := List.mem_map.1 hu; rfl) (by have := HK.out; unfold maxLen; omega) (by have := HK.out; omega) (Nat.le_refl _) ?_)
 intro va wq Ra Ga Oa
 have hbq : Below w2.heap.size w2 wq := (Below.refl _ _).grown Ga (Nat.le_refl _) (fun c e => by cases e)
 have HVA := hide (args_nums Ra HM.out.at_.low HM.out.at_.lt HREG.out (fun c hc => Oa.elim (fun e => by rw [e] at hc; cases hc) (fun e => by rw [e] at hc; injection hc with hc; rw [hc]; exact Nat.le_refl _)))
 have HV1 := hide (own_one Ra)
 replace HM := hide (HM.out.step hbq)
 replace HT := hide (HM.out.blk HB0.out HLOW.out).1
 replace HS := hide (show MT b g m.regs wq from HRQ.out ▸ HM.out.at_.mt)
 clear Ra Ga Oa hbq
 refine ⟨.both HT.out HS.out, ?_⟩
 simp only [pt, pn, sL]
 refine E_build 14 (some 23) _ _ (#[(0, .int .i8 2), (4, .int .i64 x.imm), (3, .int .i64 nv), (5, va)]) (.agg (evC (⟨2, 0, 0, nv, x.imm, (m.regs.drop 1).take k⟩, va)).toArray) rfl (by kernel_rfl) (by rfl) (fun _ _ _ h => h) (by simp only [List.map_toArray, List.map_cons, List.map_nil]; rfl) (fun w => run_build1 HVA.out w) (.both HT.out HS.out) ?_
 simp only [pt, pn, sL]
 refine E_one 15 (by kernel_rfl) (StepE.of 15 (some 24) _ rfl (by rfl) fun o K h2 h3 hKK => ?_)
 unfold Oper.wp execOp
 simp only [h3]
 go_simp
 refine (event_any HM.out.at_ ⟨2, 0, 0, nv, x.imm, (m.regs.drop 1).take k⟩ va HV1.out ⟨by unfold I8; dsimp only; omega, by unfold I8; dsimp only; omega, i64_zero, HNI.out, HX.out.2.2.2.2.2.2.2⟩ HVA.out HEL.out).mono ?_
 rintro e wq ⟨rfl, Fq, Gq, hmq⟩
 replace HM := hide (HM.out.trans hmq)
 replace HT := hide (HM.out.blk HB0.out HLOW.out).1
 replace HS := hide (show MT b g m.regs wq from HRQ.out ▸ HM.out.at_.mt)
 clear hmq
 dsimp only
 refine hKK _ _ (.both HT.out HS.out) ?_
 clear hKK h2 h3 K o
 try simp only [pt, pn, sL]
 refine wpAnyE_done (by kernel_rfl) ?_ _
 have HWQ := hide HM.out.at_
 clear HT HVA HV1
 rename World => w5
 have c1 : w5.cell? ⟨b, 1, none⟩ = some (.int .i64 (mv.event ⟨2, 0, 0, nv, x.imm, (m.regs.drop 1).take k⟩ |>.regs.getD 0 0)) := HWQ.out.creg (d := 0) (by omega)
 have f1 : w5.frozen? ⟨b, 1, none⟩ = false := HWQ.out.frozen 1
 clear HWQ HS
 go_wp2_with fail
 have HM5 := hide (show MG base g b G Wd _ _ ⟨mv.p, mv.regs.set 0 nv, mv.evs ++ [⟨2, 0, 0, nv, x.imm, (m.regs.drop 1).take k⟩], mv.err⟩ ex (w5.setCell ⟨b, 1, none⟩ (.int .i64 nv)) from HM.out.trans (HM.out.at_.setReg (d := 0) (by omega) HNI.out))
 refine (HZ.out _ _ _ HM5.out.at_).mono ?_
 rintro e w6 ⟨rfl, hi6, F6, G6, hm6⟩
 have HM6 := hide (HM5.out.trans hm6)
 have HI6 := hide hi6
 clear hm6 hi6 HM HM5 c1 f1
 go_wp2_with fail
 go_loopw [6] (fun i wr => ∃ j : Nat, j ≤ 5 ∧ i = .int .i64 ((j : Int) + 1) ∧ ∃ F' G', MG base g b G Wd F' G' ⟨mz.p, fiveT mz.regs nz j, mz.evs, mz.err⟩ ex wr) (fun i _ => 5 - ((intOf i).toNat - 1))
 case atStart => exact ⟨0, by omega, rfl, _, _, HM6.out⟩
 case round =>
  obtain ⟨j, hj, rfl, F', G', hmr⟩ := hrel
  have HMR := hide hmr
  clear hmr
  by_cases hlt : j < 5
  ·have cj := HMR.out.at_.creg (d := j + 1) (by omega)
   have fj := HMR.out.at_.frozen (1 + (j + 1))
   have hset := hide (HMR.out.trans (HMR.out.at_.setReg (d := j + 1) (by omega) HI6.out))
   obtain ⟨j1, hj1⟩ : ∃ j1, j + 1 = j1 := ⟨_, rfl⟩
   rw [hj1] at cj fj hset
   have hji : (j : Int) + 1 = (j1 : Int) := by omega
   rw [hji]
   have hj5 : j1 ≤ 5 := by omega
   have hj0 : 1 ≤ j1 := by omega
   have HJ := hide hj1
   clear hj1 hji hlt hj
   go_wp2
   go_roundw
   case measure => simp [intOf]; have := HJ.out; omega
   case rel => exact ⟨j1, hj5, by go_num, F', G', by have := hset.out; rw [← HJ.out] at this ⊢; exact this⟩
  ·obtain rfl : j = 5 := by omega
   go_wp2
   go_end0
   rw [HNX.out]
   exact ⟨rfl, _, _, HG.out.trans HMR.out⟩
end
end Go.Proofs.YtepagfkkjlbipaaGreat
end
section
namespace Go.Proofs.YtepagfkkjlbipaaGreat
open Go.RowKit
set_option linter.unusedVariables false
set_option linter.unusedSimpArgs false
set_option maxRecDepth 100000
section
variable {base g b : Nat} {F G F1 G1 : Nat → Prop} {m : SM} {ex : ExD} {w : World}
theorem MA.exit2 {w' : World} (h : MA base g b F G m ex w) {cs : List Value} (hB0 : Blk w b 114 cs.toArray) (ex' : ExD) (hB1 : Blk w' b 114 (overC cs 13 [.int .i8 ex'.kind, .int .i64 ex'.v, .int .i64 ex'.tgt, .int .i64 ex'.els]).toArray) (Gr : w.grownBy w' (some b)) : MG base g b G w F G m ex' w' :=
 h.exit ex' (fun es hE => by
  have e : w.heap[b]? = some (.cells cs.toArray 114 (0, 0)) := hB0
  have e2 : w.heap[b]? = some (.cells (mC g m.regs es ex m.err).toArray 114 (0, 0)) := hE
  rw [e] at e2
  injection e2 with e2
  injection e2 with e2
  have e3 : cs = mC g m.regs es ex m.err := by simpa using e2
  rw [e3] at hB1
  exact hB1) Gr
theorem sizX : (Tryz.prog.info? 63).map (·.size) = some 4 := by kernel_rfl
def exC (e : ExD) : List Value := [.int .i8 e.kind, .int .i64 e.v, .int .i64 e.tgt, .int .i64 e.els]
theorem exC_one (e : ExD) : ∀ u ∈ exC e, u.oneCell' = true := by
 intro u hu
 unfold exC at hu
 simp only [List.mem_cons, List.not_mem_nil, or_false] at hu
 rcases hu with rfl | rfl | rfl | rfl <;> rfl
theorem build_ret (n : Int) (w : World) : (Instr.build 63 #[(0, .int .i8 0), (1, .int .i64 n)]).run Tryz.prog w = .ok (.agg (exC ⟨0, n, 0, 0⟩).toArray) w := run_build w 63 _ _ (by kernel_rfl)
theorem build_goto (n : Int) (w : World) : (Instr.build 63 #[(0, .int .i8 1), (2, .int .i64 n)]).run Tryz.prog w = .ok (.agg (exC ⟨1, 0, n, 0⟩).toArray) w := run_build w 63 _ _ (by kernel_rfl)
theorem NumsF.at0 {nn cn : Nat} {An : Option Addr} {nx : List Int} (h : NumsF w G (.slice An nn cn) nx) {k : Nat} (hk : k < nn) : ∃ ad, An = some ad ∧ ad.block < w.heap.size ∧ w.cell? (ad.add k) = some (.int .i64 (nx.getD k 0)) := by
 obtain ⟨ad, x, e, hb, hx, _, hc⟩ := h.at_ hk
 exact ⟨ad, e, hb, by rw [hc, List.getD_eq_getElem?_getD, hx]; rfl⟩
set_option maxHeartbeats 4000000 in
theorem ends_ret (h : MA base g b F G m ex w) (x : ID) (hk : x.kind = 6) (s : Value) (nx : List Int) : Calls Tryz.prog 48 #[.pointer (some ⟨b, 0, none⟩), .agg x.cells.toArray, s] w (MEnd base g b G (m.ends x nx).2 w (m.ends x nx).1) := by
 have hb0 : base ≤ w.heap.size := Nat.le_trans (h.low b h.nb.2).1 (Nat.le_of_lt h.lt)
 have hbl := ((Below.refl w.heap.size w).alloc (Nat.le_refl _) (.cells x.cells.toArray 47))
 have HG := hide (MG.of_below h hbl)
 have HB0 := hide (show Blk (w.alloc (.cells x.cells.toArray 47)) w.heap.size 47 x.cells.toArray from Blk.new w 47 x.cells.toArray)
 have HLOW := hide (fun (e : G w.heap.size) => by have := (h.low _ e).2; omega : ¬ G w.heap.size)
 obtain ⟨r0, hr0⟩ : ∃ r, m.regs.getD 0 0 = r := ⟨_, rfl⟩
 have HNX := hide (show m.ends x nx = (m, ⟨0, r0, 0, 0⟩) by unfold SM.ends; rw [if_pos hk, ← hr0]; rfl)
 have c1 : (w.alloc (.cells x.cells.toArray 47)).cell? ⟨b, 1, none⟩ = some (.int .i64 r0) := by rw [← hr0]; exact HG.out.at_.creg (d := 0) (by omega)
 have HM := hide (MG.refl HG.out.at_)
 have HK := hide hk
 clear h hk hb0 hbl hr0
 go_enter Tryz.func48, Tryz.ntmps48
 go_upto_region 1 with fail
 generalize (w.alloc (.cells x.cells.toArray 47)) = Wd at HG HM HB0 c1 ⊢
 generalize w.heap.size = bx at HB0 HLOW ⊢
 have b0 : Wd.cell? ⟨bx, 0, none⟩ = some (.int .i8 6) := by rw [← HK.out]; exact HB0.out.cell 0
 have qb := fun (W : World) => build_ret r0 W
 obtain ⟨es, qe, hBs, _⟩ := HM.out.at_.box
 have HBS := hide hBs
 have HLN := hide HM.out.at_.len
 clear hBs
 go_wp2_with (first
  | (refine wpList_store_at rfl 63 (.tmp 40) (.tmp 37) rfl b 13 114 _ (exC ⟨0, r0, 0, 0⟩) (.agg (exC ⟨0, r0, 0, 0⟩).toArray) HBS.out (by rfl) (by rfl) rfl sizX (by rw [mC_len HLN.out]; simp [exC]) (exC_one _) ?_
     intro wq hBq hgq hsq
     have HMQ := hide (HM.out.trans (HM.out.at_.exit2 HBS.out ⟨0, r0, 0, 0⟩ hBq hgq))
     clear hBq hgq hsq)
  | fail)
 go_end0
 rw [HNX.out]
 exact ⟨rfl, _, _, HG.out.trans HMQ.out⟩
theorem run_ixs {ad : Addr} {nn cn k : Nat} {i : Int} (hi : i = (k : Int)) (hk : k < nn) (w : World) : (Instr.indexAt 28 (.slice (some ad) nn cn) (.int .i64 i)).run Tryz.prog w = .ok (.pointer (some (ad.add k))) w := by
 subst hi
 go_simp
/-- The blocks that are next, as they lie. -/
def NT (ad : Addr) (n0 n1 : Int) (w : World) : Prop := w.cell? (ad.add 0) = some (.int .i64 n0) ∧ w.cell? (ad.add 1) = some (.int .i64 n1)
set_option maxHeartbeats 4000000 in
theorem ends_far (h : MA base g b F G m ex w) (x : ID) (hk6 : x.kind ≠ 6) (hk : x.kind ≠ 3) {An : Option Addr} {nn cn : Nat} {nx : List Int} (hn : NumsF w G (.slice An nn cn) nx) (hnn : 0 < nn) : Calls Tryz.prog 48 #[.pointer (some ⟨b, 0, none⟩), .agg x.cells.toArray, .slice An nn cn] w (MEnd base g b G (m.ends x nx).2 w (m.ends x nx).1) := by
 have hb0 : base ≤ w.heap.size := Nat.le_trans (h.low b h.nb.2).1 (Nat.le_of_lt h.lt)
 have hbl := (Below.refl w.heap.size w).alloc (Nat.le_refl _) (.cells x.cells.toArray 47)
 have HG := hide (MG.of_below h hbl)
 have HB0 := hide (show Blk (w.alloc (.cells x.cells.toArray 47)) w.heap.size 47 x.cells.toArray from Blk.new w 47 x.cells.toArray)
 have HLOW := hide (fun (e : G w.heap.size) => by have := (h.low _ e).2; omega : ¬ G w.heap.size)
 have HNF := hide (hn.chg (G := G) (Chg.of_below hbl) (fun k q => .inr q) (fun k q => .inl q))
 obtain ⟨n0, hn0⟩ : ∃ n, nx.getD 0 0 = n := ⟨_, rfl⟩
 have HNX := hide (show m.ends x nx = (m, ⟨1, 0, n0, 0⟩) by unfold SM.ends; rw [if_neg hk6, if_neg (by rintro ⟨q1, q2⟩; exact hk q1), hn0])
 obtain ⟨ad, hAn, hab, hc0⟩ := HNF.out.at0 (k := 0) (by omega)
 subst hAn
 rw [hn0] at hc0
 have hk6' : (x.kind == 6) = false := by simpa using hk6
 have hk3' : (x.kind == 3) = false := by simpa using hk
 have HM := hide (MG.refl HG.out.at_)
 have HC0 := hide hc0
 skip
 have HNN := hide (And.intro hnn hnn)
 obtain ⟨kd, hkd⟩ : ∃ k, x.kind = k := ⟨_, rfl⟩
 rw [hkd] at hk6' hk3'
 have b0 : (w.alloc (.cells x.cells.toArray 47)).cell? ⟨w.heap.size, 0, none⟩ = some (.int .i8 kd) := by rw [← hkd]; exact HB0.out.cell 0
 clear h hk hk6 hb0 hbl hn hn0 hc0 hkd hab HNF
 go_enter Tryz.func48, Tryz.ntmps48
 go_upto_region 1 with fail
 generalize (w.alloc (.cells x.cells.toArray 47)) = Wd at HG HM HB0 HC0 b0 ⊢
 generalize w.heap.size = bx at HB0 HLOW b0 ⊢
 have HB1 := hide b0
 go_upto_region 2 with fail
 clear b0
 refine wp_region_E (fun w' => w'.cell? ⟨bx, 0, none⟩ = some (.int .i8 kd)) (fun _ => True) [] (by kernel_rfl) ?_
 have HT := hide (show Wd.drew.cell? ⟨bx, 0, none⟩ = some (.int .i8 kd) from HB1.out)
 have c0 : Wd.drew.cell? ad = some (.int .i64 n0) := HC0.out
 have b0 : Wd.drew.cell? ⟨bx, 0, none⟩ = some (.int .i8 kd) := HB1.out
 replace HM := hide (HM.out.step ((Below.refl _ _).drew))
 generalize Wd.drew = We at HM HT c0 b0 ⊢
 refine ef 0 ⟨bx, 0, none⟩ ⟨bx, 0, none⟩ (.both HT.out trivial) ?_
 simp only [sL]
 refine el false 1 ⟨bx, 0, none⟩ (.int .i8 kd) Tryz.underlying30 (fun w hS => hS.1) (.both HT.out trivial) ?_
 simp only [sL]
 refine eg 2 (.bool false) (.both HT.out trivial) ?_
 simp only [sL]
 refine em 3 (.bool false) (.both HT.out trivial) ?_
 simp only [sL]
 refine en 4 (.both HT.out trivial) ?_
 simp only [sL]
 refine en 5 (.both HT.out trivial) ?_
 simp only [sL]
 refine en 6 (.both HT.out trivial) ?_
 simp only [sL]
 refine en 7 (.both HT.out trivial) ?_
 simp only [sL]
 refine en 8 (.both HT.out trivial) ?_
 simp only [sL]
 refine en 9 (.both HT.out trivial) ?_
 simp only [sL]
 refine en 10 (.both HT.out trivial) ?_
 simp only [sL]
 refine ep 11 false (.bool false) (.both HT.out trivial) ?_
 simp only [sL]
 refine E_one 12 (by kernel_rfl) (StepE.assign 12 (some 13) _ (.bool false) rfl (by rfl) (by rfl) (.both HT.out trivial) ?_)
 simp only [pt, pn, sL]
 refine wpAnyE_done (by kernel_rfl) ?_ _
 have qb := fun (W : World) => build_goto n0 W
 obtain ⟨es, qe, hBs, _⟩ := HM.out.at_.box
 have HBS := hide hBs
 have HLN := hide HM.out.at_.len
 clear hBs
 go_wp2_with (first
  | (refine wpList_store_at rfl 63 (.tmp 99) (.tmp 96) rfl b 13 114 _ (exC ⟨1, 0, n0, 0⟩) (.agg (exC ⟨1, 0, n0, 0⟩).toArray) HBS.out (by rfl) (by rfl) rfl sizX (by rw [mC_len HLN.out]; simp [exC]) (exC_one _) ?_
     intro wq hBq hgq hsq
     have HMQ := hide (HM.out.trans (HM.out.at_.exit2 HBS.out ⟨1, 0, n0, 0⟩ hBq hgq))
     clear hBq hgq hsq)
  | fail)
 go_end0
 rw [HNX.out]
 exact ⟨rfl, _, _, HG.out.trans HMQ.out⟩
set_option maxHeartbeats 4000000 in
theorem ends_same (h : MA base g b F G m ex w) (x : ID) (hk6 : x.kind ≠ 6) (hk : x.kind = 3) {An : Option Addr} {nn cn : Nat} {nx : List Int} (hn : NumsF w G (.slice An nn cn) nx) (hnn : 1 < nn) (he : nx.getD 0 0 = nx.getD 1 0) : Calls Tryz.prog 48 #[.pointer (some ⟨b, 0, none⟩), .agg x.cells.toArray, .slice An nn cn] w (MEnd base g b G (m.ends x nx).2 w (m.ends x nx).1) := by
 have hb0 : base ≤ w.heap.size := Nat.le_trans (h.low b h.nb.2).1 (Nat.le_of_lt h.lt)
 have hbl := (Below.refl w.heap.size w).alloc (Nat.le_refl _) (.cells x.cells.toArray 47)
 have HG := hide (MG.of_below h hbl)
 have HB0 := hide (show Blk (w.alloc (.cells x.cells.toArray 47)) w.heap.size 47 x.cells.toArray from Blk.new w 47 x.cells.toArray)
 have HLOW := hide (fun (e : G w.heap.size) => by have := (h.low _ e).2; omega : ¬ G w.heap.size)
 have HNF := hide (hn.chg (G := G) (Chg.of_below hbl) (fun k q => .inr q) (fun k q => .inl q))
 obtain ⟨n0, hn0⟩ : ∃ n, nx.getD 0 0 = n := ⟨_, rfl⟩
 obtain ⟨n1, hn1⟩ : ∃ n, nx.getD 1 0 = n := ⟨_, rfl⟩
 have HNX := hide (show m.ends x nx = (m, ⟨1, 0, n0, 0⟩) by unfold SM.ends; rw [if_neg hk6, if_neg (by rintro ⟨q1, q2⟩; exact q2 he), hn0])
 obtain ⟨ad, hAn, hab, hc0⟩ := HNF.out.at0 (k := 0) (by omega)
 subst hAn
 rw [hn0] at hc0
 obtain ⟨ad', hAn, _, hc1⟩ := HNF.out.at0 (k := 1) (by omega)
 injection hAn with hAn
 subst hAn
 rw [hn1] at hc1
 have hne : (n0 != n1) = false := by rw [← hn0, ← hn1, he]; simp
 have hk6' : (x.kind == 6) = false := by simpa using hk6
 have hk3' : (x.kind == 3) = true := by simpa using hk
 have HM := hide (MG.refl HG.out.at_)
 have HC0 := hide hc0
 have HC1 := hide hc1
 have HNN := hide (And.intro (show 0 < nn by omega) (show 1 < nn by omega))
 obtain ⟨kd, hkd⟩ : ∃ k, x.kind = k := ⟨_, rfl⟩
 rw [hkd] at hk6' hk3'
 have b0 : (w.alloc (.cells x.cells.toArray 47)).cell? ⟨w.heap.size, 0, none⟩ = some (.int .i8 kd) := by rw [← hkd]; exact HB0.out.cell 0
 clear h hk hk6 hb0 hbl hn hn0 hn1 he hc1 hc0 hkd hab HNF
 go_enter Tryz.func48, Tryz.ntmps48
 go_upto_region 1 with fail
 generalize (w.alloc (.cells x.cells.toArray 47)) = Wd at HG HM HB0 HC0 HC1 b0 ⊢
 generalize w.heap.size = bx at HB0 HLOW b0 ⊢
 have HB1 := hide b0
 go_upto_region 2 with fail
 clear b0
 refine wp_region_E (fun w' => w'.cell? ⟨bx, 0, none⟩ = some (.int .i8 kd) ∧ NT ad n0 n1 w') (fun _ => True) [] (by kernel_rfl) ?_
 have HT := hide (show Wd.drew.cell? ⟨bx, 0, none⟩ = some (.int .i8 kd) ∧ NT ad n0 n1 Wd.drew from ⟨HB1.out, HC0.out, HC1.out⟩)
 have c0 : Wd.drew.cell? ad = some (.int .i64 n0) := HC0.out
 have b0 : Wd.drew.cell? ⟨bx, 0, none⟩ = some (.int .i8 kd) := HB1.out
 replace HM := hide (HM.out.step ((Below.refl _ _).drew))
 generalize Wd.drew = We at HM HT c0 b0 ⊢
 refine ef 0 ⟨bx, 0, none⟩ ⟨bx, 0, none⟩ (.both HT.out trivial) ?_
 simp only [sL]
 refine el false 1 ⟨bx, 0, none⟩ (.int .i8 kd) Tryz.underlying30 (fun w hS => hS.1.1) (.both HT.out trivial) ?_
 simp only [sL]
 refine eg 2 (.bool true) (.both HT.out trivial) ?_
 simp only [sL]
 refine em 3 (.bool true) (.both HT.out trivial) ?_
 simp only [sL]
 refine em 4 (.slice (some ad) nn cn) (.both HT.out trivial) ?_
 simp only [sL]
 refine ej 5 (.slice (some ad) nn cn) (.int .i64 0) (.pointer (some (ad.add 0))) (run_ixs (k := 0) rfl HNN.out.1) (.both HT.out trivial) ?_
 simp only [sL]
 refine el false 6 (ad.add 0) (.int .i64 n0) Tryz.underlying3 (fun w hS => hS.1.2.1) (.both HT.out trivial) ?_
 simp only [sL]
 refine em 7 (.slice (some ad) nn cn) (.both HT.out trivial) ?_
 simp only [sL]
 refine ej 8 (.slice (some ad) nn cn) (.int .i64 1) (.pointer (some (ad.add 1))) (run_ixs (k := 1) rfl HNN.out.2) (.both HT.out trivial) ?_
 simp only [sL]
 refine el false 9 (ad.add 1) (.int .i64 n1) Tryz.underlying3 (fun w hS => hS.1.2.2) (.both HT.out trivial) ?_
 simp only [sL]
 refine eg 10 (.bool false) (.both HT.out trivial) ?_
 simp only [sL]
 refine ep 11 true (.bool false) (.both HT.out trivial) ?_
 simp only [sL]
 refine E_one 12 (by kernel_rfl) (StepE.assign 12 (some 13) _ (.bool false) rfl (by rfl) (by rfl) (.both HT.out trivial) ?_)
 simp only [pt, pn, sL]
 refine wpAnyE_done (by kernel_rfl) ?_ _
 have qb := fun (W : World) => build_goto n0 W
 obtain ⟨es, qe, hBs, _⟩ := HM.out.at_.box
 have HBS := hide hBs
 have HLN := hide HM.out.at_.len
 clear hBs
 go_wp2_with (first
  | (refine wpList_store_at rfl 63 (.tmp 99) (.tmp 96) rfl b 13 114 _ (exC ⟨1, 0, n0, 0⟩) (.agg (exC ⟨1, 0, n0, 0⟩).toArray) HBS.out (by rfl) (by rfl) rfl sizX (by rw [mC_len HLN.out]; simp [exC]) (exC_one _) ?_
     intro wq hBq hgq hsq
     have HMQ := hide (HM.out.trans (HM.out.at_.exit2 HBS.out ⟨1, 0, n0, 0⟩ hBq hgq))
     clear hBq hgq hsq)
  | fail)
 go_end0
 rw [HNX.out]
 exact ⟨rfl, _, _, HG.out.trans HMQ.out⟩
end
end Go.Proofs.YtepagfkkjlbipaaGreat
end
