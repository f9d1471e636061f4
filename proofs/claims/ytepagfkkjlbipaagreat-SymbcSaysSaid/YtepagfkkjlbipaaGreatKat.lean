/-
  Contracts of symbc's methods: alu, load, store, call. Conditions: those written in each statement.
  Contracts of symbc's methods: load, store. Conditions: those written in each statement.
-/
import Derived.Test.YtepagfkkjlbipaaGreatKas
import Derived.Test.YtepagfkkjlbipaaGreatKag
import Derived.Test.YtepagfkkjlbipaaGreatKah
section
namespace Go.Proofs.YtepagfkkjlbipaaGreat
open Go.RowKit
set_option linter.unusedVariables false
set_option linter.unusedSimpArgs false
set_option maxRecDepth 100000
section
variable {base g b : Nat} {F G F1 G1 : Nat → Prop} {m : SM} {ex : ExD} {w : World}
theorem second_regs (m : SM) (x : ID) : (m.second x).1.regs = m.regs := by
 unfold SM.second
 split
 ·rfl
 ·split <;> rfl
theorem sizIn : (Tryz.prog.info? 47).map (·.size) = some 9 := by kernel_rfl
theorem second_i64 (h : MA base g b F G m ex w) {x : ID} (hs : x.byReg = true → 0 ≤ x.src ∧ x.src ≤ 10) : I64 (m.second x).2 := by
 unfold SM.second
 split
 ·rename_i hb
  have := hs hb
  exact h.reg_i64 (d := x.src.toNat) (by omega)
 ·split <;> exact num_i64 h _
theorem second_wf (h : MA base g b F G m ex w) (x : ID) : WfP (m.second x).1.p ∧ ∀ t ∈ (m.second x).1.p.T, t.wf := by
 unfold SM.second
 split
 ·exact ⟨h.pool.wf, h.pool.rng⟩
 ·split <;> exact num_wf h _
theorem I8.nat {x : Int} (h : 0 ≤ x ∧ x ≤ 10) : ∃ d : Nat, x = (d : Int) ∧ d < 11 := ⟨x.toNat, by omega, by omega⟩
set_option maxHeartbeats 4000000 in
theorem alu_any (h : MA base g b F G m ex w) (x : ID) (hx : x.wf) (hdst : 0 ≤ x.dst ∧ x.dst ≤ 10) (hs : x.byReg = true → 0 ≤ x.src ∧ x.src ≤ 10) (hwd : -128 < x.width) : Calls Tryz.prog 43 #[.pointer (some ⟨b, 0, none⟩), .agg x.cells.toArray] w (MEnd base g b G ex w (m.alu x)) := by
 have hb0 : base ≤ w.heap.size := Nat.le_trans (h.low b h.nb.2).1 (Nat.le_of_lt h.lt)
 have hbl := (((Below.refl w.heap.size w).alloc (Nat.le_refl _) (.cells x.cells.toArray 47))).drew
 have HG := hide (MG.of_below h hbl)
 have HB0 := hide (show Blk (w.alloc (.cells x.cells.toArray 47)).drew w.heap.size 47 x.cells.toArray from Blk.new w 47 x.cells.toArray)
 have HLOW := hide (fun (e : G w.heap.size) => by have := (h.low _ e).2; omega : ¬ G w.heap.size)
 obtain ⟨q, hq⟩ : ∃ q, m.second x = q := ⟨_, rfl⟩
 have HN := hide (fun (W : World) (F G : Nat → Prop) (hW : MA base g b F G m ex W) => by have := second_any hW x hx hs hwd; rw [hq] at this; exact this)
 have hqi : I64 q.2 := by rw [← hq]; exact second_i64 h hs
 have hqw : WfP q.1.p ∧ ∀ t ∈ q.1.p.T, t.wf := by rw [← hq]; exact second_wf h x
 have HRQ := hide (show q.1.regs = m.regs by rw [← hq]; exact second_regs m x)
 obtain ⟨d, hr, hd⟩ := I8.nat hdst
 have hri := h.reg_i64 hd
 have hrr : m.reg x.dst = m.regs.getD d 0 := by unfold SM.reg; rw [hr, Int.toNat_natCast]
 obtain ⟨rs, hrs⟩ : ∃ r, opV q.1.p x.op x.width (m.regs.getD d 0) q.2 = r := ⟨_, rfl⟩
 have HO := hide (fun (W : World) (F : Nat → Prop) (hW : PoolAt W base F g q.1.p) (hb : base ≤ W.heap.size) => by obtain ⟨f, hf⟩ := opV_some hW.wf hW.rng x.op x.width (m.regs.getD d 0) q.2; rw [hrs] at hf; exact op_all f x.op x.width _ q.2 hri hqi F q.1.p rs hf W hW hb)
 have HON := hide (show I64 rs.2.1 by rw [← hrs]; exact opV_num hqw.1 hqw.2 _ _ _ _)
 have HNX := hide (show m.alu x = ⟨rs.1, q.1.regs.set d rs.2.1, q.1.evs, if q.1.err = 0 then rs.2.2 else q.1.err⟩ by unfold SM.alu; dsimp only; rw [hq, hrr, hrs]; unfold SM.set SM.keep; rw [hr, Int.toNat_natCast])
 obtain ⟨mq, nq⟩ := q
 obtain ⟨rp, rn, re⟩ := rs
 dsimp only at HN HRQ HO HON HNX
 have HRD := hide hr
 have HD := hide hd
 have hb1 := Nat.le_trans hb0 HG.out.size
 have HM := hide (MG.refl HG.out.at_)
 have HS := hide (show MT b g m.regs (w.alloc (.cells x.cells.toArray 47)).drew from HG.out.at_.mt)
 clear h hx hdst hs hwd hq hqi hqw hri hrr hrs hd hb0 hr hbl
 go_enter Tryz.func43, Tryz.ntmps43
 go_wp2
 refine wp_region_E (fun w' => Blk w' w.heap.size 47 x.cells.toArray) (MT b g m.regs) [31] (by kernel_rfl) ?_
 generalize (w.alloc (.cells x.cells.toArray 47)).drew = Wd at HG HM HS HB0 hb1 ⊢
 generalize w.heap.size = bx at HB0 HLOW ⊢
 have HT := hide HB0.out
 refine em 0 (.pointer (some ⟨b, 0, none⟩)) (.both HT.out HS.out) ?_
 simp only [sL]
 refine ef 1 ⟨bx, 0, none⟩ ⟨bx, 5, none⟩ (.both HT.out HS.out) ?_
 simp only [sL]
 refine el false 2 ⟨bx, 5, none⟩ (.int .i8 x.dst) Tryz.underlying30 (fun w hS => (hS.1.cell 5)) (.both HT.out HS.out) ?_
 simp only [sL]
 refine em 3 (.pointer (some ⟨b, 0, none⟩)) (.both HT.out HS.out) ?_
 simp only [sL]
 refine em 4 (.pointer (some ⟨b, 0, none⟩)) (.both HT.out HS.out) ?_
 simp only [sL]
 refine ez 5 ⟨b, 0, none⟩ (.both HT.out HS.out) ?_
 simp only [sL]
 refine ef 6 ⟨b, 0, none⟩ ⟨b, 0, none⟩ (.both HT.out HS.out) ?_
 simp only [sL]
 refine el true 7 ⟨b, 0, none⟩ (.pointer (some ⟨g, 0, none⟩)) Tryz.underlying50 (fun w hS => (hS.2 rfl).1) (.both HT.out HS.out) ?_
 simp only [sL]
 refine ef 8 ⟨bx, 0, none⟩ ⟨bx, 1, none⟩ (.both HT.out HS.out) ?_
 simp only [sL]
 refine el false 9 ⟨bx, 1, none⟩ (.int .i8 x.op) Tryz.underlying30 (fun w hS => (hS.1.cell 1)) (.both HT.out HS.out) ?_
 simp only [sL]
 refine ef 10 ⟨bx, 0, none⟩ ⟨bx, 2, none⟩ (.both HT.out HS.out) ?_
 simp only [sL]
 refine el false 11 ⟨bx, 2, none⟩ (.int .i8 x.width) Tryz.underlying30 (fun w hS => (hS.1.cell 2)) (.both HT.out HS.out) ?_
 simp only [sL]
 refine em 12 (.pointer (some ⟨b, 0, none⟩)) (.both HT.out HS.out) ?_
 simp only [sL]
 refine ef 13 ⟨bx, 0, none⟩ ⟨bx, 5, none⟩ (.both HT.out HS.out) ?_
 simp only [sL]
 refine el false 14 ⟨bx, 5, none⟩ (.int .i8 x.dst) Tryz.underlying30 (fun w hS => (hS.1.cell 5)) (.both HT.out HS.out) ?_
 simp only [sL]
 refine ez 15 ⟨b, 0, none⟩ (.both HT.out HS.out) ?_
 simp only [sL]
 refine ef 16 ⟨b, 0, none⟩ ⟨b, 1, none⟩ (.both HT.out HS.out) ?_
 simp only [sL]
 refine ef 17 ⟨b, 1, none⟩ ⟨b, 1, none⟩ (.both HT.out HS.out) ?_
 simp only [sL]
 refine ej 18 (.pointer (some ⟨b, 1, none⟩)) (.int .i8 x.dst) (.pointer (some ⟨b, 1 + d, none⟩)) (run_at11 b HRD.out HD.out) (.both HT.out HS.out) ?_
 simp only [sL]
 refine el true 19 ⟨b, 1 + d, none⟩ (.int .i64 (m.regs.getD d 0)) Tryz.underlying3 (fun w hS => ((hS.2 rfl).2 d HD.out)) (.both HT.out HS.out) ?_
 simp only [sL]
 refine em 20 (.pointer (some ⟨b, 0, none⟩)) (.both HT.out HS.out) ?_
 simp only [sL]
 refine eL false 21 ⟨bx, 0, none⟩ x.cells (fun w hS => blk_list hS.1) Tryz.underlying47 sizIn (.both HT.out HS.out) ?_
 simp only [sL]
 refine ez 27 ⟨b, 0, none⟩ (.both HT.out HS.out) ?_
 simp only [sL]
 refine ef 28 ⟨b, 0, none⟩ ⟨b, 1, none⟩ (.both HT.out HS.out) ?_
 simp only [sL]
 refine ef 29 ⟨b, 1, none⟩ ⟨b, 1, none⟩ (.both HT.out HS.out) ?_
 simp only [sL]
 refine E_one 22 (by kernel_rfl) (StepE.of 22 (some 26) _ rfl (by rfl) fun o K h2 h3 hKK => ?_)
 unfold Oper.wp execOp
 simp only [h3]
 go_simp
 refine (HN.out _ _ _ HM.out.at_).mono ?_
 rintro e wq ⟨rfl, _, Fq, Gq, hmq⟩
 replace HM := hide (HM.out.trans hmq)
 replace HT := hide (HM.out.blk HB0.out HLOW.out).1
 replace HS := hide (show MT b g m.regs wq from HRQ.out ▸ HM.out.at_.mt)
 clear hmq
 dsimp only
 refine hKK _ _ (.both HT.out HS.out) ?_
 clear hKK h2 h3 K o
 try simp only [pt, pn, sL]
 refine E_one 23 (by kernel_rfl) (StepE.of 23 (some 27) _ rfl (by rfl) fun o K h2 h3 hKK => ?_)
 unfold Oper.wp execOp
 simp only [h3]
 go_simp
 refine (HO.out _ _ HM.out.at_.pool (Nat.le_trans hb1 HM.out.size)).mono ?_
 rintro e wq ⟨rfl, Fq, hpq⟩
 replace HM := hide (HM.out.trans (HM.out.at_.pg hpq))
 replace HT := hide (HM.out.blk HB0.out HLOW.out).1
 replace HS := hide (show MT b g m.regs wq from HRQ.out ▸ HM.out.at_.mt)
 clear hpq
 dsimp only
 refine hKK _ _ (.both HT.out HS.out) ?_
 clear hKK h2 h3 K o
 try simp only [pt, pn, sL]
 refine eg 24 (.int .i64 rn) (.both HT.out HS.out) ?_
 simp only [sL]
 refine eg 25 (.int .i64 re) (.both HT.out HS.out) ?_
 simp only [sL]
 refine E_one 26 (by kernel_rfl) (StepE.of 26 (some 30) _ rfl (by rfl) fun o K h2 h3 hKK => ?_)
 unfold Oper.wp execOp
 simp only [h3]
 go_simp
 refine (made_any HM.out.at_ (rn) (re) HON.out).mono ?_
 rintro e wq ⟨rfl, _, Fq, Gq, hmq⟩
 replace HM := hide (HM.out.trans hmq)
 replace HT := hide (HM.out.blk HB0.out HLOW.out).1
 replace HS := hide (show MT b g m.regs wq from HRQ.out ▸ HM.out.at_.mt)
 clear hmq
 dsimp only
 refine hKK _ _ (.both HT.out HS.out) ?_
 clear hKK h2 h3 K o
 try simp only [pt, pn, sL]
 refine ej 30 (.pointer (some ⟨b, 1, none⟩)) (.int .i8 x.dst) (.pointer (some ⟨b, 1 + d, none⟩)) (run_at11 b HRD.out HD.out) (.both HT.out HS.out) ?_
 simp only [sL]
 obtain ⟨es, qe, hBs, _⟩ := HM.out.at_.box
 have HM2 := hide (HM.out.trans (HM.out.at_.setReg HD.out HON.out))
 refine E_one 31 (by kernel_rfl) (StepE.store_at 31 3 _ _ ⟨b, 1 + d, none⟩ (.int .i64 rn) _ rfl (by rfl) (by rfl) (by rfl) (run_storeVar_one 3 b (1 + d) 114 _ _ hBs (by rw [List.size_toArray, mC_len HM.out.at_.len]; have := HD.out; omega) sizN rfl rfl) (.after (HM2.out.blk HB0.out HLOW.out).1 (by kernel_rfl)) ?_)
 clear hBs
 simp only [pt, pn, sL]
 refine wpAnyE_done (by kernel_rfl) ?_ _
 go_end0
 rw [HNX.out]
 exact ⟨rfl, _, _, HG.out.trans HM2.out⟩
end
end Go.Proofs.YtepagfkkjlbipaaGreat
end
section
namespace Go.Proofs.YtepagfkkjlbipaaGreat
open Go.RowKit
set_option linter.unusedVariables false
set_option linter.unusedSimpArgs false
set_option maxRecDepth 100000
section
variable {base g b : Nat} {F G F1 G1 : Nat → Prop} {m : SM} {ex : ExD} {w : World}
theorem E_build {P : Program} {ops : Array Oper} {Q : Exit → Act → World → Prop} {md : Region.Mode} {T S : World → Prop} {late : List Nat} {fuel : Nat} {listed : Array Bool} {a : Act} {w : World} (i : Nat) (d : Option Tmp) (t : TypeId) (fs : Array (Nat × Operand)) (vs : Array (Nat × Value)) (v : Value) (ho : opAt ops i = some (d, .build t fs)) (hc : checkE md ops late listed i false = true) (hw : wantAt ops i a = some true)
  (hQ : ∀ c a w, Q (.panic c) (a.put d v) w → Q (.panic c) a w) (hx : (fs.map fun (i, x) => (i, a.eval x)) = vs) (hr : ∀ w, (Instr.build t vs).run P w = .ok v w)
  (hS : St T S late listed w) (h : wpAnyE P md ops Q T S late fuel (listed.setIfInBounds i true) (a.put d v) w) : wpAnyE P md ops Q T S late (fuel + 1) listed a w :=
 E_any false i d _ _ ho hc hw hQ (fun o e w _ => by
  unfold execOp
  simp only [e, hx, Sem.run_bind, hr, Result.andThen_ok, Sem.run_pure]) hS h
theorem i8_small {n : Int} (h : 0 ≤ n ∧ n < 128) : IntKind.i8.wrap n = n := by
 simp [IntKind.wrap, IntKind.bits, IntKind.signed]
 omega
theorem place_wf (h : MA base g b F G m ex w) (r off : Int) : WfP (m.place r off).1.p ∧ ∀ t ∈ (m.place r off).1.p.T, t.wf := by
 obtain ⟨h1, h2⟩ := num_wf h off
 obtain ⟨f, hf⟩ := opV_some h1 h2 0 64 (m.reg r) (m.num off).2
 have hg := op_good f h1 h2 hf
 exact ⟨hg.wf, hg.rng⟩
set_option maxHeartbeats 4000000 in
theorem load_any (h : MA base g b F G m ex w) (x : ID) (hx : x.wf) (hdst : 0 ≤ x.dst ∧ x.dst ≤ 10) (hsrc : 0 ≤ x.src ∧ x.src ≤ 10) (hsz : 1 ≤ x.size ∧ x.size ≤ 8) (hlt : m.evs.length < 64) : Calls Tryz.prog 44 #[.pointer (some ⟨b, 0, none⟩), .agg x.cells.toArray] w (MEnd base g b G ex w (m.load x)) := by
 have hb0 : base ≤ w.heap.size := Nat.le_trans (h.low b h.nb.2).1 (Nat.le_of_lt h.lt)
 have hbl := ((Below.refl w.heap.size w).alloc (Nat.le_refl _) (.cells x.cells.toArray 47))
 have HG := hide (MG.of_below h hbl)
 have HB0 := hide (show Blk (w.alloc (.cells x.cells.toArray 47)) w.heap.size 47 x.cells.toArray from Blk.new w 47 x.cells.toArray)
 have HLOW := hide (fun (e : G w.heap.size) => by have := (h.low _ e).2; omega : ¬ G w.heap.size)
 obtain ⟨d1, hr1, hd1⟩ := I8.nat hsrc
 obtain ⟨q, hq⟩ : ∃ q, m.place x.src x.off = q := ⟨_, rfl⟩
 have HP := hide (fun (W : World) (F G : Nat → Prop) (hW : MA base g b F G m ex W) => by have := place_any hW x.src x.off hr1 hd1 hx.2.2.2.2.2.2.1; rw [hq] at this; exact this)
 have HRQ := hide (show q.1.regs = m.regs by rw [← hq]; rfl)
 have HEQ := hide (show q.1.evs = m.evs by rw [← hq]; rfl)
 have hwr : IntKind.i8.wrap (8 * x.size) = 8 * x.size := i8_small (by omega)
 obtain ⟨d, hr, hd⟩ := I8.nat hdst
 obtain ⟨v, hv⟩ : ∃ v, q.1.next (8 * x.size) = v := ⟨_, rfl⟩
 have HV := hide (fun (W : World) (F G : Nat → Prop) (hW : MA base g b F G q.1 ex W) => by have := next_any hW (8 * x.size) (by unfold I8; omega); rw [hv] at this; exact this)
 have HRV := hide (show v.1.regs = m.regs by rw [← hv]; exact HRQ.out)
 have HEV := hide (show v.1.evs.length < 64 by rw [← hv]; show q.1.evs.length < 64; rw [HEQ.out]; exact hlt)
 have HNX := hide (show m.load x = ⟨v.1.p, v.1.regs.set d v.2, v.1.evs ++ [⟨0, x.size, q.2, v.2, 0, []⟩], v.1.err⟩ by unfold SM.load; dsimp only; rw [hq, hv]; unfold SM.set SM.event; dsimp only; rw [hr, Int.toNat_natCast])
 obtain ⟨mq, nq⟩ := q
 obtain ⟨mv, nv⟩ := v
 dsimp only at HP HRQ HV HRV HEV HNX
 have HRD := hide hr
 have HD := hide hd
 have HX := hide hx
 have HM := hide (MG.refl HG.out.at_)
 clear h hx hdst hsrc hq hv hlt hd hd1 hr hr1 hb0 hbl HRQ HEQ
 go_enter Tryz.func44, Tryz.ntmps44
 go_upto_region 1 with fail
 generalize (w.alloc (.cells x.cells.toArray 47)) = Wd at HG HM HB0 ⊢
 generalize w.heap.size = bx at HB0 HLOW ⊢
 have b6 : Wd.cell? ⟨bx, 6, none⟩ = some (.int .i8 x.src) := HB0.out.cell 6
 have b7 : Wd.cell? ⟨bx, 7, none⟩ = some (.int .i64 x.off) := HB0.out.cell 7
 go_wp2_with fail
 refine (HP.out _ _ _ HM.out.at_).mono ?_
 rintro e w1 ⟨rfl, hi1, F1, G1, hm1⟩
 replace HM := hide (HM.out.trans hm1)
 have HI1 := hide hi1
 clear hm1 hi1 b6 b7
 have b3 : w1.cell? ⟨bx, 3, none⟩ = some (.int .i8 x.size) := (HM.out.blk HB0.out HLOW.out).1.cell 3
 go_wp2_with fail
 refine (HV.out _ _ _ HM.out.at_).mono ?_
 rintro e w2 ⟨rfl, hi2, F2, G2, hm2⟩
 replace HM := hide (HM.out.trans hm2)
 have HNI := hide hi2
 clear hm2 hi2 b3
 have b3 : w2.cell? ⟨bx, 3, none⟩ = some (.int .i8 x.size) := (HM.out.blk HB0.out HLOW.out).1.cell 3
 go_wp2_with fail
 refine (event_any HM.out.at_ ⟨0, x.size, nq, nv, 0, []⟩ (.slice none 0 0) rfl ⟨by unfold I8; dsimp only; omega, HX.out.2.2.2.1, HI1.out, HNI.out, i64_zero⟩ NumsF.nil HEV.out).mono ?_
 rintro e w3 ⟨rfl, F3, G3, hm3⟩
 replace HM := hide (HM.out.trans hm3)
 clear hm3 b3
 go_wp2
 refine wp_region_E (fun w' => Blk w' bx 47 x.cells.toArray) (fun _ => True) [8] (by kernel_rfl) ?_
 replace HM := hide (HM.out.step ((Below.refl _ _).drew))
 generalize w3.drew = w4 at HM ⊢
 have HT := hide (HM.out.blk HB0.out HLOW.out).1
 refine em 0 (.pointer (some ⟨b, 0, none⟩)) (.both HT.out trivial) ?_
 simp only [sL]
 refine ef 1 ⟨bx, 0, none⟩ ⟨bx, 5, none⟩ (.both HT.out trivial) ?_
 simp only [sL]
 refine el false 2 ⟨bx, 5, none⟩ (.int .i8 x.dst) Tryz.underlying30 (fun w hS => (hS.1.cell 5)) (.both HT.out trivial) ?_
 simp only [sL]
 refine em 3 (.int .i64 nv) (.both HT.out trivial) ?_
 simp only [sL]
 refine ez 4 ⟨b, 0, none⟩ (.both HT.out trivial) ?_
 simp only [sL]
 refine ef 5 ⟨b, 0, none⟩ ⟨b, 1, none⟩ (.both HT.out trivial) ?_
 simp only [sL]
 refine ef 6 ⟨b, 1, none⟩ ⟨b, 1, none⟩ (.both HT.out trivial) ?_
 simp only [sL]
 refine ej 7 (.pointer (some ⟨b, 1, none⟩)) (.int .i8 x.dst) (.pointer (some ⟨b, 1 + d, none⟩)) (run_at11 b HRD.out HD.out) (.both HT.out trivial) ?_
 simp only [sL]
 obtain ⟨es, qe, hBs, _⟩ := HM.out.at_.box
 have HM2 := hide (HM.out.trans (HM.out.at_.setReg HD.out HNI.out))
 refine E_one 8 (by kernel_rfl) (StepE.store_at 8 3 _ _ ⟨b, 1 + d, none⟩ (.int .i64 nv) _ rfl (by rfl) (by rfl) (by rfl) (run_storeVar_one 3 b (1 + d) 114 _ _ hBs (by rw [List.size_toArray, mC_len HM.out.at_.len]; have := HD.out; omega) sizN rfl rfl) (.after (HM2.out.blk HB0.out HLOW.out).1 (by kernel_rfl)) ?_)
 clear hBs
 simp only [pt, pn, sL]
 refine wpAnyE_done (by kernel_rfl) ?_ _
 go_end0
 rw [HNX.out]
 exact ⟨rfl, _, _, HG.out.trans HM2.out⟩
set_option maxHeartbeats 4000000 in
theorem store_any (h : MA base g b F G m ex w) (x : ID) (hx : x.wf) (hdst : 0 ≤ x.dst ∧ x.dst ≤ 10) (hsrc : 0 ≤ x.src ∧ x.src ≤ 10) (hsz : 1 ≤ x.size ∧ x.size ≤ 8) (hlt : m.evs.length < 64) : Calls Tryz.prog 45 #[.pointer (some ⟨b, 0, none⟩), .agg x.cells.toArray] w (MEnd base g b G ex w (m.store x)) := by
 have hb0 : base ≤ w.heap.size := Nat.le_trans (h.low b h.nb.2).1 (Nat.le_of_lt h.lt)
 have hbl := ((Below.refl w.heap.size w).alloc (Nat.le_refl _) (.cells x.cells.toArray 47))
 have HG := hide (MG.of_below h hbl)
 have HB0 := hide (show Blk (w.alloc (.cells x.cells.toArray 47)) w.heap.size 47 x.cells.toArray from Blk.new w 47 x.cells.toArray)
 have HLOW := hide (fun (e : G w.heap.size) => by have := (h.low _ e).2; omega : ¬ G w.heap.size)
 obtain ⟨d1, hr1, hd1⟩ := I8.nat hdst
 obtain ⟨q, hq⟩ : ∃ q, m.place x.dst x.off = q := ⟨_, rfl⟩
 have HP := hide (fun (W : World) (F G : Nat → Prop) (hW : MA base g b F G m ex W) => by have := place_any hW x.dst x.off hr1 hd1 hx.2.2.2.2.2.2.1; rw [hq] at this; exact this)
 have HRQ := hide (show q.1.regs = m.regs by rw [← hq]; rfl)
 have HEQ := hide (show q.1.evs = m.evs by rw [← hq]; rfl)
 have hwr : IntKind.i8.wrap (8 * x.size) = 8 * x.size := i8_small (by omega)
 have hqw : WfP q.1.p ∧ ∀ t ∈ q.1.p.T, t.wf := by rw [← hq]; exact place_wf h x.dst x.off
 obtain ⟨d, hr, hd⟩ := I8.nat hsrc
 have hri := h.reg_i64 hd
 have hrr : m.reg x.src = m.regs.getD d 0 := by unfold SM.reg; rw [hr, Int.toNat_natCast]
 obtain ⟨rs, hrs⟩ : ∃ r, zextV q.1.p (8 * x.size) (m.regs.getD d 0) = r := ⟨_, rfl⟩
 have HO := hide (fun (W : World) (F : Nat → Prop) (hW : PoolAt W base F g q.1.p) (hb : base ≤ W.heap.size) => by have hf := zextV_some hW.wf (8 * x.size) (m.regs.getD d 0); rw [hrs] at hf; exact Zext_any _ (8 * x.size) (m.regs.getD d 0) hri rs hf W hW hb)
 have HON := hide (show I64 rs.2.1 by rw [← hrs]; exact zextV_num hqw.1 hqw.2 _ hri)
 have HEL := hide (show q.1.evs.length < 64 by rw [HEQ.out]; exact hlt)
 have HNX := hide (show m.store x = ⟨rs.1, q.1.regs, q.1.evs ++ [⟨1, x.size, q.2, rs.2.1, 0, []⟩], if q.1.err = 0 then rs.2.2 else q.1.err⟩ by unfold SM.store; dsimp only; rw [hq, hrr, hrs]; rfl)
 obtain ⟨mq, nq⟩ := q
 obtain ⟨rp, rn, re⟩ := rs
 dsimp only at HP HRQ HO HON HEL HNX
 have HRD := hide hr
 have HD := hide hd
 have HX := hide hx
 have HWR := hide hwr
 have hb1 := Nat.le_trans hb0 HG.out.size
 have HM := hide (MG.refl HG.out.at_)
 clear h hx hdst hsrc hq hlt hd hd1 hr hr1 hb0 hbl HEQ hqw hrs hri hrr hwr
 go_enter Tryz.func45, Tryz.ntmps45
 go_upto_region 1 with fail
 generalize (w.alloc (.cells x.cells.toArray 47)) = Wd at HG HM HB0 hb1 ⊢
 generalize w.heap.size = bx at HB0 HLOW ⊢
 have b5 : Wd.cell? ⟨bx, 5, none⟩ = some (.int .i8 x.dst) := HB0.out.cell 5
 have b7 : Wd.cell? ⟨bx, 7, none⟩ = some (.int .i64 x.off) := HB0.out.cell 7
 go_wp2_with fail
 refine (HP.out _ _ _ HM.out.at_).mono ?_
 rintro e w1 ⟨rfl, hi1, F1, G1, hm1⟩
 replace HM := hide (HM.out.trans hm1)
 have HI1 := hide hi1
 clear hm1 hi1 b5 b7
 go_wp2
 refine wp_region_E (fun w' => Blk w' bx 47 x.cells.toArray) (MT b g m.regs) [] (by kernel_rfl) ?_
 replace HM := hide (HM.out.step ((Below.refl _ _).drew))
 generalize w1.drew = w2 at HM ⊢
 have HT := hide (HM.out.blk HB0.out HLOW.out).1
 have HS := hide (show MT b g m.regs w2 from HRQ.out ▸ HM.out.at_.mt)
 refine em 0 (.pointer (some ⟨b, 0, none⟩)) (.both HT.out HS.out) ?_
 simp only [sL]
 refine ef 1 ⟨bx, 0, none⟩ ⟨bx, 3, none⟩ (.both HT.out HS.out) ?_
 simp only [sL]
 refine el false 2 ⟨bx, 3, none⟩ (.int .i8 x.size) Tryz.underlying30 (fun w hS => (hS.1.cell 3)) (.both HT.out HS.out) ?_
 simp only [sL]
 refine em 3 (.int .i64 nq) (.both HT.out HS.out) ?_
 simp only [sL]
 refine em 4 (.pointer (some ⟨b, 0, none⟩)) (.both HT.out HS.out) ?_
 simp only [sL]
 refine em 5 (.pointer (some ⟨b, 0, none⟩)) (.both HT.out HS.out) ?_
 simp only [sL]
 refine ez 6 ⟨b, 0, none⟩ (.both HT.out HS.out) ?_
 simp only [sL]
 refine ef 7 ⟨b, 0, none⟩ ⟨b, 0, none⟩ (.both HT.out HS.out) ?_
 simp only [sL]
 refine el true 8 ⟨b, 0, none⟩ (.pointer (some ⟨g, 0, none⟩)) Tryz.underlying50 (fun w hS => (hS.2 rfl).1) (.both HT.out HS.out) ?_
 simp only [sL]
 refine ef 9 ⟨bx, 0, none⟩ ⟨bx, 3, none⟩ (.both HT.out HS.out) ?_
 simp only [sL]
 refine el false 10 ⟨bx, 3, none⟩ (.int .i8 x.size) Tryz.underlying30 (fun w hS => (hS.1.cell 3)) (.both HT.out HS.out) ?_
 simp only [sL]
 refine eb 11 (.int .i8 (8 * x.size)) rfl (fun o e w _ => by unfold execOp; simp only [e]; go_simp; rw [HWR.out]) (.both HT.out HS.out) ?_
 simp only [sL]
 refine em 12 (.pointer (some ⟨b, 0, none⟩)) (.both HT.out HS.out) ?_
 simp only [sL]
 refine ef 13 ⟨bx, 0, none⟩ ⟨bx, 6, none⟩ (.both HT.out HS.out) ?_
 simp only [sL]
 refine el false 14 ⟨bx, 6, none⟩ (.int .i8 x.src) Tryz.underlying30 (fun w hS => (hS.1.cell 6)) (.both HT.out HS.out) ?_
 simp only [sL]
 refine ez 15 ⟨b, 0, none⟩ (.both HT.out HS.out) ?_
 simp only [sL]
 refine ef 16 ⟨b, 0, none⟩ ⟨b, 1, none⟩ (.both HT.out HS.out) ?_
 simp only [sL]
 refine ef 17 ⟨b, 1, none⟩ ⟨b, 1, none⟩ (.both HT.out HS.out) ?_
 simp only [sL]
 refine ej 18 (.pointer (some ⟨b, 1, none⟩)) (.int .i8 x.src) (.pointer (some ⟨b, 1 + d, none⟩)) (run_at11 b HRD.out HD.out) (.both HT.out HS.out) ?_
 simp only [sL]
 refine el true 19 ⟨b, 1 + d, none⟩ (.int .i64 (m.regs.getD d 0)) Tryz.underlying3 (fun w hS => ((hS.2 rfl).2 d HD.out)) (.both HT.out HS.out) ?_
 simp only [sL]
 refine E_one 20 (by kernel_rfl) (StepE.of 20 (some 31) _ rfl (by rfl) fun o K h2 h3 hKK => ?_)
 unfold Oper.wp execOp
 simp only [h3]
 go_simp
 refine (HO.out _ _ HM.out.at_.pool (Nat.le_trans hb1 HM.out.size)).mono ?_
 rintro e wq ⟨rfl, Fq, hpq⟩
 replace HM := hide (HM.out.trans (HM.out.at_.pg hpq))
 replace HT := hide (HM.out.blk HB0.out HLOW.out).1
 replace HS := hide (show MT b g m.regs wq from HRQ.out ▸ HM.out.at_.mt)
 clear hpq
 dsimp only
 refine hKK _ _ (.both HT.out HS.out) ?_
 clear hKK h2 h3 K o
 try simp only [pt, pn, sL]
 refine eg 21 (.int .i64 rn) (.both HT.out HS.out) ?_
 simp only [sL]
 refine eg 22 (.int .i64 re) (.both HT.out HS.out) ?_
 simp only [sL]
 refine E_one 23 (by kernel_rfl) (StepE.of 23 (some 34) _ rfl (by rfl) fun o K h2 h3 hKK => ?_)
 unfold Oper.wp execOp
 simp only [h3]
 go_simp
 refine (made_any HM.out.at_ (rn) (re) HON.out).mono ?_
 rintro e wq ⟨rfl, _, Fq, Gq, hmq⟩
 replace HM := hide (HM.out.trans hmq)
 replace HT := hide (HM.out.blk HB0.out HLOW.out).1
 replace HS := hide (show MT b g m.regs wq from HRQ.out ▸ HM.out.at_.mt)
 clear hmq
 dsimp only
 refine hKK _ _ (.both HT.out HS.out) ?_
 clear hKK h2 h3 K o
 try simp only [pt, pn, sL]
 refine E_build 24 (some 35) _ _ (#[(0, .int .i8 1), (1, .int .i8 x.size), (2, .int .i64 nq), (3, .int .i64 rn)]) (.agg (evC (⟨1, x.size, nq, rn, 0, []⟩, .slice none 0 0)).toArray) rfl (by kernel_rfl) (by rfl) (fun _ _ _ h => h) (by simp only [List.map_toArray, List.map_cons, List.map_nil]; rfl) (fun w => run_build w 72 _ _ (by kernel_rfl)) (.both HT.out HS.out) ?_
 simp only [pt, pn, sL]
 refine E_one 25 (by kernel_rfl) (StepE.of 25 (some 36) _ rfl (by rfl) fun o K h2 h3 hKK => ?_)
 unfold Oper.wp execOp
 simp only [h3]
 go_simp
 refine (event_any HM.out.at_ ⟨1, x.size, nq, rn, 0, []⟩ (.slice none 0 0) rfl ⟨by unfold I8; dsimp only; omega, HX.out.2.2.2.1, HI1.out, HON.out, i64_zero⟩ NumsF.nil HEL.out).mono ?_
 rintro e wq ⟨rfl, Fq, Gq, hmq⟩
 replace HM := hide (HM.out.trans hmq)
 replace HT := hide (HM.out.blk HB0.out HLOW.out).1
 replace HS := hide (show MT b g m.regs wq from HRQ.out ▸ HM.out.at_.mt)
 clear hmq
 dsimp only
 refine hKK _ _ (.both HT.out HS.out) ?_
 clear hKK h2 h3 K o
 try simp only [pt, pn, sL]
 refine wpAnyE_done (by kernel_rfl) ?_ _
 go_end0
 rw [HNX.out]
 exact ⟨rfl, _, _, HG.out.trans HM.out⟩
end
end Go.Proofs.YtepagfkkjlbipaaGreat
end
