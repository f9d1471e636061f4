/-
  Parts of the proof of SymbcSound. Conditions: those written in each statement.
-/
import Derived.Test.YtepagfkkjlbipaaGreatKax
set_option linter.unusedVariables false
set_option linter.unusedSimpArgs false
set_option maxHeartbeats 64000000
set_option maxRecDepth 100000
namespace Go.Proofs.YtepagfkkjlbipaaGreat
open Tryz
section
open Go.RowKit
section
variable {base g b : Nat} {F G F1 G1 : Nat → Prop} {m : SM} {ex : ExD} {w : World}
theorem E_build {P : Program} {ops : Array Oper} {Q : Exit → Act → World → Prop} {md : Region.Mode} {T S : World → Prop} {late : List Nat} {fuel : Nat} {listed : Array Bool} {a : Act} {w : World} (i : Nat) (d : Option Tmp) (t : TypeId) (fs : Array (Nat × Operand)) (vs : Array (Nat × Value)) (v : Value) (ho : opAt ops i = some (d, .build t fs)) (hc : checkE md ops late listed i false = true) (hw : wantAt ops i a = some true)
  (hQ : ∀ c a w, Q (.panic c) (a.put d v) w → Q (.panic c) a w) (hx : (fs.map fun (i, x) => (i, a.eval x)) = vs) (hr : ∀ w, (Instr.build t vs).run P w = .ok v w)
  (hS : St T S late listed w) (h : wpAnyE P md ops Q T S late fuel (listed.setIfInBounds i true) (a.put d v) w) : wpAnyE P md ops Q T S late (fuel + 1) listed a w :=
 E_any false i d _ _ ho hc hw hQ (fun o e w _ => by
  unfold execOp
  simp only [e, hx, Sem.run_bind, hr, Result.andThen_ok, Sem.run_pure]) hS h
theorem i8_small {n : Int} (h : 0 ≤ n ∧ n < 128) : IntKind.i8.wrap n = n := by
 simp [IntKind.wrap, IntKind.bits, IntKind.signed]
 omega
theorem place_wf (h : MA base g b F G m ex w) (r off : Int) : WfP (m.place r off).1.p ∧ ∀ t ∈ (m.place r off).1.p.T, t.wf := by
 obtain ⟨h1, h2⟩ := num_wf h off
 obtain ⟨f, hf⟩ := opV_some h1 h2 0 64 (m.reg r) (m.num off).2
 have hg := op_good f h1 h2 hf
 exact ⟨hg.wf, hg.rng⟩
theorem load_any (h : MA base g b F G m ex w) (x : ID) (hx : x.wf) (hdst : 0 ≤ x.dst ∧ x.dst ≤ 10) (hsrc : 0 ≤ x.src ∧ x.src ≤ 10) (hsz : 1 ≤ x.size ∧ x.size ≤ 8) (hlt : m.evs.length < 64) : Calls prog 44 #[.pointer (some ⟨b, 0, none⟩), .agg x.cells.toArray] w (MEnd base g b G ex w (m.load x)) := by
 have hb0 : base ≤ w.heap.size := Nat.le_trans (h.low b h.nb.2).1 (Nat.le_of_lt h.lt)
 have hbl := ((Below.refl w.heap.size w).alloc (Nat.le_refl _) (.cells x.cells.toArray 47))
 have HG := Hd (MG.of_below h hbl)
 have HB0 := Hd (show Blk (w.alloc (.cells x.cells.toArray 47)) w.heap.size 47 x.cells.toArray from Blk.new w 47 x.cells.toArray)
 have HLOW := Hd (fun (e : G w.heap.size) => by have := (h.low _ e).2; omega : ¬ G w.heap.size)
 obtain ⟨d1, hr1, hd1⟩ := I8.nat hsrc
 obtain ⟨q, hq⟩ : ∃ q, m.place x.src x.off = q := ⟨_, rfl⟩
 have HP := Hd (fun (W : World) (F G : Nat → Prop) (hW : MA base g b F G m ex W) => by have := place_any hW x.src x.off hr1 hd1 hx.2.2.2.2.2.2.1; rw [hq] at this; exact this)
 have HRQ := Hd (show q.1.regs = m.regs by rw [← hq]; rfl)
 have HEQ := Hd (show q.1.evs = m.evs by rw [← hq]; rfl)
 have hwr : IntKind.i8.wrap (8 * x.size) = 8 * x.size := i8_small (by omega)
 obtain ⟨d, hr, hd⟩ := I8.nat hdst
 obtain ⟨v, hv⟩ : ∃ v, q.1.next (8 * x.size) = v := ⟨_, rfl⟩
 have HV := Hd (fun (W : World) (F G : Nat → Prop) (hW : MA base g b F G q.1 ex W) => by have := next_any hW (8 * x.size) (by unfold I8; omega); rw [hv] at this; exact this)
 have HRV := Hd (show v.1.regs = m.regs by rw [← hv]; exact HRQ.out)
 have HEV := Hd (show v.1.evs.length < 64 by rw [← hv]; show q.1.evs.length < 64; rw [HEQ.out]; exact hlt)
 have HNX := Hd (show m.load x = ⟨v.1.p, v.1.regs.set d v.2, v.1.evs ++ [⟨0, x.size, q.2, v.2, 0, []⟩], v.1.err⟩ by unfold SM.load; dsimp only; rw [hq, hv]; unfold SM.set SM.event; dsimp only; rw [hr, Int.toNat_natCast])
 obtain ⟨mq, nq⟩ := q
 obtain ⟨mv, nv⟩ := v
 dsimp only at HP HRQ HV HRV HEV HNX
 have HRD := Hd hr
 have HD := Hd hd
 have HX := Hd hx
 have HM := Hd (MG.refl HG.out.at_)
 clear h hx hdst hsrc hq hv hlt hd hd1 hr hr1 hb0 hbl HRQ HEQ
 go_enter func44, ntmps44
 go_upto_region 1 with fail
 generalize (w.alloc (.cells x.cells.toArray 47)) = Wd at HG HM HB0 ⊢
 generalize w.heap.size = bx at HB0 HLOW ⊢
 have b6 : Wd.cell? ⟨bx, 6, none⟩ = some (.int .i8 x.src) := HB0.out.cell 6
 have b7 : Wd.cell? ⟨bx, 7, none⟩ = some (.int .i64 x.off) := HB0.out.cell 7
 go_wp2_with fail
 refine (HP.out _ _ _ HM.out.at_).mono ?_
 rintro e w1 ⟨rfl, hi1, F1, G1, hm1⟩
 replace HM := Hd (HM.out.trans hm1)
 have HI1 := Hd hi1
 clear hm1 hi1 b6 b7
 have b3 : w1.cell? ⟨bx, 3, none⟩ = some (.int .i8 x.size) := (HM.out.blk HB0.out HLOW.out).1.cell 3
 go_wp2_with fail
 refine (HV.out _ _ _ HM.out.at_).mono ?_
 rintro e w2 ⟨rfl, hi2, F2, G2, hm2⟩
 replace HM := Hd (HM.out.trans hm2)
 have HNI := Hd hi2
 clear hm2 hi2 b3
 have b3 : w2.cell? ⟨bx, 3, none⟩ = some (.int .i8 x.size) := (HM.out.blk HB0.out HLOW.out).1.cell 3
 go_wp2_with fail
 refine (event_any HM.out.at_ ⟨0, x.size, nq, nv, 0, []⟩ (.slice none 0 0) rfl ⟨by unfold I8; dsimp only; omega, HX.out.2.2.2.1, HI1.out, HNI.out, i64_zero⟩ NumsF.nil HEV.out).mono ?_
 rintro e w3 ⟨rfl, F3, G3, hm3⟩
 replace HM := Hd (HM.out.trans hm3)
 clear hm3 b3
 go_wp2
 refine wp_region_E (fun w' => Blk w' bx 47 x.cells.toArray) (fun _ => True) [8] (by kernel_rfl) ?_
 replace HM := Hd (HM.out.step ((Below.refl _ _).drew))
 generalize w3.drew = w4 at HM ⊢
 have HT := Hd (HM.out.blk HB0.out HLOW.out).1
 refine em 0 (.pointer (some ⟨b, 0, none⟩)) (bT HT) ?_
 refine ef 1 ⟨bx, 0, none⟩ ⟨bx, 5, none⟩ (bT HT) ?_
 refine el false 2 ⟨bx, 5, none⟩ (.int .i8 x.dst) underlying30 (fun w hS => (hS.1.cell 5)) (bT HT) ?_
 refine em 3 (.int .i64 nv) (bT HT) ?_
 refine ez 4 ⟨b, 0, none⟩ (bT HT) ?_
 refine ef 5 ⟨b, 0, none⟩ ⟨b, 1, none⟩ (bT HT) ?_
 refine ef 6 ⟨b, 1, none⟩ ⟨b, 1, none⟩ (bT HT) ?_
 refine ej 7 (.pointer (some ⟨b, 1, none⟩)) (.int .i8 x.dst) (.pointer (some ⟨b, 1 + d, none⟩)) (run_at11 b HRD.out HD.out) (bT HT) ?_
 obtain ⟨es, qe, hBs, _⟩ := HM.out.at_.box
 have HM2 := Hd (HM.out.trans (HM.out.at_.setReg HD.out HNI.out))
 refine E_one 8 (by kernel_rfl) (StepE.store_at 8 3 _ _ ⟨b, 1 + d, none⟩ (.int .i64 nv) _ rfl (by rfl) (by rfl) (by rfl) (run_storeVar_one 3 b (1 + d) 114 _ _ hBs (by rw [List.size_toArray, mC_len HM.out.at_.len]; have := HD.out; omega) sizN rfl rfl) (.after (HM2.out.blk HB0.out HLOW.out).1 (by kernel_rfl)) ?_)
 clear hBs
 simp only [pt, pn, sL]
 refine wpAnyE_done (by kernel_rfl) ?_ _
 go_end0
 rw [HNX.out]
 exact ⟨rfl, _, _, HG.out.trans HM2.out⟩
theorem store_any (h : MA base g b F G m ex w) (x : ID) (hx : x.wf) (hdst : 0 ≤ x.dst ∧ x.dst ≤ 10) (hsrc : 0 ≤ x.src ∧ x.src ≤ 10) (hsz : 1 ≤ x.size ∧ x.size ≤ 8) (hlt : m.evs.length < 64) : Calls prog 45 #[.pointer (some ⟨b, 0, none⟩), .agg x.cells.toArray] w (MEnd base g b G ex w (m.store x)) := by
 have hb0 : base ≤ w.heap.size := Nat.le_trans (h.low b h.nb.2).1 (Nat.le_of_lt h.lt)
 have hbl := ((Below.refl w.heap.size w).alloc (Nat.le_refl _) (.cells x.cells.toArray 47))
 have HG := Hd (MG.of_below h hbl)
 have HB0 := Hd (show Blk (w.alloc (.cells x.cells.toArray 47)) w.heap.size 47 x.cells.toArray from Blk.new w 47 x.cells.toArray)
 have HLOW := Hd (fun (e : G w.heap.size) => by have := (h.low _ e).2; omega : ¬ G w.heap.size)
 obtain ⟨d1, hr1, hd1⟩ := I8.nat hdst
 obtain ⟨q, hq⟩ : ∃ q, m.place x.dst x.off = q := ⟨_, rfl⟩
 have HP := Hd (fun (W : World) (F G : Nat → Prop) (hW : MA base g b F G m ex W) => by have := place_any hW x.dst x.off hr1 hd1 hx.2.2.2.2.2.2.1; rw [hq] at this; exact this)
 have HRQ := Hd (show q.1.regs = m.regs by rw [← hq]; rfl)
 have HEQ := Hd (show q.1.evs = m.evs by rw [← hq]; rfl)
 have hwr : IntKind.i8.wrap (8 * x.size) = 8 * x.size := i8_small (by omega)
 have hqw : WfP q.1.p ∧ ∀ t ∈ q.1.p.T, t.wf := by rw [← hq]; exact place_wf h x.dst x.off
 obtain ⟨d, hr, hd⟩ := I8.nat hsrc
 have hri := h.reg_i64 hd
 have hrr : m.reg x.src = m.regs.getD d 0 := by unfold SM.reg; rw [hr, Int.toNat_natCast]
 obtain ⟨rs, hrs⟩ : ∃ r, zextV q.1.p (8 * x.size) (m.regs.getD d 0) = r := ⟨_, rfl⟩
 have HO := Hd (fun (W : World) (F : Nat → Prop) (hW : PoolAt W base F g q.1.p) (hb : base ≤ W.heap.size) => by have hf := zextV_some hW.wf (8 * x.size) (m.regs.getD d 0); rw [hrs] at hf; exact Zext_any _ (8 * x.size) (m.regs.getD d 0) hri rs hf W hW hb)
 have HON := Hd (show I64 rs.2.1 by rw [← hrs]; exact zextV_num hqw.1 hqw.2 _ hri)
 have HEL := Hd (show q.1.evs.length < 64 by rw [HEQ.out]; exact hlt)
 have HNX := Hd (show m.store x = ⟨rs.1, q.1.regs, q.1.evs ++ [⟨1, x.size, q.2, rs.2.1, 0, []⟩], if q.1.err = 0 then rs.2.2 else q.1.err⟩ by unfold SM.store; dsimp only; rw [hq, hrr, hrs]; rfl)
 obtain ⟨mq, nq⟩ := q
 obtain ⟨rp, rn, re⟩ := rs
 dsimp only at HP HRQ HO HON HEL HNX
 have HRD := Hd hr
 have HD := Hd hd
 have HX := Hd hx
 have HWR := Hd hwr
 have hb1 := Nat.le_trans hb0 HG.out.size
 have HM := Hd (MG.refl HG.out.at_)
 clear h hx hdst hsrc hq hlt hd hd1 hr hr1 hb0 hbl HEQ hqw hrs hri hrr hwr
 go_enter func45, ntmps45
 go_upto_region 1 with fail
 generalize (w.alloc (.cells x.cells.toArray 47)) = Wd at HG HM HB0 hb1 ⊢
 generalize w.heap.size = bx at HB0 HLOW ⊢
 have b5 : Wd.cell? ⟨bx, 5, none⟩ = some (.int .i8 x.dst) := HB0.out.cell 5
 have b7 : Wd.cell? ⟨bx, 7, none⟩ = some (.int .i64 x.off) := HB0.out.cell 7
 go_wp2_with fail
 refine (HP.out _ _ _ HM.out.at_).mono ?_
 rintro e w1 ⟨rfl, hi1, F1, G1, hm1⟩
 replace HM := Hd (HM.out.trans hm1)
 have HI1 := Hd hi1
 clear hm1 hi1 b5 b7
 go_wp2
 refine wp_region_E (fun w' => Blk w' bx 47 x.cells.toArray) (MT b g m.regs) [] (by kernel_rfl) ?_
 replace HM := Hd (HM.out.step ((Below.refl _ _).drew))
 generalize w1.drew = w2 at HM ⊢
 have HT := Hd (HM.out.blk HB0.out HLOW.out).1
 have HS := Hd (show MT b g m.regs w2 from HRQ.out ▸ HM.out.at_.mt)
 refine em 0 (.pointer (some ⟨b, 0, none⟩)) (bS HT HS) ?_
 refine ef 1 ⟨bx, 0, none⟩ ⟨bx, 3, none⟩ (bS HT HS) ?_
 refine el false 2 ⟨bx, 3, none⟩ (.int .i8 x.size) underlying30 (fun w hS => (hS.1.cell 3)) (bS HT HS) ?_
 refine em 3 (.int .i64 nq) (bS HT HS) ?_
 refine em 4 (.pointer (some ⟨b, 0, none⟩)) (bS HT HS) ?_
 refine em 5 (.pointer (some ⟨b, 0, none⟩)) (bS HT HS) ?_
 refine ez 6 ⟨b, 0, none⟩ (bS HT HS) ?_
 refine ef 7 ⟨b, 0, none⟩ ⟨b, 0, none⟩ (bS HT HS) ?_
 refine el true 8 ⟨b, 0, none⟩ (.pointer (some ⟨g, 0, none⟩)) underlying50 (fun w hS => (hS.2 rfl).1) (bS HT HS) ?_
 refine ef 9 ⟨bx, 0, none⟩ ⟨bx, 3, none⟩ (bS HT HS) ?_
 refine el false 10 ⟨bx, 3, none⟩ (.int .i8 x.size) underlying30 (fun w hS => (hS.1.cell 3)) (bS HT HS) ?_
 refine eb 11 (.int .i8 (8 * x.size)) rfl (fun o e w _ => by unfold execOp; simp only [e]; go_simp; rw [HWR.out]) (bS HT HS) ?_
 refine em 12 (.pointer (some ⟨b, 0, none⟩)) (bS HT HS) ?_
 refine ef 13 ⟨bx, 0, none⟩ ⟨bx, 6, none⟩ (bS HT HS) ?_
 refine el false 14 ⟨bx, 6, none⟩ (.int .i8 x.src) underlying30 (fun w hS => (hS.1.cell 6)) (bS HT HS) ?_
 refine ez 15 ⟨b, 0, none⟩ (bS HT HS) ?_
 refine ef 16 ⟨b, 0, none⟩ ⟨b, 1, none⟩ (bS HT HS) ?_
 refine ef 17 ⟨b, 1, none⟩ ⟨b, 1, none⟩ (bS HT HS) ?_
 refine ej 18 (.pointer (some ⟨b, 1, none⟩)) (.int .i8 x.src) (.pointer (some ⟨b, 1 + d, none⟩)) (run_at11 b HRD.out HD.out) (bS HT HS) ?_
 refine el true 19 ⟨b, 1 + d, none⟩ (.int .i64 (m.regs.getD d 0)) underlying3 (fun w hS => ((hS.2 rfl).2 d HD.out)) (bS HT HS) ?_
 refine eo 20 fun o K h2 h3 hKK => ?_
 unfold Oper.wp execOp
 simp only [h3]
 go_simp
 refine (HO.out _ _ HM.out.at_.pool (Nat.le_trans hb1 HM.out.size)).mono ?_
 rintro e wq ⟨rfl, Fq, hpq⟩
 replace HM := Hd (HM.out.trans (HM.out.at_.pg hpq))
 replace HT := Hd (HM.out.blk HB0.out HLOW.out).1
 replace HS := Hd (show MT b g m.regs wq from HRQ.out ▸ HM.out.at_.mt)
 clear hpq
 dsimp only
 refine hKK _ _ (bS HT HS) ?_
 clear hKK h2 h3 K o
 try simp only [pt, pn, sL]
 refine eg 21 (.int .i64 rn) (bS HT HS) ?_
 refine eg 22 (.int .i64 re) (bS HT HS) ?_
 refine eo 23 fun o K h2 h3 hKK => ?_
 unfold Oper.wp execOp
 simp only [h3]
 go_simp
 refine (made_any HM.out.at_ (rn) (re) HON.out).mono ?_
 rintro e wq ⟨rfl, _, Fq, Gq, hmq⟩
 replace HM := Hd (HM.out.trans hmq)
 replace HT := Hd (HM.out.blk HB0.out HLOW.out).1
 replace HS := Hd (show MT b g m.regs wq from HRQ.out ▸ HM.out.at_.mt)
 clear hmq
 dsimp only
 refine hKK _ _ (bS HT HS) ?_
 clear hKK h2 h3 K o
 try simp only [pt, pn, sL]
 refine E_build 24 (some 35) _ _ (#[(0, .int .i8 1), (1, .int .i8 x.size), (2, .int .i64 nq), (3, .int .i64 rn)]) (.agg (evC (⟨1, x.size, nq, rn, 0, []⟩, .slice none 0 0)).toArray) rfl (by kernel_rfl) (by rfl) (fun _ _ _ h => h) (by simp only [List.map_toArray, List.map_cons, List.map_nil]; rfl) (fun w => run_build w 72 _ _ (by kernel_rfl)) (bS HT HS) ?_
 simp only [pt, pn, sL]
 refine eo 25 fun o K h2 h3 hKK => ?_
 unfold Oper.wp execOp
 simp only [h3]
 go_simp
 refine (event_any HM.out.at_ ⟨1, x.size, nq, rn, 0, []⟩ (.slice none 0 0) rfl ⟨by unfold I8; dsimp only; omega, HX.out.2.2.2.1, HI1.out, HON.out, i64_zero⟩ NumsF.nil HEL.out).mono ?_
 rintro e wq ⟨rfl, Fq, Gq, hmq⟩
 replace HM := Hd (HM.out.trans hmq)
 replace HT := Hd (HM.out.blk HB0.out HLOW.out).1
 replace HS := Hd (show MT b g m.regs wq from HRQ.out ▸ HM.out.at_.mt)
 clear hmq
 dsimp only
 refine hKK _ _ (bS HT HS) ?_
 clear hKK h2 h3 K o
 try simp only [pt, pn, sL]
 refine wpAnyE_done (by kernel_rfl) ?_ _
 go_end0
 rw [HNX.out]
 exact ⟨rfl, _, _, HG.out.trans HM.out⟩
end
end
section
open Go.RowKit
section
variable {base g b : Nat} {F G F1 G1 : Nat → Prop} {m : SM} {ex : ExD} {w : World}
theorem E_slice {P : Program} {ops : Array Oper} {Q : Exit → Act → World → Prop} {md : Region.Mode} {T S : World → Prop} {late : List Nat} {fuel : Nat} {listed : Array Bool} {a : Act} {w : World} (i : Nat) (d : Option Tmp) (t : TypeId) (x lo hi : Operand) (vx vl vh v : Value) (ho : opAt ops i = some (d, .slice t x (some lo) (some hi) none)) (hc : checkE md ops late listed i false = true) (hw : wantAt ops i a = some true)
  (hQ : ∀ c a w, Q (.panic c) (a.put d v) w → Q (.panic c) a w) (hx : a.eval x = vx) (hl : a.eval lo = vl) (hh : a.eval hi = vh) (hr : ∀ w, (Instr.sliceAt t vx (some vl) (some vh) none).run P w = .ok v w)
  (hS : St T S late listed w) (h : wpAnyE P md ops Q T S late fuel (listed.setIfInBounds i true) (a.put d v) w) : wpAnyE P md ops Q T S late (fuel + 1) listed a w :=
 E_any false i d _ _ ho hc hw hQ (fun o e w _ => by
  unfold execOp
  simp only [e, hx, hl, hh, Option.map_some, Option.map_none, Sem.run_bind, hr, Result.andThen_ok, Sem.run_pure]) hS h
theorem run_slice11 (b : Nat) {k : Nat} (hk : k ≤ 5) (w : World) : (Instr.sliceAt 57 (.pointer (some ⟨b, 1, none⟩)) (some (.int .i64 1)) (some (.int .i64 (1 + (k : Int)))) none).run prog w = .ok (.slice (some ⟨b, 2, none⟩) k 10) w := by
 have h : k = 0 ∨ k = 1 ∨ k = 2 ∨ k = 3 ∨ k = 4 ∨ k = 5 := by omega
 rcases h with rfl | rfl | rfl | rfl | rfl | rfl
 all_goals go_simp
theorem MT.reads {regs : List Int} {k : Nat} (h : MT b g regs w) (hb : b < w.heap.size) (hl : regs.length = 11) (hk : k ≤ 5) : Reads w w.heap.size 1 (some ⟨b, 2, none⟩) k (((regs.drop 1).take k).map (Value.int .i64)) := by
 refine ⟨by simp; omega, fun hn => ⟨_, rfl, hb, fun j u hu => ?_⟩⟩
 have hj : j < k := by
  have := (List.getElem?_eq_some_iff.1 hu).1
  simp at this
  omega
 rw [addr_add, show 2 + j = 1 + (1 + j) by omega, h.2 (1 + j) (by omega)]
 rw [List.getElem?_map, List.getElem?_take_of_lt hj, List.getElem?_drop, List.getElem?_eq_getElem (by omega)] at hu
 rw [List.getD_eq_getElem?_getD, List.getElem?_eq_getElem (by omega)]
 exact hu
def fiveT (l : List Int) (n : Int) : Nat → List Int
 | 0 => l
 | k + 1 => (fiveT l n k).set (k + 1) n
theorem run_build1 {n i : Int} {l : List Int} {va : Value} (hv : NumsF w G va l) (W : World) : (Instr.build 72 #[(0, .int .i8 2), (4, .int .i64 i), (3, .int .i64 n), (5, va)]).run prog W = .ok (.agg (evC (⟨2, 0, 0, n, i, l⟩, va)).toArray) W := by
 obtain ⟨A, c, rfl⟩ := hv.form
 exact run_build W 72 _ _ (by kernel_rfl)
theorem args_nums {W w' : World} {va : Value} {regs : List Int} {k : Nat} (Ra : w'.ownsRow W.heap.size 3 1 va (0 + k) ([] ++ ((regs.drop 1).take k).map (Value.int .i64))) (hlow : ∀ c, G c → base ≤ c ∧ c < W.heap.size) (hbW : b < W.heap.size) (hr : regs.length = 11 ∧ (∀ r ∈ regs, I64 r) ∧ k ≤ 5) (hO : ∀ c, va.ownBlock = some c → W.heap.size ≤ c) : NumsF w' (Up G b) va ((regs.drop 1).take k) := by
 have hl : ((regs.drop 1).take k).length = 0 + k := by simp; omega
 obtain ⟨A, c, e, hc, hR⟩ := ReadsF.of_own (F := Up G b) Ra (fun c hc q => q.elim (fun q => by have := hO c hc; have := (hlow c q).2; omega) (fun q => by have := hO c hc; omega))
 refine ⟨A, c, by rw [hl]; exact e, by rw [hl]; exact hc, by rw [hl]; exact hR, fun x hx => hr.2.1 x (List.mem_of_mem_drop (List.mem_of_mem_take hx)), by omega⟩
theorem call_any (h : MA base g b F G m ex w) (x : ID) (hx : x.wf) (hlt : m.evs.length < 64) : Calls prog 47 #[.pointer (some ⟨b, 0, none⟩), .agg x.cells.toArray] w (MEnd base g b G ex w (m.call x)) := by
 have hb0 : base ≤ w.heap.size := Nat.le_trans (h.low b h.nb.2).1 (Nat.le_of_lt h.lt)
 have hbl := ((Below.refl w.heap.size w).alloc (Nat.le_refl _) (.cells x.cells.toArray 47))
 have HG := Hd (MG.of_below h hbl)
 have HB0 := Hd (show Blk (w.alloc (.cells x.cells.toArray 47)) w.heap.size 47 x.cells.toArray from Blk.new w 47 x.cells.toArray)
 have HLOW := Hd (fun (e : G w.heap.size) => by have := (h.low _ e).2; omega : ¬ G w.heap.size)
 obtain ⟨iA, hiA, hzA, hsA, hbA⟩ := info_parts infIn
 have IA := Hd (And.intro hiA (And.intro hzA (And.intro hsA hbA)))
 obtain ⟨v, hv⟩ : ∃ v, m.next 64 = v := ⟨_, rfl⟩
 have HV := Hd (fun (W : World) (F G : Nat → Prop) (hW : MA base g b F G m ex W) => by have := next_any hW 64 (by unfold I8; omega); rw [hv] at this; exact this)
 have HRQ := Hd (show v.1.regs = m.regs by rw [← hv]; rfl)
 have HEL := Hd (show v.1.evs.length < 64 by rw [← hv]; exact hlt)
 have hab := argsN_bd x.imm
 obtain ⟨k, hk⟩ : ∃ k : Nat, argsN x.imm = (k : Int) := ⟨(argsN x.imm).toNat, by omega⟩
 have HK := Hd (show k ≤ 5 by omega)
 have HA := Hd (fun (W : World) => by have := args_any x.imm W; rw [hk] at this; exact this)
 have HLEN := Hd h.len
 have HREG := Hd (And.intro h.len (And.intro h.rng HK.out))
 obtain ⟨z, hz⟩ : ∃ z, SM.num ⟨v.1.p, v.1.regs.set 0 v.2, v.1.evs ++ [⟨2, 0, 0, v.2, x.imm, (m.regs.drop 1).take k⟩], v.1.err⟩ 0 = z := ⟨_, rfl⟩
 have HZ := Hd (fun (W : World) (F G : Nat → Prop) (hW : MA base g b F G ⟨v.1.p, v.1.regs.set 0 v.2, v.1.evs ++ [⟨2, 0, 0, v.2, x.imm, (m.regs.drop 1).take k⟩], v.1.err⟩ ex W) => by have := num_any hW 0 i64_zero; rw [hz] at this; exact this)
 have HNX := Hd (show m.call x = ⟨z.1.p, fiveT z.1.regs z.2 5, z.1.evs, z.1.err⟩ by
  unfold SM.call
  dsimp only
  rw [hv, hk, Int.toNat_natCast]
  show (let q := SM.num ⟨v.1.p, v.1.regs.set 0 v.2, v.1.evs ++ [⟨2, 0, 0, v.2, x.imm, (m.regs.drop 1).take k⟩], v.1.err⟩ 0; ({ q.1 with regs := fiveL q.1.regs q.2 } : SM)) = _
  dsimp only
  rw [hz]
  rfl)
 obtain ⟨mv, nv⟩ := v
 obtain ⟨mz, nz⟩ := z
 dsimp only at HV HRQ HEL HZ HNX
 have HX := Hd hx
 have HM := Hd (MG.refl HG.out.at_)
 clear h hx hv hlt hb0 hbl hab hk hz hiA hzA hsA hbA
 go_enter func47, ntmps47
 go_upto_region 1 with fail
 generalize (w.alloc (.cells x.cells.toArray 47)) = Wd at HG HM HB0 ⊢
 generalize w.heap.size = bx at HB0 HLOW ⊢
 go_wp2_with fail
 refine (HV.out _ _ _ HM.out.at_).mono ?_
 rintro e w1 ⟨rfl, hi1, F1, G1, hm1⟩
 replace HM := Hd (HM.out.trans hm1)
 have HNI := Hd hi1
 clear hm1 hi1
 go_wp2
 refine wp_region_E (fun w' => Blk w' bx 47 x.cells.toArray) (MT b g m.regs) [] (by kernel_rfl) ?_
 replace HM := Hd (HM.out.step ((Below.refl _ _).drew))
 generalize w1.drew = w2 at HM ⊢
 have HT := Hd (HM.out.blk HB0.out HLOW.out).1
 have HS := Hd (show MT b g m.regs w2 from HRQ.out ▸ HM.out.at_.mt)
 refine em 0 (.pointer (some ⟨b, 0, none⟩)) (bS HT HS) ?_
 refine ef 1 ⟨bx, 0, none⟩ ⟨bx, 8, none⟩ (bS HT HS) ?_
 refine el false 2 ⟨bx, 8, none⟩ (.int .i64 x.imm) underlying3 (fun w hS => (hS.1.cell 8)) (bS HT HS) ?_
 refine em 3 (.int .i64 nv) (bS HT HS) ?_
 refine em 4 (.pointer (some ⟨b, 0, none⟩)) (bS HT HS) ?_
 refine ez 5 ⟨b, 0, none⟩ (bS HT HS) ?_
 refine ef 6 ⟨b, 0, none⟩ ⟨b, 1, none⟩ (bS HT HS) ?_
 refine ef 7 ⟨b, 1, none⟩ ⟨b, 1, none⟩ (bS HT HS) ?_
 refine ef 8 ⟨bx, 0, none⟩ ⟨bx, 8, none⟩ (bS HT HS) ?_
 refine el false 9 ⟨bx, 8, none⟩ (.int .i64 x.imm) underlying3 (fun w hS => (hS.1.cell 8)) (bS HT HS) ?_
 refine eo 10 fun o K h2 h3 hKK => ?_
 unfold Oper.wp execOp
 simp only [h3]
 go_simp
 refine (HA.out _).mono ?_
 rintro e wq ⟨rfl, rfl⟩
 dsimp only
 refine hKK _ _ (bS HT HS) ?_
 clear hKK h2 h3 K o
 try simp only [pt, pn, sL]
 refine eb 11 (.int .i64 (1 + (k : Int))) rfl (fun o e w _ => by unfold execOp; simp only [e]; go_simp; have := HK.out; rw [wrap_in (by omega)]) (bS HT HS) ?_
 refine E_slice 12 (some 21) _ _ _ _ (.pointer (some ⟨b, 1, none⟩)) (.int .i64 1) (.int .i64 (1 + (k : Int))) (.slice (some ⟨b, 2, none⟩) k 10) rfl (by kernel_rfl) (by rfl) (fun _ _ _ h => h) (by rfl) (by rfl) (by rfl) (run_slice11 b HK.out) (bS HT HS) ?_
 simp only [pt, pn, sL]
 refine E_one 13 (by kernel_rfl) (StepE.append 13 (some 22) 28 3 _ _ w2.heap.size iA _ 1 8 rfl (by rfl) underlying28 IA.out.1 IA.out.2.1 IA.out.2.2.1 IA.out.2.2.2 rfl (by omega) (.slice none 0 0) 0 [] (by rfl) ⟨rfl, .inl ⟨rfl, rfl⟩⟩ _ (some ⟨b, 2, none⟩) k 10 (((m.regs.drop 1).take k).map (Value.int .i64)) (by rfl) (HS.out.reads HM.out.at_.lt HLEN.out HK.out) (fun u hu => by obtain ⟨_, _, rfl⟩ := List.mem_map.1 hu; rfl) (by have := HK.out; unfold maxLen; omega) (by have := HK.out; omega) (Nat.le_refl _) ?_)
 intro va wq Ra Ga Oa
 have hbq : Below w2.heap.size w2 wq := (Below.refl _ _).grown Ga (Nat.le_refl _) (fun c e => by cases e)
 have HVA := Hd (args_nums Ra HM.out.at_.low HM.out.at_.lt HREG.out (fun c hc => Oa.elim (fun e => by rw [e] at hc; cases hc) (fun e => by rw [e] at hc; injection hc with hc; rw [hc]; exact Nat.le_refl _)))
 have HV1 := Hd (own_one Ra)
 replace HM := Hd (HM.out.step hbq)
 replace HT := Hd (HM.out.blk HB0.out HLOW.out).1
 replace HS := Hd (show MT b g m.regs wq from HRQ.out ▸ HM.out.at_.mt)
 clear Ra Ga Oa hbq
 refine ⟨.both HT.out HS.out, ?_⟩
 simp only [pt, pn, sL]
 refine E_build 14 (some 23) _ _ (#[(0, .int .i8 2), (4, .int .i64 x.imm), (3, .int .i64 nv), (5, va)]) (.agg (evC (⟨2, 0, 0, nv, x.imm, (m.regs.drop 1).take k⟩, va)).toArray) rfl (by kernel_rfl) (by rfl) (fun _ _ _ h => h) (by simp only [List.map_toArray, List.map_cons, List.map_nil]; rfl) (fun w => run_build1 HVA.out w) (bS HT HS) ?_
 simp only [pt, pn, sL]
 refine eo 15 fun o K h2 h3 hKK => ?_
 unfold Oper.wp execOp
 simp only [h3]
 go_simp
 refine (event_any HM.out.at_ ⟨2, 0, 0, nv, x.imm, (m.regs.drop 1).take k⟩ va HV1.out ⟨by unfold I8; dsimp only; omega, by unfold I8; dsimp only; omega, i64_zero, HNI.out, HX.out.2.2.2.2.2.2.2⟩ HVA.out HEL.out).mono ?_
 rintro e wq ⟨rfl, Fq, Gq, hmq⟩
 replace HM := Hd (HM.out.trans hmq)
 replace HT := Hd (HM.out.blk HB0.out HLOW.out).1
 replace HS := Hd (show MT b g m.regs wq from HRQ.out ▸ HM.out.at_.mt)
 clear hmq
 dsimp only
 refine hKK _ _ (bS HT HS) ?_
 clear hKK h2 h3 K o
 try simp only [pt, pn, sL]
 refine wpAnyE_done (by kernel_rfl) ?_ _
 have HWQ := Hd HM.out.at_
 clear HT HVA HV1
 rename World => w5
 have c1 : w5.cell? ⟨b, 1, none⟩ = some (.int .i64 (mv.event ⟨2, 0, 0, nv, x.imm, (m.regs.drop 1).take k⟩ |>.regs.getD 0 0)) := HWQ.out.creg (d := 0) (by omega)
 have f1 : w5.frozen? ⟨b, 1, none⟩ = false := HWQ.out.frozen 1
 clear HWQ HS
 go_wp2_with fail
 have HM5 := Hd (show MG base g b G Wd _ _ ⟨mv.p, mv.regs.set 0 nv, mv.evs ++ [⟨2, 0, 0, nv, x.imm, (m.regs.drop 1).take k⟩], mv.err⟩ ex (w5.setCell ⟨b, 1, none⟩ (.int .i64 nv)) from HM.out.trans (HM.out.at_.setReg (d := 0) (by omega) HNI.out))
 refine (HZ.out _ _ _ HM5.out.at_).mono ?_
 rintro e w6 ⟨rfl, hi6, F6, G6, hm6⟩
 have HM6 := Hd (HM5.out.trans hm6)
 have HI6 := Hd hi6
 clear hm6 hi6 HM HM5 c1 f1
 go_wp2_with fail
 go_loopw [6] (fun i wr => ∃ j : Nat, j ≤ 5 ∧ i = .int .i64 ((j : Int) + 1) ∧ ∃ F' G', MG base g b G Wd F' G' ⟨mz.p, fiveT mz.regs nz j, mz.evs, mz.err⟩ ex wr) (fun i _ => 5 - ((intOf i).toNat - 1))
 case atStart => exact ⟨0, by omega, rfl, _, _, HM6.out⟩
 case round =>
  obtain ⟨j, hj, rfl, F', G', hmr⟩ := hrel
  have HMR := Hd hmr
  clear hmr
  by_cases hlt : j < 5
  ·have cj := HMR.out.at_.creg (d := j + 1) (by omega)
   have fj := HMR.out.at_.frozen (1 + (j + 1))
   have hset := Hd (HMR.out.trans (HMR.out.at_.setReg (d := j + 1) (by omega) HI6.out))
   obtain ⟨j1, hj1⟩ : ∃ j1, j + 1 = j1 := ⟨_, rfl⟩
   rw [hj1] at cj fj hset
   have hji : (j : Int) + 1 = (j1 : Int) := by omega
   rw [hji]
   have hj5 : j1 ≤ 5 := by omega
   have hj0 : 1 ≤ j1 := by omega
   have HJ := Hd hj1
   clear hj1 hji hlt hj
   go_wp2
   go_roundw
   case measure => simp [intOf]; have := HJ.out; omega
   case rel => exact ⟨j1, hj5, by go_num, F', G', by have := hset.out; rw [← HJ.out] at this ⊢; exact this⟩
  ·obtain rfl : j = 5 := by omega
   go_wp2
   go_end0
   rw [HNX.out]
   exact ⟨rfl, _, _, HG.out.trans HMR.out⟩
end
end
section
open Go.RowKit
section
variable {base g b : Nat} {F G F1 G1 : Nat → Prop} {m : SM} {ex : ExD} {w : World}
theorem MA.exit2 {w' : World} (h : MA base g b F G m ex w) {cs : List Value} (hB0 : Blk w b 114 cs.toArray) (ex' : ExD) (hB1 : Blk w' b 114 (overC cs 13 [.int .i8 ex'.kind, .int .i64 ex'.v, .int .i64 ex'.tgt, .int .i64 ex'.els]).toArray) (Gr : w.grownBy w' (some b)) : MG base g b G w F G m ex' w' :=
 h.exit ex' (fun es hE => by
  have e : w.heap[b]? = some (.cells cs.toArray 114 (0, 0)) := hB0
  have e2 : w.heap[b]? = some (.cells (mC g m.regs es ex m.err).toArray 114 (0, 0)) := hE
  rw [e] at e2
  injection e2 with e2
  injection e2 with e2
  have e3 : cs = mC g m.regs es ex m.err := by simpa using e2
  rw [e3] at hB1
  exact hB1) Gr
theorem sizX : (prog.info? 63).map (·.size) = some 4 := by kernel_rfl
def exC (e : ExD) : List Value := [.int .i8 e.kind, .int .i64 e.v, .int .i64 e.tgt, .int .i64 e.els]
theorem exC_one (e : ExD) : ∀ u ∈ exC e, u.oneCell' = true := by
 intro u hu
 unfold exC at hu
 simp only [List.mem_cons, List.not_mem_nil, or_false] at hu
 rcases hu with rfl | rfl | rfl | rfl <;> rfl
theorem build_ret (n : Int) (w : World) : (Instr.build 63 #[(0, .int .i8 0), (1, .int .i64 n)]).run prog w = .ok (.agg (exC ⟨0, n, 0, 0⟩).toArray) w := run_build w 63 _ _ (by kernel_rfl)
theorem build_goto (n : Int) (w : World) : (Instr.build 63 #[(0, .int .i8 1), (2, .int .i64 n)]).run prog w = .ok (.agg (exC ⟨1, 0, n, 0⟩).toArray) w := run_build w 63 _ _ (by kernel_rfl)
theorem NumsF.at0 {nn cn : Nat} {An : Option Addr} {nx : List Int} (h : NumsF w G (.slice An nn cn) nx) {k : Nat} (hk : k < nn) : ∃ ad, An = some ad ∧ ad.block < w.heap.size ∧ w.cell? (ad.add k) = some (.int .i64 (nx.getD k 0)) := by
 obtain ⟨ad, x, e, hb, hx, _, hc⟩ := h.at_ hk
 exact ⟨ad, e, hb, by rw [hc, List.getD_eq_getElem?_getD, hx]; rfl⟩
theorem ends_ret (h : MA base g b F G m ex w) (x : ID) (hk : x.kind = 6) (s : Value) (nx : List Int) : Calls prog 48 #[.pointer (some ⟨b, 0, none⟩), .agg x.cells.toArray, s] w (MEnd base g b G (m.ends x nx).2 w (m.ends x nx).1) := by
 have hb0 : base ≤ w.heap.size := Nat.le_trans (h.low b h.nb.2).1 (Nat.le_of_lt h.lt)
 have hbl := ((Below.refl w.heap.size w).alloc (Nat.le_refl _) (.cells x.cells.toArray 47))
 have HG := Hd (MG.of_below h hbl)
 have HB0 := Hd (show Blk (w.alloc (.cells x.cells.toArray 47)) w.heap.size 47 x.cells.toArray from Blk.new w 47 x.cells.toArray)
 have HLOW := Hd (fun (e : G w.heap.size) => by have := (h.low _ e).2; omega : ¬ G w.heap.size)
 obtain ⟨r0, hr0⟩ : ∃ r, m.regs.getD 0 0 = r := ⟨_, rfl⟩
 have HNX := Hd (show m.ends x nx = (m, ⟨0, r0, 0, 0⟩) by unfold SM.ends; rw [if_pos hk, ← hr0]; rfl)
 have c1 : (w.alloc (.cells x.cells.toArray 47)).cell? ⟨b, 1, none⟩ = some (.int .i64 r0) := by rw [← hr0]; exact HG.out.at_.creg (d := 0) (by omega)
 have HM := Hd (MG.refl HG.out.at_)
 have HK := Hd hk
 clear h hk hb0 hbl hr0
 go_enter func48, ntmps48
 go_upto_region 1 with fail
 generalize (w.alloc (.cells x.cells.toArray 47)) = Wd at HG HM HB0 c1 ⊢
 generalize w.heap.size = bx at HB0 HLOW ⊢
 have b0 : Wd.cell? ⟨bx, 0, none⟩ = some (.int .i8 6) := by rw [← HK.out]; exact HB0.out.cell 0
 have qb := fun (W : World) => build_ret r0 W
 obtain ⟨es, qe, hBs, _⟩ := HM.out.at_.box
 have HBS := Hd hBs
 have HLN := Hd HM.out.at_.len
 clear hBs
 go_wp2_with (first
  | (refine wpList_store_at rfl 63 (.tmp 40) (.tmp 37) rfl b 13 114 _ (exC ⟨0, r0, 0, 0⟩) (.agg (exC ⟨0, r0, 0, 0⟩).toArray) HBS.out (by rfl) (by rfl) rfl sizX (by rw [mC_len HLN.out]; simp [exC]) (exC_one _) ?_
     intro wq hBq hgq hsq
     have HMQ := Hd (HM.out.trans (HM.out.at_.exit2 HBS.out ⟨0, r0, 0, 0⟩ hBq hgq))
     clear hBq hgq hsq)
  | fail)
 go_end0
 rw [HNX.out]
 exact ⟨rfl, _, _, HG.out.trans HMQ.out⟩
theorem run_ixs {ad : Addr} {nn cn k : Nat} {i : Int} (hi : i = (k : Int)) (hk : k < nn) (w : World) : (Instr.indexAt 28 (.slice (some ad) nn cn) (.int .i64 i)).run prog w = .ok (.pointer (some (ad.add k))) w := by
 subst hi
 go_simp
def NT (ad : Addr) (n0 n1 : Int) (w : World) : Prop := w.cell? (ad.add 0) = some (.int .i64 n0) ∧ w.cell? (ad.add 1) = some (.int .i64 n1)
theorem ends_far (h : MA base g b F G m ex w) (x : ID) (hk6 : x.kind ≠ 6) (hk : x.kind ≠ 3) {An : Option Addr} {nn cn : Nat} {nx : List Int} (hn : NumsF w G (.slice An nn cn) nx) (hnn : 0 < nn) : Calls prog 48 #[.pointer (some ⟨b, 0, none⟩), .agg x.cells.toArray, .slice An nn cn] w (MEnd base g b G (m.ends x nx).2 w (m.ends x nx).1) := by
 have hb0 : base ≤ w.heap.size := Nat.le_trans (h.low b h.nb.2).1 (Nat.le_of_lt h.lt)
 have hbl := (Below.refl w.heap.size w).alloc (Nat.le_refl _) (.cells x.cells.toArray 47)
 have HG := Hd (MG.of_below h hbl)
 have HB0 := Hd (show Blk (w.alloc (.cells x.cells.toArray 47)) w.heap.size 47 x.cells.toArray from Blk.new w 47 x.cells.toArray)
 have HLOW := Hd (fun (e : G w.heap.size) => by have := (h.low _ e).2; omega : ¬ G w.heap.size)
 have HNF := Hd (hn.chg (G := G) (Chg.of_below hbl) (fun k q => .inr q) (fun k q => .inl q))
 obtain ⟨n0, hn0⟩ : ∃ n, nx.getD 0 0 = n := ⟨_, rfl⟩
 have HNX := Hd (show m.ends x nx = (m, ⟨1, 0, n0, 0⟩) by unfold SM.ends; rw [if_neg hk6, if_neg (by rintro ⟨q1, q2⟩; exact hk q1), hn0])
 obtain ⟨ad, hAn, hab, hc0⟩ := HNF.out.at0 (k := 0) (by omega)
 subst hAn
 rw [hn0] at hc0
 have hk6' : (x.kind == 6) = false := by simpa using hk6
 have hk3' : (x.kind == 3) = false := by simpa using hk
 have HM := Hd (MG.refl HG.out.at_)
 have HC0 := Hd hc0
 skip
 have HNN := Hd (And.intro hnn hnn)
 obtain ⟨kd, hkd⟩ : ∃ k, x.kind = k := ⟨_, rfl⟩
 rw [hkd] at hk6' hk3'
 have b0 : (w.alloc (.cells x.cells.toArray 47)).cell? ⟨w.heap.size, 0, none⟩ = some (.int .i8 kd) := by rw [← hkd]; exact HB0.out.cell 0
 clear h hk hk6 hb0 hbl hn hn0 hc0 hkd hab HNF
 go_enter func48, ntmps48
 go_upto_region 1 with fail
 generalize (w.alloc (.cells x.cells.toArray 47)) = Wd at HG HM HB0 HC0 b0 ⊢
 generalize w.heap.size = bx at HB0 HLOW b0 ⊢
 have HB1 := Hd b0
 go_upto_region 2 with fail
 clear b0
 refine wp_region_E (fun w' => w'.cell? ⟨bx, 0, none⟩ = some (.int .i8 kd)) (fun _ => True) [] (by kernel_rfl) ?_
 have HT := Hd (show Wd.drew.cell? ⟨bx, 0, none⟩ = some (.int .i8 kd) from HB1.out)
 have c0 : Wd.drew.cell? ad = some (.int .i64 n0) := HC0.out
 have b0 : Wd.drew.cell? ⟨bx, 0, none⟩ = some (.int .i8 kd) := HB1.out
 replace HM := Hd (HM.out.step ((Below.refl _ _).drew))
 generalize Wd.drew = We at HM HT c0 b0 ⊢
 refine ef 0 ⟨bx, 0, none⟩ ⟨bx, 0, none⟩ (bT HT) ?_
 refine el false 1 ⟨bx, 0, none⟩ (.int .i8 kd) underlying30 (fun w hS => hS.1) (bT HT) ?_
 refine eg 2 (.bool false) (bT HT) ?_
 refine em 3 (.bool false) (bT HT) ?_
 refine en 4 (bT HT) ?_
 refine en 5 (bT HT) ?_
 refine en 6 (bT HT) ?_
 refine en 7 (bT HT) ?_
 refine en 8 (bT HT) ?_
 refine en 9 (bT HT) ?_
 refine en 10 (bT HT) ?_
 refine ep 11 false (.bool false) (bT HT) ?_
 refine eS 12 (.bool false) (bT HT) ?_
 refine wpAnyE_done (by kernel_rfl) ?_ _
 have qb := fun (W : World) => build_goto n0 W
 obtain ⟨es, qe, hBs, _⟩ := HM.out.at_.box
 have HBS := Hd hBs
 have HLN := Hd HM.out.at_.len
 clear hBs
 go_wp2_with (first
  | (refine wpList_store_at rfl 63 (.tmp 99) (.tmp 96) rfl b 13 114 _ (exC ⟨1, 0, n0, 0⟩) (.agg (exC ⟨1, 0, n0, 0⟩).toArray) HBS.out (by rfl) (by rfl) rfl sizX (by rw [mC_len HLN.out]; simp [exC]) (exC_one _) ?_
     intro wq hBq hgq hsq
     have HMQ := Hd (HM.out.trans (HM.out.at_.exit2 HBS.out ⟨1, 0, n0, 0⟩ hBq hgq))
     clear hBq hgq hsq)
  | fail)
 go_end0
 rw [HNX.out]
 exact ⟨rfl, _, _, HG.out.trans HMQ.out⟩
theorem ends_same (h : MA base g b F G m ex w) (x : ID) (hk6 : x.kind ≠ 6) (hk : x.kind = 3) {An : Option Addr} {nn cn : Nat} {nx : List Int} (hn : NumsF w G (.slice An nn cn) nx) (hnn : 1 < nn) (he : nx.getD 0 0 = nx.getD 1 0) : Calls prog 48 #[.pointer (some ⟨b, 0, none⟩), .agg x.cells.toArray, .slice An nn cn] w (MEnd base g b G (m.ends x nx).2 w (m.ends x nx).1) := by
 have hb0 : base ≤ w.heap.size := Nat.le_trans (h.low b h.nb.2).1 (Nat.le_of_lt h.lt)
 have hbl := (Below.refl w.heap.size w).alloc (Nat.le_refl _) (.cells x.cells.toArray 47)
 have HG := Hd (MG.of_below h hbl)
 have HB0 := Hd (show Blk (w.alloc (.cells x.cells.toArray 47)) w.heap.size 47 x.cells.toArray from Blk.new w 47 x.cells.toArray)
 have HLOW := Hd (fun (e : G w.heap.size) => by have := (h.low _ e).2; omega : ¬ G w.heap.size)
 have HNF := Hd (hn.chg (G := G) (Chg.of_below hbl) (fun k q => .inr q) (fun k q => .inl q))
 obtain ⟨n0, hn0⟩ : ∃ n, nx.getD 0 0 = n := ⟨_, rfl⟩
 obtain ⟨n1, hn1⟩ : ∃ n, nx.getD 1 0 = n := ⟨_, rfl⟩
 have HNX := Hd (show m.ends x nx = (m, ⟨1, 0, n0, 0⟩) by unfold SM.ends; rw [if_neg hk6, if_neg (by rintro ⟨q1, q2⟩; exact q2 he), hn0])
 obtain ⟨ad, hAn, hab, hc0⟩ := HNF.out.at0 (k := 0) (by omega)
 subst hAn
 rw [hn0] at hc0
 obtain ⟨ad', hAn, _, hc1⟩ := HNF.out.at0 (k := 1) (by omega)
 injection hAn with hAn
 subst hAn
 rw [hn1] at hc1
 have hne : (n0 != n1) = false := by rw [← hn0, ← hn1, he]; simp
 have hk6' : (x.kind == 6) = false := by simpa using hk6
 have hk3' : (x.kind == 3) = true := by simpa using hk
 have HM := Hd (MG.refl HG.out.at_)
 have HC0 := Hd hc0
 have HC1 := Hd hc1
 have HNN := Hd (And.intro (show 0 < nn by omega) (show 1 < nn by omega))
 obtain ⟨kd, hkd⟩ : ∃ k, x.kind = k := ⟨_, rfl⟩
 rw [hkd] at hk6' hk3'
 have b0 : (w.alloc (.cells x.cells.toArray 47)).cell? ⟨w.heap.size, 0, none⟩ = some (.int .i8 kd) := by rw [← hkd]; exact HB0.out.cell 0
 clear h hk hk6 hb0 hbl hn hn0 hn1 he hc1 hc0 hkd hab HNF
 go_enter func48, ntmps48
 go_upto_region 1 with fail
 generalize (w.alloc (.cells x.cells.toArray 47)) = Wd at HG HM HB0 HC0 HC1 b0 ⊢
 generalize w.heap.size = bx at HB0 HLOW b0 ⊢
 have HB1 := Hd b0
 go_upto_region 2 with fail
 clear b0
 refine wp_region_E (fun w' => w'.cell? ⟨bx, 0, none⟩ = some (.int .i8 kd) ∧ NT ad n0 n1 w') (fun _ => True) [] (by kernel_rfl) ?_
 have HT := Hd (show Wd.drew.cell? ⟨bx, 0, none⟩ = some (.int .i8 kd) ∧ NT ad n0 n1 Wd.drew from ⟨HB1.out, HC0.out, HC1.out⟩)
 have c0 : Wd.drew.cell? ad = some (.int .i64 n0) := HC0.out
 have b0 : Wd.drew.cell? ⟨bx, 0, none⟩ = some (.int .i8 kd) := HB1.out
 replace HM := Hd (HM.out.step ((Below.refl _ _).drew))
 generalize Wd.drew = We at HM HT c0 b0 ⊢
 refine ef 0 ⟨bx, 0, none⟩ ⟨bx, 0, none⟩ (bT HT) ?_
 refine el false 1 ⟨bx, 0, none⟩ (.int .i8 kd) underlying30 (fun w hS => hS.1.1) (bT HT) ?_
 refine eg 2 (.bool true) (bT HT) ?_
 refine em 3 (.bool true) (bT HT) ?_
 refine em 4 (.slice (some ad) nn cn) (bT HT) ?_
 refine ej 5 (.slice (some ad) nn cn) (.int .i64 0) (.pointer (some (ad.add 0))) (run_ixs (k := 0) rfl HNN.out.1) (bT HT) ?_
 refine el false 6 (ad.add 0) (.int .i64 n0) underlying3 (fun w hS => hS.1.2.1) (bT HT) ?_
 refine em 7 (.slice (some ad) nn cn) (bT HT) ?_
 refine ej 8 (.slice (some ad) nn cn) (.int .i64 1) (.pointer (some (ad.add 1))) (run_ixs (k := 1) rfl HNN.out.2) (bT HT) ?_
 refine el false 9 (ad.add 1) (.int .i64 n1) underlying3 (fun w hS => hS.1.2.2) (bT HT) ?_
 refine eg 10 (.bool false) (bT HT) ?_
 refine ep 11 true (.bool false) (bT HT) ?_
 refine eS 12 (.bool false) (bT HT) ?_
 refine wpAnyE_done (by kernel_rfl) ?_ _
 have qb := fun (W : World) => build_goto n0 W
 obtain ⟨es, qe, hBs, _⟩ := HM.out.at_.box
 have HBS := Hd hBs
 have HLN := Hd HM.out.at_.len
 clear hBs
 go_wp2_with (first
  | (refine wpList_store_at rfl 63 (.tmp 99) (.tmp 96) rfl b 13 114 _ (exC ⟨1, 0, n0, 0⟩) (.agg (exC ⟨1, 0, n0, 0⟩).toArray) HBS.out (by rfl) (by rfl) rfl sizX (by rw [mC_len HLN.out]; simp [exC]) (exC_one _) ?_
     intro wq hBq hgq hsq
     have HMQ := Hd (HM.out.trans (HM.out.at_.exit2 HBS.out ⟨1, 0, n0, 0⟩ hBq hgq))
     clear hBq hgq hsq)
  | fail)
 go_end0
 rw [HNX.out]
 exact ⟨rfl, _, _, HG.out.trans HMQ.out⟩
end
end
end Go.Proofs.YtepagfkkjlbipaaGreat
