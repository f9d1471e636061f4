/-
  Parts of the proof of SymbcRuns. Conditions: those written in each statement.
-/
import Derived.Test.YtepagfkkjlbipaaGreatKax
set_option linter.unusedVariables false
set_option linter.unusedSimpArgs false
set_option maxHeartbeats 64000000
set_option maxRecDepth 100000
namespace Go.Proofs.YtepagfkkjlbipaaGreat
open Go.RowKit
open Tryz
section
section
variable {base g b : Nat}{F G F1 G1 : Nat → Prop}{m : SM}{ex : ExD}{w : World}
theorem zcW (m : SM)(x : ID) : (m.second x).1.regs = m.regs := by
 unfold SM.second
 split
 ·rfl
 ·split <;> rfl
theorem zlq : (prog.info? 47).map (·.size) = some 9 := by kernel_rfl
theorem zeL (h : MA base g b F G m ex w){x : ID}(hs : x.byReg = true → 0 ≤ x.src ∧ x.src ≤ 10) : I64 (m.second x).2 := by
 unfold SM.second
 split
 ·rename_i hb
  have := hs hb;exact h.reg_i64 (d := x.src.toNat) (by omega)
 ·split <;> exact zln h _
theorem zfJ (h : MA base g b F G m ex w)(x : ID) : WfP (m.second x).1.p ∧ ∀ t ∈ (m.second x).1.p.T,t.wf := by
 unfold SM.second
 split
 ·exact ⟨h.pool.wf,h.pool.rng⟩
 ·split <;> exact zlo h _
theorem I8.nat {x : Int}(h : 0 ≤ x ∧ x ≤ 10) : ∃ d : Nat,x = (d : Int) ∧ d < 11 := ⟨x.toNat,by omega,by omega⟩
theorem zp3 (h : MA base g b F G m ex w)(x : ID)(hx : x.wf)(hdst : 0 ≤ x.dst ∧ x.dst ≤ 10)(hs : x.byReg = true → 0 ≤ x.src ∧ x.src ≤ 10)(hwd : -128 < x.width) : Calls prog 43 #[.pointer (some ⟨b,0,none⟩),.agg x.cells.toArray] w (zky base g b G ex w (m.alu x)) := by
 have hb0 : base ≤ w.heap.size := zto (h.low b h.nb.2).1 (ztu h.lt);have hbl := (((Below.refl w.heap.size w).alloc (ztn _) (.cells x.cells.toArray 47))).drew;have HG := Hd (MG.of_below h hbl)
 have HB0 := Hd (show Blk (w.alloc (.cells x.cells.toArray 47)).drew w.heap.size 47 x.cells.toArray from Blk.new w 47 x.cells.toArray)
 have HLOW := Hd (fun (e : G w.heap.size) => by have := (h.low _ e).2; omega : ¬ G w.heap.size)
 obtain ⟨q,hq⟩ : ∃ q,m.second x = q := ⟨_,rfl⟩;have HN := Hd (fun (W : World) (F G : Nat → Prop) (hW : MA base g b F G m ex W) => by have := zeK hW x hx hs hwd; rw [hq] at this; exact this)
 have hqi : I64 q.2 := by rw [← hq]; exact zeL h hs
 have hqw : WfP q.1.p ∧ ∀ t ∈ q.1.p.T,t.wf := by rw [← hq]; exact zfJ h x
 have HRQ := Hd (show q.1.regs = m.regs by rw [← hq]; exact zcW m x)
 obtain ⟨d,hr,hd⟩ := I8.nat hdst;have hri := h.reg_i64 hd;have hrr : m.reg x.dst = m.regs.getD d 0 := by unfold SM.reg; rw [hr,ztx]
 obtain ⟨rs,hrs⟩ : ∃ r,opV q.1.p x.op x.width (m.regs.getD d 0) q.2 = r := ⟨_,rfl⟩;have HO := Hd (fun (W : World) (F : Nat → Prop) (hW : zam W base F g q.1.p) (hb : base ≤ W.heap.size) => by obtain ⟨f,hf⟩ := zbV hW.wf hW.rng x.op x.width (m.regs.getD d 0) q.2; rw [hrs] at hf; exact zmV f x.op x.width _ q.2 hri hqi F q.1.p rs hf W hW hb)
 have HON := Hd (show I64 rs.2.1 by rw [← hrs]; exact ze1 hqw.1 hqw.2 _ _ _ _)
 have HNX := Hd (show m.alu x = ⟨rs.1,q.1.regs.set d rs.2.1,q.1.evs,if q.1.err = 0 then rs.2.2 else q.1.err⟩ by unfold SM.alu; dsimp only; rw [hq,hrr,hrs]; unfold SM.set SM.keep; rw [hr,ztx])
 obtain ⟨mq,nq⟩ := q;obtain ⟨rp,rn,re⟩ := rs;dsimp only at HN HRQ HO HON HNX;have HRD := Hd hr
 have HD := Hd hd
 have hb1 := zto hb0 HG.out.size;have HM := Hd (MG.refl HG.out.at_)
 have HS := Hd (show MT b g m.regs (w.alloc (.cells x.cells.toArray 47)).drew from HG.out.at_.mt)
 clear h hx hdst hs hwd hq hqi hqw hri hrr hrs hd hb0 hr hbl;go_enter func43,ntmps43;go_wp2;refine zac (fun w' => Blk w' w.heap.size 47 x.cells.toArray) (MT b g m.regs) [31] (by kernel_rfl) ?_;generalize (w.alloc (.cells x.cells.toArray 47)).drew = Wd at HG HM HS HB0 hb1 ⊢;generalize w.heap.size = bx at HB0 HLOW ⊢;have HT := Hd HB0.out
 refine em 0 (.pointer (some ⟨b,0,none⟩)) (bS HT HS) ?_;refine ef 1 ⟨bx,0,none⟩ ⟨bx,5,none⟩ (bS HT HS) ?_;refine el false 2 ⟨bx,5,none⟩ (.int .i8 x.dst) underlying30 (fun w hS => (hS.1.cell 5)) (bS HT HS) ?_;refine em 3 (.pointer (some ⟨b,0,none⟩)) (bS HT HS) ?_;refine em 4 (.pointer (some ⟨b,0,none⟩)) (bS HT HS) ?_;refine ez 5 ⟨b,0,none⟩ (bS HT HS) ?_;refine ef 6 ⟨b,0,none⟩ ⟨b,0,none⟩ (bS HT HS) ?_;refine el true 7 ⟨b,0,none⟩ (.pointer (some ⟨g,0,none⟩)) underlying50 (fun w hS => (hS.2 rfl).1) (bS HT HS) ?_;refine ef 8 ⟨bx,0,none⟩ ⟨bx,1,none⟩ (bS HT HS) ?_;refine el false 9 ⟨bx,1,none⟩ (.int .i8 x.op) underlying30 (fun w hS => (hS.1.cell 1)) (bS HT HS) ?_;refine ef 10 ⟨bx,0,none⟩ ⟨bx,2,none⟩ (bS HT HS) ?_;refine el false 11 ⟨bx,2,none⟩ (.int .i8 x.width) underlying30 (fun w hS => (hS.1.cell 2)) (bS HT HS) ?_;refine em 12 (.pointer (some ⟨b,0,none⟩)) (bS HT HS) ?_;refine ef 13 ⟨bx,0,none⟩ ⟨bx,5,none⟩ (bS HT HS) ?_;refine el false 14 ⟨bx,5,none⟩ (.int .i8 x.dst) underlying30 (fun w hS => (hS.1.cell 5)) (bS HT HS) ?_;refine ez 15 ⟨b,0,none⟩ (bS HT HS) ?_;refine ef 16 ⟨b,0,none⟩ ⟨b,1,none⟩ (bS HT HS) ?_;refine ef 17 ⟨b,1,none⟩ ⟨b,1,none⟩ (bS HT HS) ?_;refine ej 18 (.pointer (some ⟨b,1,none⟩)) (.int .i8 x.dst) (.pointer (some ⟨b,1 + d,none⟩)) (zbW b HRD.out HD.out) (bS HT HS) ?_;refine el true 19 ⟨b,1 + d,none⟩ (.int .i64 (m.regs.getD d 0)) underlying3 (fun w hS => ((hS.2 rfl).2 d HD.out)) (bS HT HS) ?_;refine em 20 (.pointer (some ⟨b,0,none⟩)) (bS HT HS) ?_;refine eL false 21 ⟨bx,0,none⟩ x.cells (fun w hS => zak hS.1) underlying47 zlq (bS HT HS) ?_;refine ez 27 ⟨b,0,none⟩ (bS HT HS) ?_;refine ef 28 ⟨b,0,none⟩ ⟨b,1,none⟩ (bS HT HS) ?_;refine ef 29 ⟨b,1,none⟩ ⟨b,1,none⟩ (bS HT HS) ?_;refine ec 22 (HN.out _ _ _ HM.out.at_) ?_;rintro e wq ⟨rfl,_,Fq,Gq,hmq⟩;replace HM := Hd (HM.out.trans hmq)
 replace HT := Hd (HM.out.blk HB0.out HLOW.out).1
 replace HS := Hd (show MT b g m.regs wq from HRQ.out ▸ HM.out.at_.mt)
 clear hmq;refine ek (bS HT HS) ?_;refine ec 23 (HO.out _ _ HM.out.at_.pool (zto hb1 HM.out.size)) ?_;rintro e wq ⟨rfl,Fq,hpq⟩;replace HM := Hd (HM.out.trans (HM.out.at_.pg hpq))
 replace HT := Hd (HM.out.blk HB0.out HLOW.out).1
 replace HS := Hd (show MT b g m.regs wq from HRQ.out ▸ HM.out.at_.mt)
 clear hpq;refine ek (bS HT HS) ?_;refine eg 24 (.int .i64 rn) (bS HT HS) ?_;refine eg 25 (.int .i64 re) (bS HT HS) ?_;refine ec 26 (zde HM.out.at_ (rn) (re) HON.out) ?_;rintro e wq ⟨rfl,_,Fq,Gq,hmq⟩;replace HM := Hd (HM.out.trans hmq)
 replace HT := Hd (HM.out.blk HB0.out HLOW.out).1
 replace HS := Hd (show MT b g m.regs wq from HRQ.out ▸ HM.out.at_.mt)
 clear hmq;refine ek (bS HT HS) ?_;refine ej 30 (.pointer (some ⟨b,1,none⟩)) (.int .i8 x.dst) (.pointer (some ⟨b,1 + d,none⟩)) (zbW b HRD.out HD.out) (bS HT HS) ?_;obtain ⟨es,qe,hBs,_⟩ := HM.out.at_.box;have HM2 := Hd (HM.out.trans (HM.out.at_.setReg HD.out HON.out))
 refine zaN 31 (by kernel_rfl) (zar.store_at 31 3 _ _ ⟨b,1 + d,none⟩ (.int .i64 rn) _ rfl (by rfl) (by rfl) (by rfl) (zaE 3 b (1 + d) 114 _ _ hBs (by rw [zt3,zco HM.out.at_.len]; have := HD.out; omega) zrp rfl rfl) (.after (HM2.out.blk HB0.out HLOW.out).1 (by kernel_rfl)) ?_);clear hBs;simp only [pt,pn,sL];refine zab (by kernel_rfl) ?_ _;go_end0;rw [HNX.out];exact ⟨rfl,_,_,HG.out.trans HM2.out⟩
end
end
section
section
variable {base g b : Nat}{F G F1 G1 : Nat → Prop}{m : SM}{ex : ExD}{w : World}
theorem zcH {P : Program}{ops : Array Oper}{Q : Exit → Act → World → Prop}{md : Region.Mode}{T S : World → Prop}{late : List Nat}{fuel : Nat}{listed : Array Bool}{a : Act}{w : World}(i : Nat)(d : Option Tmp)(t : TypeId)(fs : Array (Nat × Operand))(vs : Array (Nat × Value))(v : Value)(ho : zc6 ops i = some (d,.build t fs))(hc : zbv md ops late listed i false = true)(hw : zaS ops i a = some true)
  (hQ : ∀ c a w,Q (.panic c) (a.put d v) w → Q (.panic c) a w) (hx : (fs.map fun (i,x) => (i,a.eval x)) = vs) (hr : ∀ w,(Instr.build t vs).run P w = .ok v w)
  (hS : St T S late listed w) (h : zas P md ops Q T S late fuel (listed.setIfInBounds i true) (a.put d v) w) : zas P md ops Q T S late (fuel + 1) listed a w :=
 zd8 false i d _ _ ho hc hw hQ (fun o e w _ => by
  unfold execOp;simp only [e,hx,Sem.run_bind,hr,Result.andThen_ok,Sem.run_pure]) hS h
theorem zfq {n : Int}(h : 0 ≤ n ∧ n < 128) : IntKind.i8.wrap n = n := by
 simp [IntKind.wrap,IntKind.bits,IntKind.signed];omega
theorem znO (h : MA base g b F G m ex w)(r off : Int) : WfP (m.place r off).1.p ∧ ∀ t ∈ (m.place r off).1.p.T,t.wf := by
 obtain ⟨h1,h2⟩ := zlo h off;obtain ⟨f,hf⟩ := zbV h1 h2 0 64 (m.reg r) (m.num off).2;have hg := zeO f h1 h2 hf;exact ⟨hg.wf,hg.rng⟩
theorem znP (h : MA base g b F G m ex w)(x : ID)(hx : x.wf)(hdst : 0 ≤ x.dst ∧ x.dst ≤ 10)(hsrc : 0 ≤ x.src ∧ x.src ≤ 10)(hsz : 1 ≤ x.size ∧ x.size ≤ 8)(hlt : m.evs.length < 64) : Calls prog 44 #[.pointer (some ⟨b,0,none⟩),.agg x.cells.toArray] w (zky base g b G ex w (m.load x)) := by
 have hb0 : base ≤ w.heap.size := zto (h.low b h.nb.2).1 (ztu h.lt);have hbl := ((Below.refl w.heap.size w).alloc (ztn _) (.cells x.cells.toArray 47));have HG := Hd (MG.of_below h hbl)
 have HB0 := Hd (show Blk (w.alloc (.cells x.cells.toArray 47)) w.heap.size 47 x.cells.toArray from Blk.new w 47 x.cells.toArray)
 have HLOW := Hd (fun (e : G w.heap.size) => by have := (h.low _ e).2; omega : ¬ G w.heap.size)
 obtain ⟨d1,hr1,hd1⟩ := I8.nat hsrc;obtain ⟨q,hq⟩ : ∃ q,m.place x.src x.off = q := ⟨_,rfl⟩;have HP := Hd (fun (W : World) (F G : Nat → Prop) (hW : MA base g b F G m ex W) => by have := zhE hW x.src x.off hr1 hd1 hx.2.2.2.2.2.2.1; rw [hq] at this; exact this)
 have HRQ := Hd (show q.1.regs = m.regs by rw [← hq]; rfl)
 have HEQ := Hd (show q.1.evs = m.evs by rw [← hq]; rfl)
 have hwr : IntKind.i8.wrap (8 * x.size) = 8 * x.size := zfq (by omega);obtain ⟨d,hr,hd⟩ := I8.nat hdst;obtain ⟨v,hv⟩ : ∃ v,q.1.next (8 * x.size) = v := ⟨_,rfl⟩
 have HV := Hd (fun (W : World) (F G : Nat → Prop) (hW : MA base g b F G q.1 ex W) => by have := zji hW (8 * x.size) (by unfold I8; omega); rw [hv] at this; exact this)
 have HRV := Hd (show v.1.regs = m.regs by rw [← hv]; exact HRQ.out)
 have HEV := Hd (show v.1.evs.length < 64 by rw [← hv]; show q.1.evs.length < 64; rw [HEQ.out]; exact hlt)
 have HNX := Hd (show m.load x = ⟨v.1.p,v.1.regs.set d v.2,v.1.evs ++ [⟨0,x.size,q.2,v.2,0,[]⟩],v.1.err⟩ by unfold SM.load; dsimp only; rw [hq,hv]; unfold SM.set SM.event; dsimp only; rw [hr,ztx])
 obtain ⟨mq,nq⟩ := q;obtain ⟨mv,nv⟩ := v;dsimp only at HP HRQ HV HRV HEV HNX;have HRD := Hd hr
 have HD := Hd hd
 have HX := Hd hx
 have HM := Hd (MG.refl HG.out.at_)
 clear h hx hdst hsrc hq hv hlt hd hd1 hr hr1 hb0 hbl HRQ HEQ;go_enter func44,ntmps44;go_upto_region 1 with fail
 generalize (w.alloc (.cells x.cells.toArray 47)) = Wd at HG HM HB0 ⊢;generalize w.heap.size = bx at HB0 HLOW ⊢;have b6 : Wd.cell? ⟨bx,6,none⟩ = some (.int .i8 x.src) := HB0.out.cell 6;have b7 : Wd.cell? ⟨bx,7,none⟩ = some (.int .i64 x.off) := HB0.out.cell 7;go_wp2_with fail
 refine (HP.out _ _ _ HM.out.at_).mono ?_;rintro e w1 ⟨rfl,hi1,F1,G1,hm1⟩;replace HM := Hd (HM.out.trans hm1)
 have HI1 := Hd hi1
 clear hm1 hi1 b6 b7;have b3 : w1.cell? ⟨bx,3,none⟩ = some (.int .i8 x.size) := (HM.out.blk HB0.out HLOW.out).1.cell 3;go_wp2_with fail
 refine (HV.out _ _ _ HM.out.at_).mono ?_;rintro e w2 ⟨rfl,hi2,F2,G2,hm2⟩;replace HM := Hd (HM.out.trans hm2)
 have HNI := Hd hi2
 clear hm2 hi2 b3;have b3 : w2.cell? ⟨bx,3,none⟩ = some (.int .i8 x.size) := (HM.out.blk HB0.out HLOW.out).1.cell 3;go_wp2_with fail
 refine (zfR HM.out.at_ ⟨0,x.size,nq,nv,0,[]⟩ (.slice none 0 0) rfl ⟨by unfold I8; dsimp only; omega,HX.out.2.2.2.1,HI1.out,HNI.out,zbF⟩ zbk.nil HEV.out).mono ?_;rintro e w3 ⟨rfl,F3,G3,hm3⟩;replace HM := Hd (HM.out.trans hm3)
 clear hm3 b3;go_wp2;refine zac (fun w' => Blk w' bx 47 x.cells.toArray) (fun _ => True) [8] (by kernel_rfl) ?_;replace HM := Hd (HM.out.step ((Below.refl _ _).drew))
 generalize w3.drew = w4 at HM ⊢;have HT := Hd (HM.out.blk HB0.out HLOW.out).1
 refine em 0 (.pointer (some ⟨b,0,none⟩)) (bT HT) ?_;refine ef 1 ⟨bx,0,none⟩ ⟨bx,5,none⟩ (bT HT) ?_;refine el false 2 ⟨bx,5,none⟩ (.int .i8 x.dst) underlying30 (fun w hS => (hS.1.cell 5)) (bT HT) ?_;refine em 3 (.int .i64 nv) (bT HT) ?_;refine ez 4 ⟨b,0,none⟩ (bT HT) ?_;refine ef 5 ⟨b,0,none⟩ ⟨b,1,none⟩ (bT HT) ?_;refine ef 6 ⟨b,1,none⟩ ⟨b,1,none⟩ (bT HT) ?_;refine ej 7 (.pointer (some ⟨b,1,none⟩)) (.int .i8 x.dst) (.pointer (some ⟨b,1 + d,none⟩)) (zbW b HRD.out HD.out) (bT HT) ?_;obtain ⟨es,qe,hBs,_⟩ := HM.out.at_.box;have HM2 := Hd (HM.out.trans (HM.out.at_.setReg HD.out HNI.out))
 refine zaN 8 (by kernel_rfl) (zar.store_at 8 3 _ _ ⟨b,1 + d,none⟩ (.int .i64 nv) _ rfl (by rfl) (by rfl) (by rfl) (zaE 3 b (1 + d) 114 _ _ hBs (by rw [zt3,zco HM.out.at_.len]; have := HD.out; omega) zrp rfl rfl) (.after (HM2.out.blk HB0.out HLOW.out).1 (by kernel_rfl)) ?_);clear hBs;simp only [pt,pn,sL];refine zab (by kernel_rfl) ?_ _;go_end0;rw [HNX.out];exact ⟨rfl,_,_,HG.out.trans HM2.out⟩
theorem zlr (h : MA base g b F G m ex w)(x : ID)(hx : x.wf)(hdst : 0 ≤ x.dst ∧ x.dst ≤ 10)(hsrc : 0 ≤ x.src ∧ x.src ≤ 10)(hsz : 1 ≤ x.size ∧ x.size ≤ 8)(hlt : m.evs.length < 64) : Calls prog 45 #[.pointer (some ⟨b,0,none⟩),.agg x.cells.toArray] w (zky base g b G ex w (m.store x)) := by
 have hb0 : base ≤ w.heap.size := zto (h.low b h.nb.2).1 (ztu h.lt);have hbl := ((Below.refl w.heap.size w).alloc (ztn _) (.cells x.cells.toArray 47));have HG := Hd (MG.of_below h hbl)
 have HB0 := Hd (show Blk (w.alloc (.cells x.cells.toArray 47)) w.heap.size 47 x.cells.toArray from Blk.new w 47 x.cells.toArray)
 have HLOW := Hd (fun (e : G w.heap.size) => by have := (h.low _ e).2; omega : ¬ G w.heap.size)
 obtain ⟨d1,hr1,hd1⟩ := I8.nat hdst;obtain ⟨q,hq⟩ : ∃ q,m.place x.dst x.off = q := ⟨_,rfl⟩;have HP := Hd (fun (W : World) (F G : Nat → Prop) (hW : MA base g b F G m ex W) => by have := zhE hW x.dst x.off hr1 hd1 hx.2.2.2.2.2.2.1; rw [hq] at this; exact this)
 have HRQ := Hd (show q.1.regs = m.regs by rw [← hq]; rfl)
 have HEQ := Hd (show q.1.evs = m.evs by rw [← hq]; rfl)
 have hwr : IntKind.i8.wrap (8 * x.size) = 8 * x.size := zfq (by omega);have hqw : WfP q.1.p ∧ ∀ t ∈ q.1.p.T,t.wf := by rw [← hq]; exact znO h x.dst x.off
 obtain ⟨d,hr,hd⟩ := I8.nat hsrc;have hri := h.reg_i64 hd;have hrr : m.reg x.src = m.regs.getD d 0 := by unfold SM.reg; rw [hr,ztx]
 obtain ⟨rs,hrs⟩ : ∃ r,zfl q.1.p (8 * x.size) (m.regs.getD d 0) = r := ⟨_,rfl⟩;have HO := Hd (fun (W : World) (F : Nat → Prop) (hW : zam W base F g q.1.p) (hb : base ≤ W.heap.size) => by have hf := zdq hW.wf (8 * x.size) (m.regs.getD d 0); rw [hrs] at hf; exact zoT _ (8 * x.size) (m.regs.getD d 0) hri rs hf W hW hb)
 have HON := Hd (show I64 rs.2.1 by rw [← hrs]; exact zh7 hqw.1 hqw.2 _ hri)
 have HEL := Hd (show q.1.evs.length < 64 by rw [HEQ.out]; exact hlt)
 have HNX := Hd (show m.store x = ⟨rs.1,q.1.regs,q.1.evs ++ [⟨1,x.size,q.2,rs.2.1,0,[]⟩],if q.1.err = 0 then rs.2.2 else q.1.err⟩ by unfold SM.store; dsimp only; rw [hq,hrr,hrs]; rfl)
 obtain ⟨mq,nq⟩ := q;obtain ⟨rp,rn,re⟩ := rs;dsimp only at HP HRQ HO HON HEL HNX;have HRD := Hd hr
 have HD := Hd hd
 have HX := Hd hx
 have HWR := Hd hwr
 have hb1 := zto hb0 HG.out.size;have HM := Hd (MG.refl HG.out.at_)
 clear h hx hdst hsrc hq hlt hd hd1 hr hr1 hb0 hbl HEQ hqw hrs hri hrr hwr;go_enter func45,ntmps45;go_upto_region 1 with fail
 generalize (w.alloc (.cells x.cells.toArray 47)) = Wd at HG HM HB0 hb1 ⊢;generalize w.heap.size = bx at HB0 HLOW ⊢;have b5 : Wd.cell? ⟨bx,5,none⟩ = some (.int .i8 x.dst) := HB0.out.cell 5;have b7 : Wd.cell? ⟨bx,7,none⟩ = some (.int .i64 x.off) := HB0.out.cell 7;go_wp2_with fail
 refine (HP.out _ _ _ HM.out.at_).mono ?_;rintro e w1 ⟨rfl,hi1,F1,G1,hm1⟩;replace HM := Hd (HM.out.trans hm1)
 have HI1 := Hd hi1
 clear hm1 hi1 b5 b7;go_wp2;refine zac (fun w' => Blk w' bx 47 x.cells.toArray) (MT b g m.regs) [] (by kernel_rfl) ?_;replace HM := Hd (HM.out.step ((Below.refl _ _).drew))
 generalize w1.drew = w2 at HM ⊢;have HT := Hd (HM.out.blk HB0.out HLOW.out).1
 have HS := Hd (show MT b g m.regs w2 from HRQ.out ▸ HM.out.at_.mt)
 refine em 0 (.pointer (some ⟨b,0,none⟩)) (bS HT HS) ?_;refine ef 1 ⟨bx,0,none⟩ ⟨bx,3,none⟩ (bS HT HS) ?_;refine el false 2 ⟨bx,3,none⟩ (.int .i8 x.size) underlying30 (fun w hS => (hS.1.cell 3)) (bS HT HS) ?_;refine em 3 (.int .i64 nq) (bS HT HS) ?_;refine em 4 (.pointer (some ⟨b,0,none⟩)) (bS HT HS) ?_;refine em 5 (.pointer (some ⟨b,0,none⟩)) (bS HT HS) ?_;refine ez 6 ⟨b,0,none⟩ (bS HT HS) ?_;refine ef 7 ⟨b,0,none⟩ ⟨b,0,none⟩ (bS HT HS) ?_;refine el true 8 ⟨b,0,none⟩ (.pointer (some ⟨g,0,none⟩)) underlying50 (fun w hS => (hS.2 rfl).1) (bS HT HS) ?_;refine ef 9 ⟨bx,0,none⟩ ⟨bx,3,none⟩ (bS HT HS) ?_;refine el false 10 ⟨bx,3,none⟩ (.int .i8 x.size) underlying30 (fun w hS => (hS.1.cell 3)) (bS HT HS) ?_;refine eb 11 (.int .i8 (8 * x.size)) rfl (fun o e w _ => by unfold execOp; simp only [e]; go_simp; rw [HWR.out]) (bS HT HS) ?_;refine em 12 (.pointer (some ⟨b,0,none⟩)) (bS HT HS) ?_;refine ef 13 ⟨bx,0,none⟩ ⟨bx,6,none⟩ (bS HT HS) ?_;refine el false 14 ⟨bx,6,none⟩ (.int .i8 x.src) underlying30 (fun w hS => (hS.1.cell 6)) (bS HT HS) ?_;refine ez 15 ⟨b,0,none⟩ (bS HT HS) ?_;refine ef 16 ⟨b,0,none⟩ ⟨b,1,none⟩ (bS HT HS) ?_;refine ef 17 ⟨b,1,none⟩ ⟨b,1,none⟩ (bS HT HS) ?_;refine ej 18 (.pointer (some ⟨b,1,none⟩)) (.int .i8 x.src) (.pointer (some ⟨b,1 + d,none⟩)) (zbW b HRD.out HD.out) (bS HT HS) ?_;refine el true 19 ⟨b,1 + d,none⟩ (.int .i64 (m.regs.getD d 0)) underlying3 (fun w hS => ((hS.2 rfl).2 d HD.out)) (bS HT HS) ?_;refine ec 20 (HO.out _ _ HM.out.at_.pool (zto hb1 HM.out.size)) ?_;rintro e wq ⟨rfl,Fq,hpq⟩;replace HM := Hd (HM.out.trans (HM.out.at_.pg hpq))
 replace HT := Hd (HM.out.blk HB0.out HLOW.out).1
 replace HS := Hd (show MT b g m.regs wq from HRQ.out ▸ HM.out.at_.mt)
 clear hpq;refine ek (bS HT HS) ?_;refine eg 21 (.int .i64 rn) (bS HT HS) ?_;refine eg 22 (.int .i64 re) (bS HT HS) ?_;refine ec 23 (zde HM.out.at_ (rn) (re) HON.out) ?_;rintro e wq ⟨rfl,_,Fq,Gq,hmq⟩;replace HM := Hd (HM.out.trans hmq)
 replace HT := Hd (HM.out.blk HB0.out HLOW.out).1
 replace HS := Hd (show MT b g m.regs wq from HRQ.out ▸ HM.out.at_.mt)
 clear hmq;refine ek (bS HT HS) ?_;refine zcH 24 (some 35) _ _ (#[(0,.int .i8 1),(1,.int .i8 x.size),(2,.int .i64 nq),(3,.int .i64 rn)]) (.agg (evC (⟨1,x.size,nq,rn,0,[]⟩,.slice none 0 0)).toArray) rfl (by kernel_rfl) (by rfl) (fun _ _ _ h => h) (by simp only [ztD,ztz,ztA]; rfl) (fun w => run_build w 72 _ _ (by kernel_rfl)) (bS HT HS) ?_;simp only [pt,pn,sL];refine ec 25 (zfR HM.out.at_ ⟨1,x.size,nq,rn,0,[]⟩ (.slice none 0 0) rfl ⟨by unfold I8; dsimp only; omega,HX.out.2.2.2.1,HI1.out,HON.out,zbF⟩ zbk.nil HEL.out) ?_;rintro e wq ⟨rfl,Fq,Gq,hmq⟩;replace HM := Hd (HM.out.trans hmq)
 replace HT := Hd (HM.out.blk HB0.out HLOW.out).1
 replace HS := Hd (show MT b g m.regs wq from HRQ.out ▸ HM.out.at_.mt)
 clear hmq;refine ek (bS HT HS) ?_;refine zab (by kernel_rfl) ?_ _;go_end0;rw [HNX.out];exact ⟨rfl,_,_,HG.out.trans HM.out⟩
end
end
section
section
variable {base g b : Nat}{F G F1 G1 : Nat → Prop}{m : SM}{ex : ExD}{w : World}
theorem zhF (h : DA base g b F G m ex w)(x : Int)(hx : I8 x) : Calls prog 87 #[.pointer (some ⟨b,0,none⟩),.int .i8 x] w (zso base g b G ex w (m.next x)) := by
 obtain ⟨A,c,c12,hev⟩ := h.evs;have hn := zj7 m.evs m.evs.length;have hfew := h.few;obtain ⟨n,hbn⟩ : ∃ n,zat m.evs = n := ⟨_,rfl⟩;have hn64 : n ≤ 64 := by
  rw [← hbn,show zat m.evs = brT m.evs m.evs.length by unfold brT; rw [List.take_length]];omega
 have hb0 : base ≤ w.heap.size := zto (h.low b h.nb.2).1 (ztu h.lt);obtain ⟨r,hr⟩ : ∃ r,putR m.p (zdJ (38 + 3 * (n : Int)) x) = r := ⟨_,rfl⟩;have HV := Hd (fun (W : World) (F : Nat → Prop) (hW : zaO W base F g m.p) (hb : base ≤ W.heap.size) => by have := zrY (38 + 3 * (n : Int)) x (by omega) (by omega) hx W hW hb; rw [hr] at this; exact this)
 have HRN := Hd (show I64 r.2.1 by rw [← hr]; exact zaY h.pool.wf _)
 have HNX := Hd (show m.next x = m.keep r by unfold SM.next; rw [hbn,hr])
 obtain ⟨rp,rn,re⟩ := r;dsimp only at HV HRN;have HM := Hd (DG.of_below h ((Below.refl _ _).drew))
 have HT := Hd (show MT b g m.regs w.drew from h.mt)
 have HS := Hd (show w.drew.cell? ⟨b,12,none⟩ = some (.slice A m.evs.length c) from c12)
 have HEV := Hd (show zbt w.drew (fun _ => False) (.slice A m.evs.length c) m.evs from hev)
 have HFEW := Hd hfew
 have HBN := Hd hbn
 clear h hev hbn c12 hx hn hfew hr;go_enter func87,ntmps87;go_wp2;refine zac (MT b g m.regs) (fun w' => w'.cell? ⟨b,12,none⟩ = some (.slice A m.evs.length c)) [10,14,17] (by kernel_rfl) ?_;generalize w.drew = Wd at HM HT HS HEV ⊢;refine em 0 (.pointer (some ⟨b,0,none⟩)) (bS HT HS) ?_;refine em 1 (.pointer (some ⟨b,0,none⟩)) (bS HT HS) ?_;refine ez 2 ⟨b,0,none⟩ (bS HT HS) ?_;refine ef 3 ⟨b,0,none⟩ ⟨b,0,none⟩ (bS HT HS) ?_;refine el false 4 ⟨b,0,none⟩ (.pointer (some ⟨g,0,none⟩)) underlying52 (fun w hS => hS.1.1) (bS HT HS) ?_;refine em 5 (.pointer (some ⟨b,0,none⟩)) (bS HT HS) ?_;refine ez 6 ⟨b,0,none⟩ (bS HT HS) ?_;refine ef 7 ⟨b,0,none⟩ ⟨b,1,none⟩ (bS HT HS) ?_;refine ef 8 ⟨b,1,none⟩ ⟨b,12,none⟩ (bS HT HS) ?_;refine el true 9 ⟨b,12,none⟩ (.slice A m.evs.length c) underlying61 (fun w hS => (hS.2 rfl)) (bS HT HS) ?_;refine em 13 (.int .i8 x) (bS HT HS) ?_;refine ec 10 (zix _ _ _ _ _ HEV.out HFEW.out) ?_;rintro e wq ⟨rfl,hbq⟩;replace HM := Hd (HM.out.step hbq)
 replace HT := Hd HM.out.at_.mt
 clear hbq HEV HS;refine ek (.after HT.out (by kernel_rfl)) ?_;rw [HBN.out];refine eb 11 (.int .i64 (3 * (n : Int))) rfl (fun o e w _ => by unfold execOp; simp only [e]; go_simp; rw [zea (by omega)]) (.after HT.out (by kernel_rfl)) ?_;refine eb 12 (.int .i64 (38 + 3 * (n : Int))) rfl (fun o e w _ => by unfold execOp; simp only [e]; go_simp; rw [zea (by omega)]) (.after HT.out (by kernel_rfl)) ?_;refine ec 14 (HV.out _ _ HM.out.at_.pool (zto hb0 HM.out.size)) ?_;rintro e wq ⟨rfl,Fq,hpq⟩;replace HM := Hd (HM.out.trans (HM.out.at_.pg hpq))
 replace HT := Hd HM.out.at_.mt
 clear hpq;refine ek (.after HT.out (by kernel_rfl)) ?_;refine eg 15 (.int .i64 rn) (.after HT.out (by kernel_rfl)) ?_;refine eg 16 (.int .i64 re) (.after HT.out (by kernel_rfl)) ?_;refine ec 17 (zcA HM.out.at_ (rn) (re) HRN.out) ?_;rintro e wq ⟨rfl,_,Fq,Gq,hmq⟩;replace HM := Hd (HM.out.trans hmq)
 replace HT := Hd HM.out.at_.mt
 clear hmq;refine ek (.after HT.out (by kernel_rfl)) ?_;refine eS 18 (.int .i64 (rn)) (.after HT.out (by kernel_rfl)) ?_;refine zab (by kernel_rfl) ?_ _;go_wp2;go_ret;rw [HNX.out];exact ⟨rfl,HRN.out,_,_,HM.out⟩
theorem zjk (h : DA base g b F G m ex w)(n : Int) : I64 (m.num n).2 := zaY h.pool.wf _
theorem ziy (h : DA base g b F G m ex w)(n : Int) : WfP (m.num n).1.p ∧ ∀ t ∈ (m.num n).1.p.T,t.wf := zb0 h.pool.wf h.pool.rng (zaP (wrap_u64 n))
theorem zgA (h : DA base g b F G m ex w)(r off : Int){d : Nat}(hr : r = (d : Int))(hd : d < 11)(ho : I64 off) : Calls prog 86 #[.pointer (some ⟨b,0,none⟩),.int .i8 r,.int .i64 off] w (zso base g b G ex w (m.place r off)) := by
 have hb0 : base ≤ w.heap.size := zto (h.low b h.nb.2).1 (ztu h.lt);have HRD := Hd hr
 have hri := h.reg_i64 hd;have hrr : m.reg r = m.regs.getD d 0 := by unfold SM.reg; rw [hr,ztx]
 clear hr;obtain ⟨q,hq⟩ : ∃ q,m.num off = q := ⟨_,rfl⟩;have HN := Hd (fun (W : World) (F G : Nat → Prop) (hW : DA base g b F G m ex W) => by have := zet hW (off) ho; rw [hq] at this; exact this)
 have hqw : WfP q.1.p ∧ ∀ t ∈ q.1.p.T,t.wf := by rw [← hq]; exact ziy h off
 have hqi : I64 q.2 := by rw [← hq]; exact zjk h off
 have HRQ := Hd (show q.1.regs = m.regs by rw [← hq]; rfl)
 obtain ⟨rs,hr⟩ : ∃ r,opV q.1.p 0 64 (m.regs.getD d 0) q.2 = r := ⟨_,rfl⟩;have HO := Hd (fun (W : World) (F : Nat → Prop) (hW : zaO W base F g q.1.p) (hb : base ≤ W.heap.size) => by obtain ⟨f,hf⟩ := zbV hW.wf hW.rng 0 64 (m.regs.getD d 0) q.2; rw [hr] at hf; exact ziP f 0 64 (m.regs.getD d 0) q.2 F q.1.p rs hf W hW hb)
 have HON := Hd (show I64 rs.2.1 by rw [← hr]; exact ze1 hqw.1 hqw.2 _ _ _ _)
 have HNX := Hd (show m.place r off = q.1.keep rs by unfold SM.place; rw [hq,hrr,hr])
 obtain ⟨mq,nq⟩ := q;obtain ⟨rp,rn,re⟩ := rs;dsimp only at HN HRQ HO HON;have HM := Hd (DG.of_below h ((Below.refl _ _).drew))
 have HT := Hd (show MT b g m.regs w.drew from h.mt)
 have HD := Hd hd
 clear h hd ho hq hr hqi hqw hri hrr;go_enter func86,ntmps86;go_wp2;refine zac (fun _ => True) (MT b g m.regs) [] (by kernel_rfl) ?_;generalize w.drew = Wd at HM HT ⊢;refine em 0 (.pointer (some ⟨b,0,none⟩)) (.both trivial HT.out) ?_;refine em 1 (.pointer (some ⟨b,0,none⟩)) (.both trivial HT.out) ?_;refine ez 2 ⟨b,0,none⟩ (.both trivial HT.out) ?_;refine ef 3 ⟨b,0,none⟩ ⟨b,0,none⟩ (.both trivial HT.out) ?_;refine el true 4 ⟨b,0,none⟩ (.pointer (some ⟨g,0,none⟩)) underlying52 (fun w hS => (hS.2 rfl).1) (.both trivial HT.out) ?_;refine em 5 (.pointer (some ⟨b,0,none⟩)) (.both trivial HT.out) ?_;refine em 6 (.int .i8 r) (.both trivial HT.out) ?_;refine ez 7 ⟨b,0,none⟩ (.both trivial HT.out) ?_;refine ef 8 ⟨b,0,none⟩ ⟨b,1,none⟩ (.both trivial HT.out) ?_;refine ef 9 ⟨b,1,none⟩ ⟨b,1,none⟩ (.both trivial HT.out) ?_;refine ej 10 (.pointer (some ⟨b,1,none⟩)) (.int .i8 r) (.pointer (some ⟨b,1 + d,none⟩)) (zbW b HRD.out HD.out) (.both trivial HT.out) ?_;refine el true 11 ⟨b,1 + d,none⟩ (.int .i64 (m.regs.getD d 0)) underlying3 (fun w hS => ((hS.2 rfl).2 d HD.out)) (.both trivial HT.out) ?_;refine em 12 (.pointer (some ⟨b,0,none⟩)) (.both trivial HT.out) ?_;refine em 13 (.int .i64 off) (.both trivial HT.out) ?_;refine ec 14 (HN.out _ _ _ HM.out.at_) ?_;rintro e wq ⟨rfl,_,Fq,Gq,hmq⟩;replace HM := Hd (HM.out.trans hmq)
 replace HT := Hd (show MT b g m.regs wq from HRQ.out ▸ HM.out.at_.mt)
 clear hmq;refine ek (.both trivial HT.out) ?_;refine ec 15 (HO.out _ _ HM.out.at_.pool (zto hb0 HM.out.size)) ?_;rintro e wq ⟨rfl,Fq,hpq⟩;replace HM := Hd (HM.out.trans (HM.out.at_.pg hpq))
 replace HT := Hd (show MT b g m.regs wq from HRQ.out ▸ HM.out.at_.mt)
 clear hpq;refine ek (.both trivial HT.out) ?_;refine eg 16 (.int .i64 rn) (.both trivial HT.out) ?_;refine eg 17 (.int .i64 re) (.both trivial HT.out) ?_;refine ec 18 (zcA HM.out.at_ (rn) (re) HON.out) ?_;rintro e wq ⟨rfl,_,Fq,Gq,hmq⟩;replace HM := Hd (HM.out.trans hmq)
 replace HT := Hd (show MT b g m.regs wq from HRQ.out ▸ HM.out.at_.mt)
 clear hmq;refine ek (.both trivial HT.out) ?_;refine eS 19 (.int .i64 (rn)) (.both trivial HT.out) ?_;refine zab (by kernel_rfl) ?_ _;go_wp2;go_ret;rw [HNX.out];exact ⟨rfl,HON.out,_,_,HM.out⟩
end
end
section
def zdF (rec : PS → Int → Int → Int → Option RS)(p : PS)(cc x a b : Int) : Option RS :=
 let s := atP p.T a
 let y := atP p.T b
 if (s.kind == 0 && y.kind == 0) = true then some (putR p (zaf (zcO (zaJ cc x s.n y.n))))
 else if (a == b && cc != 10) = true then some (putR p (zaf (zcO (zaJ cc x 0 0))))
 else if zbO cc = true then rec p (zc1 cc) b a
 else if zdr cc (s.kind == 0) (y.kind == 0) a b = true then rec p cc b a
 else some (putR p (zht cc x a b))
def zeM : Nat → PS → Int → Int → Int → Int → Option RS
 | 0,_,_,_,_,_ => none
 | f + 1,p,cc,x,a,b =>
  if (zal p.T a && zal p.T b) = false then some (p,0,2)
  else if zaW cc x = false then some (p,0,2)
  else if (zaj p x a b).2.2.2 = 0 then zdF (fun q o u v => zeM f q o x u v) (zaj p x a b).1 cc x (zaj p x a b).2.1 (zaj p x a b).2.2.1 else some ((zaj p x a b).1,0,(zaj p x a b).2.2.2)
theorem zcQ (f : Nat)(p : PS)(cc x a b : Int) : zeM (f + 1) p cc x a b = if (zal p.T a && zal p.T b) = false then some (p,0,2) else if zaW cc x = false then some (p,0,2) else if (zaj p x a b).2.2.2 = 0 then zdF (fun q o u v => zeM f q o x u v) (zaj p x a b).1 cc x (zaj p x a b).2.1 (zaj p x a b).2.2.1 else some ((zaj p x a b).1,0,(zaj p x a b).2.2.2) := rfl
theorem znQ (a b : Int) : (a == b) = (b == a) := by
 rw [Bool.eq_iff_iff,beq_iff_eq,beq_iff_eq];exact eq_comm
theorem zls {cc a b : Int}{lf rt : Bool}(h : zdr cc lf rt a b = true)(hn : (lf && rt) = false) : zdr cc rt lf b a = false := by
 unfold zdr at h ⊢;simp only [ztr] at h;rw [h.1,ztG]
 cases lf <;> cases rt <;> simp_all <;> omega
theorem zjl {x : Int} : ∀ (f : Nat) {p : PS} (hz : NZ p) (hw : WfP p) (hr : ∀ t ∈ p.T,t.wf) {cc a b : Int} {r : RS},zdg f p cc x a b = some r → ∃ f',zeM f' p cc x a b = some r
 | 0,_,_,_,_,_,_,_,_,h => by cases h
 | f + 1,p,hz,hw,hr,cc,a,b,r,h => by
  rw [zby] at h
  split at h
  ·rename_i hb
   exact ⟨1,by rw [zcQ,if_pos hb]; exact h⟩
  rename_i hb
  split at h
  ·rename_i hd
   exact ⟨1,by rw [zcQ,if_neg hb,if_pos hd]; exact h⟩
  rename_i hd
  split at h;rotate_left
  ·rename_i he
   exact ⟨1,by rw [zcQ,if_neg hb,if_neg hd,if_neg he]; exact h⟩
  rename_i he;have hab : zal p.T a = true ∧ zal p.T b = true := by simpa using hb
  have hI := zez hw hr (zap hw hab.1) (zap hw hab.2) x;have hw2 := zbK hw hr (zap hw hab.1) (zap hw hab.2) x;have hz2 := zeS (b := b) hz hw hr (zap hw hab.1) x;have hf := zbb hw hr hab.1 hab.2 he;have hxw := (za7 (by simpa using hd)).1;obtain ⟨p1,a1,b1,e1,hq⟩ : ∃ p1 a1 b1 e1,zaj p x a b = (p1,a1,b1,e1) := ⟨_,_,_,_,rfl⟩;rw [hq] at h he hI hw2 hz2 hf;dsimp only at h he hI hw2 hz2 hf;have key : ∀ g,zdF (fun q o u v => zeM g q o x u v) p1 cc x a1 b1 = some r → ∃ f',zeM f' p cc x a b = some r := fun g hg => ⟨g + 1,by rw [zcQ,if_neg hb,if_neg hd,hq]; dsimp only; rw [if_pos he]; exact hg⟩
  unfold zeh at h;dsimp only at h
  split at h
  ·rename_i k1
   exact key 0 (by unfold zdF; dsimp only; rw [if_pos k1]; exact h)
  rename_i k1
  split at h
  ·rename_i k2
   exact key 0 (by unfold zdF; dsimp only; rw [if_neg k1,if_pos k2]; exact h)
  rename_i k2
  split at h
  ·rename_i k3
   obtain ⟨g,hg⟩ := zjl f hz2 hw2.1 hw2.2 h;exact key g (by unfold zdF; dsimp only; rw [if_neg k1,if_neg k2,if_pos k3]; exact hg)
  rename_i k3
  split at h;rotate_left
  ·rename_i k4
   exact key 0 (by unfold zdF; dsimp only; rw [if_neg k1,if_neg k2,if_neg k3,if_neg k4]; exact h)
  rename_i k4;refine key 1 ?_;unfold zdF;dsimp only;rw [if_neg k1,if_neg k2,if_neg k3,if_pos k4,zcQ];have hid : zah p1 x a1 = (p1,a1,0) ∧ zah p1 x b1 = (p1,b1,0) := by
   unfold zaj at hq;obtain ⟨q1,n1,f1,ha1⟩ : ∃ q1 n1 f1,zah p x a = (q1,n1,f1) := ⟨_,_,_,rfl⟩;rw [ha1] at hq;dsimp only at hq
   split at hq;rotate_left
   ·rename_i hne
    injection hq with q1 q2
    injection q2 with q2 q3
    injection q3 with q3 q4
    exact absurd (q4.trans he) hne
   rename_i h1;obtain ⟨q2,n2,f2,hb1⟩ : ∃ q2 n2 f2,zah q1 x b = (q2,n2,f2) := ⟨_,_,_,rfl⟩;rw [hb1] at hq;dsimp only at hq;injection hq with e1 e2
   injection e2 with e2 e3
   injection e3 with e3 e4
   subst e1 e2 e3 e4;have x1 : Ext p q1 := by have := zaT p x a; rw [ha1] at this; exact this
   have x2 : Ext q1 q2 := by have := zaT q1 x b; rw [hb1] at this; exact this
   have ga := zcN (p := p) (q := q2) hw2.1 (x := x) (a := a) (by rw [ha1]; exact h1) hab.1 (x1.trans x2) (by rw [ha1]; exact x2);have gb := zcN (p := q1) (q := q2) hw2.1 (x := x) (a := b) (by rw [hb1]; exact he) (x1.has hab.2) x2 (by rw [hb1]; exact Ext.refl _);rw [ha1] at ga;rw [hb1] at gb;exact ⟨zdd hw2.1 hw2.2 hz2 hxw ((x1.trans x2).has hab.1) ga,zdd hw2.1 hw2.2 hz2 hxw ((x1.trans x2).has hab.2) gb⟩
  rw [if_neg (by rw [hf.1,hf.2.1]; simp),if_neg hd,zmM hid.2 hid.1];dsimp only;rw [if_pos rfl];unfold zdF;dsimp only;rw [if_neg (by rw [Bool.and_comm]; exact k1),if_neg (by rw [znQ b1 a1]; exact k2),if_neg k3,if_neg (by rw [zls k4 (by simpa using k1)]; simp)];exact h
def zpm (base g f : Nat) : Prop := ∀ (cc x a b : Int) (F : Nat → Prop) (p : PS) (r : RS) (hO : zeM f p cc x a b = some r) (W : World) (h : zaO W base F g p) (hbase : base ≤ W.heap.size),
 Calls prog 91 #[.pointer (some ⟨g,0,none⟩),.int .i8 cc,.int .i8 x,.int .i64 a,.int .i64 b] W (zc7 base g F W r)
section
variable {base g f : Nat}
theorem zhG (cc x a b : Int)(F : Nat → Prop)(p : PS)(w : World)(h : zaO w base F g p)(hbad : (zal p.T a && zal p.T b) = false ∨ zaW cc x = false) :
  Calls prog 91 #[.pointer (some ⟨g,0,none⟩),.int .i8 cc,.int .i8 x,.int .i64 a,.int .i64 b] w (zc7 base g F w (p,0,2)) := by
 have HP := Hd (RG.refl h)
 have HB := Hd hbad
 clear h hbad;go_enter func91,ntmps91
 cases hd : zaW cc x
 ·have HD := Hd hd
  clear hd;go_wp2_with fail
  refine (zmd 0 0 _ HD.out).mono ?_;rintro e w1 ⟨rfl,rfl⟩;go_wp2;go_ret2;exact zc7.same HP.out
 ·have HD := Hd hd
  have hh : (zal p.T a && zal p.T b) = false := HB.out.resolve_right (by rw [hd]; simp);have HH := Hd hh
  clear hd hh;go_wp2_with fail
  refine (zdn 0 0 zaA zaA _ HD.out).mono ?_;rintro e w1 ⟨rfl,rfl⟩;generalize zaJ cc x 0 0 = v00;go_wp2_with fail
  have hb0 : Below w.heap.size w (w.alloc (.cells #[.int .i64 a,.int .i64 b] 3)) := zav w _;refine (zcV [a,b] _ 2 2 _ (HP.out.pool.below hb0) (zbB w 3 [.int .i64 a,.int .i64 b] 2 rfl) rfl (ztn _) (by omega)).mono ?_;rintro e w2 ⟨rfl,hb⟩;have HP1 := Hd ((HP.out.step hb0).step hb)
  rw [show [a,b].all (zal p.T) = false by simpa using HH.out];clear hb hb0;go_wp2;go_ret2;exact zc7.same HP1.out
theorem zki (hIH : zpm base g f)(cc x a0 b0 : Int)(F : Nat → Prop)(p : PS)(r : RS)(w : World)(h : zaO w base F g p)(hbase : base ≤ w.heap.size)(hD : zaW cc x = true)(hH : (zal p.T a0 && zal p.T b0) = true)
  (hO : (if (zaj p x a0 b0).2.2.2 = 0 then zdF (fun q o u v => zeM f q o x u v) (zaj p x a0 b0).1 cc x (zaj p x a0 b0).2.1 (zaj p x a0 b0).2.2.1 else some ((zaj p x a0 b0).1,0,(zaj p x a0 b0).2.2.2)) = some r) :
  Calls prog 91 #[.pointer (some ⟨g,0,none⟩),.int .i8 cc,.int .i8 x,.int .i64 a0,.int .i64 b0] w (zc7 base g F w r) := by
 have hhab : zal p.T a0 = true ∧ zal p.T b0 = true := by simpa using hH
 obtain ⟨p1,a,e1,hop1⟩ : ∃ p1 a e1,zah p x a0 = (p1,a,e1) := ⟨_,_,_,rfl⟩;obtain ⟨p2,b,e2,hop2⟩ : ∃ p2 b e2,zah p1 x b0 = (p2,b,e2) := ⟨_,_,_,rfl⟩;have hbp : zaj p x a0 b0 = (if e1 = 0 then (p2,a,b,e2) else (p1,a,0,e1)) := by
  unfold zaj;rw [hop1];dsimp only;rw [hop2]
 have hO' : (if e1 = 0 then (if e2 = 0 then zdF (fun q o u v => zeM f q o x u v) p2 cc x a b else some (p2,0,e2)) else some (p1,0,e1)) = some r := by
  by_cases h1 : e1 = 0
  ·rw [if_pos h1] at hbp ⊢
   rw [hbp] at hO;exact hO
  ·rw [if_neg h1] at hbp ⊢
   rw [hbp] at hO;dsimp only at hO;rw [if_neg h1] at hO;exact hO
 clear hbp;have HFA := Hd (fun (k1 : e1 = 0) (k2 : e2 = 0) => by
  have e : zaj p x a0 b0 = (p2,a,b,e2) := by
   unfold zaj;rw [hop1];dsimp only;rw [hop2,if_pos k1]
  have hbf := zbb h.wf h.rng hhab.1 hhab.2 (x := x) (by rw [e]; exact k2);rw [e] at hbf;exact ⟨hbf.1,hbf.2.1⟩ : ∀ (k1 : e1 = 0) (k2 : e2 = 0),zal p2.T a = true ∧ zal p2.T b = true)
 have HOP1 := Hd hop1
 have HOP2 := Hd hop2
 have HO1 := Hd hO'
 have HIH := Hd hIH
 have HDO := Hd hD
 have HHA := Hd hH
 have HXW := Hd (za7 hD).1
 have HRO_ := Hd (za7 hD).2
 have HP := Hd (RG.refl h)
 clear hop1 hop2 hO hO' hIH hD hH h hhab;go_enter func91,ntmps91;go_wp2_with fail
 refine (zdn 0 0 zaA zaA _ HDO.out).mono ?_;rintro e w1 ⟨rfl,rfl⟩;generalize zaJ cc x 0 0 = v00;go_wp2_with fail
 have hb0 : Below w.heap.size w (w.alloc (.cells #[.int .i64 a0,.int .i64 b0] 3)) := zav w _;refine (zcV [a0,b0] _ 2 2 _ (HP.out.pool.below hb0) (zbB w 3 [.int .i64 a0,.int .i64 b0] 2 rfl) rfl (ztn _) (by omega)).mono ?_;rintro e w2 ⟨rfl,hb⟩;have HP1 := Hd ((HP.out.step hb0).step hb)
 rw [show [a0,b0].all (zal p.T) = true by simpa using HHA.out];clear hb hb0 HP;have hbs1 : base ≤ w2.heap.size := zto hbase HP1.out.size;go_wp2_with fail
 refine (zen x a0 HXW.out _ HP1.out.pool hbs1).mono ?_;rintro e w3 ⟨rfl,F1,hp⟩;rw [HOP1.out] at hp ⊢;have HP2 := Hd (HP1.out.trans hp)
 clear hp HP1;dsimp only at HP2 ⊢
 cases h1 : (e1 == 0)
 ·have hr := HO1.out
  rw [if_neg (by simpa using h1)] at hr;injection hr with hr
  subst hr;go_wp2;go_ret2;exact zc7.same HP2.out
 have hr := HO1.out;rw [if_pos (by simpa using h1)] at hr;have HO2 := Hd hr
 have HE1 := Hd (by simpa using h1 : e1 = 0)
 clear hr HO1;have hbs2 : base ≤ w3.heap.size := zto hbase HP2.out.size;go_wp2_with fail
 refine (zen x b0 HXW.out _ HP2.out.pool hbs2).mono ?_;rintro e w4 ⟨rfl,F2,hp⟩;rw [HOP2.out] at hp ⊢;have HP3 := Hd (HP2.out.trans hp)
 clear hp HP2;dsimp only at HP3 ⊢
 cases h2 : (e2 == 0)
 ·have hr := HO2.out
  rw [if_neg (by simpa using h2)] at hr;injection hr with hr
  subst hr;go_wp2;go_ret2;exact zc7.same HP3.out
 have hr := HO2.out;rw [if_pos (by simpa using h2)] at hr;have HO3 := Hd hr
 have HF := Hd (HFA.out HE1.out (by simpa using h2))
 clear hr HO2 HFA;obtain ⟨s,hs⟩ : ∃ s,atP p2.T a = s := ⟨_,rfl⟩;obtain ⟨y,hy⟩ : ∃ y,atP p2.T b = y := ⟨_,rfl⟩;have HS := Hd hs
 have HY := Hd hy
 clear hs hy;go_wp2_with fail
 refine (zia a _ HP3.out.pool).mono ?_;rintro e w5 ⟨rfl,hb⟩;have HP4 := Hd (HP3.out.step hb)
 clear hb HP3;rw [HS.out];go_wp2_with fail
 refine (zia b _ HP4.out.pool).mono ?_;rintro e w6 ⟨rfl,hb⟩;have HP5 := Hd (HP4.out.step hb)
 clear hb HP4;rw [HY.out];have NF := Hd (fun k (hk : w6.heap.size ≤ k) q => by have := (HP5.out.pool.fb k q).2; omega : ∀ k,w6.heap.size ≤ k → ¬ F2 k)
 have hal1 := zav w6 (.cells zbi.cells.toArray 147);have hal2 := zav (w6.alloc (.cells zbi.cells.toArray 147)) (.cells zbi.cells.toArray 147);have HA1 := Hd ((Blk.new w6 147 zbi.cells.toArray).below hal2 (by simp))
 have hA2 := Blk.new (w6.alloc (.cells zbi.cells.toArray 147)) 147 zbi.cells.toArray;simp only [World.size_alloc] at hA2;have HA2 := Hd hA2
 have HL := Hd (hal1.trans (hal2.mono hal1.size))
 clear hal1 hal2 hA2;have hov : ∀ t : TD,zaM zbi.cells 0 t.cells = t.cells := fun t => by unfold zaM; simp [TD.cells]
 have HOV := Hd hov
 clear hov;obtain ⟨bs,hbs⟩ : ∃ b,w6.heap.size = b := ⟨_,rfl⟩;have HBS := Hd hbs
 rw [hbs] at HA1 HA2;have tok1 := True.intro;have tok2 := True.intro;go_upto_region 11 with (first
  | (clear tok1
     refine zaa rfl 147 (.tmp 15) (.tmp 59) rfl bs 0 147 zbi.cells s.cells (zaw s) HA1.out (by rw [← HBS.out]; rfl) (by rfl) rfl zcL (by simp [TD.cells]) (TD.one _) ?_;intro w7 G7 L7 Z7;have HB1 := Hd (by have := G7; rw [HOV.out] at this; exact this : Blk w7 bs 147 s.cells.toArray)
     have HB2 := Hd (HA2.out.grown L7 (fun e => by injection e with e; omega))
     have HL2 := Hd (HL.out.grown L7 HL.out.size (fun q e => by injection e with e; have := HBS.out; omega))
     clear G7 L7 Z7)
  | (clear tok2
     refine zaa rfl 147 (.tmp 16) (.tmp 62) rfl (bs + 1) 0 147 zbi.cells y.cells (zaw y) HB2.out (by rw [← HBS.out]; rfl) (by rfl) rfl zcL (by simp [TD.cells]) (TD.one _) ?_;intro w8 G8 L8 Z8;have HC1 := Hd (HB1.out.grown L8 (fun e => by injection e with e; omega))
     have HC2 := Hd (by have := G8; rw [HOV.out] at this; exact this : Blk w8 (bs + 1) 147 y.cells.toArray)
     have HL3 := Hd (HL2.out.grown L8 HL2.out.size (fun q e => by injection e with e; have := HBS.out; omega))
     clear G8 L8 Z8)
  | fail)
 have HRO : Hid (RO base g F w F2 p2 s y bs (bs + 1) w8) := Hd ⟨HP5.out.step HL3.out,HC1.out,HC2.out,NF.out _ (by rw [HBS.out]; exact ztn _),NF.out _ (by rw [HBS.out]; omega)⟩
 clear HA1 HA2 HL HOV HB1 HB2 HL2 HC1 HC2 HL3 NF HP5;obtain ⟨by_,hby⟩ : ∃ b,bs + 1 = b := ⟨_,rfl⟩;rw [hby] at HRO;try simp only [HBS.out,hby]
 have hr := HO3.out;unfold zdF at hr;rw [HS.out,HY.out] at hr;dsimp only at hr;have HO4 := Hd hr
 clear hr;obtain ⟨lf,hlf⟩ : ∃ v,(s.kind == 0) = v := ⟨_,rfl⟩;obtain ⟨rt,hrt⟩ : ∃ v,(y.kind == 0) = v := ⟨_,rfl⟩;have HLF := Hd hlf
 have HRT := Hd hrt
 rw [hlf,hrt] at HO4;have s0 := HRO.out.one.cell 0;have y0 := HRO.out.two.cell 0;simp [TD.cells] at s0 y0;try simp only [pt,pn,sL]
 go_cut [70] from 63 to 70 (fun v wc => v = .bool (lf && rt) ∧ wc = w8)
 case first =>
  as_aux_lemma =>
   cases lf
   ·go_wp2
    go_meet
    case rel => exact ⟨rfl,rfl⟩
   ·cases rt
    all_goals
     go_wp2;go_meet
     case rel => exact ⟨rfl,rfl⟩
 case rest =>
  obtain ⟨rfl,rfl⟩ := hcut;clear hlf hrt;obtain ⟨bt,hbt⟩ : ∃ v,(lf && rt) = v := ⟨_,rfl⟩;have HBT := Hd hbt
  rw [hbt];rw [hbt] at HO4;clear hbt s0 y0
  cases bt;rotate_left
  ·have hr := HO4.out
   rw [if_pos rfl] at hr;injection hr with hr
   have HE := Hd hr
   have HSN := Hd (show U64 s.n from HS.out ▸ (zba HRO.out.pg.pool.rng a).2.2.2.1)
   have HYN := Hd (show U64 y.n from HY.out ▸ (zba HRO.out.pg.pool.rng b).2.2.2.1)
   clear hr;have s3 := HRO.out.one.cell 3;have y3 := HRO.out.two.cell 3;simp [TD.cells] at s3 y3;go_wp2_with fail
   refine (zdn s.n y.n HSN.out HYN.out _ HDO.out).mono ?_;rintro e w7 ⟨rfl,rfl⟩;obtain ⟨hv,hhv⟩ : ∃ h,zaJ cc x s.n y.n = h := ⟨_,rfl⟩;rw [hhv] at HE ⊢;clear hhv;go_wp2_with fail
   refine (zlC hv _).mono ?_;rintro e w7' ⟨rfl,rfl⟩;rw [show (if hv = true then (1 : Int) else 0) = zcO hv from rfl];have HFV := Hd (zb4 hv)
   generalize zcO hv = fv at HE HFV ⊢;go_wp2_with fail
   refine (zbZ fv HFV.out _ HRO.out.pg.pool (zto hbase HRO.out.pg.size)).mono ?_;rintro e w9 ⟨rfl,F3,hp⟩;have HPE := Hd (HRO.out.pg.trans hp)
   clear hp;go_wp2;go_ret2;rw [← HE.out];exact ⟨rfl,F3,HPE.out⟩
  have hr := HO4.out;rw [if_neg (by simp)] at hr;have HO5 := Hd hr
  clear hr HO4;go_upto_region 14 with fail
  go_cut [93] from 87 to 93 (fun v wd => v = .bool (a == b && cc != 10) ∧ wd = wc)
  case first =>
   as_aux_lemma =>
    cases hab : (a == b)
    ·go_wp2
     go_meet
     case rel => exact ⟨by rw [hab]; rfl,rfl⟩
    ·cases hcc : (cc != 10)
     all_goals
      go_wp2;go_meet
      case rel => exact ⟨by rw [hab,hcc]; rfl,rfl⟩
  case rest =>
   obtain ⟨rfl,rfl⟩ := hcut;obtain ⟨eb,heb⟩ : ∃ v,(a == b && cc != 10) = v := ⟨_,rfl⟩;rw [heb];rw [heb] at HO5;clear heb
   cases eb;rotate_left
   ·have hr := HO5.out
    rw [if_pos rfl] at hr;injection hr with hr
    have HE := Hd hr
    clear hr;go_wp2_with fail
    refine (zdn 0 0 zaA zaA _ HDO.out).mono ?_;rintro e w7 ⟨rfl,rfl⟩;obtain ⟨hv,hhv⟩ : ∃ h,zaJ cc x 0 0 = h := ⟨_,rfl⟩;rw [hhv] at HE ⊢;clear hhv;go_wp2_with fail
    refine (zlC hv _).mono ?_;rintro e w7' ⟨rfl,rfl⟩;rw [show (if hv = true then (1 : Int) else 0) = zcO hv from rfl];have HFV := Hd (zb4 hv)
    generalize zcO hv = fv at HE HFV ⊢;go_wp2_with fail
    refine (zbZ fv HFV.out _ HRO.out.pg.pool (zto hbase HRO.out.pg.size)).mono ?_;rintro e w9 ⟨rfl,F3,hp⟩;have HPE := Hd (HRO.out.pg.trans hp)
    clear hp;go_wp2;go_ret2;rw [← HE.out];exact ⟨rfl,F3,HPE.out⟩
   have hr := HO5.out;rw [if_neg (by simp)] at hr;have HO6 := Hd hr
   clear hr HO5
   cases h2 : (cc == 2);rotate_left
   ·obtain rfl : cc = 2 := by simpa using h2
    have HR1 := Hd (show zeM f p2 4 x b a = some r from HO6.out)
    go_wp2_with fail
    refine (HIH.out 4 x b a _ p2 r HR1.out _ HRO.out.pg.pool (zto hbase HRO.out.pg.size)).mono ?_;rintro e w7 ⟨rfl,F3,hp⟩;have HPE := Hd (HRO.out.pg.trans hp)
    clear hp;go_wp2;go_ret2;exact ⟨rfl,F3,HPE.out⟩
   cases h3 : (cc == 3);rotate_left
   ·obtain rfl : cc = 3 := by simpa using h3
    have HR1 := Hd (show zeM f p2 5 x b a = some r from HO6.out)
    go_wp2_with fail
    refine (HIH.out 5 x b a _ p2 r HR1.out _ HRO.out.pg.pool (zto hbase HRO.out.pg.size)).mono ?_;rintro e w7 ⟨rfl,F3,hp⟩;have HPE := Hd (HRO.out.pg.trans hp)
    clear hp;go_wp2;go_ret2;exact ⟨rfl,F3,HPE.out⟩
   cases h6 : (cc == 6);rotate_left
   ·obtain rfl : cc = 6 := by simpa using h6
    have HR1 := Hd (show zeM f p2 8 x b a = some r from HO6.out)
    go_wp2_with fail
    refine (HIH.out 8 x b a _ p2 r HR1.out _ HRO.out.pg.pool (zto hbase HRO.out.pg.size)).mono ?_;rintro e w7 ⟨rfl,F3,hp⟩;have HPE := Hd (HRO.out.pg.trans hp)
    clear hp;go_wp2;go_ret2;exact ⟨rfl,F3,HPE.out⟩
   cases h7 : (cc == 7);rotate_left
   ·obtain rfl : cc = 7 := by simpa using h7
    have HR1 := Hd (show zeM f p2 9 x b a = some r from HO6.out)
    go_wp2_with fail
    refine (HIH.out 9 x b a _ p2 r HR1.out _ HRO.out.pg.pool (zto hbase HRO.out.pg.size)).mono ?_;rintro e w7 ⟨rfl,F3,hp⟩;have HPE := Hd (HRO.out.pg.trans hp)
    clear hp;go_wp2;go_ret2;exact ⟨rfl,F3,HPE.out⟩
   have hr := HO6.out;rw [if_neg (by unfold zbO; rw [h2,h3,h6,h7]; simp)] at hr;have HO7 := Hd hr
   clear hr HO6;have s0 := HRO.out.one.cell 0;have y0 := HRO.out.two.cell 0;simp [TD.cells] at s0 y0;go_upto_region 26 with fail
   go_cut [167] from 143 to 167 (fun v wd => v = .bool (zdr cc lf rt a b) ∧ wd = wc)
   case first =>
    as_aux_lemma =>
     have kS := HLF.out;have kY := HRT.out
     cases c0 : (cc == 0);rotate_left
     ·cases lf
      ·cases rt
       ·have kY' : (y.kind != 0) = true := by unfold bne; rw [kY]; rfl
        go_wp2;go_meet
        case rel => exact ⟨by unfold zdr; simp [c0],rfl⟩
       ·have kY' : (y.kind != 0) = false := by unfold bne; rw [kY]; rfl
        go_wp2;go_meet
        case rel => exact ⟨by unfold zdr; simp [c0],rfl⟩
      ·go_wp2
       go_meet
       case rel => exact ⟨by unfold zdr; simp [c0],rfl⟩
     cases c1 : (cc == 1);rotate_left
     ·cases lf
      ·cases rt
       ·have kY' : (y.kind != 0) = true := by unfold bne; rw [kY]; rfl
        go_wp2;go_meet
        case rel => exact ⟨by unfold zdr; simp [c0,c1],rfl⟩
       ·have kY' : (y.kind != 0) = false := by unfold bne; rw [kY]; rfl
        go_wp2;go_meet
        case rel => exact ⟨by unfold zdr; simp [c0,c1],rfl⟩
      ·go_wp2
       go_meet
       case rel => exact ⟨by unfold zdr; simp [c0,c1],rfl⟩
     cases c10 : (cc == 10);rotate_left
     ·cases lf
      ·cases rt
       ·have kY' : (y.kind != 0) = true := by unfold bne; rw [kY]; rfl
        go_wp2;go_meet
        case rel => exact ⟨by unfold zdr; simp [c0,c1,c10],rfl⟩
       ·have kY' : (y.kind != 0) = false := by unfold bne; rw [kY]; rfl
        go_wp2;go_meet
        case rel => exact ⟨by unfold zdr; simp [c0,c1,c10],rfl⟩
      ·go_wp2
       go_meet
       case rel => exact ⟨by unfold zdr; simp [c0,c1,c10],rfl⟩
     ·go_wp2
      go_meet
      case rel => exact ⟨by unfold zdr; simp [c0,c1,c10],rfl⟩
   case rest =>
    obtain ⟨rfl,rfl⟩ := hcut;obtain ⟨sw,hsw⟩ : ∃ v,zdr cc lf rt a b = v := ⟨_,rfl⟩;rw [hsw];rw [hsw] at HO7;clear hsw
    cases sw;rotate_left
    ·have hr := HO7.out
     rw [if_pos rfl] at hr;have HR1 := Hd hr
     clear hr;go_wp2_with fail
     refine (HIH.out cc x b a _ p2 r HR1.out _ HRO.out.pg.pool (zto hbase HRO.out.pg.size)).mono ?_;rintro e w7 ⟨rfl,F3,hp⟩;have HPE := Hd (HRO.out.pg.trans hp)
     clear hp;go_wp2;go_ret2;exact ⟨rfl,F3,HPE.out⟩
    have hr := HO7.out;rw [if_neg (by simp)] at hr;injection hr with hr
    have HE := Hd hr
    have HTW := Hd (zdB (cc := cc) (x := x) (by have := HRO_.out; unfold I8; omega) (by have := HXW.out; unfold I8; omega) (zap HRO.out.pg.pool.wf HF.out.1) (zap HRO.out.pg.pool.wf HF.out.2))
    have qbo := fun w => ze2 cc x a b w
    clear hr HO7 HO3;go_wp2_with fail
    refine (zda _ HTW.out _ HRO.out.pg.pool (zto hbase HRO.out.pg.size)).mono ?_;rintro e w7 ⟨rfl,F3,hp⟩;have HPE := Hd (HRO.out.pg.trans hp)
    clear hp;go_wp2;go_ret2;rw [← HE.out];exact ⟨rfl,F3,HPE.out⟩
theorem zlt : ∀ f,zpm base g f := by
 intro f
 induction f with
 | zero => intro cc x a b F p r hO; cases hO
 | succ f ih =>
  intro cc x a b F p r hO W h hbase;rw [zcQ] at hO
  split at hO
  ·rename_i hb
   injection hO with hO
   rw [← hO];exact zhG cc x a b F p W h (.inl hb)
  ·rename_i hb
   split at hO
   ·rename_i hd
    injection hO with hO
    rw [← hO];exact zhG cc x a b F p W h (.inr hd)
   ·rename_i hd
    exact zki ih cc x a b F p r W h hbase (by simpa using hd) (by simpa using hb) hO
theorem zpn (f : Nat)(cc x a b : Int)(F : Nat → Prop)(p : PS)(r : RS)(hO : zdg f p cc x a b = some r)(hz : NZ p)(W : World)(h : zaO W base F g p)(hbase : base ≤ W.heap.size) :
  Calls prog 91 #[.pointer (some ⟨g,0,none⟩),.int .i8 cc,.int .i8 x,.int .i64 a,.int .i64 b] W (zc7 base g F W r) := by
 obtain ⟨f',hf⟩ := zjl f hz h.wf h.rng hO;exact zlt f' cc x a b F p r hf W h hbase
end
end
end Go.Proofs.YtepagfkkjlbipaaGreat
