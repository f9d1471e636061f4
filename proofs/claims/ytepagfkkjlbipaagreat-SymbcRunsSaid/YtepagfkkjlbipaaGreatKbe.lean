/-
  Parts of the proof of SymbcRuns. Conditions: those written in each statement.
-/
import Derived.Test.YtepagfkkjlbipaaGreatKbc
import Derived.Test.YtepagfkkjlbipaaGreatKbc
set_option linter.unusedVariables false
set_option linter.unusedSimpArgs false
set_option maxHeartbeats 64000000
set_option maxRecDepth 100000
namespace Go.Proofs.YtepagfkkjlbipaaGreat
open Go.RowKit
open Tryz
section
structure zsd (vs : List Int)(r : zqs)(q : VM)(x : ExD) : Prop where
 err : r.err = 0
 av : AV vs r.p
 regs : RV vs r.p r.regs q.regs
 evs : znI vs r.p r.evs q.evs
 kind : r.ex.kind = x.kind
 tgt : r.ex.tgt = x.tgt
 els : r.ex.els = x.els
 v : r.ex.kind ≠ 1 → evP r.p.T vs r.ex.v = some x.v
def qOf (vs rv : List Int)(l : List ID)(block : Int) : VM := zti vs ⟨rv,[],0⟩ (zef l (za2 l block))
def xOf (vs rv : List Int)(l : List ID)(block : Int) : ExD := zk2 (qOf vs rv l block) (l.getD ((za2 l block).upto - 1).toNat zc0) (za2 l block).next
section
variable {vs : List Int}(hU : ∀ v ∈ vs,U64 v)
include hU
theorem zqQ (hlen : 38 + 3 * 64 < vs.length){p : PS}{c : Int}{l : List ID}{block : Int}{regs rv : List Int}{k : Nat}(h : MI (SM.mk p regs [] 0) (k + 1950) 1)(hc : (zdj c l).2 = 0)(ha : zgr p l block regs = true)(hav : AV vs p)(hr : RV vs p regs rv) :
  zsd vs (zgn p c l block regs) (qOf vs rv l block) (xOf vs rv l block) := by
 obtain ⟨m,q,R⟩ := zfA h hc ha;obtain ⟨hm,hl⟩ := zi2 hc (x := za2 l block);have h1 : MI (SM.mk p regs [] 0) (k + 30 + 30 * (zef l (za2 l block)).length) 1 := ⟨h.rm.less (by omega),h.len,h.reg,h.err,h.vi⟩;have hb0 : zat (SM.mk p regs [] 0).evs = 0 := rfl;have V0 : MV vs (SM.mk p regs [] 0) ⟨rv,[],0⟩ := ⟨hav,hr,⟨rfl,fun i e f he => by cases he⟩,rfl⟩;have V := zpS hU hlen (zef l (za2 l block)) h1 (by omega) (by omega) (by rw [hb0]; omega) hm V0;have hq := R.eqm;unfold goV at hq;rw [hq] at V;obtain ⟨e1,e2,e3,e4,e5⟩ := zo4 hU (k := k) R.mi (by omega) (zhA hc (zi3 ha)) (za2 l block).next V
 rw [R.eqq] at e1 e2 e3 e4 e5;rw [R.run];refine ⟨rfl,e1,?_,?_,e2,e3,e4,e5⟩
 ·show RV vs q.1.p q.1.regs _
  rw [R.rgs];exact V.regs.up R.mi.rm.wf R.rm.wf R.exq
 ·show znI vs q.1.p q.1.evs _
  rw [R.evs];exact V.evs.up R.mi.rm.wf R.rm.wf R.exq
end
/-! ### the start, the entry -/
theorem zpQ {T : List TD}{n : Int}{i : Nat}{t : TD}(hn : n = (i : Int))(h : T[i]? = some t) : atP T n = t ∧ zal T n = true := by
 have hl := (ztt.1 h).1;subst hn;have hh : zal T (i : Int) = true := by unfold zal; simp; omega
 refine ⟨?_,hh⟩;unfold atP;rw [if_pos hh,ztx,zts,h]
 rfl
theorem zj1 {vs : List Int}{p : PS}(hw : WfP p)(h : ∀ t ∈ p.T,t.kind = 0 ∨ (t.kind = 1 ∧ t.n.toNat < vs.length)) : AV vs p := by
 intro n hn;obtain ⟨i,rfl,hi⟩ := zfW hn;rw [zds hw hn];unfold evT
 rcases h _ (ztv hi) with h0 | ⟨h1,h2⟩
 ·rw [if_neg (by omega),if_neg (by omega),if_neg (by omega),if_neg (by omega),if_neg (by omega)]
  exact ⟨_,rfl⟩
 ·rw [if_pos h1,ztq h2]
  exact ⟨_,rfl⟩
theorem zj2 {vs : List Int}(hl : 11 ≤ vs.length) : AV vs P0 ∧ RV vs P0 R0 (vs.take 11) := by
 refine ⟨zj1 zdi.1 fun t ht => .inr ⟨zi1 t ht,?_⟩,rfl,by rw [ztW]; omega,fun i hi => ?_⟩
 ·obtain ⟨i,hi⟩ := List.getElem?_of_mem ht
  have hlt := (ztt.1 hi).1;have hn : P0.T.length = 11 := rfl;have : t = zdJ (i : Int) 64 := by
   have e : P0.T[i]? = some (zdJ (i : Int) 64) := by
    show ((List.range 11).map (fun (i : Nat) => zdJ (i : Int) 64))[i]? = _
    rw [ztw,zug (by omega)]
    rfl
   rw [e] at hi;exact (Option.some.inj hi).symm
  rw [this];show (i : Int).toNat < _
  omega
 ·have hr : R0.getD i 0 = (i : Int) := by
   show ((List.range 11).map (fun (i : Nat) => (i : Int))).getD i 0 = _
   rw [zts,ztw,zug hi]
   rfl
  have e : P0.T[i]? = some (zdJ (i : Int) 64) := by
   show ((List.range 11).map (fun (i : Nat) => zdJ (i : Int) 64))[i]? = _
   rw [ztw,zug hi]
   rfl
  obtain ⟨h1,h2⟩ := zpQ hr e;rw [zds zdi.1 h2,h1];show (vs[(i : Int).toNat]?).map (zao 64) = _
  rw [ztx,ztq (by omega),zts,zud,if_pos hi,ztq (by omega)];show some (zao 64 vs[i]) = some vs[i]
  rw [zeg]
def PE : PS := ⟨[zaf 0,zaf 2097152,zaf 3145792],[1,1,1]⟩
def RE : List Int := [0,1,0,0,0,0,0,0,0,0,2]
def VE : List Int := [0,2097152,0,0,0,0,0,0,0,0,3145792]
structure Sides (vs : List Int)(x y : zqs) : Prop where
 err : x.err = y.err
 lim : x.err ≠ 260
 evs : x.evs.length = y.evs.length
 kind : x.ex.kind = y.ex.kind
 tgt : x.ex.tgt = y.ex.tgt
 els : x.ex.els = y.ex.els
 reg : x.err = 0 → ∀ i,i < 11 → ∃ v,evP x.p.T vs (x.regs.getD i 0) = some v ∧ evP y.p.T vs (y.regs.getD i 0) = some v
 ev : x.err = 0 → ∀ (i : Nat) e f,x.evs[i]? = some e → y.evs[i]? = some f → e.kind = f.kind ∧ e.size = f.size ∧ (e.kind ≠ 2 → ∃ v,evP x.p.T vs e.a = some v ∧ evP y.p.T vs f.a = some v)
end
section
section
variable {base g b : Nat}{F G F1 G1 : Nat → Prop}{m : SM}{ex : ExD}{w : World}
theorem znf (h : DA base g b F G m ex w)(x : ID)(hk : x.kind = 3 ∨ x.kind = 4 ∨ x.kind = 6) : Calls prog 50 #[.pointer (some ⟨b,0,none⟩),.agg x.cells.toArray] w (znC base g b G ex w m) := by
 have hbl := (Below.refl w.heap.size w).alloc (ztn _) (.cells x.cells.toArray 47);have HG := Hd (DG.of_below h hbl)
 have HB0 := Hd (show Blk (w.alloc (.cells x.cells.toArray 47)) w.heap.size 47 x.cells.toArray from Blk.new w 47 x.cells.toArray)
 obtain ⟨k,hkk⟩ : ∃ k,x.kind = k := ⟨_,rfl⟩;rw [hkk] at hk;have b0 : (w.alloc (.cells x.cells.toArray 47)).cell? ⟨w.heap.size,0,none⟩ = some (.int .i8 k) := by rw [← hkk]; exact HB0.out.cell 0
 clear h hbl hkk HB0
 rcases hk with rfl | rfl | rfl
 all_goals
  go_enter func50,ntmps50;go_wp2;go_end0;exact ⟨rfl,_,_,HG.out⟩
theorem zng (h : DA base g b F G m ex w)(x : ID)(hx : x.wf)(hm : ze8 x = true)(hlt : m.evs.length < 64)(he : m.err = 0) :
  Calls prog 50 #[.pointer (some ⟨b,0,none⟩),.agg x.cells.toArray] w (znC base g b G ex w (m.step x)) := by
 have M := zcC hm;have hk := M.kind;have hd := M.dst;have hs := M.src;have key : m.step x = if x.kind = 0 then m.alu x else if x.kind = 1 then m.load x else if x.kind = 2 then m.store x else if x.kind = 5 then m.call x else m := by
  unfold SM.step;rw [if_neg (by rw [he]; simp)]
 rw [key]
 by_cases k0 : x.kind = 0
 ·rw [if_pos k0]
  have := M.alu k0;exact znV h x k0 hx hd (fun _ => hs) (by omega)
 by_cases k1 : x.kind = 1
 ·rw [if_neg k0,if_pos k1]
  have := M.size (.inl k1);exact zly h x k1 hx hd hs (by omega) hlt
 by_cases k2 : x.kind = 2
 ·rw [if_neg k0,if_neg k1,if_pos k2]
  have := M.size (.inr k2);exact zkk h x k2 hx hd hs (by omega) hlt
 by_cases k5 : x.kind = 5
 ·rw [if_neg k0,if_neg k1,if_neg k2,if_pos k5]
  exact znt h x k5 hx hlt
 rw [if_neg k0,if_neg k1,if_neg k2,if_neg k5];exact znf h x (by omega)
end
end
section
section
variable {base g b : Nat}{F G F1 G1 : Nat → Prop}{m : SM}{ex : ExD}{w : World}
theorem zkY (h : DA base g b F G m ex w)(hz : NZ m.p)(x : ID) : NZ (m.second x).1.p := by
 unfold SM.second
 split
 ·exact hz
 ·split <;> exact hz.putR h.pool.wf (by show (0 : Int) ≠ 3; decide)
theorem zkZ (h : DA base g b F G m ex w)(x : ID)(hx : x.wf)(hk : x.kind = 3)(hdst : 0 ≤ x.dst ∧ x.dst ≤ 10)(hs : x.byReg = true → 0 ≤ x.src ∧ x.src ≤ 10)(hwd : -128 < x.width)(hnz : NZ m.p){An : Option Addr}{nn cn : Nat}{nx : List Int}(hn : zbk w G (.slice An nn cn) nx)(hnn : 1 < nn) : Calls prog 51 #[.pointer (some ⟨b,0,none⟩),.agg x.cells.toArray,.slice An nn cn] w (znC base g b G (m.dends x nx).2 w (m.dends x nx).1) := by
 have hb0 : base ≤ w.heap.size := zto (h.low b h.nb.2).1 (ztu h.lt);have hbl := (Below.refl w.heap.size w).alloc (ztn _) (.cells x.cells.toArray 47);have HG := Hd (DG.of_below h hbl)
 have HB0 := Hd (show Blk (w.alloc (.cells x.cells.toArray 47)) w.heap.size 47 x.cells.toArray from Blk.new w 47 x.cells.toArray)
 have HLOW := Hd (fun (e : G w.heap.size) => by have := (h.low _ e).2; omega : ¬ G w.heap.size)
 have HNF := Hd (hn.chg (G := G) (Chg.of_below hbl) (fun k q => .inr q) (fun k q => .inl q))
 obtain ⟨n0,hn0⟩ : ∃ n,nx.getD 0 0 = n := ⟨_,rfl⟩;obtain ⟨n1,hn1⟩ : ∃ n,nx.getD 1 0 = n := ⟨_,rfl⟩;obtain ⟨q,hq⟩ : ∃ q,m.second x = q := ⟨_,rfl⟩;have HN := Hd (fun (W : World) (F G : Nat → Prop) (hW : DA base g b F G m ex W) => by have := zfS hW x hx hs hwd; rw [hq] at this; exact this)
 have hqi : I64 q.2 := by rw [← hq]; exact zfK h hs
 have hqw : WfP q.1.p ∧ ∀ t ∈ q.1.p.T,t.wf := by rw [← hq]; exact zgB h x
 have HRQ := Hd (show q.1.regs = m.regs by rw [← hq]; exact zcW m x)
 have hqz : NZ q.1.p := by rw [← hq]; exact zkY h hnz x
 obtain ⟨d,hr,hd⟩ := I8.nat hdst;have hri := h.reg_i64 hd;have hrr : m.reg x.dst = m.regs.getD d 0 := by unfold SM.reg; rw [hr,ztx]
 obtain ⟨an,han⟩ : ∃ n,m.regs.getD d 0 = n := ⟨_,rfl⟩;rw [han] at hri hrr;obtain ⟨oc,hoc⟩ : ∃ k,x.op = k := ⟨_,rfl⟩;obtain ⟨a,ha⟩ : ∃ a,q.1.ask oc an q.2 = a := ⟨_,rfl⟩;have HNX := Hd (show m.dends x nx = (a.1,if n0 = n1 then ⟨1,0,n0,0⟩ else ⟨2,a.2,n0,n1⟩) by
  unfold SM.dends;rw [if_neg (by omega),if_pos hk];dsimp only;rw [hq,hrr,hn0,hn1,hoc,ha])
 obtain ⟨mq,nq⟩ := q;obtain ⟨ma,rn⟩ := a;dsimp only at HN HRQ HNX ha hqi hqw hqz;have HAS := Hd ha
 have HQF := Hd (ztp hqw (ztp hqz (ztp hqi hri)))
 obtain ⟨ad,hAn,_,hc0⟩ := HNF.out.at0 (k := 0) (by omega);subst hAn;rw [hn0] at hc0;obtain ⟨ad',hAn,_,hc1⟩ := HNF.out.at0 (k := 1) (by omega);injection hAn with hAn
 subst hAn;rw [hn1] at hc1;have HAB := Hd (HNF.out.far (by omega))
 have HNT := Hd (show NT ad n0 n1 (w.alloc (.cells x.cells.toArray 47)) from ⟨hc0,hc1⟩)
 have HM := Hd (DG.refl HG.out.at_)
 have HNN := Hd (ztp (show 0 < nn by omega) (show 1 < nn by omega))
 have HRD := Hd hr
 have HD := Hd hd
 have HAN := Hd han
 have HK := Hd hk
 have hb1 := zto hb0 HG.out.size;have HOC := Hd hoc
 clear h hk hb0 hbl hn hn0 hn1 hc0 hc1 HNF hoc hr hd hq hqi hqw hri hrr hx hs hwd hdst han hnz hqz ha;go_enter func51,ntmps51;go_upto_region 1 with fail
 generalize (w.alloc (.cells x.cells.toArray 47)) = Wd at HG HM HB0 HNT HAB hb1 ⊢;generalize w.heap.size = bx at HB0 HLOW ⊢;have b0 : Wd.cell? ⟨bx,0,none⟩ = some (.int .i8 3) := by rw [← HK.out]; exact HB0.out.cell 0
 go_upto_region 6 with fail
 clear b0;refine zac (fun w' => Blk w' bx 47 x.cells.toArray ∧ NT ad n0 n1 w') (MT b g m.regs) [] (by kernel_rfl) ?_;replace HM := Hd (HM.out.step ((Below.refl _ _).drew))
 generalize Wd.drew = Wf at HM ⊢;have HT := Hd (⟨(HM.out.blk HB0.out HLOW.out).1,HNT.out.chg HM.out.chg HAB.out.1 HAB.out.2⟩ : Blk Wf bx 47 x.cells.toArray ∧ NT ad n0 n1 Wf)
 have HS := Hd (show MT b g m.regs Wf from HM.out.at_.mt)
 refine em 0 (.pointer (some ⟨b,0,none⟩)) (bS HT HS) ?_;refine ef 1 ⟨bx,0,none⟩ ⟨bx,5,none⟩ (bS HT HS) ?_;refine el false 2 ⟨bx,5,none⟩ (.int .i8 x.dst) underlying30 (fun w hS => (hS.1.1.cell 5)) (bS HT HS) ?_;refine ez 3 ⟨b,0,none⟩ (bS HT HS) ?_;refine ef 4 ⟨b,0,none⟩ ⟨b,1,none⟩ (bS HT HS) ?_;refine ef 5 ⟨b,1,none⟩ ⟨b,1,none⟩ (bS HT HS) ?_;refine ej 6 (.pointer (some ⟨b,1,none⟩)) (.int .i8 x.dst) (.pointer (some ⟨b,1 + d,none⟩)) (zbW b HRD.out HD.out) (bS HT HS) ?_;refine el true 7 ⟨b,1 + d,none⟩ (.int .i64 (m.regs.getD d 0)) underlying3 (fun w hS => ((hS.2 rfl).2 d HD.out)) (bS HT HS) ?_;refine em 8 (.pointer (some ⟨b,0,none⟩)) (bS HT HS) ?_;refine eL false 9 ⟨bx,0,none⟩ x.cells (fun w hS => zak hS.1.1) underlying47 zlq (bS HT HS) ?_;refine ec 10 (HN.out _ _ _ HM.out.at_) ?_;rintro e wq ⟨rfl,_,Fq,Gq,hmq⟩;replace HM := Hd (HM.out.trans hmq)
 replace HT := Hd (⟨(HM.out.blk HB0.out HLOW.out).1,HNT.out.chg HM.out.chg HAB.out.1 HAB.out.2⟩ : Blk wq bx 47 x.cells.toArray ∧ NT ad n0 n1 wq)
 replace HS := Hd (show MT b g m.regs wq from HRQ.out ▸ HM.out.at_.mt)
 clear hmq;refine ek (bS HT HS) ?_;refine eS 11 (.int .i64 (m.regs.getD d 0)) (bS HT HS) ?_;refine eS 12 (.int .i64 nq) (bS HT HS) ?_;refine zab (by kernel_rfl) ?_ _;simp only [HAN.out];clear HT HS;have b1 : wq.cell? ⟨bx,1,none⟩ = some (.int .i8 oc) := by rw [← HOC.out]; exact (HM.out.blk HB0.out HLOW.out).1.cell 1
 go_upto_if 48 with fail
 go_cut [8,9] from 46 to 84 (fun v t wr => v = .int .i64 rn ∧ ∃ F' G',DG base g b G Wd F' G' ma ex wr)
 case first =>
  as_aux_lemma =>
   obtain ⟨hqw,hqz,hqi,hri⟩ := HQF.out
   by_cases ho : oc = 10
   ·have ho' : (oc == 10) = true := by simpa using ho
    obtain ⟨ts,hts⟩ : ∃ r,opV mq.p 5 64 an nq = r := ⟨_,rfl⟩;have HO := Hd (fun (W : World) (F : Nat → Prop) (hW : zaO W base F g mq.p) (hb : base ≤ W.heap.size) => by obtain ⟨f,hf⟩ := zbV hW.wf hW.rng 5 64 an nq; rw [hts] at hf; exact ziP f 5 64 an nq F mq.p ts hf W hW hb)
    have hti : I64 ts.2.1 := by rw [← hts]; exact ze1 hqw.1 hqw.2 _ _ _ _
    have htw : (WfP ts.1 ∧ ∀ t ∈ ts.1.T,t.wf) ∧ NZ ts.1 := by
     obtain ⟨f,hf⟩ := zbV hqw.1 hqw.2 5 64 an nq;have hg := zeO f hqw.1 hqw.2 hf;have hn := zkw f hqz hqw.1 hqw.2 hf;rw [hts] at hg hn;exact ⟨⟨hg.wf,hg.rng⟩,hn⟩
    have htz := htw.2;replace htw := htw.1;have HTI := Hd hti
    obtain ⟨z,hz⟩ : ∃ z,SM.num ⟨ts.1,mq.regs,mq.evs,if mq.err = 0 then ts.2.2 else mq.err⟩ 0 = z := ⟨_,rfl⟩;have HZ := Hd (fun (W : World) (F G : Nat → Prop) (hW : DA base g b F G ⟨ts.1,mq.regs,mq.evs,if mq.err = 0 then ts.2.2 else mq.err⟩ ex W) => by have := zet hW 0 zbF; rw [hz] at this; exact this)
    have hzi : I64 z.2 := by rw [← hz]; exact zaY htw.1 _
    have hzw : WfP z.1.p ∧ ∀ t ∈ z.1.p.T,t.wf := by rw [← hz]; exact zb0 htw.1 htw.2 (zaP (wrap_u64 0))
    have hzz : NZ z.1.p := by rw [← hz]; exact htz.putR htw.1 (by show (0 : Int) ≠ 3; decide)
    have HRZ := Hd (show z.1.regs = mq.regs by rw [← hz]; rfl)
    obtain ⟨rs,hrs⟩ : ∃ r,ze0 z.1.p 1 64 ts.2.1 z.2 = r := ⟨_,rfl⟩;have HC := Hd (fun (W : World) (F : Nat → Prop) (hW : zaO W base F g z.1.p) (hb : base ≤ W.heap.size) => by have hf := zct z.1.p 1 64 ts.2.1 z.2; rw [hrs] at hf; exact zpn 2 1 64 ts.2.1 z.2 F z.1.p rs hf hzz W hW hb)
    have HON := Hd (show I64 rs.2.1 by rw [← hrs]; exact zex hzw.1 hzw.2 _ _ hti hzi)
    have hav := HAS.out;unfold SM.ask at hav;rw [if_pos ho] at hav;dsimp only at hav;rw [hts] at hav;unfold SM.keep at hav;dsimp only at hav;rw [hz,hrs] at hav;injection hav with hav1 hav2
    subst hav1 hav2;obtain ⟨tp,tn,te⟩ := ts;obtain ⟨mz,nz⟩ := z;obtain ⟨rp,rn,re⟩ := rs;dsimp only at HO HTI HZ HRZ HC HON ⊢;obtain ⟨ev,hev⟩ : ∃ e,(if mz.err = 0 then re else mz.err) = e := ⟨_,rfl⟩;have HEV := Hd hev
    clear hev hts hti htw htz hz hzi hzw hzz hrs hqw hqz hqi hri;have c0 := HM.out.at_.cp;go_wp2_with fail
    refine (HO.out _ _ HM.out.at_.pool (zto hb1 HM.out.size)).mono ?_;rintro e wr ⟨rfl,Fq,hpq⟩;replace HM := Hd (HM.out.trans (HM.out.at_.pg hpq))
    clear hpq c0 b1;go_wp2_with fail
    refine (zcA HM.out.at_ tn te HTI.out).mono ?_;rintro e ws ⟨rfl,_,Fr,Gr,hmr⟩;replace HM := Hd (HM.out.trans hmr)
    clear hmr;go_upto_region 10 with fail
    refine zac (fun w' => Blk w' bx 47 x.cells.toArray ∧ NT ad n0 n1 w') (MT b g m.regs) [] (by kernel_rfl) ?_;replace HM := Hd (HM.out.step ((Below.refl _ _).drew))
    generalize World.drew _ = Wg at HM ⊢;have HT := Hd (⟨(HM.out.blk HB0.out HLOW.out).1,HNT.out.chg HM.out.chg HAB.out.1 HAB.out.2⟩ : Blk Wg bx 47 x.cells.toArray ∧ NT ad n0 n1 Wg)
    have HS := Hd (show MT b g m.regs Wg from HRQ.out ▸ HM.out.at_.mt)
    refine em 0 (.pointer (some ⟨b,0,none⟩)) (bS HT HS) ?_;refine em 1 (.pointer (some ⟨b,0,none⟩)) (bS HT HS) ?_;refine ez 2 ⟨b,0,none⟩ (bS HT HS) ?_;refine ef 3 ⟨b,0,none⟩ ⟨b,0,none⟩ (bS HT HS) ?_;refine el true 4 ⟨b,0,none⟩ (.pointer (some ⟨g,0,none⟩)) underlying52 (fun w hS => (hS.2 rfl).1) (bS HT HS) ?_;refine em 5 (.int .i64 tn) (bS HT HS) ?_;refine em 6 (.pointer (some ⟨b,0,none⟩)) (bS HT HS) ?_;refine ec 7 (HZ.out _ _ _ HM.out.at_) ?_;rintro e wq ⟨rfl,_,Fq,Gq,hmq⟩;replace HRQ := Hd (HRZ.out.trans HRQ.out)
    replace HM := Hd (HM.out.trans hmq)
    replace HT := Hd (⟨(HM.out.blk HB0.out HLOW.out).1,HNT.out.chg HM.out.chg HAB.out.1 HAB.out.2⟩ : Blk wq bx 47 x.cells.toArray ∧ NT ad n0 n1 wq)
    replace HS := Hd (show MT b g m.regs wq from HRQ.out ▸ HM.out.at_.mt)
    clear hmq;refine ek (bS HT HS) ?_;refine ec 8 (HC.out _ _ HM.out.at_.pool (zto hb1 HM.out.size)) ?_;rintro e wq ⟨rfl,Fq,hpq⟩;replace HM := Hd (HM.out.trans (HM.out.at_.pg hpq))
    replace HT := Hd (⟨(HM.out.blk HB0.out HLOW.out).1,HNT.out.chg HM.out.chg HAB.out.1 HAB.out.2⟩ : Blk wq bx 47 x.cells.toArray ∧ NT ad n0 n1 wq)
    replace HS := Hd (show MT b g m.regs wq from HRQ.out ▸ HM.out.at_.mt)
    clear hpq;refine ek (bS HT HS) ?_;refine eg 9 (.int .i64 rn) (bS HT HS) ?_;refine eg 10 (.int .i64 re) (bS HT HS) ?_;refine ec 11 (zcA HM.out.at_ rn re HON.out) ?_;rintro e wq ⟨rfl,_,Fq,Gq,hmq⟩;replace HM := Hd (HM.out.trans hmq)
    replace HT := Hd (⟨(HM.out.blk HB0.out HLOW.out).1,HNT.out.chg HM.out.chg HAB.out.1 HAB.out.2⟩ : Blk wq bx 47 x.cells.toArray ∧ NT ad n0 n1 wq)
    replace HS := Hd (show MT b g m.regs wq from HRQ.out ▸ HM.out.at_.mt)
    clear hmq;rw [HEV.out] at HM;refine ek (bS HT HS) ?_;refine eS 12 (.int .i64 rn) (bS HT HS) ?_;refine zab (by kernel_rfl) ?_ _;rw [← HEV.out] at HM;go_wp2;go_meet
    case rel => exact ⟨rfl,_,_,HM.out⟩
   ·have ho' : (oc == 10) = false := by simpa using ho
    obtain ⟨rs,hrs⟩ : ∃ r,ze0 mq.p oc 64 an nq = r := ⟨_,rfl⟩;have HC := Hd (fun (W : World) (F : Nat → Prop) (hW : zaO W base F g mq.p) (hb : base ≤ W.heap.size) => by have hf := zct mq.p oc 64 an nq; rw [hrs] at hf; exact zpn 2 oc 64 an nq F mq.p rs hf hqz W hW hb)
    have HON := Hd (show I64 rs.2.1 by rw [← hrs]; exact zex hqw.1 hqw.2 _ _ hri hqi)
    have hav := HAS.out;unfold SM.ask at hav;rw [if_neg ho] at hav;rw [hrs] at hav;unfold SM.keep at hav;injection hav with hav1 hav2
    subst hav1 hav2;obtain ⟨rp,rn,re⟩ := rs;dsimp only at HC HON ⊢;obtain ⟨ev,hev⟩ : ∃ e,(if mq.err = 0 then re else mq.err) = e := ⟨_,rfl⟩;have HEV := Hd hev
    rw [← HOC.out] at HC;clear hev hrs hqw hqz hqi hri;go_upto_region 11 with fail
    refine zac (fun w' => Blk w' bx 47 x.cells.toArray ∧ NT ad n0 n1 w') (MT b g m.regs) [] (by kernel_rfl) ?_;replace HM := Hd (HM.out.step ((Below.refl _ _).drew))
    generalize World.drew _ = Wg at HM ⊢;have HT := Hd (⟨(HM.out.blk HB0.out HLOW.out).1,HNT.out.chg HM.out.chg HAB.out.1 HAB.out.2⟩ : Blk Wg bx 47 x.cells.toArray ∧ NT ad n0 n1 Wg)
    have HS := Hd (show MT b g m.regs Wg from HRQ.out ▸ HM.out.at_.mt)
    refine em 0 (.pointer (some ⟨b,0,none⟩)) (bS HT HS) ?_;refine em 1 (.pointer (some ⟨b,0,none⟩)) (bS HT HS) ?_;refine ez 2 ⟨b,0,none⟩ (bS HT HS) ?_;refine ef 3 ⟨b,0,none⟩ ⟨b,0,none⟩ (bS HT HS) ?_;refine el true 4 ⟨b,0,none⟩ (.pointer (some ⟨g,0,none⟩)) underlying52 (fun w hS => (hS.2 rfl).1) (bS HT HS) ?_;refine ef 5 ⟨bx,0,none⟩ ⟨bx,1,none⟩ (bS HT HS) ?_;refine el false 6 ⟨bx,1,none⟩ (.int .i8 x.op) underlying30 (fun w hS => (hS.1.1.cell 1)) (bS HT HS) ?_;refine em 7 (.int .i64 an) (bS HT HS) ?_;refine em 8 (.int .i64 nq) (bS HT HS) ?_;refine ec 9 (HC.out _ _ HM.out.at_.pool (zto hb1 HM.out.size)) ?_;rintro e wq ⟨rfl,Fq,hpq⟩;replace HM := Hd (HM.out.trans (HM.out.at_.pg hpq))
    replace HT := Hd (⟨(HM.out.blk HB0.out HLOW.out).1,HNT.out.chg HM.out.chg HAB.out.1 HAB.out.2⟩ : Blk wq bx 47 x.cells.toArray ∧ NT ad n0 n1 wq)
    replace HS := Hd (show MT b g m.regs wq from HRQ.out ▸ HM.out.at_.mt)
    clear hpq;refine ek (bS HT HS) ?_;refine eg 10 (.int .i64 rn) (bS HT HS) ?_;refine eg 11 (.int .i64 re) (bS HT HS) ?_;refine ec 12 (zcA HM.out.at_ rn re HON.out) ?_;rintro e wq ⟨rfl,_,Fq,Gq,hmq⟩;replace HM := Hd (HM.out.trans hmq)
    replace HT := Hd (⟨(HM.out.blk HB0.out HLOW.out).1,HNT.out.chg HM.out.chg HAB.out.1 HAB.out.2⟩ : Blk wq bx 47 x.cells.toArray ∧ NT ad n0 n1 wq)
    replace HS := Hd (show MT b g m.regs wq from HRQ.out ▸ HM.out.at_.mt)
    clear hmq;rw [HEV.out] at HM;refine ek (bS HT HS) ?_;refine eS 13 (.int .i64 rn) (bS HT HS) ?_;refine zab (by kernel_rfl) ?_ _;rw [← HEV.out] at HM;go_wp2;go_meet
    case rel => exact ⟨rfl,_,_,HM.out⟩
 case rest =>
  rename World => wu
  obtain ⟨rfl,F',G',hm⟩ := hcut;clear HM HRQ HN HAS HQF b1;have HM := Hd hm
  clear hm;go_upto_region 12 with fail
  refine zac (fun w' => NT ad n0 n1 w') (fun _ => True) [12] (by kernel_rfl) ?_;replace HM := Hd (HM.out.step ((Below.refl _ _).drew))
  generalize World.drew _ = wv at HM ⊢;have HT := Hd (HNT.out.chg HM.out.chg HAB.out.1 HAB.out.2 : NT ad n0 n1 wv)
  refine em 0 (.pointer (some ⟨b,0,none⟩)) (bT HT) ?_;refine em 1 (.int .i64 rn) (bT HT) ?_;refine em 2 (.slice (some ad) nn cn) (bT HT) ?_;refine ej 3 (.slice (some ad) nn cn) (.int .i64 0) (.pointer (some (ad.add 0))) (zbJ (k := 0) rfl HNN.out.1) (bT HT) ?_;refine el false 4 (ad.add 0) (.int .i64 n0) underlying3 (fun w hS => hS.1.1) (bT HT) ?_;refine em 5 (.slice (some ad) nn cn) (bT HT) ?_;refine ej 6 (.slice (some ad) nn cn) (.int .i64 1) (.pointer (some (ad.add 1))) (zbJ (k := 1) rfl HNN.out.2) (bT HT) ?_;refine el false 7 (ad.add 1) (.int .i64 n1) underlying3 (fun w hS => hS.1.2) (bT HT) ?_;refine zcH 8 (some 93) _ _ (#[(0,.int .i8 2),(1,.int .i64 rn),(2,.int .i64 n0),(3,.int .i64 n1)]) (.agg (exC ⟨2,rn,n0,n1⟩).toArray) rfl (by kernel_rfl) (by rfl) (fun _ _ _ h => h) (by simp only [ztD,ztz,ztA] <;> rfl) (zg5 rn n0 n1) (bT HT) ?_;simp only [pt,pn,sL];refine ez 9 ⟨b,0,none⟩ (bT HT) ?_;refine ef 10 ⟨b,0,none⟩ ⟨b,1,none⟩ (bT HT) ?_;refine ef 11 ⟨b,1,none⟩ ⟨b,13,none⟩ (bT HT) ?_;obtain ⟨es,qe,hBs,_⟩ := HM.out.at_.box;have HMQ := Hd (HM.out.trans (HM.out.at_.exit2 hBs ⟨2,rn,n0,n1⟩ (setRow_heap wv b _ _ 120 (0,0) hBs) (zaD wv b _)))
  refine zaN 12 (by kernel_rfl) (zar.store_at 12 63 _ _ ⟨b,13,none⟩ (.agg (exC ⟨2,rn,n0,n1⟩).toArray) _ rfl (by rfl) (by rfl) (by rfl) (zaX wv b 13 120 63 _ (exC ⟨2,rn,n0,n1⟩) _ hBs rfl znS (by rw [zco HM.out.at_.len]; simp [exC]) (zdv _)) (.after (HNT.out.chg HMQ.out.chg HAB.out.1 HAB.out.2) (by kernel_rfl)) ?_);simp only [pt,pn,sL];refine zab (by kernel_rfl) ?_ _;clear HT HMQ;generalize hwx : World.setRow _ _ _ = wx;have HMQ := Hd (HM.out.trans (HM.out.at_.exit2 (w' := wx) hBs ⟨2,rn,n0,n1⟩ (by rw [← hwx]; exact setRow_heap wv b _ _ 120 (0,0) hBs) (by rw [← hwx]; exact zaD wv b _)))
  clear hBs hwx HM;go_upto_region 13 with fail
  refine zac (fun w' => NT ad n0 n1 w') (fun _ => True) [] (by kernel_rfl) ?_;have HT := Hd (show NT ad n0 n1 wx.drew from HNT.out.chg (HMQ.out.step ((Below.refl _ _).drew)).chg HAB.out.1 HAB.out.2)
  replace HMQ := Hd (HMQ.out.step ((Below.refl _ _).drew))
  generalize wx.drew = wy at HMQ HT ⊢
  cases he : (n0 == n1)
  ·skip
   refine em 0 (.slice (some ad) nn cn) (bT HT) ?_;refine ej 1 (.slice (some ad) nn cn) (.int .i64 0) (.pointer (some (ad.add 0))) (zbJ (k := 0) rfl HNN.out.1) (bT HT) ?_;refine el false 2 (ad.add 0) (.int .i64 n0) underlying3 (fun w hS => hS.1.1) (bT HT) ?_;refine em 3 (.slice (some ad) nn cn) (bT HT) ?_;refine ej 4 (.slice (some ad) nn cn) (.int .i64 1) (.pointer (some (ad.add 1))) (zbJ (k := 1) rfl HNN.out.2) (bT HT) ?_;refine el false 5 (ad.add 1) (.int .i64 n1) underlying3 (fun w hS => hS.1.2) (bT HT) ?_;refine eg 6 (.bool false) (bT HT) ?_;refine zab (by kernel_rfl) ?_ _;go_wp2;go_end0;rw [HNX.out,if_neg (by simpa using he)];exact ⟨rfl,_,_,HG.out.trans HMQ.out⟩
  ·skip
   refine em 0 (.slice (some ad) nn cn) (bT HT) ?_;refine ej 1 (.slice (some ad) nn cn) (.int .i64 0) (.pointer (some (ad.add 0))) (zbJ (k := 0) rfl HNN.out.1) (bT HT) ?_;refine el false 2 (ad.add 0) (.int .i64 n0) underlying3 (fun w hS => hS.1.1) (bT HT) ?_;refine em 3 (.slice (some ad) nn cn) (bT HT) ?_;refine ej 4 (.slice (some ad) nn cn) (.int .i64 1) (.pointer (some (ad.add 1))) (zbJ (k := 1) rfl HNN.out.2) (bT HT) ?_;refine el false 5 (ad.add 1) (.int .i64 n1) underlying3 (fun w hS => hS.1.2) (bT HT) ?_;refine eg 6 (.bool true) (bT HT) ?_;refine zab (by kernel_rfl) ?_ _;have c0 : wy.cell? ad = some (.int .i64 n0) := HT.out.1;have HM := Hd HMQ.out
   clear HT;have qb := fun (W : World) => zd0 n0 W
   obtain ⟨es,qe,hBs,_⟩ := HM.out.at_.box;have HBS := Hd hBs
   have HLN := Hd HM.out.at_.len
   clear hBs HMQ;go_wp2_with (first
    | (refine zaa rfl 63 (.tmp 111) (.tmp 108) rfl b 13 120 _ (exC ⟨1,0,n0,0⟩) (.agg (exC ⟨1,0,n0,0⟩).toArray) HBS.out (by rfl) (by rfl) rfl znS (by rw [zco HLN.out]; simp [exC]) (zdv _) ?_
       intro wz hBq hgq hsq;have HMZ := Hd (HM.out.trans (HM.out.at_.exit2 HBS.out ⟨1,0,n0,0⟩ hBq hgq))
       clear hBq hgq hsq)
    | fail)
   go_end0;rw [HNX.out,if_pos (by simpa using he)];exact ⟨rfl,_,_,HG.out.trans HMZ.out⟩
end
end
end Go.Proofs.YtepagfkkjlbipaaGreat
