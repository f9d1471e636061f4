/-
  Parts of the proof of SymbcRuns. Conditions: those written in each statement.
-/
import Derived.Test.YtepagfkkjlbipaaGreatKaz
set_option linter.unusedVariables false
set_option linter.unusedSimpArgs false
set_option maxHeartbeats 64000000
set_option maxRecDepth 100000
namespace Go.Proofs.YtepagfkkjlbipaaGreat
open Go.RowKit
open Tryz
section
section
variable {base g b : Nat}{F G F1 G1 : Nat → Prop}{m : SM}{ex : ExD}{w : World}
theorem zg5 (n n0 n1 : Int)(w : World) : (Instr.build 63 #[(0,.int .i8 2),(1,.int .i64 n),(2,.int .i64 n0),(3,.int .i64 n1)]).run prog w = .ok (.agg (exC ⟨2,n,n0,n1⟩).toArray) w := run_build w 63 _ _ (by kernel_rfl)
theorem NT.chg {w' : World}{ad : Addr}{n0 n1 : Int}(h : NT ad n0 n1 w)(hc : Chg G w w')(hb : ad.block < w.heap.size)(hg : ¬ G ad.block) : NT ad n0 n1 w' :=
 ⟨(World.cell?_of_block (by rw [zaz]; exact hc.block _ hb hg)).trans h.1,(World.cell?_of_block (by rw [zaz]; exact hc.block _ hb hg)).trans h.2⟩
theorem zbk.far {nn cn : Nat}{ad : Addr}{nx : List Int}(h : zbk w G (.slice (some ad) nn cn) nx)(hn : 0 < nn) : ad.block < w.heap.size ∧ ¬ G ad.block := by
 obtain ⟨A',c',h1,h2,h3,h4,h5⟩ := h;injection h1 with h0 h1 hc
 subst h0 h1 hc;obtain ⟨ad',e,hb,hf,_⟩ := h3.2 hn;injection e with e
 subst e;exact ⟨hb,hf⟩
theorem zp2 (h : MA base g b F G m ex w)(x : ID)(hx : x.wf)(hk : x.kind = 3)(ho : x.op ≠ 10)(hdst : 0 ≤ x.dst ∧ x.dst ≤ 10)(hs : x.byReg = true → 0 ≤ x.src ∧ x.src ≤ 10)(hwd : -128 < x.width){An : Option Addr}{nn cn : Nat}{nx : List Int}(hn : zbk w G (.slice An nn cn) nx)(hnn : 1 < nn)(he : nx.getD 0 0 ≠ nx.getD 1 0) : Calls prog 48 #[.pointer (some ⟨b,0,none⟩),.agg x.cells.toArray,.slice An nn cn] w (zky base g b G (m.ends x nx).2 w (m.ends x nx).1) := by
 have hb0 : base ≤ w.heap.size := zto (h.low b h.nb.2).1 (ztu h.lt);have hbl := (Below.refl w.heap.size w).alloc (ztn _) (.cells x.cells.toArray 47);have HG := Hd (MG.of_below h hbl)
 have HB0 := Hd (show Blk (w.alloc (.cells x.cells.toArray 47)) w.heap.size 47 x.cells.toArray from Blk.new w 47 x.cells.toArray)
 have HLOW := Hd (fun (e : G w.heap.size) => by have := (h.low _ e).2; omega : ¬ G w.heap.size)
 have HNF := Hd (hn.chg (G := G) (Chg.of_below hbl) (fun k q => .inr q) (fun k q => .inl q))
 obtain ⟨n0,hn0⟩ : ∃ n,nx.getD 0 0 = n := ⟨_,rfl⟩;obtain ⟨n1,hn1⟩ : ∃ n,nx.getD 1 0 = n := ⟨_,rfl⟩;obtain ⟨q,hq⟩ : ∃ q,m.second x = q := ⟨_,rfl⟩;have HN := Hd (fun (W : World) (F G : Nat → Prop) (hW : MA base g b F G m ex W) => by have := zeK hW x hx hs hwd; rw [hq] at this; exact this)
 have hqi : I64 q.2 := by rw [← hq]; exact zeL h hs
 have hqw : WfP q.1.p ∧ ∀ t ∈ q.1.p.T,t.wf := by rw [← hq]; exact zfJ h x
 have HRQ := Hd (show q.1.regs = m.regs by rw [← hq]; exact zcW m x)
 obtain ⟨d,hr,hd⟩ := I8.nat hdst;have hri := h.reg_i64 hd;have hrr : m.reg x.dst = m.regs.getD d 0 := by unfold SM.reg; rw [hr,ztx]
 obtain ⟨an,han⟩ : ∃ n,m.regs.getD d 0 = n := ⟨_,rfl⟩;rw [han] at hri hrr;obtain ⟨rs,hrs⟩ : ∃ r,ze0 q.1.p x.op 64 an q.2 = r := ⟨_,rfl⟩;have HC := Hd (fun (W : World) (F : Nat → Prop) (hW : zam W base F g q.1.p) (hb : base ≤ W.heap.size) => by have hf := zct q.1.p x.op 64 an q.2; rw [hrs] at hf; exact zjV 2 x.op 64 an q.2 hri hqi F q.1.p rs hf W hW hb)
 have HON := Hd (show I64 rs.2.1 by rw [← hrs]; exact zex hqw.1 hqw.2 _ _ hri hqi)
 have HNX := Hd (show m.ends x nx = (⟨rs.1,q.1.regs,q.1.evs,if q.1.err = 0 then rs.2.2 else q.1.err⟩,⟨2,rs.2.1,n0,n1⟩) by
  unfold SM.ends;rw [if_neg (by omega),if_pos ⟨hk,he⟩];dsimp only;rw [hq,hrr,hn0,hn1];unfold SM.ask;rw [if_neg ho,hrs]
  rfl)
 obtain ⟨mq,nq⟩ := q;obtain ⟨rp,rn,re⟩ := rs;dsimp only at HN HRQ HC HON HNX;obtain ⟨ev,hev⟩ : ∃ e,(if mq.err = 0 then re else mq.err) = e := ⟨_,rfl⟩;rw [hev] at HNX;have HEV := Hd hev
 clear hev;obtain ⟨ad,hAn,_,hc0⟩ := HNF.out.at0 (k := 0) (by omega);subst hAn;rw [hn0] at hc0;obtain ⟨ad',hAn,_,hc1⟩ := HNF.out.at0 (k := 1) (by omega);injection hAn with hAn
 subst hAn;rw [hn1] at hc1;have hne : (n0 != n1) = true := by rw [← hn0,← hn1]; simpa using he
 have hk6' : (x.kind == 6) = false := by rw [hk]; rfl
 have hk3' : (x.kind == 3) = true := by rw [hk]; rfl
 have ho' : (x.op == 10) = false := by simpa using ho
 have HAB := Hd (HNF.out.far (by omega))
 have HNT := Hd (show NT ad n0 n1 (w.alloc (.cells x.cells.toArray 47)) from ⟨hc0,hc1⟩)
 have HM := Hd (MG.refl HG.out.at_)
 have HNN := Hd (ztp (show 0 < nn by omega) (show 1 < nn by omega))
 have HRD := Hd hr
 have HD := Hd hd
 have HAN := Hd han
 have hb1 := zto hb0 HG.out.size;obtain ⟨kd,hkd⟩ : ∃ k,x.kind = k := ⟨_,rfl⟩;obtain ⟨oc,hoc⟩ : ∃ k,x.op = k := ⟨_,rfl⟩;rw [hkd] at hk6' hk3';rw [hoc] at ho';have HOC := Hd hoc
 have b0 : (w.alloc (.cells x.cells.toArray 47)).cell? ⟨w.heap.size,0,none⟩ = some (.int .i8 kd) := by rw [← hkd]; exact HB0.out.cell 0
 clear h hk hb0 hbl hn hn0 hn1 he hc0 hc1 hkd HNF hoc hr hd hq hqi hqw hri hrr hrs hx hs hwd hdst ho han ;go_enter func48,ntmps48;go_upto_region 1 with fail
 generalize (w.alloc (.cells x.cells.toArray 47)) = Wd at HG HM HB0 HNT HAB b0 hb1 ⊢;generalize w.heap.size = bx at HB0 HLOW b0 ⊢;have HB1 := Hd b0
 go_upto_region 2 with fail
 clear b0;refine zac (fun w' => w'.cell? ⟨bx,0,none⟩ = some (.int .i8 kd) ∧ NT ad n0 n1 w') (fun _ => True) [] (by kernel_rfl) ?_;have HT := Hd (show Wd.drew.cell? ⟨bx,0,none⟩ = some (.int .i8 kd) ∧ NT ad n0 n1 Wd.drew from ⟨HB1.out,HNT.out⟩)
 replace HM := Hd (HM.out.step ((Below.refl _ _).drew))
 generalize Wd.drew = We at HM HT ⊢;refine ef 0 ⟨bx,0,none⟩ ⟨bx,0,none⟩ (bT HT) ?_;refine el false 1 ⟨bx,0,none⟩ (.int .i8 kd) underlying30 (fun w hS => hS.1.1) (bT HT) ?_;refine eg 2 (.bool true) (bT HT) ?_;refine em 3 (.bool true) (bT HT) ?_;refine em 4 (.slice (some ad) nn cn) (bT HT) ?_;refine ej 5 (.slice (some ad) nn cn) (.int .i64 0) (.pointer (some (ad.add 0))) (zbJ (k := 0) rfl HNN.out.1) (bT HT) ?_;refine el false 6 (ad.add 0) (.int .i64 n0) underlying3 (fun w hS => hS.1.2.1) (bT HT) ?_;refine em 7 (.slice (some ad) nn cn) (bT HT) ?_;refine ej 8 (.slice (some ad) nn cn) (.int .i64 1) (.pointer (some (ad.add 1))) (zbJ (k := 1) rfl HNN.out.2) (bT HT) ?_;refine el false 9 (ad.add 1) (.int .i64 n1) underlying3 (fun w hS => hS.1.2.2) (bT HT) ?_;refine eg 10 (.bool true) (bT HT) ?_;refine ep 11 true (.bool true) (bT HT) ?_;refine eS 12 (.bool true) (bT HT) ?_;refine zab (by kernel_rfl) ?_ _;clear HT HB1;go_upto_region 5 with fail
 refine zac (fun w' => Blk w' bx 47 x.cells.toArray ∧ NT ad n0 n1 w') (MT b g m.regs) [] (by kernel_rfl) ?_;replace HM := Hd (HM.out.step ((Below.refl _ _).drew))
 generalize We.drew = Wf at HM ⊢;have HT := Hd (⟨(HM.out.blk HB0.out HLOW.out).1,HNT.out.chg HM.out.chg HAB.out.1 HAB.out.2⟩ : Blk Wf bx 47 x.cells.toArray ∧ NT ad n0 n1 Wf)
 have HS := Hd (show MT b g m.regs Wf from HM.out.at_.mt)
 refine ef 0 ⟨bx,0,none⟩ ⟨bx,1,none⟩ (bS HT HS) ?_;refine el false 1 ⟨bx,1,none⟩ (.int .i8 x.op) underlying30 (fun w hS => (hS.1.1.cell 1)) (bS HT HS) ?_;refine em 2 (.pointer (some ⟨b,0,none⟩)) (bS HT HS) ?_;refine ef 3 ⟨bx,0,none⟩ ⟨bx,5,none⟩ (bS HT HS) ?_;refine el false 4 ⟨bx,5,none⟩ (.int .i8 x.dst) underlying30 (fun w hS => (hS.1.1.cell 5)) (bS HT HS) ?_;refine ez 5 ⟨b,0,none⟩ (bS HT HS) ?_;refine ef 6 ⟨b,0,none⟩ ⟨b,1,none⟩ (bS HT HS) ?_;refine ef 7 ⟨b,1,none⟩ ⟨b,1,none⟩ (bS HT HS) ?_;refine ej 8 (.pointer (some ⟨b,1,none⟩)) (.int .i8 x.dst) (.pointer (some ⟨b,1 + d,none⟩)) (zbW b HRD.out HD.out) (bS HT HS) ?_;refine el true 9 ⟨b,1 + d,none⟩ (.int .i64 (m.regs.getD d 0)) underlying3 (fun w hS => ((hS.2 rfl).2 d HD.out)) (bS HT HS) ?_;refine em 10 (.pointer (some ⟨b,0,none⟩)) (bS HT HS) ?_;refine eL false 11 ⟨bx,0,none⟩ x.cells (fun w hS => zak hS.1.1) underlying47 zlq (bS HT HS) ?_;refine ec 12 (HN.out _ _ _ HM.out.at_) ?_;rintro e wq ⟨rfl,_,Fq,Gq,hmq⟩;replace HM := Hd (HM.out.trans hmq)
 replace HT := Hd (⟨(HM.out.blk HB0.out HLOW.out).1,HNT.out.chg HM.out.chg HAB.out.1 HAB.out.2⟩ : Blk wq bx 47 x.cells.toArray ∧ NT ad n0 n1 wq)
 replace HS := Hd (show MT b g m.regs wq from HRQ.out ▸ HM.out.at_.mt)
 clear hmq;refine ek (bS HT HS) ?_;refine eS 13 (.int .i8 x.op) (bS HT HS) ?_;refine eS 14 (.int .i64 (m.regs.getD d 0)) (bS HT HS) ?_;refine eS 15 (.int .i64 nq) (bS HT HS) ?_;refine zab (by kernel_rfl) ?_ _;simp only [HAN.out,HOC.out];clear HT HS;go_upto_region 8 with fail
 refine zac (fun w' => Blk w' bx 47 x.cells.toArray ∧ NT ad n0 n1 w') (MT b g m.regs) [23] (by kernel_rfl) ?_;replace HM := Hd (HM.out.step ((Below.refl _ _).drew))
 generalize World.drew _ = Wg at HM ⊢;have HT := Hd (⟨(HM.out.blk HB0.out HLOW.out).1,HNT.out.chg HM.out.chg HAB.out.1 HAB.out.2⟩ : Blk Wg bx 47 x.cells.toArray ∧ NT ad n0 n1 Wg)
 have HS := Hd (show MT b g m.regs Wg from HRQ.out ▸ HM.out.at_.mt)
 rw [HOC.out] at HC;refine em 0 (.pointer (some ⟨b,0,none⟩)) (bS HT HS) ?_;refine em 1 (.pointer (some ⟨b,0,none⟩)) (bS HT HS) ?_;refine em 2 (.pointer (some ⟨b,0,none⟩)) (bS HT HS) ?_;refine ez 3 ⟨b,0,none⟩ (bS HT HS) ?_;refine ef 4 ⟨b,0,none⟩ ⟨b,0,none⟩ (bS HT HS) ?_;refine el true 5 ⟨b,0,none⟩ (.pointer (some ⟨g,0,none⟩)) underlying50 (fun w hS => (hS.2 rfl).1) (bS HT HS) ?_;refine em 6 (.int .i8 oc) (bS HT HS) ?_;refine em 7 (.int .i64 an) (bS HT HS) ?_;refine em 8 (.int .i64 nq) (bS HT HS) ?_;refine em 13 (.slice (some ad) nn cn) (bS HT HS) ?_;refine ej 14 (.slice (some ad) nn cn) (.int .i64 0) (.pointer (some (ad.add 0))) (zbJ (k := 0) rfl HNN.out.1) (bS HT HS) ?_;refine el false 15 (ad.add 0) (.int .i64 n0) underlying3 (fun w hS => hS.1.2.1) (bS HT HS) ?_;refine em 16 (.slice (some ad) nn cn) (bS HT HS) ?_;refine ej 17 (.slice (some ad) nn cn) (.int .i64 1) (.pointer (some (ad.add 1))) (zbJ (k := 1) rfl HNN.out.2) (bS HT HS) ?_;refine el false 18 (ad.add 1) (.int .i64 n1) underlying3 (fun w hS => hS.1.2.2) (bS HT HS) ?_;refine ec 9 (HC.out _ _ HM.out.at_.pool (zto hb1 HM.out.size)) ?_;rintro e wq ⟨rfl,Fq,hpq⟩;replace HM := Hd (HM.out.trans (HM.out.at_.pg hpq))
 replace HT := Hd (⟨(HM.out.blk HB0.out HLOW.out).1,HNT.out.chg HM.out.chg HAB.out.1 HAB.out.2⟩ : Blk wq bx 47 x.cells.toArray ∧ NT ad n0 n1 wq)
 replace HS := Hd (show MT b g m.regs wq from HRQ.out ▸ HM.out.at_.mt)
 clear hpq;refine ek (bS HT HS) ?_;refine eg 10 (.int .i64 rn) (bS HT HS) ?_;refine eg 11 (.int .i64 re) (bS HT HS) ?_;refine ec 12 (zde HM.out.at_ rn re HON.out) ?_;rintro e wq ⟨rfl,_,Fq,Gq,hmq⟩;replace HM := Hd (HM.out.trans hmq)
 replace HT := Hd (⟨(HM.out.blk HB0.out HLOW.out).1,HNT.out.chg HM.out.chg HAB.out.1 HAB.out.2⟩ : Blk wq bx 47 x.cells.toArray ∧ NT ad n0 n1 wq)
 replace HS := Hd (show MT b g m.regs wq from HRQ.out ▸ HM.out.at_.mt)
 clear hmq;rw [HEV.out] at HM;refine ek (bS HT HS) ?_;refine zcH 19 (some 88) _ _ (#[(0,.int .i8 2),(1,.int .i64 rn),(2,.int .i64 n0),(3,.int .i64 n1)]) (.agg (exC ⟨2,rn,n0,n1⟩).toArray) rfl (by kernel_rfl) (by rfl) (fun _ _ _ h => h) (by simp only [ztD,ztz,ztA]; rfl) (zg5 rn n0 n1) (bS HT HS) ?_;simp only [pt,pn,sL];refine ez 20 ⟨b,0,none⟩ (bS HT HS) ?_;refine ef 21 ⟨b,0,none⟩ ⟨b,1,none⟩ (bS HT HS) ?_;refine ef 22 ⟨b,1,none⟩ ⟨b,13,none⟩ (bS HT HS) ?_;obtain ⟨es,qe,hBs,_⟩ := HM.out.at_.box;have HMQ := Hd (HM.out.trans (HM.out.at_.exit2 hBs ⟨2,rn,n0,n1⟩ (setRow_heap wq b _ _ 114 (0,0) hBs) (zaD wq b _)))
 refine zaN 23 (by kernel_rfl) (zar.store_at 23 63 _ _ ⟨b,13,none⟩ (.agg (exC ⟨2,rn,n0,n1⟩).toArray) _ rfl (by rfl) (by rfl) (by rfl) (zaX wq b 13 114 63 _ (exC ⟨2,rn,n0,n1⟩) _ hBs rfl znS (by rw [zco HM.out.at_.len]; simp [exC]) (zdv _)) (.after ⟨(HMQ.out.blk HB0.out HLOW.out).1,HNT.out.chg HMQ.out.chg HAB.out.1 HAB.out.2⟩ (by kernel_rfl)) ?_);clear hBs;simp only [pt,pn,sL];refine zab (by kernel_rfl) ?_ _;go_wp2;go_end0;rw [HNX.out];exact ⟨rfl,_,_,HG.out.trans HMQ.out⟩
theorem znN (h : MA base g b F G m ex w)(x : ID)(hx : x.wf)(hk : x.kind = 3)(ho : x.op = 10)(hdst : 0 ≤ x.dst ∧ x.dst ≤ 10)(hs : x.byReg = true → 0 ≤ x.src ∧ x.src ≤ 10)(hwd : -128 < x.width){An : Option Addr}{nn cn : Nat}{nx : List Int}(hn : zbk w G (.slice An nn cn) nx)(hnn : 1 < nn)(he : nx.getD 0 0 ≠ nx.getD 1 0) : Calls prog 48 #[.pointer (some ⟨b,0,none⟩),.agg x.cells.toArray,.slice An nn cn] w (zky base g b G (m.ends x nx).2 w (m.ends x nx).1) := by
 have hb0 : base ≤ w.heap.size := zto (h.low b h.nb.2).1 (ztu h.lt);have hbl := (Below.refl w.heap.size w).alloc (ztn _) (.cells x.cells.toArray 47);have HG := Hd (MG.of_below h hbl)
 have HB0 := Hd (show Blk (w.alloc (.cells x.cells.toArray 47)) w.heap.size 47 x.cells.toArray from Blk.new w 47 x.cells.toArray)
 have HLOW := Hd (fun (e : G w.heap.size) => by have := (h.low _ e).2; omega : ¬ G w.heap.size)
 have HNF := Hd (hn.chg (G := G) (Chg.of_below hbl) (fun k q => .inr q) (fun k q => .inl q))
 obtain ⟨n0,hn0⟩ : ∃ n,nx.getD 0 0 = n := ⟨_,rfl⟩;obtain ⟨n1,hn1⟩ : ∃ n,nx.getD 1 0 = n := ⟨_,rfl⟩;obtain ⟨q,hq⟩ : ∃ q,m.second x = q := ⟨_,rfl⟩;have HN := Hd (fun (W : World) (F G : Nat → Prop) (hW : MA base g b F G m ex W) => by have := zeK hW x hx hs hwd; rw [hq] at this; exact this)
 have hqi : I64 q.2 := by rw [← hq]; exact zeL h hs
 have hqw : WfP q.1.p ∧ ∀ t ∈ q.1.p.T,t.wf := by rw [← hq]; exact zfJ h x
 have HRQ := Hd (show q.1.regs = m.regs by rw [← hq]; exact zcW m x)
 obtain ⟨d,hr,hd⟩ := I8.nat hdst;have hri := h.reg_i64 hd;have hrr : m.reg x.dst = m.regs.getD d 0 := by unfold SM.reg; rw [hr,ztx]
 obtain ⟨an,han⟩ : ∃ n,m.regs.getD d 0 = n := ⟨_,rfl⟩;rw [han] at hri hrr;obtain ⟨ts,hts⟩ : ∃ r,opV q.1.p 5 64 an q.2 = r := ⟨_,rfl⟩;have HO := Hd (fun (W : World) (F : Nat → Prop) (hW : zam W base F g q.1.p) (hb : base ≤ W.heap.size) => by obtain ⟨f,hf⟩ := zbV hW.wf hW.rng 5 64 an q.2; rw [hts] at hf; exact zmV f 5 64 an q.2 hri hqi F q.1.p ts hf W hW hb)
 have hti : I64 ts.2.1 := by rw [← hts]; exact ze1 hqw.1 hqw.2 _ _ _ _
 have htw : WfP ts.1 ∧ ∀ t ∈ ts.1.T,t.wf := by
  obtain ⟨f,hf⟩ := zbV hqw.1 hqw.2 5 64 an q.2;have hg := zeO f hqw.1 hqw.2 hf;rw [hts] at hg;exact ⟨hg.wf,hg.rng⟩
 have HTI := Hd hti
 obtain ⟨z,hz⟩ : ∃ z,SM.num ⟨ts.1,q.1.regs,q.1.evs,if q.1.err = 0 then ts.2.2 else q.1.err⟩ 0 = z := ⟨_,rfl⟩;have HZ := Hd (fun (W : World) (F G : Nat → Prop) (hW : MA base g b F G ⟨ts.1,q.1.regs,q.1.evs,if q.1.err = 0 then ts.2.2 else q.1.err⟩ ex W) => by have := zdX hW 0 zbF; rw [hz] at this; exact this)
 have hzi : I64 z.2 := by rw [← hz]; exact zaY htw.1 _
 have hzw : WfP z.1.p ∧ ∀ t ∈ z.1.p.T,t.wf := by rw [← hz]; exact zb0 htw.1 htw.2 (zaP (wrap_u64 0))
 have HRZ := Hd (show z.1.regs = q.1.regs by rw [← hz]; rfl)
 obtain ⟨rs,hrs⟩ : ∃ r,ze0 z.1.p 1 64 ts.2.1 z.2 = r := ⟨_,rfl⟩;have HC := Hd (fun (W : World) (F : Nat → Prop) (hW : zam W base F g z.1.p) (hb : base ≤ W.heap.size) => by have hf := zct z.1.p 1 64 ts.2.1 z.2; rw [hrs] at hf; exact zjV 2 1 64 ts.2.1 z.2 hti hzi F z.1.p rs hf W hW hb)
 have HON := Hd (show I64 rs.2.1 by rw [← hrs]; exact zex hzw.1 hzw.2 _ _ hti hzi)
 have HNX := Hd (show m.ends x nx = (⟨rs.1,z.1.regs,z.1.evs,if z.1.err = 0 then rs.2.2 else z.1.err⟩,⟨2,rs.2.1,n0,n1⟩) by
  unfold SM.ends;rw [if_neg (by omega),if_pos ⟨hk,he⟩];dsimp only;rw [hq,hrr,hn0,hn1];unfold SM.ask;rw [if_pos ho];dsimp only;rw [hts];unfold SM.keep;dsimp only;rw [hz,hrs])
 obtain ⟨mq,nq⟩ := q;obtain ⟨tp,tn,te⟩ := ts;obtain ⟨mz,nz⟩ := z;obtain ⟨rp,rn,re⟩ := rs;dsimp only at HN HRQ HO HTI HZ HRZ HC HON HNX;obtain ⟨ev,hev⟩ : ∃ e,(if mz.err = 0 then re else mz.err) = e := ⟨_,rfl⟩;rw [hev] at HNX;have HEV := Hd hev
 clear hev;obtain ⟨ad,hAn,_,hc0⟩ := HNF.out.at0 (k := 0) (by omega);subst hAn;rw [hn0] at hc0;obtain ⟨ad',hAn,_,hc1⟩ := HNF.out.at0 (k := 1) (by omega);injection hAn with hAn
 subst hAn;rw [hn1] at hc1;have hne : (n0 != n1) = true := by rw [← hn0,← hn1]; simpa using he
 have hk6' : (x.kind == 6) = false := by rw [hk]; rfl
 have hk3' : (x.kind == 3) = true := by rw [hk]; rfl
 have ho' : (x.op == 10) = true := by simpa using ho
 have HAB := Hd (HNF.out.far (by omega))
 have HNT := Hd (show NT ad n0 n1 (w.alloc (.cells x.cells.toArray 47)) from ⟨hc0,hc1⟩)
 have HM := Hd (MG.refl HG.out.at_)
 have HNN := Hd (ztp (show 0 < nn by omega) (show 1 < nn by omega))
 have HRD := Hd hr
 have HD := Hd hd
 have HAN := Hd han
 have hb1 := zto hb0 HG.out.size;obtain ⟨kd,hkd⟩ : ∃ k,x.kind = k := ⟨_,rfl⟩;obtain ⟨oc,hoc⟩ : ∃ k,x.op = k := ⟨_,rfl⟩;rw [hkd] at hk6' hk3';rw [hoc] at ho';have HOC := Hd hoc
 have b0 : (w.alloc (.cells x.cells.toArray 47)).cell? ⟨w.heap.size,0,none⟩ = some (.int .i8 kd) := by rw [← hkd]; exact HB0.out.cell 0
 clear h hk hb0 hbl hn hn0 hn1 he hc0 hc1 hkd HNF hoc hr hd hq hqi hqw hri hrr hrs hx hs hwd hdst ho han hts hti htw hz hzi hzw;go_enter func48,ntmps48;go_upto_region 1 with fail
 generalize (w.alloc (.cells x.cells.toArray 47)) = Wd at HG HM HB0 HNT HAB b0 hb1 ⊢;generalize w.heap.size = bx at HB0 HLOW b0 ⊢;have HB1 := Hd b0
 go_upto_region 2 with fail
 clear b0;refine zac (fun w' => w'.cell? ⟨bx,0,none⟩ = some (.int .i8 kd) ∧ NT ad n0 n1 w') (fun _ => True) [] (by kernel_rfl) ?_;have HT := Hd (show Wd.drew.cell? ⟨bx,0,none⟩ = some (.int .i8 kd) ∧ NT ad n0 n1 Wd.drew from ⟨HB1.out,HNT.out⟩)
 replace HM := Hd (HM.out.step ((Below.refl _ _).drew))
 generalize Wd.drew = We at HM HT ⊢;refine ef 0 ⟨bx,0,none⟩ ⟨bx,0,none⟩ (bT HT) ?_;refine el false 1 ⟨bx,0,none⟩ (.int .i8 kd) underlying30 (fun w hS => hS.1.1) (bT HT) ?_;refine eg 2 (.bool true) (bT HT) ?_;refine em 3 (.bool true) (bT HT) ?_;refine em 4 (.slice (some ad) nn cn) (bT HT) ?_;refine ej 5 (.slice (some ad) nn cn) (.int .i64 0) (.pointer (some (ad.add 0))) (zbJ (k := 0) rfl HNN.out.1) (bT HT) ?_;refine el false 6 (ad.add 0) (.int .i64 n0) underlying3 (fun w hS => hS.1.2.1) (bT HT) ?_;refine em 7 (.slice (some ad) nn cn) (bT HT) ?_;refine ej 8 (.slice (some ad) nn cn) (.int .i64 1) (.pointer (some (ad.add 1))) (zbJ (k := 1) rfl HNN.out.2) (bT HT) ?_;refine el false 9 (ad.add 1) (.int .i64 n1) underlying3 (fun w hS => hS.1.2.2) (bT HT) ?_;refine eg 10 (.bool true) (bT HT) ?_;refine ep 11 true (.bool true) (bT HT) ?_;refine eS 12 (.bool true) (bT HT) ?_;refine zab (by kernel_rfl) ?_ _;clear HT HB1;go_upto_region 5 with fail
 refine zac (fun w' => Blk w' bx 47 x.cells.toArray ∧ NT ad n0 n1 w') (MT b g m.regs) [] (by kernel_rfl) ?_;replace HM := Hd (HM.out.step ((Below.refl _ _).drew))
 generalize We.drew = Wf at HM ⊢;have HT := Hd (⟨(HM.out.blk HB0.out HLOW.out).1,HNT.out.chg HM.out.chg HAB.out.1 HAB.out.2⟩ : Blk Wf bx 47 x.cells.toArray ∧ NT ad n0 n1 Wf)
 have HS := Hd (show MT b g m.regs Wf from HM.out.at_.mt)
 refine ef 0 ⟨bx,0,none⟩ ⟨bx,1,none⟩ (bS HT HS) ?_;refine el false 1 ⟨bx,1,none⟩ (.int .i8 x.op) underlying30 (fun w hS => (hS.1.1.cell 1)) (bS HT HS) ?_;refine em 2 (.pointer (some ⟨b,0,none⟩)) (bS HT HS) ?_;refine ef 3 ⟨bx,0,none⟩ ⟨bx,5,none⟩ (bS HT HS) ?_;refine el false 4 ⟨bx,5,none⟩ (.int .i8 x.dst) underlying30 (fun w hS => (hS.1.1.cell 5)) (bS HT HS) ?_;refine ez 5 ⟨b,0,none⟩ (bS HT HS) ?_;refine ef 6 ⟨b,0,none⟩ ⟨b,1,none⟩ (bS HT HS) ?_;refine ef 7 ⟨b,1,none⟩ ⟨b,1,none⟩ (bS HT HS) ?_;refine ej 8 (.pointer (some ⟨b,1,none⟩)) (.int .i8 x.dst) (.pointer (some ⟨b,1 + d,none⟩)) (zbW b HRD.out HD.out) (bS HT HS) ?_;refine el true 9 ⟨b,1 + d,none⟩ (.int .i64 (m.regs.getD d 0)) underlying3 (fun w hS => ((hS.2 rfl).2 d HD.out)) (bS HT HS) ?_;refine em 10 (.pointer (some ⟨b,0,none⟩)) (bS HT HS) ?_;refine eL false 11 ⟨bx,0,none⟩ x.cells (fun w hS => zak hS.1.1) underlying47 zlq (bS HT HS) ?_;refine ec 12 (HN.out _ _ _ HM.out.at_) ?_;rintro e wq ⟨rfl,_,Fq,Gq,hmq⟩;replace HM := Hd (HM.out.trans hmq)
 replace HT := Hd (⟨(HM.out.blk HB0.out HLOW.out).1,HNT.out.chg HM.out.chg HAB.out.1 HAB.out.2⟩ : Blk wq bx 47 x.cells.toArray ∧ NT ad n0 n1 wq)
 replace HS := Hd (show MT b g m.regs wq from HRQ.out ▸ HM.out.at_.mt)
 clear hmq;refine ek (bS HT HS) ?_;refine eS 13 (.int .i8 x.op) (bS HT HS) ?_;refine eS 14 (.int .i64 (m.regs.getD d 0)) (bS HT HS) ?_;refine eS 15 (.int .i64 nq) (bS HT HS) ?_;refine zab (by kernel_rfl) ?_ _;simp only [HAN.out,HOC.out];clear HT HS;have c0 := HM.out.at_.cp;go_wp2_with fail
 refine (HO.out _ _ HM.out.at_.pool (zto hb1 HM.out.size)).mono ?_;rintro e wq ⟨rfl,Fq,hpq⟩;replace HM := Hd (HM.out.trans (HM.out.at_.pg hpq))
 clear hpq c0;go_wp2_with fail
 refine (zde HM.out.at_ tn te HTI.out).mono ?_;rintro e wr ⟨rfl,_,Fr,Gr,hmr⟩;replace HM := Hd (HM.out.trans hmr)
 clear hmr;go_wp2_with fail
 refine (HZ.out _ _ _ HM.out.at_).mono ?_;rintro e ws ⟨rfl,_,Fs,Gs,hms⟩;replace HM := Hd (HM.out.trans hms)
 clear hms;go_upto_region 8 with fail
 refine zac (fun w' => Blk w' bx 47 x.cells.toArray ∧ NT ad n0 n1 w') (MT b g m.regs) [23] (by kernel_rfl) ?_;replace HM := Hd (HM.out.step ((Below.refl _ _).drew))
 generalize ws.drew = Wg at HM ⊢;replace HRQ := Hd (HRZ.out.trans HRQ.out)
 have HT := Hd (⟨(HM.out.blk HB0.out HLOW.out).1,HNT.out.chg HM.out.chg HAB.out.1 HAB.out.2⟩ : Blk Wg bx 47 x.cells.toArray ∧ NT ad n0 n1 Wg)
 have HS := Hd (show MT b g m.regs Wg from HRQ.out ▸ HM.out.at_.mt)
 refine em 0 (.pointer (some ⟨b,0,none⟩)) (bS HT HS) ?_;refine em 1 (.pointer (some ⟨b,0,none⟩)) (bS HT HS) ?_;refine em 2 (.pointer (some ⟨b,0,none⟩)) (bS HT HS) ?_;refine ez 3 ⟨b,0,none⟩ (bS HT HS) ?_;refine ef 4 ⟨b,0,none⟩ ⟨b,0,none⟩ (bS HT HS) ?_;refine el true 5 ⟨b,0,none⟩ (.pointer (some ⟨g,0,none⟩)) underlying50 (fun w hS => (hS.2 rfl).1) (bS HT HS) ?_;refine em 6 (.int .i8 1) (bS HT HS) ?_;refine em 7 (.int .i64 tn) (bS HT HS) ?_;refine em 8 (.int .i64 nz) (bS HT HS) ?_;refine em 13 (.slice (some ad) nn cn) (bS HT HS) ?_;refine ej 14 (.slice (some ad) nn cn) (.int .i64 0) (.pointer (some (ad.add 0))) (zbJ (k := 0) rfl HNN.out.1) (bS HT HS) ?_;refine el false 15 (ad.add 0) (.int .i64 n0) underlying3 (fun w hS => hS.1.2.1) (bS HT HS) ?_;refine em 16 (.slice (some ad) nn cn) (bS HT HS) ?_;refine ej 17 (.slice (some ad) nn cn) (.int .i64 1) (.pointer (some (ad.add 1))) (zbJ (k := 1) rfl HNN.out.2) (bS HT HS) ?_;refine el false 18 (ad.add 1) (.int .i64 n1) underlying3 (fun w hS => hS.1.2.2) (bS HT HS) ?_;refine ec 9 (HC.out _ _ HM.out.at_.pool (zto hb1 HM.out.size)) ?_;rintro e wq ⟨rfl,Fq,hpq⟩;replace HM := Hd (HM.out.trans (HM.out.at_.pg hpq))
 replace HT := Hd (⟨(HM.out.blk HB0.out HLOW.out).1,HNT.out.chg HM.out.chg HAB.out.1 HAB.out.2⟩ : Blk wq bx 47 x.cells.toArray ∧ NT ad n0 n1 wq)
 replace HS := Hd (show MT b g m.regs wq from HRQ.out ▸ HM.out.at_.mt)
 clear hpq;refine ek (bS HT HS) ?_;refine eg 10 (.int .i64 rn) (bS HT HS) ?_;refine eg 11 (.int .i64 re) (bS HT HS) ?_;refine ec 12 (zde HM.out.at_ rn re HON.out) ?_;rintro e wq ⟨rfl,_,Fq,Gq,hmq⟩;replace HM := Hd (HM.out.trans hmq)
 replace HT := Hd (⟨(HM.out.blk HB0.out HLOW.out).1,HNT.out.chg HM.out.chg HAB.out.1 HAB.out.2⟩ : Blk wq bx 47 x.cells.toArray ∧ NT ad n0 n1 wq)
 replace HS := Hd (show MT b g m.regs wq from HRQ.out ▸ HM.out.at_.mt)
 clear hmq;rw [HEV.out] at HM;refine ek (bS HT HS) ?_;refine zcH 19 (some 88) _ _ (#[(0,.int .i8 2),(1,.int .i64 rn),(2,.int .i64 n0),(3,.int .i64 n1)]) (.agg (exC ⟨2,rn,n0,n1⟩).toArray) rfl (by kernel_rfl) (by rfl) (fun _ _ _ h => h) (by simp only [ztD,ztz,ztA]; rfl) (zg5 rn n0 n1) (bS HT HS) ?_;simp only [pt,pn,sL];refine ez 20 ⟨b,0,none⟩ (bS HT HS) ?_;refine ef 21 ⟨b,0,none⟩ ⟨b,1,none⟩ (bS HT HS) ?_;refine ef 22 ⟨b,1,none⟩ ⟨b,13,none⟩ (bS HT HS) ?_;obtain ⟨es,qe,hBs,_⟩ := HM.out.at_.box;have HMQ := Hd (HM.out.trans (HM.out.at_.exit2 hBs ⟨2,rn,n0,n1⟩ (setRow_heap wq b _ _ 114 (0,0) hBs) (zaD wq b _)))
 refine zaN 23 (by kernel_rfl) (zar.store_at 23 63 _ _ ⟨b,13,none⟩ (.agg (exC ⟨2,rn,n0,n1⟩).toArray) _ rfl (by rfl) (by rfl) (by rfl) (zaX wq b 13 114 63 _ (exC ⟨2,rn,n0,n1⟩) _ hBs rfl znS (by rw [zco HM.out.at_.len]; simp [exC]) (zdv _)) (.after ⟨(HMQ.out.blk HB0.out HLOW.out).1,HNT.out.chg HMQ.out.chg HAB.out.1 HAB.out.2⟩ (by kernel_rfl)) ?_);clear hBs;simp only [pt,pn,sL];refine zab (by kernel_rfl) ?_ _;go_wp2;go_end0;rw [HNX.out];exact ⟨rfl,_,_,HG.out.trans HMQ.out⟩
end
end
section
def zgm (vs : List Int)(t : TD)(vl : Int → Int)(bad : Int → Bool) : Int × Bool :=
 if t.kind = 0 then (t.n,true)
 else if t.kind = 1 then (if (vs.length : Int) ≤ t.n then (0,false) else (zao t.w (vs.getD t.n.toNat 0),true))
 else if t.kind = 3 then (zao t.w (vl t.a),!bad t.a)
 else if t.kind = 2 then (doU t.op t.w (vl t.a) (vl t.b),!bad t.a && !bad t.b)
 else if t.kind = 4 then (zcO (zaJ t.op t.w (vl t.a) (vl t.b)),!bad t.a && !bad t.b)
 else (cond (vl t.a == 0) (vl t.c) (vl t.b),!bad t.a && !bad t.b && !bad t.c)
def zbp (w : World)(v : Value)(xs : List Int) : Prop := ∃ A c,v = .slice A xs.length c ∧ xs.length ≤ c ∧ zaU w w.heap.size 1 A xs.length (xs.map (Value.int .u64))
def zcp (w : World)(v : Value)(xs : List Bool) : Prop := ∃ A c,v = .slice A xs.length c ∧ xs.length ≤ c ∧ zaU w w.heap.size 1 A xs.length (xs.map Value.bool)
theorem zbp.below {w w' : World}{v : Value}{xs : List Int}(h : zbp w v xs)(hb : Below w.heap.size w w') : zbp w' v xs := by
 obtain ⟨A,c,h1,h2,h3⟩ := h;exact ⟨A,c,h1,h2,zeb (h3.below hb) hb.size⟩
theorem zcp.below {w w' : World}{v : Value}{xs : List Bool}(h : zcp w v xs)(hb : Below w.heap.size w w') : zcp w' v xs := by
 obtain ⟨A,c,h1,h2,h3⟩ := h;exact ⟨A,c,h1,h2,zeb (h3.below hb) hb.size⟩
theorem zbp.at_ {w : World}{v : Value}{xs : List Int}(h : zbp w v xs){k : Int}(h0 : 0 ≤ k)(hk : k < xs.length) : ∃ ad c j,v = .slice (some ad) xs.length c ∧ xs.length ≤ c ∧ k = ((j : Nat) : Int) ∧ j < xs.length ∧ w.cell? (ad.add j) = some (.int .u64 (xs.getD k.toNat 0)) := by
 obtain ⟨A,c,rfl,h2,h3⟩ := h;obtain ⟨j,rfl⟩ : ∃ j : Nat,k = j := ⟨k.toNat,by omega⟩;obtain ⟨ad,u,rfl,_,hu,hc⟩ := h3.at_ (k := j) (by omega);rw [ztw,ztq (by omega)] at hu;injection hu with hu
 subst hu;refine ⟨ad,c,j,rfl,h2,rfl,by omega,?_⟩;rw [hc,ztx,zts,ztq (by omega)]
 rfl
theorem zcp.at_ {w : World}{v : Value}{xs : List Bool}(h : zcp w v xs){k : Int}(h0 : 0 ≤ k)(hk : k < xs.length) : ∃ ad c j,v = .slice (some ad) xs.length c ∧ xs.length ≤ c ∧ k = ((j : Nat) : Int) ∧ j < xs.length ∧ w.cell? (ad.add j) = some (.bool (xs.getD k.toNat false)) := by
 obtain ⟨A,c,rfl,h2,h3⟩ := h;obtain ⟨j,rfl⟩ : ∃ j : Nat,k = j := ⟨k.toNat,by omega⟩;obtain ⟨ad,u,rfl,_,hu,hc⟩ := h3.at_ (k := j) (by omega);rw [ztw,ztq (by omega)] at hu;injection hu with hu
 subst hu;refine ⟨ad,c,j,rfl,h2,rfl,by omega,?_⟩;rw [hc,ztx,zts,ztq (by omega)]
 rfl
def zjj (vs : List Int)(t : TD)(vl : List Int)(bl : List Bool)(e : Ending) : Prop := e = .returned (.tuple #[.int .u64 (zgm vs t (fun k => vl.getD k.toNat 0) (fun k => bl.getD k.toNat false)).1,.bool (zgm vs t (fun k => vl.getD k.toNat 0) (fun k => bl.getD k.toNat false)).2])
theorem zpl {t : TD}(h : okF t = true)(hk : t.kind = 2) : zdp t.op t.w = true := by
 unfold okF zcl at h;rw [hk] at h;simp at h;unfold zdp zcb;simp;omega
theorem zlp {t : TD}(h : okF t = true)(hk : t.kind = 4) : zaW t.op t.w = true := by
 unfold okF zcl at h;rw [hk] at h;simp at h;unfold zaW zcb;simp;omega
theorem zcv {xs : List Int}(h : ∀ v ∈ xs,U64 v)(k : Nat) : U64 (xs.getD k 0) := by
 rw [zts]
 cases e : xs[k]? with
 | none => exact zaA
 | some v => exact h v (ztv e)
theorem zsy (vs : List Int)(t : TD)(vl : List Int)(bl : List Bool)(sv sl sb : Value)(ht : t.wf)(hok : okF t = true)(huv : ∀ v ∈ vs,U64 v)(hul : ∀ v ∈ vl,U64 v)(hlen : bl.length = vl.length)(hfew : vl.length ≤ 4000)(hfv : vs.length ≤ 4000)(hp : ∀ k ∈ zax t,0 ≤ k ∧ k < (vl.length : Int))(n0 : t.kind = 0)(w : World)(hvs : zbp w sv vs)(hvl : zbp w sl vl)(hbl : zcp w sb bl) :
  Calls prog 147 #[zaw t,sv,sl,sb] w fun e w' => zjj vs t vl bl e ∧ Below w.heap.size w w' := by
 have HX0 := Hd (Blk.new w 147 t.cells.toArray)
 have HB0 := Hd (zav w (.cells t.cells.toArray 147))
 have HVS := Hd (hvs.below HB0.out)
 have HVL := Hd (hvl.below HB0.out)
 have HBL := Hd (hbl.below HB0.out)
 have HOK := Hd hok
 have HTW := Hd ht
 have HUV := Hd huv
 have HUL := Hd hul
 obtain ⟨r,hr⟩ : ∃ r,zgm vs t (fun k => vl.getD k.toNat 0) (fun k => bl.getD k.toNat false) = r := ⟨_,rfl⟩;unfold zjj;rw [hr];unfold zgm at hr;dsimp only at hr;rw [if_pos n0] at hr;subst hr;unfold zaw;go_enter func147,ntmps147;go_upto_region 1 with fail
 generalize w.alloc (.cells t.cells.toArray 147) = w1 at HX0 HB0 HVS HVL HBL  ⊢;obtain ⟨bx,hbx⟩ : ∃ b,w.heap.size = b := ⟨_,rfl⟩;rw [hbx] at HX0 ⊢;have q0 := HX0.out.cell 0;have q3 := HX0.out.cell 3;simp [TD.cells] at q0 q3;go_wp2;exact bodyPost_ret (v := .tuple #[.int .u64 t.n,.bool true]) (by simp [results,results147,go_sem]) rfl ⟨rfl,HB0.out⟩
theorem zsz (vs : List Int)(t : TD)(vl : List Int)(bl : List Bool)(sv sl sb : Value)(ht : t.wf)(hok : okF t = true)(huv : ∀ v ∈ vs,U64 v)(hul : ∀ v ∈ vl,U64 v)(hlen : bl.length = vl.length)(hfew : vl.length ≤ 4000)(hfv : vs.length ≤ 4000)(hp : ∀ k ∈ zax t,0 ≤ k ∧ k < (vl.length : Int))(n0 : t.kind = 1)(w : World)(hvs : zbp w sv vs)(hvl : zbp w sl vl)(hbl : zcp w sb bl) :
  Calls prog 147 #[zaw t,sv,sl,sb] w fun e w' => zjj vs t vl bl e ∧ Below w.heap.size w w' := by
 have HX0 := Hd (Blk.new w 147 t.cells.toArray)
 have HB0 := Hd (zav w (.cells t.cells.toArray 147))
 have HVS := Hd (hvs.below HB0.out)
 have HVL := Hd (hvl.below HB0.out)
 have HBL := Hd (hbl.below HB0.out)
 have HOK := Hd hok
 have HTW := Hd ht
 have HUV := Hd huv
 have HUL := Hd hul
 obtain ⟨r,hr⟩ : ∃ r,zgm vs t (fun k => vl.getD k.toNat 0) (fun k => bl.getD k.toNat false) = r := ⟨_,rfl⟩;unfold zjj;rw [hr];unfold zgm at hr;dsimp only at hr;rw [if_neg (by omega),if_pos n0] at hr;have htn := ht.2.2.2.1;unfold U64 at htn;clear hvs hvl hbl;obtain ⟨m,hm⟩ : ∃ m,vs.length = m := ⟨_,rfl⟩;have hwm : IntKind.u64.wrap (m : Int) = (m : Int) := by rw [IntKind.wrap_u64]; omega
 rw [hm] at hr
 by_cases hlt : (m : Int) ≤ t.n
 ·rw [if_pos hlt] at hr
  subst hr;obtain ⟨A,c,rfl,hc,_⟩ := HVS.out;rw [hm] at hc ⊢;unfold zaw;go_enter func147,ntmps147;go_upto_region 1 with fail
  generalize w.alloc (.cells t.cells.toArray 147) = w1 at HX0 HB0 HVS HVL HBL  ⊢;obtain ⟨bx,hbx⟩ : ∃ b,w.heap.size = b := ⟨_,rfl⟩;rw [hbx] at HX0 ⊢;have q0 := HX0.out.cell 0;have q3 := HX0.out.cell 3;simp [TD.cells] at q0 q3;go_wp2;exact bodyPost_ret (v := .tuple #[.int .u64 0,.bool false]) (by simp [results,results147,go_sem]) rfl ⟨rfl,HB0.out⟩
 ·rw [if_neg hlt] at hr
  subst hr;obtain ⟨ad,c,j,rfl,hc,hj,hjl,hcv⟩ := HVS.out.at_ (k := t.n) htn.1 (by omega);have HW0 := Hd (zcv huv t.n.toNat)
  generalize vs.getD t.n.toNat 0 = x at hcv HW0 ⊢;rw [hm] at hc hjl ⊢;have HJ := Hd hj
  have hjc : j < c := by omega
  have hcl : ∀ w' : World,Calls prog 32 #[.int .u64 x,.int .i8 t.w] w' fun e w'' => e = .returned (.int .u64 (zao t.w x)) ∧ w'' = w' := fun w' => (zaH x t.w HW0.out w').mono fun _ _ q => ⟨q.1,q.2.symm⟩
  have HCL := Hd hcl
  clear hcl;unfold zaw;go_enter func147,ntmps147;go_upto_region 1 with fail
  generalize w.alloc (.cells t.cells.toArray 147) = w1 at HX0 HB0 HVS HVL HBL hcv ⊢;obtain ⟨bx,hbx⟩ : ∃ b,w.heap.size = b := ⟨_,rfl⟩;rw [hbx] at HX0 ⊢;have q0 := HX0.out.cell 0;have q2 := HX0.out.cell 2;have q3 := HX0.out.cell 3;simp [TD.cells] at q0 q2 q3;rw [hj] at q3;have hnl : decide ((m : Int) ≤ (j : Int)) = false := by simp; omega
  go_wp2;go_quiet ((go_at_call 32; refine Calls.quiet_of_same (HCL.out _)))
  go_wp2;exact bodyPost_ret (v := .tuple #[.int .u64 (zao t.w x),.bool true]) (by simp [results,results147,go_sem]) rfl ⟨rfl,HB0.out.trans ((zad (Below.refl _ _) nq).mono HB0.out.size)⟩
theorem zsA (vs : List Int)(t : TD)(vl : List Int)(bl : List Bool)(sv sl sb : Value)(ht : t.wf)(hok : okF t = true)(huv : ∀ v ∈ vs,U64 v)(hul : ∀ v ∈ vl,U64 v)(hlen : bl.length = vl.length)(hfew : vl.length ≤ 4000)(hfv : vs.length ≤ 4000)(hp : ∀ k ∈ zax t,0 ≤ k ∧ k < (vl.length : Int))(n0 : t.kind = 3)(w : World)(hvs : zbp w sv vs)(hvl : zbp w sl vl)(hbl : zcp w sb bl) :
  Calls prog 147 #[zaw t,sv,sl,sb] w fun e w' => zjj vs t vl bl e ∧ Below w.heap.size w w' := by
 have HX0 := Hd (Blk.new w 147 t.cells.toArray)
 have HB0 := Hd (zav w (.cells t.cells.toArray 147))
 have HVS := Hd (hvs.below HB0.out)
 have HVL := Hd (hvl.below HB0.out)
 have HBL := Hd (hbl.below HB0.out)
 have HOK := Hd hok
 have HTW := Hd ht
 have HUV := Hd huv
 have HUL := Hd hul
 obtain ⟨r,hr⟩ : ∃ r,zgm vs t (fun k => vl.getD k.toNat 0) (fun k => bl.getD k.toNat false) = r := ⟨_,rfl⟩;unfold zjj;rw [hr];unfold zgm at hr;dsimp only at hr;rw [if_neg (by omega),if_neg (by omega),if_pos n0] at hr;have hpa := hp t.a (by unfold zax; simp [n0]);obtain ⟨adxa,cxa,ja,exa,hcxa,hja,hla,hxa⟩ := HVL.out.at_ hpa.1 hpa.2;obtain ⟨adba,cba,ka,eba,hcba,hka,hlba,hba⟩ := HBL.out.at_ (k := t.a) hpa.1 (by rw [hlen]; exact hpa.2);obtain rfl : ja = ka := by omega
 have HWa := Hd (zcv hul t.a.toNat)
 generalize vl.getD t.a.toNat 0 = xa at hxa HWa hr;generalize bl.getD t.a.toNat false = ba at hba hr;subst exa eba;obtain ⟨m,hm⟩ : ∃ m,vl.length = m := ⟨_,rfl⟩;rw [hlen] at hcba hlba ⊢;rw [hm] at hcxa hla hcba hlba ⊢;have hjxa : ja < cxa := by omega
 have hjba : ja < cba := by omega
 have HJa := Hd hja
 clear hpa hvs hvl hbl hp hul huv;subst hr;have HCL := Hd (fun w' : World => (zaH xa t.w HWa.out w').mono fun _ _ q => (⟨q.1,q.2.symm⟩ : _ ∧ _ = _))
 unfold zaw;go_enter func147,ntmps147;go_upto_region 1 with fail
 generalize w.alloc (.cells t.cells.toArray 147) = w1 at HX0 HB0 HVS HVL HBL hxa hba ⊢;obtain ⟨bx,hbx⟩ : ∃ b,w.heap.size = b := ⟨_,rfl⟩;rw [hbx] at HX0 ⊢;have q0 := HX0.out.cell 0;have q2 := HX0.out.cell 2;have q4 := HX0.out.cell 4;simp [TD.cells] at q0 q2 q4;rw [hja] at q4;go_wp2;go_quiet ((go_at_call 32; refine Calls.quiet_of_same (HCL.out _)))
 go_wp2;exact bodyPost_ret (v := .tuple #[.int .u64 (zao t.w xa),.bool (!ba)]) (by simp [results,results147,go_sem]) rfl ⟨rfl,HB0.out.trans ((zad (Below.refl _ _) nq).mono HB0.out.size)⟩
theorem zsB (vs : List Int)(t : TD)(vl : List Int)(bl : List Bool)(sv sl sb : Value)(ht : t.wf)(hok : okF t = true)(huv : ∀ v ∈ vs,U64 v)(hul : ∀ v ∈ vl,U64 v)(hlen : bl.length = vl.length)(hfew : vl.length ≤ 4000)(hfv : vs.length ≤ 4000)(hp : ∀ k ∈ zax t,0 ≤ k ∧ k < (vl.length : Int))(n0 : t.kind = 2)(w : World)(hvs : zbp w sv vs)(hvl : zbp w sl vl)(hbl : zcp w sb bl) :
  Calls prog 147 #[zaw t,sv,sl,sb] w fun e w' => zjj vs t vl bl e ∧ Below w.heap.size w w' := by
 have HX0 := Hd (Blk.new w 147 t.cells.toArray)
 have HB0 := Hd (zav w (.cells t.cells.toArray 147))
 have HVS := Hd (hvs.below HB0.out)
 have HVL := Hd (hvl.below HB0.out)
 have HBL := Hd (hbl.below HB0.out)
 have HOK := Hd hok
 have HTW := Hd ht
 have HUV := Hd huv
 have HUL := Hd hul
 obtain ⟨r,hr⟩ : ∃ r,zgm vs t (fun k => vl.getD k.toNat 0) (fun k => bl.getD k.toNat false) = r := ⟨_,rfl⟩;unfold zjj;rw [hr];unfold zgm at hr;dsimp only at hr;rw [if_neg (by omega),if_neg (by omega),if_neg (by omega),if_pos n0] at hr;have hpa := hp t.a (by unfold zax; simp [n0]);obtain ⟨adxa,cxa,ja,exa,hcxa,hja,hla,hxa⟩ := HVL.out.at_ hpa.1 hpa.2;obtain ⟨adba,cba,ka,eba,hcba,hka,hlba,hba⟩ := HBL.out.at_ (k := t.a) hpa.1 (by rw [hlen]; exact hpa.2);obtain rfl : ja = ka := by omega
 have HWa := Hd (zcv hul t.a.toNat)
 generalize vl.getD t.a.toNat 0 = xa at hxa HWa hr;generalize bl.getD t.a.toNat false = ba at hba hr;have hpb := hp t.b (by unfold zax; simp [n0]);obtain ⟨adxb,cxb,jb,exb,hcxb,hjb,hlb,hxb⟩ := HVL.out.at_ hpb.1 hpb.2;obtain ⟨adbb,cbb,kb,ebb,hcbb,hkb,hlbb,hbb⟩ := HBL.out.at_ (k := t.b) hpb.1 (by rw [hlen]; exact hpb.2);obtain rfl : jb = kb := by omega
 have HWb := Hd (zcv hul t.b.toNat)
 generalize vl.getD t.b.toNat 0 = xb at hxb HWb hr;generalize bl.getD t.b.toNat false = bb at hbb hr;subst exa eba;injection exb with e1 e2 e3
 injection e1 with e1
 subst e1 e3;injection ebb with e1 e2 e3
 injection e1 with e1
 subst e1 e3;clear e2;obtain ⟨m,hm⟩ : ∃ m,vl.length = m := ⟨_,rfl⟩;rw [hlen] at hcba hlba hcbb hlbb ⊢;rw [hm] at hcxa hla hcxb hlb hcba hlba hcbb hlbb ⊢;have hjxa : ja < cxa := by omega
 have hjba : ja < cba := by omega
 have HJa := Hd hja
 have hjxb : jb < cxa := by omega
 have hjbb : jb < cba := by omega
 have HJb := Hd hjb
 clear hpa hpb hvs hvl hbl hp hul huv;subst hr;have HCL := Hd (fun w' : World => (zho xa xb HWa.out HWb.out w' (zpl hok n0)).mono fun _ _ q => (⟨q.1,q.2.symm⟩ : _ ∧ _ = _))
 obtain ⟨dv,hdv⟩ : ∃ v,doU t.op t.w xa xb = v := ⟨_,rfl⟩;rw [hdv] at HCL ⊢;clear hdv;unfold zaw;go_enter func147,ntmps147;go_upto_region 1 with fail
 generalize w.alloc (.cells t.cells.toArray 147) = w1 at HX0 HB0 HVS HVL HBL hxa hba hxb hbb ⊢;obtain ⟨bx,hbx⟩ : ∃ b,w.heap.size = b := ⟨_,rfl⟩;rw [hbx] at HX0 ⊢;have q0 := HX0.out.cell 0;have q1 := HX0.out.cell 1;have q2 := HX0.out.cell 2;have q4 := HX0.out.cell 4;have q5 := HX0.out.cell 5;simp [TD.cells] at q0 q1 q2 q4 q5;rw [hja] at q4;rw [hjb] at q5;go_upto_region 11 with fail
 go_quiet ((go_at_call 59; refine Calls.quiet_of_same (HCL.out _)))
 have HB2 := Hd (HB0.out.trans ((zad (Below.refl _ _) nq).mono HB0.out.size))
 have HX2 := Hd (HX0.out.below (zad (Below.refl _ _) nq) HX0.out.lt)
 have yba : (w1.drewN nq).cell? (adba.add ja) = some (.bool ba) := hba;have ybb : (w1.drewN nq).cell? (adba.add jb) = some (.bool bb) := hbb;generalize w1.drewN nq = w2 at HB2 HX2 yba ybb ⊢;clear q0 q1 q2 q4 q5 hba hxa hbb hxb;have q4 := HX2.out.cell 4;have q5 := HX2.out.cell 5;simp [TD.cells] at q4 q5;rw [hja] at q4;rw [hjb] at q5
 cases ba
 ·cases bb
  ·go_wp2
   go_quiet (fail)
   go_wp2;exact bodyPost_ret (v := .tuple #[.int .u64 dv,.bool (!false && !false)]) (by simp [results,results147,go_sem]) rfl ⟨rfl,HB2.out.trans ((zad (Below.refl _ _) nq).mono HB2.out.size)⟩
  ·go_wp2
   go_quiet (fail)
   go_wp2;exact bodyPost_ret (v := .tuple #[.int .u64 dv,.bool (!false && !true)]) (by simp [results,results147,go_sem]) rfl ⟨rfl,HB2.out.trans ((zad (Below.refl _ _) nq).mono HB2.out.size)⟩
 ·go_wp2
  go_quiet (fail)
  go_wp2;exact bodyPost_ret (v := .tuple #[.int .u64 dv,.bool (!true && !bb)]) (by simp [results,results147,go_sem]) rfl ⟨rfl,HB2.out.trans ((zad (Below.refl _ _) nq).mono HB2.out.size)⟩
theorem zsC (vs : List Int)(t : TD)(vl : List Int)(bl : List Bool)(sv sl sb : Value)(ht : t.wf)(hok : okF t = true)(huv : ∀ v ∈ vs,U64 v)(hul : ∀ v ∈ vl,U64 v)(hlen : bl.length = vl.length)(hfew : vl.length ≤ 4000)(hfv : vs.length ≤ 4000)(hp : ∀ k ∈ zax t,0 ≤ k ∧ k < (vl.length : Int))(n0 : t.kind = 4)(w : World)(hvs : zbp w sv vs)(hvl : zbp w sl vl)(hbl : zcp w sb bl) :
  Calls prog 147 #[zaw t,sv,sl,sb] w fun e w' => zjj vs t vl bl e ∧ Below w.heap.size w w' := by
 have HX0 := Hd (Blk.new w 147 t.cells.toArray)
 have HB0 := Hd (zav w (.cells t.cells.toArray 147))
 have HVS := Hd (hvs.below HB0.out)
 have HVL := Hd (hvl.below HB0.out)
 have HBL := Hd (hbl.below HB0.out)
 have HOK := Hd hok
 have HTW := Hd ht
 have HUV := Hd huv
 have HUL := Hd hul
 obtain ⟨r,hr⟩ : ∃ r,zgm vs t (fun k => vl.getD k.toNat 0) (fun k => bl.getD k.toNat false) = r := ⟨_,rfl⟩;unfold zjj;rw [hr];unfold zgm at hr;dsimp only at hr;rw [if_neg (by omega),if_neg (by omega),if_neg (by omega),if_neg (by omega),if_pos n0] at hr;have hpa := hp t.a (by unfold zax; simp [n0]);obtain ⟨adxa,cxa,ja,exa,hcxa,hja,hla,hxa⟩ := HVL.out.at_ hpa.1 hpa.2;obtain ⟨adba,cba,ka,eba,hcba,hka,hlba,hba⟩ := HBL.out.at_ (k := t.a) hpa.1 (by rw [hlen]; exact hpa.2);obtain rfl : ja = ka := by omega
 have HWa := Hd (zcv hul t.a.toNat)
 generalize vl.getD t.a.toNat 0 = xa at hxa HWa hr;generalize bl.getD t.a.toNat false = ba at hba hr;have hpb := hp t.b (by unfold zax; simp [n0]);obtain ⟨adxb,cxb,jb,exb,hcxb,hjb,hlb,hxb⟩ := HVL.out.at_ hpb.1 hpb.2;obtain ⟨adbb,cbb,kb,ebb,hcbb,hkb,hlbb,hbb⟩ := HBL.out.at_ (k := t.b) hpb.1 (by rw [hlen]; exact hpb.2);obtain rfl : jb = kb := by omega
 have HWb := Hd (zcv hul t.b.toNat)
 generalize vl.getD t.b.toNat 0 = xb at hxb HWb hr;generalize bl.getD t.b.toNat false = bb at hbb hr;subst exa eba;injection exb with e1 e2 e3
 injection e1 with e1
 subst e1 e3;injection ebb with e1 e2 e3
 injection e1 with e1
 subst e1 e3;clear e2;obtain ⟨m,hm⟩ : ∃ m,vl.length = m := ⟨_,rfl⟩;rw [hlen] at hcba hlba hcbb hlbb ⊢;rw [hm] at hcxa hla hcxb hlb hcba hlba hcbb hlbb ⊢;have hjxa : ja < cxa := by omega
 have hjba : ja < cba := by omega
 have HJa := Hd hja
 have hjxb : jb < cxa := by omega
 have hjbb : jb < cba := by omega
 have HJb := Hd hjb
 clear hpa hpb hvs hvl hbl hp hul huv;subst hr;have HCL := Hd (fun w' : World => (zdn xa xb HWa.out HWb.out w' (zlp hok n0)).mono fun _ _ q => (⟨q.1,q.2.symm⟩ : _ ∧ _ = _))
 obtain ⟨dv,hdv⟩ : ∃ v,zaJ t.op t.w xa xb = v := ⟨_,rfl⟩;rw [hdv] at HCL ⊢;clear hdv;have HFL := Hd (fun w' : World => (zlC dv w').mono fun _ _ q => (⟨q.1,q.2.symm⟩ : _ ∧ _ = _))
 obtain ⟨fv,hfv⟩ : ∃ v,zcO dv = v := ⟨_,rfl⟩;rw [show (if dv = true then (1 : Int) else 0) = fv from hfv] at HFL;rw [hfv];clear hfv;unfold zaw;go_enter func147,ntmps147;go_upto_region 1 with fail
 generalize w.alloc (.cells t.cells.toArray 147) = w1 at HX0 HB0 HVS HVL HBL hxa hba hxb hbb ⊢;obtain ⟨bx,hbx⟩ : ∃ b,w.heap.size = b := ⟨_,rfl⟩;rw [hbx] at HX0 ⊢;have q0 := HX0.out.cell 0;have q1 := HX0.out.cell 1;have q2 := HX0.out.cell 2;have q4 := HX0.out.cell 4;have q5 := HX0.out.cell 5;simp [TD.cells] at q0 q1 q2 q4 q5;rw [hja] at q4;rw [hjb] at q5;go_upto_region 14 with fail
 go_quiet ((go_at_call 65; refine Calls.quiet_of_same (HCL.out _)))
 have HB2 := Hd (HB0.out.trans ((zad (Below.refl _ _) nq).mono HB0.out.size))
 have HX2 := Hd (HX0.out.below (zad (Below.refl _ _) nq) HX0.out.lt)
 have yba : (w1.drewN nq).cell? (adba.add ja) = some (.bool ba) := hba;have ybb : (w1.drewN nq).cell? (adba.add jb) = some (.bool bb) := hbb;generalize w1.drewN nq = w2 at HB2 HX2 yba ybb ⊢;clear q0 q1 q2 q4 q5 hba hxa hbb hxb;have q4 := HX2.out.cell 4;have q5 := HX2.out.cell 5;simp [TD.cells] at q4 q5;rw [hja] at q4;rw [hjb] at q5
 cases ba
 ·cases bb
  ·go_wp2
   go_quiet ((go_at_call 145; refine Calls.quiet_of_same (HFL.out _)))
   go_wp2;exact bodyPost_ret (v := .tuple #[.int .u64 fv,.bool (!false && !false)]) (by simp [results,results147,go_sem]) rfl ⟨rfl,HB2.out.trans ((zad (Below.refl _ _) nq).mono HB2.out.size)⟩
  ·go_wp2
   go_quiet ((go_at_call 145; refine Calls.quiet_of_same (HFL.out _)))
   go_wp2;exact bodyPost_ret (v := .tuple #[.int .u64 fv,.bool (!false && !true)]) (by simp [results,results147,go_sem]) rfl ⟨rfl,HB2.out.trans ((zad (Below.refl _ _) nq).mono HB2.out.size)⟩
 ·go_wp2
  go_quiet ((go_at_call 145; refine Calls.quiet_of_same (HFL.out _)))
  go_wp2;exact bodyPost_ret (v := .tuple #[.int .u64 fv,.bool (!true && !bb)]) (by simp [results,results147,go_sem]) rfl ⟨rfl,HB2.out.trans ((zad (Below.refl _ _) nq).mono HB2.out.size)⟩
theorem zsD (vs : List Int)(t : TD)(vl : List Int)(bl : List Bool)(sv sl sb : Value)(ht : t.wf)(hok : okF t = true)(huv : ∀ v ∈ vs,U64 v)(hul : ∀ v ∈ vl,U64 v)(hlen : bl.length = vl.length)(hfew : vl.length ≤ 4000)(hfv : vs.length ≤ 4000)(hp : ∀ k ∈ zax t,0 ≤ k ∧ k < (vl.length : Int))(n0 : t.kind = 5)(w : World)(hvs : zbp w sv vs)(hvl : zbp w sl vl)(hbl : zcp w sb bl) :
  Calls prog 147 #[zaw t,sv,sl,sb] w fun e w' => zjj vs t vl bl e ∧ Below w.heap.size w w' := by
 have HX0 := Hd (Blk.new w 147 t.cells.toArray)
 have HB0 := Hd (zav w (.cells t.cells.toArray 147))
 have HVS := Hd (hvs.below HB0.out)
 have HVL := Hd (hvl.below HB0.out)
 have HBL := Hd (hbl.below HB0.out)
 have HOK := Hd hok
 have HTW := Hd ht
 have HUV := Hd huv
 have HUL := Hd hul
 obtain ⟨r,hr⟩ : ∃ r,zgm vs t (fun k => vl.getD k.toNat 0) (fun k => bl.getD k.toNat false) = r := ⟨_,rfl⟩;unfold zjj;rw [hr];unfold zgm at hr;dsimp only at hr;rw [if_neg (by omega),if_neg (by omega),if_neg (by omega),if_neg (by omega),if_neg (by omega)] at hr;have hpa := hp t.a (by unfold zax; simp [n0]);obtain ⟨adxa,cxa,ja,exa,hcxa,hja,hla,hxa⟩ := HVL.out.at_ hpa.1 hpa.2;obtain ⟨adba,cba,ka,eba,hcba,hka,hlba,hba⟩ := HBL.out.at_ (k := t.a) hpa.1 (by rw [hlen]; exact hpa.2);obtain rfl : ja = ka := by omega
 have HWa := Hd (zcv hul t.a.toNat)
 generalize vl.getD t.a.toNat 0 = xa at hxa HWa hr;generalize bl.getD t.a.toNat false = ba at hba hr;have hpb := hp t.b (by unfold zax; simp [n0]);obtain ⟨adxb,cxb,jb,exb,hcxb,hjb,hlb,hxb⟩ := HVL.out.at_ hpb.1 hpb.2;obtain ⟨adbb,cbb,kb,ebb,hcbb,hkb,hlbb,hbb⟩ := HBL.out.at_ (k := t.b) hpb.1 (by rw [hlen]; exact hpb.2);obtain rfl : jb = kb := by omega
 have HWb := Hd (zcv hul t.b.toNat)
 generalize vl.getD t.b.toNat 0 = xb at hxb HWb hr;generalize bl.getD t.b.toNat false = bb at hbb hr;have hpc := hp t.c (by unfold zax; simp [n0]);obtain ⟨adxc,cxc,jc,exc,hcxc,hjc,hlc,hxc⟩ := HVL.out.at_ hpc.1 hpc.2;obtain ⟨adbc,cbc,kc,ebc,hcbc,hkc,hlbc,hbc⟩ := HBL.out.at_ (k := t.c) hpc.1 (by rw [hlen]; exact hpc.2);obtain rfl : jc = kc := by omega
 have HWc := Hd (zcv hul t.c.toNat)
 generalize vl.getD t.c.toNat 0 = xc at hxc HWc hr;generalize bl.getD t.c.toNat false = bc at hbc hr;subst exa eba;injection exb with e1 e2 e3
 injection e1 with e1
 subst e1 e3;injection ebb with e1 e2 e3
 injection e1 with e1
 subst e1 e3;clear e2;injection exc with e1 e2 e3
 injection e1 with e1
 subst e1 e3;injection ebc with e1 e2 e3
 injection e1 with e1
 subst e1 e3;clear e2;obtain ⟨m,hm⟩ : ∃ m,vl.length = m := ⟨_,rfl⟩;rw [hlen] at hcba hlba hcbb hlbb hcbc hlbc ⊢;rw [hm] at hcxa hla hcxb hlb hcxc hlc hcba hlba hcbb hlbb hcbc hlbc ⊢;have hjxa : ja < cxa := by omega
 have hjba : ja < cba := by omega
 have HJa := Hd hja
 have hjxb : jb < cxa := by omega
 have hjbb : jb < cba := by omega
 have HJb := Hd hjb
 have hjxc : jc < cxa := by omega
 have hjbc : jc < cba := by omega
 have HJc := Hd hjc
 clear hpa hpb hpc hvs hvl hbl hp hul huv
 cases hxz : (xa != 0)
 ·have hz : (xa == 0) = true := by simpa using hxz
  rw [hz,cond_true] at hr;subst hr;unfold zaw;go_enter func147,ntmps147;go_upto_region 1 with fail
  generalize w.alloc (.cells t.cells.toArray 147) = w1 at HX0 HB0 HVS HVL HBL hxa hba hxb hbb hxc hbc ⊢;obtain ⟨bx,hbx⟩ : ∃ b,w.heap.size = b := ⟨_,rfl⟩;rw [hbx] at HX0 ⊢;have q0 := HX0.out.cell 0;have q4 := HX0.out.cell 4;have q5 := HX0.out.cell 5;have q6 := HX0.out.cell 6;simp [TD.cells] at q0 q4 q5 q6;rw [hja] at q4;rw [hjb] at q5;rw [hjc] at q6
  cases ba
  ·cases bb
   ·cases bc
    ·go_wp2
     go_quiet (fail)
     go_wp2;exact bodyPost_ret (v := .tuple #[.int .u64 xc,.bool (!false && !false && !false)]) (by simp [results,results147,go_sem]) rfl ⟨rfl,HB0.out.trans ((zad (Below.refl _ _) nq).mono HB0.out.size)⟩
    ·go_wp2
     go_quiet (fail)
     go_wp2;exact bodyPost_ret (v := .tuple #[.int .u64 xc,.bool (!false && !false && !true)]) (by simp [results,results147,go_sem]) rfl ⟨rfl,HB0.out.trans ((zad (Below.refl _ _) nq).mono HB0.out.size)⟩
   ·go_wp2
    go_quiet (fail)
    go_wp2;exact bodyPost_ret (v := .tuple #[.int .u64 xc,.bool (!false && !true && !bc)]) (by simp [results,results147,go_sem]) rfl ⟨rfl,HB0.out.trans ((zad (Below.refl _ _) nq).mono HB0.out.size)⟩
  ·go_wp2
   go_quiet (fail)
   go_wp2;exact bodyPost_ret (v := .tuple #[.int .u64 xc,.bool (!true && !bb && !bc)]) (by simp [results,results147,go_sem]) rfl ⟨rfl,HB0.out.trans ((zad (Below.refl _ _) nq).mono HB0.out.size)⟩
 ·have hz : (xa == 0) = false := by simpa using hxz
  rw [hz,cond_false] at hr;subst hr;unfold zaw;go_enter func147,ntmps147;go_upto_region 1 with fail
  generalize w.alloc (.cells t.cells.toArray 147) = w1 at HX0 HB0 HVS HVL HBL hxa hba hxb hbb hxc hbc ⊢;obtain ⟨bx,hbx⟩ : ∃ b,w.heap.size = b := ⟨_,rfl⟩;rw [hbx] at HX0 ⊢;have q0 := HX0.out.cell 0;have q4 := HX0.out.cell 4;have q5 := HX0.out.cell 5;have q6 := HX0.out.cell 6;simp [TD.cells] at q0 q4 q5 q6;rw [hja] at q4;rw [hjb] at q5;rw [hjc] at q6
  cases ba
  ·cases bb
   ·cases bc
    ·go_wp2
     go_quiet (fail)
     go_wp2;exact bodyPost_ret (v := .tuple #[.int .u64 xb,.bool (!false && !false && !false)]) (by simp [results,results147,go_sem]) rfl ⟨rfl,HB0.out.trans ((zad (Below.refl _ _) nq).mono HB0.out.size)⟩
    ·go_wp2
     go_quiet (fail)
     go_wp2;exact bodyPost_ret (v := .tuple #[.int .u64 xb,.bool (!false && !false && !true)]) (by simp [results,results147,go_sem]) rfl ⟨rfl,HB0.out.trans ((zad (Below.refl _ _) nq).mono HB0.out.size)⟩
   ·go_wp2
    go_quiet (fail)
    go_wp2;exact bodyPost_ret (v := .tuple #[.int .u64 xb,.bool (!false && !true && !bc)]) (by simp [results,results147,go_sem]) rfl ⟨rfl,HB0.out.trans ((zad (Below.refl _ _) nq).mono HB0.out.size)⟩
  ·go_wp2
   go_quiet (fail)
   go_wp2;exact bodyPost_ret (v := .tuple #[.int .u64 xb,.bool (!true && !bb && !bc)]) (by simp [results,results147,go_sem]) rfl ⟨rfl,HB0.out.trans ((zad (Below.refl _ _) nq).mono HB0.out.size)⟩
end
end Go.Proofs.YtepagfkkjlbipaaGreat
