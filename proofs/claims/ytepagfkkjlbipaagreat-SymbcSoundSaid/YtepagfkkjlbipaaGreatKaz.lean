/-
  Parts of the proof of SymbcSound. Conditions: those written in each statement.
-/
import Derived.Test.YtepagfkkjlbipaaGreatKay
set_option linter.unusedVariables false
set_option linter.unusedSimpArgs false
set_option maxHeartbeats 64000000
set_option maxRecDepth 100000
namespace Go.Proofs.YtepagfkkjlbipaaGreat
open Tryz
section
open Go.RowKit
section
variable {base g b : Nat} {F G F1 G1 : Nat → Prop} {m : SM} {ex : ExD} {w : World}
theorem build_if (n n0 n1 : Int) (w : World) : (Instr.build 63 #[(0, .int .i8 2), (1, .int .i64 n), (2, .int .i64 n0), (3, .int .i64 n1)]).run prog w = .ok (.agg (exC ⟨2, n, n0, n1⟩).toArray) w := run_build w 63 _ _ (by kernel_rfl)
theorem NT.chg {w' : World} {ad : Addr} {n0 n1 : Int} (h : NT ad n0 n1 w) (hc : Chg G w w') (hb : ad.block < w.heap.size) (hg : ¬ G ad.block) : NT ad n0 n1 w' :=
 ⟨(World.cell?_of_block (by rw [block_of_add]; exact hc.block _ hb hg)).trans h.1, (World.cell?_of_block (by rw [block_of_add]; exact hc.block _ hb hg)).trans h.2⟩
theorem NumsF.far {nn cn : Nat} {ad : Addr} {nx : List Int} (h : NumsF w G (.slice (some ad) nn cn) nx) (hn : 0 < nn) : ad.block < w.heap.size ∧ ¬ G ad.block := by
 obtain ⟨A', c', h1, h2, h3, h4, h5⟩ := h
 injection h1 with h0 h1 hc
 subst h0 h1 hc
 obtain ⟨ad', e, hb, hf, _⟩ := h3.2 hn
 injection e with e
 subst e
 exact ⟨hb, hf⟩
theorem ends_if (h : MA base g b F G m ex w) (x : ID) (hx : x.wf) (hk : x.kind = 3) (ho : x.op ≠ 10) (hdst : 0 ≤ x.dst ∧ x.dst ≤ 10) (hs : x.byReg = true → 0 ≤ x.src ∧ x.src ≤ 10) (hwd : -128 < x.width) {An : Option Addr} {nn cn : Nat} {nx : List Int} (hn : NumsF w G (.slice An nn cn) nx) (hnn : 1 < nn) (he : nx.getD 0 0 ≠ nx.getD 1 0) : Calls prog 48 #[.pointer (some ⟨b, 0, none⟩), .agg x.cells.toArray, .slice An nn cn] w (MEnd base g b G (m.ends x nx).2 w (m.ends x nx).1) := by
 have hb0 : base ≤ w.heap.size := Nat.le_trans (h.low b h.nb.2).1 (Nat.le_of_lt h.lt)
 have hbl := (Below.refl w.heap.size w).alloc (Nat.le_refl _) (.cells x.cells.toArray 47)
 have HG := Hd (MG.of_below h hbl)
 have HB0 := Hd (show Blk (w.alloc (.cells x.cells.toArray 47)) w.heap.size 47 x.cells.toArray from Blk.new w 47 x.cells.toArray)
 have HLOW := Hd (fun (e : G w.heap.size) => by have := (h.low _ e).2; omega : ¬ G w.heap.size)
 have HNF := Hd (hn.chg (G := G) (Chg.of_below hbl) (fun k q => .inr q) (fun k q => .inl q))
 obtain ⟨n0, hn0⟩ : ∃ n, nx.getD 0 0 = n := ⟨_, rfl⟩
 obtain ⟨n1, hn1⟩ : ∃ n, nx.getD 1 0 = n := ⟨_, rfl⟩
 obtain ⟨q, hq⟩ : ∃ q, m.second x = q := ⟨_, rfl⟩
 have HN := Hd (fun (W : World) (F G : Nat → Prop) (hW : MA base g b F G m ex W) => by have := second_any hW x hx hs hwd; rw [hq] at this; exact this)
 have hqi : I64 q.2 := by rw [← hq]; exact second_i64 h hs
 have hqw : WfP q.1.p ∧ ∀ t ∈ q.1.p.T, t.wf := by rw [← hq]; exact second_wf h x
 have HRQ := Hd (show q.1.regs = m.regs by rw [← hq]; exact second_regs m x)
 obtain ⟨d, hr, hd⟩ := I8.nat hdst
 have hri := h.reg_i64 hd
 have hrr : m.reg x.dst = m.regs.getD d 0 := by unfold SM.reg; rw [hr, Int.toNat_natCast]
 obtain ⟨an, han⟩ : ∃ n, m.regs.getD d 0 = n := ⟨_, rfl⟩
 rw [han] at hri hrr
 obtain ⟨rs, hrs⟩ : ∃ r, condV q.1.p x.op 64 an q.2 = r := ⟨_, rfl⟩
 have HC := Hd (fun (W : World) (F : Nat → Prop) (hW : PoolAt W base F g q.1.p) (hb : base ≤ W.heap.size) => by have hf := condV_some q.1.p x.op 64 an q.2; rw [hrs] at hf; exact cond_all 2 x.op 64 an q.2 hri hqi F q.1.p rs hf W hW hb)
 have HON := Hd (show I64 rs.2.1 by rw [← hrs]; exact condV_num hqw.1 hqw.2 _ _ hri hqi)
 have HNX := Hd (show m.ends x nx = (⟨rs.1, q.1.regs, q.1.evs, if q.1.err = 0 then rs.2.2 else q.1.err⟩, ⟨2, rs.2.1, n0, n1⟩) by
  unfold SM.ends
  rw [if_neg (by omega), if_pos ⟨hk, he⟩]
  dsimp only
  rw [hq, hrr, hn0, hn1]
  unfold SM.ask
  rw [if_neg ho, hrs]
  rfl)
 obtain ⟨mq, nq⟩ := q
 obtain ⟨rp, rn, re⟩ := rs
 dsimp only at HN HRQ HC HON HNX
 obtain ⟨ev, hev⟩ : ∃ e, (if mq.err = 0 then re else mq.err) = e := ⟨_, rfl⟩
 rw [hev] at HNX
 have HEV := Hd hev
 clear hev
 obtain ⟨ad, hAn, _, hc0⟩ := HNF.out.at0 (k := 0) (by omega)
 subst hAn
 rw [hn0] at hc0
 obtain ⟨ad', hAn, _, hc1⟩ := HNF.out.at0 (k := 1) (by omega)
 injection hAn with hAn
 subst hAn
 rw [hn1] at hc1
 have hne : (n0 != n1) = true := by rw [← hn0, ← hn1]; simpa using he
 have hk6' : (x.kind == 6) = false := by rw [hk]; rfl
 have hk3' : (x.kind == 3) = true := by rw [hk]; rfl
 have ho' : (x.op == 10) = false := by simpa using ho
 have HAB := Hd (HNF.out.far (by omega))
 have HNT := Hd (show NT ad n0 n1 (w.alloc (.cells x.cells.toArray 47)) from ⟨hc0, hc1⟩)
 have HM := Hd (MG.refl HG.out.at_)
 have HNN := Hd (And.intro (show 0 < nn by omega) (show 1 < nn by omega))
 have HRD := Hd hr
 have HD := Hd hd
 have HAN := Hd han
 have hb1 := Nat.le_trans hb0 HG.out.size
 obtain ⟨kd, hkd⟩ : ∃ k, x.kind = k := ⟨_, rfl⟩
 obtain ⟨oc, hoc⟩ : ∃ k, x.op = k := ⟨_, rfl⟩
 rw [hkd] at hk6' hk3'
 rw [hoc] at ho'
 have HOC := Hd hoc
 have b0 : (w.alloc (.cells x.cells.toArray 47)).cell? ⟨w.heap.size, 0, none⟩ = some (.int .i8 kd) := by rw [← hkd]; exact HB0.out.cell 0
 clear h hk hb0 hbl hn hn0 hn1 he hc0 hc1 hkd HNF hoc hr hd hq hqi hqw hri hrr hrs hx hs hwd hdst ho han 
 go_enter func48, ntmps48
 go_upto_region 1 with fail
 generalize (w.alloc (.cells x.cells.toArray 47)) = Wd at HG HM HB0 HNT HAB b0 hb1 ⊢
 generalize w.heap.size = bx at HB0 HLOW b0 ⊢
 have HB1 := Hd b0
 go_upto_region 2 with fail
 clear b0
 refine wp_region_E (fun w' => w'.cell? ⟨bx, 0, none⟩ = some (.int .i8 kd) ∧ NT ad n0 n1 w') (fun _ => True) [] (by kernel_rfl) ?_
 have HT := Hd (show Wd.drew.cell? ⟨bx, 0, none⟩ = some (.int .i8 kd) ∧ NT ad n0 n1 Wd.drew from ⟨HB1.out, HNT.out⟩)
 replace HM := Hd (HM.out.step ((Below.refl _ _).drew))
 generalize Wd.drew = We at HM HT ⊢
 refine ef 0 ⟨bx, 0, none⟩ ⟨bx, 0, none⟩ (bT HT) ?_
 refine el false 1 ⟨bx, 0, none⟩ (.int .i8 kd) underlying30 (fun w hS => hS.1.1) (bT HT) ?_
 refine eg 2 (.bool true) (bT HT) ?_
 refine em 3 (.bool true) (bT HT) ?_
 refine em 4 (.slice (some ad) nn cn) (bT HT) ?_
 refine ej 5 (.slice (some ad) nn cn) (.int .i64 0) (.pointer (some (ad.add 0))) (run_ixs (k := 0) rfl HNN.out.1) (bT HT) ?_
 refine el false 6 (ad.add 0) (.int .i64 n0) underlying3 (fun w hS => hS.1.2.1) (bT HT) ?_
 refine em 7 (.slice (some ad) nn cn) (bT HT) ?_
 refine ej 8 (.slice (some ad) nn cn) (.int .i64 1) (.pointer (some (ad.add 1))) (run_ixs (k := 1) rfl HNN.out.2) (bT HT) ?_
 refine el false 9 (ad.add 1) (.int .i64 n1) underlying3 (fun w hS => hS.1.2.2) (bT HT) ?_
 refine eg 10 (.bool true) (bT HT) ?_
 refine ep 11 true (.bool true) (bT HT) ?_
 refine eS 12 (.bool true) (bT HT) ?_
 refine wpAnyE_done (by kernel_rfl) ?_ _
 clear HT HB1
 go_upto_region 5 with fail
 refine wp_region_E (fun w' => Blk w' bx 47 x.cells.toArray ∧ NT ad n0 n1 w') (MT b g m.regs) [] (by kernel_rfl) ?_
 replace HM := Hd (HM.out.step ((Below.refl _ _).drew))
 generalize We.drew = Wf at HM ⊢
 have HT := Hd (⟨(HM.out.blk HB0.out HLOW.out).1, HNT.out.chg HM.out.chg HAB.out.1 HAB.out.2⟩ : Blk Wf bx 47 x.cells.toArray ∧ NT ad n0 n1 Wf)
 have HS := Hd (show MT b g m.regs Wf from HM.out.at_.mt)
 refine ef 0 ⟨bx, 0, none⟩ ⟨bx, 1, none⟩ (bS HT HS) ?_
 refine el false 1 ⟨bx, 1, none⟩ (.int .i8 x.op) underlying30 (fun w hS => (hS.1.1.cell 1)) (bS HT HS) ?_
 refine em 2 (.pointer (some ⟨b, 0, none⟩)) (bS HT HS) ?_
 refine ef 3 ⟨bx, 0, none⟩ ⟨bx, 5, none⟩ (bS HT HS) ?_
 refine el false 4 ⟨bx, 5, none⟩ (.int .i8 x.dst) underlying30 (fun w hS => (hS.1.1.cell 5)) (bS HT HS) ?_
 refine ez 5 ⟨b, 0, none⟩ (bS HT HS) ?_
 refine ef 6 ⟨b, 0, none⟩ ⟨b, 1, none⟩ (bS HT HS) ?_
 refine ef 7 ⟨b, 1, none⟩ ⟨b, 1, none⟩ (bS HT HS) ?_
 refine ej 8 (.pointer (some ⟨b, 1, none⟩)) (.int .i8 x.dst) (.pointer (some ⟨b, 1 + d, none⟩)) (run_at11 b HRD.out HD.out) (bS HT HS) ?_
 refine el true 9 ⟨b, 1 + d, none⟩ (.int .i64 (m.regs.getD d 0)) underlying3 (fun w hS => ((hS.2 rfl).2 d HD.out)) (bS HT HS) ?_
 refine em 10 (.pointer (some ⟨b, 0, none⟩)) (bS HT HS) ?_
 refine eL false 11 ⟨bx, 0, none⟩ x.cells (fun w hS => blk_list hS.1.1) underlying47 sizIn (bS HT HS) ?_
 refine eo 12 fun o K h2 h3 hKK => ?_
 unfold Oper.wp execOp
 simp only [h3]
 go_simp
 refine (HN.out _ _ _ HM.out.at_).mono ?_
 rintro e wq ⟨rfl, _, Fq, Gq, hmq⟩
 replace HM := Hd (HM.out.trans hmq)
 replace HT := Hd (⟨(HM.out.blk HB0.out HLOW.out).1, HNT.out.chg HM.out.chg HAB.out.1 HAB.out.2⟩ : Blk wq bx 47 x.cells.toArray ∧ NT ad n0 n1 wq)
 replace HS := Hd (show MT b g m.regs wq from HRQ.out ▸ HM.out.at_.mt)
 clear hmq
 dsimp only
 refine hKK _ _ (bS HT HS) ?_
 clear hKK h2 h3 K o
 try simp only [pt, pn, sL]
 refine eS 13 (.int .i8 x.op) (bS HT HS) ?_
 refine eS 14 (.int .i64 (m.regs.getD d 0)) (bS HT HS) ?_
 refine eS 15 (.int .i64 nq) (bS HT HS) ?_
 refine wpAnyE_done (by kernel_rfl) ?_ _
 simp only [HAN.out, HOC.out]
 clear HT HS
 go_upto_region 8 with fail
 refine wp_region_E (fun w' => Blk w' bx 47 x.cells.toArray ∧ NT ad n0 n1 w') (MT b g m.regs) [23] (by kernel_rfl) ?_
 replace HM := Hd (HM.out.step ((Below.refl _ _).drew))
 generalize World.drew _ = Wg at HM ⊢
 have HT := Hd (⟨(HM.out.blk HB0.out HLOW.out).1, HNT.out.chg HM.out.chg HAB.out.1 HAB.out.2⟩ : Blk Wg bx 47 x.cells.toArray ∧ NT ad n0 n1 Wg)
 have HS := Hd (show MT b g m.regs Wg from HRQ.out ▸ HM.out.at_.mt)
 rw [HOC.out] at HC
 refine em 0 (.pointer (some ⟨b, 0, none⟩)) (bS HT HS) ?_
 refine em 1 (.pointer (some ⟨b, 0, none⟩)) (bS HT HS) ?_
 refine em 2 (.pointer (some ⟨b, 0, none⟩)) (bS HT HS) ?_
 refine ez 3 ⟨b, 0, none⟩ (bS HT HS) ?_
 refine ef 4 ⟨b, 0, none⟩ ⟨b, 0, none⟩ (bS HT HS) ?_
 refine el true 5 ⟨b, 0, none⟩ (.pointer (some ⟨g, 0, none⟩)) underlying50 (fun w hS => (hS.2 rfl).1) (bS HT HS) ?_
 refine em 6 (.int .i8 oc) (bS HT HS) ?_
 refine em 7 (.int .i64 an) (bS HT HS) ?_
 refine em 8 (.int .i64 nq) (bS HT HS) ?_
 refine em 13 (.slice (some ad) nn cn) (bS HT HS) ?_
 refine ej 14 (.slice (some ad) nn cn) (.int .i64 0) (.pointer (some (ad.add 0))) (run_ixs (k := 0) rfl HNN.out.1) (bS HT HS) ?_
 refine el false 15 (ad.add 0) (.int .i64 n0) underlying3 (fun w hS => hS.1.2.1) (bS HT HS) ?_
 refine em 16 (.slice (some ad) nn cn) (bS HT HS) ?_
 refine ej 17 (.slice (some ad) nn cn) (.int .i64 1) (.pointer (some (ad.add 1))) (run_ixs (k := 1) rfl HNN.out.2) (bS HT HS) ?_
 refine el false 18 (ad.add 1) (.int .i64 n1) underlying3 (fun w hS => hS.1.2.2) (bS HT HS) ?_
 refine eo 9 fun o K h2 h3 hKK => ?_
 unfold Oper.wp execOp
 simp only [h3]
 go_simp
 refine (HC.out _ _ HM.out.at_.pool (Nat.le_trans hb1 HM.out.size)).mono ?_
 rintro e wq ⟨rfl, Fq, hpq⟩
 replace HM := Hd (HM.out.trans (HM.out.at_.pg hpq))
 replace HT := Hd (⟨(HM.out.blk HB0.out HLOW.out).1, HNT.out.chg HM.out.chg HAB.out.1 HAB.out.2⟩ : Blk wq bx 47 x.cells.toArray ∧ NT ad n0 n1 wq)
 replace HS := Hd (show MT b g m.regs wq from HRQ.out ▸ HM.out.at_.mt)
 clear hpq
 dsimp only
 refine hKK _ _ (bS HT HS) ?_
 clear hKK h2 h3 K o
 try simp only [pt, pn, sL]
 refine eg 10 (.int .i64 rn) (bS HT HS) ?_
 refine eg 11 (.int .i64 re) (bS HT HS) ?_
 refine eo 12 fun o K h2 h3 hKK => ?_
 unfold Oper.wp execOp
 simp only [h3]
 go_simp
 refine (made_any HM.out.at_ rn re HON.out).mono ?_
 rintro e wq ⟨rfl, _, Fq, Gq, hmq⟩
 replace HM := Hd (HM.out.trans hmq)
 replace HT := Hd (⟨(HM.out.blk HB0.out HLOW.out).1, HNT.out.chg HM.out.chg HAB.out.1 HAB.out.2⟩ : Blk wq bx 47 x.cells.toArray ∧ NT ad n0 n1 wq)
 replace HS := Hd (show MT b g m.regs wq from HRQ.out ▸ HM.out.at_.mt)
 clear hmq
 rw [HEV.out] at HM
 dsimp only
 refine hKK _ _ (bS HT HS) ?_
 clear hKK h2 h3 K o
 try simp only [pt, pn, sL]
 refine E_build 19 (some 88) _ _ (#[(0, .int .i8 2), (1, .int .i64 rn), (2, .int .i64 n0), (3, .int .i64 n1)]) (.agg (exC ⟨2, rn, n0, n1⟩).toArray) rfl (by kernel_rfl) (by rfl) (fun _ _ _ h => h) (by simp only [List.map_toArray, List.map_cons, List.map_nil]; rfl) (build_if rn n0 n1) (bS HT HS) ?_
 simp only [pt, pn, sL]
 refine ez 20 ⟨b, 0, none⟩ (bS HT HS) ?_
 refine ef 21 ⟨b, 0, none⟩ ⟨b, 1, none⟩ (bS HT HS) ?_
 refine ef 22 ⟨b, 1, none⟩ ⟨b, 13, none⟩ (bS HT HS) ?_
 obtain ⟨es, qe, hBs, _⟩ := HM.out.at_.box
 have HMQ := Hd (HM.out.trans (HM.out.at_.exit2 hBs ⟨2, rn, n0, n1⟩ (setRow_heap wq b _ _ 114 (0, 0) hBs) (grown_setRow wq b _)))
 refine E_one 23 (by kernel_rfl) (StepE.store_at 23 63 _ _ ⟨b, 13, none⟩ (.agg (exC ⟨2, rn, n0, n1⟩).toArray) _ rfl (by rfl) (by rfl) (by rfl) (run_storeVar_at wq b 13 114 63 _ (exC ⟨2, rn, n0, n1⟩) _ hBs rfl sizX (by rw [mC_len HM.out.at_.len]; simp [exC]) (exC_one _)) (.after ⟨(HMQ.out.blk HB0.out HLOW.out).1, HNT.out.chg HMQ.out.chg HAB.out.1 HAB.out.2⟩ (by kernel_rfl)) ?_)
 clear hBs
 simp only [pt, pn, sL]
 refine wpAnyE_done (by kernel_rfl) ?_ _
 go_wp2
 go_end0
 rw [HNX.out]
 exact ⟨rfl, _, _, HG.out.trans HMQ.out⟩
theorem ends_set (h : MA base g b F G m ex w) (x : ID) (hx : x.wf) (hk : x.kind = 3) (ho : x.op = 10) (hdst : 0 ≤ x.dst ∧ x.dst ≤ 10) (hs : x.byReg = true → 0 ≤ x.src ∧ x.src ≤ 10) (hwd : -128 < x.width) {An : Option Addr} {nn cn : Nat} {nx : List Int} (hn : NumsF w G (.slice An nn cn) nx) (hnn : 1 < nn) (he : nx.getD 0 0 ≠ nx.getD 1 0) : Calls prog 48 #[.pointer (some ⟨b, 0, none⟩), .agg x.cells.toArray, .slice An nn cn] w (MEnd base g b G (m.ends x nx).2 w (m.ends x nx).1) := by
 have hb0 : base ≤ w.heap.size := Nat.le_trans (h.low b h.nb.2).1 (Nat.le_of_lt h.lt)
 have hbl := (Below.refl w.heap.size w).alloc (Nat.le_refl _) (.cells x.cells.toArray 47)
 have HG := Hd (MG.of_below h hbl)
 have HB0 := Hd (show Blk (w.alloc (.cells x.cells.toArray 47)) w.heap.size 47 x.cells.toArray from Blk.new w 47 x.cells.toArray)
 have HLOW := Hd (fun (e : G w.heap.size) => by have := (h.low _ e).2; omega : ¬ G w.heap.size)
 have HNF := Hd (hn.chg (G := G) (Chg.of_below hbl) (fun k q => .inr q) (fun k q => .inl q))
 obtain ⟨n0, hn0⟩ : ∃ n, nx.getD 0 0 = n := ⟨_, rfl⟩
 obtain ⟨n1, hn1⟩ : ∃ n, nx.getD 1 0 = n := ⟨_, rfl⟩
 obtain ⟨q, hq⟩ : ∃ q, m.second x = q := ⟨_, rfl⟩
 have HN := Hd (fun (W : World) (F G : Nat → Prop) (hW : MA base g b F G m ex W) => by have := second_any hW x hx hs hwd; rw [hq] at this; exact this)
 have hqi : I64 q.2 := by rw [← hq]; exact second_i64 h hs
 have hqw : WfP q.1.p ∧ ∀ t ∈ q.1.p.T, t.wf := by rw [← hq]; exact second_wf h x
 have HRQ := Hd (show q.1.regs = m.regs by rw [← hq]; exact second_regs m x)
 obtain ⟨d, hr, hd⟩ := I8.nat hdst
 have hri := h.reg_i64 hd
 have hrr : m.reg x.dst = m.regs.getD d 0 := by unfold SM.reg; rw [hr, Int.toNat_natCast]
 obtain ⟨an, han⟩ : ∃ n, m.regs.getD d 0 = n := ⟨_, rfl⟩
 rw [han] at hri hrr
 obtain ⟨ts, hts⟩ : ∃ r, opV q.1.p 5 64 an q.2 = r := ⟨_, rfl⟩
 have HO := Hd (fun (W : World) (F : Nat → Prop) (hW : PoolAt W base F g q.1.p) (hb : base ≤ W.heap.size) => by obtain ⟨f, hf⟩ := opV_some hW.wf hW.rng 5 64 an q.2; rw [hts] at hf; exact op_all f 5 64 an q.2 hri hqi F q.1.p ts hf W hW hb)
 have hti : I64 ts.2.1 := by rw [← hts]; exact opV_num hqw.1 hqw.2 _ _ _ _
 have htw : WfP ts.1 ∧ ∀ t ∈ ts.1.T, t.wf := by
  obtain ⟨f, hf⟩ := opV_some hqw.1 hqw.2 5 64 an q.2
  have hg := op_good f hqw.1 hqw.2 hf
  rw [hts] at hg
  exact ⟨hg.wf, hg.rng⟩
 have HTI := Hd hti
 obtain ⟨z, hz⟩ : ∃ z, SM.num ⟨ts.1, q.1.regs, q.1.evs, if q.1.err = 0 then ts.2.2 else q.1.err⟩ 0 = z := ⟨_, rfl⟩
 have HZ := Hd (fun (W : World) (F G : Nat → Prop) (hW : MA base g b F G ⟨ts.1, q.1.regs, q.1.evs, if q.1.err = 0 then ts.2.2 else q.1.err⟩ ex W) => by have := num_any hW 0 i64_zero; rw [hz] at this; exact this)
 have hzi : I64 z.2 := by rw [← hz]; exact putN_i64 htw.1 _
 have hzw : WfP z.1.p ∧ ∀ t ∈ z.1.p.T, t.wf := by rw [← hz]; exact put_facts htw.1 htw.2 (constT_wf (wrap_u64 0))
 have HRZ := Hd (show z.1.regs = q.1.regs by rw [← hz]; rfl)
 obtain ⟨rs, hrs⟩ : ∃ r, condV z.1.p 1 64 ts.2.1 z.2 = r := ⟨_, rfl⟩
 have HC := Hd (fun (W : World) (F : Nat → Prop) (hW : PoolAt W base F g z.1.p) (hb : base ≤ W.heap.size) => by have hf := condV_some z.1.p 1 64 ts.2.1 z.2; rw [hrs] at hf; exact cond_all 2 1 64 ts.2.1 z.2 hti hzi F z.1.p rs hf W hW hb)
 have HON := Hd (show I64 rs.2.1 by rw [← hrs]; exact condV_num hzw.1 hzw.2 _ _ hti hzi)
 have HNX := Hd (show m.ends x nx = (⟨rs.1, z.1.regs, z.1.evs, if z.1.err = 0 then rs.2.2 else z.1.err⟩, ⟨2, rs.2.1, n0, n1⟩) by
  unfold SM.ends
  rw [if_neg (by omega), if_pos ⟨hk, he⟩]
  dsimp only
  rw [hq, hrr, hn0, hn1]
  unfold SM.ask
  rw [if_pos ho]
  dsimp only
  rw [hts]
  unfold SM.keep
  dsimp only
  rw [hz, hrs])
 obtain ⟨mq, nq⟩ := q
 obtain ⟨tp, tn, te⟩ := ts
 obtain ⟨mz, nz⟩ := z
 obtain ⟨rp, rn, re⟩ := rs
 dsimp only at HN HRQ HO HTI HZ HRZ HC HON HNX
 obtain ⟨ev, hev⟩ : ∃ e, (if mz.err = 0 then re else mz.err) = e := ⟨_, rfl⟩
 rw [hev] at HNX
 have HEV := Hd hev
 clear hev
 obtain ⟨ad, hAn, _, hc0⟩ := HNF.out.at0 (k := 0) (by omega)
 subst hAn
 rw [hn0] at hc0
 obtain ⟨ad', hAn, _, hc1⟩ := HNF.out.at0 (k := 1) (by omega)
 injection hAn with hAn
 subst hAn
 rw [hn1] at hc1
 have hne : (n0 != n1) = true := by rw [← hn0, ← hn1]; simpa using he
 have hk6' : (x.kind == 6) = false := by rw [hk]; rfl
 have hk3' : (x.kind == 3) = true := by rw [hk]; rfl
 have ho' : (x.op == 10) = true := by simpa using ho
 have HAB := Hd (HNF.out.far (by omega))
 have HNT := Hd (show NT ad n0 n1 (w.alloc (.cells x.cells.toArray 47)) from ⟨hc0, hc1⟩)
 have HM := Hd (MG.refl HG.out.at_)
 have HNN := Hd (And.intro (show 0 < nn by omega) (show 1 < nn by omega))
 have HRD := Hd hr
 have HD := Hd hd
 have HAN := Hd han
 have hb1 := Nat.le_trans hb0 HG.out.size
 obtain ⟨kd, hkd⟩ : ∃ k, x.kind = k := ⟨_, rfl⟩
 obtain ⟨oc, hoc⟩ : ∃ k, x.op = k := ⟨_, rfl⟩
 rw [hkd] at hk6' hk3'
 rw [hoc] at ho'
 have HOC := Hd hoc
 have b0 : (w.alloc (.cells x.cells.toArray 47)).cell? ⟨w.heap.size, 0, none⟩ = some (.int .i8 kd) := by rw [← hkd]; exact HB0.out.cell 0
 clear h hk hb0 hbl hn hn0 hn1 he hc0 hc1 hkd HNF hoc hr hd hq hqi hqw hri hrr hrs hx hs hwd hdst ho han hts hti htw hz hzi hzw
 go_enter func48, ntmps48
 go_upto_region 1 with fail
 generalize (w.alloc (.cells x.cells.toArray 47)) = Wd at HG HM HB0 HNT HAB b0 hb1 ⊢
 generalize w.heap.size = bx at HB0 HLOW b0 ⊢
 have HB1 := Hd b0
 go_upto_region 2 with fail
 clear b0
 refine wp_region_E (fun w' => w'.cell? ⟨bx, 0, none⟩ = some (.int .i8 kd) ∧ NT ad n0 n1 w') (fun _ => True) [] (by kernel_rfl) ?_
 have HT := Hd (show Wd.drew.cell? ⟨bx, 0, none⟩ = some (.int .i8 kd) ∧ NT ad n0 n1 Wd.drew from ⟨HB1.out, HNT.out⟩)
 replace HM := Hd (HM.out.step ((Below.refl _ _).drew))
 generalize Wd.drew = We at HM HT ⊢
 refine ef 0 ⟨bx, 0, none⟩ ⟨bx, 0, none⟩ (bT HT) ?_
 refine el false 1 ⟨bx, 0, none⟩ (.int .i8 kd) underlying30 (fun w hS => hS.1.1) (bT HT) ?_
 refine eg 2 (.bool true) (bT HT) ?_
 refine em 3 (.bool true) (bT HT) ?_
 refine em 4 (.slice (some ad) nn cn) (bT HT) ?_
 refine ej 5 (.slice (some ad) nn cn) (.int .i64 0) (.pointer (some (ad.add 0))) (run_ixs (k := 0) rfl HNN.out.1) (bT HT) ?_
 refine el false 6 (ad.add 0) (.int .i64 n0) underlying3 (fun w hS => hS.1.2.1) (bT HT) ?_
 refine em 7 (.slice (some ad) nn cn) (bT HT) ?_
 refine ej 8 (.slice (some ad) nn cn) (.int .i64 1) (.pointer (some (ad.add 1))) (run_ixs (k := 1) rfl HNN.out.2) (bT HT) ?_
 refine el false 9 (ad.add 1) (.int .i64 n1) underlying3 (fun w hS => hS.1.2.2) (bT HT) ?_
 refine eg 10 (.bool true) (bT HT) ?_
 refine ep 11 true (.bool true) (bT HT) ?_
 refine eS 12 (.bool true) (bT HT) ?_
 refine wpAnyE_done (by kernel_rfl) ?_ _
 clear HT HB1
 go_upto_region 5 with fail
 refine wp_region_E (fun w' => Blk w' bx 47 x.cells.toArray ∧ NT ad n0 n1 w') (MT b g m.regs) [] (by kernel_rfl) ?_
 replace HM := Hd (HM.out.step ((Below.refl _ _).drew))
 generalize We.drew = Wf at HM ⊢
 have HT := Hd (⟨(HM.out.blk HB0.out HLOW.out).1, HNT.out.chg HM.out.chg HAB.out.1 HAB.out.2⟩ : Blk Wf bx 47 x.cells.toArray ∧ NT ad n0 n1 Wf)
 have HS := Hd (show MT b g m.regs Wf from HM.out.at_.mt)
 refine ef 0 ⟨bx, 0, none⟩ ⟨bx, 1, none⟩ (bS HT HS) ?_
 refine el false 1 ⟨bx, 1, none⟩ (.int .i8 x.op) underlying30 (fun w hS => (hS.1.1.cell 1)) (bS HT HS) ?_
 refine em 2 (.pointer (some ⟨b, 0, none⟩)) (bS HT HS) ?_
 refine ef 3 ⟨bx, 0, none⟩ ⟨bx, 5, none⟩ (bS HT HS) ?_
 refine el false 4 ⟨bx, 5, none⟩ (.int .i8 x.dst) underlying30 (fun w hS => (hS.1.1.cell 5)) (bS HT HS) ?_
 refine ez 5 ⟨b, 0, none⟩ (bS HT HS) ?_
 refine ef 6 ⟨b, 0, none⟩ ⟨b, 1, none⟩ (bS HT HS) ?_
 refine ef 7 ⟨b, 1, none⟩ ⟨b, 1, none⟩ (bS HT HS) ?_
 refine ej 8 (.pointer (some ⟨b, 1, none⟩)) (.int .i8 x.dst) (.pointer (some ⟨b, 1 + d, none⟩)) (run_at11 b HRD.out HD.out) (bS HT HS) ?_
 refine el true 9 ⟨b, 1 + d, none⟩ (.int .i64 (m.regs.getD d 0)) underlying3 (fun w hS => ((hS.2 rfl).2 d HD.out)) (bS HT HS) ?_
 refine em 10 (.pointer (some ⟨b, 0, none⟩)) (bS HT HS) ?_
 refine eL false 11 ⟨bx, 0, none⟩ x.cells (fun w hS => blk_list hS.1.1) underlying47 sizIn (bS HT HS) ?_
 refine eo 12 fun o K h2 h3 hKK => ?_
 unfold Oper.wp execOp
 simp only [h3]
 go_simp
 refine (HN.out _ _ _ HM.out.at_).mono ?_
 rintro e wq ⟨rfl, _, Fq, Gq, hmq⟩
 replace HM := Hd (HM.out.trans hmq)
 replace HT := Hd (⟨(HM.out.blk HB0.out HLOW.out).1, HNT.out.chg HM.out.chg HAB.out.1 HAB.out.2⟩ : Blk wq bx 47 x.cells.toArray ∧ NT ad n0 n1 wq)
 replace HS := Hd (show MT b g m.regs wq from HRQ.out ▸ HM.out.at_.mt)
 clear hmq
 dsimp only
 refine hKK _ _ (bS HT HS) ?_
 clear hKK h2 h3 K o
 try simp only [pt, pn, sL]
 refine eS 13 (.int .i8 x.op) (bS HT HS) ?_
 refine eS 14 (.int .i64 (m.regs.getD d 0)) (bS HT HS) ?_
 refine eS 15 (.int .i64 nq) (bS HT HS) ?_
 refine wpAnyE_done (by kernel_rfl) ?_ _
 simp only [HAN.out, HOC.out]
 clear HT HS
 have c0 := HM.out.at_.cp
 go_wp2_with fail
 refine (HO.out _ _ HM.out.at_.pool (Nat.le_trans hb1 HM.out.size)).mono ?_
 rintro e wq ⟨rfl, Fq, hpq⟩
 replace HM := Hd (HM.out.trans (HM.out.at_.pg hpq))
 clear hpq c0
 go_wp2_with fail
 refine (made_any HM.out.at_ tn te HTI.out).mono ?_
 rintro e wr ⟨rfl, _, Fr, Gr, hmr⟩
 replace HM := Hd (HM.out.trans hmr)
 clear hmr
 go_wp2_with fail
 refine (HZ.out _ _ _ HM.out.at_).mono ?_
 rintro e ws ⟨rfl, _, Fs, Gs, hms⟩
 replace HM := Hd (HM.out.trans hms)
 clear hms
 go_upto_region 8 with fail
 refine wp_region_E (fun w' => Blk w' bx 47 x.cells.toArray ∧ NT ad n0 n1 w') (MT b g m.regs) [23] (by kernel_rfl) ?_
 replace HM := Hd (HM.out.step ((Below.refl _ _).drew))
 generalize ws.drew = Wg at HM ⊢
 replace HRQ := Hd (HRZ.out.trans HRQ.out)
 have HT := Hd (⟨(HM.out.blk HB0.out HLOW.out).1, HNT.out.chg HM.out.chg HAB.out.1 HAB.out.2⟩ : Blk Wg bx 47 x.cells.toArray ∧ NT ad n0 n1 Wg)
 have HS := Hd (show MT b g m.regs Wg from HRQ.out ▸ HM.out.at_.mt)
 refine em 0 (.pointer (some ⟨b, 0, none⟩)) (bS HT HS) ?_
 refine em 1 (.pointer (some ⟨b, 0, none⟩)) (bS HT HS) ?_
 refine em 2 (.pointer (some ⟨b, 0, none⟩)) (bS HT HS) ?_
 refine ez 3 ⟨b, 0, none⟩ (bS HT HS) ?_
 refine ef 4 ⟨b, 0, none⟩ ⟨b, 0, none⟩ (bS HT HS) ?_
 refine el true 5 ⟨b, 0, none⟩ (.pointer (some ⟨g, 0, none⟩)) underlying50 (fun w hS => (hS.2 rfl).1) (bS HT HS) ?_
 refine em 6 (.int .i8 1) (bS HT HS) ?_
 refine em 7 (.int .i64 tn) (bS HT HS) ?_
 refine em 8 (.int .i64 nz) (bS HT HS) ?_
 refine em 13 (.slice (some ad) nn cn) (bS HT HS) ?_
 refine ej 14 (.slice (some ad) nn cn) (.int .i64 0) (.pointer (some (ad.add 0))) (run_ixs (k := 0) rfl HNN.out.1) (bS HT HS) ?_
 refine el false 15 (ad.add 0) (.int .i64 n0) underlying3 (fun w hS => hS.1.2.1) (bS HT HS) ?_
 refine em 16 (.slice (some ad) nn cn) (bS HT HS) ?_
 refine ej 17 (.slice (some ad) nn cn) (.int .i64 1) (.pointer (some (ad.add 1))) (run_ixs (k := 1) rfl HNN.out.2) (bS HT HS) ?_
 refine el false 18 (ad.add 1) (.int .i64 n1) underlying3 (fun w hS => hS.1.2.2) (bS HT HS) ?_
 refine eo 9 fun o K h2 h3 hKK => ?_
 unfold Oper.wp execOp
 simp only [h3]
 go_simp
 refine (HC.out _ _ HM.out.at_.pool (Nat.le_trans hb1 HM.out.size)).mono ?_
 rintro e wq ⟨rfl, Fq, hpq⟩
 replace HM := Hd (HM.out.trans (HM.out.at_.pg hpq))
 replace HT := Hd (⟨(HM.out.blk HB0.out HLOW.out).1, HNT.out.chg HM.out.chg HAB.out.1 HAB.out.2⟩ : Blk wq bx 47 x.cells.toArray ∧ NT ad n0 n1 wq)
 replace HS := Hd (show MT b g m.regs wq from HRQ.out ▸ HM.out.at_.mt)
 clear hpq
 dsimp only
 refine hKK _ _ (bS HT HS) ?_
 clear hKK h2 h3 K o
 try simp only [pt, pn, sL]
 refine eg 10 (.int .i64 rn) (bS HT HS) ?_
 refine eg 11 (.int .i64 re) (bS HT HS) ?_
 refine eo 12 fun o K h2 h3 hKK => ?_
 unfold Oper.wp execOp
 simp only [h3]
 go_simp
 refine (made_any HM.out.at_ rn re HON.out).mono ?_
 rintro e wq ⟨rfl, _, Fq, Gq, hmq⟩
 replace HM := Hd (HM.out.trans hmq)
 replace HT := Hd (⟨(HM.out.blk HB0.out HLOW.out).1, HNT.out.chg HM.out.chg HAB.out.1 HAB.out.2⟩ : Blk wq bx 47 x.cells.toArray ∧ NT ad n0 n1 wq)
 replace HS := Hd (show MT b g m.regs wq from HRQ.out ▸ HM.out.at_.mt)
 clear hmq
 rw [HEV.out] at HM
 dsimp only
 refine hKK _ _ (bS HT HS) ?_
 clear hKK h2 h3 K o
 try simp only [pt, pn, sL]
 refine E_build 19 (some 88) _ _ (#[(0, .int .i8 2), (1, .int .i64 rn), (2, .int .i64 n0), (3, .int .i64 n1)]) (.agg (exC ⟨2, rn, n0, n1⟩).toArray) rfl (by kernel_rfl) (by rfl) (fun _ _ _ h => h) (by simp only [List.map_toArray, List.map_cons, List.map_nil]; rfl) (build_if rn n0 n1) (bS HT HS) ?_
 simp only [pt, pn, sL]
 refine ez 20 ⟨b, 0, none⟩ (bS HT HS) ?_
 refine ef 21 ⟨b, 0, none⟩ ⟨b, 1, none⟩ (bS HT HS) ?_
 refine ef 22 ⟨b, 1, none⟩ ⟨b, 13, none⟩ (bS HT HS) ?_
 obtain ⟨es, qe, hBs, _⟩ := HM.out.at_.box
 have HMQ := Hd (HM.out.trans (HM.out.at_.exit2 hBs ⟨2, rn, n0, n1⟩ (setRow_heap wq b _ _ 114 (0, 0) hBs) (grown_setRow wq b _)))
 refine E_one 23 (by kernel_rfl) (StepE.store_at 23 63 _ _ ⟨b, 13, none⟩ (.agg (exC ⟨2, rn, n0, n1⟩).toArray) _ rfl (by rfl) (by rfl) (by rfl) (run_storeVar_at wq b 13 114 63 _ (exC ⟨2, rn, n0, n1⟩) _ hBs rfl sizX (by rw [mC_len HM.out.at_.len]; simp [exC]) (exC_one _)) (.after ⟨(HMQ.out.blk HB0.out HLOW.out).1, HNT.out.chg HMQ.out.chg HAB.out.1 HAB.out.2⟩ (by kernel_rfl)) ?_)
 clear hBs
 simp only [pt, pn, sL]
 refine wpAnyE_done (by kernel_rfl) ?_ _
 go_wp2
 go_end0
 rw [HNX.out]
 exact ⟨rfl, _, _, HG.out.trans HMQ.out⟩
end
end
section
open Go.RowKit
def methV (b f : Nat) : Value := .func (.func f) #[.pointer (some ⟨b, 0, none⟩)] #[]
theorem enters_alu : EntersB 43 := enters_of func43 (by kernel_rfl) rfl
theorem enters_load : EntersB 44 := enters_of func44 (by kernel_rfl) rfl
theorem enters_store : EntersB 45 := enters_of func45 (by kernel_rfl) rfl
theorem enters_call : EntersB 47 := enters_of func47 (by kernel_rfl) rfl
theorem enters_none : EntersB 46 := enters_of func46 (by kernel_rfl) rfl
def kindsL : List Nat := [43, 44, 45, 46, 46, 47, 46]
section
variable {base g b : Nat} {F G F1 G1 : Nat → Prop} {m : SM} {ex : ExD} {w : World}
theorem none_any (h : MA base g b F G m ex w) (x : ID) : Calls prog 46 #[.pointer (some ⟨b, 0, none⟩), .agg x.cells.toArray] w (MEnd base g b G ex w m) := by
 have hbl := (Below.refl w.heap.size w).alloc (Nat.le_refl _) (.cells x.cells.toArray 47)
 have HG := Hd (MG.of_below h hbl)
 clear h hbl
 go_enter func46, ntmps46
 go_wp2
 go_end0
 exact ⟨rfl, _, _, HG.out⟩
theorem step_any (h : MA base g b F G m ex w) (x : ID) (hx : x.wf) (hm : mayB x = true) (hlt : m.evs.length < 64) (he : m.err = 0) :
  ∃ f, kindsL[x.kind.toNat]? = some f ∧ EntersB f ∧ Calls prog f #[.pointer (some ⟨b, 0, none⟩), .agg x.cells.toArray] w (MEnd base g b G ex w (m.step x)) := by
 have M := may_facts hm
 have hk := M.kind
 have hd := M.dst
 have hs := M.src
 have key : m.step x = if x.kind = 0 then m.alu x else if x.kind = 1 then m.load x else if x.kind = 2 then m.store x else if x.kind = 5 then m.call x else m := by
  unfold SM.step
  rw [if_neg (by rw [he]; simp)]
 rw [key]
 by_cases k0 : x.kind = 0
 ·rw [k0, if_pos rfl]
  have := M.alu k0
  exact ⟨_, rfl, enters_alu, alu_any h x hx hd (fun _ => hs) (by omega)⟩
 by_cases k1 : x.kind = 1
 ·rw [k1, if_neg (by decide), if_pos rfl]
  have := M.size (.inl k1)
  exact ⟨_, rfl, enters_load, load_any h x hx hd hs (by omega) hlt⟩
 by_cases k2 : x.kind = 2
 ·rw [k2, if_neg (by decide), if_neg (by decide), if_pos rfl]
  have := M.size (.inr k2)
  exact ⟨_, rfl, enters_store, store_any h x hx hd hs (by omega) hlt⟩
 by_cases k5 : x.kind = 5
 ·rw [k5, if_neg (by decide), if_neg (by decide), if_neg (by decide), if_pos rfl]
  exact ⟨_, rfl, enters_call, call_any h x hx hlt⟩
 rw [if_neg k0, if_neg k1, if_neg k2, if_neg k5]
 have hr : x.kind = 3 ∨ x.kind = 4 ∨ x.kind = 6 := by omega
 rcases hr with e | e | e <;> rw [e] <;> exact ⟨_, rfl, enters_none, none_any h x⟩
theorem ends_any (h : MA base g b F G m ex w) (x : ID) (hx : x.wf) (hm : mayB x = true) {An : Option Addr} {nn cn : Nat} {nx : List Int} (hn : NumsF w G (.slice An nn cn) nx) (h1 : x.kind ≠ 6 → 1 ≤ nn) (h2 : x.kind = 3 → nn = 2) :
  Calls prog 48 #[.pointer (some ⟨b, 0, none⟩), .agg x.cells.toArray, .slice An nn cn] w (MEnd base g b G (m.ends x nx).2 w (m.ends x nx).1) := by
 have M := may_facts hm
 by_cases k6 : x.kind = 6
 ·exact ends_ret h x k6 _ nx
 by_cases k3 : x.kind = 3
 ·have hnn := h2 k3
  by_cases he : nx.getD 0 0 = nx.getD 1 0
  ·exact ends_same h x k6 k3 hn (by omega) he
  ·have hc := M.cond k3
   by_cases ho : x.op = 10
   ·exact ends_set h x hx k3 ho M.dst (fun _ => M.src) (by omega) hn (by omega) he
   ·exact ends_if h x hx k3 ho M.dst (fun _ => M.src) (by omega) hn (by omega) he
 ·exact ends_far h x k6 k3 hn (by have := h1 k6; omega)
end
end
end Go.Proofs.YtepagfkkjlbipaaGreat
