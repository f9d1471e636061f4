/-
  Parts of the proof of SymbcSound. Conditions: those written in each statement.
-/
import Derived.Test.YtepagfkkjlbipaaGreatMk
import Derived.Test.YtepagfkkjlbipaaGreatJa
set_option linter.unusedVariables false
set_option linter.unusedSimpArgs false
set_option maxHeartbeats 64000000
set_option maxRecDepth 100000
namespace Go.Proofs.YtepagfkkjlbipaaGreat
open Tryz
section
open Go.RowKit
theorem run_ix8 {b : Nat} {i : Int} (hi : 0 ≤ i ∧ i ≤ 10) (w : World) : (Instr.indexAt 83 (.pointer (some ⟨b, 3, none⟩)) (.int .i8 i)).run prog w = .ok (.pointer (some ⟨b, 3 + i.toNat, none⟩)) w := by
 obtain ⟨k, rfl⟩ : ∃ k : Nat, i = (k : Int) := ⟨i.toNat, by omega⟩
 have hk : k < 11 := by omega
 rw [Int.toNat_natCast]
 go_simp
 omega
theorem run_ixIns {ad : Addr} {n cap k : Nat} (hk : k < n) (w : World) : (Instr.indexAt 22 (.slice (some ad) n cap) (.int .i64 (k : Int))).run prog w = .ok (.pointer (some (ad.add (k * 9)))) w := by
 go_simp
def zIns : List Value := [.int .i8 0, .int .i8 0, .int .i8 0, .int .i8 0, .bool false, .int .i8 0, .int .i8 0, .int .i64 0, .int .i64 0]
def StT (bm : Nat) (ad : Addr) (n cap k : Nat) (x : ID) (w : World) : Prop := w.cell? ⟨bm, 1, none⟩ = some (.slice (some ad) n cap) ∧ w.cell? ⟨bm, 79, none⟩ = some (.int .i64 (k : Int)) ∧ ∀ j u, x.cells[j]? = some u → w.cell? ((ad.add (k * 9)).add j) = some u
section
variable {bm n cap k b4 N : Nat} {ad : Addr} {x : ID} {w w' : World}
theorem StT.keep (h : StT bm ad n cap k x w) (hk : ∀ p : Addr, (p.block = bm ∨ p.block = ad.block) → w'.cell? p = w.cell? p) : StT bm ad n cap k x w' := ⟨(hk _ (.inl rfl)).trans h.1, (hk _ (.inl rfl)).trans h.2.1, fun j u hu => (hk ((ad.add (k * 9)).add j) (.inr (by rw [block_of_add, block_of_add]))).trans (h.2.2 j u hu)⟩
theorem StT.below (h : StT bm ad n cap k x w) (hb : Below w.heap.size w w') (hl : bm < w.heap.size ∧ ad.block < w.heap.size) : StT bm ad n cap k x w' := h.keep fun p hp => hb.cell (hp.elim (fun e => e ▸ hl.1) (fun e => e ▸ hl.2))
theorem StT.far4 (h : StT bm ad n cap k x w) (hg : w.grownBy w' (some b4)) (hl : bm < b4 ∧ ad.block < b4) (h1 : b4 ≤ N) (h2 : N ≤ w.heap.size) : StT bm ad n cap k x w' := h.keep fun p hp => World.cell?_of_block (hg.block p.block (by rcases hp with e | e <;> rw [e] <;> omega) (fun e => by have e := Option.some.inj e; rcases hp with e2 | e2 <;> omega))
end
def StQ (b4 bm bq : Nat) (c : Int) (A : Option Addr) (n cap : Nat) (x : ID) (rs : List Int) (st : Int) (fr : List Int) (pc : Int) (an tr : Value) (w : World) : Prop := Blk w b4 47 x.cells.toArray ∧ MdB w bm c (.slice A n cap) (.pointer (some ⟨bq, 0, none⟩)) rs st fr pc an tr
theorem overC_fr {c : Int} {pl m : Value} {rs : List Int} {st : Int} {fr fr' : List Int} {pc : Int} {an tr : Value} (hl : rs.length = 11) (hf : fr.length = 64) (hf' : fr'.length = 64) : overC (mdC c pl m rs st fr pc an tr) 15 (u8C fr') = mdC c pl m rs st fr' pc an tr := by
 have e : ∀ f : List Int, mdC c pl m rs st f pc an tr = (.int .i64 c :: pl :: m :: (rs.map (Value.int .u64) ++ [.int .i64 st])) ++ (u8C f ++ [.int .i64 pc, an, tr]) := fun f => by unfold mdC; simp
 have h15 : (Value.int .i64 c :: pl :: m :: (rs.map (Value.int .u64) ++ [.int .i64 st])).length = 15 := by simp [hl]
 have h64 : ∀ f : List Int, (u8C f).length = f.length := fun f => by unfold u8C; rw [List.length_map]
 unfold overC
 rw [e fr, e fr', List.take_left' h15, h64, hf']
 rw [show 15 + 64 = (Value.int .i64 c :: pl :: m :: (rs.map (Value.int .u64) ++ [.int .i64 st])).length + (u8C fr).length by rw [h15, h64, hf], ← List.drop_drop, List.drop_left, List.drop_left, List.append_assoc]
section
variable {base b4 bm bq n cap : Nat} {X G F : Nat → Prop} {c : Int} {A : Option Addr} {x : ID} {rs : List Int} {st : Int} {fr : List Int} {pc : Int} {an tr : Value} {la : List Int} {T : List TrE} {w w' : World}
theorem StQ.below (h : StQ b4 bm bq c A n cap x rs st fr pc an tr w) (hb : Below w.heap.size w w') : StQ b4 bm bq c A n cap x rs st fr pc an tr w' := ⟨h.1.below hb h.1.lt, ⟨h.2.blk.below hb h.2.blk.lt, h.2.len, h.2.frl⟩⟩
theorem StQ.chgF (h : StQ b4 bm bq c A n cap x rs st fr pc an tr w) (hc : Chg F w w') (hn : ¬ F b4 ∧ ¬ F bm) : StQ b4 bm bq c A n cap x rs st fr pc an tr w' := ⟨hc.blk h.1 hn.1, ⟨hc.blk h.2.blk hn.2, h.2.len, h.2.frl⟩⟩
theorem MdG.mem (hB : MdB w bm c (.slice A n cap) (.pointer (some ⟨bq, 0, none⟩)) rs st fr pc an tr) (h : MdR base bm bq X G F an tr la T w) (hg : RegOk rs) (hm : MemAt w' base F bq) (hc : Chg F w w') : MdG base bm bq X G G c A n cap rs pc la T w w' := by
 obtain ⟨q, h1, h2, h3⟩ := h.row
 obtain ⟨AA, ca, e, hca, hr⟩ := h.ans
 refine ⟨⟨⟨st, fr, an, tr, F, ⟨hc.blk hB.blk (fun z => (h.sub bm z).2 rfl), hB.len, hB.frl⟩, ⟨hm, h.sub, ⟨q, hc.own h1 (fun k e => (h.tro k e).2.2), h2, fun p hp => (h3 p hp).chg hc (fun b z => .inl (.inr (.inl z))) (fun b z => .inl z)⟩, h.tro, ⟨AA, ca, e, hca, hr.below (hc.below (fun b z => (h.low b (h.sub b z).1).1) (Nat.le_trans h.ge (Nat.le_of_lt h.lt)))⟩, h.own, fun b z => ⟨(h.low b z).1, Nat.lt_of_lt_of_le (h.low b z).2 hc.size⟩, h.u64, fun b z => ⟨(h.xs b z).1, Nat.lt_of_lt_of_le (h.xs b z).2.1 hc.size, (h.xs b z).2.2⟩⟩⟩, hg⟩, hc.mono (fun b z => .inl (h.sub b z).1), fun b z => .inl z⟩
theorem MdG.put_pc (h : MdM base bm bq X G c A n cap rs pc la T w) (v : Int) : (∃ u, w.cell? ⟨bm, 79, none⟩ = some (.int .i64 u)) ∧ w.frozen? ⟨bm, 79, none⟩ = false ∧ MdG base bm bq X G G c A n cap rs v la T w (w.setCell ⟨bm, 79, none⟩ (.int .i64 v)) := by
 obtain ⟨st, fr, an, tr, F, hB, hR⟩ := h.box
 have hc : Chg (fun b => b = bm) w (w.setCell ⟨bm, 79, none⟩ (.int .i64 v)) := chg_setCell (b := bm) rfl _ rfl
 exact ⟨⟨_, hB.cell (mdC_pc hB.len hB.frl)⟩, hB.blk.frozen _, ⟨⟨_, _, _, _, _, hB.put_pc v, hR.chg hc (fun b e => .inl e)⟩, h.reg⟩, hc.mono (fun b e => .inl (e ▸ hR.own)), fun b z => .inl z⟩
theorem MdG.put_fr (hB : MdB w bm c (.slice A n cap) (.pointer (some ⟨bq, 0, none⟩)) rs st fr pc an tr) (h : MdR base bm bq X G F an tr la T w) (hg : RegOk rs) {l : List Int} (hl : l.length = 64) (hB' : Blk w' bm 88 (overC (mdC c (.slice A n cap) (.pointer (some ⟨bq, 0, none⟩)) rs st fr pc an tr) 15 (u8C l)).toArray) (hgr : w.grownBy w' (some bm)) : MdG base bm bq X G G c A n cap rs pc la T w w' := by
 have hc : Chg (fun b => b = bm) w w' := Chg.of_grown hgr (fun k e => .inl (Option.some.inj e).symm)
 rw [overC_fr hB.len hB.frl hl] at hB'
 exact ⟨⟨⟨_, _, _, _, _, ⟨hB', hB.len, hl⟩, h.chg hc (fun b e => .inl e)⟩, hg⟩, hc.mono (fun b e => .inl (e ▸ h.own)), fun b z => .inl z⟩
theorem MdM.setI (h : MdM base bm bq X G c A n cap rs pc la T w) {d : Int} (hd : 0 ≤ d ∧ d ≤ 10) {v : Int} (hv : U64 v) : Calls prog 61 #[.pointer (some ⟨bm, 0, none⟩), .int .i8 d, .int .u64 v] w fun e w' => e = .returned (.tuple #[]) ∧ MdG base bm bq X G G c A n cap (rs.set d.toNat v) pc la T w w' := by
 have := h.set (k := d.toNat) (by omega) hv
 rwa [show ((d.toNat : Nat) : Int) = d by omega] at this
end
def StepP (base bm bq : Nat) (X G : Nat → Prop) (c : Int) (A : Option Addr) (n cap : Nat) (x : ID) (k : Nat) (rs : List Int) (la : List Int) (T : List TrE) (w : World) (e : Ending) (w' : World) : Prop :=
 (∃ kd, e = .returned (.tuple #[.int .i8 kd, .bool false]) ∧ (kd = 1 → x.kind = 6) ∧ 0 ≤ kd ∧ kd ≤ 3 ∧ MdG base bm bq X G G c A n cap rs (k : Int) la T w w') ∨
 (∃ i' rs' la' tr G', e = .returned (.tuple #[.int .i8 0, .bool true]) ∧ MStep x (k : Int) rs i' rs' tr ∧ MdG base bm bq X G G' c A n cap rs' i' la' (T ++ tr) w w')
theorem secM_u64 {rs : List Int} (h : RegOk rs) (x : ID) : U64 (secM rs x) := by
 unfold secM
 split
 ·exact reg_u64 h _
 ·exact wrap_u64 _
theorem sz_of {x : ID} (h : x.size = 1 ∨ x.size = 2 ∨ x.size = 4 ∨ x.size = 8) {v : Nat} (hv : v < 2 ^ (8 * x.size.toNat)) : U64 (v : Int) ∧ cutV (8 * x.size) (v : Int) = (v : Int) := by
 unfold U64 cutV
 rcases h with e | e | e | e <;> rw [e] at hv ⊢
 ·have : v < 256 := hv
  constructor
  ·omega
  ·simp; omega
 ·have : v < 65536 := hv
  constructor
  ·omega
  ·simp; omega
 ·have : v < 4294967296 := hv
  constructor
  ·omega
  ·simp; omega
 ·have : v < 18446744073709551616 := hv
  constructor
  ·omega
  ·simp
theorem md_step {base bm bq n cap k : Nat} {X G : Nat → Prop} {c : Int} {A : Option Addr} {rs la : List Int} {T : List TrE} {w : World} {l : List ID} {x : ID} (h : MdM base bm bq X G c A n cap rs (k : Int) la T w) (hh : InsF w G A n l) (hx : l[k]? = some x) (M : MayF x) (hfew : T.length < 1000) (hkm : k < 1000) :
  Calls prog 28 #[.pointer (some ⟨bm, 0, none⟩)] w (StepP base bm bq X G c A n cap x k rs la T w) := by
 have hkn : k < n := by have := hh.1; have := (List.getElem?_eq_some_iff.1 hx).1; omega
 obtain ⟨ad, x', rfl, hab, _, hx', _, hcell⟩ := hh.at_ hkn
 obtain rfl : x' = x := by rw [hx] at hx'; exact (Option.some.inj hx').symm
 obtain ⟨st, fr, an, tr, F, hB, hR⟩ := h.box
 have HMF := Hd M
 have H := Hd h
 have HB0 := Hd hB
 have HR0 := Hd hR
 have HFEW := Hd hfew
 have hdst := M.dst
 have hsrc := M.src
 have HT := Hd (show StT bm ad n cap k x' w.drew from ⟨hB.cell rfl, hB.cell (mdC_pc hB.len hB.frl), hcell⟩)
 have HLT := Hd (show bm < w.drew.heap.size ∧ ad.block < w.drew.heap.size from ⟨hB.blk.lt, hab⟩)
 have HBW := Hd ((Below.refl w.heap.size w).drew)
 have HGL := Hd (show ∀ b, G b → b < w.drew.heap.size from fun b z => (hR.low b z).2)
 clear hh hx hx' hcell h hB hR hab M hfew
 rename ID => x
 go_enter func28, ntmps28
 go_upto_region 1 with fail
 refine wp_region_E (StT bm ad n cap k x) (fun _ => True) [] (by kernel_rfl) ?_
 generalize w.drew = Wd at HT HLT HBW HGL ⊢
 refine em 0 (.pointer (some ⟨bm, 0, none⟩)) (bT HT) ?_
 refine ez 1 ⟨bm, 0, none⟩ (bT HT) ?_
 refine ef 2 ⟨bm, 0, none⟩ ⟨bm, 0, none⟩ (bT HT) ?_
 refine ef 3 ⟨bm, 0, none⟩ ⟨bm, 1, none⟩ (bT HT) ?_
 refine el false 4 ⟨bm, 1, none⟩ (.slice (some ad) n cap) underlying22 (fun w hS => hS.1.1) (bT HT) ?_
 refine em 5 (.pointer (some ⟨bm, 0, none⟩)) (bT HT) ?_
 refine ez 6 ⟨bm, 0, none⟩ (bT HT) ?_
 refine ef 7 ⟨bm, 0, none⟩ ⟨bm, 79, none⟩ (bT HT) ?_
 refine el false 8 ⟨bm, 79, none⟩ (.int .i64 (k : Int)) underlying3 (fun w hS => hS.1.2.1) (bT HT) ?_
 refine ex 9 (.slice (some ad) n cap) (.int .i64 (k : Int)) (.pointer (some (ad.add (k * 9)))) (run_ixIns hkn) (bT HT) ?_
 refine eL false 10 (ad.add (k * 9)) x.cells (fun w hS => hS.1.2.2) underlying47 sizIn (bT HT) ?_
 refine E_one 11 (by kernel_rfl) (StepE.run 11 (some 4) _ (.pointer (some ⟨Wd.heap.size, 0, none⟩)) (Wd.alloc (.cells zIns.toArray 47)) rfl (by rfl) (fun o e => by unfold execOp; simp only [e]; go_simp; rfl) (.both (HT.out.below ((Below.refl _ _).alloc (Nat.le_refl _) _) HLT.out) trivial) ?_)
 simp only [pt, pn, sL]
 have hz := Blk.new Wd 47 zIns.toArray
 have hb := (Below.refl Wd.heap.size Wd).alloc (Nat.le_refl _) (.cells zIns.toArray 47)
 replace HT := Hd (HT.out.below hb HLT.out)
 generalize Wd.alloc (.cells zIns.toArray 47) = We at hz hb HT ⊢
 have HZ := Hd hz
 have HBe := Hd hb
 have hlt := HLT.out
 obtain ⟨b4, hb4⟩ : ∃ q, Wd.heap.size = q := ⟨_, rfl⟩
 rw [hb4] at HZ hlt ⊢
 have HB4 := Hd hb4
 replace HLT := Hd hlt
 clear hz hb hb4 hlt
 refine E_one 12 (by kernel_rfl) (StepE.store_whole 12 47 _ _ b4 zIns x.cells rfl (by rfl) HZ.out (by rfl) (by rfl) sizIn (by rw [ID.cells_len]; rfl) (ID.one _) ?_)
 intro w2 hx2 hg2
 refine ⟨.both (HT.out.far4 hg2 HLT.out (Nat.le_of_eq HB4.out.symm) HBe.out.size) trivial, ?_⟩
 simp only [pt, pn, sL]
 refine wpAnyE_done (by kernel_rfl) ?_ _
 replace HBW := Hd (HBW.out.trans ((HBe.out.grown hg2 HBe.out.size (fun g e => by have := HB4.out; have e := Option.some.inj e; omega)).mono HBW.out.size))
 have HQ := Hd (show StQ b4 bm bq c (some ad) n cap x rs st fr (k : Int) an tr w2 from ⟨hx2, ⟨HB0.out.blk.below HBW.out HB0.out.blk.lt, HB0.out.len, HB0.out.frl⟩⟩)
 have HNF := Hd (show ¬ F b4 ∧ ¬ F bm from ⟨fun z => by have := HGL.out b4 (HR0.out.sub b4 z).1; have := HB4.out; omega, fun z => (HR0.out.sub bm z).2 rfl⟩)
 have HNG := Hd (show ¬ G b4 from fun z => by have := HGL.out b4 z; have := HB4.out; omega)
 have HRU := Hd (And.intro (reg_u64 H.out.reg x.dst) (secM_u64 H.out.reg x))
 clear hx2 hg2 HZ HBe HB4 HT HGL
 go_upto_region 2 with fail
 refine wp_region_E (StQ b4 bm bq c (some ad) n cap x rs st fr (k : Int) an tr) (fun _ => True) [] (by kernel_rfl) ?_
 replace HBW := Hd HBW.out.drew
 have HT := Hd (show StQ b4 bm bq c (some ad) n cap x rs st fr (k : Int) an tr w2.drew from ⟨HQ.out.1, ⟨HQ.out.2.blk, HQ.out.2.len, HQ.out.2.frl⟩⟩)
 clear HQ
 generalize w2.drew = Wd at HBW HT ⊢
 refine eL false 0 ⟨b4, 0, none⟩ x.cells (fun w hS => blk_list hS.1.1) underlying47 sizIn (bT HT) ?_
 refine em 2 (.pointer (some ⟨bm, 0, none⟩)) (bT HT) ?_
 refine ez 3 ⟨bm, 0, none⟩ (bT HT) ?_
 refine ef 4 ⟨bm, 0, none⟩ ⟨bm, 3, none⟩ (bT HT) ?_
 refine ef 5 ⟨bm, 3, none⟩ ⟨bm, 14, none⟩ (bT HT) ?_
 refine el false 6 ⟨bm, 14, none⟩ (.int .i64 st) underlying3 (fun w hS => (hS.1.2.cell (mdC_set hS.1.2.len))) (bT HT) ?_
 refine eo 1 fun o K h2 h3 hKK => ?_
 unfold Oper.wp execOp
 simp only [h3]
 go_simp
 refine (reads_any x HMF.out _).mono ?_
 rintro e wq ⟨rd, rfl, hbq⟩
 replace HT := Hd (HT.out.below hbq)
 replace HBW := Hd (HBW.out.trans (hbq.mono HBW.out.size))
 clear hbq
 dsimp only
 refine hKK _ _ (bT HT) ?_
 clear hKK h2 h3 K o
 try simp only [pt, pn, sL]
 refine eg 7 (.int .i64 (bits .andNot .i64 rd st)) (bT HT) ?_
 refine eg 8 (.bool (bits .andNot .i64 rd st != 0)) (bT HT) ?_
 refine wpAnyE_done (by kernel_rfl) ?_ _
 have HQ := HT
 clear HT
 cases hr : (bits .andNot .i64 rd st != 0)
 rotate_left
 ·go_wp2_with fail
  go_ret2
  exact .inl ⟨3, rfl, by omega, by omega, by omega, H.out.below HBW.out⟩
 have c79 : wq.cell? ⟨bm, 79, none⟩ = some (.int .i64 (k : Int)) := HQ.out.2.cell (mdC_pc HQ.out.2.len HQ.out.2.frl)
 have b0 : wq.cell? ⟨b4, 0, none⟩ = some (.int .i8 x.kind) := HQ.out.1.cell 0
 have hkd := HMF.out.kind
 go_upto_region 6 with fail
 have hk7 : x.kind = 0 ∨ x.kind = 1 ∨ x.kind = 2 ∨ x.kind = 3 ∨ x.kind = 4 ∨ x.kind = 5 ∨ x.kind = 6 := by omega
 have HK7 := Hd hk7
 obtain ⟨kd, hkd2⟩ : ∃ q, x.kind = q := ⟨_, rfl⟩
 rw [hkd2] at hk7 ⊢
 have HKD := Hd hkd2
 clear hkd hkd2 c79 b0 hr HK7
 rcases hk7 with rfl | rfl | rfl | rfl | rfl | rfl | rfl
 ·-- CASE alu
  have HOK := Hd (show doOk x.op x.width = true by
   have := HMF.out.alu HKD.out
   unfold doOk longB
   simp only [Bool.and_eq_true, decide_eq_true_eq, Bool.or_eq_true, beq_iff_eq]
   omega)
  go_upto_region 7 with fail
  refine wp_region_E (StQ b4 bm bq c (some ad) n cap x rs st fr (k : Int) an tr) (fun _ => True) [] (by kernel_rfl) ?_
  replace HBW := Hd HBW.out.drew
  have HT := Hd (show StQ b4 bm bq c (some ad) n cap x rs st fr (k : Int) an tr wq.drew from ⟨HQ.out.1, ⟨HQ.out.2.blk, HQ.out.2.len, HQ.out.2.frl⟩⟩)
  clear HQ
  generalize wq.drew = Wd at HBW HT ⊢
  refine ef 0 ⟨b4, 0, none⟩ ⟨b4, 1, none⟩ (bT HT) ?_
  refine el false 1 ⟨b4, 1, none⟩ (.int .i8 x.op) underlying30 (fun w hS => (hS.1.1.cell 1)) (bT HT) ?_
  refine ef 2 ⟨b4, 0, none⟩ ⟨b4, 2, none⟩ (bT HT) ?_
  refine el false 3 ⟨b4, 2, none⟩ (.int .i8 x.width) underlying30 (fun w hS => (hS.1.1.cell 2)) (bT HT) ?_
  refine em 4 (.pointer (some ⟨bm, 0, none⟩)) (bT HT) ?_
  refine ef 5 ⟨b4, 0, none⟩ ⟨b4, 5, none⟩ (bT HT) ?_
  refine el false 6 ⟨b4, 5, none⟩ (.int .i8 x.dst) underlying30 (fun w hS => (hS.1.1.cell 5)) (bT HT) ?_
  refine ez 7 ⟨bm, 0, none⟩ (bT HT) ?_
  refine ef 8 ⟨bm, 0, none⟩ ⟨bm, 3, none⟩ (bT HT) ?_
  refine ef 9 ⟨bm, 3, none⟩ ⟨bm, 3, none⟩ (bT HT) ?_
  refine ex 10 (.pointer (some ⟨bm, 3, none⟩)) (.int .i8 x.dst) (.pointer (some ⟨bm, 3 + x.dst.toNat, none⟩)) (run_ix8 (by omega)) (bT HT) ?_
  refine el false 11 ⟨bm, 3 + x.dst.toNat, none⟩ (.int .u64 (regV rs x.dst)) underlying31 (fun w hS => (hS.1.2.cell (mdC_reg hS.1.2.len (by omega)))) (bT HT) ?_
  refine em 12 (.pointer (some ⟨bm, 0, none⟩)) (bT HT) ?_
  refine eL false 13 ⟨b4, 0, none⟩ x.cells (fun w hS => blk_list hS.1.1) underlying47 sizIn (bT HT) ?_
  refine eo 14 fun o K h2 h3 hKK => ?_
  unfold Oper.wp execOp
  simp only [h3]
  go_simp
  refine (md_second HT.out.2 x HMF.out).mono ?_
  rintro e wq ⟨rfl, hbq⟩
  replace HT := Hd (HT.out.below hbq)
  replace HBW := Hd (HBW.out.trans (hbq.mono HBW.out.size))
  clear hbq
  dsimp only
  refine hKK _ _ (bT HT) ?_
  clear hKK h2 h3 K o
  try simp only [pt, pn, sL]
  refine eo 15 fun o K h2 h3 hKK => ?_
  unfold Oper.wp execOp
  simp only [h3]
  go_simp
  refine (rdo_yes (regV rs x.dst) (secM rs x) HRU.out.1 HRU.out.2 _ HOK.out).mono ?_
  rintro e wq ⟨rfl, rfl⟩
  dsimp only
  refine hKK _ _ (bT HT) ?_
  clear hKK h2 h3 K o
  try simp only [pt, pn, sL]
  refine em 16 (.tuple #[.int .u64 (doU x.op x.width (regV rs x.dst) (secM rs x)), .int .i64 0]) (bT HT) ?_
  refine eg 17 (.int .u64 (doU x.op x.width (regV rs x.dst) (secM rs x))) (bT HT) ?_
  refine eg 18 (.int .i64 0) (bT HT) ?_
  refine eS 19 (.int .u64 (doU x.op x.width (regV rs x.dst) (secM rs x))) (bT HT) ?_
  refine eS 20 (.int .i64 0) (bT HT) ?_
  refine wpAnyE_done (by kernel_rfl) ?_ _
  have HQ := HT
  clear HT
  have dd : wq.cell? ⟨b4, 5, none⟩ = some (.int .i8 x.dst) := HQ.out.1.cell 5
  go_wp2_with fail
  have h0 := H.out.below HBW.out
  refine (h0.at_.setI (d := x.dst) HMF.out.dst (doU_u64 HOK.out HRU.out.1 HRU.out.2)).mono ?_
  rintro e w8 ⟨rfl, hm⟩
  have HM := Hd (h0.trans hm)
  clear hm h0 dd
  obtain ⟨⟨u9, c79⟩, f79, hpc⟩ := MdG.put_pc HM.out.at_ ((k : Int) + 1)
  have HPC := Hd (HM.out.trans hpc)
  clear hpc
  go_wp2_with fail
  go_ret2
  exact .inr ⟨_, _, _, [], _, rfl, .inl ⟨HKD.out, rfl, rfl, rfl⟩, by rw [List.append_nil]; exact HPC.out⟩
 ·-- CASE load
  have hsz := HMF.out.size (.inl HKD.out)
  have HSZ := Hd (show Sz x.size from hsz)
  clear hsz
  go_upto_region 10 with fail
  refine wp_region_E (StQ b4 bm bq c (some ad) n cap x rs st fr (k : Int) an tr) (fun _ => True) [] (by kernel_rfl) ?_
  replace HBW := Hd HBW.out.drew
  have HT := Hd (show StQ b4 bm bq c (some ad) n cap x rs st fr (k : Int) an tr wq.drew from ⟨HQ.out.1, ⟨HQ.out.2.blk, HQ.out.2.len, HQ.out.2.frl⟩⟩)
  clear HQ
  generalize wq.drew = Wd at HBW HT ⊢
  refine em 0 (.pointer (some ⟨bm, 0, none⟩)) (bT HT) ?_
  refine ez 1 ⟨bm, 0, none⟩ (bT HT) ?_
  refine ef 2 ⟨bm, 0, none⟩ ⟨bm, 2, none⟩ (bT HT) ?_
  refine el false 3 ⟨bm, 2, none⟩ (.pointer (some ⟨bq, 0, none⟩)) underlying82 (fun w hS => (hS.1.2.cell rfl)) (bT HT) ?_
  refine em 4 (.pointer (some ⟨bm, 0, none⟩)) (bT HT) ?_
  refine ef 5 ⟨b4, 0, none⟩ ⟨b4, 6, none⟩ (bT HT) ?_
  refine el false 6 ⟨b4, 6, none⟩ (.int .i8 x.src) underlying30 (fun w hS => (hS.1.1.cell 6)) (bT HT) ?_
  refine ez 7 ⟨bm, 0, none⟩ (bT HT) ?_
  refine ef 8 ⟨bm, 0, none⟩ ⟨bm, 3, none⟩ (bT HT) ?_
  refine ef 9 ⟨bm, 3, none⟩ ⟨bm, 3, none⟩ (bT HT) ?_
  refine ex 10 (.pointer (some ⟨bm, 3, none⟩)) (.int .i8 x.src) (.pointer (some ⟨bm, 3 + x.src.toNat, none⟩)) (run_ix8 (by omega)) (bT HT) ?_
  refine el false 11 ⟨bm, 3 + x.src.toNat, none⟩ (.int .u64 (regV rs x.src)) underlying31 (fun w hS => (hS.1.2.cell (mdC_reg hS.1.2.len (by omega)))) (bT HT) ?_
  refine ef 12 ⟨b4, 0, none⟩ ⟨b4, 7, none⟩ (bT HT) ?_
  refine el false 13 ⟨b4, 7, none⟩ (.int .i64 x.off) underlying3 (fun w hS => (hS.1.1.cell 7)) (bT HT) ?_
  refine eg 14 (.int .u64 (IntKind.u64.wrap x.off)) (bT HT) ?_
  refine eg 15 (.int .u64 (IntKind.u64.wrap (regV rs x.src + IntKind.u64.wrap x.off))) (bT HT) ?_
  refine ef 16 ⟨b4, 0, none⟩ ⟨b4, 3, none⟩ (bT HT) ?_
  refine el false 17 ⟨b4, 3, none⟩ (.int .i8 x.size) underlying30 (fun w hS => (hS.1.1.cell 3)) (bT HT) ?_
  refine eb 18 (.int .i64 x.size) rfl (fun o e w _ => by unfold execOp; simp only [e]; go_simp; rw [wrap_in (by have := HSZ.out; unfold Sz at this; omega)]) (bT HT) ?_
  refine eo 19 fun o K h2 h3 hKK => ?_
  unfold Oper.wp execOp
  simp only [h3]
  go_simp
  refine (read_any (HR0.out.mem.below HBW.out) (IntKind.u64.wrap (regV rs x.src + IntKind.u64.wrap x.off)) x.size (wrap_u64 _) HSZ.out).mono ?_
  rintro e wq ⟨vv, er, rfl, rfl, her, hvv⟩
  have HVV := Hd (And.intro her hvv)
  clear her hvv
  dsimp only
  refine hKK _ _ (bT HT) ?_
  clear hKK h2 h3 K o
  try simp only [pt, pn, sL]
  refine em 20 (.tuple #[.int .u64 (vv : Int), .int .i64 er]) (bT HT) ?_
  refine eg 21 (.int .u64 (vv : Int)) (bT HT) ?_
  refine eg 22 (.int .i64 er) (bT HT) ?_
  refine eS 23 (.int .u64 (vv : Int)) (bT HT) ?_
  refine eS 24 (.int .i64 er) (bT HT) ?_
  refine wpAnyE_done (by kernel_rfl) ?_ _
  have HQ := HT
  clear HT
  cases he : (er != 0)
  rotate_left
  ·go_wp2_with fail
   go_ret2
   exact .inl ⟨3, rfl, by omega, by omega, by omega, H.out.below HBW.out⟩
  obtain ⟨hv1, hv2⟩ := sz_of HSZ.out HVV.out.2
  have HV := Hd (And.intro hv1 hv2)
  clear hv1 hv2
  have dd : Wd.cell? ⟨b4, 5, none⟩ = some (.int .i8 x.dst) := HQ.out.1.cell 5
  go_wp2_with fail
  have h0 := H.out.below HBW.out
  refine (h0.at_.setI (d := x.dst) HMF.out.dst HV.out.1).mono ?_
  rintro e w8 ⟨rfl, hm⟩
  have HM := Hd (h0.trans hm)
  clear hm h0 dd
  obtain ⟨⟨u9, c79⟩, f79, hpc⟩ := MdG.put_pc HM.out.at_ ((k : Int) + 1)
  have HPC := Hd (HM.out.trans hpc)
  clear hpc
  go_wp2_with fail
  go_ret2
  exact .inr ⟨_, _, _, [], _, rfl, .inr (.inl ⟨HKD.out, rfl, ⟨_, HV.out.1, HV.out.2, rfl⟩, rfl⟩), by rw [List.append_nil]; exact HPC.out⟩
 ·-- CASE store
  have hsz := HMF.out.size (.inr HKD.out)
  have HSZ := Hd (show Sz x.size from hsz)
  clear hsz
  replace HRU := Hd (reg_u64 H.out.reg x.src)
  go_upto_region 15 with fail
  refine wp_region_E (StQ b4 bm bq c (some ad) n cap x rs st fr (k : Int) an tr) (fun _ => True) [] (by kernel_rfl) ?_
  replace HBW := Hd HBW.out.drew
  have HT := Hd (show StQ b4 bm bq c (some ad) n cap x rs st fr (k : Int) an tr wq.drew from ⟨HQ.out.1, ⟨HQ.out.2.blk, HQ.out.2.len, HQ.out.2.frl⟩⟩)
  clear HQ
  generalize wq.drew = Wd at HBW HT ⊢
  refine em 0 (.pointer (some ⟨bm, 0, none⟩)) (bT HT) ?_
  refine ez 1 ⟨bm, 0, none⟩ (bT HT) ?_
  refine ef 2 ⟨bm, 0, none⟩ ⟨bm, 2, none⟩ (bT HT) ?_
  refine el false 3 ⟨bm, 2, none⟩ (.pointer (some ⟨bq, 0, none⟩)) underlying82 (fun w hS => (hS.1.2.cell rfl)) (bT HT) ?_
  refine em 4 (.pointer (some ⟨bm, 0, none⟩)) (bT HT) ?_
  refine ef 5 ⟨b4, 0, none⟩ ⟨b4, 5, none⟩ (bT HT) ?_
  refine el false 6 ⟨b4, 5, none⟩ (.int .i8 x.dst) underlying30 (fun w hS => (hS.1.1.cell 5)) (bT HT) ?_
  refine ez 7 ⟨bm, 0, none⟩ (bT HT) ?_
  refine ef 8 ⟨bm, 0, none⟩ ⟨bm, 3, none⟩ (bT HT) ?_
  refine ef 9 ⟨bm, 3, none⟩ ⟨bm, 3, none⟩ (bT HT) ?_
  refine ex 10 (.pointer (some ⟨bm, 3, none⟩)) (.int .i8 x.dst) (.pointer (some ⟨bm, 3 + x.dst.toNat, none⟩)) (run_ix8 (by omega)) (bT HT) ?_
  refine el false 11 ⟨bm, 3 + x.dst.toNat, none⟩ (.int .u64 (regV rs x.dst)) underlying31 (fun w hS => (hS.1.2.cell (mdC_reg hS.1.2.len (by omega)))) (bT HT) ?_
  refine ef 12 ⟨b4, 0, none⟩ ⟨b4, 7, none⟩ (bT HT) ?_
  refine el false 13 ⟨b4, 7, none⟩ (.int .i64 x.off) underlying3 (fun w hS => (hS.1.1.cell 7)) (bT HT) ?_
  refine eg 14 (.int .u64 (IntKind.u64.wrap x.off)) (bT HT) ?_
  refine eg 15 (.int .u64 (IntKind.u64.wrap (regV rs x.dst + IntKind.u64.wrap x.off))) (bT HT) ?_
  refine ef 16 ⟨b4, 0, none⟩ ⟨b4, 3, none⟩ (bT HT) ?_
  refine el false 17 ⟨b4, 3, none⟩ (.int .i8 x.size) underlying30 (fun w hS => (hS.1.1.cell 3)) (bT HT) ?_
  refine eb 18 (.int .i64 x.size) rfl (fun o e w _ => by unfold execOp; simp only [e]; go_simp; rw [wrap_in (by have := HSZ.out; unfold Sz at this; omega)]) (bT HT) ?_
  refine em 19 (.pointer (some ⟨bm, 0, none⟩)) (bT HT) ?_
  refine ef 20 ⟨b4, 0, none⟩ ⟨b4, 6, none⟩ (bT HT) ?_
  refine el false 21 ⟨b4, 6, none⟩ (.int .i8 x.src) underlying30 (fun w hS => (hS.1.1.cell 6)) (bT HT) ?_
  refine ez 22 ⟨bm, 0, none⟩ (bT HT) ?_
  refine ef 23 ⟨bm, 0, none⟩ ⟨bm, 3, none⟩ (bT HT) ?_
  refine ef 24 ⟨bm, 3, none⟩ ⟨bm, 3, none⟩ (bT HT) ?_
  refine ex 25 (.pointer (some ⟨bm, 3, none⟩)) (.int .i8 x.src) (.pointer (some ⟨bm, 3 + x.src.toNat, none⟩)) (run_ix8 (by omega)) (bT HT) ?_
  refine el false 26 ⟨bm, 3 + x.src.toNat, none⟩ (.int .u64 (regV rs x.src)) underlying31 (fun w hS => (hS.1.2.cell (mdC_reg hS.1.2.len (by omega)))) (bT HT) ?_
  refine eo 27 fun o K h2 h3 hKK => ?_
  unfold Oper.wp execOp
  simp only [h3]
  go_simp
  refine (write_any (HR0.out.mem.below HBW.out) (IntKind.u64.wrap (regV rs x.dst + IntKind.u64.wrap x.off)) x.size (regV rs x.src) (wrap_u64 _) HSZ.out HRU.out).mono ?_
  rintro e wq ⟨er, rfl, her, hmq, hcq⟩
  have HER := Hd her
  have HM := Hd ((H.out.below HBW.out).trans (MdG.mem HT.out.2 (HR0.out.chg (H := fun _ => False) (.of_below HBW.out) (fun _ q => q.elim)) H.out.reg hmq hcq))
  have HMQ := Hd (And.intro hmq hcq)
  clear her hmq hcq
  dsimp only
  refine hKK _ _ (.both (HT.out.chgF HMQ.out.2 HNF.out) trivial) ?_
  clear hKK h2 h3 K o
  try simp only [pt, pn, sL]
  replace HT := Hd (HT.out.chgF HMQ.out.2 HNF.out)
  refine eS 28 (.int .i64 er) (bT HT) ?_
  refine wpAnyE_done (by kernel_rfl) ?_ _
  have HQ := HT
  clear HT
  cases he : (er != 0)
  rotate_left
  ·go_wp2_with fail
   go_ret2
   exact .inl ⟨3, rfl, by omega, by omega, by omega, HM.out⟩
  have cm : wq.cell? ⟨bm, 2, none⟩ = some (.pointer (some ⟨bq, 0, none⟩)) := HQ.out.2.cell rfl
  go_wp2_with fail
  refine (frame_any HMQ.out.1).mono ?_
  rintro e w9 ⟨fl, hf1, hf2, rfl, hbq⟩
  have HFL := Hd (And.intro hf1 hf2)
  have HB9 := Hd (show MdB w9 bm c (.slice (some ad) n cap) (.pointer (some ⟨bq, 0, none⟩)) rs st fr (k : Int) an tr from ⟨HQ.out.2.blk.below hbq HQ.out.2.blk.lt, HQ.out.2.len, HQ.out.2.frl⟩)
  have HM9 := Hd (HM.out.trans (HM.out.at_.below hbq))
  clear hf1 hf2 hbq cm HM HQ
  obtain ⟨st9, fr9, an9, tr9, F9, hB9, hR9⟩ := HM9.out.at_.box
  have HX9 := Hd (And.intro hB9 hR9)
  have c9 : wq.heap.size = wq.heap.size := rfl
  go_wp2_with (first
   | (refine wpList_store_at rfl 84 (.tmp 138) (.tmp 135) rfl bm 15 88 _ (u8C fl) (.agg (u8C fl).toArray) HX9.out.1.blk (by rfl) (by rfl) rfl (by rw [show (u8C fl).length = 64 by unfold u8C; rw [List.length_map]; exact HFL.out.1]; exact sizF64) (by rw [mdC_len HX9.out.1.len HX9.out.1.frl, show (u8C fl).length = 64 by unfold u8C; rw [List.length_map]; exact HFL.out.1]; decide) (u8_one _) ?_
      intro wq hBq hgq hsq
      have HM := Hd (HM9.out.trans (MdG.put_fr HX9.out.1 HX9.out.2 HM9.out.at_.reg HFL.out.1 hBq hgq))
      clear hBq hgq hsq
      obtain ⟨⟨u9, c79⟩, f79, hpc⟩ := MdG.put_pc HM.out.at_ ((k : Int) + 1)
      have HPC := Hd (HM.out.trans hpc)
      clear hpc)
   | fail)
  go_ret2
  exact .inr ⟨_, _, _, [], _, rfl, .inr (.inr (.inl ⟨HKD.out, rfl, rfl, rfl⟩)), by rw [List.append_nil]; exact HPC.out⟩
 ·-- CASE jump
  have HOK := Hd (show holdsOk x.op 64 = true by
   have := HMF.out.cond HKD.out
   simp [holdsOk, longB]
   omega)
  go_upto_region 20 with fail
  refine wp_region_E (StQ b4 bm bq c (some ad) n cap x rs st fr (k : Int) an tr) (fun _ => True) [] (by kernel_rfl) ?_
  replace HBW := Hd HBW.out.drew
  have HT := Hd (show StQ b4 bm bq c (some ad) n cap x rs st fr (k : Int) an tr wq.drew from ⟨HQ.out.1, ⟨HQ.out.2.blk, HQ.out.2.len, HQ.out.2.frl⟩⟩)
  clear HQ
  generalize wq.drew = Wd at HBW HT ⊢
  refine ef 0 ⟨b4, 0, none⟩ ⟨b4, 1, none⟩ (bT HT) ?_
  refine el false 1 ⟨b4, 1, none⟩ (.int .i8 x.op) underlying30 (fun w hS => (hS.1.1.cell 1)) (bT HT) ?_
  refine em 2 (.pointer (some ⟨bm, 0, none⟩)) (bT HT) ?_
  refine ef 3 ⟨b4, 0, none⟩ ⟨b4, 5, none⟩ (bT HT) ?_
  refine el false 4 ⟨b4, 5, none⟩ (.int .i8 x.dst) underlying30 (fun w hS => (hS.1.1.cell 5)) (bT HT) ?_
  refine ez 5 ⟨bm, 0, none⟩ (bT HT) ?_
  refine ef 6 ⟨bm, 0, none⟩ ⟨bm, 3, none⟩ (bT HT) ?_
  refine ef 7 ⟨bm, 3, none⟩ ⟨bm, 3, none⟩ (bT HT) ?_
  refine ex 8 (.pointer (some ⟨bm, 3, none⟩)) (.int .i8 x.dst) (.pointer (some ⟨bm, 3 + x.dst.toNat, none⟩)) (run_ix8 (by omega)) (bT HT) ?_
  refine el false 9 ⟨bm, 3 + x.dst.toNat, none⟩ (.int .u64 (regV rs x.dst)) underlying31 (fun w hS => (hS.1.2.cell (mdC_reg hS.1.2.len (by omega)))) (bT HT) ?_
  refine em 10 (.pointer (some ⟨bm, 0, none⟩)) (bT HT) ?_
  refine eL false 11 ⟨b4, 0, none⟩ x.cells (fun w hS => blk_list hS.1.1) underlying47 sizIn (bT HT) ?_
  refine eo 12 fun o K h2 h3 hKK => ?_
  unfold Oper.wp execOp
  simp only [h3]
  go_simp
  refine (md_second HT.out.2 x HMF.out).mono ?_
  rintro e wq ⟨rfl, hbq⟩
  replace HT := Hd (HT.out.below hbq)
  replace HBW := Hd (HBW.out.trans (hbq.mono HBW.out.size))
  clear hbq
  dsimp only
  refine hKK _ _ (bT HT) ?_
  clear hKK h2 h3 K o
  try simp only [pt, pn, sL]
  refine eo 13 fun o K h2 h3 hKK => ?_
  unfold Oper.wp execOp
  simp only [h3]
  go_simp
  refine (rholds_yes (regV rs x.dst) (secM rs x) HRU.out.1 HRU.out.2 _ HOK.out).mono ?_
  rintro e wq ⟨rfl, rfl⟩
  dsimp only
  refine hKK _ _ (bT HT) ?_
  clear hKK h2 h3 K o
  try simp only [pt, pn, sL]
  refine em 14 (.tuple #[.bool (holdsU x.op 64 (regV rs x.dst) (secM rs x)), .int .i64 0]) (bT HT) ?_
  refine eg 15 (.bool (holdsU x.op 64 (regV rs x.dst) (secM rs x))) (bT HT) ?_
  refine eg 16 (.int .i64 0) (bT HT) ?_
  refine eS 17 (.bool (holdsU x.op 64 (regV rs x.dst) (secM rs x))) (bT HT) ?_
  refine eS 18 (.int .i64 0) (bT HT) ?_
  refine wpAnyE_done (by kernel_rfl) ?_ _
  have HQ := HT
  clear HT
  cases hh : holdsU x.op 64 (regV rs x.dst) (secM rs x)
  ·have HM := Hd (H.out.below HBW.out)
   have HHH := Hd (And.intro hh hh)
   obtain ⟨⟨u9, c79⟩, f79, hpc⟩ := MdG.put_pc HM.out.at_ ((k : Int) + 1)
   have HPC := Hd (HM.out.trans hpc)
   clear hpc
   go_wp2_with fail
   go_ret2
   exact .inr ⟨(k : Int) + 1, _, _, [], _, rfl, .inr (.inr (.inr (.inl ⟨HKD.out, by rw [if_neg (by rw [HHH.out.1]; decide)], rfl, rfl⟩))), by rw [List.append_nil]; exact HPC.out⟩
  ·have HHH := Hd (And.intro hh hh)
   go_upto_region 22 with fail
   refine wp_region_E (StQ b4 bm bq c (some ad) n cap x rs st fr (k : Int) an tr) (fun _ => True) [] (by kernel_rfl) ?_
   replace HBW := Hd HBW.out.drew
   have HT := Hd (show StQ b4 bm bq c (some ad) n cap x rs st fr (k : Int) an tr wq.drew from ⟨HQ.out.1, ⟨HQ.out.2.blk, HQ.out.2.len, HQ.out.2.frl⟩⟩)
   clear HQ
   generalize wq.drew = Wd at HBW HT ⊢
   refine em 0 (.pointer (some ⟨bm, 0, none⟩)) (bT HT) ?_
   refine ez 1 ⟨bm, 0, none⟩ (bT HT) ?_
   refine ef 2 ⟨bm, 0, none⟩ ⟨bm, 79, none⟩ (bT HT) ?_
   refine el false 3 ⟨bm, 79, none⟩ (.int .i64 (k : Int)) underlying3 (fun w hS => (hS.1.2.cell (mdC_pc hS.1.2.len hS.1.2.frl))) (bT HT) ?_
   refine eL false 4 ⟨b4, 0, none⟩ x.cells (fun w hS => blk_list hS.1.1) underlying47 sizIn (bT HT) ?_
   refine eo 5 fun o K h2 h3 hKK => ?_
   unfold Oper.wp execOp
   simp only [h3]
   go_simp
   refine (rtarget_any (k : Int) x _).mono ?_
   rintro e wq ⟨rfl, hbq⟩
   replace HT := Hd (HT.out.below hbq)
   replace HBW := Hd (HBW.out.trans (hbq.mono HBW.out.size))
   clear hbq
   dsimp only
   refine hKK _ _ (bT HT) ?_
   clear hKK h2 h3 K o
   try simp only [pt, pn, sL]
   refine em 6 (.tuple #[.int .i64 (tgtN k x), .bool (tgtB k x)]) (bT HT) ?_
   refine eg 7 (.int .i64 (tgtN k x)) (bT HT) ?_
   refine eg 8 (.bool (tgtB k x)) (bT HT) ?_
   refine eS 9 (.int .i64 (tgtN k x)) (bT HT) ?_
   refine wpAnyE_done (by kernel_rfl) ?_ _
   have HQ := HT
   clear HT
   have HM := Hd (H.out.below HBW.out)
   obtain ⟨⟨u9, c79⟩, f79, hpc⟩ := MdG.put_pc HM.out.at_ (tgtN (k : Int) x)
   have HPC := Hd (HM.out.trans hpc)
   clear hpc
   go_wp2_with fail
   go_ret2
   exact .inr ⟨tgtN (k : Int) x, _, _, [], _, rfl, .inr (.inr (.inr (.inl ⟨HKD.out, by rw [if_pos HHH.out.1], rfl, rfl⟩))), by rw [List.append_nil]; exact HPC.out⟩
 ·-- CASE goto
  go_upto_region 24 with fail
  refine wp_region_E (StQ b4 bm bq c (some ad) n cap x rs st fr (k : Int) an tr) (fun _ => True) [] (by kernel_rfl) ?_
  replace HBW := Hd HBW.out.drew
  have HT := Hd (show StQ b4 bm bq c (some ad) n cap x rs st fr (k : Int) an tr wq.drew from ⟨HQ.out.1, ⟨HQ.out.2.blk, HQ.out.2.len, HQ.out.2.frl⟩⟩)
  clear HQ
  generalize wq.drew = Wd at HBW HT ⊢
  refine em 0 (.pointer (some ⟨bm, 0, none⟩)) (bT HT) ?_
  refine ez 1 ⟨bm, 0, none⟩ (bT HT) ?_
  refine ef 2 ⟨bm, 0, none⟩ ⟨bm, 79, none⟩ (bT HT) ?_
  refine el false 3 ⟨bm, 79, none⟩ (.int .i64 (k : Int)) underlying3 (fun w hS => (hS.1.2.cell (mdC_pc hS.1.2.len hS.1.2.frl))) (bT HT) ?_
  refine eL false 4 ⟨b4, 0, none⟩ x.cells (fun w hS => blk_list hS.1.1) underlying47 sizIn (bT HT) ?_
  refine eo 5 fun o K h2 h3 hKK => ?_
  unfold Oper.wp execOp
  simp only [h3]
  go_simp
  refine (rtarget_any (k : Int) x _).mono ?_
  rintro e wq ⟨rfl, hbq⟩
  replace HT := Hd (HT.out.below hbq)
  replace HBW := Hd (HBW.out.trans (hbq.mono HBW.out.size))
  clear hbq
  dsimp only
  refine hKK _ _ (bT HT) ?_
  clear hKK h2 h3 K o
  try simp only [pt, pn, sL]
  refine em 6 (.tuple #[.int .i64 (tgtN k x), .bool (tgtB k x)]) (bT HT) ?_
  refine eg 7 (.int .i64 (tgtN k x)) (bT HT) ?_
  refine eg 8 (.bool (tgtB k x)) (bT HT) ?_
  refine eS 9 (.int .i64 (tgtN k x)) (bT HT) ?_
  refine wpAnyE_done (by kernel_rfl) ?_ _
  have HQ := HT
  clear HT
  have HM := Hd (H.out.below HBW.out)
  obtain ⟨⟨u9, c79⟩, f79, hpc⟩ := MdG.put_pc HM.out.at_ (tgtN (k : Int) x)
  have HPC := Hd (HM.out.trans hpc)
  clear hpc
  go_wp2_with fail
  go_ret2
  exact .inr ⟨_, _, _, [], _, rfl, .inr (.inr (.inr (.inr (.inl ⟨HKD.out, rfl, rfl, rfl⟩)))), by rw [List.append_nil]; exact HPC.out⟩
 ·-- CASE call
  have dd : wq.cell? ⟨b4, 8, none⟩ = some (.int .i64 x.imm) := HQ.out.1.cell 8
  go_wp2_with fail
  have h0 := H.out.below HBW.out
  refine (md_call h0.at_ x.imm HFEW.out).mono ?_
  rintro e w8 (⟨rfl, rfl⟩ | ⟨a, lb, G', hla, rfl, hm⟩)
  ·go_wp2_with fail
   go_ret2
   exact .inl ⟨2, rfl, by omega, by omega, by omega, H.out.below HBW.out⟩
  have HM := Hd (h0.trans hm)
  have HAU := Hd (show U64 a from HR0.out.u64 a (by rw [hla]; exact List.mem_cons_self))
  clear hm h0 dd hla
  obtain ⟨⟨u9, c79⟩, f79, hpc⟩ := MdG.put_pc HM.out.at_ ((k : Int) + 1)
  have HPC := Hd (HM.out.trans hpc)
  clear hpc
  go_wp2_with fail
  go_ret2
  exact .inr ⟨_, _, _, _, _, rfl, .inr (.inr (.inr (.inr (.inr ⟨HKD.out, rfl, a, HAU.out, rfl, rfl⟩)))), HPC.out⟩
 ·-- CASE exit
  go_wp2_with fail
  go_ret2
  exact .inl ⟨1, rfl, fun _ => HKD.out, by omega, by omega, H.out.below HBW.out⟩
end
section
open Go.RowKit
def z11 : List Int := List.replicate 11 0
theorem cells_md (c : Int) (A AA : Option Addr) (n cap m ca bq : Nat) : ((((zeroCells88.setIfInBounds 0 (Value.int IntKind.i64 c)).setIfInBounds 1 (Value.slice A n cap)).setIfInBounds 2 (Value.pointer (some { block := bq, off := 0 }))).setIfInBounds 80 (Value.slice AA m ca)) = (mdC c (.slice A n cap) (.pointer (some ⟨bq, 0, none⟩)) z11 0 z64 0 (.slice AA m ca) (.slice none 0 0)).toArray := by kernel_rfl
theorem MemAt.base {w : World} {base b bm : Nat} {F : Nat → Prop} (h : MemAt w base F bm) (hb : b ≤ base) : MemAt w b F bm := by
 obtain ⟨vc, vx, vf, nx, R⟩ := h.ex
 exact ⟨⟨vc, vx, vf, nx, { R with code := R.code.base hb, ctx := R.ctx.base hb, frm := R.frm.base hb }⟩, fun k z => ⟨Nat.le_trans hb (h.fb k z).1, (h.fb k z).2⟩⟩
def NewP (B : Nat) (c : Int) (A : Option Addr) (n cap : Nat) (la : List Int) (w : World) (e : Ending) (w' : World) : Prop := ∃ bm bq G, e = .returned (.pointer (some ⟨bm, 0, none⟩)) ∧ MdM B bm bq (fun _ => False) G c A n cap VE 0 la [] w' ∧ (∀ b, G b → w.heap.size ≤ b) ∧ Below w.heap.size w w'
theorem ve_ok : RegOk VE := ⟨rfl, fun v hv => by
 unfold VE at hv
 simp only [List.mem_cons, List.not_mem_nil, or_false] at hv
 unfold U64
 omega⟩
theorem md_new (c : Int) (A : Option Addr) (n cap : Nat) (Ax : Option Addr) (nx cx : Nat) (lx : List Int) (AA : Option Addr) (ca : Nat) (la : List Int) (w : World) (B : Nat) (hB : B ≤ w.heap.size) (hx : Reads w w.heap.size 1 Ax nx (u8C lx)) (hlx : lx.length = nx) (hnx : nx ≤ 256) (hu : ∀ x ∈ lx, U8 x)
  (ha : Reads w B 1 AA la.length (la.map (Value.int .u64))) (hca : la.length ≤ ca) (hau : ∀ v ∈ la, U64 v) :
  Calls prog 27 #[.agg #[.int .i64 c, .slice A n cap], .slice Ax nx cx, .slice AA la.length ca] w (NewP B c A n cap la w) := by
 obtain ⟨w1, hw1⟩ : ∃ v, w.alloc (.cells #[.int .i64 c, .slice A n cap] 24) = v := ⟨_, rfl⟩
 have hb0 : Below w.heap.size w w1 := by rw [← hw1]; exact (Below.refl _ w).alloc (Nat.le_refl _) _
 have hbp : Blk w1 w.heap.size 24 #[.int .i64 c, .slice A n cap] := by rw [← hw1]; exact Blk.new w 24 #[.int .i64 c, .slice A n cap]
 have HX := Hd (show Reads w1 w1.heap.size 1 Ax nx (u8C lx) from (hx.below hb0).more hb0.size)
 have HL := Hd (And.intro hlx (And.intro hnx hu))
 have HA := Hd (And.intro ha (And.intro hca hau))
 have HB := Hd hb0
 have HBB := Hd hB
 obtain ⟨b3, hb3⟩ : ∃ q, w.heap.size = q := ⟨_, rfl⟩
 rw [hb3] at hbp
 have HBP := Hd hbp
 obtain ⟨m, hm⟩ : ∃ q, la.length = q := ⟨_, rfl⟩
 have HM := Hd hm
 rw [hm]
 clear hB hx hlx hnx hu ha hca hau hb0 hbp hm
 go_enter func27, ntmps27
 go_wp2_with fail
 refine (mem_new Ax nx cx lx _ HX.out HL.out.1 HL.out.2.1 HL.out.2.2).mono ?_
 rintro e w2 ⟨bq, F, rfl, hmem, hb⟩
 have HMEM := Hd hmem
 replace HBP := Hd (HBP.out.below hb HBP.out.lt)
 have hb12 := hb
 replace HB := Hd (HB.out.trans (hb.mono HB.out.size))
 have h3 : w.heap.size ≤ w1.heap.size := by
  rw [← hw1]
  simp
 have HF := Hd (show ∀ b, F b → w.heap.size ≤ b ∧ b < w2.heap.size from fun b z => ⟨Nat.le_trans h3 (hmem.fb b z).1, (hmem.fb b z).2⟩)
 replace HMEM := Hd (hmem.base (Nat.le_trans HBB.out h3))
 clear hmem hb hb12 hw1 h3
 have c30 : w2.cell? ⟨b3, 0, none⟩ = some (.int .i64 c) := HBP.out.cell 0
 have c31 : w2.cell? ⟨b3, 1, none⟩ = some (.slice A n cap) := HBP.out.cell 1
 go_upto_region 3 with fail
 rw [cells_md c A AA n cap m ca bq]
 have hx9 := Blk.new w2 88 (mdC c (.slice A n cap) (.pointer (some ⟨bq, 0, none⟩)) z11 0 z64 0 (.slice AA m ca) (.slice none 0 0)).toArray
 have hb9 := (Below.refl w2.heap.size w2).alloc (Nat.le_refl _) (.cells (mdC c (.slice A n cap) (.pointer (some ⟨bq, 0, none⟩)) z11 0 z64 0 (.slice AA m ca) (.slice none 0 0)).toArray 88)
 have hne : ∀ b, F b → b ≠ w2.heap.size := fun b z => by have := (HF.out b z).2; omega
 have HNE := Hd hne
 obtain ⟨bm, hbm⟩ : ∃ q, w2.heap.size = q := ⟨_, rfl⟩
 have HBM := Hd hbm
 rw [hbm] at hx9 HNE ⊢
 generalize w2.alloc (.cells (mdC c (.slice A n cap) (.pointer (some ⟨bq, 0, none⟩)) z11 0 z64 0 (.slice AA m ca) (.slice none 0 0)).toArray 88) = w3 at hx9 hb9 ⊢
 have HB9 := Hd hb9
 have hM : MdB w3 bm c (.slice A n cap) (.pointer (some ⟨bq, 0, none⟩)) z11 0 z64 0 (.slice AA m ca) (.slice none 0 0) := ⟨hx9, rfl, rfl⟩
 have c4 : w3.cell? ⟨bm, 4, none⟩ = some (.int .u64 0) := hM.cell (mdC_reg hM.len (k := 1) (by omega))
 have f4 := hM.blk.frozen 4
 have h4 := hM.put_reg (k := 1) (by omega) 2097152
 have k4 : Chg (fun b => b = bm) w3 (w3.setCell ⟨bm, 4, none⟩ (.int .u64 2097152)) := chg_setCell (b := bm) rfl _ rfl
 have H4 := Hd (And.intro h4 k4)
 clear hx9 hb9 hne hbm hM h4 k4
 go_upto_region 4 with fail
 generalize w3.setCell ⟨bm, 4, none⟩ (.int .u64 2097152) = w4 at H4 ⊢
 clear c4 f4
 have c4 : w4.cell? ⟨bm, 13, none⟩ = some (.int .u64 0) := H4.out.1.cell (mdC_reg H4.out.1.len (k := 10) (by omega))
 have f4 := H4.out.1.blk.frozen 13
 have h4 := H4.out.1.put_reg (k := 10) (by omega) 3145792
 have k4 : Chg (fun b => b = bm) w4 (w4.setCell ⟨bm, 13, none⟩ (.int .u64 3145792)) := chg_setCell (b := bm) rfl _ rfl
 have H5 := Hd (And.intro h4 (H4.out.2.trans k4 (fun b q => .inl q)))
 clear h4 k4 H4
 go_upto_region 5 with fail
 generalize w4.setCell ⟨bm, 13, none⟩ (.int .u64 3145792) = w5 at H5 ⊢
 clear c4 f4
 have c4 : w5.cell? ⟨bm, 14, none⟩ = some (.int .i64 0) := H5.out.1.cell (mdC_set H5.out.1.len)
 have f4 := H5.out.1.blk.frozen 14
 have h4 := H5.out.1.put_set 1026
 have k4 : Chg (fun b => b = bm) w5 (w5.setCell ⟨bm, 14, none⟩ (.int .i64 1026)) := chg_setCell (b := bm) rfl _ rfl
 have H6 := Hd (And.intro h4 (H5.out.2.trans k4 (fun b q => .inl q)))
 clear h4 k4 H5
 go_wp2_with fail
 generalize w5.setCell ⟨bm, 14, none⟩ (.int .i64 1026) = w6 at H6 ⊢
 go_ret
 have hbw : Below w.heap.size w w3 := HB.out.trans (HB9.out.mono HB.out.size)
 have hbw6 : Below w.heap.size w w6 := hbw.trans (H6.out.2.below (fun b e => by rw [e, ← HBM.out]; exact HB.out.size) hbw.size)
 have hlt : bm < w6.heap.size := H6.out.1.blk.lt
 have hs3 : w2.heap.size ≤ w3.heap.size := HB9.out.size
 have hmem6 : MemAt w6 B F bq := (HMEM.out.below HB9.out).chg H6.out.2 (fun b z e => HNE.out b z e)
 refine ⟨bm, bq, fun b => b = bm ∨ F b, rfl, ⟨⟨_, _, _, _, F, H6.out.1, ⟨hmem6, fun b z => ⟨.inr z, HNE.out b z⟩, ⟨[], ⟨rfl, .inl ⟨rfl, rfl⟩⟩, rfl, fun p hp => by cases hp⟩, fun b e => by simp [Value.ownBlock] at e, ⟨AA, ca, by rw [HM.out], HA.out.2.1, HA.out.1.below (hbw6.mono HBB.out)⟩, .inl rfl, fun b z => ?_, HA.out.2.2, fun b z => z.elim⟩⟩, ve_ok⟩, fun b z => ?_, hbw6⟩
 ·rcases z with rfl | z
  ·exact ⟨by have := HBB.out; have := HB.out.size; rw [← HBM.out]; omega, hlt⟩
  ·exact ⟨Nat.le_trans HBB.out (HF.out b z).1, by have := (HF.out b z).2; have := H6.out.2.size; omega⟩
 ·rcases z with rfl | z
  ·rw [← HBM.out]; exact HB.out.size
  ·exact (HF.out b z).1
end
end Go.Proofs.YtepagfkkjlbipaaGreat
