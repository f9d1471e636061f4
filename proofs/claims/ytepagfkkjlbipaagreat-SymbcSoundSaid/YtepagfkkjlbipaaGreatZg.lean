/-
  The machine within its limits refuses nothing; gone through again, it comes to the same. Conditions: those written in each statement.
-/
import Derived.Test.YtepagfkkjlbipaaGreatKax
set_option linter.unusedVariables false
set_option linter.unusedSimpArgs false
set_option maxHeartbeats 64000000
set_option maxRecDepth 100000
namespace Go.Proofs.YtepagfkkjlbipaaGreat
open Go.RowKit
/-! ### variables' numbers -/
def VI (c : Int) (p : PS) : Prop := ∀ t ∈ p.T, t.kind = 1 → t.n < c
theorem VI.mem {p : PS} {t u : TD} (h : u ∈ (putP p t).T) : u ∈ p.T ∨ u = t := by
 rcases putP_cases p t with ⟨e, _⟩ | ⟨_, _, _, _, e, _⟩
 ·rw [e] at h; exact .inl h
 ·rw [e] at h
  simpa using h
theorem VI.putI (c : Int) : PutI (VI c) := fun q t ht h u hu hk => (VI.mem hu).elim (fun hu => h u hu hk) (fun e => absurd hk (e ▸ ht))
theorem VI.mono {c d : Int} {p : PS} (h : VI c p) (hc : c ≤ d) : VI d p := fun t ht hk => by have := h t ht hk; omega
theorem VI.new {c : Int} {p : PS} (h : VI c p) (x : Int) : VI (c + 1) (putP p (varT c x)) := fun u hu hk => (VI.mem hu).elim (fun hu => by have := h u hu hk; omega) (fun e => by subst e; show c < c + 1; omega)
theorem wide_none {c : Int} {p : PS} (h : VI c p) : wideF p.T c = none := by
 cases e : wideF p.T c with
 | none => rfl
 | some w =>
  obtain ⟨i, t, ht, hk, hn, _⟩ := wideF_some e
  have := h t (List.mem_of_getElem? ht) hk
  omega
theorem okP_var {c x : Int} {p : PS} (h : VI c p) (hx : Wd4 x) : okP p.T (varT c x) = true := by
 have hw : wdB x = true := by unfold wdB; unfold Wd4 at hx; simp; omega
 unfold okP okF askT likeT prtL clashB varT
 simp [hw, wide_none h]
/-! ### what is put within the limits -/
structure PSt (p : PS) (r : RS) (k : Nat) (d c : Int) : Prop where
 err : r.2.2 = 0
 rm : Rm r.1 k
 ext : Ext p r.1
 has : hasB r.1.T r.2.1 = true
 low : dpP r.1 r.2.1 ≤ d
 vi : VI c r.1
theorem num_st {p : PS} {k : Nat} {c : Int} (h : Rm p (k + 1)) (hv : VI c p) (n : Int) : PSt p (putR p (constT (IntKind.u64.wrap n))) k 1 c := by
 obtain ⟨c1, c2, c3, c4, _⟩ := h.const (wrap_u64 n)
 exact ⟨c2.err, c1, c4, c3, c2.low, VI.putI c p _ (by show (0 : Int) ≠ 1; decide) hv⟩
theorem op_st {p : PS} {k : Nat} {op x a b d c : Int} (h : Rm p (k + 12)) (hv : VI c p) (hd : doOk op x = true) (ha : hasB p.T a = true) (hb : hasB p.T b = true) (hl : dpP p a ≤ d ∧ dpP p b ≤ d ∧ d < 256) : PSt p (opV p op x a b) k (d + 1) c := by
 obtain ⟨f, hf⟩ := opV_some h.wf h.rng op x a b
 have hg := op_good f h.wf h.rng hf
 have ht := op_fit (d := d + 1) (h.less (by omega)) hd ha hb (by omega) hf
 exact ⟨ht.err, ⟨hg.wf, hg.rng, op_nz f h.nz h.wf h.rng hf, op_aa f h.aa h.nz h.wf h.rng hf, by have := ht.few; have := h.room; omega⟩, hg.ext, hg.has ht.err, ht.low, op_inv (VI.putI c) f hf hv⟩
theorem cond_st {p : PS} {k : Nat} {cc x a b d c : Int} (h : Rm p (k + 6)) (hv : VI c p) (hd : holdsOk cc x = true) (ha : hasB p.T a = true) (hb : hasB p.T b = true) (hl : dpP p a ≤ d ∧ dpP p b ≤ d ∧ d < 256) : PSt p (condV p cc x a b) k (d + 1) c := by
 have hf := condV_some p cc x a b
 have hg := cond_good 2 h.wf h.rng hf
 have ht := cond_fit (d := d + 1) (h.less (by omega)) hd ha hb (by omega) hf
 exact ⟨ht.err, ⟨hg.wf, hg.rng, cond_nz 2 h.nz h.wf h.rng hf, cond_aa 2 h.aa h.wf h.rng hf, by have := ht.few; have := h.room; omega⟩, hg.ext, hg.has ht.err, ht.low, cond_inv (VI.putI c) 2 hf hv⟩
theorem zext_st {p : PS} {k : Nat} {x a d c : Int} (h : Rm p (k + 1)) (hv : VI c p) (hx : Wd4 x) (ha : hasB p.T a = true) (hl : dpP p a ≤ d ∧ d < 256) : PSt p (zextV p x a) k (d + 1) c := by
 have hf := zextV_some h.wf x a
 have hf2 := zextO_yes ha (by unfold wdB; unfold Wd4 at hx; simp; omega) hf
 have hg := zextO_good h.wf h.rng (by unfold I8; unfold Wd4 at hx; omega) hf
 have ht := zext_fit _ h.wf (d := d + 1) hx ha (by have := h.room; omega) (by omega) hf2
 exact ⟨ht.err, ⟨hg.wf, hg.rng, zext_nz _ h.nz h.wf ha hf2, zext_aa _ h.aa h.wf hf2, by have := ht.few; have := h.room; omega⟩, hg.ext, hg.has ht.err, ht.low, zext_inv (VI.putI c) _ hf2 hv⟩
theorem var_st {p : PS} {k : Nat} {x c : Int} (h : Rm p (k + 1)) (hv : VI c p) (hc : 0 ≤ c ∧ c < 1000) (hx : Wd4 x) : PSt p (putR p (varT c x)) k 1 (c + 1) := by
 have hl : p.T.length < 4000 := by have := h.room; omega
 have ht : Fit p (putR p (varT c x)) 1 1 := put_fit h.wf (okP_var hv hx) hl (by omega) (fun k hk => by have : prtL (varT c x) = [] := rfl; rw [this] at hk; cases hk)
 have hg := Good.put h.wf h.rng (varT_wf (n := c) (x := x) (by unfold U64; omega) (by unfold I8; unfold Wd4 at hx; omega))
 exact ⟨ht.err, ⟨hg.wf, hg.rng, h.nz.putR h.wf (by show (1 : Int) ≠ 3; decide), h.aa.putR h.wf (.inl (by show (1 : Int) ≠ 2; decide)), by have := ht.few; have := h.room; omega⟩, hg.ext, hg.has ht.err, ht.low, hv.new x⟩
/-! ### again -/
/-! ### the machine -/
structure MI (m : SM) (k : Nat) (d : Int) : Prop where
 rm : Rm m.p k
 len : m.regs.length = 11
 reg : ∀ r ∈ m.regs, hasB m.p.T r = true ∧ dpP m.p r ≤ d
 err : m.err = 0
 vi : VI (38 + 3 * (bringsN m.evs : Int)) m.p
theorem MI.at_ {m : SM} {k : Nat} {d : Int} (h : MI m k d) {i : Int} (hi : 0 ≤ i ∧ i ≤ 10) : hasB m.p.T (m.reg i) = true ∧ dpP m.p (m.reg i) ≤ d := by
 refine h.reg _ ?_
 unfold SM.reg
 rw [List.getD_eq_getElem?_getD, List.getElem?_eq_getElem (by rw [h.len]; omega)]
 exact List.getElem_mem _
theorem regs_up {p q : PS} {l : List Int} {d e : Int} (h : ∀ r ∈ l, hasB p.T r = true ∧ dpP p r ≤ d) (he : Ext p q) (hw : WfP p) (hq : WfP q) (hd : d ≤ e) : ∀ r ∈ l, hasB q.T r = true ∧ dpP q r ≤ e := fun r hr => by
 obtain ⟨h1, h2⟩ := h r hr
 exact ⟨he.has h1, by rw [he.dp hw hq h1]; omega⟩
theorem regs_set {p : PS} {l : List Int} {d n : Int} (h : ∀ r ∈ l, hasB p.T r = true ∧ dpP p r ≤ d) (hn : hasB p.T n = true ∧ dpP p n ≤ d) (i : Nat) : ∀ r ∈ l.set i n, hasB p.T r = true ∧ dpP p r ≤ d := fun r hr => (List.mem_or_eq_of_mem_set hr).elim (h r) (fun e => e ▸ hn)
theorem brings_app (l : List EvD) (e : EvD) : bringsN (l ++ [e]) = if bringB e then bringsN l + 1 else bringsN l := by
 unfold bringsN
 rw [List.filter_append, List.length_append]
 simp only [List.filter_cons, List.filter_nil]
 cases bringB e <;> simp
structure SecI (m : SM) (q : SM × Int) (k : Nat) (d : Int) : Prop where
 rm : Rm q.1.p k
 ext : Ext m.p q.1.p
 has : hasB q.1.p.T q.2 = true
 low : dpP q.1.p q.2 ≤ d
 vi : VI (38 + 3 * (bringsN m.evs : Int)) q.1.p
 eq : q.1 = ⟨q.1.p, m.regs, m.evs, 0⟩
theorem second_st {m : SM} {k : Nat} {d : Int} (h : MI m (k + 1) d) (hd : 1 ≤ d) {x : ID} (hs : 0 ≤ x.src ∧ x.src ≤ 10) : SecI m (m.second x) k d := by
 have key : ∀ n : Int, SecI m (m.num n) k d := fun n => by
  have hn := num_st h.rm h.vi n
  exact ⟨hn.rm, hn.ext, hn.has, by have := hn.low; show dpP _ _ ≤ d; exact Int.le_trans this hd, hn.vi, by unfold SM.num SM.keep; rw [if_pos h.err, hn.err]⟩
 unfold SM.second
 split
 ·have := h.at_ hs
  exact ⟨h.rm.less (by omega), Ext.refl _, this.1, this.2, h.vi, by show m = ⟨m.p, m.regs, m.evs, 0⟩; rw [← h.err]⟩
 ·split <;> exact key _
theorem place_st {m : SM} {k : Nat} {d : Int} (h : MI m (k + 13) d) (hd : 1 ≤ d ∧ d < 256) {r off : Int} (hr : 0 ≤ r ∧ r ≤ 10) : SecI m (m.place r off) k (d + 1) := by
 have hn := num_st (k := k + 12) h.rm h.vi off
 have hr0 := h.at_ hr
 have he : Ext m.p (m.num off).1.p := hn.ext
 have ho := op_st (op := 0) (x := 64) (a := m.reg r) (b := (m.num off).2) (d := d) hn.rm hn.vi rfl (hn.ext.has hr0.1) hn.has ⟨by rw [hn.ext.dp h.rm.wf hn.rm.wf hr0.1]; exact hr0.2, by have := hn.low; show dpP _ _ ≤ d; exact Int.le_trans this hd.1, hd.2⟩
 refine ⟨ho.rm, hn.ext.trans ho.ext, ho.has, ho.low, ho.vi, ?_⟩
 unfold SM.place SM.keep SM.num SM.keep
 dsimp only
 rw [if_pos h.err, hn.err, if_pos rfl]
 exact congrArg (SM.mk _ m.regs m.evs) ho.err
theorem next_st {m : SM} {k : Nat} {d : Int} (h : MI m (k + 1) d) (hfew : bringsN m.evs ≤ 64) {x : Int} (hx : Wd4 x) : PSt m.p (putR m.p (varT (38 + 3 * (bringsN m.evs : Int)) x)) k 1 (38 + 3 * (bringsN m.evs : Int) + 1) := var_st h.rm h.vi (by omega) hx
theorem step_fit {m : SM} {k : Nat} {d : Int} (h : MI m (k + 30) d) (hd : 1 ≤ d ∧ d < 256) (hfew : bringsN m.evs ≤ 64) {x : ID} (M : MayF x) : MI (m.step x) k (d + 1) ∧ Ext m.p (m.step x).p := by
 have hmore : ∀ {j : Nat}, k + j ≤ k + 30 → MI m (k + j) d := fun hj => ⟨h.rm.less hj, h.len, h.reg, h.err, h.vi⟩
 unfold SM.step
 rw [if_neg (by rw [h.err]; simp)]
 split
 ·rename_i k0
  obtain ⟨ho, hw⟩ := M.alu k0
  have hs := second_st (k := k + 12) (hmore (j := 13) (by omega)) hd.1 M.src
  have hr := h.at_ M.dst
  have hdo : doOk x.op x.width = true := by
   unfold doOk longB
   simp only [Bool.and_eq_true, decide_eq_true_eq, Bool.or_eq_true, beq_iff_eq]
   exact ⟨ho.1, ho.2, hw⟩
  have hp := op_st (op := x.op) (x := x.width) (a := m.reg x.dst) (b := (m.second x).2) (d := d) hs.rm hs.vi hdo (hs.ext.has hr.1) hs.has ⟨by rw [hs.ext.dp h.rm.wf hs.rm.wf hr.1]; exact hr.2, hs.low, hd.2⟩
  have e : m.alu x = ⟨(opV (m.second x).1.p x.op x.width (m.reg x.dst) (m.second x).2).1, m.regs.set x.dst.toNat (opV (m.second x).1.p x.op x.width (m.reg x.dst) (m.second x).2).2.1, m.evs, 0⟩ := by
   unfold SM.alu SM.set SM.keep
   dsimp only
   have h1 := hs.eq
   have h2 : (m.second x).1.regs = m.regs := by rw [h1]
   have h3 : (m.second x).1.evs = m.evs := by rw [h1]
   have h4 : (m.second x).1.err = 0 := by rw [h1]
   rw [h2, h3, h4, if_pos rfl, hp.err]
  rw [e]
  exact ⟨⟨hp.rm, by rw [List.length_set]; exact h.len, regs_set (regs_up h.reg (hs.ext.trans hp.ext) h.rm.wf hp.rm.wf (by omega)) ⟨hp.has, hp.low⟩ _, rfl, hp.vi⟩, hs.ext.trans hp.ext⟩
 split
 ·rename_i k1
  have hz := M.size (.inl k1)
  have hs := place_st (k := k + 1) (hmore (j := 14) (by omega)) hd M.src (off := x.off)
  have hx : Wd4 (8 * x.size) := by unfold Wd4; omega
  have hv : PSt (m.place x.src x.off).1.p (putR (m.place x.src x.off).1.p (varT (38 + 3 * (bringsN m.evs : Int)) (8 * x.size))) k 1 (38 + 3 * (bringsN m.evs : Int) + 1) := var_st hs.rm hs.vi (by omega) hx
  have e : m.load x = ⟨(putR (m.place x.src x.off).1.p (varT (38 + 3 * (bringsN m.evs : Int)) (8 * x.size))).1, m.regs.set x.dst.toNat (putR (m.place x.src x.off).1.p (varT (38 + 3 * (bringsN m.evs : Int)) (8 * x.size))).2.1, m.evs ++ [⟨0, x.size, (m.place x.src x.off).2, (putR (m.place x.src x.off).1.p (varT (38 + 3 * (bringsN m.evs : Int)) (8 * x.size))).2.1, 0, []⟩], 0⟩ := by
   unfold SM.load SM.set SM.event SM.next SM.keep
   dsimp only
   have h1 := hs.eq
   have h2 : (m.place x.src x.off).1.regs = m.regs := by rw [h1]
   have h3 : (m.place x.src x.off).1.evs = m.evs := by rw [h1]
   have h4 : (m.place x.src x.off).1.err = 0 := by rw [h1]
   rw [h2, h3, h4, if_pos rfl, hv.err]
  rw [e]
  refine ⟨⟨hv.rm, by rw [List.length_set]; exact h.len, regs_set (regs_up h.reg (hs.ext.trans hv.ext) h.rm.wf hv.rm.wf (by omega)) ⟨hv.has, by have := hv.low; omega⟩ _, rfl, ?_⟩, hs.ext.trans hv.ext⟩
  rw [brings_app]
  exact hv.vi.mono (by show _ ≤ 38 + 3 * ((bringsN m.evs + 1 : Nat) : Int); omega)
 split
 ·rename_i k2
  have hz := M.size (.inr k2)
  have hs := place_st (k := k + 1) (hmore (j := 14) (by omega)) hd M.dst (off := x.off)
  have hx : Wd4 (8 * x.size) := by unfold Wd4; omega
  have hr := h.at_ M.src
  have hv := zext_st (x := 8 * x.size) (a := m.reg x.src) (d := d) hs.rm hs.vi hx (hs.ext.has hr.1) ⟨by rw [hs.ext.dp h.rm.wf hs.rm.wf hr.1]; exact hr.2, hd.2⟩
  have e : m.store x = ⟨(zextV (m.place x.dst x.off).1.p (8 * x.size) (m.reg x.src)).1, m.regs, m.evs ++ [⟨1, x.size, (m.place x.dst x.off).2, (zextV (m.place x.dst x.off).1.p (8 * x.size) (m.reg x.src)).2.1, 0, []⟩], 0⟩ := by
   unfold SM.store SM.event SM.keep
   dsimp only
   have h1 := hs.eq
   have h2 : (m.place x.dst x.off).1.regs = m.regs := by rw [h1]
   have h3 : (m.place x.dst x.off).1.evs = m.evs := by rw [h1]
   have h4 : (m.place x.dst x.off).1.err = 0 := by rw [h1]
   rw [h2, h3, h4, if_pos rfl, hv.err]
  rw [e]
  refine ⟨⟨hv.rm, h.len, regs_up h.reg (hs.ext.trans hv.ext) h.rm.wf hv.rm.wf (by omega), rfl, ?_⟩, hs.ext.trans hv.ext⟩
  rw [brings_app]
  exact hv.vi
 split
 ·have hv := next_st (k := k + 1) (hmore (j := 2) (by omega)) hfew (x := 64) (by unfold Wd4; omega)
  obtain ⟨v, hve⟩ : ∃ v, putR m.p (varT (38 + 3 * (bringsN m.evs : Int)) 64) = v := ⟨_, rfl⟩
  rw [hve] at hv
  have hn := num_st (k := k) hv.rm hv.vi 0
  obtain ⟨z, hze⟩ : ∃ z, putR v.1 (constT (IntKind.u64.wrap 0)) = z := ⟨_, rfl⟩
  rw [hze] at hn
  have e : m.call x = ⟨z.1, fiveL (m.regs.set 0 v.2.1) z.2.1, m.evs ++ [⟨2, 0, 0, v.2.1, x.imm, (m.regs.drop 1).take (argsN x.imm).toNat⟩], 0⟩ := by
   unfold SM.call SM.set SM.event SM.next SM.num SM.keep
   dsimp only
   rw [if_pos h.err, hve, hv.err, if_pos rfl, hze, hn.err]
   rfl
  rw [e]
  have hz2 : hasB z.1.T z.2.1 = true ∧ dpP z.1 z.2.1 ≤ d + 1 := ⟨hn.has, by have := hn.low; omega⟩
  have hv2 : hasB z.1.T v.2.1 = true ∧ dpP z.1 v.2.1 ≤ d + 1 := ⟨hn.ext.has hv.has, by rw [hn.ext.dp hv.rm.wf hn.rm.wf hv.has]; have := hv.low; omega⟩
  refine ⟨⟨hn.rm, by unfold fiveL; simp [h.len], ?_, rfl, ?_⟩, hv.ext.trans hn.ext⟩
  ·unfold fiveL
   exact regs_set (regs_set (regs_set (regs_set (regs_set (regs_set (regs_up h.reg (hv.ext.trans hn.ext) h.rm.wf hn.rm.wf (by omega)) hv2 _) hz2 _) hz2 _) hz2 _) hz2 _) hz2 _
  ·rw [brings_app]
   exact hn.vi.mono (by show _ ≤ 38 + 3 * ((bringsN m.evs + 1 : Nat) : Int); omega)
 ·exact ⟨⟨h.rm.less (by omega), h.len, fun r hr => ⟨(h.reg r hr).1, by have := (h.reg r hr).2; omega⟩, h.err, h.vi⟩, Ext.refl _⟩
theorem step_brings (m : SM) (x : ID) : bringsN (m.step x).evs ≤ bringsN m.evs + 1 := by
 unfold SM.step
 split
 ·omega
 split
 ·show bringsN (m.second x).1.evs ≤ _
  rw [second_evl]; omega
 split
 ·show bringsN (m.evs ++ [_]) ≤ _
  rw [brings_app]; split <;> omega
 split
 ·show bringsN (m.evs ++ [_]) ≤ _
  rw [brings_app]; split <;> omega
 split
 ·show bringsN (m.evs ++ [_]) ≤ _
  rw [brings_app]; split <;> omega
 ·omega
theorem ask_fit {m : SM} {k : Nat} {d : Int} {cc a b : Int} (h : MI m (k + 20) d) (hd : 1 ≤ d ∧ d < 255) (hc : 0 ≤ cc ∧ cc ≤ 10) (ha : hasB m.p.T a = true ∧ dpP m.p a ≤ d) (hb : hasB m.p.T b = true ∧ dpP m.p b ≤ d) :
  (m.ask cc a b).1 = ⟨(m.ask cc a b).1.p, m.regs, m.evs, 0⟩ ∧ PSt m.p ((m.ask cc a b).1.p, (m.ask cc a b).2, 0) k (d + 2) (38 + 3 * (bringsN m.evs : Int)) := by
 have hho : ∀ c : Int, 0 ≤ c ∧ c ≤ 10 → holdsOk c 64 = true := fun c h => by
  unfold holdsOk longB
  simp only [Bool.and_eq_true, decide_eq_true_eq]
  exact ⟨h.1, h.2, rfl⟩
 unfold SM.ask
 split
 ·have h1 := op_st (k := k + 7) (op := 5) (x := 64) (a := a) (b := b) (d := d) (h.rm.less (by omega)) h.vi rfl ha.1 hb.1 ⟨ha.2, hb.2, by omega⟩
  obtain ⟨t, ht⟩ : ∃ t, opV m.p 5 64 a b = t := ⟨_, rfl⟩
  rw [ht] at h1
  have h2 := num_st (k := k + 6) h1.rm h1.vi 0
  obtain ⟨z, hz⟩ : ∃ z, putR t.1 (constT (IntKind.u64.wrap 0)) = z := ⟨_, rfl⟩
  rw [hz] at h2
  have h3 := cond_st (k := k) (cc := 1) (x := 64) (a := t.2.1) (b := z.2.1) (d := d + 1) h2.rm h2.vi (hho 1 (by omega)) (h2.ext.has h1.has) h2.has ⟨by rw [h2.ext.dp h1.rm.wf h2.rm.wf h1.has]; exact h1.low, by have := h2.low; omega, by omega⟩
  obtain ⟨c, hcc⟩ : ∃ c, condV z.1 1 64 t.2.1 z.2.1 = c := ⟨_, rfl⟩
  rw [hcc] at h3
  unfold SM.num SM.keep
  dsimp only
  rw [if_pos h.err, ht, h1.err, if_pos rfl, hz, h2.err, if_pos rfl, hcc, h3.err]
  exact ⟨rfl, rfl, h3.rm, (h1.ext.trans h2.ext).trans h3.ext, h3.has, by have := h3.low; dsimp only; omega, h3.vi⟩
 ·have h3 := cond_st (k := k) (cc := cc) (x := 64) (a := a) (b := b) (d := d) (h.rm.less (by omega)) h.vi (hho cc hc) ha.1 hb.1 ⟨ha.2, hb.2, by omega⟩
  obtain ⟨c, hcc⟩ : ∃ c, condV m.p cc 64 a b = c := ⟨_, rfl⟩
  rw [hcc] at h3
  unfold SM.keep
  dsimp only
  rw [if_pos h.err, hcc, h3.err]
  exact ⟨rfl, rfl, h3.rm, h3.ext, h3.has, by have := h3.low; dsimp only; omega, h3.vi⟩
theorem ends_fit {m : SM} {k : Nat} {d : Int} (h : MI m (k + 30) d) (hd : 1 ≤ d ∧ d < 255) {x : ID} (M : MayF x) (nx : List Int) :
  (m.ends x nx).1 = ⟨(m.ends x nx).1.p, m.regs, m.evs, 0⟩ ∧ Rm (m.ends x nx).1.p k ∧ Ext m.p (m.ends x nx).1.p ∧ ((m.ends x nx).2.kind ≠ 1 → hasB (m.ends x nx).1.p.T (m.ends x nx).2.v = true ∧ dpP (m.ends x nx).1.p (m.ends x nx).2.v ≤ d + 2) := by
 have he : m = ⟨m.p, m.regs, m.evs, 0⟩ := by rw [← h.err]
 unfold SM.ends
 split
 ·have := h.at_ (i := 0) (by omega)
  exact ⟨he, h.rm.less (by omega), Ext.refl _, fun _ => ⟨this.1, by have := this.2; dsimp only; omega⟩⟩
 split
 ·rename_i hk
  have hs := second_st (k := k + 20) (x := x) ⟨h.rm.less (by omega), h.len, h.reg, h.err, h.vi⟩ hd.1 M.src
  have hr := h.at_ M.dst
  obtain ⟨q, hq⟩ : ∃ q, m.second x = q := ⟨_, rfl⟩
  rw [hq] at hs
  dsimp only
  rw [hq]
  obtain ⟨mq, nq⟩ := q
  have e1 := hs.eq
  dsimp only at e1
  have hmq : MI mq (k + 20) d := by
   rw [e1]
   exact ⟨hs.rm, h.len, regs_up h.reg hs.ext h.rm.wf hs.rm.wf (Int.le_refl _), rfl, hs.vi⟩
  have hmr : mq.regs = m.regs ∧ mq.evs = m.evs := by rw [e1]; exact ⟨rfl, rfl⟩
  have ha := ask_fit (cc := x.op) (a := m.reg x.dst) (b := nq) hmq hd (M.cond hk.1).1 ⟨hs.ext.has hr.1, by rw [hs.ext.dp h.rm.wf hs.rm.wf hr.1]; exact hr.2⟩ ⟨hs.has, hs.low⟩
  refine ⟨?_, ha.2.rm, hs.ext.trans ha.2.ext, fun _ => ⟨ha.2.has, ha.2.low⟩⟩
  have := ha.1
  rw [hmr.1, hmr.2] at this
  exact this
 ·exact ⟨he, h.rm.less (by omega), Ext.refl _, fun q => absurd rfl q⟩
theorem go_fit : ∀ (l : List ID) {m : SM} {k : Nat} {d : Int}, MI m (k + 30 * l.length) d → 1 ≤ d → d + l.length ≤ 256 → bringsN m.evs + l.length ≤ 64 → (∀ x ∈ l, MayF x) → MI (m.go l) k (d + l.length) ∧ Ext m.p (m.go l).p
 | [], m, k, d, h, _, _, _, _ => by
  show MI m k (d + ((0 : Nat) : Int)) ∧ Ext m.p m.p
  exact ⟨by simpa using h, Ext.refl _⟩
 | x :: r, m, k, d, h, hd, hd2, hb, hl => by
  simp only [List.length_cons] at h hd2 hb ⊢
  obtain ⟨h1, hx1⟩ : MI (m.step x) (k + 30 * r.length) (d + 1) ∧ Ext m.p (m.step x).p := step_fit ⟨h.rm.less (by omega), h.len, h.reg, h.err, h.vi⟩ ⟨hd, by omega⟩ (by omega) (hl x (by simp))
  have hb1 := step_brings m x
  have h2 := go_fit r h1 (by omega) (by push_cast at hd2; omega) (by omega) (fun y hy => hl y (by simp [hy]))
  have e : d + 1 + (r.length : Int) = d + ((r.length + 1 : Nat) : Int) := by omega
  rw [e] at h2
  exact ⟨h2.1, hx1.trans h2.2⟩
/-! ### the machine again -/
def SM.on (m : SM) (q : PS) : SM := ⟨q, m.regs, m.evs, m.err⟩
end Go.Proofs.YtepagfkkjlbipaaGreat
