/-
  Parts of the proof of SymbcSound. Conditions: those written in each statement.
-/
import Derived.Test.YtepagfkkjlbipaaGreatKba
set_option linter.unusedVariables false
set_option linter.unusedSimpArgs false
set_option maxHeartbeats 64000000
set_option maxRecDepth 100000
namespace Go.Proofs.YtepagfkkjlbipaaGreat
section
open Go.RowKit
structure VM where
 regs : List Int
 evs : List EvD
 n : Nat
def VM.reg (m : VM) (i : Int) : Int := m.regs.getD i.toNat 0
def secV (m : VM) (x : ID) : Int :=
 if x.byReg = true then m.reg x.src
 else if x.kind = 0 ∧ shiftsB x.op = true then IntKind.u64.wrap (bits .and .i64 x.imm (x.width - 1))
 else IntKind.u64.wrap x.imm
def bringV (vs : List Int) (n : Nat) (w : Int) : Int := cutV w (vs.getD (38 + 3 * n) 0)
def placeV (m : VM) (reg off : Int) : Int := doU 0 64 (m.reg reg) (IntKind.u64.wrap off)
def stepV (vs : List Int) (m : VM) (x : ID) : VM :=
 if x.kind = 0 then { m with regs := m.regs.set x.dst.toNat (doU x.op x.width (m.reg x.dst) (secV m x)) }
 else if x.kind = 1 then ⟨m.regs.set x.dst.toNat (bringV vs m.n (8 * x.size)), m.evs ++ [⟨0, x.size, placeV m x.src x.off, bringV vs m.n (8 * x.size), 0, []⟩], m.n + 1⟩
 else if x.kind = 2 then ⟨m.regs, m.evs ++ [⟨1, x.size, placeV m x.dst x.off, cutV (8 * x.size) (m.reg x.src), 0, []⟩], m.n⟩
 else if x.kind = 5 then ⟨fiveL (m.regs.set 0 (bringV vs m.n 64)) 0, m.evs ++ [⟨2, 0, 0, bringV vs m.n 64, x.imm, (m.regs.drop 1).take (argsN x.imm).toNat⟩], m.n + 1⟩
 else m
def goVV (vs : List Int) (m : VM) : List ID → VM
 | [] => m
 | x :: r => goVV vs (stepV vs m x) r
def askVV (cc a b : Int) : Int := if cc = 10 then flagV (holdsU 1 64 (doU 5 64 a b) 0) else flagV (holdsU cc 64 a b)
def endsV (m : VM) (x : ID) (next : List Int) : ExD :=
 if x.kind = 6 then ⟨0, m.reg 0, 0, 0⟩
 else if x.kind = 3 ∧ next.getD 0 0 ≠ next.getD 1 0 then ⟨2, askVV x.op (m.reg x.dst) (secV m x), next.getD 0 0, next.getD 1 0⟩
 else ⟨1, 0, next.getD 0 0, 0⟩
/-! ### registers and events that have these values -/
structure RV (vs : List Int) (p : PS) (l r : List Int) : Prop where
 len : l.length = 11
 lev : r.length = 11
 reg : ∀ i, i < 11 → evP p.T vs (l.getD i 0) = some (r.getD i 0)
structure EvR (vs : List Int) (p : PS) (e f : EvD) : Prop where
 kind : e.kind = f.kind
 size : e.size = f.size
 num : e.num = f.num
 at_ : e.kind ≠ 2 → evP p.T vs e.a = some f.a
 val : evP p.T vs e.v = some f.v
 len : e.args.length = f.args.length
 arg : ∀ i, i < e.args.length → evP p.T vs (e.args.getD i 0) = some (f.args.getD i 0)
structure EvsR (vs : List Int) (p : PS) (a b : List EvD) : Prop where
 len : a.length = b.length
 ev : ∀ (i : Nat) e f, a[i]? = some e → b[i]? = some f → EvR vs p e f
section
variable {vs : List Int} {p q : PS}
theorem RV.up {l r : List Int} (h : RV vs p l r) (hw : WfP p) (hq : WfP q) (he : Ext p q) : RV vs q l r := ⟨h.len, h.lev, fun i hi => ev_up hw hq he (h.reg i hi)⟩
theorem getD_set (l : List Int) (a i : Nat) (n : Int) (hi : i < l.length) : (l.set a n).getD i 0 = if a = i then n else l.getD i 0 := by
 rw [List.getD_eq_getElem?_getD, List.getD_eq_getElem?_getD, List.getElem?_set]
 split
 ·rename_i e
  subst e
  rw [if_pos hi]
  rfl
 ·rfl
theorem RV.set {l r : List Int} (h : RV vs p l r) {n v : Int} (hn : evP p.T vs n = some v) (a : Nat) : RV vs p (l.set a n) (r.set a v) :=
 ⟨by rw [List.length_set]; exact h.len, by rw [List.length_set]; exact h.lev, fun i hi => by
  rw [getD_set l a i n (by rw [h.len]; exact hi), getD_set r a i v (by rw [h.lev]; exact hi)]
  split
  ·exact hn
  ·exact h.reg i hi⟩
theorem RV.five {l r : List Int} (h : RV vs p l r) {n v : Int} (hn : evP p.T vs n = some v) : RV vs p (fiveL l n) (fiveL r v) := by
 unfold fiveL
 exact ((((h.set hn 1).set hn 2).set hn 3).set hn 4).set hn 5
theorem EvR.up {e f : EvD} (h : EvR vs p e f) (hw : WfP p) (hq : WfP q) (he : Ext p q) : EvR vs q e f := ⟨h.kind, h.size, h.num, fun k => ev_up hw hq he (h.at_ k), ev_up hw hq he h.val, h.len, fun i hi => ev_up hw hq he (h.arg i hi)⟩
theorem EvsR.up {a b : List EvD} (h : EvsR vs p a b) (hw : WfP p) (hq : WfP q) (he : Ext p q) : EvsR vs q a b := ⟨h.len, fun i e f h1 h2 => (h.ev i e f h1 h2).up hw hq he⟩
theorem EvsR.push {a b : List EvD} (h : EvsR vs p a b) {e f : EvD} (hn : EvR vs p e f) : EvsR vs p (a ++ [e]) (b ++ [f]) := by
 refine ⟨by simp [h.len], fun i x y hx hy => ?_⟩
 rcases app_at hx with ⟨h1, h2⟩ | ⟨h1, h2⟩
 ·rcases app_at hy with ⟨h3, h4⟩ | ⟨h3, h4⟩
  ·exact h.ev i x y h2 h4
  ·rw [h3, h.len] at h1; omega
 ·rcases app_at hy with ⟨h3, h4⟩ | ⟨h3, h4⟩
  ·rw [h1, h.len] at h3; omega
  ·rw [h2, h4]; exact hn
end
structure MV (vs : List Int) (m : SM) (q : VM) : Prop where
 av : AV vs m.p
 regs : RV vs m.p m.regs q.regs
 evs : EvsR vs m.p m.evs q.evs
 n : q.n = bringsN m.evs
section
variable {vs : List Int} (hU : ∀ v ∈ vs, U64 v)
theorem MV.reg {m : SM} {q : VM} (h : MV vs m q) {i : Int} (hi : 0 ≤ i ∧ i ≤ 10) : evP m.p.T vs (m.reg i) = some (q.reg i) := h.regs.reg i.toNat (by omega)
theorem num_snd {p : PS} (hw : WfP p) (hr : ∀ t ∈ p.T, t.wf) (ha : AV vs p) (n : Int) : Snd vs p (putR p (constT (IntKind.u64.wrap n))) (IntKind.u64.wrap n) := Snd.put hw hr ha (constT_wf (wrap_u64 n)) (evT_const _ _)
theorem var_snd {p : PS} (hw : WfP p) (hr : ∀ t ∈ p.T, t.wf) (ha : AV vs p) {n : Nat} (hn : 38 + 3 * n < vs.length) (hn2 : n ≤ 64) {x : Int} (hx : Wd4 x) : Snd vs p (putR p (varT (38 + 3 * (n : Int)) x)) (bringV vs n x) := by
 refine Snd.put hw hr ha (varT_wf (by unfold U64; omega) (by unfold I8; unfold Wd4 at hx; omega)) ?_
 show (vs[(38 + 3 * (n : Int)).toNat]?).map (cutV x) = _
 rw [show (38 + 3 * (n : Int)).toNat = 38 + 3 * n by omega, List.getElem?_eq_getElem hn]
 unfold bringV
 rw [List.getD_eq_getElem?_getD, List.getElem?_eq_getElem hn]
 rfl
include hU
theorem opV_snd {p : PS} (hw : WfP p) (hr : ∀ t ∈ p.T, t.wf) (ha : AV vs p) {op x a b va vb : Int} (hva : evP p.T vs a = some va) (hvb : evP p.T vs b = some vb) : Snd vs p (opV p op x a b) (doU op x va vb) := by
 obtain ⟨f, hf⟩ := opV_some hw hr op x a b
 exact op_snd hU f hw hr ha hva hvb hf
theorem condV_snd {p : PS} (hw : WfP p) (hr : ∀ t ∈ p.T, t.wf) (ha : AV vs p) {cc x a b va vb : Int} (hva : evP p.T vs a = some va) (hvb : evP p.T vs b = some vb) : Snd vs p (condV p cc x a b) (flagV (holdsU cc x va vb)) := cond_snd hU 2 hw hr ha hva hvb (condV_some p cc x a b)
theorem zextV_snd {p : PS} (hw : WfP p) (hr : ∀ t ∈ p.T, t.wf) (ha : AV vs p) {x a va : Int} (hx : Wd4 x) (hh : hasB p.T a = true) (hva : evP p.T vs a = some va) : Snd vs p (zextV p x a) (cutV x va) :=
 zext_snd hU _ hw hr ha hx hh hva (zextO_yes hh (by unfold wdB; unfold Wd4 at hx; simp; omega) (zextV_some hw x a))
omit hU in
theorem second_val {m : SM} {q : VM} {k : Nat} {d : Int} (h : MI m (k + 1) d) {x : ID} (hs : 0 ≤ x.src ∧ x.src ≤ 10) (V : MV vs m q) : AV vs (m.second x).1.p ∧ evP (m.second x).1.p.T vs (m.second x).2 = some (secV q x) := by
 have key : ∀ n : Int, AV vs (m.num n).1.p ∧ evP (m.num n).1.p.T vs (m.num n).2 = some (IntKind.u64.wrap n) := fun n => by
  have h1 := num_snd h.rm.wf h.rm.rng V.av n
  exact ⟨h1.av, h1.val (num_st h.rm h.vi n).err⟩
 unfold SM.second secV
 split
 ·exact ⟨V.av, V.reg hs⟩
 ·split <;> exact key _
theorem place_val {m : SM} {q : VM} {k : Nat} {d : Int} (h : MI m (k + 13) d) (hd : 1 ≤ d ∧ d < 256) {r off : Int} (hr : 0 ≤ r ∧ r ≤ 10) (V : MV vs m q) : AV vs (m.place r off).1.p ∧ evP (m.place r off).1.p.T vs (m.place r off).2 = some (placeV q r off) := by
 have hn := num_st (k := k + 12) h.rm h.vi off
 have h1 := num_snd h.rm.wf h.rm.rng V.av off
 have hr0 := h.at_ hr
 have ho := op_st (op := 0) (x := 64) (a := m.reg r) (b := (m.num off).2) (d := d) hn.rm hn.vi rfl (hn.ext.has hr0.1) hn.has ⟨by rw [hn.ext.dp h.rm.wf hn.rm.wf hr0.1]; exact hr0.2, by have := hn.low; show dpP _ _ ≤ d; exact Int.le_trans this hd.1, hd.2⟩
 have h2 := opV_snd hU (op := 0) (x := 64) hn.rm.wf hn.rm.rng h1.av (ev_up h.rm.wf hn.rm.wf hn.ext (V.reg hr)) (h1.val hn.err)
 exact ⟨h2.av, h2.val ho.err⟩
theorem step_val {m : SM} {q : VM} {k : Nat} {d : Int} (h : MI m (k + 30) d) (hd : 1 ≤ d ∧ d < 256) (hfew : bringsN m.evs ≤ 64) (hlen : 38 + 3 * 64 < vs.length) {x : ID} (M : MayF x) (V : MV vs m q) : MV vs (m.step x) (stepV vs q x) := by
 have hmore : ∀ {j : Nat}, k + j ≤ k + 30 → MI m (k + j) d := fun hj => ⟨h.rm.less hj, h.len, h.reg, h.err, h.vi⟩
 unfold SM.step stepV
 rw [if_neg (by rw [h.err]; simp)]
 by_cases k0 : x.kind = 0
 ·rw [if_pos k0, if_pos k0]
  obtain ⟨ho, hw⟩ := M.alu k0
  have hs := second_st (k := k + 12) (hmore (j := 13) (by omega)) hd.1 M.src
  obtain ⟨s1, s2⟩ := second_val (k := k + 12) (hmore (j := 13) (by omega)) M.src V
  have hr := h.at_ M.dst
  have hdo : doOk x.op x.width = true := by
   unfold doOk longB
   simp only [Bool.and_eq_true, decide_eq_true_eq, Bool.or_eq_true, beq_iff_eq]
   exact ⟨ho.1, ho.2, hw⟩
  have hp := op_st (op := x.op) (x := x.width) (a := m.reg x.dst) (b := (m.second x).2) (d := d) hs.rm hs.vi hdo (hs.ext.has hr.1) hs.has ⟨by rw [hs.ext.dp h.rm.wf hs.rm.wf hr.1]; exact hr.2, hs.low, hd.2⟩
  have hv := opV_snd hU (op := x.op) (x := x.width) hs.rm.wf hs.rm.rng s1 (ev_up h.rm.wf hs.rm.wf hs.ext (V.reg M.dst)) s2
  have he := hs.ext.trans hp.ext
  have e1 : (m.second x).1.regs = m.regs := by rw [hs.eq]
  have e2 : (m.second x).1.evs = m.evs := by rw [hs.eq]
  refine ⟨hv.av, ?_, ?_, ?_⟩
  ·show RV vs (opV (m.second x).1.p x.op x.width (m.reg x.dst) (m.second x).2).1 ((m.second x).1.regs.set x.dst.toNat _) _
   rw [e1]
   exact (V.regs.up h.rm.wf hp.rm.wf he).set (hv.val hp.err) _
  ·show EvsR vs _ (m.second x).1.evs _
   rw [e2]
   exact V.evs.up h.rm.wf hp.rm.wf he
  ·show q.n = bringsN (m.second x).1.evs
   rw [e2]
   exact V.n
 rw [if_neg k0, if_neg k0]
 by_cases k1 : x.kind = 1
 ·rw [if_pos k1, if_pos k1]
  have hz := M.size (.inl k1)
  have hs := place_st (k := k + 1) (hmore (j := 14) (by omega)) hd M.src (off := x.off)
  obtain ⟨s1, s2⟩ := place_val hU (k := k + 1) (hmore (j := 14) (by omega)) hd M.src (off := x.off) V
  have hx : Wd4 (8 * x.size) := by unfold Wd4; omega
  have hv := var_st hs.rm hs.vi (by omega) hx
  have h1 : (m.place x.src x.off).1.evs = m.evs := by rw [hs.eq]
  have h2 : (m.place x.src x.off).1.regs = m.regs := by rw [hs.eq]
  have hn := var_snd (n := bringsN m.evs) hs.rm.wf hs.rm.rng s1 (by omega) hfew hx
  have he := hs.ext.trans hv.ext
  have hval := hn.val hv.err
  have e : m.load x = ⟨(putR (m.place x.src x.off).1.p (varT (38 + 3 * (bringsN m.evs : Int)) (8 * x.size))).1, m.regs.set x.dst.toNat (putR (m.place x.src x.off).1.p (varT (38 + 3 * (bringsN m.evs : Int)) (8 * x.size))).2.1, m.evs ++ [⟨0, x.size, (m.place x.src x.off).2, (putR (m.place x.src x.off).1.p (varT (38 + 3 * (bringsN m.evs : Int)) (8 * x.size))).2.1, 0, []⟩], (m.load x).err⟩ := by
   unfold SM.load SM.set SM.event SM.next SM.keep
   dsimp only
   rw [h1, h2]
  rw [e, V.n]
  refine ⟨hn.av, (V.regs.up h.rm.wf hv.rm.wf he).set hval _, (V.evs.up h.rm.wf hv.rm.wf he).push ⟨rfl, rfl, rfl, fun _ => ev_up hs.rm.wf hv.rm.wf hv.ext s2, hval, rfl, fun i hi => absurd hi (Nat.not_lt_zero _)⟩, ?_⟩
  show bringsN m.evs + 1 = bringsN (m.evs ++ [_])
  rw [brings_app]
  rfl
 rw [if_neg k1, if_neg k1]
 by_cases k2 : x.kind = 2
 ·rw [if_pos k2, if_pos k2]
  have hz := M.size (.inr k2)
  have hs := place_st (k := k + 1) (hmore (j := 14) (by omega)) hd M.dst (off := x.off)
  obtain ⟨s1, s2⟩ := place_val hU (k := k + 1) (hmore (j := 14) (by omega)) hd M.dst (off := x.off) V
  have hx : Wd4 (8 * x.size) := by unfold Wd4; omega
  have hr := h.at_ M.src
  have hv := zext_st (x := 8 * x.size) (a := m.reg x.src) (d := d) hs.rm hs.vi hx (hs.ext.has hr.1) ⟨by rw [hs.ext.dp h.rm.wf hs.rm.wf hr.1]; exact hr.2, hd.2⟩
  have hn := zextV_snd hU (x := 8 * x.size) hs.rm.wf hs.rm.rng s1 hx (hs.ext.has hr.1) (ev_up h.rm.wf hs.rm.wf hs.ext (V.reg M.src))
  have he := hs.ext.trans hv.ext
  have h1 : (m.place x.dst x.off).1.evs = m.evs := by rw [hs.eq]
  have h2 : (m.place x.dst x.off).1.regs = m.regs := by rw [hs.eq]
  have e : m.store x = ⟨(zextV (m.place x.dst x.off).1.p (8 * x.size) (m.reg x.src)).1, m.regs, m.evs ++ [⟨1, x.size, (m.place x.dst x.off).2, (zextV (m.place x.dst x.off).1.p (8 * x.size) (m.reg x.src)).2.1, 0, []⟩], (m.store x).err⟩ := by
   unfold SM.store SM.event SM.keep
   dsimp only
   rw [h1, h2]
  rw [e]
  refine ⟨hn.av, V.regs.up h.rm.wf hv.rm.wf he, (V.evs.up h.rm.wf hv.rm.wf he).push ⟨rfl, rfl, rfl, fun _ => ev_up hs.rm.wf hv.rm.wf hv.ext s2, hn.val hv.err, rfl, fun i hi => absurd hi (Nat.not_lt_zero _)⟩, ?_⟩
  show q.n = bringsN (m.evs ++ [_])
  rw [brings_app]
  exact V.n
 rw [if_neg k2, if_neg k2]
 by_cases k5 : x.kind = 5
 ·rw [if_pos k5, if_pos k5]
  have h64 : Wd4 64 := by unfold Wd4; omega
  have hv := next_st (k := k + 1) (hmore (j := 2) (by omega)) hfew (x := 64) h64
  have hvs := var_snd (n := bringsN m.evs) h.rm.wf h.rm.rng V.av (by omega) hfew h64
  have hn := num_st (k := k) hv.rm hv.vi 0
  have hns := num_snd hv.rm.wf hv.rm.rng hvs.av 0
  have he := hv.ext.trans hn.ext
  have hval := ev_up hv.rm.wf hn.rm.wf hn.ext (hvs.val hv.err)
  rw [V.n]
  refine ⟨hns.av, ?_, ?_, ?_⟩
  ·exact ((V.regs.up h.rm.wf hn.rm.wf he).set hval 0).five (hns.val hn.err)
  ·refine (V.evs.up h.rm.wf hn.rm.wf he).push ⟨rfl, rfl, rfl, fun e => absurd rfl e, hval, ?_, fun i hi => ?_⟩
   ·show ((m.regs.drop 1).take _).length = ((q.regs.drop 1).take _).length
    simp [V.regs.len, V.regs.lev]
   ·have hi' : i < ((m.regs.drop 1).take (argsN x.imm).toNat).length := hi
    rw [List.length_take, List.length_drop, V.regs.len] at hi'
    show evP _ vs (((m.regs.drop 1).take (argsN x.imm).toNat).getD i 0) = some (((q.regs.drop 1).take (argsN x.imm).toNat).getD i 0)
    have hg : ∀ l : List Int, ((l.drop 1).take (argsN x.imm).toNat).getD i 0 = l.getD (1 + i) 0 := fun l => by
     rw [List.getD_eq_getElem?_getD, List.getElem?_take, if_pos (by omega), List.getElem?_drop, List.getD_eq_getElem?_getD]
    rw [hg, hg]
    exact ev_up h.rm.wf hn.rm.wf he (V.regs.reg (1 + i) (by omega))
  ·show bringsN m.evs + 1 = bringsN (m.evs ++ [_])
   rw [brings_app]
   rfl
 rw [if_neg k5, if_neg k5]
 exact V
theorem go_val (hlen : 38 + 3 * 64 < vs.length) : ∀ (l : List ID) {m : SM} {q : VM} {k : Nat} {d : Int}, MI m (k + 30 * l.length) d → 1 ≤ d → d + l.length ≤ 256 → bringsN m.evs + l.length ≤ 64 → (∀ x ∈ l, MayF x) → MV vs m q → MV vs (m.go l) (goVV vs q l)
 | [], m, q, k, d, h, _, _, _, _, V => V
 | x :: r, m, q, k, d, h, h1, h2, h3, hm, V => by
  simp only [List.length_cons] at h h2 h3
  have hk : MI m (k + 30 * r.length + 30) d := ⟨h.rm.less (by omega), h.len, h.reg, h.err, h.vi⟩
  obtain ⟨hs, he⟩ := step_fit hk (by omega) (by omega) (hm x List.mem_cons_self)
  have hb : bringsN (m.step x).evs ≤ bringsN m.evs + 1 := by
   have hV := (step_val hU hk (by omega) (by omega) hlen (hm x List.mem_cons_self) V).n
   rw [← hV, ← V.n]
   unfold stepV
   split
   ·exact Nat.le_succ _
   split
   ·exact Nat.le_refl _
   split
   ·exact Nat.le_succ _
   split
   ·exact Nat.le_refl _
   ·exact Nat.le_succ _
  exact go_val hlen r hs (by omega) (by omega) (by omega) (fun y hy => hm y (List.mem_cons_of_mem _ hy)) (step_val hU hk (by omega) (by omega) hlen (hm x List.mem_cons_self) V)
theorem ends_val {m : SM} {q : VM} {k : Nat} {d : Int} (h : MI m (k + 30) d) (hd : 1 ≤ d ∧ d < 255) {x : ID} (M : MayF x) (nx : List Int) (V : MV vs m q) :
  AV vs (m.ends x nx).1.p ∧ (m.ends x nx).2.kind = (endsV q x nx).kind ∧ (m.ends x nx).2.tgt = (endsV q x nx).tgt ∧ (m.ends x nx).2.els = (endsV q x nx).els ∧ ((m.ends x nx).2.kind ≠ 1 → evP (m.ends x nx).1.p.T vs (m.ends x nx).2.v = some (endsV q x nx).v) := by
 unfold SM.ends endsV
 by_cases h6 : x.kind = 6
 ·rw [if_pos h6, if_pos h6]
  exact ⟨V.av, rfl, rfl, rfl, fun _ => V.reg (by omega)⟩
 rw [if_neg h6, if_neg h6]
 by_cases h3 : x.kind = 3 ∧ nx.getD 0 0 ≠ nx.getD 1 0
 ·rw [if_pos h3, if_pos h3]
  have hm1 : MI m (k + 20 + 1) d := ⟨h.rm.less (by omega), h.len, h.reg, h.err, h.vi⟩
  have hs := second_st (k := k + 20) (x := x) hm1 hd.1 M.src
  obtain ⟨s1, s2⟩ := second_val (k := k + 20) (x := x) hm1 M.src V
  have hr := h.at_ M.dst
  have hA : hasB (m.second x).1.p.T (m.reg x.dst) = true ∧ dpP (m.second x).1.p (m.reg x.dst) ≤ d := ⟨hs.ext.has hr.1, by rw [hs.ext.dp h.rm.wf hs.rm.wf hr.1]; exact hr.2⟩
  have hva := ev_up h.rm.wf hs.rm.wf hs.ext (V.reg M.dst)
  have hc := M.cond h3.1
  have hho : ∀ cc : Int, 0 ≤ cc ∧ cc ≤ 10 → holdsOk cc 64 = true := fun cc h12 => by
   obtain ⟨h1, h2⟩ := h12
   unfold holdsOk longB
   simp only [Bool.and_eq_true, decide_eq_true_eq]
   exact ⟨h1, h2, rfl⟩
  refine (fun (g : AV vs ((m.second x).1.ask x.op (m.reg x.dst) (m.second x).2).1.p ∧ evP ((m.second x).1.ask x.op (m.reg x.dst) (m.second x).2).1.p.T vs ((m.second x).1.ask x.op (m.reg x.dst) (m.second x).2).2 = some (askVV x.op (q.reg x.dst) (secV q x))) => ⟨g.1, rfl, rfl, rfl, fun _ => g.2⟩) ?_
  obtain ⟨mq, hmq⟩ : ∃ s, (m.second x).1 = s := ⟨_, rfl⟩
  obtain ⟨nq, hnq⟩ : ∃ s, (m.second x).2 = s := ⟨_, rfl⟩
  have hrm := hs.rm
  have hvi := hs.vi
  have hhas := hs.has
  have hlow := hs.low
  rw [hmq] at s1 s2 hA hva hrm hvi hhas hlow ⊢
  rw [hnq] at s2 hhas hlow ⊢
  unfold SM.ask askVV
  split
  ·rename_i h10
   have h1 := op_st (k := k + 8) (op := 5) (x := 64) (a := m.reg x.dst) (b := nq) (d := d) (hrm.less (by omega)) hvi rfl hA.1 hhas ⟨hA.2, hlow, by omega⟩
   have v1 := opV_snd hU (op := 5) (x := 64) hrm.wf hrm.rng s1 hva s2
   have h2 := num_st (k := k + 7) h1.rm h1.vi 0
   have v2 := num_snd h1.rm.wf h1.rm.rng v1.av 0
   have h3' := cond_st (k := k) (cc := 1) (x := 64) (a := (opV mq.p 5 64 (m.reg x.dst) nq).2.1) (b := (putR (opV mq.p 5 64 (m.reg x.dst) nq).1 (constT (IntKind.u64.wrap 0))).2.1) (d := d + 1) (h2.rm.less (by omega)) h2.vi rfl (h2.ext.has h1.has) h2.has ⟨by rw [h2.ext.dp h1.rm.wf h2.rm.wf h1.has]; exact h1.low, by have := h2.low; omega, by omega⟩
   have v3 := condV_snd hU (cc := 1) (x := 64) h2.rm.wf h2.rm.rng v2.av (ev_up h1.rm.wf h2.rm.wf h2.ext (v1.val h1.err)) (v2.val h2.err)
   exact ⟨v3.av, v3.val h3'.err⟩
  ·rename_i h10
   have h3' := cond_st (k := k) (cc := x.op) (x := 64) (a := m.reg x.dst) (b := nq) (d := d) (hrm.less (by omega)) hvi (hho _ hc.1) hA.1 hhas ⟨hA.2, hlow, by omega⟩
   have v3 := condV_snd hU (cc := x.op) (x := 64) hrm.wf hrm.rng s1 hva s2
   exact ⟨v3.av, v3.val h3'.err⟩
 ·rw [if_neg h3, if_neg h3]
  exact ⟨V.av, rfl, rfl, rfl, fun e => absurd rfl e⟩
end
end
section
open Go.RowKit
structure RunVal (vs : List Int) (r : RunD) (q : VM) (x : ExD) : Prop where
 err : r.err = 0
 av : AV vs r.p
 regs : RV vs r.p r.regs q.regs
 evs : EvsR vs r.p r.evs q.evs
 kind : r.ex.kind = x.kind
 tgt : r.ex.tgt = x.tgt
 els : r.ex.els = x.els
 v : r.ex.kind ≠ 1 → evP r.p.T vs r.ex.v = some x.v
def qOf (vs rv : List Int) (l : List ID) (block : Int) : VM := goVV vs ⟨rv, [], 0⟩ (insOf l (blkAt l block))
def xOf (vs rv : List Int) (l : List ID) (block : Int) : ExD := endsV (qOf vs rv l block) (l.getD ((blkAt l block).upto - 1).toNat noIns) (blkAt l block).next
section
variable {vs : List Int} (hU : ∀ v ∈ vs, U64 v)
include hU
theorem run_val (hlen : 38 + 3 * 64 < vs.length) {p : PS} {c : Int} {l : List ID} {block : Int} {regs rv : List Int} {k : Nat} (h : MI (SM.mk p regs [] 0) (k + 1950) 1) (hc : (chkP c l).2 = 0) (ha : askB p l block regs = true) (hav : AV vs p) (hr : RV vs p regs rv) :
  RunVal vs (runV p c l block regs) (qOf vs rv l block) (xOf vs rv l block) := by
 obtain ⟨m, q, R⟩ := run_fits h hc ha
 obtain ⟨hm, hl⟩ := ins_may hc (x := blkAt l block)
 have h1 : MI (SM.mk p regs [] 0) (k + 30 + 30 * (insOf l (blkAt l block)).length) 1 := ⟨h.rm.less (by omega), h.len, h.reg, h.err, h.vi⟩
 have hb0 : bringsN (SM.mk p regs [] 0).evs = 0 := rfl
 have V0 : MV vs (SM.mk p regs [] 0) ⟨rv, [], 0⟩ := ⟨hav, hr, ⟨rfl, fun i e f he => by cases he⟩, rfl⟩
 have V := go_val hU hlen (insOf l (blkAt l block)) h1 (by omega) (by omega) (by rw [hb0]; omega) hm V0
 have hq := R.eqm
 unfold goV at hq
 rw [hq] at V
 obtain ⟨e1, e2, e3, e4, e5⟩ := ends_val hU (k := k) R.mi (by omega) (last_may hc (ask_blk ha)) (blkAt l block).next V
 rw [R.eqq] at e1 e2 e3 e4 e5
 rw [R.run]
 refine ⟨rfl, e1, ?_, ?_, e2, e3, e4, e5⟩
 ·show RV vs q.1.p q.1.regs _
  rw [R.rgs]
  exact V.regs.up R.mi.rm.wf R.rm.wf R.exq
 ·show EvsR vs q.1.p q.1.evs _
  rw [R.evs]
  exact V.evs.up R.mi.rm.wf R.rm.wf R.exq
end
/-! ### the start, the entry -/
theorem atP_in {T : List TD} {n : Int} {i : Nat} {t : TD} (hn : n = (i : Int)) (h : T[i]? = some t) : atP T n = t ∧ hasB T n = true := by
 have hl := (List.getElem?_eq_some_iff.1 h).1
 subst hn
 have hh : hasB T (i : Int) = true := by unfold hasB; simp; omega
 refine ⟨?_, hh⟩
 unfold atP
 rw [if_pos hh, Int.toNat_natCast, List.getD_eq_getElem?_getD, h]
 rfl
theorem av_plain {vs : List Int} {p : PS} (hw : WfP p) (h : ∀ t ∈ p.T, t.kind = 0 ∨ (t.kind = 1 ∧ t.n.toNat < vs.length)) : AV vs p := by
 intro n hn
 obtain ⟨i, rfl, hi⟩ := has_ix hn
 rw [evP_eq hw hn]
 unfold evT
 rcases h _ (List.mem_of_getElem? hi) with h0 | ⟨h1, h2⟩
 ·rw [if_neg (by omega), if_neg (by omega), if_neg (by omega), if_neg (by omega), if_neg (by omega)]
  exact ⟨_, rfl⟩
 ·rw [if_pos h1, List.getElem?_eq_getElem h2]
  exact ⟨_, rfl⟩
theorem rv_start {vs : List Int} (hl : 11 ≤ vs.length) : AV vs P0 ∧ RV vs P0 R0 (vs.take 11) := by
 refine ⟨av_plain P0_good.1 fun t ht => .inr ⟨P0_kind t ht, ?_⟩, rfl, by rw [List.length_take]; omega, fun i hi => ?_⟩
 ·obtain ⟨i, hi⟩ := List.getElem?_of_mem ht
  have hlt := (List.getElem?_eq_some_iff.1 hi).1
  have hn : P0.T.length = 11 := rfl
  have : t = varT (i : Int) 64 := by
   have e : P0.T[i]? = some (varT (i : Int) 64) := by
    show ((List.range 11).map (fun (i : Nat) => varT (i : Int) 64))[i]? = _
    rw [List.getElem?_map, List.getElem?_range (by omega)]
    rfl
   rw [e] at hi
   exact (Option.some.inj hi).symm
  rw [this]
  show (i : Int).toNat < _
  omega
 ·have hr : R0.getD i 0 = (i : Int) := by
   show ((List.range 11).map (fun (i : Nat) => (i : Int))).getD i 0 = _
   rw [List.getD_eq_getElem?_getD, List.getElem?_map, List.getElem?_range hi]
   rfl
  have e : P0.T[i]? = some (varT (i : Int) 64) := by
   show ((List.range 11).map (fun (i : Nat) => varT (i : Int) 64))[i]? = _
   rw [List.getElem?_map, List.getElem?_range hi]
   rfl
  obtain ⟨h1, h2⟩ := atP_in hr e
  rw [evP_eq P0_good.1 h2, h1]
  show (vs[(i : Int).toNat]?).map (cutV 64) = _
  rw [Int.toNat_natCast, List.getElem?_eq_getElem (by omega), List.getD_eq_getElem?_getD, List.getElem?_take, if_pos hi, List.getElem?_eq_getElem (by omega)]
  show some (cutV 64 vs[i]) = some vs[i]
  rw [cut64]
def PE : PS := ⟨[constT 0, constT 2097152, constT 3145792], [1, 1, 1]⟩
def RE : List Int := [0, 1, 0, 0, 0, 0, 0, 0, 0, 0, 2]
def VE : List Int := [0, 2097152, 0, 0, 0, 0, 0, 0, 0, 0, 3145792]
structure Sides (vs : List Int) (x y : RunD) : Prop where
 err : x.err = y.err
 lim : x.err ≠ 260
 evs : x.evs.length = y.evs.length
 kind : x.ex.kind = y.ex.kind
 tgt : x.ex.tgt = y.ex.tgt
 els : x.ex.els = y.ex.els
 reg : x.err = 0 → ∀ i, i < 11 → ∃ v, evP x.p.T vs (x.regs.getD i 0) = some v ∧ evP y.p.T vs (y.regs.getD i 0) = some v
 ev : x.err = 0 → ∀ (i : Nat) e f, x.evs[i]? = some e → y.evs[i]? = some f → e.kind = f.kind ∧ e.size = f.size ∧ (e.kind ≠ 2 → ∃ v, evP x.p.T vs e.a = some v ∧ evP y.p.T vs f.a = some v)
end
section
open Go.RowKit
theorem run_regs (p : PS) (c : Int) (l : List ID) (block : Int) {regs : List Int} {k : Nat} (h : MI (SM.mk p regs [] 0) (k + 1950) 1) : (runV p c l block regs).regs.length = 11 := by
 by_cases hc : (chkP c l).2 = 0
 ·cases ha : askB p l block regs
  ·rw [run_arg hc ha]; rfl
  ·obtain ⟨m, q, R⟩ := run_fits h hc ha
   rw [R.run]
   show q.1.regs.length = 11
   rw [R.rgs]
   exact R.mi.len
 ·rw [run_bad hc]; rfl
theorem run_pool (p : PS) (c : Int) (l : List ID) (block : Int) {regs : List Int} {k : Nat} (h : MI (SM.mk p regs [] 0) (k + 1950) 1) : Ext p (runV p c l block regs).p ∧ (runV p c l block regs).evs.length ≤ 64 := by
 by_cases hc : (chkP c l).2 = 0
 ·cases ha : askB p l block regs
  ·rw [run_arg hc ha]; exact ⟨Ext.refl p, by simp⟩
  ·obtain ⟨m, q, R⟩ := run_fits h hc ha
   rw [R.run]
   refine ⟨R.ext.trans R.exq, ?_⟩
   show q.1.evs.length ≤ 64
   rw [R.evs, ← R.eqm]
   have h1 := go_evs (SM.mk p regs [] 0) (insOf l (blkAt l block))
   have h2 := (ins_may hc (x := blkAt l block)).2
   have h3 : (SM.mk p regs [] 0).evs.length = 0 := rfl
   unfold goV
   omega
 ·rw [run_bad hc]; exact ⟨Ext.refl p, by simp⟩
def TF (b8 b13 : Nat) (e1 e2 : Value) (a1 a2 : Addr) (x : EvD) (v1 v2 : Value) (w : World) : Prop := w.cell? ⟨b8, 11, none⟩ = some e1 ∧ w.cell? ⟨b13, 11, none⟩ = some e2 ∧ (∀ j u, (evC (x, v1))[j]? = some u → w.cell? (a1.add j) = some u) ∧ (∀ j u, (evC (x, v2))[j]? = some u → w.cell? (a2.add j) = some u) ∧ NxAt w w.heap.size v1 x.args ∧ NxAt w w.heap.size v2 x.args ∧ b8 < w.heap.size ∧ b13 < w.heap.size ∧ a1.block < w.heap.size ∧ a2.block < w.heap.size
end
end Go.Proofs.YtepagfkkjlbipaaGreat
