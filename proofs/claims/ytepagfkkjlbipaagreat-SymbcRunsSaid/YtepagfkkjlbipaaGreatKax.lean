/-
  Parts of the proof of SymbcRuns. Conditions: those written in each statement.
-/
import Derived.Test.YtepagfkkjlbipaaGreatKaw
set_option linter.unusedVariables false
set_option linter.unusedSimpArgs false
set_option maxHeartbeats 64000000
set_option maxRecDepth 100000
namespace Go.Proofs.YtepagfkkjlbipaaGreat
open Go.RowKit
open Tryz
section
/-! ### variables' numbers -/
def VI (c : Int)(p : PS) : Prop := ∀ t ∈ p.T,t.kind = 1 → t.n < c
theorem VI.mem {p : PS}{t u : TD}(h : u ∈ (zcm p t).T) : u ∈ p.T ∨ u = t := by
 rcases za8 p t with ⟨e,_⟩ | ⟨_,_,_,_,e,_⟩
 ·rw [e] at h; exact .inl h
 ·rw [e] at h
  simpa using h
theorem VI.putI (c : Int) : zqr (VI c) := fun q t ht h u hu hk => (VI.mem hu).elim (fun hu => h u hu hk) (fun e => absurd hk (e ▸ ht))
theorem VI.mono {c d : Int}{p : PS}(h : VI c p)(hc : c ≤ d) : VI d p := fun t ht hk => by have := h t ht hk; omega
theorem VI.new {c : Int}{p : PS}(h : VI c p)(x : Int) : VI (c + 1) (zcm p (zdJ c x)) := fun u hu hk => (VI.mem hu).elim (fun hu => by have := h u hu hk; omega) (fun e => by subst e; show c < c + 1; omega)
theorem zlP {c : Int}{p : PS}(h : VI c p) : wideF p.T c = none := by
 cases e : wideF p.T c with
 | none => rfl
 | some w =>
  obtain ⟨i,t,ht,hk,hn,_⟩ := ze5 e;have := h t (ztv ht) hk;omega
theorem zqc {c x : Int}{p : PS}(h : VI c p)(hx : Wd4 x) : okP p.T (zdJ c x) = true := by
 have hw : wdB x = true := by unfold wdB; unfold Wd4 at hx; simp; omega
 unfold okP okF zcl zay zax zaI zdJ;simp [hw,zlP h]
/-! ### what is put within the limits -/
structure PSt (p : PS)(r : RS)(k : Nat)(d c : Int) : Prop where
 err : r.2.2 = 0
 rm : Rm r.1 k
 ext : Ext p r.1
 has : zal r.1.T r.2.1 = true
 low : dpP r.1 r.2.1 ≤ d
 vi : VI c r.1
theorem zfc {p : PS}{k : Nat}{c : Int}(h : Rm p (k + 1))(hv : VI c p)(n : Int) : PSt p (putR p (zaf (IntKind.u64.wrap n))) k 1 c := by
 obtain ⟨c1,c2,c3,c4,_⟩ := h.const (wrap_u64 n);exact ⟨c2.err,c1,c4,c3,c2.low,VI.putI c p _ (by show (0 : Int) ≠ 1; decide) hv⟩
theorem zkx {p : PS}{k : Nat}{op x a b d c : Int}(h : Rm p (k + 12))(hv : VI c p)(hd : zdp op x = true)(ha : zal p.T a = true)(hb : zal p.T b = true)(hl : dpP p a ≤ d ∧ dpP p b ≤ d ∧ d < 256) : PSt p (opV p op x a b) k (d + 1) c := by
 obtain ⟨f,hf⟩ := zbV h.wf h.rng op x a b;have hg := zeO f h.wf h.rng hf;have ht := zrf (d := d + 1) (h.less (by omega)) hd ha hb (by omega) hf;exact ⟨ht.err,⟨hg.wf,hg.rng,zkw f h.nz h.wf h.rng hf,zli f h.aa h.nz h.wf h.rng hf,by have := ht.few; have := h.room; omega⟩,hg.ext,hg.has ht.err,ht.low,zh6 (VI.putI c) f hf hv⟩
theorem zg8 {p : PS}{k : Nat}{cc x a b d c : Int}(h : Rm p (k + 6))(hv : VI c p)(hd : zaW cc x = true)(ha : zal p.T a = true)(hb : zal p.T b = true)(hl : dpP p a ≤ d ∧ dpP p b ≤ d ∧ d < 256) : PSt p (ze0 p cc x a b) k (d + 1) c := by
 have hf := zct p cc x a b;have hg := zhI 2 h.wf h.rng hf;have ht := znM (d := d + 1) (h.less (by omega)) hd ha hb (by omega) hf;exact ⟨ht.err,⟨hg.wf,hg.rng,zlO 2 h.nz h.wf h.rng hf,zlj 2 h.aa h.wf h.rng hf,by have := ht.few; have := h.room; omega⟩,hg.ext,hg.has ht.err,ht.low,zjQ (VI.putI c) 2 hf hv⟩
theorem zlQ {p : PS}{k : Nat}{x a d c : Int}(h : Rm p (k + 1))(hv : VI c p)(hx : Wd4 x)(ha : zal p.T a = true)(hl : dpP p a ≤ d ∧ d < 256) : PSt p (zfl p x a) k (d + 1) c := by
 have hf := zdq h.wf x a;have hf2 := zhJ ha (by unfold wdB; unfold Wd4 at hx; simp; omega) hf;have hg := zks h.wf h.rng (by unfold I8; unfold Wd4 at hx; omega) hf;have ht := zfp _ h.wf (d := d + 1) hx ha (by have := h.room; omega) (by omega) hf2;exact ⟨ht.err,⟨hg.wf,hg.rng,zfP _ h.nz h.wf ha hf2,zfH _ h.aa h.wf hf2,by have := ht.few; have := h.room; omega⟩,hg.ext,hg.has ht.err,ht.low,zev (VI.putI c) _ hf2 hv⟩
theorem zlR {p : PS}{k : Nat}{x c : Int}(h : Rm p (k + 1))(hv : VI c p)(hc : 0 ≤ c ∧ c < 1000)(hx : Wd4 x) : PSt p (putR p (zdJ c x)) k 1 (c + 1) := by
 have hl : p.T.length < 4000 := by have := h.room; omega
 have ht : Fit p (putR p (zdJ c x)) 1 1 := zfF h.wf (zqc hv hx) hl (by omega) (fun k hk => by have : zax (zdJ c x) = [] := rfl; rw [this] at hk; cases hk);have hg := zck.put h.wf h.rng (zed (n := c) (x := x) (by unfold U64; omega) (by unfold I8; unfold Wd4 at hx; omega));exact ⟨ht.err,⟨hg.wf,hg.rng,h.nz.putR h.wf (by show (1 : Int) ≠ 3; decide),h.aa.putR h.wf (.inl (by show (1 : Int) ≠ 2; decide)),by have := ht.few; have := h.room; omega⟩,hg.ext,hg.has ht.err,ht.low,hv.new x⟩
/-! ### again -/
/-! ### the machine -/
structure MI (m : SM)(k : Nat)(d : Int) : Prop where
 rm : Rm m.p k
 len : m.regs.length = 11
 reg : ∀ r ∈ m.regs,zal m.p.T r = true ∧ dpP m.p r ≤ d
 err : m.err = 0
 vi : VI (38 + 3 * (zat m.evs : Int)) m.p
theorem MI.at_ {m : SM}{k : Nat}{d : Int}(h : MI m k d){i : Int}(hi : 0 ≤ i ∧ i ≤ 10) : zal m.p.T (m.reg i) = true ∧ dpP m.p (m.reg i) ≤ d := by
 refine h.reg _ ?_;unfold SM.reg;rw [zts,ztq (by rw [h.len]; omega)];exact ztU _
theorem zeT {p q : PS}{l : List Int}{d e : Int}(h : ∀ r ∈ l,zal p.T r = true ∧ dpP p r ≤ d)(he : Ext p q)(hw : WfP p)(hq : WfP q)(hd : d ≤ e) : ∀ r ∈ l,zal q.T r = true ∧ dpP q r ≤ e := fun r hr => by
 obtain ⟨h1,h2⟩ := h r hr;exact ⟨he.has h1,by rw [he.dp hw hq h1]; omega⟩
theorem zc9 {p : PS}{l : List Int}{d n : Int}(h : ∀ r ∈ l,zal p.T r = true ∧ dpP p r ≤ d)(hn : zal p.T n = true ∧ dpP p n ≤ d)(i : Nat) : ∀ r ∈ l.set i n,zal p.T r = true ∧ dpP p r ≤ d := fun r hr => (List.mem_or_eq_of_mem_set hr).elim (h r) (fun e => e ▸ hn)
theorem zbS (l : List EvD)(e : EvD) : zat (l ++ [e]) = if zdT e then zat l + 1 else zat l := by
 unfold zat;rw [List.filter_append,List.length_append];simp only [List.filter_cons,List.filter_nil]
 cases zdT e <;> simp
structure zsX (m : SM)(q : SM × Int)(k : Nat)(d : Int) : Prop where
 rm : Rm q.1.p k
 ext : Ext m.p q.1.p
 has : zal q.1.p.T q.2 = true
 low : dpP q.1.p q.2 ≤ d
 vi : VI (38 + 3 * (zat m.evs : Int)) q.1.p
 eq : q.1 = ⟨q.1.p,m.regs,m.evs,0⟩
theorem zdN {m : SM}{k : Nat}{d : Int}(h : MI m (k + 1) d)(hd : 1 ≤ d){x : ID}(hs : 0 ≤ x.src ∧ x.src ≤ 10) : zsX m (m.second x) k d := by
 have key : ∀ n : Int,zsX m (m.num n) k d := fun n => by
  have hn := zfc h.rm h.vi n;exact ⟨hn.rm,hn.ext,hn.has,by have := hn.low; show dpP _ _ ≤ d; exact Int.le_trans this hd,hn.vi,by unfold SM.num SM.keep; rw [if_pos h.err,hn.err]⟩
 unfold SM.second
 split
 ·have := h.at_ hs
  exact ⟨h.rm.less (by omega),Ext.refl _,this.1,this.2,h.vi,by show m = ⟨m.p,m.regs,m.evs,0⟩; rw [← h.err]⟩
 ·split <;> exact key _
theorem zfs {m : SM}{k : Nat}{d : Int}(h : MI m (k + 13) d)(hd : 1 ≤ d ∧ d < 256){r off : Int}(hr : 0 ≤ r ∧ r ≤ 10) : zsX m (m.place r off) k (d + 1) := by
 have hn := zfc (k := k + 12) h.rm h.vi off;have hr0 := h.at_ hr;have he : Ext m.p (m.num off).1.p := hn.ext;have ho := zkx (op := 0) (x := 64) (a := m.reg r) (b := (m.num off).2) (d := d) hn.rm hn.vi rfl (hn.ext.has hr0.1) hn.has ⟨by rw [hn.ext.dp h.rm.wf hn.rm.wf hr0.1]; exact hr0.2,by have := hn.low; show dpP _ _ ≤ d; exact Int.le_trans this hd.1,hd.2⟩;refine ⟨ho.rm,hn.ext.trans ho.ext,ho.has,ho.low,ho.vi,?_⟩;unfold SM.place SM.keep SM.num SM.keep;dsimp only;rw [if_pos h.err,hn.err,if_pos rfl];exact congrArg (SM.mk _ m.regs m.evs) ho.err
theorem zlS {m : SM}{k : Nat}{d : Int}(h : MI m (k + 1) d)(hfew : zat m.evs ≤ 64){x : Int}(hx : Wd4 x) : PSt m.p (putR m.p (zdJ (38 + 3 * (zat m.evs : Int)) x)) k 1 (38 + 3 * (zat m.evs : Int) + 1) := zlR h.rm h.vi (by omega) hx
theorem zjr {m : SM}{k : Nat}{d : Int}(h : MI m (k + 30) d)(hd : 1 ≤ d ∧ d < 256)(hfew : zat m.evs ≤ 64){x : ID}(M : znH x) : MI (m.step x) k (d + 1) ∧ Ext m.p (m.step x).p := by
 have hmore : ∀ {j : Nat},k + j ≤ k + 30 → MI m (k + j) d := fun hj => ⟨h.rm.less hj,h.len,h.reg,h.err,h.vi⟩
 unfold SM.step;rw [if_neg (by rw [h.err]; simp)]
 split
 ·rename_i k0
  obtain ⟨ho,hw⟩ := M.alu k0;have hs := zdN (k := k + 12) (hmore (j := 13) (by omega)) hd.1 M.src;have hr := h.at_ M.dst;have hdo : zdp x.op x.width = true := by
   unfold zdp zcb;simp only [ztr,decide_eq_true_eq,ztP,beq_iff_eq];exact ⟨ho.1,ho.2,hw⟩
  have hp := zkx (op := x.op) (x := x.width) (a := m.reg x.dst) (b := (m.second x).2) (d := d) hs.rm hs.vi hdo (hs.ext.has hr.1) hs.has ⟨by rw [hs.ext.dp h.rm.wf hs.rm.wf hr.1]; exact hr.2,hs.low,hd.2⟩;have e : m.alu x = ⟨(opV (m.second x).1.p x.op x.width (m.reg x.dst) (m.second x).2).1,m.regs.set x.dst.toNat (opV (m.second x).1.p x.op x.width (m.reg x.dst) (m.second x).2).2.1,m.evs,0⟩ := by
   unfold SM.alu SM.set SM.keep;dsimp only;have h1 := hs.eq;have h2 : (m.second x).1.regs = m.regs := by rw [h1]
   have h3 : (m.second x).1.evs = m.evs := by rw [h1]
   have h4 : (m.second x).1.err = 0 := by rw [h1]
   rw [h2,h3,h4,if_pos rfl,hp.err]
  rw [e];exact ⟨⟨hp.rm,by rw [zub]; exact h.len,zc9 (zeT h.reg (hs.ext.trans hp.ext) h.rm.wf hp.rm.wf (by omega)) ⟨hp.has,hp.low⟩ _,rfl,hp.vi⟩,hs.ext.trans hp.ext⟩
 split
 ·rename_i k1
  have hz := M.size (.inl k1);have hs := zfs (k := k + 1) (hmore (j := 14) (by omega)) hd M.src (off := x.off);have hx : Wd4 (8 * x.size) := by unfold Wd4; omega
  have hv : PSt (m.place x.src x.off).1.p (putR (m.place x.src x.off).1.p (zdJ (38 + 3 * (zat m.evs : Int)) (8 * x.size))) k 1 (38 + 3 * (zat m.evs : Int) + 1) := zlR hs.rm hs.vi (by omega) hx;have e : m.load x = ⟨(putR (m.place x.src x.off).1.p (zdJ (38 + 3 * (zat m.evs : Int)) (8 * x.size))).1,m.regs.set x.dst.toNat (putR (m.place x.src x.off).1.p (zdJ (38 + 3 * (zat m.evs : Int)) (8 * x.size))).2.1,m.evs ++ [⟨0,x.size,(m.place x.src x.off).2,(putR (m.place x.src x.off).1.p (zdJ (38 + 3 * (zat m.evs : Int)) (8 * x.size))).2.1,0,[]⟩],0⟩ := by
   unfold SM.load SM.set SM.event SM.next SM.keep
   dsimp only;have h1 := hs.eq;have h2 : (m.place x.src x.off).1.regs = m.regs := by rw [h1]
   have h3 : (m.place x.src x.off).1.evs = m.evs := by rw [h1]
   have h4 : (m.place x.src x.off).1.err = 0 := by rw [h1]
   rw [h2,h3,h4,if_pos rfl,hv.err]
  rw [e];refine ⟨⟨hv.rm,by rw [zub]; exact h.len,zc9 (zeT h.reg (hs.ext.trans hv.ext) h.rm.wf hv.rm.wf (by omega)) ⟨hv.has,by have := hv.low; omega⟩ _,rfl,?_⟩,hs.ext.trans hv.ext⟩;rw [zbS];exact hv.vi.mono (by show _ ≤ 38 + 3 * ((zat m.evs + 1 : Nat) : Int); omega)
 split
 ·rename_i k2
  have hz := M.size (.inr k2);have hs := zfs (k := k + 1) (hmore (j := 14) (by omega)) hd M.dst (off := x.off);have hx : Wd4 (8 * x.size) := by unfold Wd4; omega
  have hr := h.at_ M.src;have hv := zlQ (x := 8 * x.size) (a := m.reg x.src) (d := d) hs.rm hs.vi hx (hs.ext.has hr.1) ⟨by rw [hs.ext.dp h.rm.wf hs.rm.wf hr.1]; exact hr.2,hd.2⟩;have e : m.store x = ⟨(zfl (m.place x.dst x.off).1.p (8 * x.size) (m.reg x.src)).1,m.regs,m.evs ++ [⟨1,x.size,(m.place x.dst x.off).2,(zfl (m.place x.dst x.off).1.p (8 * x.size) (m.reg x.src)).2.1,0,[]⟩],0⟩ := by
   unfold SM.store SM.event SM.keep;dsimp only;have h1 := hs.eq;have h2 : (m.place x.dst x.off).1.regs = m.regs := by rw [h1]
   have h3 : (m.place x.dst x.off).1.evs = m.evs := by rw [h1]
   have h4 : (m.place x.dst x.off).1.err = 0 := by rw [h1]
   rw [h2,h3,h4,if_pos rfl,hv.err]
  rw [e];refine ⟨⟨hv.rm,h.len,zeT h.reg (hs.ext.trans hv.ext) h.rm.wf hv.rm.wf (by omega),rfl,?_⟩,hs.ext.trans hv.ext⟩;rw [zbS];exact hv.vi
 split
 ·have hv := zlS (k := k + 1) (hmore (j := 2) (by omega)) hfew (x := 64) (by unfold Wd4; omega)
  obtain ⟨v,hve⟩ : ∃ v,putR m.p (zdJ (38 + 3 * (zat m.evs : Int)) 64) = v := ⟨_,rfl⟩;rw [hve] at hv;have hn := zfc (k := k) hv.rm hv.vi 0;obtain ⟨z,hze⟩ : ∃ z,putR v.1 (zaf (IntKind.u64.wrap 0)) = z := ⟨_,rfl⟩;rw [hze] at hn;have e : m.call x = ⟨z.1,zgq (m.regs.set 0 v.2.1) z.2.1,m.evs ++ [⟨2,0,0,v.2.1,x.imm,(m.regs.drop 1).take (zcG x.imm).toNat⟩],0⟩ := by
   unfold SM.call SM.set SM.event SM.next SM.num SM.keep
   dsimp only;rw [if_pos h.err,hve,hv.err,if_pos rfl,hze,hn.err]
   rfl
  rw [e];have hz2 : zal z.1.T z.2.1 = true ∧ dpP z.1 z.2.1 ≤ d + 1 := ⟨hn.has,by have := hn.low; omega⟩;have hv2 : zal z.1.T v.2.1 = true ∧ dpP z.1 v.2.1 ≤ d + 1 := ⟨hn.ext.has hv.has,by rw [hn.ext.dp hv.rm.wf hn.rm.wf hv.has]; have := hv.low; omega⟩;refine ⟨⟨hn.rm,by unfold zgq; simp [h.len],?_,rfl,?_⟩,hv.ext.trans hn.ext⟩
  ·unfold zgq
   exact zc9 (zc9 (zc9 (zc9 (zc9 (zc9 (zeT h.reg (hv.ext.trans hn.ext) h.rm.wf hn.rm.wf (by omega)) hv2 _) hz2 _) hz2 _) hz2 _) hz2 _) hz2 _
  ·rw [zbS]
   exact hn.vi.mono (by show _ ≤ 38 + 3 * ((zat m.evs + 1 : Nat) : Int); omega)
 ·exact ⟨⟨h.rm.less (by omega),h.len,fun r hr => ⟨(h.reg r hr).1,by have := (h.reg r hr).2; omega⟩,h.err,h.vi⟩,Ext.refl _⟩
theorem ziE (m : SM)(x : ID) : zat (m.step x).evs ≤ zat m.evs + 1 := by
 unfold SM.step
 split
 ·omega
 split
 ·show zat (m.second x).1.evs ≤ _
  rw [zgR]; omega
 split
 ·show zat (m.evs ++ [_]) ≤ _
  rw [zbS]; split <;> omega
 split
 ·show zat (m.evs ++ [_]) ≤ _
  rw [zbS]; split <;> omega
 split
 ·show zat (m.evs ++ [_]) ≤ _
  rw [zbS]; split <;> omega
 ·omega
theorem zlT {m : SM}{k : Nat}{d : Int}{cc a b : Int}(h : MI m (k + 20) d)(hd : 1 ≤ d ∧ d < 255)(hc : 0 ≤ cc ∧ cc ≤ 10)(ha : zal m.p.T a = true ∧ dpP m.p a ≤ d)(hb : zal m.p.T b = true ∧ dpP m.p b ≤ d) :
  (m.ask cc a b).1 = ⟨(m.ask cc a b).1.p,m.regs,m.evs,0⟩ ∧ PSt m.p ((m.ask cc a b).1.p,(m.ask cc a b).2,0) k (d + 2) (38 + 3 * (zat m.evs : Int)) := by
 have hho : ∀ c : Int,0 ≤ c ∧ c ≤ 10 → zaW c 64 = true := fun c h => by
  unfold zaW zcb;simp only [ztr,decide_eq_true_eq];exact ⟨h.1,h.2,rfl⟩
 unfold SM.ask
 split
 ·have h1 := zkx (k := k + 7) (op := 5) (x := 64) (a := a) (b := b) (d := d) (h.rm.less (by omega)) h.vi rfl ha.1 hb.1 ⟨ha.2,hb.2,by omega⟩
  obtain ⟨t,ht⟩ : ∃ t,opV m.p 5 64 a b = t := ⟨_,rfl⟩;rw [ht] at h1;have h2 := zfc (k := k + 6) h1.rm h1.vi 0;obtain ⟨z,hz⟩ : ∃ z,putR t.1 (zaf (IntKind.u64.wrap 0)) = z := ⟨_,rfl⟩;rw [hz] at h2;have h3 := zg8 (k := k) (cc := 1) (x := 64) (a := t.2.1) (b := z.2.1) (d := d + 1) h2.rm h2.vi (hho 1 (by omega)) (h2.ext.has h1.has) h2.has ⟨by rw [h2.ext.dp h1.rm.wf h2.rm.wf h1.has]; exact h1.low,by have := h2.low; omega,by omega⟩;obtain ⟨c,hcc⟩ : ∃ c,ze0 z.1 1 64 t.2.1 z.2.1 = c := ⟨_,rfl⟩;rw [hcc] at h3;unfold SM.num SM.keep;dsimp only;rw [if_pos h.err,ht,h1.err,if_pos rfl,hz,h2.err,if_pos rfl,hcc,h3.err];exact ⟨rfl,rfl,h3.rm,(h1.ext.trans h2.ext).trans h3.ext,h3.has,by have := h3.low; dsimp only; omega,h3.vi⟩
 ·have h3 := zg8 (k := k) (cc := cc) (x := 64) (a := a) (b := b) (d := d) (h.rm.less (by omega)) h.vi (hho cc hc) ha.1 hb.1 ⟨ha.2,hb.2,by omega⟩
  obtain ⟨c,hcc⟩ : ∃ c,ze0 m.p cc 64 a b = c := ⟨_,rfl⟩;rw [hcc] at h3;unfold SM.keep;dsimp only;rw [if_pos h.err,hcc,h3.err];exact ⟨rfl,rfl,h3.rm,h3.ext,h3.has,by have := h3.low; dsimp only; omega,h3.vi⟩
theorem zn8 {m : SM}{k : Nat}{d : Int}(h : MI m (k + 30) d)(hd : 1 ≤ d ∧ d < 255){x : ID}(M : znH x)(nx : List Int) :
  (m.ends x nx).1 = ⟨(m.ends x nx).1.p,m.regs,m.evs,0⟩ ∧ Rm (m.ends x nx).1.p k ∧ Ext m.p (m.ends x nx).1.p ∧ ((m.ends x nx).2.kind ≠ 1 → zal (m.ends x nx).1.p.T (m.ends x nx).2.v = true ∧ dpP (m.ends x nx).1.p (m.ends x nx).2.v ≤ d + 2) := by
 have he : m = ⟨m.p,m.regs,m.evs,0⟩ := by rw [← h.err]
 unfold SM.ends
 split
 ·have := h.at_ (i := 0) (by omega)
  exact ⟨he,h.rm.less (by omega),Ext.refl _,fun _ => ⟨this.1,by have := this.2; dsimp only; omega⟩⟩
 split
 ·rename_i hk
  have hs := zdN (k := k + 20) (x := x) ⟨h.rm.less (by omega),h.len,h.reg,h.err,h.vi⟩ hd.1 M.src;have hr := h.at_ M.dst;obtain ⟨q,hq⟩ : ∃ q,m.second x = q := ⟨_,rfl⟩;rw [hq] at hs;dsimp only;rw [hq];obtain ⟨mq,nq⟩ := q;have e1 := hs.eq;dsimp only at e1;have hmq : MI mq (k + 20) d := by
   rw [e1];exact ⟨hs.rm,h.len,zeT h.reg hs.ext h.rm.wf hs.rm.wf (ztB _),rfl,hs.vi⟩
  have hmr : mq.regs = m.regs ∧ mq.evs = m.evs := by rw [e1]; exact ⟨rfl,rfl⟩
  have ha := zlT (cc := x.op) (a := m.reg x.dst) (b := nq) hmq hd (M.cond hk.1).1 ⟨hs.ext.has hr.1,by rw [hs.ext.dp h.rm.wf hs.rm.wf hr.1]; exact hr.2⟩ ⟨hs.has,hs.low⟩;refine ⟨?_,ha.2.rm,hs.ext.trans ha.2.ext,fun _ => ⟨ha.2.has,ha.2.low⟩⟩;have := ha.1;rw [hmr.1,hmr.2] at this;exact this
 ·exact ⟨he,h.rm.less (by omega),Ext.refl _,fun q => absurd rfl q⟩
theorem zps : ∀ (l : List ID) {m : SM} {k : Nat} {d : Int},MI m (k + 30 * l.length) d → 1 ≤ d → d + l.length ≤ 256 → zat m.evs + l.length ≤ 64 → (∀ x ∈ l,znH x) → MI (m.go l) k (d + l.length) ∧ Ext m.p (m.go l).p
 | [],m,k,d,h,_,_,_,_ => by
  show MI m k (d + ((0 : Nat) : Int)) ∧ Ext m.p m.p
  exact ⟨by simpa using h,Ext.refl _⟩
 | x :: r,m,k,d,h,hd,hd2,hb,hl => by
  simp only [List.length_cons] at h hd2 hb ⊢;obtain ⟨h1,hx1⟩ : MI (m.step x) (k + 30 * r.length) (d + 1) ∧ Ext m.p (m.step x).p := zjr ⟨h.rm.less (by omega),h.len,h.reg,h.err,h.vi⟩ ⟨hd,by omega⟩ (by omega) (hl x (by simp));have hb1 := ziE m x;have h2 := zps r h1 (by omega) (by push_cast at hd2; omega) (by omega) (fun y hy => hl y (by simp [hy]));have e : d + 1 + (r.length : Int) = d + ((r.length + 1 : Nat) : Int) := by omega
  rw [e] at h2;exact ⟨h2.1,hx1.trans h2.2⟩
/-! ### the machine again -/
def SM.on (m : SM)(q : PS) : SM := ⟨q,m.regs,m.evs,m.err⟩
end
section
section
variable {base g b : Nat}{F G F1 G1 : Nat → Prop}{m : SM}{ex : ExD}{w : World}
def zky (base g b : Nat)(G : Nat → Prop)(ex : ExD)(w : World)(m : SM)(e : Ending)(w' : World) : Prop := e = .returned (.tuple #[]) ∧ ∃ F' G',MG base g b G w F' G' m ex w'
theorem zsv : (prog.info? 72).map (fun i => (i.zero,i.size,i.bytes)) = some (some (.agg #[.int .i8 0,.int .i8 0,.int .i64 0,.int .i64 0,.int .i64 0,.slice none 0 0]),6,56) := by kernel_rfl
theorem zsw : (prog.info? 61).map (·.size) = some 1 := by kernel_rfl
theorem zrp : (prog.info? 3).map (·.size) = some 1 := by kernel_rfl
theorem zdO {w : World}{base : Nat}{e : TypeId}{size n : Nat}{v : Value}{xs : List Value}(h : w.ownsRow base e size v n xs) : v.cells = #[v] := by
 rcases h.2 with ⟨rfl,_⟩ | ⟨g,cap,cur,rfl,_⟩ <;> rfl
theorem zdP {w : World}{base : Nat}{e : TypeId}{size n : Nat}{v : Value}{xs : List Value}(h : w.ownsRow base e size v n xs) : v.oneCell' = true := by
 rcases h.2 with ⟨rfl,_⟩ | ⟨g,cap,cur,rfl,_⟩ <;> rfl
theorem zfR (h : MA base g b F G m ex w)(x : EvD)(v : Value)(hv1 : v.oneCell' = true)(hx : x.wf)(hv : zbk w (Uq G b) v x.args)(hlt : m.evs.length < 64) : Calls prog 78 #[.pointer (some ⟨b,0,none⟩),.agg (evC (x,v)).toArray] w (zky base g b G ex w (m.event x)) := by
 obtain ⟨iA,hiA,hzA,hsA,hbA⟩ := info_parts zsv;have IA := Hd (ztp hiA (ztp hzA (ztp hsA hbA)))
 have hbl := ((Below.refl w.heap.size w).alloc (ztn _) (.cells (evC (x,v)).toArray 72)).drew;have HG := Hd (MG.of_below h hbl)
 have HT := Hd (show Blk (w.alloc (.cells (evC (x,v)).toArray 72)).drew w.heap.size 72 (evC (x,v)).toArray from Blk.new w 72 (evC (x,v)).toArray)
 have HV := Hd (hv.chg (G := Uq G b) (Chg.of_below hbl) (fun k q => .inr q) (fun k q => .inl q))
 obtain ⟨bx,hbx⟩ : ∃ k,w.heap.size = k := ⟨_,rfl⟩;have HLOW := Hd (fun (e : G bx) => by have := (h.low bx e).2; omega : ¬ G bx)
 have hb0 : base ≤ (w.alloc (.cells (evC (x,v)).toArray 72)).drew.heap.size := zto (h.low b h.nb.2).1 (ztu (zty h.lt hbl.size));have HV1 := Hd hv1
 have HX := Hd hx
 clear h hv hx hv1 hiA hzA hsA hbA hbl;go_enter func78,ntmps78;go_wp2;obtain ⟨es,q,c12,hBm,hown,hq,hqw,hes⟩ := HG.out.at_.ces;obtain ⟨A,c,rfl,hAc,_⟩ := za5.of_own (F := fun _ => False) hown (fun _ _ q => q);refine zac (fun w' => Blk w' w.heap.size 72 (evC (x,v)).toArray) (fun w' => w'.cell? ⟨b,12,none⟩ = some (.slice A m.evs.length c)) [12] (by kernel_rfl) ?_;generalize (w.alloc (.cells (evC (x,v)).toArray 72)).drew = Wd at HG HT HV hb0 c12 hBm hown hqw ⊢;rw [hbx] at HT ⊢;have HS := Hd c12
 have HBM := Hd hBm
 have HO := Hd hown
 have HQ := Hd hq
 have HQW := Hd hqw
 have HES := Hd hes
 have HLT := Hd hlt
 clear c12 hBm hown hq hqw hes hlt hAc;refine em 0 (.pointer (some ⟨b,0,none⟩)) (bS HT HS) ?_;refine em 1 (.pointer (some ⟨b,0,none⟩)) (bS HT HS) ?_;refine ez 2 ⟨b,0,none⟩ (bS HT HS) ?_;refine ef 3 ⟨b,0,none⟩ ⟨b,1,none⟩ (bS HT HS) ?_;refine ef 4 ⟨b,1,none⟩ ⟨b,12,none⟩ (bS HT HS) ?_;refine el true 5 ⟨b,12,none⟩ (.slice A m.evs.length c) underlying61 (fun w hS => (hS.2 rfl)) (bS HT HS) ?_;refine eL false 6 ⟨bx,0,none⟩ (evC (x,v)) (fun w hS => zak hS.1) underlying72 zqV (bS HT HS) ?_;refine zaN 7 (by kernel_rfl) (zar.slice_one 7 (some 11) _ 72 _ iA _ (.agg (evC (x,v)).toArray) rfl (by rfl) underlying61 IA.out.1 IA.out.2.1 (by rw [IA.out.2.2.1]; decide) (by rw [IA.out.2.2.1]; decide) (by rfl) (by rw [IA.out.2.2.1]; rfl) ?_);intro wa ga hga Ba La;have HBA := Hd Ba
 have HLA := Hd La
 replace HT := Hd (HT.out.below La HT.out.lt)
 replace HS := Hd ((La.cell (by exact HBM.out.lt)).trans HS.out)
 clear Ba La;refine ⟨.both HT.out HS.out,?_⟩;simp only [pt,pn,sL];refine zaN 8 (by kernel_rfl) (zar.append 8 (some 12) 61 72 _ _ (b + 1) iA _ 6 56 rfl (by rfl) underlying61 IA.out.1 IA.out.2.1 IA.out.2.2.1 IA.out.2.2.2 rfl (by omega) (.slice A m.evs.length c) m.evs.length (q.flatMap evC) (by rfl) (zaG HO.out (fun k hk => HLA.out.block k (zaQ HO.out k hk).2)) _ (some ⟨ga,0,none⟩) 1 1 (evC (x,v)) (by rfl) (zbH HBA.out 1 6 rfl) (EvD.one HV1.out) (by have := HLT.out; unfold maxLen; omega) (by have := HLT.out; omega) (zto HG.out.at_.lt HLA.out.size) ?_);intro es2 wb R2 G2 O2;have HR2 := Hd R2
 have HG2 := Hd ((za4 HLA.out (Value.ownBlock (.slice A m.evs.length c))).trans G2)
 have HO2 := Hd (fun k (hk : es2.ownBlock = some k) => (O2.elim (fun e => .inl (e ▸ hk)) (fun e => .inr (by rw [e] at hk; injection hk with hk; rw [← hk]; exact HLA.out.size)) : (Value.slice A m.evs.length c).ownBlock = some k ∨ Wd.heap.size ≤ k))
 replace HT := Hd (HT.out.grown G2 (fun e => HLOW.out (HES.out _ e.symm).1))
 replace HS := Hd ((World.cell?_of_block (a := ⟨b,12,none⟩) (G2.block b (zty HBM.out.lt HLA.out.size) (fun e => (HES.out _ e.symm).2.2 rfl))).trans HS.out)
 clear R2 G2 O2;refine ⟨.both HT.out HS.out,?_⟩;simp only [pt,pn,sL];refine ez 9 ⟨b,0,none⟩ (bS HT HS) ?_;refine ef 10 ⟨b,0,none⟩ ⟨b,1,none⟩ (bS HT HS) ?_;refine ef 11 ⟨b,1,none⟩ ⟨b,12,none⟩ (bS HT HS) ?_;refine zaN 12 (by kernel_rfl) (zar.store_at 12 61 _ _ ⟨b,12,none⟩ es2 _ rfl (by rfl) (by rfl) (by rfl) (zaE 61 b 12 114 _ _ (HBM.out.grown HG2.out (fun e => (HES.out _ e.symm).2.2 rfl)) (by rw [zt3,zco HG.out.at_.len]; decide) zsw (zdO HR2.out) (zdP HR2.out)) (.after (HT.out.far (fun e => HLOW.out (e ▸ HG.out.at_.nb.2)) _) (by kernel_rfl)) ?_);simp only [pt,pn,sL];refine zab (by kernel_rfl) ?_ _;go_end0;exact ⟨rfl,_,_,HG.out.trans (HG.out.at_.push HBM.out HO.out HQ.out HQW.out HES.out HX.out HV.out HLT.out HR2.out HG2.out HO2.out)⟩
end
end
section
section
variable {base g nn c B gm : Nat}{F : Nat → Prop}{p : PS}{vs : List Int}{A : Option Addr}
theorem zn9 : ∀ (N : Nat) (n : Int),I64 n → n.toNat < N → EvC base g F p vs A nn c B gm n := by
 intro N
 induction N with
 | zero => intro n hI h; omega
 | succ N ih =>
  intro n hI h;exact zl9 n hI fun k h0 h1 => ih k (by unfold I64 at *; omega) (by omega)
theorem zjs (n : Int)(hI : I64 n)(W : World)(h : zam W base F g p)(hr : zaU W W.heap.size 1 A nn (vs.map (Value.int .u64)))(hl : vs.length = nn)(hc : nn ≤ c)(hs : nn < 9223372036854775808)(hu : ∀ v ∈ vs,U64 v) :
  Calls prog 26 #[.pointer (some ⟨g,0,none⟩),.int .i64 n,.slice A nn c] W fun e w' => e = .returned (.tuple #[.int .u64 (znD (evP p.T vs n)).1,.int .i64 (znD (evP p.T vs n)).2]) ∧ Below W.heap.size W w' := by
 have HP := Hd h
 have HR := Hd hr
 have HX := Hd (ztp hl (ztp hc (ztp hs hu)))
 have HI := Hd hI
 clear h hr hl hc hs hu hI;go_enter func26,ntmps26;go_wp2_with (first
  | (refine zd9 (Value.int .i64) I64 3 rfl 127 rfl ?_
     intro w1 gm hgm hm hb;have HM := Hd hm
     have HG := Hd hgm
     have HB := Hd hb
     clear hm hb hgm)
  | fail)
 have hF : EvF base g F p vs A nn c W.heap.size gm [] w1 :=
  ⟨HP.out.below HB.out,HR.out.below HB.out,HX.out.1,HX.out.2.1,HX.out.2.2.1,HX.out.2.2.2,HM.out.congr fun x => rfl,⟨fun q => by have := (HP.out.fb _ q).2; have := HG.out; omega,HG.out⟩,List.nodup_nil,fun i hi => absurd hi (by simp),fun i hi => absurd hi (by simp)⟩
 have hall := zn9 (base := base) (g := g) (F := F) (p := p) (vs := vs) (A := A) (nn := nn) (c := c) (B := W.heap.size) (gm := gm) (n.toNat + 1) n HI.out (by omega) [] w1 hF;refine hall.mono ?_;rintro e w2 ⟨L,rfl,_,hc,_⟩;have HC := Hd (HB.out.trans (hc.below (B := W.heap.size) (fun b q => q ▸ HG.out) HB.out.size))
 clear hF hall hc;go_wp2;go_ret2;exact ⟨rfl,HC.out⟩
end
def wT1 : List TD := [zdJ 0 64]
def wT4 : List TD := [zdJ 0 64,zaf 3,zaf 4,zaf 7]
def wT5 : List TD := [zdJ 0 64,zaf 3,zaf 4,zaf 7,opT 0 64 0 1]
def wT6 : List TD := [zdJ 0 64,zaf 3,zaf 4,zaf 7,opT 0 64 0 1,opT 0 64 0 3]
def wT7 : List TD := [zdJ 0 64,zaf 3,zaf 4,zaf 7,opT 0 64 0 1,opT 0 64 0 3,zaf 0]
end
section
section
variable {base g b : Nat}{F G F1 G1 : Nat → Prop}{m : SM}{ex : ExD}{w : World}
theorem zfS (h : DA base g b F G m ex w)(x : ID)(hx : x.wf)(hs : x.byReg = true → 0 ≤ x.src ∧ x.src ≤ 10)(hwd : -128 < x.width) :
  Calls prog 85 #[.pointer (some ⟨b,0,none⟩),.agg x.cells.toArray] w (zso base g b G ex w (m.second x)) := by
 obtain ⟨k,op,wd,sz,br,dst,src,off,imm⟩ := x;show Calls prog 85 #[.pointer (some ⟨b,0,none⟩),.agg #[.int .i8 k,.int .i8 op,.int .i8 wd,.int .i8 sz,.bool br,.int .i8 dst,.int .i8 src,.int .i64 off,.int .i64 imm]] w _
 dsimp only at hs hwd;have hbl := (Below.refl w.heap.size w).alloc (ztn _) (.cells #[.int .i8 k,.int .i8 op,.int .i8 wd,.int .i8 sz,.bool br,.int .i8 dst,.int .i8 src,.int .i64 off,.int .i64 imm] 47);have HM := Hd (DG.of_below h hbl)
 have HIM := Hd (show I64 imm from hx.2.2.2.2.2.2.2)
 have hwd2 : wd < 128 := hx.2.1.2 |> fun _ => hx.2.2.1.2
 have HX := Hd hx
 cases br
 ·clear h hx hbl hs
  have key : ((k == 0) = false ∨ (k == 0) = true ∧ (op == 6) = false ∧ (op == 7) = false ∧ (op == 12) = false) ∨
    ((k == 0) = true ∧ (op == 6) = true ∨ (k == 0) = true ∧ (op == 6) = false ∧ (op == 7) = true ∨ (k == 0) = true ∧ (op == 6) = false ∧ (op == 7) = false ∧ (op == 12) = true) := by
   cases (k == 0) <;> cases (op == 6) <;> cases (op == 7) <;> cases (op == 12) <;> simp
  rcases key with key | key
  ·have HNX := Hd (zeJ (m := m) (x := ⟨k,op,wd,sz,false,dst,src,off,imm⟩) rfl (fun q => by
    obtain ⟨q1,q2⟩ := q;dsimp only at q1 q2;unfold zai at q2
    rcases key with h0 | ⟨_,h6,h7,h12⟩
    ·rw [q1] at h0; cases h0
    ·rw [h6,h7,h12] at q2; cases q2))
   rcases key with h0 | ⟨h0,h6,h7,h12⟩
   all_goals
    go_enter func85,ntmps85;go_wp2_with fail
    refine (zet HM.out.at_ imm HIM.out).mono ?_;rintro e w2 ⟨rfl,hi,F2,G2,hm2⟩;have HM2 := Hd (HM.out.trans hm2)
    have HI := Hd hi
    clear hm2 hi;go_wp2;go_ret;rw [HNX.out];exact ⟨rfl,HI.out,_,_,HM2.out⟩
  ·have HNX := Hd (zdZ (m := m) (x := ⟨k,op,wd,sz,false,dst,src,off,imm⟩) rfl (by
    refine ⟨?_,?_⟩
    ·rcases key with h | h | h <;> simpa using h.1
    ·unfold zai
     rcases key with h | h | h
     ·dsimp only; rw [h.2]; simp
     ·dsimp only; rw [h.2.2]; simp
     ·dsimp only; rw [h.2.2.2]; simp))
   rcases key with ⟨h0,h6⟩ | ⟨h0,h6,h7⟩ | ⟨h0,h6,h7,h12⟩
   all_goals
    go_enter func85,ntmps85;go_wp2_with fail
    refine (zet HM.out.at_ (bits .and .i64 imm (wd - 1)) (zg4 _ _)).mono ?_;rintro e w2 ⟨rfl,hi,F2,G2,hm2⟩;have HM2 := Hd (HM.out.trans hm2)
    have HI := Hd hi
    clear hm2 hi;go_wp2;go_ret;rw [HNX.out];exact ⟨rfl,HI.out,_,_,HM2.out⟩
 ·have hsr := hs rfl
  obtain ⟨d,rfl⟩ : ∃ d : Nat,src = (d : Int) := ⟨src.toNat,by omega⟩;have hd : d < 11 := by omega
  have HNX := Hd (zgz (m := m) (x := ⟨k,op,wd,sz,true,dst,(d : Int),off,imm⟩) rfl)
  have cr := h.creg hd;have hi := Hd (h.reg_i64 hd)
  have hbw := h.lt;obtain ⟨rv,hrv⟩ : ∃ v,m.regs.getD d 0 = v := ⟨_,rfl⟩;rw [hrv] at cr hi;have HRV := Hd hrv
  clear h hx hbl hs hrv hsr;go_enter func85,ntmps85;go_upto_region 2 with fail
  go_region
  go_wp2;go_ret;rw [HNX.out];exact ⟨by unfold SM.reg; rw [show ((d : Int)).toNat = d by omega,HRV.out]; rfl,by unfold SM.reg; rw [show ((d : Int)).toNat = d by omega,HRV.out]; exact hi.out,_,_,HM.out.step ((Below.refl _ _).drew)⟩
end
end
section
section
variable {base g b : Nat}{F G F1 G1 : Nat → Prop}{m : SM}{ex : ExD}{w w' : World}{es es' : Value}{q : List (EvD × Value)}
theorem DA.push (h : DA base g b F G m ex w)(hB : Blk w b 120 (mC g m.regs es ex m.err).toArray)(hown : w.ownsRow (b + 1) 72 6 es m.evs.length (q.flatMap evC))(hq : q.map (·.1) = m.evs)(hqw : ∀ p ∈ q,p.1.wf ∧ zbk w (Uq G b) p.2 p.1.args)(hes : ∀ k,es.ownBlock = some k → G k ∧ ¬ F k ∧ k ≠ b)
  {x : EvD} {v : Value} (hx : x.wf) (hv : zbk w (Uq G b) v x.args) (hlt : m.evs.length < 64) (R : w'.ownsRow (b + 1) 72 6 es' (m.evs.length + 1) (q.flatMap evC ++ evC (x,v))) (Gr : w.grownBy w' es.ownBlock) (O : ∀ k,es'.ownBlock = some k → es.ownBlock = some k ∨ w.heap.size ≤ k) :
  DG base g b G w F (fun k => G k ∨ es'.ownBlock = some k) (m.event x) ex (w'.setCell ⟨b,12,none⟩ es') := by
 have hcE : Chg (fun k => es.ownBlock = some k) w w' := Chg.of_grown Gr (fun k e => .inl e);have hcG : Chg G w w' := hcE.mono (fun k e => .inl (hes k e).1);have hbe : es.ownBlock ≠ some b := fun e => (hes b e).2.2 rfl
 have hB' := (hcE.blk hB hbe).set_ 12 es';rw [zuc,zj5 h.len] at hB';have hb12 : Chg (fun k => k = b) w' (w'.setCell ⟨b,12,none⟩ es') := zbs (b := b) rfl es' rfl;have hbG : Chg G w' (w'.setCell ⟨b,12,none⟩ es') := hb12.mono (fun k e => .inl (e ▸ h.nb.2));have hc : Chg G w (w'.setCell ⟨b,12,none⟩ es') := hcG.trans hbG (fun k q => .inl q);have hne : ∀ k,es'.ownBlock = some k → k ≠ b := fun k e => by
  rintro rfl
  rcases O _ e with e2 | e2
  ·exact hbe e2
  ·have := h.lt; omega
 have hnG : ∀ k,es'.ownBlock = some k → G k ∨ w.heap.size ≤ k := fun k e => (O k e).elim (fun e2 => .inl (hes k e2).1) .inr
 have hUp : ∀ k,Uq (fun k => G k ∨ es'.ownBlock = some k) b k → Uq G b k ∨ w.heap.size ≤ k := fun k hk => hk.elim (fun hk => hk.elim (fun z => .inl (.inl z)) (fun z => (hnG k z).elim (fun z => .inl (.inl z)) .inr)) (fun z => .inl (.inr z))
 refine ⟨⟨?_,⟨es',q ++ [(x,v)],hB',?_,?_,fun p hp => ?_,fun k e => ⟨.inr e,fun qf => ?_,hne k e⟩⟩,⟨h.nb.1,.inl h.nb.2⟩,fun k qf => .inl (h.sub k qf),fun k hk => ?_,h.len,h.rng,?_⟩,hc,fun k hk => hk.elim .inl (hnG k)⟩
 ·have h1 : zaO w' base F g m.p := h.pool.chg hcE (fun k qf e => (hes k e).2.1 qf)
  exact h1.chg hb12 (fun k qf e => h.nb.1 (e ▸ qf))
 ·have e1 : (m.event x).evs.length = m.evs.length + 1 := by unfold SM.event; simp
  have e2 : (q ++ [(x,v)]).flatMap evC = q.flatMap evC ++ evC (x,v) := by rw [List.flatMap_append]; simp
  rw [e1,e2];exact hb12.own R (fun k e => hne k e)
 ·rw [List.map_append,hq]
  rfl
 ·rcases List.mem_append.1 hp with hp | hp
  ·exact ⟨(hqw p hp).1,(hqw p hp).2.chg hc (fun k qg => .inl (.inl qg)) hUp⟩
  ·have hp : p = (x,v) := by simpa using hp
   subst hp;exact ⟨hx,hv.chg hc (fun k qg => .inl (.inl qg)) hUp⟩
 ·rcases O k e with e2 | e2
  ·exact (hes k e2).2.1 qf
  ·have := h.low k (h.sub k qf); omega
 ·rcases hk with hk | hk
  ·have := h.low k hk
   have := hc.size;omega
  ·have := zaQ R k hk
   have := h.low b h.nb.2;simp;omega
 ·unfold SM.event
  simp;omega
theorem DA.exit (h : DA base g b F G m ex w)(ex' : ExD)(hB : ∀ es,Blk w b 120 (mC g m.regs es ex m.err).toArray → Blk w' b 120 (zaM (mC g m.regs es ex m.err) 13 [.int .i8 ex'.kind,.int .i64 ex'.v,.int .i64 ex'.tgt,.int .i64 ex'.els]).toArray)(Gr : w.grownBy w' (some b)) :
  DG base g b G w F G m ex' w' := by
 obtain ⟨es,q,h1,h2,h3,h4,h5⟩ := h.box;have hcb : Chg (fun k => k = b) w w' := Chg.of_grown Gr (fun k e => .inl (by injection e with e; exact e.symm));have hc : Chg G w w' := hcb.mono (fun k e => .inl (e ▸ h.nb.2));have hB' := hB es h1;rw [znl h.len] at hB';exact ⟨⟨h.pool.chg hcb (fun k qf e => h.nb.1 (e ▸ qf)),⟨es,q,hB',hcb.own h2 (fun k e => (h5 k e).2.2),h3,fun p hp => ⟨(h4 p hp).1,(h4 p hp).2.chg hc (fun c q => .inl (.inl q)) (fun c q => .inl q)⟩,h5⟩,h.nb,h.sub,fun k hk => ⟨(h.low k hk).1,zty (h.low k hk).2 hc.size⟩,h.len,h.rng,h.few⟩,hc,fun k q => .inl q⟩
end
end
end Go.Proofs.YtepagfkkjlbipaaGreat
