/-
  Parts of the proof of SymbcRuns. Conditions: those written in each statement.
-/
import Derived.Test.YtepagfkkjlbipaaGreatKbb
set_option linter.unusedVariables false
set_option linter.unusedSimpArgs false
set_option maxHeartbeats 64000000
set_option maxRecDepth 100000
namespace Go.Proofs.YtepagfkkjlbipaaGreat
open Go.RowKit
open Tryz
section
/-! ### the start -/
def P0 : PS := ⟨(List.range 11).map (fun (i : Nat) => zdJ (i : Int) 64),List.replicate 11 1⟩
def R0 : List Int := (List.range 11).map (fun (i : Nat) => (i : Int))
theorem zek : zcg zbX ⟨[],[]⟩ = (P0,R0,0) := by kernel_rfl
theorem zgV {st : PS → Nat → RS}(hst : ∀ p i,i < 11 → WfP p → (∀ t ∈ p.T,t.wf) → zck p (st p i)){p : PS}(hw : WfP p)(hr : ∀ t ∈ p.T,t.wf) : ∀ k,k ≤ 11 → Ext p (zbf st p k).1 ∧ WfP (zbf st p k).1 ∧ (∀ t ∈ (zbf st p k).1.T,t.wf) ∧ ((zbf st p k).2.2 = 0 → ∀ r ∈ (zbf st p k).2.1,zal (zbf st p k).1.T r = true) := by
 intro k hk
 induction k with
 | zero => exact ⟨Ext.refl p,hw,hr,fun _ r h => by cases h⟩
 | succ k ih =>
  obtain ⟨h1,h2,h3,h4⟩ := ih (by omega)
  by_cases h0 : (zbf st p k).2.2 = 0
  ·have hg := hst (zbf st p k).1 k (by omega) h2 h3
   rw [zdm h0];refine ⟨h1.trans hg.ext,hg.wf,hg.rng,fun he r hm => ?_⟩
   rcases List.mem_append.1 hm with hm | hm
   ·exact hg.ext.has (h4 h0 r hm)
   ·have : r = (st (zbf st p k).1 k).2.1 := by simpa using hm
    subst this;exact hg.has he
  ·have e : zbf st p (k + 1) = zbf st p k := by
    rw [zbf];dsimp only;rw [if_neg h0]
   rw [e];exact ⟨h1,h2,h3,h4⟩
theorem zk0 (p : PS)(i : Nat)(hi : i < 11)(hw : WfP p)(hr : ∀ t ∈ p.T,t.wf) : zck p (zbX p i) := zck.put hw hr (zed (by unfold U64; omega) (by unfold I8; omega))
theorem zk1 (p : PS)(i : Nat)(hi : i < 11)(hw : WfP p)(hr : ∀ t ∈ p.T,t.wf) : zck p (zbG p i) := zck.put hw hr (zaP (zf5 i))
theorem zpR : WfP ⟨[],[]⟩ ∧ ∀ t ∈ (⟨[],[]⟩ : PS).T,t.wf := ⟨WfP.nil,by simp⟩
theorem zdi : WfP P0 ∧ (∀ t ∈ P0.T,t.wf) ∧ ∀ r ∈ R0,zal P0.T r = true := by
 obtain ⟨_,h2,h3,h4⟩ := zgV zk0 zpR.1 zpR.2 11 (ztn _);have e : zbf zbX ⟨[],[]⟩ 11 = (P0,R0,0) := by kernel_rfl
 rw [e] at h2 h3 h4;exact ⟨h2,h3,h4 rfl⟩
theorem zi1 : ∀ t ∈ P0.T,t.kind = 1 := by decide
theorem zse : ∀ t ∈ P0.T,t.n < 38 := by decide
theorem zsf {p : PS}(h : ∀ t ∈ p.T,t.kind ≠ 3) : NZ p := fun n hn hk => by
 obtain ⟨i,rfl,hi⟩ := zfW hn;exact absurd hk (h _ (ztv hi))
theorem zsg {p : PS}(h : ∀ t ∈ p.T,t.kind ≠ 2) : AA p := fun n x hn hc => by
 obtain ⟨i,rfl,hi⟩ := zfW hn;unfold zgp at hc;simp only [ztr,beq_iff_eq] at hc;exact absurd hc.1 (h _ (ztv hi))
theorem zth : Rm P0 3900 := ⟨zdi.1,zdi.2.1,zsf (fun t ht => by rw [zi1 t ht]; decide),zsg (fun t ht => by rw [zi1 t ht]; decide),by decide⟩
theorem zsh : ∀ r ∈ R0,dpP P0 r ≤ 1 := by decide
theorem zsi : MI (SM.mk P0 R0 [] 0) 3900 1 := ⟨zth,rfl,fun r hr => ⟨zdi.2.2 r hr,zsh r hr⟩,rfl,fun t ht _ => zse t ht⟩
/-! ### Run -/
theorem zi2 {c : Int}{l : List ID}(hc : (zdj c l).2 = 0){x : BD} : (∀ y ∈ zef l x,znH y) ∧ (zef l x).length ≤ 64 := by
 obtain ⟨_,_,h1,h64,hok,_,_⟩ := zg1 hc;refine ⟨fun y hy => ?_,?_⟩
 ·unfold zef at hy
  have hm := List.mem_of_mem_drop (zuk hy);obtain ⟨i,hi⟩ := List.getElem?_of_mem hm;have := hok i y hi;unfold zdI at this;simp only [ztr] at this;exact zcC this.1
 ·unfold zef
  rw [ztW,List.length_drop];omega
theorem zi3 {p : PS}{l : List ID}{block : Int}{regs : List Int}(h : zgr p l block regs = true) : (za2 l block) ∈ zeX l := by
 unfold zgr at h;simp only [ztr,decide_eq_true_eq] at h;unfold za2;rw [zts,ztq (by omega)];exact ztU _
theorem zhA {c : Int}{l : List ID}(hc : (zdj c l).2 = 0){x : BD}(hx : x ∈ zeX l) : znH (l.getD (x.upto - 1).toNat zc0) := by
 obtain ⟨_,_,h1,h64,hok,_,_⟩ := zg1 hc;obtain ⟨i,y,hb⟩ := zga (by omega) h64 hok hx;rw [hb.last,show ((i : Int) + 1 - 1).toNat = i by omega,zts,hb.at_];have := hok i y hb.at_;unfold zdI at this;simp only [ztr] at this;exact zcC this.1
structure RunG (p : PS)(c : Int)(l : List ID)(block : Int)(regs : List Int)(m : SM)(q : SM × ExD)(k : Nat) : Prop where
 mi : MI m (k + 30) 65
 ext : Ext p m.p
 eqm : goV p l block regs = m
 eqq : m.ends (l.getD ((za2 l block).upto - 1).toNat zc0) (za2 l block).next = q
 err : q.1.err = 0
 rgs : q.1.regs = m.regs
 evs : q.1.evs = m.evs
 rm : Rm q.1.p k
 exq : Ext m.p q.1.p
 exv : q.2.kind ≠ 1 → zal q.1.p.T q.2.v = true
 run : zgn p c l block regs = ⟨q.1.p,q.1.regs,q.1.evs,q.2,0⟩
theorem zfA {p : PS}{c : Int}{l : List ID}{block : Int}{regs : List Int}{k : Nat}(h : MI (SM.mk p regs [] 0) (k + 1950) 1)(hc : (zdj c l).2 = 0)(ha : zgr p l block regs = true) : ∃ m q,RunG p c l block regs m q k := by
 obtain ⟨hm,hl⟩ := zi2 hc (x := za2 l block);have h1 : MI (SM.mk p regs [] 0) (k + 30 + 30 * (zef l (za2 l block)).length) 1 := ⟨h.rm.less (by omega),h.len,h.reg,h.err,h.vi⟩;have hb0 : zat (SM.mk p regs [] 0).evs = 0 := rfl;obtain ⟨hg,he⟩ := zps (zef l (za2 l block)) h1 (by omega) (by omega) (by rw [hb0]; omega) hm;have eg : goV p l block regs = (SM.mk p regs [] 0).go (zef l (za2 l block)) := rfl;rw [← eg] at hg he;have hmi : MI (goV p l block regs) (k + 30) 65 := ⟨hg.rm,hg.len,fun r hr => ⟨(hg.reg r hr).1,by have := (hg.reg r hr).2; omega⟩,hg.err,hg.vi⟩;obtain ⟨e1,e2,e3,e4⟩ := zn8 hmi (by omega) (zhA hc (zi3 ha)) (za2 l block).next
 refine ⟨_,_,hmi,he,rfl,rfl,?_,?_,?_,e2,e3,fun q => (e4 q).1,?_⟩
 ·rw [e1]
 ·rw [e1]
 ·rw [e1]
 ·unfold zgn
  rw [if_neg (by rw [hc]; simp),if_neg (by rw [ha]; simp)];dsimp only;rw [if_neg (by rw [hmi.err]; simp),if_neg (by rw [e1]; simp)]
end
section
section
variable {w w' : World}{base g : Nat}{F F' G : Nat → Prop}{p : PS}{s : Value}{l : List EvD}
theorem zbt.step (h : zbt w F s l)(hb : Below w.heap.size w w') : zbt w' F s l := h.chg (Chg.of_below hb) (fun k q => .inr q) (fun k q => .inl q)
theorem zbt.less (h : zbt w G s l)(hG : ∀ b,F b → G b) : zbt w F s l := h.chg (H := fun _ => False) (Chg.refl _ w) (fun _ q => q.elim) (fun b q => .inl (hG b q))
end
end
section
structure VM where
 regs : List Int
 evs : List EvD
 n : Nat
def VM.reg (m : VM)(i : Int) : Int := m.regs.getD i.toNat 0
def zsj (m : VM)(x : ID) : Int :=
 if x.byReg = true then m.reg x.src
 else if x.kind = 0 ∧ zai x.op = true then IntKind.u64.wrap (bits .and .i64 x.imm (x.width - 1))
 else IntKind.u64.wrap x.imm
def zgW (vs : List Int)(n : Nat)(w : Int) : Int := zao w (vs.getD (38 + 3 * n) 0)
def znh (m : VM)(reg off : Int) : Int := doU 0 64 (m.reg reg) (IntKind.u64.wrap off)
def zo3 (vs : List Int)(m : VM)(x : ID) : VM :=
 if x.kind = 0 then { m with regs := m.regs.set x.dst.toNat (doU x.op x.width (m.reg x.dst) (zsj m x)) }
 else if x.kind = 1 then ⟨m.regs.set x.dst.toNat (zgW vs m.n (8 * x.size)),m.evs ++ [⟨0,x.size,znh m x.src x.off,zgW vs m.n (8 * x.size),0,[]⟩],m.n + 1⟩
 else if x.kind = 2 then ⟨m.regs,m.evs ++ [⟨1,x.size,znh m x.dst x.off,zao (8 * x.size) (m.reg x.src),0,[]⟩],m.n⟩
 else if x.kind = 5 then ⟨zgq (m.regs.set 0 (zgW vs m.n 64)) 0,m.evs ++ [⟨2,0,0,zgW vs m.n 64,x.imm,(m.regs.drop 1).take (zcG x.imm).toNat⟩],m.n + 1⟩
 else m
def zti (vs : List Int)(m : VM) : List ID → VM
 | [] => m
 | x :: r => zti vs (zo3 vs m x) r
def zqR (cc a b : Int) : Int := if cc = 10 then zcO (zaJ 1 64 (doU 5 64 a b) 0) else zcO (zaJ cc 64 a b)
def zk2 (m : VM)(x : ID)(next : List Int) : ExD :=
 if x.kind = 6 then ⟨0,m.reg 0,0,0⟩
 else if x.kind = 3 ∧ next.getD 0 0 ≠ next.getD 1 0 then ⟨2,zqR x.op (m.reg x.dst) (zsj m x),next.getD 0 0,next.getD 1 0⟩
 else ⟨1,0,next.getD 0 0,0⟩
/-! ### registers and events that have these values -/
structure RV (vs : List Int)(p : PS)(l r : List Int) : Prop where
 len : l.length = 11
 lev : r.length = 11
 reg : ∀ i,i < 11 → evP p.T vs (l.getD i 0) = some (r.getD i 0)
structure EvR (vs : List Int)(p : PS)(e f : EvD) : Prop where
 kind : e.kind = f.kind
 size : e.size = f.size
 num : e.num = f.num
 at_ : e.kind ≠ 2 → evP p.T vs e.a = some f.a
 val : evP p.T vs e.v = some f.v
 len : e.args.length = f.args.length
 arg : ∀ i,i < e.args.length → evP p.T vs (e.args.getD i 0) = some (f.args.getD i 0)
structure znI (vs : List Int)(p : PS)(a b : List EvD) : Prop where
 len : a.length = b.length
 ev : ∀ (i : Nat) e f,a[i]? = some e → b[i]? = some f → EvR vs p e f
section
variable {vs : List Int}{p q : PS}
theorem RV.up {l r : List Int}(h : RV vs p l r)(hw : WfP p)(hq : WfP q)(he : Ext p q) : RV vs q l r := ⟨h.len,h.lev,fun i hi => zdK hw hq he (h.reg i hi)⟩
theorem zj3 (l : List Int)(a i : Nat)(n : Int)(hi : i < l.length) : (l.set a n).getD i 0 = if a = i then n else l.getD i 0 := by
 rw [zts,zts,List.getElem?_set]
 split
 ·rename_i e
  subst e;rw [if_pos hi]
  rfl
 ·rfl
theorem RV.set {l r : List Int}(h : RV vs p l r){n v : Int}(hn : evP p.T vs n = some v)(a : Nat) : RV vs p (l.set a n) (r.set a v) :=
 ⟨by rw [zub]; exact h.len,by rw [zub]; exact h.lev,fun i hi => by
  rw [zj3 l a i n (by rw [h.len]; exact hi),zj3 r a i v (by rw [h.lev]; exact hi)]
  split
  ·exact hn
  ·exact h.reg i hi⟩
theorem RV.five {l r : List Int}(h : RV vs p l r){n v : Int}(hn : evP p.T vs n = some v) : RV vs p (zgq l n) (zgq r v) := by
 unfold zgq;exact ((((h.set hn 1).set hn 2).set hn 3).set hn 4).set hn 5
theorem EvR.up {e f : EvD}(h : EvR vs p e f)(hw : WfP p)(hq : WfP q)(he : Ext p q) : EvR vs q e f := ⟨h.kind,h.size,h.num,fun k => zdK hw hq he (h.at_ k),zdK hw hq he h.val,h.len,fun i hi => zdK hw hq he (h.arg i hi)⟩
theorem znI.up {a b : List EvD}(h : znI vs p a b)(hw : WfP p)(hq : WfP q)(he : Ext p q) : znI vs q a b := ⟨h.len,fun i e f h1 h2 => (h.ev i e f h1 h2).up hw hq he⟩
theorem znI.push {a b : List EvD}(h : znI vs p a b){e f : EvD}(hn : EvR vs p e f) : znI vs p (a ++ [e]) (b ++ [f]) := by
 refine ⟨by simp [h.len],fun i x y hx hy => ?_⟩
 rcases zcn hx with ⟨h1,h2⟩ | ⟨h1,h2⟩
 ·rcases zcn hy with ⟨h3,h4⟩ | ⟨h3,h4⟩
  ·exact h.ev i x y h2 h4
  ·rw [h3,h.len] at h1; omega
 ·rcases zcn hy with ⟨h3,h4⟩ | ⟨h3,h4⟩
  ·rw [h1,h.len] at h3; omega
  ·rw [h2,h4]; exact hn
end
structure MV (vs : List Int)(m : SM)(q : VM) : Prop where
 av : AV vs m.p
 regs : RV vs m.p m.regs q.regs
 evs : znI vs m.p m.evs q.evs
 n : q.n = zat m.evs
section
variable {vs : List Int}(hU : ∀ v ∈ vs,U64 v)
theorem MV.reg {m : SM}{q : VM}(h : MV vs m q){i : Int}(hi : 0 ≤ i ∧ i ≤ 10) : evP m.p.T vs (m.reg i) = some (q.reg i) := h.regs.reg i.toNat (by omega)
theorem zhB {p : PS}(hw : WfP p)(hr : ∀ t ∈ p.T,t.wf)(ha : AV vs p)(n : Int) : Snd vs p (putR p (zaf (IntKind.u64.wrap n))) (IntKind.u64.wrap n) := Snd.put hw hr ha (zaP (wrap_u64 n)) (zgb _ _)
theorem zni {p : PS}(hw : WfP p)(hr : ∀ t ∈ p.T,t.wf)(ha : AV vs p){n : Nat}(hn : 38 + 3 * n < vs.length)(hn2 : n ≤ 64){x : Int}(hx : Wd4 x) : Snd vs p (putR p (zdJ (38 + 3 * (n : Int)) x)) (zgW vs n x) := by
 refine Snd.put hw hr ha (zed (by unfold U64; omega) (by unfold I8; unfold Wd4 at hx; omega)) ?_;show (vs[(38 + 3 * (n : Int)).toNat]?).map (zao x) = _
 rw [show (38 + 3 * (n : Int)).toNat = 38 + 3 * n by omega,ztq hn];unfold zgW;rw [zts,ztq hn]
 rfl
include hU
theorem zi4 {p : PS}(hw : WfP p)(hr : ∀ t ∈ p.T,t.wf)(ha : AV vs p){op x a b va vb : Int}(hva : evP p.T vs a = some va)(hvb : evP p.T vs b = some vb) : Snd vs p (opV p op x a b) (doU op x va vb) := by
 obtain ⟨f,hf⟩ := zbV hw hr op x a b;exact zip hU f hw hr ha hva hvb hf
theorem zik {p : PS}(hw : WfP p)(hr : ∀ t ∈ p.T,t.wf)(ha : AV vs p){cc x a b va vb : Int}(hva : evP p.T vs a = some va)(hvb : evP p.T vs b = some vb) : Snd vs p (ze0 p cc x a b) (zcO (zaJ cc x va vb)) := zj8 hU 2 hw hr ha hva hvb (zct p cc x a b)
theorem znj {p : PS}(hw : WfP p)(hr : ∀ t ∈ p.T,t.wf)(ha : AV vs p){x a va : Int}(hx : Wd4 x)(hh : zal p.T a = true)(hva : evP p.T vs a = some va) : Snd vs p (zfl p x a) (zao x va) :=
 zey hU _ hw hr ha hx hh hva (zhJ hh (by unfold wdB; unfold Wd4 at hx; simp; omega) (zdq hw x a))
omit hU in
theorem zgX {m : SM}{q : VM}{k : Nat}{d : Int}(h : MI m (k + 1) d){x : ID}(hs : 0 ≤ x.src ∧ x.src ≤ 10)(V : MV vs m q) : AV vs (m.second x).1.p ∧ evP (m.second x).1.p.T vs (m.second x).2 = some (zsj q x) := by
 have key : ∀ n : Int,AV vs (m.num n).1.p ∧ evP (m.num n).1.p.T vs (m.num n).2 = some (IntKind.u64.wrap n) := fun n => by
  have h1 := zhB h.rm.wf h.rm.rng V.av n;exact ⟨h1.av,h1.val (zfc h.rm h.vi n).err⟩
 unfold SM.second zsj
 split
 ·exact ⟨V.av,V.reg hs⟩
 ·split <;> exact key _
theorem zil {m : SM}{q : VM}{k : Nat}{d : Int}(h : MI m (k + 13) d)(hd : 1 ≤ d ∧ d < 256){r off : Int}(hr : 0 ≤ r ∧ r ≤ 10)(V : MV vs m q) : AV vs (m.place r off).1.p ∧ evP (m.place r off).1.p.T vs (m.place r off).2 = some (znh q r off) := by
 have hn := zfc (k := k + 12) h.rm h.vi off;have h1 := zhB h.rm.wf h.rm.rng V.av off;have hr0 := h.at_ hr;have ho := zkx (op := 0) (x := 64) (a := m.reg r) (b := (m.num off).2) (d := d) hn.rm hn.vi rfl (hn.ext.has hr0.1) hn.has ⟨by rw [hn.ext.dp h.rm.wf hn.rm.wf hr0.1]; exact hr0.2,by have := hn.low; show dpP _ _ ≤ d; exact Int.le_trans this hd.1,hd.2⟩;have h2 := zi4 hU (op := 0) (x := 64) hn.rm.wf hn.rm.rng h1.av (zdK h.rm.wf hn.rm.wf hn.ext (V.reg hr)) (h1.val hn.err);exact ⟨h2.av,h2.val ho.err⟩
theorem zj4 {m : SM}{q : VM}{k : Nat}{d : Int}(h : MI m (k + 30) d)(hd : 1 ≤ d ∧ d < 256)(hfew : zat m.evs ≤ 64)(hlen : 38 + 3 * 64 < vs.length){x : ID}(M : znH x)(V : MV vs m q) : MV vs (m.step x) (zo3 vs q x) := by
 have hmore : ∀ {j : Nat},k + j ≤ k + 30 → MI m (k + j) d := fun hj => ⟨h.rm.less hj,h.len,h.reg,h.err,h.vi⟩
 unfold SM.step zo3;rw [if_neg (by rw [h.err]; simp)]
 by_cases k0 : x.kind = 0
 ·rw [if_pos k0,if_pos k0]
  obtain ⟨ho,hw⟩ := M.alu k0;have hs := zdN (k := k + 12) (hmore (j := 13) (by omega)) hd.1 M.src;obtain ⟨s1,s2⟩ := zgX (k := k + 12) (hmore (j := 13) (by omega)) M.src V;have hr := h.at_ M.dst;have hdo : zdp x.op x.width = true := by
   unfold zdp zcb;simp only [ztr,decide_eq_true_eq,ztP,beq_iff_eq];exact ⟨ho.1,ho.2,hw⟩
  have hp := zkx (op := x.op) (x := x.width) (a := m.reg x.dst) (b := (m.second x).2) (d := d) hs.rm hs.vi hdo (hs.ext.has hr.1) hs.has ⟨by rw [hs.ext.dp h.rm.wf hs.rm.wf hr.1]; exact hr.2,hs.low,hd.2⟩;have hv := zi4 hU (op := x.op) (x := x.width) hs.rm.wf hs.rm.rng s1 (zdK h.rm.wf hs.rm.wf hs.ext (V.reg M.dst)) s2;have he := hs.ext.trans hp.ext;have e1 : (m.second x).1.regs = m.regs := by rw [hs.eq]
  have e2 : (m.second x).1.evs = m.evs := by rw [hs.eq]
  refine ⟨hv.av,?_,?_,?_⟩
  ·show RV vs (opV (m.second x).1.p x.op x.width (m.reg x.dst) (m.second x).2).1 ((m.second x).1.regs.set x.dst.toNat _) _
   rw [e1];exact (V.regs.up h.rm.wf hp.rm.wf he).set (hv.val hp.err) _
  ·show znI vs _ (m.second x).1.evs _
   rw [e2];exact V.evs.up h.rm.wf hp.rm.wf he
  ·show q.n = zat (m.second x).1.evs
   rw [e2];exact V.n
 rw [if_neg k0,if_neg k0]
 by_cases k1 : x.kind = 1
 ·rw [if_pos k1,if_pos k1]
  have hz := M.size (.inl k1);have hs := zfs (k := k + 1) (hmore (j := 14) (by omega)) hd M.src (off := x.off);obtain ⟨s1,s2⟩ := zil hU (k := k + 1) (hmore (j := 14) (by omega)) hd M.src (off := x.off) V;have hx : Wd4 (8 * x.size) := by unfold Wd4; omega
  have hv := zlR hs.rm hs.vi (by omega) hx;have h1 : (m.place x.src x.off).1.evs = m.evs := by rw [hs.eq]
  have h2 : (m.place x.src x.off).1.regs = m.regs := by rw [hs.eq]
  have hn := zni (n := zat m.evs) hs.rm.wf hs.rm.rng s1 (by omega) hfew hx;have he := hs.ext.trans hv.ext;have hval := hn.val hv.err;have e : m.load x = ⟨(putR (m.place x.src x.off).1.p (zdJ (38 + 3 * (zat m.evs : Int)) (8 * x.size))).1,m.regs.set x.dst.toNat (putR (m.place x.src x.off).1.p (zdJ (38 + 3 * (zat m.evs : Int)) (8 * x.size))).2.1,m.evs ++ [⟨0,x.size,(m.place x.src x.off).2,(putR (m.place x.src x.off).1.p (zdJ (38 + 3 * (zat m.evs : Int)) (8 * x.size))).2.1,0,[]⟩],(m.load x).err⟩ := by
   unfold SM.load SM.set SM.event SM.next SM.keep
   dsimp only;rw [h1,h2]
  rw [e,V.n];refine ⟨hn.av,(V.regs.up h.rm.wf hv.rm.wf he).set hval _,(V.evs.up h.rm.wf hv.rm.wf he).push ⟨rfl,rfl,rfl,fun _ => zdK hs.rm.wf hv.rm.wf hv.ext s2,hval,rfl,fun i hi => absurd hi (Nat.not_lt_zero _)⟩,?_⟩;show zat m.evs + 1 = zat (m.evs ++ [_])
  rw [zbS]
  rfl
 rw [if_neg k1,if_neg k1]
 by_cases k2 : x.kind = 2
 ·rw [if_pos k2,if_pos k2]
  have hz := M.size (.inr k2);have hs := zfs (k := k + 1) (hmore (j := 14) (by omega)) hd M.dst (off := x.off);obtain ⟨s1,s2⟩ := zil hU (k := k + 1) (hmore (j := 14) (by omega)) hd M.dst (off := x.off) V;have hx : Wd4 (8 * x.size) := by unfold Wd4; omega
  have hr := h.at_ M.src;have hv := zlQ (x := 8 * x.size) (a := m.reg x.src) (d := d) hs.rm hs.vi hx (hs.ext.has hr.1) ⟨by rw [hs.ext.dp h.rm.wf hs.rm.wf hr.1]; exact hr.2,hd.2⟩;have hn := znj hU (x := 8 * x.size) hs.rm.wf hs.rm.rng s1 hx (hs.ext.has hr.1) (zdK h.rm.wf hs.rm.wf hs.ext (V.reg M.src));have he := hs.ext.trans hv.ext;have h1 : (m.place x.dst x.off).1.evs = m.evs := by rw [hs.eq]
  have h2 : (m.place x.dst x.off).1.regs = m.regs := by rw [hs.eq]
  have e : m.store x = ⟨(zfl (m.place x.dst x.off).1.p (8 * x.size) (m.reg x.src)).1,m.regs,m.evs ++ [⟨1,x.size,(m.place x.dst x.off).2,(zfl (m.place x.dst x.off).1.p (8 * x.size) (m.reg x.src)).2.1,0,[]⟩],(m.store x).err⟩ := by
   unfold SM.store SM.event SM.keep;dsimp only;rw [h1,h2]
  rw [e];refine ⟨hn.av,V.regs.up h.rm.wf hv.rm.wf he,(V.evs.up h.rm.wf hv.rm.wf he).push ⟨rfl,rfl,rfl,fun _ => zdK hs.rm.wf hv.rm.wf hv.ext s2,hn.val hv.err,rfl,fun i hi => absurd hi (Nat.not_lt_zero _)⟩,?_⟩;show q.n = zat (m.evs ++ [_])
  rw [zbS];exact V.n
 rw [if_neg k2,if_neg k2]
 by_cases k5 : x.kind = 5
 ·rw [if_pos k5,if_pos k5]
  have h64 : Wd4 64 := by unfold Wd4; omega
  have hv := zlS (k := k + 1) (hmore (j := 2) (by omega)) hfew (x := 64) h64;have hvs := zni (n := zat m.evs) h.rm.wf h.rm.rng V.av (by omega) hfew h64;have hn := zfc (k := k) hv.rm hv.vi 0;have hns := zhB hv.rm.wf hv.rm.rng hvs.av 0;have he := hv.ext.trans hn.ext;have hval := zdK hv.rm.wf hn.rm.wf hn.ext (hvs.val hv.err);rw [V.n];refine ⟨hns.av,?_,?_,?_⟩
  ·exact ((V.regs.up h.rm.wf hn.rm.wf he).set hval 0).five (hns.val hn.err)
  ·refine (V.evs.up h.rm.wf hn.rm.wf he).push ⟨rfl,rfl,rfl,fun e => absurd rfl e,hval,?_,fun i hi => ?_⟩
   ·show ((m.regs.drop 1).take _).length = ((q.regs.drop 1).take _).length
    simp [V.regs.len,V.regs.lev]
   ·have hi' : i < ((m.regs.drop 1).take (zcG x.imm).toNat).length := hi
    rw [ztW,List.length_drop,V.regs.len] at hi';show evP _ vs (((m.regs.drop 1).take (zcG x.imm).toNat).getD i 0) = some (((q.regs.drop 1).take (zcG x.imm).toNat).getD i 0)
    have hg : ∀ l : List Int,((l.drop 1).take (zcG x.imm).toNat).getD i 0 = l.getD (1 + i) 0 := fun l => by
     rw [zts,zud,if_pos (by omega),zt4,zts]
    rw [hg,hg];exact zdK h.rm.wf hn.rm.wf he (V.regs.reg (1 + i) (by omega))
  ·show zat m.evs + 1 = zat (m.evs ++ [_])
   rw [zbS]
   rfl
 rw [if_neg k5,if_neg k5];exact V
theorem zpS (hlen : 38 + 3 * 64 < vs.length) : ∀ (l : List ID) {m : SM} {q : VM} {k : Nat} {d : Int},MI m (k + 30 * l.length) d → 1 ≤ d → d + l.length ≤ 256 → zat m.evs + l.length ≤ 64 → (∀ x ∈ l,znH x) → MV vs m q → MV vs (m.go l) (zti vs q l)
 | [],m,q,k,d,h,_,_,_,_,V => V
 | x :: r,m,q,k,d,h,h1,h2,h3,hm,V => by
  simp only [List.length_cons] at h h2 h3;have hk : MI m (k + 30 * r.length + 30) d := ⟨h.rm.less (by omega),h.len,h.reg,h.err,h.vi⟩;obtain ⟨hs,he⟩ := zjr hk (by omega) (by omega) (hm x List.mem_cons_self);have hb : zat (m.step x).evs ≤ zat m.evs + 1 := by
   have hV := (zj4 hU hk (by omega) (by omega) hlen (hm x List.mem_cons_self) V).n;rw [← hV,← V.n];unfold zo3
   split
   ·exact Nat.le_succ _
   split
   ·exact ztn _
   split
   ·exact Nat.le_succ _
   split
   ·exact ztn _
   ·exact Nat.le_succ _
  exact zpS hlen r hs (by omega) (by omega) (by omega) (fun y hy => hm y (List.mem_cons_of_mem _ hy)) (zj4 hU hk (by omega) (by omega) hlen (hm x List.mem_cons_self) V)
theorem zo4 {m : SM}{q : VM}{k : Nat}{d : Int}(h : MI m (k + 30) d)(hd : 1 ≤ d ∧ d < 255){x : ID}(M : znH x)(nx : List Int)(V : MV vs m q) :
  AV vs (m.ends x nx).1.p ∧ (m.ends x nx).2.kind = (zk2 q x nx).kind ∧ (m.ends x nx).2.tgt = (zk2 q x nx).tgt ∧ (m.ends x nx).2.els = (zk2 q x nx).els ∧ ((m.ends x nx).2.kind ≠ 1 → evP (m.ends x nx).1.p.T vs (m.ends x nx).2.v = some (zk2 q x nx).v) := by
 unfold SM.ends zk2
 by_cases h6 : x.kind = 6
 ·rw [if_pos h6,if_pos h6]
  exact ⟨V.av,rfl,rfl,rfl,fun _ => V.reg (by omega)⟩
 rw [if_neg h6,if_neg h6]
 by_cases h3 : x.kind = 3 ∧ nx.getD 0 0 ≠ nx.getD 1 0
 ·rw [if_pos h3,if_pos h3]
  have hm1 : MI m (k + 20 + 1) d := ⟨h.rm.less (by omega),h.len,h.reg,h.err,h.vi⟩;have hs := zdN (k := k + 20) (x := x) hm1 hd.1 M.src;obtain ⟨s1,s2⟩ := zgX (k := k + 20) (x := x) hm1 M.src V;have hr := h.at_ M.dst;have hA : zal (m.second x).1.p.T (m.reg x.dst) = true ∧ dpP (m.second x).1.p (m.reg x.dst) ≤ d := ⟨hs.ext.has hr.1,by rw [hs.ext.dp h.rm.wf hs.rm.wf hr.1]; exact hr.2⟩;have hva := zdK h.rm.wf hs.rm.wf hs.ext (V.reg M.dst);have hc := M.cond h3.1;have hho : ∀ cc : Int,0 ≤ cc ∧ cc ≤ 10 → zaW cc 64 = true := fun cc h12 => by
   obtain ⟨h1,h2⟩ := h12;unfold zaW zcb;simp only [ztr,decide_eq_true_eq];exact ⟨h1,h2,rfl⟩
  refine (fun (g : AV vs ((m.second x).1.ask x.op (m.reg x.dst) (m.second x).2).1.p ∧ evP ((m.second x).1.ask x.op (m.reg x.dst) (m.second x).2).1.p.T vs ((m.second x).1.ask x.op (m.reg x.dst) (m.second x).2).2 = some (zqR x.op (q.reg x.dst) (zsj q x))) => ⟨g.1,rfl,rfl,rfl,fun _ => g.2⟩) ?_;obtain ⟨mq,hmq⟩ : ∃ s,(m.second x).1 = s := ⟨_,rfl⟩;obtain ⟨nq,hnq⟩ : ∃ s,(m.second x).2 = s := ⟨_,rfl⟩;have hrm := hs.rm;have hvi := hs.vi;have hhas := hs.has;have hlow := hs.low;rw [hmq] at s1 s2 hA hva hrm hvi hhas hlow ⊢;rw [hnq] at s2 hhas hlow ⊢;unfold SM.ask zqR
  split
  ·rename_i h10
   have h1 := zkx (k := k + 8) (op := 5) (x := 64) (a := m.reg x.dst) (b := nq) (d := d) (hrm.less (by omega)) hvi rfl hA.1 hhas ⟨hA.2,hlow,by omega⟩;have v1 := zi4 hU (op := 5) (x := 64) hrm.wf hrm.rng s1 hva s2;have h2 := zfc (k := k + 7) h1.rm h1.vi 0;have v2 := zhB h1.rm.wf h1.rm.rng v1.av 0;have h3' := zg8 (k := k) (cc := 1) (x := 64) (a := (opV mq.p 5 64 (m.reg x.dst) nq).2.1) (b := (putR (opV mq.p 5 64 (m.reg x.dst) nq).1 (zaf (IntKind.u64.wrap 0))).2.1) (d := d + 1) (h2.rm.less (by omega)) h2.vi rfl (h2.ext.has h1.has) h2.has ⟨by rw [h2.ext.dp h1.rm.wf h2.rm.wf h1.has]; exact h1.low,by have := h2.low; omega,by omega⟩;have v3 := zik hU (cc := 1) (x := 64) h2.rm.wf h2.rm.rng v2.av (zdK h1.rm.wf h2.rm.wf h2.ext (v1.val h1.err)) (v2.val h2.err);exact ⟨v3.av,v3.val h3'.err⟩
  ·rename_i h10
   have h3' := zg8 (k := k) (cc := x.op) (x := 64) (a := m.reg x.dst) (b := nq) (d := d) (hrm.less (by omega)) hvi (hho _ hc.1) hA.1 hhas ⟨hA.2,hlow,by omega⟩;have v3 := zik hU (cc := x.op) (x := 64) hrm.wf hrm.rng s1 hva s2;exact ⟨v3.av,v3.val h3'.err⟩
 ·rw [if_neg h3,if_neg h3]
  exact ⟨V.av,rfl,rfl,rfl,fun e => absurd rfl e⟩
end
end
section
structure Two (B1 g1 : Nat)(F1 : Nat → Prop)(p1 : PS)(B2 g2 : Nat)(F2 : Nat → Prop)(p2 : PS)(W : World) : Prop where
 a : zam W B1 F1 g1 p1
 b : zam W B2 F2 g2 p2
 ap : ∀ k,F1 k → ¬ F2 k
 h1 : B1 ≤ W.heap.size
 h2 : B2 ≤ W.heap.size
def zbg (F1 F2 : Nat → Prop) : Nat → Prop := fun k => F1 k ∨ F2 k
structure Go2 (G : Nat → Prop)(W : World)(G' : Nat → Prop)(W' : World) : Prop where
 chg : Chg G W W'
 new : ∀ b,G' b → G b ∨ W.heap.size ≤ b
section
variable {B1 g1 B2 g2 : Nat}{F1 F2 F' G G' : Nat → Prop}{p1 p2 p' : PS}{W W' : World}
theorem Go2.below (hb : Below W.heap.size W W') : Go2 G W G W' := ⟨Chg.of_below hb,fun b q => .inl q⟩
theorem Go2.refl (G : Nat → Prop)(W : World) : Go2 G W G W := ⟨Chg.refl _ _,fun b q => .inl q⟩
theorem Go2.trans {W2 : World}{G2 : Nat → Prop}(h : Go2 G W G' W')(k : Go2 G' W' G2 W2) : Go2 G W G2 W2 := ⟨h.chg.trans k.chg h.new,fun b q => (k.new b q).elim (h.new b) (fun e => .inr (zto h.chg.size e))⟩
theorem Go2.ins {A : Option Addr}{n : Nat}{l : List ID}(k : Go2 G W G' W')(h : ze9 W G A n l) : ze9 W' G' A n l := h.chg k.chg (fun b q => .inl q) k.new
theorem Go2.evs {s : Value}{l : List EvD}(k : Go2 G W G' W')(h : zbt W G s l) : zbt W' G' s l := h.chg k.chg (fun b q => .inl q) k.new
theorem Go2.blk {b : Nat}{t : TypeId}{cs : Array Value}(k : Go2 G W G' W')(h : Blk W b t cs ∧ ¬ G b) : Blk W' b t cs ∧ ¬ G' b := ⟨k.chg.blk h.1 h.2,fun q => (k.new b q).elim h.2 (fun e => by have := h.1.lt; omega)⟩
end
end
section
theorem zsk : (prog.info? 31).map (fun i => (i.zero,i.size,i.bytes)) = some (some (.int .u64 0),1,8) := by kernel_rfl
theorem zqS : (prog.info? 4).map (fun i => (i.zero,i.size,i.bytes)) = some (some (.bool false),1,1) := by kernel_rfl
theorem zo5 {b : Bool} : ∀ u ∈ [Value.bool b],u.oneCell' = true := by intro u hu; simp at hu; subst hu; rfl
theorem zqT (vs : List Int)(t : TD)(vl : List Int)(bl : List Bool)(sv sl sb : Value)(ht : t.wf)(hok : okF t = true)(huv : ∀ v ∈ vs,U64 v)(hul : ∀ v ∈ vl,U64 v)(hlen : bl.length = vl.length)(hfew : vl.length ≤ 4000)(hfv : vs.length ≤ 4000)(hp : ∀ k ∈ zax t,0 ≤ k ∧ k < (vl.length : Int))(w : World)(hvs : zbp w sv vs)(hvl : zbp w sl vl)(hbl : zcp w sb bl) :
  Calls prog 147 #[zaw t,sv,sl,sb] w fun e w' => zjj vs t vl bl e ∧ Below w.heap.size w w' := by
 have hk : t.kind = 0 ∨ t.kind = 1 ∨ t.kind = 2 ∨ t.kind = 3 ∨ t.kind = 4 ∨ t.kind = 5 := by
  unfold okF zcl at hok
  by_cases k0 : t.kind = 0
  ·exact .inl k0
  by_cases k1 : t.kind = 1
  ·exact .inr (.inl k1)
  by_cases k2 : t.kind = 2
  ·exact .inr (.inr (.inl k2))
  by_cases k4 : t.kind = 4
  ·exact .inr (.inr (.inr (.inr (.inl k4))))
  by_cases k3 : t.kind = 3
  ·exact .inr (.inr (.inr (.inl k3)))
  rw [if_neg k0,if_neg k1,if_neg k2,if_neg k4,if_neg k3] at hok;simp at hok;exact .inr (.inr (.inr (.inr (.inr hok.1))))
 rcases hk with k | k | k | k | k | k
 ·exact zsy vs t vl bl sv sl sb ht hok huv hul hlen hfew hfv hp k w hvs hvl hbl
 ·exact zsz vs t vl bl sv sl sb ht hok huv hul hlen hfew hfv hp k w hvs hvl hbl
 ·exact zsB vs t vl bl sv sl sb ht hok huv hul hlen hfew hfv hp k w hvs hvl hbl
 ·exact zsA vs t vl bl sv sl sb ht hok huv hul hlen hfew hfv hp k w hvs hvl hbl
 ·exact zsC vs t vl bl sv sl sb ht hok huv hul hlen hfew hfv hp k w hvs hvl hbl
 ·exact zsD vs t vl bl sv sl sb ht hok huv hul hlen hfew hfv hp k w hvs hvl hbl
structure EvI (T : List TD)(vs vl : List Int)(bl : List Bool)(k : Nat) : Prop where
 lv : vl.length = k
 lb : bl.length = k
 u : ∀ v ∈ vl,U64 v
 b : ∀ j : Nat,j < k → bl.getD j false = (evP T vs (j : Int)).isNone
 v : ∀ (j : Nat) (x : Int),j < k → evP T vs (j : Int) = some x → vl.getD j 0 = x
theorem EvI.nil (T : List TD)(vs : List Int) : EvI T vs [] [] 0 := ⟨rfl,rfl,by simp,fun j h => by omega,fun j x h => by omega⟩
theorem zsl {p : PS}(hw : WfP p)(hr : ∀ t ∈ p.T,t.wf){vs vl : List Int}{bl : List Bool}{k : Nat}{t : TD}(hI : EvI p.T vs vl bl k)(huv : ∀ v ∈ vs,U64 v)(ht : p.T[k]? = some t) :
  (zgm vs t (fun k => vl.getD k.toNat 0) (fun k => bl.getD k.toNat false)).2 = (evP p.T vs (k : Int)).isSome ∧ (∀ x,evP p.T vs (k : Int) = some x → (zgm vs t (fun k => vl.getD k.toNat 0) (fun k => bl.getD k.toNat false)).1 = x) ∧ U64 (zgm vs t (fun k => vl.getD k.toNat 0) (fun k => bl.getD k.toNat false)).1 := by
 have hk : k < p.T.length := (ztt.1 ht).1;have hh : zal p.T (k : Int) = true := by unfold zal; simp; exact hk
 have ha : atP p.T (k : Int) = t := by
  unfold atP;rw [if_pos hh,ztx,zts,ht]
  rfl
 have hok := hw.ok k t ht;have hwf := hr t (ztv ht);have hpt := hw.part k t ht;rw [zds hw hh,ha];have V : ∀ i ∈ zax t,∃ j : Nat,i = (j : Int) ∧ j < k := fun i hi => ⟨i.toNat,by have := hpt i hi; omega,by have := hpt i hi; omega⟩
 have bb : ∀ i ∈ zax t,bl.getD i.toNat false = (evP p.T vs i).isNone := fun i hi => by
  obtain ⟨j,rfl,hj⟩ := V i hi;exact hI.b j hj
 have vv : ∀ i ∈ zax t,∀ x,evP p.T vs i = some x → vl.getD i.toNat 0 = x := fun i hi x hx => by
  obtain ⟨j,rfl,hj⟩ := V i hi;exact hI.v j x hj hx
 have uu : ∀ i : Int,U64 (vl.getD i.toNat 0) := fun i => zcv hI.u _
 unfold zgm evT;dsimp only
 by_cases k0 : t.kind = 0
 ·rw [if_pos k0,if_neg (by omega),if_neg (by omega),if_neg (by omega),if_neg (by omega),if_neg (by omega)]
  exact ⟨rfl,fun x hx => by injection hx,hwf.2.2.2.1⟩
 rw [if_neg k0]
 by_cases k1 : t.kind = 1
 ·rw [if_pos k1,if_pos k1]
  have hn := hwf.2.2.2.1;unfold U64 at hn
  by_cases hl : (vs.length : Int) ≤ t.n
  ·rw [if_pos hl,zul (by omega)]
   exact ⟨rfl,fun x hx => by simp at hx,zaA⟩
  ·rw [if_neg hl,ztq (by omega),zts,ztq (by omega)]
   exact ⟨rfl,fun x hx => by injection hx,zau (huv _ (ztU _))⟩
 rw [if_neg k1,if_neg k1]
 by_cases k3 : t.kind = 3
 ·rw [if_pos k3,if_pos k3]
  have ma : t.a ∈ zax t := by unfold zax; simp [k3]
  rw [bb _ ma];refine ⟨by cases evP p.T vs t.a <;> rfl,fun x hx => ?_,zau (uu _)⟩
  cases e : evP p.T vs t.a with
  | none => rw [e] at hx; simp at hx
  | some y =>
   rw [e] at hx;injection hx with hx
   rw [vv _ ma y e,hx]
 rw [if_neg k3,if_neg k3]
 by_cases k2 : t.kind = 2
 ·rw [if_pos k2,if_pos k2]
  have ma : t.a ∈ zax t := by unfold zax; simp [k2]
  have mb : t.b ∈ zax t := by unfold zax; simp [k2]
  rw [bb _ ma,bb _ mb];refine ⟨by cases evP p.T vs t.a <;> cases evP p.T vs t.b <;> rfl,fun x hx => ?_,zhe (zpl hok k2) (uu _) (uu _)⟩
  cases e : evP p.T vs t.a with
  | none => rw [e] at hx; simp at hx
  | some y =>
   cases e2 : evP p.T vs t.b with
   | none => rw [e,e2] at hx; simp at hx
   | some z =>
    rw [e,e2] at hx;injection hx with hx
    rw [vv _ ma y e,vv _ mb z e2];exact hx
 rw [if_neg k2,if_neg k2]
 by_cases k4 : t.kind = 4
 ·rw [if_pos k4,if_pos k4]
  have ma : t.a ∈ zax t := by unfold zax; simp [k4]
  have mb : t.b ∈ zax t := by unfold zax; simp [k4]
  rw [bb _ ma,bb _ mb];refine ⟨by cases evP p.T vs t.a <;> cases evP p.T vs t.b <;> rfl,fun x hx => ?_,zb4 _⟩
  cases e : evP p.T vs t.a with
  | none => rw [e] at hx; simp at hx
  | some y =>
   cases e2 : evP p.T vs t.b with
   | none => rw [e,e2] at hx; simp at hx
   | some z =>
    rw [e,e2] at hx;injection hx with hx
    rw [vv _ ma y e,vv _ mb z e2];exact hx
 rw [if_neg k4,if_neg k4];have k5 : t.kind = 5 := by
  unfold okF zcl at hok;rw [if_neg k0,if_neg k1,if_neg k2,if_neg k4,if_neg k3] at hok;simp at hok;exact hok.1
 rw [if_pos k5];have ma : t.a ∈ zax t := by unfold zax; simp [k5]
 have mb : t.b ∈ zax t := by unfold zax; simp [k5]
 have mc : t.c ∈ zax t := by unfold zax; simp [k5]
 rw [bb _ ma,bb _ mb,bb _ mc];refine ⟨by cases evP p.T vs t.a <;> cases evP p.T vs t.b <;> cases evP p.T vs t.c <;> rfl,fun x hx => ?_,by cases (vl.getD t.a.toNat 0 == 0) <;> exact uu _⟩
 cases e : evP p.T vs t.a with
 | none => rw [e] at hx; simp at hx
 | some y =>
  cases e2 : evP p.T vs t.b with
  | none => rw [e,e2] at hx; simp at hx
  | some z =>
   cases e3 : evP p.T vs t.c with
   | none => rw [e,e2,e3] at hx; simp at hx
   | some z' =>
    rw [e,e2,e3] at hx;injection hx with hx
    rw [vv _ ma y e,vv _ mb z e2,vv _ mc z' e3,← hx];show cond (y == 0) z' z = if y = 0 then z' else z
    by_cases hy : y = 0
    ·rw [if_pos hy,hy]; rfl
    ·rw [if_neg hy,show (y == 0) = false by simpa using hy]; rfl
theorem EvI.next {p : PS}(hw : WfP p)(hr : ∀ t ∈ p.T,t.wf){vs vl : List Int}{bl : List Bool}{k : Nat}{t : TD}(hI : EvI p.T vs vl bl k)(huv : ∀ v ∈ vs,U64 v)(ht : p.T[k]? = some t){x : Int}{ok : Bool}(h1 : (zgm vs t (fun k => vl.getD k.toNat 0) (fun k => bl.getD k.toNat false)).1 = x)(h2 : (zgm vs t (fun k => vl.getD k.toNat 0) (fun k => bl.getD k.toNat false)).2 = ok) :
  EvI p.T vs (vl ++ [x]) (bl ++ [!ok]) (k + 1) := by
 obtain ⟨e1,e2,e3⟩ := zsl hw hr hI huv ht;rw [h1] at e2 e3;rw [h2] at e1;refine ⟨by simp [hI.lv],by simp [hI.lb],fun v hv => ?_,fun j hj => ?_,fun j y hj hy => ?_⟩
 ·rcases List.mem_append.1 hv with q | q
  ·exact hI.u v q
  ·simp at q; rw [q]; exact e3
 ·rcases ztH j k with q | q
  ·rw [zts,ztJ (by rw [hI.lb]; exact q),← zts]
   exact hI.b j q
  ·obtain rfl : j = k := by omega
   rw [zts,zuh (by rw [hI.lb]; exact ztn _),hI.lb,e1]
   cases evP p.T vs (j : Int) <;> simp
 ·rcases ztH j k with q | q
  ·rw [zts,ztJ (by rw [hI.lv]; exact q),← zts]
   exact hI.v j y q hy
  ·obtain rfl : j = k := by omega
   rw [zts,zuh (by rw [hI.lv]; exact ztn _),hI.lv,Nat.sub_self];exact e2 y hy
structure EvW (w : World)(k : Nat)(xv xb : Value)(vl : List Int)(bl : List Bool)(W : World) : Prop where
 below : Below w.heap.size w W
 rv : W.ownsRow w.heap.size 31 1 xv k (vl.map (Value.int .u64))
 rb : W.ownsRow w.heap.size 4 1 xb k (bl.map Value.bool)
structure EvP1 (w : World)(k1 k : Nat)(xv xb : Value)(xs ys : List Value)(W : World) : Prop where
 below : Below w.heap.size w W
 rv : W.ownsRow w.heap.size 31 1 xv k1 xs
 rb : W.ownsRow w.heap.size 4 1 xb k ys
section
variable {w W V : World}{k : Nat}{xv xb : Value}{vl : List Int}{bl : List Bool}
theorem EvW.step (h : EvW w k xv xb vl bl W)(hb : Below W.heap.size W V) : EvW w k xv xb vl bl V :=
 ⟨h.below.trans (hb.mono h.below.size),zaG h.rv fun r q => hb.block r (zaQ h.rv r q).2,zaG h.rb fun r q => hb.block r (zaQ h.rb r q).2⟩
theorem EvW.words (h : EvW w k xv xb vl bl W)(hl : vl.length = k) : zbp W xv vl := by
 obtain ⟨A,c,rfl,h4,h5⟩ := (zbr.of_own h.rv).slice;exact ⟨A,c,by rw [hl],by rw [hl]; exact h4,by rw [hl]; exact h5⟩
theorem EvW.flags (h : EvW w k xv xb vl bl W)(hl : bl.length = k) : zcp W xb bl := by
 obtain ⟨A,c,rfl,h4,h5⟩ := (zbr.of_own h.rb).slice;exact ⟨A,c,by rw [hl],by rw [hl]; exact h4,by rw [hl]; exact h5⟩
end
section
variable {base g : Nat}{F : Nat → Prop}{p : PS}
theorem zsm (n : Int)(vs : List Int)(sv : Value)(w : World)(h : zaO w base F g p)(hvs : zbp w sv vs)(hfv : vs.length ≤ 4000)(huv : ∀ v ∈ vs,U64 v) :
  Calls prog 92 #[.pointer (some ⟨g,0,none⟩),.int .i64 n,sv] w fun e w' => e = .returned (.tuple #[.int .u64 (znD (evP p.T vs n)).1,.int .i64 (znD (evP p.T vs n)).2]) ∧ Below w.heap.size w w' := by
 obtain ⟨r,hr⟩ : ∃ r,evP p.T vs n = r := ⟨_,rfl⟩;rw [hr];have HR := Hd hr
 have HP := Hd h
 have HVS := Hd hvs
 have HUV := Hd huv
 clear h hvs hr huv;go_enter func92,ntmps92;go_wp2_with fail
 refine (zf7 n _ HP.out).mono ?_;rintro e w1 ⟨rfl,hb⟩;have HB1 := Hd hb
 clear hb;obtain ⟨t0,ht0⟩ : ∃ t,atP p.T n = t := ⟨_,rfl⟩;rw [ht0];obtain ⟨er,her⟩ : ∃ e : Int,(if zal p.T n = true then 0 else 2) = e := ⟨_,rfl⟩;rw [her];have HER := Hd her
 clear her ht0;go_upto_region 2 with (first
  | (refine zag rfl 147 (.tmp 8) (.tmp 21) rfl _ t0.cells (zaw t0) (by rfl) (by rfl) rfl zcL rfl (TD.one _) ?_
     intro w5 G5 L5 Z5;have HB2 := Hd (HB1.out.trans (L5.mono HB1.out.size))
     clear G5 L5 Z5)
  | fail)
 cases hn : zal p.T n
 ·have her : er = 2 := by rw [← HER.out,hn]; rfl
  have hno : r = none := by rw [← HR.out]; exact zjW hn
  subst her hno;go_wp2;go_ret2;exact ⟨rfl,HB2.out⟩
 have her : er = 0 := by rw [← HER.out,hn]; rfl
 subst her;obtain ⟨m,rfl⟩ : ∃ m : Nat,n = m := ⟨n.toNat,by have := ziA hn; omega⟩;have hml : m < p.T.length := by unfold zal at hn; simp at hn; exact hn
 have hfew := HP.out.few;have HML := Hd hml
 have hmf : m < 4000 := by omega
 have hE0 : Hid (EvW w 0 (.slice none 0 0) (.slice none 0 0) [] [] w5) := Hd ⟨HB2.out,⟨rfl,.inl ⟨rfl,rfl⟩⟩,⟨rfl,.inl ⟨rfl,rfl⟩⟩⟩
 clear HER hn hml hfew;obtain ⟨iU,hiU,hzU,hsU,hbU⟩ := info_parts zsk;have IU := Hd (ztp hiU (ztp hzU (ztp hsU hbU)))
 obtain ⟨iB,hiB,hzB,hsB,hbB⟩ := info_parts zqS;have IB := Hd (ztp hiB (ztp hzB (ztp hsB hbB)))
 clear hiU hzU hsU hbU hiB hzB hsB hbB;go_upto_region 7 with fail
 go_loopw [10,11,12] (fun xv xb iv wr => ∃ (k : Nat) (vl : List Int) (bl : List Bool),k ≤ m + 1 ∧ iv = .int .i64 (k : Int) ∧ EvW w k xv xb vl bl wr ∧ EvI p.T vs vl bl k) (fun _ _ iv _ => m + 1 - (intOf iv).toNat)
 case atStart => exact ⟨0,[],[],by omega,rfl,hE0.out,EvI.nil _ _⟩
 case round =>
  obtain ⟨k,vl,bl,hk,rfl,hw,hi⟩ := hrel;have HW := Hd hw
  have HI := Hd hi
  clear hw hi hE0
  by_cases hlt : k ≤ m
  ·have hkl : k < p.T.length := by have := HML.out; omega
   obtain ⟨t,ht⟩ : ∃ t,p.T[k]? = some t := ⟨_,ztq hkl⟩;have HTK := Hd ht
   have HTW := Hd (HP.out.rng t (ztv ht))
   have HOK := Hd (HP.out.wf.ok k t ht)
   have HPT := Hd (HP.out.wf.part k t ht)
   clear ht hkl;go_wp2_with fail
   refine (zjM (HP.out.below HW.out.below) HTK.out).mono ?_;rintro e w6 ⟨rfl,hb⟩;have HW1 := Hd (HW.out.step hb)
   clear hb HW;go_upto_region 10 with (first
    | (refine zag rfl 147 (.tmp 13) (.tmp 34) rfl _ t.cells (zaw t) (by rfl) (by rfl) rfl zcL rfl (TD.one _) ?_
       intro w7 G5 L5 Z5;have HX := Hd G5
       have HW2 := Hd (HW1.out.step L5)
       clear G5 L5 Z5)
    | fail)
   obtain ⟨bx,hbx⟩ : ∃ b,w6.heap.size = b := ⟨_,rfl⟩;rw [hbx] at HX ⊢;have tok1 := True.intro;go_wp2_with (first
    | (clear tok1
       refine zae rfl 147 (.tmp 13) rfl ⟨bx,0,none⟩ (by rfl) t.cells _ (zak HX.out) underlying147 rfl zcL ?_)
    | fail)
   refine (zqT vs t vl bl sv u10 u11 HTW.out HOK.out HUV.out HI.out.u (by rw [HI.out.lb,HI.out.lv]) (by rw [HI.out.lv]; omega) hfv (fun q hq => by rw [HI.out.lv]; exact HPT.out q hq) _ (HVS.out.below HW2.out.below) (HW2.out.words HI.out.lv) (HW2.out.flags HI.out.lb)).mono ?_;rintro e w8 ⟨hq,hb⟩;have HW3 := Hd (HW2.out.step hb)
   unfold zjj at hq;obtain ⟨x,hx⟩ : ∃ x,(zgm vs t (fun k => vl.getD k.toNat 0) (fun k => bl.getD k.toNat false)).1 = x := ⟨_,rfl⟩;obtain ⟨ok,hok⟩ : ∃ x,(zgm vs t (fun k => vl.getD k.toNat 0) (fun k => bl.getD k.toNat false)).2 = x := ⟨_,rfl⟩;rw [hx,hok] at hq;subst hq;have HN := Hd (HI.out.next HP.out.wf HP.out.rng HUV.out HTK.out hx hok)
   clear hb hx hok HW1 HW2 HX;have tok1 := True.intro;have tok2 := True.intro;have hsz := HW3.out.below.size;have hkm : k + 1 ≤ maxLen := by unfold maxLen; omega
   go_wp2_with (first
    | (clear tok1
       show wpList _ _ _ (⟨_,.buildSlice _ _ _,_,_,_,_⟩ :: _) _ _
       refine zdS rfl rfl 26 31 (.tmp 45) (.tmp 44) (.tmp 46) rfl rfl w.heap.size 1 8 iU _ (.int .u64 x) u10 [.int .u64 x] (vl.map (Value.int .u64)) k underlying26 IU.out.1 IU.out.2.1 IU.out.2.2.1 IU.out.2.2.2 rfl (by omega) (by omega) (by rfl) (by rfl) rfl zdD HW3.out.rv hsz hkm (by omega) (by rfl) (by rfl) ?_;intro xv2 w9 gd hgd R2 L2 G2 O2;have HW4 := Hd (EvP1.mk (HW3.out.below.trans L2) R2 (zaG HW3.out.rb fun r q => G2.block r (zaQ HW3.out.rb r q).2 fun e => zcT HW3.out.rv HW3.out.rb (by decide) e.symm q))
       clear R2 L2 G2 O2 HW3 hsz)
    | (clear tok2
       show wpList _ _ _ (⟨_,.buildSlice _ _ _,_,_,_,_⟩ :: _) _ _
       refine zdS rfl rfl 191 4 (.tmp 50) (.tmp 48) (.tmp 51) rfl rfl w.heap.size 1 1 iB _ (.bool (!ok)) u11 [.bool (!ok)] (bl.map Value.bool) k underlying191 IB.out.1 IB.out.2.1 IB.out.2.2.1 IB.out.2.2.2 rfl (by omega) (by omega) (by rfl) (by rfl) rfl zo5 HW4.out.rb HW4.out.below.size hkm (by omega) (by rfl) (by rfl) ?_;intro xb2 w10 gd hgd R2 L2 G2 O2;have HW5 := Hd (EvW.mk (vl := vl ++ [x]) (bl := bl ++ [!ok]) (k := k + 1) (HW4.out.below.trans L2) (by rw [List.map_append]; exact zaG HW4.out.rv fun r q => G2.block r (zaQ HW4.out.rv r q).2 fun e => zcT HW4.out.rb HW4.out.rv (by decide) e.symm q) (by rw [List.map_append]; exact R2))
       clear R2 L2 G2 O2 HW4)
    | fail)
   go_roundw
   case measure => simp [intOf]; omega
   case rel => exact ⟨k + 1,vl ++ [x],bl ++ [!ok],by omega,by go_num,HW5.out,HN.out⟩
  ·obtain rfl : k = m + 1 := by omega
   obtain ⟨adv,cv,jv,e1,hcv,hjv,hlv,hxv⟩ := (HW.out.words HI.out.lv).at_ (k := (m : Int)) (by omega) (by rw [HI.out.lv]; omega);obtain ⟨adb,cb,jb,e2,hcb,hjb,hlb,hxb⟩ := (HW.out.flags HI.out.lb).at_ (k := (m : Int)) (by omega) (by rw [HI.out.lb]; omega);obtain rfl : m = jv := by omega
   obtain rfl : m = jb := by omega
   rw [HI.out.lv] at e1 hcv;rw [HI.out.lb] at e2 hcb;subst e1 e2;rw [ztx] at hxv hxb;have hB := HI.out.b m (by omega);rw [HR.out] at hB;rw [hB] at hxb;have h1 : m < cv := by omega
   have h2 : m < cb := by omega
   have h3 : m < m + 1 := by omega
   clear hjv hjb hlv hlb
   cases r with
   | none =>
    go_wp2;go_ret2;exact ⟨rfl,HW.out.below⟩
   | some x =>
    have hV := HI.out.v m x (by omega) HR.out;rw [hV] at hxv;have hxb' : wr.cell? (adb.add m) = some (.bool false) := hxb;clear hxb hB hV;go_wp2;go_ret2;exact ⟨rfl,HW.out.below⟩
end
end
end Go.Proofs.YtepagfkkjlbipaaGreat
