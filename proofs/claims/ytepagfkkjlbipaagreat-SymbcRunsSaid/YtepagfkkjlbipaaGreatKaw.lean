/-
  Parts of the proof of SymbcRuns. Conditions: those written in each statement.
-/
import Derived.Test.YtepagfkkjlbipaaGreatKav
set_option linter.unusedVariables false
set_option linter.unusedSimpArgs false
set_option maxHeartbeats 64000000
set_option maxRecDepth 100000
namespace Go.Proofs.YtepagfkkjlbipaaGreat
open Go.RowKit
open Tryz
section
/-! ### depths -/
def dpP (p : PS)(n : Int) : Int := p.D.getD n.toNat 0
theorem ziv {p : PS}(hw : WfP p){n : Int}(hn : zal p.T n = true) : dpP p n = zd6 p.D (zax (atP p.T n)) := by
 obtain ⟨i,rfl,hi⟩ := zfW hn;unfold dpP;rw [zts,show ((i : Int)).toNat = i by omega,hw.deep i _ hi]
 rfl
theorem zgo {p : PS}(hw : WfP p){n : Int}(hn : zal p.T n = true) : 1 ≤ dpP p n ∧ dpP p n ≤ 256 := by
 obtain ⟨i,rfl,hi⟩ := zfW hn;have hl : i < p.D.length := by rw [hw.len]; exact (ztt.1 hi).1
 unfold dpP;rw [zts,show ((i : Int)).toNat = i by omega,ztq hl];exact hw.low _ (ztU hl)
theorem zpW {D : List Int}{l : List Int}{d : Int}(hd : 1 ≤ d)(h : ∀ k ∈ l,D.getD k.toNat 0 + 1 ≤ d) : zd6 D l ≤ d := by
 unfold zd6
 suffices H : ∀ (l : List Int) (a : Int),a ≤ d → (∀ k ∈ l,D.getD k.toNat 0 + 1 ≤ d) → l.foldl (fun d n => max d (D.getD n.toNat 0 + 1)) a ≤ d from H l 1 hd h
 intro l
 induction l with
 | nil => intro a ha _; exact ha
 | cons x r ih => intro a ha hl; exact ih _ (by have := hl x (by simp); show max a (D.getD x.toNat 0 + 1) ≤ d; omega) (fun k hk => hl k (by simp [hk]))
theorem zpX {D : List Int}{l : List Int}{k : Int}(hk : k ∈ l) : D.getD k.toNat 0 + 1 ≤ zd6 D l := by
 unfold zd6
 suffices H : ∀ (l : List Int) (a : Int),k ∈ l → D.getD k.toNat 0 + 1 ≤ l.foldl (fun d n => max d (D.getD n.toNat 0 + 1)) a from H l 1 hk
 intro l
 induction l with
 | nil => intro a h; simp at h
 | cons x r ih =>
  intro a h;rw [zua]
  rcases ztM.1 h with rfl | h
  ·exact Int.le_trans (Int.le_max_right _ _) (ziU D r _)
  ·exact ih _ h
theorem zfE {p : PS}(hw : WfP p){n k : Int}(hn : zal p.T n = true)(hk : k ∈ zax (atP p.T n)) : dpP p k + 1 ≤ dpP p n := by
 rw [ziv hw hn];exact zpX hk
theorem zkf {D E : List Int}{l : List Int}(h : ∀ k ∈ l,D.getD k.toNat 0 = E.getD k.toNat 0) : zd6 D l = zd6 E l := by
 unfold zd6
 suffices H : ∀ (l : List Int) (a : Int),(∀ k ∈ l,D.getD k.toNat 0 = E.getD k.toNat 0) → l.foldl (fun d n => max d (D.getD n.toNat 0 + 1)) a = l.foldl (fun d n => max d (E.getD n.toNat 0 + 1)) a from H l 1 h
 intro l
 induction l with
 | nil => intro a _; rfl
 | cons x r ih => intro a hl; rw [zua,zua,hl x (by simp)]; exact ih _ (fun k hk => hl k (by simp [hk]))
theorem zre {p q : PS}(hw : WfP p)(hq : WfP q)(he : Ext p q) : ∀ (N : Nat) (n : Int),n.toNat < N → zal p.T n = true → dpP q n = dpP p n := by
 intro N
 induction N with
 | zero => intro n hn; omega
 | succ N ih =>
  intro n hn hb;rw [ziv hw hb,ziv hq (he.has hb),he.at_ hb];refine zkf fun k hk => ?_
  have hp := zcD hw hb hk;exact ih k (by omega) (zdy hw hb hk)
theorem Ext.dp {p q : PS}(he : Ext p q)(hw : WfP p)(hq : WfP q){n : Int}(hb : zal p.T n = true) : dpP q n = dpP p n := zre hw hq he _ n (ztI _) hb
/-! ### what is put, within the limits -/
structure Fit (p : PS)(r : RS)(k : Nat)(d : Int) : Prop where
 err : r.2.2 = 0
 few : r.1.T.length ≤ p.T.length + k
 low : dpP r.1 r.2.1 ≤ d
theorem Fit.more {p : PS}{r : RS}{k m : Nat}{d e : Int}(h : Fit p r k d)(hk : k ≤ m)(hd : d ≤ e) : Fit p r m e := ⟨h.err,by have := h.few; omega,by have := h.low; omega⟩
theorem Fit.from {p q : PS}{r : RS}{j k : Nat}{d : Int}(hq : q.T.length ≤ p.T.length + j)(h : Fit q r k d) : Fit p r (j + k) d := ⟨h.err,by have := h.few; omega,h.low⟩
theorem zfF {p : PS}(hw : WfP p){t : TD}{d : Int}(hok : okP p.T t = true)(hl : p.T.length < 4000)(hd : 1 ≤ d ∧ d ≤ 256)(hp : ∀ k ∈ zax t,dpP p k + 1 ≤ d) : Fit p (putR p t) 1 d := by
 have hm : zd6 p.D (zax t) ≤ d := zpW hd.1 hp
 rcases za8 p t with ⟨e,q⟩ | ⟨_,_,_,_,e,q⟩
 ·rcases q with ⟨q,_⟩ | ⟨_,i,hi,_,q⟩ | ⟨_,_,q,_⟩
  ·rw [hok] at q; cases q
  ·refine ⟨by show (zcP p t).2 = 0; rw [q],by show (zcm p t).T.length ≤ _; rw [e]; omega,?_⟩
   show dpP (zcm p t) (zcP p t).1 ≤ d
   rw [e,q];unfold dpP;rw [zts,show ((i : Int)).toNat = i by omega,hw.deep i _ hi];exact hm
  ·omega
 ·refine ⟨by show (zcP p t).2 = 0; rw [q],by show (zcm p t).T.length ≤ _; rw [e]; simp,?_⟩
  show dpP (zcm p t) (zcP p t).1 ≤ d
  rw [e,q];unfold dpP;have : ((p.T.length : Int)).toNat = p.D.length := by rw [hw.len]; omega
  dsimp only;rw [this,zts]
  simpa using hm
theorem zdL {p : PS}(hw : WfP p)(n : Int)(hl : p.T.length < 4000) : Fit p (putR p (zaf n)) 1 1 := zfF hw (zlM _ _) hl (by omega) (fun k hk => by have : zax (zaf n) = [] := rfl; rw [this] at hk; cases hk)
theorem zfo {p : PS}{n d : Int}(h : dpP p n ≤ d) : Fit p (p,n,0) 0 d := ⟨rfl,ztn _,h⟩
theorem zfp : ∀ (f : Nat) {p : PS} (hw : WfP p) {x a d : Int} {r : RS} (hx : Wd4 x) (ha : zal p.T a = true) (hl : p.T.length < 4000) (hd : dpP p a + 1 ≤ d ∧ d ≤ 256),zbw f p x a = some r → Fit p r 1 d
 | 0,_,_,_,_,_,_,_,_,_,_,h => by cases h
 | f + 1,p,hw,x,a,d,r,hx,ha,hl,hd,h => by
  have hb := zgo hw ha;rw [zbz] at h
  split at h
  ·injection h with h; subst h; exact (zfo (by omega)).more (by omega) (ztB _)
  split at h
  ·injection h with h; subst h; exact (zdL hw _ hl).more (ztn _) (by omega)
  split at h
  ·injection h with h; subst h; exact (zfo (by omega)).more (by omega) (ztB _)
  rename_i h64 _ _
  split at h
  ·rename_i h3
   have hp := zfE hw ha (k := (atP p.T a).a) (by unfold zax; rw [if_neg (by omega),if_pos h3]; simp);exact zfp f hw hx (zch hw ha h3).2.2 hl (by omega) h
  ·injection h with h; subst h
   exact zfF hw (zn3 hx h64 ha) hl (by omega) (fun k hk => by
    have : k = a := by unfold zax at hk; simpa using hk
    subst this;exact hd.1)
theorem zdu {p : PS}(hw : WfP p){x a : Int}(ha : zal p.T a = true)(hl : p.T.length < 4000) : Fit p (zah p x a) 1 (dpP p a) := by
 have hb := zgo hw ha
 rcases zbe p x a with ⟨k,e⟩ | ⟨k,e⟩ | ⟨k,e⟩ <;> rw [e]
 ·exact (zdL hw _ hl).more (ztn _) hb.1
 ·have hp := zfE hw ha (k := (atP p.T a).a) (by unfold zax; rw [if_neg (by omega),if_pos k]; simp)
  exact (zfo (by omega)).more (by omega) (ztB _)
 ·exact (zfo (ztB _)).more (by omega) (ztB _)
theorem znK {p : PS}(hw : WfP p)(hr : ∀ t ∈ p.T,t.wf){x a b : Int}(ha : zal p.T a = true)(hb : zal p.T b = true)(hl : p.T.length + 1 < 4000) :
  (zaj p x a b).2.2.2 = 0 ∧ (zaj p x a b).1.T.length ≤ p.T.length + 2 ∧ dpP (zaj p x a b).1 (zaj p x a b).2.1 ≤ dpP p a ∧ dpP (zaj p x a b).1 (zaj p x a b).2.2.1 ≤ dpP p b := by
 have h1 := zdu hw (x := x) ha (by omega);have w1 := zbq hw hr (zap hw ha) x;have e1 := zaT p x a;have hb1 := e1.has hb;have h2 := zdu w1.2.1 (x := x) hb1 (by have := h1.few; omega);have w2 := zbq w1.2.1 w1.2.2 (zap w1.2.1 hb1) x;have e2 := zaT (zah p x a).1 x b;have f1 := zcM hw ha h1.err;have d1 := e2.dp w1.2.1 w2.2.1 f1.1;have d2 := e1.dp hw w1.2.1 hb;unfold zaj;dsimp only;rw [if_pos h1.err];dsimp only;have := h1.few;have := h2.few;have := h1.low;have := h2.low;exact ⟨h2.err,by omega,by omega,by omega⟩
/-! ### sums of a sum and a constant -/
def zgp (T : List TD)(x n : Int) : Bool := (atP T n).kind == 2 && ((atP T n).op == 0 && ((atP T n).w == x && (atP T (atP T n).b).kind == 0))
def zkg (T : List TD)(x a : Int) : Int := if x = 32 ∧ (atP T a).kind = 3 ∧ (atP T a).w = 32 then (atP T a).a else a
def AA (p : PS) : Prop := ∀ n x : Int,zal p.T n = true → zgp p.T x n = true → zgp p.T x (zkg p.T x (atP p.T n).a) = false
theorem zdY {p q : PS}(hw : WfP p)(he : Ext p q)(x : Int){n : Int}(hn : zal p.T n = true) : zgp q.T x n = zgp p.T x n := by
 unfold zgp;rw [he.at_ hn];refine zn4 fun hk => ?_
 have hk : (atP p.T n).kind = 2 := by simpa using hk
 rw [he.at_ (zdy hw hn (k := (atP p.T n).b) (by unfold zax; rw [if_pos (.inl hk)]; simp))]
theorem zfG {p : PS}(hw : WfP p)(x : Int){a : Int}(ha : zal p.T a = true) : zal p.T (zkg p.T x a) = true := by
 unfold zkg
 split
 ·rename_i h; exact (zch hw ha h.2.1).2.2
 ·exact ha
theorem zg2 {p q : PS}(he : Ext p q)(x : Int){a : Int}(ha : zal p.T a = true) : zkg q.T x a = zkg p.T x a := by unfold zkg; rw [he.at_ ha]
theorem AA.put {p : PS}(h : AA p)(hw : WfP p){t : TD}(ht : okP p.T t = true → t.kind = 2 → t.op = 0 → (atP p.T t.b).kind = 0 → zgp p.T t.w (zkg p.T t.w t.a) = false) : AA (zcm p t) := by
 intro n x hn hc
 rcases za8 p t with ⟨e,_⟩ | ⟨hok,_,_,_,e,_⟩
 ·rw [e] at hn hc ⊢; exact h n x hn hc
 ·have he : Ext p (zcm p t) := Ext.put p t
  have hpart := (zdU hok).2.1
  cases hb : zal p.T n
  ·have hn2 : n = (p.T.length : Int) := by
    rw [e] at hn;unfold zal at hn hb;simp at hn hb;omega
   have hat : atP (zcm p t).T n = t := by
    unfold atP;rw [if_pos hn,e,hn2];simp
   have hc' := hc;unfold zgp at hc;rw [hat] at hc ⊢;simp only [ztr,beq_iff_eq] at hc;obtain ⟨h2,h0,hx,hbk⟩ := hc;have hm : ∀ k,k = t.a ∨ k = t.b → zal p.T k = true := fun k hk => by
    have := hpart k (by unfold zax; rw [if_pos (.inl h2)]; simpa using hk);unfold zal;simp;omega
   rw [he.at_ (hm _ (.inr rfl))] at hbk;have hA := hm _ (.inl rfl);rw [zg2 he x hA,zdY hw he x (zfG hw x hA),← hx];exact ht hok h2 h0 hbk
  ·rw [zdY hw he x hb] at hc
   have hk : (atP p.T n).kind = 2 := by unfold zgp at hc; simp at hc; exact hc.1
   have hA := zdy hw hb (k := (atP p.T n).a) (by unfold zax; rw [if_pos (.inl hk)]; simp);rw [he.at_ hb,zg2 he x hA,zdY hw he x (zfG hw x hA)];exact h n x hb hc
theorem AA.putR {p : PS}(h : AA p)(hw : WfP p){t : TD}(ht : t.kind ≠ 2 ∨ t.op ≠ 0) : AA (putR p t).1 := h.put hw fun _ h2 h0 _ => by rcases ht with q | q <;> contradiction
theorem zjf {p : PS}(hw : WfP p)(hr : ∀ t ∈ p.T,t.wf)(hz : NZ p){x a b : Int}(hx : x = 32 ∨ x = 64)(ha : zal p.T a = true)(hb : zal p.T b = true)(h0 : (zaj p x a b).2.2.2 = 0) :
  zah (zaj p x a b).1 x (zaj p x a b).2.1 = ((zaj p x a b).1,(zaj p x a b).2.1,0) ∧ zah (zaj p x a b).1 x (zaj p x a b).2.2.1 = ((zaj p x a b).1,(zaj p x a b).2.2.1,0) := by
 have hw2 := zbK hw hr (zap hw ha) (zap hw hb) x;have hz2 := zeS (b := b) hz hw hr (zap hw ha) x;have he := zc8 p x a b;have hba := zkt hw hw2.1 h0 ha hb he (Ext.refl _);have key : ∀ {q : PS} {u v : Int},zaj q x a b = (q,u,v,0) → zah q x a = (q,u,0) ∧ zah q x b = (q,v,0) := by
  intro q u v h;unfold zaj at h;dsimp only at h
  split at h
  ·rename_i h1
   have e1 : (zah (zah q x a).1 x b).1 = q := congrArg Prod.fst h;have e2 : (zah q x a).2.1 = u := congrArg (fun z => z.2.1) h;have e3 : (zah (zah q x a).1 x b).2.1 = v := congrArg (fun z => z.2.2.1) h;have e4 : (zah (zah q x a).1 x b).2.2 = 0 := congrArg (fun z => z.2.2.2) h;have hq : (zah q x a).1 = q := by
    obtain ⟨s,hs⟩ := zaT q x a;obtain ⟨t,ht⟩ := zaT (zah q x a).1 x b
    rcases zbe q x a with ⟨k,e⟩ | ⟨k,e⟩ | ⟨k,e⟩
    ·rw [e] at hs ht e1 ⊢
     rcases za8 q (zaf (zao x (atP q.T a).n)) with ⟨e',_⟩ | ⟨_,_,_,_,e',_⟩
     ·exact e'
     ·exfalso
      have e5 : (putR q (zaf (zao x (atP q.T a).n))).1 = zcm q (zaf (zao x (atP q.T a).n)) := rfl;rw [e1,e5,e'] at ht;have := congrArg List.length ht;simp at this
    ·rw [e]
    ·rw [e]
   rw [hq] at e1 e3 e4;exact ⟨Prod.ext hq (Prod.ext e2 h1),Prod.ext e1 (Prod.ext e3 e4)⟩
  ·rename_i h1
   exact absurd (congrArg (fun z => z.2.2.2) h) h1
 obtain ⟨k1,k2⟩ := key hba;exact ⟨zdd hw2.1 hw2.2 hz2 hx (he.has ha) k1,zdd hw2.1 hw2.2 hz2 hx (he.has hb) k2⟩
theorem zpY {q : PS}(hw : WfP q){x a : Int}(ha : zal q.T a = true)(h : zah q x a = (q,a,0)) : zkg q.T x a = a := by
 unfold zkg
 split
 ·rename_i hc
  have := zch hw ha hc.2.1;unfold zah at h;dsimp only at h;rw [if_neg (by omega),if_pos hc] at h;exact congrArg (fun z => z.2.1) h
 ·rfl
theorem zkh {T : List TD}{s : TD}{a op x : Int}{rt : Bool}(hs : s = atP T a)(h : zb5 T s op x rt = true) : op = 0 ∧ rt = true ∧ zgp T x a = true := by
 subst hs;unfold zb5 at h;simp only [ztr,beq_iff_eq] at h;unfold zgp;simp only [ztr,beq_iff_eq];exact ⟨h.1,h.2.1,h.2.2.2.1,h.2.2.2.2.1,h.2.2.2.2.2,h.2.2.1⟩
end
section
theorem zfH : ∀ (f : Nat) {p : PS} (h : AA p) (hw : WfP p) {x a : Int} {r : RS},zbw f p x a = some r → AA r.1
 | 0,_,_,_,_,_,_,h => by cases h
 | f + 1,p,ha,hw,x,a,r,h => by
  rw [zbz] at h
  split at h
  ·injection h with h; subst h; exact ha
  split at h
  ·injection h with h; subst h; exact ha.putR hw (.inl (by show (0 : Int) ≠ 2; decide))
  split at h
  ·injection h with h; subst h; exact ha
  split at h
  ·exact zfH f ha hw h
  ·injection h with h; subst h; exact ha.putR hw (.inl (by show (3 : Int) ≠ 2; decide))
theorem zeH {p : PS}(h : AA p)(hw : WfP p)(x a : Int) : AA (zah p x a).1 := by
 rcases zbe p x a with ⟨_,e⟩ | ⟨_,e⟩ | ⟨_,e⟩ <;> rw [e]
 ·exact h.putR hw (.inl (by show (0 : Int) ≠ 2; decide))
 ·exact h
 ·exact h
theorem ziw {p : PS}(h : AA p)(hw : WfP p)(hr : ∀ t ∈ p.T,t.wf){a b : Int}(ha : I64 a)(x : Int) : AA (zaj p x a b).1 := by
 have h1 := zeH h hw x a;have h2 := (zbq hw hr ha x).2.1;unfold zaj;dsimp only
 split
 ·exact zeH h1 h2 x b
 ·exact h1
theorem AA.bind {r s : RS}{k : PS → Int → Option RS}(h : AA r.1)(hk : r.2.2 = 0 → ∀ s,k r.1 r.2.1 = some s → AA s.1)(hs : zbA r k = some s) : AA s.1 := by
 unfold zbA at hs
 split at hs
 ·rename_i h0; exact hk h0 s hs
 ·injection hs with hs; subst hs; exact h
theorem zli : ∀ (f : Nat) {p : PS} (hA : AA p) (hz : NZ p) (hw : WfP p) (hr : ∀ t ∈ p.T,t.wf) {op x a b : Int} {r : RS},opF f p op x a b = some r → AA r.1
 | 0,_,_,_,_,_,_,_,_,_,_,h => by cases h
 | f + 1,p,hA,hz,hw,hr,op,x,a,b,r,h => by
  rw [zbu] at h
  split at h
  ·injection h with h; subst h; exact hA
  rename_i hab;have hab : zal p.T a = true ∧ zal p.T b = true := by simpa using hab
  split at h
  ·injection h with h; subst h; exact hA
  rename_i hd;have hx := (zbE (op := op) (x := x) (by simpa using hd)).1;have hw2 := zbK hw hr (zap hw hab.1) (zap hw hab.2) x;have hz2 := zeS (b := b) hz hw hr (zap hw hab.1) x;have hA2 := ziw (b := b) hA hw hr (zap hw hab.1) x
  split at h
  ·rename_i h0
   have hf := zbb hw hr hab.1 hab.2 h0;have hs := zjf hw hr hz hx hab.1 hab.2 h0;generalize zaj p x a b = z at h hw2 hf hz2 hA2 hs;obtain ⟨p1,a1,b1,e1⟩ := z;dsimp only at h hw2 hf hz2 hA2 hs;have hc : ∀ {n : Int},U64 n → zck p1 (putR p1 (zaf n)) := fun hn => zck.put hw2.1 hw2.2 (zaP hn)
   have hn : ∀ n : Int,NZ (putR p1 (zaf n)).1 := fun n => hz2.putR hw2.1 (by show (0 : Int) ≠ 3; decide)
   have hAn : ∀ n : Int,AA (putR p1 (zaf n)).1 := fun n => hA2.putR hw2.1 (.inl (by show (0 : Int) ≠ 2; decide))
   unfold opL at h;dsimp only at h
   split at h
   ·injection h with h; subst h; exact hAn _
   split at h
   ·exact AA.bind (hAn 0) (fun _ s hs => zli f (hAn 0) (hn 0) (hc zaA).wf (hc zaA).rng hs) h
   split at h
   ·exact zfH f hA2 hw2.1 h
   split at h
   ·have hu : U64 (zao x (IntKind.u64.wrap (-(atP p1.T b1).n))) := zau (wrap_u64 _)
    exact AA.bind (hAn _) (fun _ s hs => zli f (hAn _) (hn _) (hc hu).wf (hc hu).rng hs) h
   split at h
   ·exact zli f hA2 hz2 hw2.1 hw2.2 h
   split at h
   ·have hu : U64 (zao x (IntKind.u64.wrap ((atP p1.T (atP p1.T a1).b).n + (atP p1.T b1).n))) := zau (wrap_u64 _)
    exact AA.bind (hAn _) (fun _ s hs => zli f (hAn _) (hn _) (hc hu).wf (hc hu).rng hs) h
   rename_i hno
   split at h
   ·exact zfH f hA2 hw2.1 h
   split at h
   ·injection h with h; subst h; exact hAn _
   split at h
   ·injection h with h; subst h; exact hAn _
   split at h
   ·exact zfH f hA2 hw2.1 h
   ·injection h with h; subst h
    refine hA2.put hw2.1 fun _ _ h0 hbk => ?_
    show zgp p1.T x (zkg p1.T x a1) = false
    rw [zpY hw2.1 hf.1 hs.1]
    cases hcc : zgp p1.T x a1
    ·rfl
    ·exfalso
     apply hno;have h0 : op = 0 := h0;have hbk : (atP p1.T b1).kind = 0 := hbk;unfold zgp at hcc;simp only [ztr,beq_iff_eq] at hcc;unfold zb5;simp only [ztr,beq_iff_eq];exact ⟨h0,hbk,hcc.2.2.2,hcc.1,hcc.2.1,hcc.2.2.1⟩
  ·injection h with h; subst h; exact hA2
theorem zlj : ∀ (f : Nat) {p : PS} (hA : AA p) (hw : WfP p) (hr : ∀ t ∈ p.T,t.wf) {cc x a b : Int} {r : RS},zdg f p cc x a b = some r → AA r.1
 | 0,_,_,_,_,_,_,_,_,_,h => by cases h
 | f + 1,p,hA,hw,hr,cc,x,a,b,r,h => by
  rw [zby] at h
  split at h
  ·injection h with h; subst h; exact hA
  rename_i hab;have hab : zal p.T a = true ∧ zal p.T b = true := by simpa using hab
  split at h
  ·injection h with h; subst h; exact hA
  have hw2 := zbK hw hr (zap hw hab.1) (zap hw hab.2) x;have hA2 := ziw (b := b) hA hw hr (zap hw hab.1) x
  split at h
  ·generalize zaj p x a b = z at h hw2 hA2
   obtain ⟨p1,a1,b1,e1⟩ := z;dsimp only at h hw2 hA2;have hAn : ∀ n : Int,AA (putR p1 (zaf n)).1 := fun n => hA2.putR hw2.1 (.inl (by show (0 : Int) ≠ 2; decide))
   unfold zeh at h;dsimp only at h
   split at h
   ·injection h with h; subst h; exact hAn _
   split at h
   ·injection h with h; subst h; exact hAn _
   split at h
   ·exact zlj f hA2 hw2.1 hw2.2 h
   split at h
   ·injection h with h; subst h; exact hA2.putR hw2.1 (.inl (by show (4 : Int) ≠ 2; decide))
   ·injection h with h; subst h; exact hA2.putR hw2.1 (.inl (by show (4 : Int) ≠ 2; decide))
  ·injection h with h; subst h; exact hA2
/-! ### Op within the limits -/
structure Rm (p : PS)(k : Nat) : Prop where
 wf : WfP p
 rng : ∀ t ∈ p.T,t.wf
 nz : NZ p
 aa : AA p
 room : p.T.length + k ≤ 4000
theorem Rm.less {p : PS}{j k : Nat}(h : Rm p k)(hj : j ≤ k) : Rm p j := ⟨h.wf,h.rng,h.nz,h.aa,by have := h.room; omega⟩
theorem Rm.const {p : PS}{k : Nat}(h : Rm p (k + 1)){n : Int}(hn : U64 n) : Rm (putR p (zaf n)).1 k ∧ Fit p (putR p (zaf n)) 1 1 ∧ zal (putR p (zaf n)).1.T (putR p (zaf n)).2.1 = true ∧ Ext p (putR p (zaf n)).1 ∧ (atP (putR p (zaf n)).1.T (putR p (zaf n)).2.1).kind = 0 := by
 have hf := zdL h.wf n (by have := h.room; omega);have hg := zck.put h.wf h.rng (zaP hn);have hat := (zfL (p := p) (t := zaf n) hf.err).2;refine ⟨⟨hg.wf,hg.rng,h.nz.putR h.wf (by show (0 : Int) ≠ 3; decide),h.aa.putR h.wf (.inl (by show (0 : Int) ≠ 2; decide)),?_⟩,hf,hg.has hf.err,hg.ext,?_⟩
 ·have := hf.few
  have := h.room;omega
 ·show (atP (zcm p (zaf n)).T (zcP p (zaf n)).1).kind = 0
  rw [hat]
  rfl
theorem Rm.both {p : PS}{k : Nat}(h : Rm p (k + 2)){x a b : Int}(hx : x = 32 ∨ x = 64)(ha : zal p.T a = true)(hb : zal p.T b = true) :
  Rm (zaj p x a b).1 k ∧ (zaj p x a b).2.2.2 = 0 ∧ (zaj p x a b).1.T.length ≤ p.T.length + 2 ∧ Ext p (zaj p x a b).1 ∧
  zal (zaj p x a b).1.T (zaj p x a b).2.1 = true ∧ zal (zaj p x a b).1.T (zaj p x a b).2.2.1 = true ∧
  dpP (zaj p x a b).1 (zaj p x a b).2.1 ≤ dpP p a ∧ dpP (zaj p x a b).1 (zaj p x a b).2.2.1 ≤ dpP p b := by
 have hf := znK h.wf h.rng (x := x) ha hb (by have := h.room; omega);have hc := zbb h.wf h.rng ha hb hf.1;have hw2 := zbK h.wf h.rng (zap h.wf ha) (zap h.wf hb) x;exact ⟨⟨hw2.1,hw2.2,zeS (b := b) h.nz h.wf h.rng (zap h.wf ha) x,ziw (b := b) h.aa h.wf h.rng (zap h.wf ha) x,by have := h.room; have := hf.2.1; omega⟩,hf.1,hf.2.1,zc8 _ _ _ _,hc.1,hc.2.1,hf.2.2.1,hf.2.2.2⟩
theorem zg3 {p : PS}{r s : RS}{k : PS → Int → Option RS}{j m : Nat}{d : Int}(h : Fit p r j 1)(hk : ∀ s,k r.1 r.2.1 = some s → Fit r.1 s m d)(hs : zbA r k = some s) : Fit p s (j + m) d := by
 unfold zbA at hs;rw [if_pos h.err] at hs;exact (hk s hs).from h.few
theorem zpZ {p : PS}{op x a b : Int}(h : zdp op x = true)(ha : zal p.T a = true)(hb : zal p.T b = true) : okP p.T ⟨2,op,x,0,a,b,0⟩ = true := zro h ha hb
theorem zfI {rec : PS → Int → Int → Int → Option RS}{f : Nat}{p : PS}{R : Nat}{op x a b d : Int}{r : RS}(h : Rm p (R + 1))(hd : zdp op x = true)(ha : zal p.T a = true)(hb : zal p.T b = true)(hda : dpP p a + 1 ≤ d ∧ dpP p b + 1 ≤ d ∧ d ≤ 256)
  (h8 : op = 8 → ∀ s,rec (putR p (zaf 0)).1 1 (putR p (zaf 0)).2.1 a = some s → Fit (putR p (zaf 0)).1 s R d)
  (h1 : op = 1 → (atP p.T b).kind = 0 → (atP p.T a).kind ≠ 0 → ∀ n,U64 n → ∀ s,rec (putR p (zaf n)).1 0 a (putR p (zaf n)).2.1 = some s → Fit (putR p (zaf n)).1 s R d)
  (h5 : zaK op = true → ((atP p.T b).kind = 0 → False) → ((atP p.T a).kind = 0 ∨ b < a) → ∀ s,rec p op b a = some s → Fit p s (R + 1) d)
  (h6 : zgp p.T x a = true → op = 0 → (atP p.T b).kind = 0 → ∀ n,U64 n → ∀ s,rec (putR p (zaf n)).1 0 (atP p.T a).a (putR p (zaf n)).2.1 = some s → Fit (putR p (zaf n)).1 s R d)
  (hr : opL rec f p op x a b = some r) : Fit p r (R + 1) d := by
 have hx := (zbE hd).1;have hxw : Wd4 x := by unfold Wd4; omega
 have hda0 := zgo h.wf ha;have hdb0 := zgo h.wf hb;have hroom := h.room;have hc : ∀ n : Int,Fit p (putR p (zaf n)) 1 1 := fun n => zdL h.wf n (by omega)
 have hcd : ∀ n : Int,Fit p (putR p (zaf n)) (R + 1) d := fun n => (hc n).more (by omega) (by omega)
 have hza : ∀ {s : RS},zbw f p x a = some s → Fit p s (R + 1) d := fun q => (zfp f h.wf hxw ha (by omega) (by omega) q).more (by omega) (ztB _)
 have hzb : ∀ {s : RS},zbw f p x b = some s → Fit p s (R + 1) d := fun q => (zfp f h.wf hxw hb (by omega) (by omega) q).more (by omega) (ztB _)
 unfold opL at hr;dsimp only at hr
 split at hr
 ·injection hr with hr; subst hr; exact hcd _
 rename_i c1
 split at hr
 ·rename_i c2
  exact (zg3 (hc 0) (fun s hs => h8 c2 s hs) hr).more (by omega) (ztB _)
 split at hr
 ·exact hzb hr
 split at hr
 ·rename_i c4
  have c4 : op = 1 ∧ (atP p.T b).kind = 0 := by simpa using c4
  have hu : U64 (zao x (IntKind.u64.wrap (-(atP p.T b).n))) := zau (wrap_u64 _);exact (zg3 (hc _) (fun s hs => h1 c4.1 c4.2 (fun q => c1 (by simp [q,c4.2])) _ hu s hs) hr).more (by omega) (ztB _)
 split at hr
 ·rename_i c5
  simp only [ztr,ztP,beq_iff_eq,zui,decide_eq_true_eq,beq_eq_false_iff_ne] at c5;exact h5 c5.1 (fun q => c5.2.elim (fun e => c1 (by simp [q,e])) (fun e => e.1 q)) (c5.2.elim .inl (fun e => .inr e.2)) r hr
 split at hr
 ·rename_i c6
  have c6 := zkh rfl c6;have hu : U64 (zao x (IntKind.u64.wrap ((atP p.T (atP p.T a).b).n + (atP p.T b).n))) := zau (wrap_u64 _);exact (zg3 (hc _) (fun s hs => h6 c6.2.2 c6.1 (by simpa using c6.2.1) _ hu s hs) hr).more (by omega) (ztB _)
 split at hr
 ·exact hza hr
 split at hr
 ·injection hr with hr; subst hr; exact hcd _
 split at hr
 ·injection hr with hr; subst hr; exact hcd _
 split at hr
 ·exact hza hr
 ·injection hr with hr
  subst hr;refine (zfF h.wf (zpZ hd ha hb) (by omega) (by omega) (fun k hk => ?_)).more (by omega) (ztB _);have : k = a ∨ k = b := by unfold zax at hk; simpa using hk
  rcases this with rfl | rfl <;> omega
theorem zjg {p : PS}{k : Nat}{op x a b : Int}{r : RS}{f : Nat}(h : Rm p (k + 2))(hd : zdp op x = true)(ha : zal p.T a = true)(hb : zal p.T b = true)(hr : opF f p op x a b = some r) :
  ∃ g,opL (fun q o u v => opF g q o x u v) g (zaj p x a b).1 op x (zaj p x a b).2.1 (zaj p x a b).2.2.1 = some r := by
 match f,hr with
 | 0,hr => cases hr
 | g + 1,hr =>
  rw [zbu,if_neg (by rw [ha,hb]; simp),if_neg (by rw [hd]; simp),if_pos (h.both (zbE hd).1 ha hb).2.1] at hr;exact ⟨g,hr⟩
theorem znL {p : PS}{k : Nat}(h : Rm p (k + 2)){x a b : Int}(ha : zal p.T a = true)(hb : zal p.T b = true)(hk : (atP p.T a).kind ≠ 0) : (zaj p x a b).2.1 = zkg p.T x a := by
 have h1 := zdu h.wf (x := x) ha (by have := h.room; omega);unfold zaj;dsimp only;rw [if_pos h1.err];show (zah p x a).2.1 = _
 unfold zah zkg;dsimp only;rw [if_neg hk]
 split <;> rfl
theorem zeI {p : PS}{k : Nat}(h : Rm p (k + 2)){x a b : Int}(hx : x = 32 ∨ x = 64)(ha : zal p.T a = true)(hb : zal p.T b = true) :
  ((atP (zaj p x a b).1.T (zaj p x a b).2.1).kind = 0 ↔ (atP p.T a).kind = 0) ∧ ((atP (zaj p x a b).1.T (zaj p x a b).2.2.1).kind = 0 ↔ (atP p.T b).kind = 0) := by
 have hb2 := h.both hx ha hb;have hf := zbb h.wf h.rng ha hb hb2.2.1;have key : ∀ {q : PS} {c : Int},Rm q (k + 1) → zal q.T c = true → (atP (zah q x c).1.T (zah q x c).2.1).kind = 0 → (atP q.T c).kind = 0 := by
  intro q c hq hc hk
  rcases zbe q x c with ⟨k,e⟩ | ⟨k,e⟩ | ⟨k,e⟩
  ·exact k
  ·rw [e] at hk
   exact absurd hk (hq.nz c hc k).1
  ·rw [e] at hk
   exact hk
 refine ⟨⟨fun q => ?_,hf.2.2.2.2.1⟩,⟨fun q => ?_,hf.2.2.2.2.2⟩⟩
 all_goals
  have h1 := zdu h.wf (x := x) ha (by have := h.room; omega);have w1 := zbq h.wf h.rng (zap h.wf ha) x;have e1 := zaT p x a;have q1 : Rm (zah p x a).1 (k + 1) := ⟨w1.2.1,w1.2.2,zeR h.nz h.wf x a,zeH h.aa h.wf x a,by have := h1.few; have := h.room; omega⟩;have f1 := zcM h.wf ha h1.err;unfold zaj at q;dsimp only at q;rw [if_pos h1.err] at q;dsimp only at q
 ·rw [(zaT (zah p x a).1 x b).at_ f1.1] at q
  exact key (h.less (by omega)) ha q
 ·rw [← e1.at_ hb]
  exact key q1 (e1.has hb) q
theorem zlk {p : PS}{x a b d : Int}{r : RS}{f : Nat}(h : Rm p 3)(hx : x = 32 ∨ x = 64)(ha : zal p.T a = true)(hb : zal p.T b = true)(hd : dpP p a + 1 ≤ d ∧ dpP p b + 1 ≤ d ∧ d ≤ 256)(hbk : (atP p.T b).kind = 0)(hno : zgp p.T x (zkg p.T x a) = false)(hr : opF f p 0 x a b = some r) : Fit p r 3 d := by
 have hdo : zdp 0 x = true := by unfold zdp zcb; rcases hx with rfl | rfl <;> rfl
 obtain ⟨g,hr⟩ := zjg (k := 1) h hdo ha hb hr;obtain ⟨q1,q2,q3,q4,q5,q6,q7,q8⟩ := h.both (k := 1) hx ha hb;have hk := zeI (k := 1) h hx ha hb;have hs : (atP p.T a).kind ≠ 0 → zgp (zaj p x a b).1.T x (zaj p x a b).2.1 = false := fun hk0 => by
  rw [znL (k := 1) h ha hb hk0,zdY h.wf q4 x (zfG h.wf x ha)];exact hno
 generalize zaj p x a b = z at *;obtain ⟨p1,a1,b1,e1⟩ := z;dsimp only at *;refine (zfI (R := 0) q1 hdo q5 q6 (by omega) (fun e => by omega) (fun e => by omega) (fun _ e _ => (e (hk.2.2 hbk)).elim) (fun e _ _ => ?_) hr).from q3
 exfalso
 by_cases hk0 : (atP p.T a).kind = 0
 ·have := hk.1.2 hk0
  unfold zgp at e;simp only [ztr,beq_iff_eq] at e;omega
 ·rw [hs hk0] at e
  cases e
theorem zll {p : PS}{x a b d : Int}{r : RS}{f : Nat}(h : Rm p 6)(hx : x = 32 ∨ x = 64)(ha : zal p.T a = true)(hb : zal p.T b = true)(hd : dpP p a + 1 ≤ d ∧ dpP p b + 1 ≤ d ∧ d ≤ 256)(hbk : (atP p.T b).kind = 0)(hr : opF f p 0 x a b = some r) : Fit p r 6 d := by
 have hdo : zdp 0 x = true := by unfold zdp zcb; rcases hx with rfl | rfl <;> rfl
 obtain ⟨g,hr⟩ := zjg (k := 4) h hdo ha hb hr;obtain ⟨q1,q2,q3,q4,q5,q6,q7,q8⟩ := h.both (k := 4) hx ha hb;have hk := zeI (k := 4) h hx ha hb;generalize zaj p x a b = z at *;obtain ⟨p1,a1,b1,e1⟩ := z;dsimp only at *;refine (zfI (R := 3) q1 hdo q5 q6 (by omega) (fun e => by omega) (fun e => by omega) (fun _ e _ => (e (hk.2.2 hbk)).elim) (fun e _ _ n hn s hs => ?_) hr).from q3
 have hk2 : (atP p1.T a1).kind = 2 := by unfold zgp at e; simp at e; exact e.1
 have hm : (atP p1.T a1).a ∈ zax (atP p1.T a1) := by unfold zax; rw [if_pos (.inl hk2)]; simp
 have hpa := zdy q1.wf q5 hm;have hpd := zfE q1.wf q5 hm;obtain ⟨c1,c2,c3,c4,c5⟩ := q1.const (k := 3) hn;have hdc := c4.dp q1.wf c1.wf hpa;refine zlk c1 hx (c4.has hpa) c3 (by have := c2.low; have := (zgo q1.wf hpa).1; omega) c5 ?_ hs;rw [zg2 c4 x hpa,zdY q1.wf c4 x (zfG q1.wf x hpa)];exact q1.aa a1 x q5 e
theorem zp0 {p : PS}{x a b d : Int}{r : RS}{f : Nat}(h : Rm p 3)(hx : x = 32 ∨ x = 64)(ha : zal p.T a = true)(hb : zal p.T b = true)(hd : dpP p a + 1 ≤ d ∧ dpP p b + 1 ≤ d ∧ d ≤ 256)(hak : (atP p.T a).kind = 0)(hr : opF f p 1 x a b = some r) : Fit p r 3 d := by
 have hdo : zdp 1 x = true := by unfold zdp zcb; rcases hx with rfl | rfl <;> rfl
 obtain ⟨g,hr⟩ := zjg (k := 1) h hdo ha hb hr;obtain ⟨q1,q2,q3,q4,q5,q6,q7,q8⟩ := h.both (k := 1) hx ha hb;have hk := zeI (k := 1) h hx ha hb;generalize zaj p x a b = z at *;obtain ⟨p1,a1,b1,e1⟩ := z;dsimp only at *;exact (zfI (R := 0) q1 hdo q5 q6 (by omega) (fun e => by omega) (fun _ _ e => (e (hk.1.2 hak)).elim) (fun e => by cases e) (fun _ e => by omega) hr).from q3
theorem zp1 {p : PS}{op x a b d : Int}{r : RS}{f : Nat}(h : Rm p 6)(hdo : zdp op x = true)(ht : zaK op = true)(ha : zal p.T a = true)(hb : zal p.T b = true)(hsa : zah p x a = (p,a,0))(hsb : zah p x b = (p,b,0))(hd : dpP p a + 1 ≤ d ∧ dpP p b + 1 ≤ d ∧ d ≤ 256)
  (hno : (atP p.T b).kind ≠ 0 → (atP p.T a).kind ≠ 0 ∧ ¬ b < a) (hr : opF f p op x a b = some r) : Fit p r 6 d := by
 have hx := (zbE hdo).1
 match f,hr with
 | 0,hr => cases hr
 | g + 1,hr =>
  rw [zrR ha hb hdo hsa hsb] at hr;have htc := zfO ht;refine zfI (R := 5) h hdo ha hb hd (fun e => by omega) (fun e => by omega) (fun _ e1 e2 s _ => ?_) (fun e _ hbk n hn s hs => ?_) hr
  ·have := hno e1
   rcases e2 with e2 | e2
   ·exact absurd e2 this.1
   ·exact absurd e2 this.2
  have hk2 : (atP p.T a).kind = 2 := by unfold zgp at e; simp at e; exact e.1
  have hm : (atP p.T a).a ∈ zax (atP p.T a) := by unfold zax; rw [if_pos (.inl hk2)]; simp
  have hpa := zdy h.wf ha hm;have hpd := zfE h.wf ha hm;obtain ⟨c1,c2,c3,c4,c5⟩ := h.const (k := 5) hn;have hdc := c4.dp h.wf c1.wf hpa;refine (zlk (c1.less (by omega)) hx (c4.has hpa) c3 (by have := c2.low; have := (zgo h.wf hpa).1; omega) c5 ?_ hs).more (by omega) (ztB _);rw [zg2 c4 x hpa,zdY h.wf c4 x (zfG h.wf x hpa)];exact h.aa a x ha e
theorem zrf {p : PS}{op x a b d : Int}{r : RS}{f : Nat}(h : Rm p 12)(hdo : zdp op x = true)(ha : zal p.T a = true)(hb : zal p.T b = true)(hd : dpP p a + 1 ≤ d ∧ dpP p b + 1 ≤ d ∧ d ≤ 256)(hr : opF f p op x a b = some r) : Fit p r 12 d := by
 have hx := (zbE hdo).1;obtain ⟨g,hr⟩ := zjg (k := 10) h hdo ha hb hr;obtain ⟨q1,q2,q3,q4,q5,q6,q7,q8⟩ := h.both (k := 10) hx ha hb;have hs := zjf h.wf h.rng h.nz hx ha hb q2;generalize zaj p x a b = z at *;obtain ⟨p1,a1,b1,e1⟩ := z;dsimp only at *;have hd1 := zgo q1.wf q5;have hd2 := zgo q1.wf q6;refine (zfI (R := 9) q1 hdo q5 q6 (d := d) (by omega) (fun e s hs => ?_) (fun e hbk hak n hn s hs => ?_) (fun ht e1 e2 s hs' => ?_) (fun e _ hbk n hn s hs => ?_) hr).from q3
 ·obtain ⟨c1,c2,c3,c4,c5⟩ := q1.const (k := 9) zaA
  have hdc := c4.dp q1.wf c1.wf q5;exact (zp0 (c1.less (by omega)) hx c3 (c4.has q5) (by have := c2.low; omega) c5 hs).more (by omega) (ztB _)
 ·obtain ⟨c1,c2,c3,c4,c5⟩ := q1.const (k := 9) hn
  have hdc := c4.dp q1.wf c1.wf q5;exact (zll (c1.less (by omega)) hx (c4.has q5) c3 (by have := c2.low; omega) c5 hs).more (by omega) (ztB _)
 ·refine (zp1 (q1.less (by omega)) hdo ht q6 q5 hs.2 hs.1 (by omega) (fun hk => ⟨e1,fun hlt => ?_⟩) hs').more (by omega) (ztB _)
  rcases e2 with e2 | e2
  ·exact hk e2
  ·omega
 ·have hk2 : (atP p1.T a1).kind = 2 := by unfold zgp at e; simp at e; exact e.1
  have hm : (atP p1.T a1).a ∈ zax (atP p1.T a1) := by unfold zax; rw [if_pos (.inl hk2)]; simp
  have hpa := zdy q1.wf q5 hm;have hpd := zfE q1.wf q5 hm;obtain ⟨c1,c2,c3,c4,c5⟩ := q1.const (k := 9) hn;have hdc := c4.dp q1.wf c1.wf hpa;exact (zll (c1.less (by omega)) hx (c4.has hpa) c3 (by have := c2.low; have := (zgo q1.wf hpa).1; omega) c5 hs).more (by omega) (ztB _)
/-! ### Cond within the limits -/
theorem zjh {p : PS}{k : Nat}{cc x a b : Int}{r : RS}{f : Nat}(h : Rm p (k + 2))(hd : zaW cc x = true)(ha : zal p.T a = true)(hb : zal p.T b = true)(hr : zdg f p cc x a b = some r) :
  ∃ g,zeh (fun q o u v => zdg g q o x u v) (zaj p x a b).1 cc x (zaj p x a b).2.1 (zaj p x a b).2.2.1 = some r := by
 match f,hr with
 | 0,hr => cases hr
 | g + 1,hr =>
  rw [zby,if_neg (by rw [ha,hb]; simp),if_neg (by rw [hd]; simp),if_pos (h.both (za7 hd).1 ha hb).2.1] at hr;exact ⟨g,hr⟩
theorem zhD {rec : PS → Int → Int → Int → Option RS}{p : PS}{R : Nat}{cc x a b d : Int}{r : RS}(h : Rm p (R + 1))(hd : zaW cc x = true)(ha : zal p.T a = true)(hb : zal p.T b = true)(hda : dpP p a + 1 ≤ d ∧ dpP p b + 1 ≤ d ∧ d ≤ 256)
  (h5 : zbO cc = true → ∀ s,rec p (zc1 cc) b a = some s → Fit p s (R + 1) d) (hr : zeh rec p cc x a b = some r) : Fit p r (R + 1) d := by
 have hda0 := zgo h.wf ha;have hroom := h.room;have hcd : ∀ n : Int,Fit p (putR p (zaf n)) (R + 1) d := fun n => (zdL h.wf n (by omega)).more (by omega) (by omega)
 have hpu : ∀ {u v : Int},zal p.T u = true → zal p.T v = true → dpP p u + 1 ≤ d → dpP p v + 1 ≤ d → Fit p (putR p ⟨4,cc,x,0,u,v,0⟩) (R + 1) d := fun {u v} hu hv d1 d2 =>
  (zfF h.wf (zn5 hd hu hv) (by omega) (by omega) (fun k hk => by
   have : k = u ∨ k = v := by
    have e : zax (zht cc x u v) = [u,v] := rfl;rw [e] at hk
    simpa using hk
   rcases this with rfl | rfl <;> omega)).more (by omega) (ztB _)
 unfold zeh at hr;dsimp only at hr
 split at hr
 ·injection hr with hr; subst hr; exact hcd _
 split at hr
 ·injection hr with hr; subst hr; exact hcd _
 split at hr
 ·rename_i c; exact h5 c r hr
 split at hr
 ·injection hr with hr; subst hr; exact hpu hb ha (by omega) (by omega)
 ·injection hr with hr; subst hr; exact hpu ha hb (by omega) (by omega)
theorem zlm {cc x : Int}(h : zbO cc = true)(hd : zaW cc x = true) : zbO (zc1 cc) = false ∧ zaW (zc1 cc) x = true := by
 have hy := za7 hd;unfold zbO at h;simp only [ztP,beq_iff_eq] at h;unfold zaW at hd ⊢
 rcases h with rfl | rfl | rfl | rfl
 all_goals
  refine ⟨rfl,?_⟩;simp only [ztr] at hd ⊢;exact ⟨rfl,rfl,hd.2.2⟩
theorem znM {p : PS}{cc x a b d : Int}{r : RS}{f : Nat}(h : Rm p 6)(hdo : zaW cc x = true)(ha : zal p.T a = true)(hb : zal p.T b = true)(hd : dpP p a + 1 ≤ d ∧ dpP p b + 1 ≤ d ∧ d ≤ 256)(hr : zdg f p cc x a b = some r) : Fit p r 6 d := by
 have hx := (za7 hdo).1;obtain ⟨g,hr⟩ := zjh (k := 4) h hdo ha hb hr;obtain ⟨q1,q2,q3,q4,q5,q6,q7,q8⟩ := h.both (k := 4) hx ha hb;generalize zaj p x a b = z at *;obtain ⟨p1,a1,b1,e1⟩ := z;dsimp only at *;refine (zhD (R := 3) q1 hdo q5 q6 (d := d) (by omega) (fun ht s hs => ?_) hr).from q3
 have ht2 := zlm ht hdo;obtain ⟨g2,hs⟩ := zjh (k := 2) q1 ht2.2 q6 q5 hs;obtain ⟨u1,u2,u3,u4,u5,u6,u7,u8⟩ := q1.both (k := 2) hx q6 q5;generalize zaj p1 x b1 a1 = z at *;obtain ⟨p2,a2,b2,e2⟩ := z;dsimp only at *;exact ((zhD (R := 0) (u1.less (by omega)) ht2.2 u5 u6 (d := d) (by omega) (fun ht s _ => by rw [ht2.1] at ht; cases ht) hs).from u3).more (by omega) (ztB _)
end
section
section
variable {base g b : Nat}{F G F1 G1 : Nat → Prop}{m : SM}{ex : ExD}{w : World}
theorem zea {n : Int}(h : -9223372036854775808 ≤ n ∧ n < 9223372036854775808) : IntKind.i64.wrap n = n := by rw [IntKind.wrap_i64]; omega
theorem zji (h : MA base g b F G m ex w)(x : Int)(hx : I8 x) : Calls prog 77 #[.pointer (some ⟨b,0,none⟩),.int .i8 x] w (zsn base g b G ex w (m.next x)) := by
 obtain ⟨A,c,c12,hev⟩ := h.evs;have hn := zj7 m.evs m.evs.length;have hfew := h.few;obtain ⟨n,hbn⟩ : ∃ n,zat m.evs = n := ⟨_,rfl⟩;have hn64 : n ≤ 64 := by
  rw [← hbn,show zat m.evs = brT m.evs m.evs.length by unfold brT; rw [List.take_length]];omega
 have hb0 : base ≤ w.heap.size := zto (h.low b h.nb.2).1 (ztu h.lt);obtain ⟨r,hr⟩ : ∃ r,putR m.p (zdJ (38 + 3 * (n : Int)) x) = r := ⟨_,rfl⟩;have HV := Hd (fun (W : World) (F : Nat → Prop) (hW : zam W base F g m.p) (hb : base ≤ W.heap.size) => by have := zmk (38 + 3 * (n : Int)) x (by omega) (by omega) hx W hW hb; rw [hr] at this; exact this)
 have HRN := Hd (show I64 r.2.1 by rw [← hr]; exact zaY h.pool.wf _)
 have HNX := Hd (show m.next x = m.keep r by unfold SM.next; rw [hbn,hr])
 obtain ⟨rp,rn,re⟩ := r;dsimp only at HV HRN;have HM := Hd (MG.of_below h ((Below.refl _ _).drew))
 have HT := Hd (show MT b g m.regs w.drew from h.mt)
 have HS := Hd (show w.drew.cell? ⟨b,12,none⟩ = some (.slice A m.evs.length c) from c12)
 have HEV := Hd (show zbt w.drew (fun _ => False) (.slice A m.evs.length c) m.evs from hev)
 have HFEW := Hd hfew
 have HBN := Hd hbn
 clear h hev hbn c12 hx hn hfew hr;go_enter func77,ntmps77;go_wp2;refine zac (MT b g m.regs) (fun w' => w'.cell? ⟨b,12,none⟩ = some (.slice A m.evs.length c)) [10,14,17] (by kernel_rfl) ?_;generalize w.drew = Wd at HM HT HS HEV ⊢;refine em 0 (.pointer (some ⟨b,0,none⟩)) (bS HT HS) ?_;refine em 1 (.pointer (some ⟨b,0,none⟩)) (bS HT HS) ?_;refine ez 2 ⟨b,0,none⟩ (bS HT HS) ?_;refine ef 3 ⟨b,0,none⟩ ⟨b,0,none⟩ (bS HT HS) ?_;refine el false 4 ⟨b,0,none⟩ (.pointer (some ⟨g,0,none⟩)) underlying50 (fun w hS => hS.1.1) (bS HT HS) ?_;refine em 5 (.pointer (some ⟨b,0,none⟩)) (bS HT HS) ?_;refine ez 6 ⟨b,0,none⟩ (bS HT HS) ?_;refine ef 7 ⟨b,0,none⟩ ⟨b,1,none⟩ (bS HT HS) ?_;refine ef 8 ⟨b,1,none⟩ ⟨b,12,none⟩ (bS HT HS) ?_;refine el true 9 ⟨b,12,none⟩ (.slice A m.evs.length c) underlying61 (fun w hS => (hS.2 rfl)) (bS HT HS) ?_;refine em 13 (.int .i8 x) (bS HT HS) ?_;refine ec 10 (zk5 _ _ _ _ _ HEV.out HFEW.out) ?_;rintro e wq ⟨rfl,hbq⟩;replace HM := Hd (HM.out.step hbq)
 replace HT := Hd HM.out.at_.mt
 clear hbq HEV HS;refine ek (.after HT.out (by kernel_rfl)) ?_;rw [HBN.out];refine eb 11 (.int .i64 (3 * (n : Int))) rfl (fun o e w _ => by unfold execOp; simp only [e]; go_simp; rw [zea (by omega)]) (.after HT.out (by kernel_rfl)) ?_;refine eb 12 (.int .i64 (38 + 3 * (n : Int))) rfl (fun o e w _ => by unfold execOp; simp only [e]; go_simp; rw [zea (by omega)]) (.after HT.out (by kernel_rfl)) ?_;refine ec 14 (HV.out _ _ HM.out.at_.pool (zto hb0 HM.out.size)) ?_;rintro e wq ⟨rfl,Fq,hpq⟩;replace HM := Hd (HM.out.trans (HM.out.at_.pg hpq))
 replace HT := Hd HM.out.at_.mt
 clear hpq;refine ek (.after HT.out (by kernel_rfl)) ?_;refine eg 15 (.int .i64 rn) (.after HT.out (by kernel_rfl)) ?_;refine eg 16 (.int .i64 re) (.after HT.out (by kernel_rfl)) ?_;refine ec 17 (zde HM.out.at_ (rn) (re) HRN.out) ?_;rintro e wq ⟨rfl,_,Fq,Gq,hmq⟩;replace HM := Hd (HM.out.trans hmq)
 replace HT := Hd HM.out.at_.mt
 clear hmq;refine ek (.after HT.out (by kernel_rfl)) ?_;refine eS 18 (.int .i64 (rn)) (.after HT.out (by kernel_rfl)) ?_;refine zab (by kernel_rfl) ?_ _;go_wp2;go_ret;rw [HNX.out];exact ⟨rfl,HRN.out,_,_,HM.out⟩
theorem zln (h : MA base g b F G m ex w)(n : Int) : I64 (m.num n).2 := zaY h.pool.wf _
theorem zlo (h : MA base g b F G m ex w)(n : Int) : WfP (m.num n).1.p ∧ ∀ t ∈ (m.num n).1.p.T,t.wf := zb0 h.pool.wf h.pool.rng (zaP (wrap_u64 n))
theorem zhE (h : MA base g b F G m ex w)(r off : Int){d : Nat}(hr : r = (d : Int))(hd : d < 11)(ho : I64 off) : Calls prog 76 #[.pointer (some ⟨b,0,none⟩),.int .i8 r,.int .i64 off] w (zsn base g b G ex w (m.place r off)) := by
 have hb0 : base ≤ w.heap.size := zto (h.low b h.nb.2).1 (ztu h.lt);have HRD := Hd hr
 have hri := h.reg_i64 hd;have hrr : m.reg r = m.regs.getD d 0 := by unfold SM.reg; rw [hr,ztx]
 clear hr;obtain ⟨q,hq⟩ : ∃ q,m.num off = q := ⟨_,rfl⟩;have HN := Hd (fun (W : World) (F G : Nat → Prop) (hW : MA base g b F G m ex W) => by have := zdX hW (off) ho; rw [hq] at this; exact this)
 have hqw : WfP q.1.p ∧ ∀ t ∈ q.1.p.T,t.wf := by rw [← hq]; exact zlo h off
 have hqi : I64 q.2 := by rw [← hq]; exact zln h off
 have HRQ := Hd (show q.1.regs = m.regs by rw [← hq]; rfl)
 obtain ⟨rs,hr⟩ : ∃ r,opV q.1.p 0 64 (m.regs.getD d 0) q.2 = r := ⟨_,rfl⟩;have HO := Hd (fun (W : World) (F : Nat → Prop) (hW : zam W base F g q.1.p) (hb : base ≤ W.heap.size) => by obtain ⟨f,hf⟩ := zbV hW.wf hW.rng 0 64 (m.regs.getD d 0) q.2; rw [hr] at hf; exact zmV f 0 64 (m.regs.getD d 0) q.2 hri hqi F q.1.p rs hf W hW hb)
 have HON := Hd (show I64 rs.2.1 by rw [← hr]; exact ze1 hqw.1 hqw.2 _ _ _ _)
 have HNX := Hd (show m.place r off = q.1.keep rs by unfold SM.place; rw [hq,hrr,hr])
 obtain ⟨mq,nq⟩ := q;obtain ⟨rp,rn,re⟩ := rs;dsimp only at HN HRQ HO HON;have HM := Hd (MG.of_below h ((Below.refl _ _).drew))
 have HT := Hd (show MT b g m.regs w.drew from h.mt)
 have HD := Hd hd
 clear h hd ho hq hr hqi hqw hri hrr;go_enter func76,ntmps76;go_wp2;refine zac (fun _ => True) (MT b g m.regs) [] (by kernel_rfl) ?_;generalize w.drew = Wd at HM HT ⊢;refine em 0 (.pointer (some ⟨b,0,none⟩)) (.both trivial HT.out) ?_;refine em 1 (.pointer (some ⟨b,0,none⟩)) (.both trivial HT.out) ?_;refine ez 2 ⟨b,0,none⟩ (.both trivial HT.out) ?_;refine ef 3 ⟨b,0,none⟩ ⟨b,0,none⟩ (.both trivial HT.out) ?_;refine el true 4 ⟨b,0,none⟩ (.pointer (some ⟨g,0,none⟩)) underlying50 (fun w hS => (hS.2 rfl).1) (.both trivial HT.out) ?_;refine em 5 (.pointer (some ⟨b,0,none⟩)) (.both trivial HT.out) ?_;refine em 6 (.int .i8 r) (.both trivial HT.out) ?_;refine ez 7 ⟨b,0,none⟩ (.both trivial HT.out) ?_;refine ef 8 ⟨b,0,none⟩ ⟨b,1,none⟩ (.both trivial HT.out) ?_;refine ef 9 ⟨b,1,none⟩ ⟨b,1,none⟩ (.both trivial HT.out) ?_;refine ej 10 (.pointer (some ⟨b,1,none⟩)) (.int .i8 r) (.pointer (some ⟨b,1 + d,none⟩)) (zbW b HRD.out HD.out) (.both trivial HT.out) ?_;refine el true 11 ⟨b,1 + d,none⟩ (.int .i64 (m.regs.getD d 0)) underlying3 (fun w hS => ((hS.2 rfl).2 d HD.out)) (.both trivial HT.out) ?_;refine em 12 (.pointer (some ⟨b,0,none⟩)) (.both trivial HT.out) ?_;refine em 13 (.int .i64 off) (.both trivial HT.out) ?_;refine ec 14 (HN.out _ _ _ HM.out.at_) ?_;rintro e wq ⟨rfl,_,Fq,Gq,hmq⟩;replace HM := Hd (HM.out.trans hmq)
 replace HT := Hd (show MT b g m.regs wq from HRQ.out ▸ HM.out.at_.mt)
 clear hmq;refine ek (.both trivial HT.out) ?_;refine ec 15 (HO.out _ _ HM.out.at_.pool (zto hb0 HM.out.size)) ?_;rintro e wq ⟨rfl,Fq,hpq⟩;replace HM := Hd (HM.out.trans (HM.out.at_.pg hpq))
 replace HT := Hd (show MT b g m.regs wq from HRQ.out ▸ HM.out.at_.mt)
 clear hpq;refine ek (.both trivial HT.out) ?_;refine eg 16 (.int .i64 rn) (.both trivial HT.out) ?_;refine eg 17 (.int .i64 re) (.both trivial HT.out) ?_;refine ec 18 (zde HM.out.at_ (rn) (re) HON.out) ?_;rintro e wq ⟨rfl,_,Fq,Gq,hmq⟩;replace HM := Hd (HM.out.trans hmq)
 replace HT := Hd (show MT b g m.regs wq from HRQ.out ▸ HM.out.at_.mt)
 clear hmq;refine ek (.both trivial HT.out) ?_;refine eS 19 (.int .i64 (rn)) (.both trivial HT.out) ?_;refine zab (by kernel_rfl) ?_ _;go_wp2;go_ret;rw [HNX.out];exact ⟨rfl,HON.out,_,_,HM.out⟩
end
end
section
section
variable {base g b : Nat}{F G F1 G1 : Nat → Prop}{m : SM}{ex : ExD}{w : World}
theorem zgz {m : SM}{x : ID}(h : x.byReg = true) : m.second x = (m,m.reg x.src) := by unfold SM.second; rw [if_pos h]
theorem zeJ {m : SM}{x : ID}(h : x.byReg = false)(h2 : ¬ (x.kind = 0 ∧ zai x.op = true)) : m.second x = m.num x.imm := by unfold SM.second; rw [if_neg (by rw [h]; simp),if_neg h2]
theorem zdZ {m : SM}{x : ID}(h : x.byReg = false)(h2 : x.kind = 0 ∧ zai x.op = true) : m.second x = m.num (bits .and .i64 x.imm (x.width - 1)) := by unfold SM.second; rw [if_neg (by rw [h]; simp),if_pos h2]
theorem zg4 (a b : Int) : I64 (bits .and .i64 a b) := by
 have h1 := bits_lo_i64 .and a b;have h2 := bits_hi_i64 .and a b;unfold I64;omega
theorem zeK (h : MA base g b F G m ex w)(x : ID)(hx : x.wf)(hs : x.byReg = true → 0 ≤ x.src ∧ x.src ≤ 10)(hwd : -128 < x.width) :
  Calls prog 75 #[.pointer (some ⟨b,0,none⟩),.agg x.cells.toArray] w (zsn base g b G ex w (m.second x)) := by
 obtain ⟨k,op,wd,sz,br,dst,src,off,imm⟩ := x;show Calls prog 75 #[.pointer (some ⟨b,0,none⟩),.agg #[.int .i8 k,.int .i8 op,.int .i8 wd,.int .i8 sz,.bool br,.int .i8 dst,.int .i8 src,.int .i64 off,.int .i64 imm]] w _
 dsimp only at hs hwd;have hbl := (Below.refl w.heap.size w).alloc (ztn _) (.cells #[.int .i8 k,.int .i8 op,.int .i8 wd,.int .i8 sz,.bool br,.int .i8 dst,.int .i8 src,.int .i64 off,.int .i64 imm] 47);have HM := Hd (MG.of_below h hbl)
 have HIM := Hd (show I64 imm from hx.2.2.2.2.2.2.2)
 have hwd2 : wd < 128 := hx.2.1.2 |> fun _ => hx.2.2.1.2
 have HX := Hd hx
 cases br
 ·have HN := Hd (show False → True from fun _ => trivial)
  clear h hx hbl hs;have leaf : ∀ v : Int,I64 v → m.second ⟨k,op,wd,sz,false,dst,src,off,imm⟩ = m.num v → ∀ (w2 : World) (F2 G2 : Nat → Prop) (e : Ending),True := fun _ _ _ _ _ _ _ => trivial
  clear leaf HN
  cases hk : (k != 0)
  ·have hk0 : k = 0 := by simpa using hk
   cases h6 : (op == 6)
   ·cases h7 : (op == 7)
    ·cases h12 : (op == 12)
     ·have HNX := Hd (zeJ (m := m) (x := ⟨k,op,wd,sz,false,dst,src,off,imm⟩) rfl (fun q => by have := q.2; unfold zai at this; dsimp only at this; rw [h6,h7,h12] at this; cases this))
      clear hk0;go_enter func75,ntmps75;go_wp2_with fail
      refine (zdX HM.out.at_ imm HIM.out).mono ?_;rintro e w2 ⟨rfl,hi,F2,G2,hm2⟩;have HM2 := Hd (HM.out.trans hm2)
      have HI := Hd hi
      clear hm2 hi;go_wp2;go_ret;rw [HNX.out];exact ⟨rfl,HI.out,_,_,HM2.out⟩
     ·have HNX := Hd (zdZ (m := m) (x := ⟨k,op,wd,sz,false,dst,src,off,imm⟩) rfl ⟨hk0,by unfold zai; dsimp only; rw [h12]; simp⟩)
      clear hk0;go_enter func75,ntmps75;go_wp2_with fail
      refine (zdX HM.out.at_ (bits .and .i64 imm (wd - 1)) (zg4 _ _)).mono ?_;rintro e w2 ⟨rfl,hi,F2,G2,hm2⟩;have HM2 := Hd (HM.out.trans hm2)
      have HI := Hd hi
      clear hm2 hi;go_wp2;go_ret;rw [HNX.out];exact ⟨rfl,HI.out,_,_,HM2.out⟩
    ·have HNX := Hd (zdZ (m := m) (x := ⟨k,op,wd,sz,false,dst,src,off,imm⟩) rfl ⟨hk0,by unfold zai; dsimp only; rw [h7]; simp⟩)
     clear hk0;go_enter func75,ntmps75;go_wp2_with fail
     refine (zdX HM.out.at_ (bits .and .i64 imm (wd - 1)) (zg4 _ _)).mono ?_;rintro e w2 ⟨rfl,hi,F2,G2,hm2⟩;have HM2 := Hd (HM.out.trans hm2)
     have HI := Hd hi
     clear hm2 hi;go_wp2;go_ret;rw [HNX.out];exact ⟨rfl,HI.out,_,_,HM2.out⟩
   ·have HNX := Hd (zdZ (m := m) (x := ⟨k,op,wd,sz,false,dst,src,off,imm⟩) rfl ⟨hk0,by unfold zai; dsimp only; rw [h6]; simp⟩)
    clear hk0;go_enter func75,ntmps75;go_wp2_with fail
    refine (zdX HM.out.at_ (bits .and .i64 imm (wd - 1)) (zg4 _ _)).mono ?_;rintro e w2 ⟨rfl,hi,F2,G2,hm2⟩;have HM2 := Hd (HM.out.trans hm2)
    have HI := Hd hi
    clear hm2 hi;go_wp2;go_ret;rw [HNX.out];exact ⟨rfl,HI.out,_,_,HM2.out⟩
  ·have HNX := Hd (zeJ (m := m) (x := ⟨k,op,wd,sz,false,dst,src,off,imm⟩) rfl (fun q => by have := q.1; dsimp only at this; rw [this] at hk; cases hk))
   go_enter func75,ntmps75;go_wp2_with fail
   refine (zdX HM.out.at_ imm HIM.out).mono ?_;rintro e w2 ⟨rfl,hi,F2,G2,hm2⟩;have HM2 := Hd (HM.out.trans hm2)
   have HI := Hd hi
   clear hm2 hi;go_wp2;go_ret;rw [HNX.out];exact ⟨rfl,HI.out,_,_,HM2.out⟩
 ·have hsr := hs rfl
  obtain ⟨d,rfl⟩ : ∃ d : Nat,src = (d : Int) := ⟨src.toNat,by omega⟩;have hd : d < 11 := by omega
  have HNX := Hd (zgz (m := m) (x := ⟨k,op,wd,sz,true,dst,(d : Int),off,imm⟩) rfl)
  have cr := h.creg hd;have hi := Hd (h.reg_i64 hd)
  have hbw := h.lt;obtain ⟨rv,hrv⟩ : ∃ v,m.regs.getD d 0 = v := ⟨_,rfl⟩;rw [hrv] at cr hi;have HRV := Hd hrv
  clear h hx hbl hs hrv hsr;go_enter func75,ntmps75;go_upto_region 6 with fail
  go_region
  go_wp2;go_ret;rw [HNX.out];exact ⟨by unfold SM.reg; rw [show ((d : Int)).toNat = d by omega,HRV.out]; rfl,by unfold SM.reg; rw [show ((d : Int)).toNat = d by omega,HRV.out]; exact hi.out,_,_,HM.out.step ((Below.refl _ _).drew)⟩
end
end
section
theorem DA.mt {base g b : Nat}{F G : Nat → Prop}{m : SM}{ex : ExD}{w : World}(h : DA base g b F G m ex w) : MT b g m.regs w := ⟨h.cp,fun d hd => h.creg hd⟩
theorem DA.evs {base g b : Nat}{F G : Nat → Prop}{m : SM}{ex : ExD}{w : World}(h : DA base g b F G m ex w) : ∃ A c,w.cell? ⟨b,12,none⟩ = some (.slice A m.evs.length c) ∧ zbt w (fun _ => False) (.slice A m.evs.length c) m.evs := by
 obtain ⟨es,q,hes,_,hown,hq,hqw,_⟩ := h.ces;obtain ⟨A,c,rfl,hc,hR⟩ := za5.of_own (F := fun _ => False) hown (fun _ _ q => q);exact ⟨A,c,hes,A,c,q,rfl,hc,hq,hR,fun p hp => ⟨(hqw p hp).1,(hqw p hp).2.chg (H := fun _ => False) (Chg.refl _ w) (fun _ q => q.elim) (fun _ q => q.elim)⟩⟩
theorem zix (A : Option Addr)(n c : Nat)(l : List EvD)(w : World)(h : zbt w (fun _ => False) (.slice A n c) l)(hn : n ≤ 64) :
  Calls prog 25 #[.slice A n c] w fun e w' => e = .returned (.int .i64 (zat l : Int)) ∧ Below w.heap.size w w' := by
 have hl : l.length = n := by
  obtain ⟨A',c',h1,_⟩ := h.form;injection h1 with _ h1
  exact h1.symm
 have HL := Hd hl
 have HE := Hd h
 clear h hl;go_enter func25,ntmps25;go_wp2;go_loopw [3,4] (fun v i wr => ∃ k : Nat,k ≤ n ∧ i = .int .i64 k ∧ v = .int .i64 (brT l k : Int) ∧ Hid (Below w.heap.size w wr)) (fun _ i _ => n - (intOf i).toNat)
 case atStart => exact ⟨0,by omega,rfl,rfl,Below.refl _ _⟩
 case round =>
  obtain ⟨k,hk,rfl,rfl,HB⟩ := hrel
  rename World => wr
  by_cases hlt : k < n
  ·obtain ⟨ad,x,v,rfl,hab,hx,hxw,hnv,hcell⟩ := (HE.out.chg (G := fun _ => False) (Chg.of_below HB.out) (fun _ q => .inl q) (fun _ q => .inl q)).at_ hlt
   have ck : wr.cell? (ad.add (k * 6)) = some (.int .i8 x.kind) := by
    have := hcell 0 _ rfl
    rwa [za0,Nat.add_zero] at this
   have HX := Hd hx
   have hbt := zj7 l k;obtain ⟨t,ht⟩ : ∃ t,brT l k = t := ⟨_,rfl⟩;rw [ht] at hbt ⊢;have HT := Hd ht
   obtain ⟨kd,hkd⟩ : ∃ v,x.kind = v := ⟨_,rfl⟩;rw [hkd] at ck;have HKD := Hd hkd
   clear hx hcell hxw hnv ht hab hkd
   cases h0 : (kd == 0);rotate_left
   ·have HS := Hd (show brT l (k + 1) = t + 1 by rw [zd7 HX.out,← HT.out,if_pos (by unfold zdT; rw [HKD.out]; simp at h0; rw [h0]; rfl)])
    go_wp2;go_roundw
    case measure => simp [intOf]; omega
    case rel => exact ⟨k + 1,by omega,by go_num,by rw [HS.out]; go_num,HB.out⟩
   cases h2 : (kd == 2);rotate_left
   ·have HS := Hd (show brT l (k + 1) = t + 1 by rw [zd7 HX.out,← HT.out,if_pos (by unfold zdT; rw [HKD.out]; simp at h2; rw [h2]; rfl)])
    go_wp2;go_roundw
    case measure => simp [intOf]; omega
    case rel => exact ⟨k + 1,by omega,by go_num,by rw [HS.out]; go_num,HB.out⟩
   have HS := Hd (show brT l (k + 1) = t by rw [zd7 HX.out,← HT.out,if_neg (by unfold zdT; rw [HKD.out]; simp at h0 h2 ⊢; exact ⟨h0,h2⟩)])
   go_wp2;go_roundw
   case measure => simp [intOf]; omega
   case rel => exact ⟨k + 1,by omega,by go_num,by rw [HS.out],HB.out⟩
  ·obtain rfl : k = n := by omega
   have HS := Hd (show brT l k = zat l by unfold brT; rw [ztN (by rw [HL.out]; exact ztn _)])
   go_wp2;go_ret;exact ⟨by rw [HS.out]; rfl,HB.out⟩
end
end Go.Proofs.YtepagfkkjlbipaaGreat
