/-
  Parts of the proof of SymbcRuns. Conditions: those written in each statement.
-/
import Derived.Test.YtepagfkkjlbipaaGreatKap
import Derived.Test.YtepagfkkjlbipaaGreatKap
set_option linter.unusedVariables false
set_option linter.unusedSimpArgs false
set_option maxHeartbeats 64000000
set_option maxRecDepth 100000
namespace Go.Proofs.YtepagfkkjlbipaaGreat
open Go.RowKit
open Tryz
section
theorem zbK {p : PS}(hw : WfP p)(hr : ∀ t ∈ p.T,t.wf){a b : Int}(ha : I64 a)(hb : I64 b)(x : Int) : WfP (zaj p x a b).1 ∧ ∀ t ∈ (zaj p x a b).1.T,t.wf := by
 obtain ⟨h1,h2,h3⟩ := zbq hw hr ha x;unfold zaj;dsimp only
 split
 ·exact (zbq h2 h3 hb x).2
 ·exact ⟨h2,h3⟩
def Ext (p q : PS) : Prop := ∃ s,q.T = p.T ++ s
theorem Ext.refl (p : PS) : Ext p p := ⟨[],by simp⟩
theorem Ext.trans {p q r : PS}(h : Ext p q)(k : Ext q r) : Ext p r := by
 obtain ⟨s,hs⟩ := h;obtain ⟨t,ht⟩ := k;exact ⟨s ++ t,by rw [ht,hs,List.append_assoc]⟩
theorem Ext.put (p : PS)(t : TD) : Ext p (zcm p t) := by
 rcases za8 p t with ⟨e,_⟩ | ⟨_,_,_,_,e,_⟩
 ·rw [e]; exact Ext.refl p
 ·rw [e]; exact ⟨[t],rfl⟩
theorem Ext.has {p q : PS}(h : Ext p q){n : Int}(hn : zal p.T n = true) : zal q.T n = true := by
 obtain ⟨s,hs⟩ := h;unfold zal at *;simp at hn ⊢;rw [hs];simp;omega
theorem Ext.at_ {p q : PS}(h : Ext p q){n : Int}(hn : zal p.T n = true) : atP q.T n = atP p.T n := by
 have h2 := h.has hn;obtain ⟨s,hs⟩ := h;unfold atP;rw [if_pos hn,if_pos h2,hs];unfold zal at hn;simp at hn;rw [zts,zts,ztJ (by omega)]
theorem zfL {p : PS}{t : TD}(h : (zcP p t).2 = 0) : zal (zcm p t).T (zcP p t).1 = true ∧ atP (zcm p t).T (zcP p t).1 = t := by
 have key : ∀ (T : List TD) (i : Nat),T[i]? = some t → zal T (i : Int) = true ∧ atP T (i : Int) = t := by
  intro T i hi;have hl := (ztt.1 hi).1;have hb : zal T (i : Int) = true := by unfold zal; simp; omega
  refine ⟨hb,?_⟩;unfold atP;rw [if_pos hb,zts,show ((i : Int)).toNat = i by omega,hi]
  rfl
 rcases za8 p t with ⟨e,q⟩ | ⟨_,_,_,_,e,q⟩
 ·rcases q with ⟨_,q⟩ | ⟨_,i,hi,_,q⟩ | ⟨_,_,_,q⟩
  ·rw [q] at h; cases h
  ·rw [e,q]; exact key _ _ hi
  ·rw [q] at h; cases h
 ·rw [e,q]; exact key _ _ (by simp)
theorem zbe (p : PS)(x a : Int) : ((atP p.T a).kind = 0 ∧ zah p x a = putR p (zaf (zao x (atP p.T a).n))) ∨ ((atP p.T a).kind = 3 ∧ zah p x a = (p,(atP p.T a).a,0)) ∨ ((atP p.T a).kind ≠ 0 ∧ zah p x a = (p,a,0)) := by
 unfold zah;dsimp only
 by_cases h : (atP p.T a).kind = 0
 ·exact .inl ⟨h,by rw [if_pos h]⟩
 ·rw [if_neg h]
  by_cases h2 : x = 32 ∧ (atP p.T a).kind = 3 ∧ (atP p.T a).w = 32
  ·exact .inr (.inl ⟨h2.2.1,by rw [if_pos h2]⟩)
  ·exact .inr (.inr ⟨h,by rw [if_neg h2]⟩)
theorem zaT (p : PS)(x a : Int) : Ext p (zah p x a).1 := by
 rcases zbe p x a with ⟨_,e⟩ | ⟨_,e⟩ | ⟨_,e⟩
 ·rw [e]; exact Ext.put p _
 ·rw [e]; exact Ext.refl p
 ·rw [e]; exact Ext.refl p
theorem zc8 (p : PS)(x a b : Int) : Ext p (zaj p x a b).1 := by
 unfold zaj;dsimp only
 split
 ·exact (zaT p x a).trans (zaT _ x b)
 ·exact zaT p x a
theorem zch {p : PS}(hw : WfP p){n : Int}(hn : zal p.T n = true)(hk : (atP p.T n).kind = 3) : 0 ≤ (atP p.T n).a ∧ (atP p.T n).a < n ∧ zal p.T (atP p.T n).a = true := by
 have h := zcD hw hn (k := (atP p.T n).a) (by unfold zax; rw [if_neg (by omega),if_pos hk]; simp);refine ⟨h.1,h.2,?_⟩;unfold zal at *;simp at hn ⊢;omega
theorem zcM {p : PS}(hw : WfP p){x a : Int}(ha : zal p.T a = true)(h0 : (zah p x a).2.2 = 0) :
  zal (zah p x a).1.T (zah p x a).2.1 = true ∧ ((atP (zah p x a).1.T (zah p x a).2.1).kind = 0 ∨ (zah p x a).2.1 ≤ a) ∧ ((atP p.T a).kind = 0 → (atP (zah p x a).1.T (zah p x a).2.1).kind = 0) := by
 rcases zbe p x a with ⟨k,e⟩ | ⟨k,e⟩ | ⟨k,e⟩
 ·rw [e] at h0 ⊢
  have := zfL h0;refine ⟨this.1,.inl ?_,fun _ => ?_⟩
  ·show (atP (zcm p _).T (zcP p _).1).kind = 0; rw [this.2]; rfl
  ·show (atP (zcm p _).T (zcP p _).1).kind = 0; rw [this.2]; rfl
 ·rw [e]
  have := zch hw ha k;exact ⟨this.2.2,.inr (by show (atP p.T a).a ≤ a; omega),fun q => absurd q (by omega)⟩
 ·rw [e]
  exact ⟨ha,.inr (ztB _),fun q => absurd q k⟩
theorem zbb {p : PS}(hw : WfP p)(hr : ∀ t ∈ p.T,t.wf){x a b : Int}(ha : zal p.T a = true)(hb : zal p.T b = true)(h0 : (zaj p x a b).2.2.2 = 0) :
  zal (zaj p x a b).1.T (zaj p x a b).2.1 = true ∧ zal (zaj p x a b).1.T (zaj p x a b).2.2.1 = true ∧
  ((atP (zaj p x a b).1.T (zaj p x a b).2.1).kind = 0 ∨ (zaj p x a b).2.1 ≤ a) ∧ ((atP (zaj p x a b).1.T (zaj p x a b).2.2.1).kind = 0 ∨ (zaj p x a b).2.2.1 ≤ b) ∧
  ((atP p.T a).kind = 0 → (atP (zaj p x a b).1.T (zaj p x a b).2.1).kind = 0) ∧ ((atP p.T b).kind = 0 → (atP (zaj p x a b).1.T (zaj p x a b).2.2.1).kind = 0) := by
 have hI : I64 a := by
  unfold zal at ha;simp at ha;have := hw.few;unfold I64;omega
 have h1 := zbq hw hr hI x;unfold zaj at h0 ⊢;dsimp only at h0 ⊢
 by_cases he : (zah p x a).2.2 = 0
 ·rw [if_pos he] at h0 ⊢
  dsimp only at h0 ⊢;have f1 := zcM hw ha he;have e1 := zaT p x a;have hb1 := e1.has hb;have ab1 := e1.at_ hb;have f2 := zcM h1.2.1 hb1 h0;have e2 := zaT (zah p x a).1 x b;rw [ab1] at f2;refine ⟨e2.has f1.1,f2.1,?_,f2.2.1,?_,f2.2.2⟩
  ·rw [e2.at_ f1.1]; exact f1.2.1
  ·rw [e2.at_ f1.1]; exact f1.2.2
 ·rw [if_neg he] at h0
  exact absurd h0 he
theorem zd1 : ∀ (f : Nat) {g : Nat} (p : PS) (x a : Int) (r : RS),f ≤ g → zbw f p x a = some r → zbw g p x a = some r
 | 0,_,_,_,_,_,_,h => by cases h
 | f + 1,0,_,_,_,_,hg,_ => by omega
 | f + 1,g + 1,p,x,a,r,hg,h => by
  rw [zbz] at h ⊢
  split
  ·rename_i h1; rw [if_pos h1] at h; exact h
  ·rename_i h1
   rw [if_neg h1] at h
   split
   ·rename_i h2; rw [if_pos h2] at h; exact h
   ·rename_i h2
    rw [if_neg h2] at h
    split
    ·rename_i h3; rw [if_pos h3] at h; exact h
    ·rename_i h3
     rw [if_neg h3] at h
     split
     ·rename_i h4; rw [if_pos h4] at h; exact zd1 f p x _ r (by omega) h
     ·rename_i h4; rw [if_neg h4] at h; exact h
theorem zd2 {p : PS}(hw : WfP p)(x : Int) : ∀ (f : Nat) (a : Int),a.toNat < f → ∃ r,zbw f p x a = some r
 | 0,a,h => by omega
 | f + 1,a,h => by
  rw [zbz]
  split
  ·exact ⟨_,rfl⟩
  split
  ·exact ⟨_,rfl⟩
  split
  ·exact ⟨_,rfl⟩
  split
  ·rename_i h3
   cases hb : zal p.T a
   ·rw [zmj hb] at h3; cases h3
   ·have := zch hw hb h3
    exact zd2 hw x f _ (by omega)
  ·exact ⟨_,rfl⟩
theorem zeN {r s : RS}{k1 k2 : PS → Int → Option RS}(h : zbA r k1 = some s)(hk : ∀ p z s,k1 p z = some s → k2 p z = some s) : zbA r k2 = some s := by
 unfold zbA at h ⊢
 split
 ·rename_i h0; rw [if_pos h0] at h; exact hk _ _ _ h
 ·rename_i h0; rw [if_neg h0] at h; exact h
theorem znW {rec1 rec2 : PS → Int → Int → Int → Option RS}{f g : Nat}(hfg : f ≤ g)(hrec : ∀ q o u v s,rec1 q o u v = some s → rec2 q o u v = some s){p : PS}{op x a b : Int}{r : RS}(h : opL rec1 f p op x a b = some r) : opL rec2 g p op x a b = some r := by
 unfold opL at h ⊢;dsimp only at h ⊢
 split
 ·rename_i h1; rw [if_pos h1] at h; exact h
 ·rename_i h1
  rw [if_neg h1] at h
  split
  ·rename_i h2; rw [if_pos h2] at h; exact zeN h fun _ _ _ q => hrec _ _ _ _ _ q
  ·rename_i h2
   rw [if_neg h2] at h
   split
   ·rename_i h3; rw [if_pos h3] at h; exact zd1 f _ _ _ _ hfg h
   ·rename_i h3
    rw [if_neg h3] at h
    split
    ·rename_i h4; rw [if_pos h4] at h; exact zeN h fun _ _ _ q => hrec _ _ _ _ _ q
    ·rename_i h4
     rw [if_neg h4] at h
     split
     ·rename_i h5; rw [if_pos h5] at h; exact hrec _ _ _ _ _ h
     ·rename_i h5
      rw [if_neg h5] at h
      split
      ·rename_i h6; rw [if_pos h6] at h; exact zeN h fun _ _ _ q => hrec _ _ _ _ _ q
      ·rename_i h6
       rw [if_neg h6] at h
       split
       ·rename_i h7; rw [if_pos h7] at h; exact zd1 f _ _ _ _ hfg h
       ·rename_i h7
        rw [if_neg h7] at h
        split
        ·rename_i h8; rw [if_pos h8] at h; exact h
        ·rename_i h8
         rw [if_neg h8] at h
         split
         ·rename_i h9; rw [if_pos h9] at h; exact h
         ·rename_i h9
          rw [if_neg h9] at h
          split
          ·rename_i h10; rw [if_pos h10] at h; exact zd1 f _ _ _ _ hfg h
          ·rename_i h10; rw [if_neg h10] at h; exact h
theorem zg6 : ∀ (f : Nat) {g : Nat} (p : PS) (op x a b : Int) (r : RS),f ≤ g → opF f p op x a b = some r → opF g p op x a b = some r
 | 0,_,_,_,_,_,_,_,_,h => by cases h
 | f + 1,0,_,_,_,_,_,_,hg,_ => by omega
 | f + 1,g + 1,p,op,x,a,b,r,hg,h => by
  rw [zbu] at h ⊢
  split
  ·rename_i h1; rw [if_pos h1] at h; exact h
  ·rename_i h1
   rw [if_neg h1] at h
   split
   ·rename_i h2; rw [if_pos h2] at h; exact h
   ·rename_i h2
    rw [if_neg h2] at h
    split
    ·rename_i h3
     rw [if_pos h3] at h;exact znW (by omega) (fun q o u v s hs => zg6 f q o x u v s (by omega) hs) h
    ·rename_i h3; rw [if_neg h3] at h; exact h
def OpS (p : PS)(op x a b : Int) : Prop := ∃ f r,opF f p op x a b = some r
theorem zel {p : PS}(hw : WfP p){op x a b : Int}
  (H8 : op = 8 → ∀ q : RS,q = putR p (zaf 0) → q.2.2 = 0 → OpS q.1 1 x q.2.1 a)
  (H1 : ((atP p.T a).kind == 0 && (atP p.T b).kind == 0) = false → op = 1 → (atP p.T b).kind = 0 → ∀ (n : Int) (q : RS),U64 n → q = putR p (zaf n) → q.2.2 = 0 → OpS q.1 0 x a q.2.1)
  (H7 : ((atP p.T a).kind == 0 && (atP p.T b).kind == 0) = false → (zaK op && ((atP p.T a).kind == 0 || (!((atP p.T b).kind == 0) && decide (b < a)))) = true → OpS p op x b a)
  (HA : ((atP p.T a).kind == 0 && (atP p.T b).kind == 0) = false → zb5 p.T (atP p.T a) op x ((atP p.T b).kind == 0) = true → ∀ (n : Int) (q : RS),U64 n → q = putR p (zaf n) → q.2.2 = 0 → OpS q.1 0 x (atP p.T a).a q.2.1) :
  ∃ f r,opL (fun q o u v => opF f q o x u v) f p op x a b = some r := by
 obtain ⟨za,hza⟩ := zd2 hw x (a.toNat + 1) a (by omega);obtain ⟨zb,hzb⟩ := zd2 hw x (b.toNat + 1) b (by omega);have bnd : ∀ {r : RS} {o u : Int} (g : PS → Int → Int × Int),(r.2.2 = 0 → OpS r.1 o x (g r.1 r.2.1).1 (g r.1 r.2.1).2) → ∃ f s,zbA r (fun q z => opF f q o x (g q z).1 (g q z).2) = some s := by
  intro r o u g h
  by_cases h0 : r.2.2 = 0
  ·obtain ⟨f,s,hs⟩ := h h0
   exact ⟨f,s,by unfold zbA; rw [if_pos h0]; exact hs⟩
  ·exact ⟨0,_,by unfold zbA; rw [if_neg h0]⟩
 unfold opL;dsimp only
 cases h1 : ((atP p.T a).kind == 0 && (atP p.T b).kind == 0);rotate_left
 ·exact ⟨0,_,by rw [if_pos rfl]⟩
 by_cases h2 : op = 8
 ·obtain ⟨f,s,hs⟩ := bnd (o := 1) (u := 0) (fun _ z => (z,a)) (r := putR p (zaf 0)) fun h0 => H8 h2 _ rfl h0
  exact ⟨f,s,by rw [if_neg (by simp),if_pos h2]; exact hs⟩
 by_cases h3 : op = 11
 ·exact ⟨_,zb,by rw [if_neg (by simp),if_neg h2,if_pos h3]; exact hzb⟩
 cases h4 : (op == 1 && (atP p.T b).kind == 0);rotate_left
 ·have hk : op = 1 ∧ (atP p.T b).kind = 0 := by simpa using h4
  obtain ⟨f,s,hs⟩ := bnd (o := 0) (u := 0) (fun _ z => (a,z)) (r := putR p (zaf (zao x (IntKind.u64.wrap (-(atP p.T b).n))))) fun h0 => H1 h1 hk.1 hk.2 _ _ (zau (wrap_u64 _)) rfl h0
  exact ⟨f,s,by rw [if_neg (by simp),if_neg h2,if_neg h3,if_pos rfl]; exact hs⟩
 cases h5 : (zaK op && ((atP p.T a).kind == 0 || (!((atP p.T b).kind == 0) && decide (b < a))));rotate_left
 ·obtain ⟨f,s,hs⟩ := H7 h1 h5
  exact ⟨f,s,by rw [if_neg (by simp),if_neg h2,if_neg h3,if_neg (by simp),if_pos rfl]; exact hs⟩
 cases h6 : zb5 p.T (atP p.T a) op x ((atP p.T b).kind == 0);rotate_left
 ·obtain ⟨f,s,hs⟩ := bnd (o := 0) (u := 0) (fun _ z => ((atP p.T a).a,z)) (r := putR p (zaf (zao x (IntKind.u64.wrap ((atP p.T (atP p.T a).b).n + (atP p.T b).n))))) fun h0 => HA h1 h6 _ _ (zau (wrap_u64 _)) rfl h0
  exact ⟨f,s,by rw [if_neg (by simp),if_neg h2,if_neg h3,if_neg (by simp),if_neg (by simp),if_pos rfl]; exact hs⟩
 cases h7 : ((atP p.T b).kind == 0 && zaB op x (atP p.T b).n);rotate_left
 ·exact ⟨_,za,by rw [if_neg (by simp),if_neg h2,if_neg h3,if_neg (by simp),if_neg (by simp),if_neg (by simp),if_pos rfl]; exact hza⟩
 cases h8 : ((atP p.T b).kind == 0 && ziu op (atP p.T b).n);rotate_left
 ·exact ⟨0,_,by rw [if_neg (by simp),if_neg h2,if_neg h3,if_neg (by simp),if_neg (by simp),if_neg (by simp),if_neg (by simp),if_pos rfl]⟩
 cases h9 : (a == b && (op == 1 || op == 10));rotate_left
 ·exact ⟨0,_,by rw [if_neg (by simp),if_neg h2,if_neg h3,if_neg (by simp),if_neg (by simp),if_neg (by simp),if_neg (by simp),if_neg (by simp),if_pos rfl]⟩
 cases h10 : (a == b && (op == 5 || op == 4));rotate_left
 ·exact ⟨_,za,by rw [if_neg (by simp),if_neg h2,if_neg h3,if_neg (by simp),if_neg (by simp),if_neg (by simp),if_neg (by simp),if_neg (by simp),if_neg (by simp),if_pos rfl]; exact hza⟩
 ·exact ⟨0,_,by rw [if_neg (by simp),if_neg h2,if_neg h3,if_neg (by simp),if_neg (by simp),if_neg (by simp),if_neg (by simp),if_neg (by simp),if_neg (by simp),if_neg (by simp)]⟩
theorem zem {p : PS}{op x a b : Int}(h : zal p.T a = true → zal p.T b = true → zdp op x = true → (zaj p x a b).2.2.2 = 0 → ∃ f r,opL (fun q o u v => opF f q o x u v) f (zaj p x a b).1 op x (zaj p x a b).2.1 (zaj p x a b).2.2.1 = some r) : OpS p op x a b := by
 cases ha : zal p.T a
 ·exact ⟨1,_,by rw [zbu,if_pos (by rw [ha]; rfl)]⟩
 cases hb : zal p.T b
 ·exact ⟨1,_,by rw [zbu,if_pos (by rw [ha,hb]; rfl)]⟩
 cases hd : zdp op x
 ·exact ⟨1,_,by rw [zbu,if_neg (by rw [ha,hb]; simp),if_pos hd]⟩
 by_cases h0 : (zaj p x a b).2.2.2 = 0
 ·obtain ⟨f,r,hr⟩ := h ha hb hd h0
  exact ⟨f + 1,r,by rw [zbu,if_neg (by rw [ha,hb]; simp),if_neg (by rw [hd]; simp),if_pos h0]; exact hr⟩
 ·exact ⟨1,_,by rw [zbu,if_neg (by rw [ha,hb]; simp),if_neg (by rw [hd]; simp),if_neg h0]⟩
theorem zdw {p : PS}(hw : WfP p)(hr : ∀ t ∈ p.T,t.wf){n : Int}(hn : U64 n){q : RS}(hq : q = putR p (zaf n)) : WfP q.1 ∧ (∀ t ∈ q.1.T,t.wf) ∧ (q.2.2 = 0 → zal q.1.T q.2.1 = true ∧ (atP q.1.T q.2.1).kind = 0) := by
 subst hq;refine ⟨hw.put _,fun t ht => ?_,fun h => ?_⟩
 ·have ht' : t ∈ (zcm p (zaf n)).T := ht
  rcases za8 p (zaf n) with ⟨e,_⟩ | ⟨_,_,_,_,e,_⟩
  ·rw [e] at ht'; exact hr t ht'
  ·rw [e] at ht'
   rcases List.mem_append.1 ht' with q | q
   ·exact hr t q
   ·simp at q; rw [q]; exact zaP hn
 ·have := zfL h
  refine ⟨this.1,?_⟩;show (atP (zcm p _).T (zcP p _).1).kind = 0
  rw [this.2]; rfl
theorem zap {p : PS}(hw : WfP p){n : Int}(h : zal p.T n = true) : I64 n := by
 unfold zal at h;simp at h;have := hw.few;unfold I64;omega
theorem ziA {p : PS}{n : Int}(h : zal p.T n = true) : 0 ≤ n := by
 unfold zal at h;simp at h;omega
theorem zfM (x : Int) : ∀ (N : Nat) (p : PS) (hw : WfP p) (hr : ∀ t ∈ p.T,t.wf) (a b : Int),a.toNat < N → (atP p.T b).kind = 0 → OpS p 0 x a b := by
 intro N
 induction N with
 | zero => intro p hw hr a b h; omega
 | succ N ih =>
  intro p hw hr a b hN hk;refine zem fun ha hb hd h0 => ?_
  have hf := zbb hw hr ha hb h0;have hw2 := zbK hw hr (zap hw ha) (zap hw hb) x;refine zel hw2.1 (fun h => absurd h (by decide)) (fun _ h => absurd h (by decide)) (fun h1 h7 => ?_) (fun h1 hA n q hn hq hq0 => ?_)
  ·have hkb := hf.2.2.2.2.2 hk
   rw [hkb] at h1 h7;simp at h1 h7;exact absurd h7.2 h1
  ·have hkb := hf.2.2.2.2.2 hk
   have hc := zdw hw2.1 hw2.2 hn hq;rw [hkb] at h1;have hka : (atP (zaj p x a b).1.T (zaj p x a b).2.1).kind ≠ 0 := by simpa using h1
   have hA2 : (atP (zaj p x a b).1.T (zaj p x a b).2.1).kind = 2 := by unfold zb5 at hA; simp at hA; exact hA.2.2.1
   have hpl := zcD hw2.1 hf.1 (k := (atP (zaj p x a b).1.T (zaj p x a b).2.1).a) (by unfold zax; rw [if_pos (.inl hA2)]; simp);have hle := hf.2.2.1.resolve_left hka;exact ih q.1 hc.1 hc.2.1 _ _ (by omega) (hc.2.2 hq0).2
theorem zjm (x : Int)(p : PS)(hw : WfP p)(hr : ∀ t ∈ p.T,t.wf)(a b : Int) : OpS p 1 x a b := by
 refine zem fun ha hb hd h0 => ?_
 have hw2 := zbK hw hr (zap hw ha) (zap hw hb) x;refine zel hw2.1 (fun h => absurd h (by decide)) (fun h1 _ hkb n q hn hq hq0 => ?_) (fun h1 h7 => absurd h7 (by simp [zaK])) (fun h1 hA => absurd hA (by simp [zb5]));have hc := zdw hw2.1 hw2.2 hn hq;exact zfM x _ q.1 hc.1 hc.2.1 _ _ (ztI _) (hc.2.2 hq0).2
theorem zkl (op x : Int)(p : PS)(hw : WfP p)(hr : ∀ t ∈ p.T,t.wf)(a b : Int)(ht : zaK op = true)(hk : (atP p.T b).kind = 0) : OpS p op x a b := by
 by_cases h0 : op = 0
 ·subst h0; exact zfM x _ p hw hr a b (ztI _) hk
 ·have h8 : op ≠ 8 := fun e => by subst e; simp [zaK] at ht
  have h1 : op ≠ 1 := fun e => by subst e; simp [zaK] at ht
  refine zem fun ha hb hd he => ?_
  have hf := zbb hw hr ha hb he;have hw2 := zbK hw hr (zap hw ha) (zap hw hb) x;refine zel hw2.1 (fun h => absurd h h8) (fun _ h => absurd h h1) (fun h1 h7 => ?_) (fun h1 hA => ?_)
  ·have hkb := hf.2.2.2.2.2 hk
   rw [hkb] at h1 h7;simp at h1 h7;exact absurd h7.2 h1
  ·unfold zb5 at hA; simp at hA; exact absurd hA.1 h0
theorem zlz (op x : Int)(ht : zaK op = true) : ∀ (N : Nat) (p : PS) (hw : WfP p) (hr : ∀ t ∈ p.T,t.wf) (a b : Int),2 * (a.toNat + b.toNat) + (if a < b then 0 else 1) < N → OpS p op x a b := by
 intro N
 induction N with
 | zero => intro p hw hr a b h; omega
 | succ N ih =>
  intro p hw hr a b hN;have h8 : op ≠ 8 := fun e => by subst e; simp [zaK] at ht
  have h1 : op ≠ 1 := fun e => by subst e; simp [zaK] at ht
  refine zem fun ha hb hd he => ?_
  have hf := zbb hw hr ha hb he;have hw2 := zbK hw hr (zap hw ha) (zap hw hb) x;refine zel hw2.1 (fun h => absurd h h8) (fun _ h => absurd h h1) (fun hk h7 => ?_) (fun hk hA n q hn hq hq0 => ?_)
  ·simp at h7
   by_cases hka : (atP (zaj p x a b).1.T (zaj p x a b).2.1).kind = 0
   ·exact zkl op x _ hw2.1 hw2.2 _ _ ht hka
   ·have h72 := h7.2.resolve_left hka
    have ea := hf.2.2.1.resolve_left hka;have eb := hf.2.2.2.1.resolve_left h72.1;have na := ziA hf.1;have nb := ziA hf.2.1;refine ih _ hw2.1 hw2.2 _ _ ?_;rw [if_pos h72.2]
    split at hN <;> omega
  ·have hc := zdw hw2.1 hw2.2 hn hq
   exact zfM x _ q.1 hc.1 hc.2.1 _ _ (ztI _) (hc.2.2 hq0).2
theorem zp5 (op x : Int)(p : PS)(hw : WfP p)(hr : ∀ t ∈ p.T,t.wf)(a b : Int) : OpS p op x a b := by
 cases ht : zaK op;rotate_left
 ·exact zlz op x ht _ p hw hr a b (ztI _)
 by_cases h1 : op = 1
 ·subst h1; exact zjm x p hw hr a b
 refine zem fun ha hb hd he => ?_
 have hw2 := zbK hw hr (zap hw ha) (zap hw hb) x;refine zel hw2.1 (fun h q hq hq0 => ?_) (fun _ h => absurd h h1) (fun hk h7 => absurd h7 (by rw [ht]; simp)) (fun hk hA => ?_)
 ·have hc := zdw hw2.1 hw2.2 zaA hq
  exact zjm x q.1 hc.1 hc.2.1 _ _
 ·unfold zb5 at hA
  simp at hA;rw [hA.1] at ht;simp [zaK] at ht
def CondS (p : PS)(cc x a b : Int) : Prop := ∃ f r,zdg f p cc x a b = some r
theorem zkm (p : PS)(cc x a b : Int)(hc : zbO cc = false) : ∃ r,zdg 1 p cc x a b = some r := by
 rw [zby]
 split
 ·exact ⟨_,rfl⟩
 split
 ·exact ⟨_,rfl⟩
 split
 ·unfold zeh
  dsimp only
  split
  ·exact ⟨_,rfl⟩
  split
  ·exact ⟨_,rfl⟩
  rw [if_neg (by rw [hc]; simp)]
  split
  ·exact ⟨_,rfl⟩
  ·exact ⟨_,rfl⟩
 ·exact ⟨_,rfl⟩
theorem ziB (cc : Int)(h : zbO cc = true) : zbO (zc1 cc) = false := by
 unfold zbO at h;simp at h
 rcases h with h | h | h | h <;> subst h <;> rfl
theorem zlA (p : PS)(cc x a b : Int) : ∃ r,zdg 2 p cc x a b = some r := by
 rw [zby]
 split
 ·exact ⟨_,rfl⟩
 split
 ·exact ⟨_,rfl⟩
 split
 ·unfold zeh
  dsimp only
  split
  ·exact ⟨_,rfl⟩
  split
  ·exact ⟨_,rfl⟩
  split
  ·rename_i h; exact zkm _ _ _ _ _ (ziB cc h)
  split
  ·exact ⟨_,rfl⟩
  ·exact ⟨_,rfl⟩
 ·exact ⟨_,rfl⟩
theorem zb0 {p : PS}(hw : WfP p)(hr : ∀ t ∈ p.T,t.wf){t : TD}(ht : t.wf) : WfP (zcm p t) ∧ ∀ u ∈ (zcm p t).T,u.wf := by
 refine ⟨hw.put _,fun u hu => ?_⟩
 rcases za8 p t with ⟨e,_⟩ | ⟨_,_,_,_,e,_⟩
 ·rw [e] at hu; exact hr u hu
 ·rw [e] at hu
  rcases List.mem_append.1 hu with q | q
  ·exact hr u q
  ·simp at q; rw [q]; exact ht
end
section
structure zck (p : PS)(r : RS) : Prop where
 ext : Ext p r.1
 wf : WfP r.1
 rng : ∀ t ∈ r.1.T,t.wf
 has : r.2.2 = 0 → zal r.1.T r.2.1 = true
section
variable {p q : PS}{r s : RS}
theorem zck.err (hw : WfP p)(hr : ∀ t ∈ p.T,t.wf)(n : Int){e : Int}(he : e ≠ 0) : zck p (p,n,e) := ⟨Ext.refl p,hw,hr,fun h => absurd h he⟩
theorem zck.same (hw : WfP p)(hr : ∀ t ∈ p.T,t.wf){n : Int}(h : zal p.T n = true) : zck p (p,n,0) := ⟨Ext.refl p,hw,hr,fun _ => h⟩
theorem zck.put (hw : WfP p)(hr : ∀ t ∈ p.T,t.wf){t : TD}(ht : t.wf) : zck p (putR p t) := ⟨Ext.put p t,(zb0 hw hr ht).1,(zb0 hw hr ht).2,fun h => (zfL h).1⟩
theorem zck.up (h : Ext p q)(k : zck q r) : zck p r := ⟨h.trans k.ext,k.wf,k.rng,k.has⟩
theorem zck.bind {k : PS → Int → Option RS}(h : zck p r)(hk : r.2.2 = 0 → ∀ s,k r.1 r.2.1 = some s → zck r.1 s)(hs : zbA r k = some s) : zck p s := by
 unfold zbA at hs
 split at hs
 ·rename_i h0; exact (hk h0 s hs).up h.ext
 ·rename_i h0
  injection hs with hs
  subst hs;exact ⟨h.ext,h.wf,h.rng,fun e => absurd e h0⟩
end
theorem zdM : ∀ (f : Nat) {p : PS} (hw : WfP p) (hr : ∀ t ∈ p.T,t.wf) {x a : Int} {r : RS} (hx : I8 x) (ha : zal p.T a = true),zbw f p x a = some r → zck p r
 | 0,_,_,_,_,_,_,_,_,h => by cases h
 | f + 1,p,hw,hr,x,a,r,hx,ha,h => by
  rw [zbz] at h
  split at h
  ·injection h with h; subst h; exact zck.same hw hr ha
  split at h
  ·injection h with h; subst h; exact zck.put hw hr (zaP (zau (zba hr a).2.2.2.1))
  split at h
  ·injection h with h; subst h; exact zck.same hw hr ha
  split at h
  ·rename_i h3; exact zdM f hw hr hx (zch hw ha h3).2.2 h
  ·injection h with h; subst h; exact zck.put hw hr (zfz (zap hw ha) hx)
theorem zlB {op x a b : Int}(ho : I8 op)(hx : I8 x)(ha : I64 a)(hb : I64 b) : (opT op x a b).wf := by unfold TD.wf I8 U64 I64 opT; unfold I8 at ho hx; unfold I64 at ha hb; dsimp only; exact ⟨by omega,ho,hx,by omega,ha,hb,by omega⟩
theorem zeO : ∀ (f : Nat) {p : PS} (hw : WfP p) (hr : ∀ t ∈ p.T,t.wf) {op x a b : Int} {r : RS},opF f p op x a b = some r → zck p r
 | 0,_,_,_,_,_,_,_,_,h => by cases h
 | f + 1,p,hw,hr,op,x,a,b,r,h => by
  rw [zbu] at h
  split at h
  ·injection h with h; subst h; exact zck.err hw hr 0 (by decide)
  rename_i hab;have hab : zal p.T a = true ∧ zal p.T b = true := by simpa using hab
  split at h
  ·injection h with h; subst h; exact zck.err hw hr 0 (by decide)
  rename_i hd;have hd := zbE (op := op) (x := x) (by simpa using hd);have hI8 : I8 op ∧ I8 x := by unfold I8; omega
  have hw2 := zbK hw hr (zap hw hab.1) (zap hw hab.2) x;have he := zc8 p x a b
  split at h
  ·rename_i h0
   have hf := zbb hw hr hab.1 hab.2 h0;refine zck.up he ?_;have hrec : ∀ {q : PS} (h1 : WfP q) (h2 : ∀ t ∈ q.T,t.wf) {o u v : Int} {s : RS},opF f q o x u v = some s → zck q s := fun {_} h1 h2 {_ _ _ _} hs => zeO f h1 h2 hs
   generalize zaj p x a b = z at h hw2 hf;obtain ⟨p1,a1,b1,e1⟩ := z;dsimp only at h hw2 hf;have hc : ∀ {n : Int},U64 n → zck p1 (putR p1 (zaf n)) := fun hn => zck.put hw2.1 hw2.2 (zaP hn)
   have hsn := (zba hw2.2 a1).2.2.2.1;have hyn := (zba hw2.2 b1).2.2.2.1;unfold opL at h;dsimp only at h
   split at h
   ·injection h with h; subst h; exact hc (zau (zfV (zau hsn) (zau hyn)))
   split at h
   ·exact zck.bind (hc zaA) (fun _ s hs => hrec (hc zaA).wf (hc zaA).rng hs) h
   split at h
   ·exact zdM f hw2.1 hw2.2 hI8.2 hf.2.1 h
   split at h
   ·have hu : U64 (zao x (IntKind.u64.wrap (-(atP p1.T b1).n))) := zau (wrap_u64 _)
    exact zck.bind (hc hu) (fun _ s hs => hrec (hc hu).wf (hc hu).rng hs) h
   split at h
   ·exact hrec hw2.1 hw2.2 h
   split at h
   ·have hu : U64 (zao x (IntKind.u64.wrap ((atP p1.T (atP p1.T a1).b).n + (atP p1.T b1).n))) := zau (wrap_u64 _)
    exact zck.bind (hc hu) (fun _ s hs => hrec (hc hu).wf (hc hu).rng hs) h
   split at h
   ·exact zdM f hw2.1 hw2.2 hI8.2 hf.1 h
   split at h
   ·injection h with h; subst h; exact hc zaA
   split at h
   ·injection h with h; subst h; exact hc zaA
   split at h
   ·exact zdM f hw2.1 hw2.2 hI8.2 hf.1 h
   ·injection h with h; subst h
    exact zck.put hw2.1 hw2.2 (zlB hI8.1 hI8.2 (zap hw2.1 hf.1) (zap hw2.1 hf.2.1))
  ·rename_i h0
   injection h with h; subst h
   exact ⟨he,hw2.1,hw2.2,fun e => absurd e h0⟩
theorem zhI : ∀ (f : Nat) {p : PS} (hw : WfP p) (hr : ∀ t ∈ p.T,t.wf) {cc x a b : Int} {r : RS},zdg f p cc x a b = some r → zck p r
 | 0,_,_,_,_,_,_,_,_,h => by cases h
 | f + 1,p,hw,hr,cc,x,a,b,r,h => by
  rw [zby] at h
  split at h
  ·injection h with h; subst h; exact zck.err hw hr 0 (by decide)
  rename_i hab;have hab : zal p.T a = true ∧ zal p.T b = true := by simpa using hab
  split at h
  ·injection h with h; subst h; exact zck.err hw hr 0 (by decide)
  rename_i hd;have hd := za7 (cc := cc) (x := x) (by simpa using hd);have hI8 : I8 cc ∧ I8 x := by unfold I8; omega
  have hw2 := zbK hw hr (zap hw hab.1) (zap hw hab.2) x;have he := zc8 p x a b
  split at h
  ·rename_i h0
   have hf := zbb hw hr hab.1 hab.2 h0;refine zck.up he ?_;have hrec : ∀ {q : PS} (h1 : WfP q) (h2 : ∀ t ∈ q.T,t.wf) {o u v : Int} {s : RS},zdg f q o x u v = some s → zck q s := fun {_} h1 h2 {_ _ _ _} hs => zhI f h1 h2 hs
   generalize zaj p x a b = z at h hw2 hf;obtain ⟨p1,a1,b1,e1⟩ := z;dsimp only at h hw2 hf;unfold zeh at h;dsimp only at h;have hia := zap hw2.1 hf.1;have hib := zap hw2.1 hf.2.1
   split at h
   ·injection h with h; subst h; exact zck.put hw2.1 hw2.2 (zaP (zb4 _))
   split at h
   ·injection h with h; subst h; exact zck.put hw2.1 hw2.2 (zaP (zb4 _))
   split at h
   ·exact hrec hw2.1 hw2.2 h
   split at h
   ·injection h with h; subst h; exact zck.put hw2.1 hw2.2 (zdB hI8.1 hI8.2 hib hia)
   ·injection h with h; subst h; exact zck.put hw2.1 hw2.2 (zdB hI8.1 hI8.2 hia hib)
  ·rename_i h0
   injection h with h; subst h
   exact ⟨he,hw2.1,hw2.2,fun e => absurd e h0⟩
end
section
theorem zg7 {x n : Int}(h : U64 n) : (x = 8 → decide (n < 256) = decide (n = zao x n)) ∧ (x = 16 → decide (n < 65536) = decide (n = zao x n)) ∧ (x = 32 → decide (n < 4294967296) = decide (n = zao x n)) := by
 unfold U64 at h;refine ⟨fun e => ?_,fun e => ?_,fun e => ?_⟩ <;> (subst e; rw [decide_eq_decide]; unfold zao; simp; omega)
section
variable {base g : Nat}{F : Nat → Prop}{p : PS}
theorem znX (x a : Int)(w : World)(h : zaO w base F g p) :
  Calls prog 144 #[.pointer (some ⟨g,0,none⟩),.int .i64 a,.int .i8 x] w fun e w' => e = .returned (.bool (zal p.T a && (wdB x && zbY p.T a x))) ∧ Below w.heap.size w w' := by
 obtain ⟨t,ht⟩ : ∃ t,atP p.T a = t := ⟨_,rfl⟩;have htw : t.wf := by rw [← ht]; exact zba h.rng a
 obtain ⟨r,hr⟩ : ∃ r,zbY p.T a x = r := ⟨_,rfl⟩;rw [hr];unfold zbY at hr;rw [ht] at hr;have HR := Hd hr
 have HT := Hd ht
 have HU := Hd htw.2.2.2.1
 have HP := Hd h
 obtain ⟨hb,hhb⟩ : ∃ hb,zal p.T a = hb := ⟨_,rfl⟩;obtain ⟨wb,hwb⟩ : ∃ wb,wdB x = wb := ⟨_,rfl⟩;rw [hhb,hwb];have HHB := Hd hhb
 have HWB := Hd hwb
 clear h ht htw hr hhb hwb;go_enter func144,ntmps144;go_wp2_with fail
 refine (zf7 a _ HP.out).mono ?_;rintro e w1 ⟨rfl,hb1⟩;have HB1 := Hd hb1
 clear hb1 HP;rw [HT.out,HHB.out];obtain ⟨er,her⟩ : ∃ e : Int,(if hb = true then 0 else 2) = e := ⟨_,rfl⟩;rw [her];have HER := Hd her
 clear her;go_upto_region 2 with (first
  | (refine zag rfl 147 (.tmp 7) (.tmp 13) rfl _ t.cells (zaw t) (by rfl) (by rfl) rfl zcL rfl (TD.one _) ?_
     intro w5 G5 L5 Z5;have HX := Hd G5
     have HB2 := Hd (HB1.out.trans (L5.mono HB1.out.size))
     clear G5 L5 Z5)
  | fail)
 clear HB1
 cases hb
 ·have her : er = 2 := by rw [← HER.out]; rfl
  subst her;go_wp2;go_ret;exact ⟨rfl,HB2.out⟩
 have her : er = 0 := by rw [← HER.out]; rfl
 subst her;go_wp2_with fail
 refine (zbn x _).mono ?_;rintro e w6 ⟨rfl,rfl⟩;rw [HWB.out]
 cases wb
 ·go_wp2
  go_ret;exact ⟨rfl,HB2.out⟩
 have HX0 := Hd (zm2 HWB.out)
 have b0 := HX.out.cell 0;have b2 := HX.out.cell 2;have b3 := HX.out.cell 3;simp [TD.cells] at b0 b2 b3
 cases h64 : (x == 64);rotate_left
 ·go_wp2
  go_ret;exact ⟨zbP (by rw [← HR.out]; simp at h64; simp [h64]),HB2.out⟩
 cases hk0 : (t.kind == 0);rotate_left
 ·have hx3 := HX0.out
  have hx : x = 8 ∨ x = 16 ∨ x = 32 := by simp at h64; omega
  have e0 : t.kind = 0 := by simpa using hk0
  clear hx3;have HK := Hd hk0
  rcases hx with rfl | rfl | rfl
  ·go_wp2
   go_ret;exact ⟨zbP (by rw [← HR.out,(zg7 HU.out).1 rfl]; simp [e0]),HB2.out⟩
  ·go_wp2
   go_ret;exact ⟨zbP (by rw [← HR.out,(zg7 HU.out).2.1 rfl]; simp [e0]),HB2.out⟩
  ·go_wp2
   go_ret;exact ⟨zbP (by rw [← HR.out,(zg7 HU.out).2.2 rfl]; simp [e0]),HB2.out⟩
 cases hk3 : (t.kind == 3);rotate_left
 ·go_wp2
  go_ret;exact ⟨zbP (by rw [← HR.out]; simp at h64 hk0 hk3; simp [h64,hk3]),HB2.out⟩
 cases hk2 : (t.kind == 2);rotate_left
 ·cases hw : (t.w == 32)
  ·go_wp2
   go_ret;exact ⟨zbP (by rw [← HR.out]; simp at h64 hk0 hk3 hk2 hw; simp [h64,hk2,hw]),HB2.out⟩
  ·cases hx32 : (x == 32)
   all_goals
    go_wp2;go_ret;exact ⟨zbP (by rw [← HR.out]; simp at h64 hk0 hk3 hk2 hw hx32; simp [h64,hk2,hw,hx32]),HB2.out⟩
 cases hk4 : (t.kind == 4);rotate_left
 ·go_wp2
  go_ret;exact ⟨zbP (by rw [← HR.out]; simp at h64 hk4; simp [h64,hk4]),HB2.out⟩
 cases hk1 : (t.kind == 1)
 ·go_wp2
  go_ret;exact ⟨zbP (by rw [← HR.out]; simp at h64 hk0 hk3 hk2 hk4 hk1; simp [h64,hk0,hk3,hk2,hk4,hk1]),HB2.out⟩
 ·go_wp2
  go_ret;exact ⟨zbP (by rw [← HR.out]; simp at h64 hk0 hk3 hk2 hk4 hk1; simp [h64,hk1]),HB2.out⟩
theorem zgC (op : Int)(w : World) : Calls prog 142 #[.int .i8 op] w fun e w' => e = .returned (.bool (zaK op)) ∧ w = w' := by
 cases h0 : (op == 0);rotate_left
 ·go_enter func142,ntmps142
  go_wp2;go_ret;exact ⟨zbP (by unfold zaK; simp [h0]),rfl⟩
 cases h2 : (op == 2);rotate_left
 ·go_enter func142,ntmps142
  go_wp2;go_ret;exact ⟨zbP (by unfold zaK; simp [h0,h2]),rfl⟩
 cases h4 : (op == 4);rotate_left
 ·go_enter func142,ntmps142
  go_wp2;go_ret;exact ⟨zbP (by unfold zaK; simp [h0,h2,h4]),rfl⟩
 cases h5 : (op == 5);rotate_left
 ·go_enter func142,ntmps142
  go_wp2;go_ret;exact ⟨zbP (by unfold zaK; simp [h0,h2,h4,h5]),rfl⟩
 ·go_enter func142,ntmps142
  go_wp2;go_ret;exact ⟨zbP (by unfold zaK; simp [h0,h2,h4,h5]),rfl⟩
theorem zlC (b : Bool)(w : World) : Calls prog 145 #[.bool b] w fun e w' => e = .returned (.int .u64 (if b = true then 1 else 0)) ∧ w = w' := by
 cases b
 ·go_enter func145,ntmps145
  go_wp2;go_ret;exact ⟨rfl,rfl⟩
 ·go_enter func145,ntmps145
  go_wp2;go_ret;exact ⟨rfl,rfl⟩
theorem zen (x k : Int)(hx : x = 32 ∨ x = 64)(w : World)(h : zaO w base F g p)(hbase : base ≤ w.heap.size) :
  Calls prog 140 #[.pointer (some ⟨g,0,none⟩),.int .i8 x,.int .i64 k] w (zc7 base g F w (zah p x k)) := by
 obtain ⟨t,ht⟩ : ∃ t,atP p.T k = t := ⟨_,rfl⟩;have htw : t.wf := by rw [← ht]; exact zba h.rng k
 have HE : Hid (zah p x k = if t.kind = 0 then putR p (zaf (zao x t.n)) else if x = 32 ∧ t.kind = 3 ∧ t.w = 32 then (p,t.a,0) else (p,k,0)) := Hd (by unfold zah; rw [ht])
 obtain ⟨r,hr⟩ : ∃ r,zah p x k = r := ⟨_,rfl⟩;rw [hr] at HE ⊢;have HT := Hd ht
 have HN := Hd htw.2.2.2.1
 have HU := Hd (zau (x := x) htw.2.2.2.1)
 have HP := Hd (RG.refl h)
 clear h ht htw hr;go_enter func140,ntmps140;go_wp2_with fail
 refine (zia k _ HP.out.pool).mono ?_;rintro e w1 ⟨rfl,hb⟩;have HP1 := Hd (HP.out.step hb)
 clear hb HP;rw [HT.out];go_upto_region 2 with (first
  | (refine zag rfl 147 (.tmp 8) (.tmp 11) rfl _ t.cells (zaw t) (by rfl) (by rfl) rfl zcL rfl (TD.one _) ?_
     intro w5 G5 L5 Z5;have HX := Hd G5
     have HP2 := Hd (HP1.out.step L5)
     clear G5 L5 Z5)
  | fail)
 obtain ⟨b8,hb8⟩ : ∃ b,w1.heap.size = b := ⟨_,rfl⟩;rw [hb8] at HX ⊢;have b0 := HX.out.cell 0;have b2 := HX.out.cell 2;have b3 := HX.out.cell 3;have b4 := HX.out.cell 4;simp [TD.cells] at b0 b2 b3 b4;have hb5 : base ≤ w5.heap.size := zto hbase HP2.out.size
 cases hk0 : (t.kind == 0)
 ·cases hx32 : (x == 32)
  ·go_wp2
   go_ret2;rw [HE.out,if_neg (by simpa using hk0),if_neg (by simp at hx32; simp [hx32])];exact zc7.same HP2.out
  ·cases hk3 : (t.kind == 3)
   ·go_wp2
    go_ret2;rw [HE.out,if_neg (by simpa using hk0),if_neg (by simp at hk3; simp [hk3])];exact zc7.same HP2.out
   ·cases hw32 : (t.w == 32)
    ·go_wp2
     go_ret2;rw [HE.out,if_neg (by simpa using hk0),if_neg (by simp at hw32; simp [hw32])];exact zc7.same HP2.out
    ·go_wp2
     go_ret2;rw [HE.out,if_neg (by simpa using hk0),if_pos ⟨by simpa using hx32,by simpa using hk3,by simpa using hw32⟩];exact zc7.same HP2.out
 ·go_wp2_with fail
  refine (zaH _ _ HN.out _).mono ?_;rintro e w6 ⟨rfl,rfl⟩;go_wp2_with fail
  refine (zbZ _ HU.out _ HP2.out.pool hb5).mono ?_;rintro e w7 ⟨rfl,hr⟩;have HR := Hd hr
  clear hr;go_wp2;go_ret2;rw [HE.out,if_pos (by simpa using hk0)];exact zc7.from HP2.out ⟨rfl,HR.out⟩
theorem zkn (x a : Int)(w : World)(h : zaO w base F g p)(hbad : zal p.T a = false ∨ wdB x = false) : Calls prog 88 #[.pointer (some ⟨g,0,none⟩),.int .i8 x,.int .i64 a] w (zc7 base g F w (p,0,2)) := by
 have HP := Hd (RG.refl h)
 obtain ⟨wb,hwb⟩ : ∃ wb,wdB x = wb := ⟨_,rfl⟩;have HWB := Hd hwb
 have HBAD := Hd hbad
 clear h hwb hbad;go_enter func88,ntmps88;go_wp2_with fail
 refine (zbn x _).mono ?_;rintro e w1 ⟨rfl,rfl⟩;rw [HWB.out]
 cases wb
 ·go_wp2
  go_ret2;exact zc7.same HP.out
 ·go_wp2_with fail
  have hb0 : Below w.heap.size w (w.alloc (.cells #[.int .i64 a] 3)) := zav w _;refine (zcV [a] _ 1 1 _ (HP.out.pool.below hb0) (zbB w 3 [.int .i64 a] 1 rfl) rfl (ztn _) (by omega)).mono ?_;rintro e w1 ⟨rfl,hb⟩;have HP1 := Hd ((HP.out.step hb0).step hb)
  have hh : zal p.T a = false := HBAD.out.resolve_right (by rw [HWB.out]; simp);rw [show [a].all (zal p.T) = false by simp [hh]];clear hb hb0 hh;go_wp2;go_ret2;exact zc7.same HP1.out
theorem zb8 (x : Int)(hx : wdB x = true) : ∀ (f : Nat) (a : Int) (hb : zal p.T a = true) (F : Nat → Prop) (r : RS) (hz : zbw f p x a = some r) (w : World) (h : zaO w base F g p) (hbase : base ≤ w.heap.size),
  Calls prog 88 #[.pointer (some ⟨g,0,none⟩),.int .i8 x,.int .i64 a] w (zc7 base g F w r) := by
 intro f
 induction f with
 | zero => intro a hb F r hz; cases hz
 | succ f ih =>
 intro a hb F r hz w h hbase;have HIH := Hd ih
 obtain ⟨t,ht⟩ : ∃ t,atP p.T a = t := ⟨_,rfl⟩;have htw : t.wf := by rw [← ht]; exact zba h.rng a
 obtain ⟨nb,hnb⟩ : ∃ nb,zbY p.T a x = nb := ⟨_,rfl⟩;have HE := Hd (show (if x = 64 then some (p,a,0) else if t.kind = 0 then some (putR p (zaf (zao x t.n))) else if nb = true then some (p,a,0) else if t.kind = 3 then zbw f p x t.a else some (putR p ⟨3,0,x,0,a,0,0⟩)) = some r by rw [← hz,zbz,ht,hnb])
 have HT := Hd ht
 have HNB := Hd hnb
 have HHB := Hd hb
 have HWX := Hd hx
 have HN := Hd htw.2.2.2.1
 have HU := Hd (zau (x := x) htw.2.2.2.1)
 have HAI := Hd (zap h.wf hb)
 have HTA := Hd (fun hk => by have := (zch h.wf hb (by rw [ht]; exact hk)).2.2; rw [ht] at this; exact this : t.kind = 3 → zal p.T t.a = true)
 have HZW := Hd (zfz (zap h.wf hb) (by have := zm2 hx; unfold I8; omega : I8 x))
 have qz := fun (w : World) => zgS a x w
 have HP := Hd (RG.refl h)
 clear h ht htw hz hnb ih hb hx;go_enter func88,ntmps88;go_wp2_with fail
 refine (zbn x _).mono ?_;rintro e w1 ⟨rfl,rfl⟩;rw [HWX.out];go_wp2_with fail
 have hb0 : Below w.heap.size w (w.alloc (.cells #[.int .i64 a] 3)) := zav w _;refine (zcV [a] _ 1 1 _ (HP.out.pool.below hb0) (zbB w 3 [.int .i64 a] 1 rfl) rfl (ztn _) (by omega)).mono ?_;rintro e w1 ⟨rfl,hb⟩;have HP1 := Hd ((HP.out.step hb0).step hb)
 rw [show [a].all (zal p.T) = true by simp [HHB.out]];clear hb hb0 HP;go_wp2_with fail
 refine (zia a _ HP1.out.pool).mono ?_;rintro e w2 ⟨rfl,hb⟩;have HP2' := Hd (HP1.out.step hb)
 clear hb HP1;rw [HT.out];go_upto_region 4 with (first
  | (refine zag rfl 147 (.tmp 8) (.tmp 21) rfl _ t.cells (zaw t) (by rfl) (by rfl) rfl zcL rfl (TD.one _) ?_
     intro w5 G5 L5 Z5;have HX := Hd G5
     have HP2 := Hd (HP2'.out.step L5)
     clear G5 L5 Z5)
  | fail)
 obtain ⟨b8,hb8⟩ : ∃ b,w2.heap.size = b := ⟨_,rfl⟩;rw [hb8] at HX ⊢;clear HP2';have b0 := HX.out.cell 0;have b3 := HX.out.cell 3;simp [TD.cells] at b0 b3;have hb5 : base ≤ w5.heap.size := zto hbase HP2.out.size
 cases h64 : (x == 64);rotate_left
 ·go_wp2
  go_ret2;have he := HE.out;rw [if_pos (by simpa using h64)] at he;injection he with he
  rw [← he];exact zc7.same HP2.out
 have hx64 : x ≠ 64 := by simpa using h64
 cases hk0 : (t.kind == 0);rotate_left
 ·have hk0' : t.kind = 0 := by simpa using hk0
  have HK := Hd hk0'
  clear hk0';go_wp2_with fail
  refine (zaH _ _ HN.out _).mono ?_;rintro e w6 ⟨rfl,rfl⟩;go_wp2_with fail
  refine (zbZ _ HU.out _ HP2.out.pool hb5).mono ?_;rintro e w7 ⟨rfl,hr⟩;have HR := Hd hr
  clear hr;go_wp2;go_ret2;have he := HE.out;rw [if_neg hx64,if_pos HK.out] at he;injection he with he
  rw [← he];exact zc7.from HP2.out ⟨rfl,HR.out⟩
 have hkn0 : t.kind ≠ 0 := by simpa using hk0
 go_wp2_with fail
 refine (znX x a _ HP2.out.pool).mono ?_;rintro e w6 ⟨rfl,hb⟩;have HP3 := Hd (HP2.out.step hb)
 have HX3 := Hd (HX.out.below hb HX.out.lt)
 rw [HHB.out,HWX.out,HNB.out];clear hb b0 b3;have b0 := HX3.out.cell 0;have b4 := HX3.out.cell 4;simp [TD.cells] at b0 b4;have hb6 : base ≤ w6.heap.size := zto hbase HP3.out.size
 cases nb;rotate_left
 ·go_wp2
  go_ret2;have he := HE.out;rw [if_neg hx64,if_neg hkn0,if_pos trivial] at he;injection he with he
  rw [← he];exact zc7.same HP3.out
 cases hk3 : (t.kind == 3)
 ·have hkn3 : t.kind ≠ 3 := by simpa using hk3
  go_wp2_with fail
  refine (zda _ HZW.out _ HP3.out.pool hb6).mono ?_;rintro e w7 ⟨rfl,hr⟩;have HR := Hd hr
  clear hr;go_wp2;go_ret2;have he := HE.out;rw [if_neg hx64,if_neg hkn0,if_neg (by simp),if_neg hkn3] at he;injection he with he
  rw [← he];exact zc7.from HP3.out ⟨rfl,HR.out⟩
 ·have hk3' : t.kind = 3 := by simpa using hk3
  have hrec : zbw f p x t.a = some r := by
   have he := HE.out;rw [if_neg hx64,if_neg hkn0,if_neg (by simp),if_pos hk3'] at he;exact he
  have HREC := Hd hrec
  have HTB := Hd (HTA.out hk3')
  clear hrec hk3';go_wp2_with fail
  refine (HIH.out t.a HTB.out _ r HREC.out _ HP3.out.pool hb6).mono ?_;rintro e w7 ⟨rfl,hr⟩;have HR := Hd hr
  clear hr;go_wp2;go_ret2;exact zc7.from HP3.out ⟨rfl,HR.out⟩
theorem zrg (f : Nat)(x a : Int)(r : RS)(hz : ze3 f p x a = some r)(w : World)(h : zaO w base F g p)(hbase : base ≤ w.heap.size) :
  Calls prog 88 #[.pointer (some ⟨g,0,none⟩),.int .i8 x,.int .i64 a] w (zc7 base g F w r) := by
 unfold ze3 at hz
 split at hz
 ·rename_i hbad
  injection hz with hz
  rw [← hz];exact zkn x a w h hbad
 ·rename_i hok
  have h2 : zal p.T a = true ∧ wdB x = true := by
   cases e1 : zal p.T a <;> cases e2 : wdB x <;> simp_all
  exact zb8 x h2.2 f a h2.1 F r hz w h hbase
end
end
end Go.Proofs.YtepagfkkjlbipaaGreat
