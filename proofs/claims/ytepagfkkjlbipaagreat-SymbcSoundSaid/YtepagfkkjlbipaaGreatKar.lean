/-
  Parts of the proof of SymbcSound. Conditions: those written in each statement.
-/
import Derived.Test.YtepagfkkjlbipaaGreatKaq
import Derived.Test.YtepagfkkjlbipaaGreatKaq
set_option linter.unusedVariables false
set_option linter.unusedSimpArgs false
set_option maxHeartbeats 64000000
set_option maxRecDepth 100000
namespace Go.Proofs.YtepagfkkjlbipaaGreat
section
open Go.RowKit
theorem both_wf {p : PS} (hw : WfP p) (hr : ∀ t ∈ p.T, t.wf) {a b : Int} (ha : I64 a) (hb : I64 b) (x : Int) : WfP (bothP p x a b).1 ∧ ∀ t ∈ (bothP p x a b).1.T, t.wf := by
 obtain ⟨h1, h2, h3⟩ := operand_i64 hw hr ha x
 unfold bothP
 dsimp only
 split
 ·exact (operand_i64 h2 h3 hb x).2
 ·exact ⟨h2, h3⟩
def Ext (p q : PS) : Prop := ∃ s, q.T = p.T ++ s
theorem Ext.refl (p : PS) : Ext p p := ⟨[], by simp⟩
theorem Ext.trans {p q r : PS} (h : Ext p q) (k : Ext q r) : Ext p r := by
 obtain ⟨s, hs⟩ := h
 obtain ⟨t, ht⟩ := k
 exact ⟨s ++ t, by rw [ht, hs, List.append_assoc]⟩
theorem Ext.put (p : PS) (t : TD) : Ext p (putP p t) := by
 rcases putP_cases p t with ⟨e, _⟩ | ⟨_, _, _, _, e, _⟩
 ·rw [e]; exact Ext.refl p
 ·rw [e]; exact ⟨[t], rfl⟩
theorem Ext.has {p q : PS} (h : Ext p q) {n : Int} (hn : hasB p.T n = true) : hasB q.T n = true := by
 obtain ⟨s, hs⟩ := h
 unfold hasB at *
 simp at hn ⊢
 rw [hs]
 simp
 omega
theorem Ext.at_ {p q : PS} (h : Ext p q) {n : Int} (hn : hasB p.T n = true) : atP q.T n = atP p.T n := by
 have h2 := h.has hn
 obtain ⟨s, hs⟩ := h
 unfold atP
 rw [if_pos hn, if_pos h2, hs]
 unfold hasB at hn
 simp at hn
 rw [List.getD_eq_getElem?_getD, List.getD_eq_getElem?_getD, List.getElem?_append_left (by omega)]
theorem put_at {p : PS} {t : TD} (h : (putN p t).2 = 0) : hasB (putP p t).T (putN p t).1 = true ∧ atP (putP p t).T (putN p t).1 = t := by
 have key : ∀ (T : List TD) (i : Nat), T[i]? = some t → hasB T (i : Int) = true ∧ atP T (i : Int) = t := by
  intro T i hi
  have hl := (List.getElem?_eq_some_iff.1 hi).1
  have hb : hasB T (i : Int) = true := by unfold hasB; simp; omega
  refine ⟨hb, ?_⟩
  unfold atP
  rw [if_pos hb, List.getD_eq_getElem?_getD, show ((i : Int)).toNat = i by omega, hi]
  rfl
 rcases putP_cases p t with ⟨e, q⟩ | ⟨_, _, _, _, e, q⟩
 ·rcases q with ⟨_, q⟩ | ⟨_, i, hi, _, q⟩ | ⟨_, _, _, q⟩
  ·rw [q] at h; cases h
  ·rw [e, q]; exact key _ _ hi
  ·rw [q] at h; cases h
 ·rw [e, q]; exact key _ _ (by simp)
theorem operand_cases (p : PS) (x a : Int) : ((atP p.T a).kind = 0 ∧ operandP p x a = putR p (constT (cutV x (atP p.T a).n))) ∨ ((atP p.T a).kind = 3 ∧ operandP p x a = (p, (atP p.T a).a, 0)) ∨ ((atP p.T a).kind ≠ 0 ∧ operandP p x a = (p, a, 0)) := by
 unfold operandP
 dsimp only
 by_cases h : (atP p.T a).kind = 0
 ·exact .inl ⟨h, by rw [if_pos h]⟩
 ·rw [if_neg h]
  by_cases h2 : x = 32 ∧ (atP p.T a).kind = 3 ∧ (atP p.T a).w = 32
  ·exact .inr (.inl ⟨h2.2.1, by rw [if_pos h2]⟩)
  ·exact .inr (.inr ⟨h, by rw [if_neg h2]⟩)
theorem operand_ext (p : PS) (x a : Int) : Ext p (operandP p x a).1 := by
 rcases operand_cases p x a with ⟨_, e⟩ | ⟨_, e⟩ | ⟨_, e⟩
 ·rw [e]; exact Ext.put p _
 ·rw [e]; exact Ext.refl p
 ·rw [e]; exact Ext.refl p
theorem both_ext (p : PS) (x a b : Int) : Ext p (bothP p x a b).1 := by
 unfold bothP
 dsimp only
 split
 ·exact (operand_ext p x a).trans (operand_ext _ x b)
 ·exact operand_ext p x a
theorem has_part {p : PS} (hw : WfP p) {n : Int} (hn : hasB p.T n = true) (hk : (atP p.T n).kind = 3) : 0 ≤ (atP p.T n).a ∧ (atP p.T n).a < n ∧ hasB p.T (atP p.T n).a = true := by
 have h := part_less hw hn (k := (atP p.T n).a) (by unfold prtL; rw [if_neg (by omega), if_pos hk]; simp)
 refine ⟨h.1, h.2, ?_⟩
 unfold hasB at *
 simp at hn ⊢
 omega
theorem operand_facts {p : PS} (hw : WfP p) {x a : Int} (ha : hasB p.T a = true) (h0 : (operandP p x a).2.2 = 0) :
  hasB (operandP p x a).1.T (operandP p x a).2.1 = true ∧ ((atP (operandP p x a).1.T (operandP p x a).2.1).kind = 0 ∨ (operandP p x a).2.1 ≤ a) ∧ ((atP p.T a).kind = 0 → (atP (operandP p x a).1.T (operandP p x a).2.1).kind = 0) := by
 rcases operand_cases p x a with ⟨k, e⟩ | ⟨k, e⟩ | ⟨k, e⟩
 ·rw [e] at h0 ⊢
  have := put_at h0
  refine ⟨this.1, .inl ?_, fun _ => ?_⟩
  ·show (atP (putP p _).T (putN p _).1).kind = 0; rw [this.2]; rfl
  ·show (atP (putP p _).T (putN p _).1).kind = 0; rw [this.2]; rfl
 ·rw [e]
  have := has_part hw ha k
  exact ⟨this.2.2, .inr (by show (atP p.T a).a ≤ a; omega), fun q => absurd q (by omega)⟩
 ·rw [e]
  exact ⟨ha, .inr (Int.le_refl _), fun q => absurd q k⟩
theorem both_facts {p : PS} (hw : WfP p) (hr : ∀ t ∈ p.T, t.wf) {x a b : Int} (ha : hasB p.T a = true) (hb : hasB p.T b = true) (h0 : (bothP p x a b).2.2.2 = 0) :
  hasB (bothP p x a b).1.T (bothP p x a b).2.1 = true ∧ hasB (bothP p x a b).1.T (bothP p x a b).2.2.1 = true ∧
  ((atP (bothP p x a b).1.T (bothP p x a b).2.1).kind = 0 ∨ (bothP p x a b).2.1 ≤ a) ∧ ((atP (bothP p x a b).1.T (bothP p x a b).2.2.1).kind = 0 ∨ (bothP p x a b).2.2.1 ≤ b) ∧
  ((atP p.T a).kind = 0 → (atP (bothP p x a b).1.T (bothP p x a b).2.1).kind = 0) ∧ ((atP p.T b).kind = 0 → (atP (bothP p x a b).1.T (bothP p x a b).2.2.1).kind = 0) := by
 have hI : I64 a := by
  unfold hasB at ha
  simp at ha
  have := hw.few
  unfold I64
  omega
 have h1 := operand_i64 hw hr hI x
 unfold bothP at h0 ⊢
 dsimp only at h0 ⊢
 by_cases he : (operandP p x a).2.2 = 0
 ·rw [if_pos he] at h0 ⊢
  dsimp only at h0 ⊢
  have f1 := operand_facts hw ha he
  have e1 := operand_ext p x a
  have hb1 := e1.has hb
  have ab1 := e1.at_ hb
  have f2 := operand_facts h1.2.1 hb1 h0
  have e2 := operand_ext (operandP p x a).1 x b
  rw [ab1] at f2
  refine ⟨e2.has f1.1, f2.1, ?_, f2.2.1, ?_, f2.2.2⟩
  ·rw [e2.at_ f1.1]; exact f1.2.1
  ·rw [e2.at_ f1.1]; exact f1.2.2
 ·rw [if_neg he] at h0
  exact absurd h0 he
theorem zextF_mono : ∀ (f : Nat) {g : Nat} (p : PS) (x a : Int) (r : RS), f ≤ g → zextF f p x a = some r → zextF g p x a = some r
 | 0, _, _, _, _, _, _, h => by cases h
 | f + 1, 0, _, _, _, _, hg, _ => by omega
 | f + 1, g + 1, p, x, a, r, hg, h => by
  rw [zextF_succ] at h ⊢
  split
  ·rename_i h1; rw [if_pos h1] at h; exact h
  ·rename_i h1
   rw [if_neg h1] at h
   split
   ·rename_i h2; rw [if_pos h2] at h; exact h
   ·rename_i h2
    rw [if_neg h2] at h
    split
    ·rename_i h3; rw [if_pos h3] at h; exact h
    ·rename_i h3
     rw [if_neg h3] at h
     split
     ·rename_i h4; rw [if_pos h4] at h; exact zextF_mono f p x _ r (by omega) h
     ·rename_i h4; rw [if_neg h4] at h; exact h
theorem zextF_some {p : PS} (hw : WfP p) (x : Int) : ∀ (f : Nat) (a : Int), a.toNat < f → ∃ r, zextF f p x a = some r
 | 0, a, h => by omega
 | f + 1, a, h => by
  rw [zextF_succ]
  split
  ·exact ⟨_, rfl⟩
  split
  ·exact ⟨_, rfl⟩
  split
  ·exact ⟨_, rfl⟩
  split
  ·rename_i h3
   cases hb : hasB p.T a
   ·rw [atP_no hb] at h3; cases h3
   ·have := has_part hw hb h3
    exact zextF_some hw x f _ (by omega)
  ·exact ⟨_, rfl⟩
theorem bindR_mono {r s : RS} {k1 k2 : PS → Int → Option RS} (h : bindR r k1 = some s) (hk : ∀ p z s, k1 p z = some s → k2 p z = some s) : bindR r k2 = some s := by
 unfold bindR at h ⊢
 split
 ·rename_i h0; rw [if_pos h0] at h; exact hk _ _ _ h
 ·rename_i h0; rw [if_neg h0] at h; exact h
theorem opL_mono {rec1 rec2 : PS → Int → Int → Int → Option RS} {f g : Nat} (hfg : f ≤ g) (hrec : ∀ q o u v s, rec1 q o u v = some s → rec2 q o u v = some s) {p : PS} {op x a b : Int} {r : RS} (h : opL rec1 f p op x a b = some r) : opL rec2 g p op x a b = some r := by
 unfold opL at h ⊢
 dsimp only at h ⊢
 split
 ·rename_i h1; rw [if_pos h1] at h; exact h
 ·rename_i h1
  rw [if_neg h1] at h
  split
  ·rename_i h2; rw [if_pos h2] at h; exact bindR_mono h fun _ _ _ q => hrec _ _ _ _ _ q
  ·rename_i h2
   rw [if_neg h2] at h
   split
   ·rename_i h3; rw [if_pos h3] at h; exact zextF_mono f _ _ _ _ hfg h
   ·rename_i h3
    rw [if_neg h3] at h
    split
    ·rename_i h4; rw [if_pos h4] at h; exact bindR_mono h fun _ _ _ q => hrec _ _ _ _ _ q
    ·rename_i h4
     rw [if_neg h4] at h
     split
     ·rename_i h5; rw [if_pos h5] at h; exact hrec _ _ _ _ _ h
     ·rename_i h5
      rw [if_neg h5] at h
      split
      ·rename_i h6; rw [if_pos h6] at h; exact bindR_mono h fun _ _ _ q => hrec _ _ _ _ _ q
      ·rename_i h6
       rw [if_neg h6] at h
       split
       ·rename_i h7; rw [if_pos h7] at h; exact zextF_mono f _ _ _ _ hfg h
       ·rename_i h7
        rw [if_neg h7] at h
        split
        ·rename_i h8; rw [if_pos h8] at h; exact h
        ·rename_i h8
         rw [if_neg h8] at h
         split
         ·rename_i h9; rw [if_pos h9] at h; exact h
         ·rename_i h9
          rw [if_neg h9] at h
          split
          ·rename_i h10; rw [if_pos h10] at h; exact zextF_mono f _ _ _ _ hfg h
          ·rename_i h10; rw [if_neg h10] at h; exact h
theorem opF_mono : ∀ (f : Nat) {g : Nat} (p : PS) (op x a b : Int) (r : RS), f ≤ g → opF f p op x a b = some r → opF g p op x a b = some r
 | 0, _, _, _, _, _, _, _, _, h => by cases h
 | f + 1, 0, _, _, _, _, _, _, hg, _ => by omega
 | f + 1, g + 1, p, op, x, a, b, r, hg, h => by
  rw [opF_succ] at h ⊢
  split
  ·rename_i h1; rw [if_pos h1] at h; exact h
  ·rename_i h1
   rw [if_neg h1] at h
   split
   ·rename_i h2; rw [if_pos h2] at h; exact h
   ·rename_i h2
    rw [if_neg h2] at h
    split
    ·rename_i h3
     rw [if_pos h3] at h
     exact opL_mono (by omega) (fun q o u v s hs => opF_mono f q o x u v s (by omega) hs) h
    ·rename_i h3; rw [if_neg h3] at h; exact h
def OpS (p : PS) (op x a b : Int) : Prop := ∃ f r, opF f p op x a b = some r
theorem opL_some {p : PS} (hw : WfP p) {op x a b : Int}
  (H8 : op = 8 → ∀ q : RS, q = putR p (constT 0) → q.2.2 = 0 → OpS q.1 1 x q.2.1 a)
  (H1 : ((atP p.T a).kind == 0 && (atP p.T b).kind == 0) = false → op = 1 → (atP p.T b).kind = 0 → ∀ (n : Int) (q : RS), U64 n → q = putR p (constT n) → q.2.2 = 0 → OpS q.1 0 x a q.2.1)
  (H7 : ((atP p.T a).kind == 0 && (atP p.T b).kind == 0) = false → (turnsB op && ((atP p.T a).kind == 0 || (!((atP p.T b).kind == 0) && decide (b < a)))) = true → OpS p op x b a)
  (HA : ((atP p.T a).kind == 0 && (atP p.T b).kind == 0) = false → assocB p.T (atP p.T a) op x ((atP p.T b).kind == 0) = true → ∀ (n : Int) (q : RS), U64 n → q = putR p (constT n) → q.2.2 = 0 → OpS q.1 0 x (atP p.T a).a q.2.1) :
  ∃ f r, opL (fun q o u v => opF f q o x u v) f p op x a b = some r := by
 obtain ⟨za, hza⟩ := zextF_some hw x (a.toNat + 1) a (by omega)
 obtain ⟨zb, hzb⟩ := zextF_some hw x (b.toNat + 1) b (by omega)
 have bnd : ∀ {r : RS} {o u : Int} (g : PS → Int → Int × Int), (r.2.2 = 0 → OpS r.1 o x (g r.1 r.2.1).1 (g r.1 r.2.1).2) → ∃ f s, bindR r (fun q z => opF f q o x (g q z).1 (g q z).2) = some s := by
  intro r o u g h
  by_cases h0 : r.2.2 = 0
  ·obtain ⟨f, s, hs⟩ := h h0
   exact ⟨f, s, by unfold bindR; rw [if_pos h0]; exact hs⟩
  ·exact ⟨0, _, by unfold bindR; rw [if_neg h0]⟩
 unfold opL
 dsimp only
 cases h1 : ((atP p.T a).kind == 0 && (atP p.T b).kind == 0)
 rotate_left
 ·exact ⟨0, _, by rw [if_pos rfl]⟩
 by_cases h2 : op = 8
 ·obtain ⟨f, s, hs⟩ := bnd (o := 1) (u := 0) (fun _ z => (z, a)) (r := putR p (constT 0)) fun h0 => H8 h2 _ rfl h0
  exact ⟨f, s, by rw [if_neg (by simp), if_pos h2]; exact hs⟩
 by_cases h3 : op = 11
 ·exact ⟨_, zb, by rw [if_neg (by simp), if_neg h2, if_pos h3]; exact hzb⟩
 cases h4 : (op == 1 && (atP p.T b).kind == 0)
 rotate_left
 ·have hk : op = 1 ∧ (atP p.T b).kind = 0 := by simpa using h4
  obtain ⟨f, s, hs⟩ := bnd (o := 0) (u := 0) (fun _ z => (a, z)) (r := putR p (constT (cutV x (IntKind.u64.wrap (-(atP p.T b).n))))) fun h0 => H1 h1 hk.1 hk.2 _ _ (cutV_u64 (wrap_u64 _)) rfl h0
  exact ⟨f, s, by rw [if_neg (by simp), if_neg h2, if_neg h3, if_pos rfl]; exact hs⟩
 cases h5 : (turnsB op && ((atP p.T a).kind == 0 || (!((atP p.T b).kind == 0) && decide (b < a))))
 rotate_left
 ·obtain ⟨f, s, hs⟩ := H7 h1 h5
  exact ⟨f, s, by rw [if_neg (by simp), if_neg h2, if_neg h3, if_neg (by simp), if_pos rfl]; exact hs⟩
 cases h6 : assocB p.T (atP p.T a) op x ((atP p.T b).kind == 0)
 rotate_left
 ·obtain ⟨f, s, hs⟩ := bnd (o := 0) (u := 0) (fun _ z => ((atP p.T a).a, z)) (r := putR p (constT (cutV x (IntKind.u64.wrap ((atP p.T (atP p.T a).b).n + (atP p.T b).n))))) fun h0 => HA h1 h6 _ _ (cutV_u64 (wrap_u64 _)) rfl h0
  exact ⟨f, s, by rw [if_neg (by simp), if_neg h2, if_neg h3, if_neg (by simp), if_neg (by simp), if_pos rfl]; exact hs⟩
 cases h7 : ((atP p.T b).kind == 0 && sameB op x (atP p.T b).n)
 rotate_left
 ·exact ⟨_, za, by rw [if_neg (by simp), if_neg h2, if_neg h3, if_neg (by simp), if_neg (by simp), if_neg (by simp), if_pos rfl]; exact hza⟩
 cases h8 : ((atP p.T b).kind == 0 && nilB op (atP p.T b).n)
 rotate_left
 ·exact ⟨0, _, by rw [if_neg (by simp), if_neg h2, if_neg h3, if_neg (by simp), if_neg (by simp), if_neg (by simp), if_neg (by simp), if_pos rfl]⟩
 cases h9 : (a == b && (op == 1 || op == 10))
 rotate_left
 ·exact ⟨0, _, by rw [if_neg (by simp), if_neg h2, if_neg h3, if_neg (by simp), if_neg (by simp), if_neg (by simp), if_neg (by simp), if_neg (by simp), if_pos rfl]⟩
 cases h10 : (a == b && (op == 5 || op == 4))
 rotate_left
 ·exact ⟨_, za, by rw [if_neg (by simp), if_neg h2, if_neg h3, if_neg (by simp), if_neg (by simp), if_neg (by simp), if_neg (by simp), if_neg (by simp), if_neg (by simp), if_pos rfl]; exact hza⟩
 ·exact ⟨0, _, by rw [if_neg (by simp), if_neg h2, if_neg h3, if_neg (by simp), if_neg (by simp), if_neg (by simp), if_neg (by simp), if_neg (by simp), if_neg (by simp), if_neg (by simp)]⟩
theorem opF_some {p : PS} {op x a b : Int} (h : hasB p.T a = true → hasB p.T b = true → doOk op x = true → (bothP p x a b).2.2.2 = 0 → ∃ f r, opL (fun q o u v => opF f q o x u v) f (bothP p x a b).1 op x (bothP p x a b).2.1 (bothP p x a b).2.2.1 = some r) : OpS p op x a b := by
 cases ha : hasB p.T a
 ·exact ⟨1, _, by rw [opF_succ, if_pos (by rw [ha]; rfl)]⟩
 cases hb : hasB p.T b
 ·exact ⟨1, _, by rw [opF_succ, if_pos (by rw [ha, hb]; rfl)]⟩
 cases hd : doOk op x
 ·exact ⟨1, _, by rw [opF_succ, if_neg (by rw [ha, hb]; simp), if_pos hd]⟩
 by_cases h0 : (bothP p x a b).2.2.2 = 0
 ·obtain ⟨f, r, hr⟩ := h ha hb hd h0
  exact ⟨f + 1, r, by rw [opF_succ, if_neg (by rw [ha, hb]; simp), if_neg (by rw [hd]; simp), if_pos h0]; exact hr⟩
 ·exact ⟨1, _, by rw [opF_succ, if_neg (by rw [ha, hb]; simp), if_neg (by rw [hd]; simp), if_neg h0]⟩
theorem const_facts {p : PS} (hw : WfP p) (hr : ∀ t ∈ p.T, t.wf) {n : Int} (hn : U64 n) {q : RS} (hq : q = putR p (constT n)) : WfP q.1 ∧ (∀ t ∈ q.1.T, t.wf) ∧ (q.2.2 = 0 → hasB q.1.T q.2.1 = true ∧ (atP q.1.T q.2.1).kind = 0) := by
 subst hq
 refine ⟨hw.put _, fun t ht => ?_, fun h => ?_⟩
 ·have ht' : t ∈ (putP p (constT n)).T := ht
  rcases putP_cases p (constT n) with ⟨e, _⟩ | ⟨_, _, _, _, e, _⟩
  ·rw [e] at ht'; exact hr t ht'
  ·rw [e] at ht'
   rcases List.mem_append.1 ht' with q | q
   ·exact hr t q
   ·simp at q; rw [q]; exact constT_wf hn
 ·have := put_at h
  refine ⟨this.1, ?_⟩
  show (atP (putP p _).T (putN p _).1).kind = 0
  rw [this.2]; rfl
theorem has_i64 {p : PS} (hw : WfP p) {n : Int} (h : hasB p.T n = true) : I64 n := by
 unfold hasB at h
 simp at h
 have := hw.few
 unfold I64
 omega
theorem has_nat {p : PS} {n : Int} (h : hasB p.T n = true) : 0 ≤ n := by
 unfold hasB at h
 simp at h
 omega
theorem add_const (x : Int) : ∀ (N : Nat) (p : PS) (hw : WfP p) (hr : ∀ t ∈ p.T, t.wf) (a b : Int), a.toNat < N → (atP p.T b).kind = 0 → OpS p 0 x a b := by
 intro N
 induction N with
 | zero => intro p hw hr a b h; omega
 | succ N ih =>
  intro p hw hr a b hN hk
  refine opF_some fun ha hb hd h0 => ?_
  have hf := both_facts hw hr ha hb h0
  have hw2 := both_wf hw hr (has_i64 hw ha) (has_i64 hw hb) x
  refine opL_some hw2.1 (fun h => absurd h (by decide)) (fun _ h => absurd h (by decide)) (fun h1 h7 => ?_) (fun h1 hA n q hn hq hq0 => ?_)
  ·have hkb := hf.2.2.2.2.2 hk
   rw [hkb] at h1 h7
   simp at h1 h7
   exact absurd h7.2 h1
  ·have hkb := hf.2.2.2.2.2 hk
   have hc := const_facts hw2.1 hw2.2 hn hq
   rw [hkb] at h1
   have hka : (atP (bothP p x a b).1.T (bothP p x a b).2.1).kind ≠ 0 := by simpa using h1
   have hA2 : (atP (bothP p x a b).1.T (bothP p x a b).2.1).kind = 2 := by unfold assocB at hA; simp at hA; exact hA.2.2.1
   have hpl := part_less hw2.1 hf.1 (k := (atP (bothP p x a b).1.T (bothP p x a b).2.1).a) (by unfold prtL; rw [if_pos (.inl hA2)]; simp)
   have hle := hf.2.2.1.resolve_left hka
   exact ih q.1 hc.1 hc.2.1 _ _ (by omega) (hc.2.2 hq0).2
theorem sub_some (x : Int) (p : PS) (hw : WfP p) (hr : ∀ t ∈ p.T, t.wf) (a b : Int) : OpS p 1 x a b := by
 refine opF_some fun ha hb hd h0 => ?_
 have hw2 := both_wf hw hr (has_i64 hw ha) (has_i64 hw hb) x
 refine opL_some hw2.1 (fun h => absurd h (by decide)) (fun h1 _ hkb n q hn hq hq0 => ?_) (fun h1 h7 => absurd h7 (by simp [turnsB])) (fun h1 hA => absurd hA (by simp [assocB]))
 have hc := const_facts hw2.1 hw2.2 hn hq
 exact add_const x _ q.1 hc.1 hc.2.1 _ _ (Nat.lt_succ_self _) (hc.2.2 hq0).2
theorem turn_const (op x : Int) (p : PS) (hw : WfP p) (hr : ∀ t ∈ p.T, t.wf) (a b : Int) (ht : turnsB op = true) (hk : (atP p.T b).kind = 0) : OpS p op x a b := by
 by_cases h0 : op = 0
 ·subst h0; exact add_const x _ p hw hr a b (Nat.lt_succ_self _) hk
 ·have h8 : op ≠ 8 := fun e => by subst e; simp [turnsB] at ht
  have h1 : op ≠ 1 := fun e => by subst e; simp [turnsB] at ht
  refine opF_some fun ha hb hd he => ?_
  have hf := both_facts hw hr ha hb he
  have hw2 := both_wf hw hr (has_i64 hw ha) (has_i64 hw hb) x
  refine opL_some hw2.1 (fun h => absurd h h8) (fun _ h => absurd h h1) (fun h1 h7 => ?_) (fun h1 hA => ?_)
  ·have hkb := hf.2.2.2.2.2 hk
   rw [hkb] at h1 h7
   simp at h1 h7
   exact absurd h7.2 h1
  ·unfold assocB at hA; simp at hA; exact absurd hA.1 h0
theorem turn_some (op x : Int) (ht : turnsB op = true) : ∀ (N : Nat) (p : PS) (hw : WfP p) (hr : ∀ t ∈ p.T, t.wf) (a b : Int), 2 * (a.toNat + b.toNat) + (if a < b then 0 else 1) < N → OpS p op x a b := by
 intro N
 induction N with
 | zero => intro p hw hr a b h; omega
 | succ N ih =>
  intro p hw hr a b hN
  have h8 : op ≠ 8 := fun e => by subst e; simp [turnsB] at ht
  have h1 : op ≠ 1 := fun e => by subst e; simp [turnsB] at ht
  refine opF_some fun ha hb hd he => ?_
  have hf := both_facts hw hr ha hb he
  have hw2 := both_wf hw hr (has_i64 hw ha) (has_i64 hw hb) x
  refine opL_some hw2.1 (fun h => absurd h h8) (fun _ h => absurd h h1) (fun hk h7 => ?_) (fun hk hA n q hn hq hq0 => ?_)
  ·simp at h7
   by_cases hka : (atP (bothP p x a b).1.T (bothP p x a b).2.1).kind = 0
   ·exact turn_const op x _ hw2.1 hw2.2 _ _ ht hka
   ·have h72 := h7.2.resolve_left hka
    have ea := hf.2.2.1.resolve_left hka
    have eb := hf.2.2.2.1.resolve_left h72.1
    have na := has_nat hf.1
    have nb := has_nat hf.2.1
    refine ih _ hw2.1 hw2.2 _ _ ?_
    rw [if_pos h72.2]
    split at hN <;> omega
  ·have hc := const_facts hw2.1 hw2.2 hn hq
   exact add_const x _ q.1 hc.1 hc.2.1 _ _ (Nat.lt_succ_self _) (hc.2.2 hq0).2
theorem op_some (op x : Int) (p : PS) (hw : WfP p) (hr : ∀ t ∈ p.T, t.wf) (a b : Int) : OpS p op x a b := by
 cases ht : turnsB op
 rotate_left
 ·exact turn_some op x ht _ p hw hr a b (Nat.lt_succ_self _)
 by_cases h1 : op = 1
 ·subst h1; exact sub_some x p hw hr a b
 refine opF_some fun ha hb hd he => ?_
 have hw2 := both_wf hw hr (has_i64 hw ha) (has_i64 hw hb) x
 refine opL_some hw2.1 (fun h q hq hq0 => ?_) (fun _ h => absurd h h1) (fun hk h7 => absurd h7 (by rw [ht]; simp)) (fun hk hA => ?_)
 ·have hc := const_facts hw2.1 hw2.2 zero_u64 hq
  exact sub_some x q.1 hc.1 hc.2.1 _ _
 ·unfold assocB at hA
  simp at hA
  rw [hA.1] at ht
  simp [turnsB] at ht
def CondS (p : PS) (cc x a b : Int) : Prop := ∃ f r, condF f p cc x a b = some r
theorem cond_plain (p : PS) (cc x a b : Int) (hc : turnedB cc = false) : ∃ r, condF 1 p cc x a b = some r := by
 rw [condF_succ]
 split
 ·exact ⟨_, rfl⟩
 split
 ·exact ⟨_, rfl⟩
 split
 ·unfold condL
  dsimp only
  split
  ·exact ⟨_, rfl⟩
  split
  ·exact ⟨_, rfl⟩
  rw [if_neg (by rw [hc]; simp)]
  split
  ·exact ⟨_, rfl⟩
  ·exact ⟨_, rfl⟩
 ·exact ⟨_, rfl⟩
theorem turned_once (cc : Int) (h : turnedB cc = true) : turnedB (turnedV cc) = false := by
 unfold turnedB at h
 simp at h
 rcases h with h | h | h | h <;> subst h <;> rfl
theorem cond_some (p : PS) (cc x a b : Int) : ∃ r, condF 2 p cc x a b = some r := by
 rw [condF_succ]
 split
 ·exact ⟨_, rfl⟩
 split
 ·exact ⟨_, rfl⟩
 split
 ·unfold condL
  dsimp only
  split
  ·exact ⟨_, rfl⟩
  split
  ·exact ⟨_, rfl⟩
  split
  ·rename_i h; exact cond_plain _ _ _ _ _ (turned_once cc h)
  split
  ·exact ⟨_, rfl⟩
  ·exact ⟨_, rfl⟩
 ·exact ⟨_, rfl⟩
theorem put_facts {p : PS} (hw : WfP p) (hr : ∀ t ∈ p.T, t.wf) {t : TD} (ht : t.wf) : WfP (putP p t) ∧ ∀ u ∈ (putP p t).T, u.wf := by
 refine ⟨hw.put _, fun u hu => ?_⟩
 rcases putP_cases p t with ⟨e, _⟩ | ⟨_, _, _, _, e, _⟩
 ·rw [e] at hu; exact hr u hu
 ·rw [e] at hu
  rcases List.mem_append.1 hu with q | q
  ·exact hr u q
  ·simp at q; rw [q]; exact ht
end
section
open Go.RowKit
structure Good (p : PS) (r : RS) : Prop where
 ext : Ext p r.1
 wf : WfP r.1
 rng : ∀ t ∈ r.1.T, t.wf
 has : r.2.2 = 0 → hasB r.1.T r.2.1 = true
section
variable {p q : PS} {r s : RS}
theorem Good.err (hw : WfP p) (hr : ∀ t ∈ p.T, t.wf) (n : Int) {e : Int} (he : e ≠ 0) : Good p (p, n, e) := ⟨Ext.refl p, hw, hr, fun h => absurd h he⟩
theorem Good.same (hw : WfP p) (hr : ∀ t ∈ p.T, t.wf) {n : Int} (h : hasB p.T n = true) : Good p (p, n, 0) := ⟨Ext.refl p, hw, hr, fun _ => h⟩
theorem Good.put (hw : WfP p) (hr : ∀ t ∈ p.T, t.wf) {t : TD} (ht : t.wf) : Good p (putR p t) := ⟨Ext.put p t, (put_facts hw hr ht).1, (put_facts hw hr ht).2, fun h => (put_at h).1⟩
theorem Good.up (h : Ext p q) (k : Good q r) : Good p r := ⟨h.trans k.ext, k.wf, k.rng, k.has⟩
theorem Good.bind {k : PS → Int → Option RS} (h : Good p r) (hk : r.2.2 = 0 → ∀ s, k r.1 r.2.1 = some s → Good r.1 s) (hs : bindR r k = some s) : Good p s := by
 unfold bindR at hs
 split at hs
 ·rename_i h0; exact (hk h0 s hs).up h.ext
 ·rename_i h0
  injection hs with hs
  subst hs
  exact ⟨h.ext, h.wf, h.rng, fun e => absurd e h0⟩
end
theorem zext_good : ∀ (f : Nat) {p : PS} (hw : WfP p) (hr : ∀ t ∈ p.T, t.wf) {x a : Int} {r : RS} (hx : I8 x) (ha : hasB p.T a = true), zextF f p x a = some r → Good p r
 | 0, _, _, _, _, _, _, _, _, h => by cases h
 | f + 1, p, hw, hr, x, a, r, hx, ha, h => by
  rw [zextF_succ] at h
  split at h
  ·injection h with h; subst h; exact Good.same hw hr ha
  split at h
  ·injection h with h; subst h; exact Good.put hw hr (constT_wf (cutV_u64 (atP_wf hr a).2.2.2.1))
  split at h
  ·injection h with h; subst h; exact Good.same hw hr ha
  split at h
  ·rename_i h3; exact zext_good f hw hr hx (has_part hw ha h3).2.2 h
  ·injection h with h; subst h; exact Good.put hw hr (zextT_wf (has_i64 hw ha) hx)
theorem opT_wf' {op x a b : Int} (ho : I8 op) (hx : I8 x) (ha : I64 a) (hb : I64 b) : (opT op x a b).wf := by unfold TD.wf I8 U64 I64 opT; unfold I8 at ho hx; unfold I64 at ha hb; dsimp only; exact ⟨by omega, ho, hx, by omega, ha, hb, by omega⟩
theorem op_good : ∀ (f : Nat) {p : PS} (hw : WfP p) (hr : ∀ t ∈ p.T, t.wf) {op x a b : Int} {r : RS}, opF f p op x a b = some r → Good p r
 | 0, _, _, _, _, _, _, _, _, h => by cases h
 | f + 1, p, hw, hr, op, x, a, b, r, h => by
  rw [opF_succ] at h
  split at h
  ·injection h with h; subst h; exact Good.err hw hr 0 (by decide)
  rename_i hab
  have hab : hasB p.T a = true ∧ hasB p.T b = true := by simpa using hab
  split at h
  ·injection h with h; subst h; exact Good.err hw hr 0 (by decide)
  rename_i hd
  have hd := doOk_yes (op := op) (x := x) (by simpa using hd)
  have hI8 : I8 op ∧ I8 x := by unfold I8; omega
  have hw2 := both_wf hw hr (has_i64 hw hab.1) (has_i64 hw hab.2) x
  have he := both_ext p x a b
  split at h
  ·rename_i h0
   have hf := both_facts hw hr hab.1 hab.2 h0
   refine Good.up he ?_
   have hrec : ∀ {q : PS} (h1 : WfP q) (h2 : ∀ t ∈ q.T, t.wf) {o u v : Int} {s : RS}, opF f q o x u v = some s → Good q s := fun {_} h1 h2 {_ _ _ _} hs => op_good f h1 h2 hs
   generalize bothP p x a b = z at h hw2 hf
   obtain ⟨p1, a1, b1, e1⟩ := z
   dsimp only at h hw2 hf
   have hc : ∀ {n : Int}, U64 n → Good p1 (putR p1 (constT n)) := fun hn => Good.put hw2.1 hw2.2 (constT_wf hn)
   have hsn := (atP_wf hw2.2 a1).2.2.2.1
   have hyn := (atP_wf hw2.2 b1).2.2.2.1
   unfold opL at h
   dsimp only at h
   split at h
   ·injection h with h; subst h; exact hc (cutV_u64 (doV_u64 (cutV_u64 hsn) (cutV_u64 hyn)))
   split at h
   ·exact Good.bind (hc zero_u64) (fun _ s hs => hrec (hc zero_u64).wf (hc zero_u64).rng hs) h
   split at h
   ·exact zext_good f hw2.1 hw2.2 hI8.2 hf.2.1 h
   split at h
   ·have hu : U64 (cutV x (IntKind.u64.wrap (-(atP p1.T b1).n))) := cutV_u64 (wrap_u64 _)
    exact Good.bind (hc hu) (fun _ s hs => hrec (hc hu).wf (hc hu).rng hs) h
   split at h
   ·exact hrec hw2.1 hw2.2 h
   split at h
   ·have hu : U64 (cutV x (IntKind.u64.wrap ((atP p1.T (atP p1.T a1).b).n + (atP p1.T b1).n))) := cutV_u64 (wrap_u64 _)
    exact Good.bind (hc hu) (fun _ s hs => hrec (hc hu).wf (hc hu).rng hs) h
   split at h
   ·exact zext_good f hw2.1 hw2.2 hI8.2 hf.1 h
   split at h
   ·injection h with h; subst h; exact hc zero_u64
   split at h
   ·injection h with h; subst h; exact hc zero_u64
   split at h
   ·exact zext_good f hw2.1 hw2.2 hI8.2 hf.1 h
   ·injection h with h; subst h
    exact Good.put hw2.1 hw2.2 (opT_wf' hI8.1 hI8.2 (has_i64 hw2.1 hf.1) (has_i64 hw2.1 hf.2.1))
  ·rename_i h0
   injection h with h; subst h
   exact ⟨he, hw2.1, hw2.2, fun e => absurd e h0⟩
theorem cond_good : ∀ (f : Nat) {p : PS} (hw : WfP p) (hr : ∀ t ∈ p.T, t.wf) {cc x a b : Int} {r : RS}, condF f p cc x a b = some r → Good p r
 | 0, _, _, _, _, _, _, _, _, h => by cases h
 | f + 1, p, hw, hr, cc, x, a, b, r, h => by
  rw [condF_succ] at h
  split at h
  ·injection h with h; subst h; exact Good.err hw hr 0 (by decide)
  rename_i hab
  have hab : hasB p.T a = true ∧ hasB p.T b = true := by simpa using hab
  split at h
  ·injection h with h; subst h; exact Good.err hw hr 0 (by decide)
  rename_i hd
  have hd := holdsOk_yes (cc := cc) (x := x) (by simpa using hd)
  have hI8 : I8 cc ∧ I8 x := by unfold I8; omega
  have hw2 := both_wf hw hr (has_i64 hw hab.1) (has_i64 hw hab.2) x
  have he := both_ext p x a b
  split at h
  ·rename_i h0
   have hf := both_facts hw hr hab.1 hab.2 h0
   refine Good.up he ?_
   have hrec : ∀ {q : PS} (h1 : WfP q) (h2 : ∀ t ∈ q.T, t.wf) {o u v : Int} {s : RS}, condF f q o x u v = some s → Good q s := fun {_} h1 h2 {_ _ _ _} hs => cond_good f h1 h2 hs
   generalize bothP p x a b = z at h hw2 hf
   obtain ⟨p1, a1, b1, e1⟩ := z
   dsimp only at h hw2 hf
   unfold condL at h
   dsimp only at h
   have hia := has_i64 hw2.1 hf.1
   have hib := has_i64 hw2.1 hf.2.1
   split at h
   ·injection h with h; subst h; exact Good.put hw2.1 hw2.2 (constT_wf (flagV_u64 _))
   split at h
   ·injection h with h; subst h; exact Good.put hw2.1 hw2.2 (constT_wf (flagV_u64 _))
   split at h
   ·exact hrec hw2.1 hw2.2 h
   split at h
   ·injection h with h; subst h; exact Good.put hw2.1 hw2.2 (condT_wf hI8.1 hI8.2 hib hia)
   ·injection h with h; subst h; exact Good.put hw2.1 hw2.2 (condT_wf hI8.1 hI8.2 hia hib)
  ·rename_i h0
   injection h with h; subst h
   exact ⟨he, hw2.1, hw2.2, fun e => absurd e h0⟩
end
end Go.Proofs.YtepagfkkjlbipaaGreat
