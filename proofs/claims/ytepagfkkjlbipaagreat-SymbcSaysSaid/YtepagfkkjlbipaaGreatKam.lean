/-
  norm.Eval in plain words: a term's value. Conditions: those written in each statement.
  Each way of making a term comes to an end: enough fuel is there. Conditions: those written in each statement.
-/
import Derived.Test.YtepagfkkjlbipaaGreatNs
import Derived.Test.YtepagfkkjlbipaaGreatNn
section
namespace Go.Proofs.YtepagfkkjlbipaaGreat
open Go.RowKit
set_option linter.unusedVariables false
set_option linter.unusedSimpArgs false
/-- A term's value, its parts' values given; none: a variable that is not there. -/
def evT (vs : List Int) (t : TD) (rec : Int → Option Int) : Option Int :=
 if t.kind = 1 then (vs[t.n.toNat]?).map (cutV t.w)
 else if t.kind = 3 then (rec t.a).map (cutV t.w)
 else if t.kind = 2 then (rec t.a).bind fun a => (rec t.b).map fun b => doU t.op t.w a b
 else if t.kind = 4 then (rec t.a).bind fun a => (rec t.b).map fun b => flagV (holdsU t.op t.w a b)
 else if t.kind = 5 then (rec t.a).bind fun a => (rec t.b).bind fun b => (rec t.c).map fun c => if a = 0 then c else b
 else some t.n
def evF (T : List TD) (vs : List Int) : Nat → Int → Option Int
 | 0, _ => none
 | f + 1, n => if hasB T n = false then none else evT vs (atP T n) (evF T vs f)
def evP (T : List TD) (vs : List Int) (n : Int) : Option Int := evF T vs (n.toNat + 1) n
theorem evT_congr (vs : List Int) (t : TD) {r1 r2 : Int → Option Int} (h : ∀ k ∈ prtL t, r1 k = r2 k) : evT vs t r1 = evT vs t r2 := by
 unfold prtL at h
 unfold evT
 by_cases h1 : t.kind = 1
 ·rw [if_pos h1, if_pos h1]
 rw [if_neg h1, if_neg h1]
 by_cases h3 : t.kind = 3
 ·rw [if_pos h3, if_pos h3, h t.a (by simp [h3])]
 rw [if_neg h3, if_neg h3]
 by_cases h2 : t.kind = 2
 ·rw [if_pos h2, if_pos h2, h t.a (by simp [h2]), h t.b (by simp [h2])]
 rw [if_neg h2, if_neg h2]
 by_cases h4 : t.kind = 4
 ·rw [if_pos h4, if_pos h4, h t.a (by simp [h4]), h t.b (by simp [h4])]
 rw [if_neg h4, if_neg h4]
 by_cases h5 : t.kind = 5
 ·rw [if_pos h5, if_pos h5, h t.a (by simp [h5]), h t.b (by simp [h5]), h t.c (by simp [h5])]
 rw [if_neg h5, if_neg h5]
section
variable {p : PS} (hw : WfP p) {vs : List Int}
include hw
theorem part_less {n k : Int} (hn : hasB p.T n = true) (hk : k ∈ prtL (atP p.T n)) : 0 ≤ k ∧ k < n := by
 unfold atP at hk
 rw [if_pos hn] at hk
 unfold hasB at hn
 simp at hn
 have hl : n.toNat < p.T.length := by omega
 have ht : p.T[n.toNat]? = some (p.T.getD n.toNat zeroT) := by rw [List.getD_eq_getElem?_getD, List.getElem?_eq_getElem hl]; rfl
 have := hw.part _ _ ht k hk
 omega
theorem evF_same : ∀ (f g : Nat) (n : Int), n.toNat < f → n.toNat < g → evF p.T vs f n = evF p.T vs g n := by
 intro f
 induction f with
 | zero => intro g n hn; omega
 | succ f ih =>
  intro g n hn hg
  cases g with
  | zero => omega
  | succ g =>
   show (if hasB p.T n = false then none else evT vs (atP p.T n) (evF p.T vs f)) = (if hasB p.T n = false then none else evT vs (atP p.T n) (evF p.T vs g))
   cases hb : hasB p.T n
   ·rfl
   ·simp only [Bool.true_eq_false, if_false]
    refine evT_congr vs _ fun k hk => ?_
    have hk2 := part_less hw hb hk
    exact ih g k (by omega) (by omega)
/-- A value out of the parts' values. -/
theorem evP_eq {n : Int} (hn : hasB p.T n = true) : evP p.T vs n = evT vs (atP p.T n) (evP p.T vs) := by
 unfold evP
 show (if hasB p.T n = false then none else evT vs (atP p.T n) (evF p.T vs n.toNat)) = _
 rw [if_neg (by rw [hn]; simp)]
 refine evT_congr vs _ fun k hk => ?_
 have hk2 := part_less hw hn hk
 exact evF_same hw _ _ k (by omega) (by omega)
end
theorem evP_no {T : List TD} {vs : List Int} {n : Int} (hn : hasB T n = false) : evP T vs n = none := by
 unfold evP
 show (if hasB T n = false then none else _) = none
 rw [if_pos hn]
/-- Values are words. -/
theorem evT_u64 {vs : List Int} (hv : ∀ v ∈ vs, U64 v) {t : TD} (ht : t.wf) {rec : Int → Option Int} (hr : ∀ k v, rec k = some v → U64 v) {v : Int} (h : evT vs t rec = some v) : U64 v := by
 unfold evT at h
 split at h
 ·rw [Option.map_eq_some_iff] at h
  obtain ⟨a, ha, rfl⟩ := h
  exact cutV_u64 (hv a (List.mem_of_getElem? ha))
 split at h
 ·rw [Option.map_eq_some_iff] at h
  obtain ⟨a, ha, rfl⟩ := h
  exact cutV_u64 (hr _ _ ha)
 split at h
 ·rw [Option.bind_eq_some_iff] at h
  obtain ⟨a, ha, h⟩ := h
  rw [Option.map_eq_some_iff] at h
  obtain ⟨b, hb, rfl⟩ := h
  exact cutV_u64 (doV_u64 (cutV_u64 (hr _ _ ha)) (cutV_u64 (hr _ _ hb)))
 split at h
 ·rw [Option.bind_eq_some_iff] at h
  obtain ⟨a, ha, h⟩ := h
  rw [Option.map_eq_some_iff] at h
  obtain ⟨b, hb, rfl⟩ := h
  exact flagV_u64 _
 split at h
 ·rw [Option.bind_eq_some_iff] at h
  obtain ⟨a, ha, h⟩ := h
  rw [Option.bind_eq_some_iff] at h
  obtain ⟨b, hb, h⟩ := h
  rw [Option.map_eq_some_iff] at h
  obtain ⟨c, hc, rfl⟩ := h
  split
  ·exact hr _ _ hc
  ·exact hr _ _ hb
 ·injection h with h
  subst h
  exact ht.2.2.2.1
theorem evF_u64 {T : List TD} (hT : ∀ t ∈ T, t.wf) {vs : List Int} (hv : ∀ v ∈ vs, U64 v) : ∀ (f : Nat) (n v : Int), evF T vs f n = some v → U64 v := by
 intro f
 induction f with
 | zero => intro n v h; cases h
 | succ f ih =>
  intro n v h
  have h' : (if hasB T n = false then none else evT vs (atP T n) (evF T vs f)) = some v := h
  split at h'
  ·cases h'
  ·exact evT_u64 hv (atP_wf hT n) ih h'
theorem evP_u64 {T : List TD} (hT : ∀ t ∈ T, t.wf) {vs : List Int} (hv : ∀ v ∈ vs, U64 v) {n v : Int} (h : evP T vs n = some v) : U64 v := evF_u64 hT hv _ n v h
end Go.Proofs.YtepagfkkjlbipaaGreat
end
section
namespace Go.Proofs.YtepagfkkjlbipaaGreat
open Go.RowKit
set_option linter.unusedVariables false
set_option linter.unusedSimpArgs false
set_option maxRecDepth 100000
theorem both_wf {p : PS} (hw : WfP p) (hr : ∀ t ∈ p.T, t.wf) {a b : Int} (ha : I64 a) (hb : I64 b) (x : Int) : WfP (bothP p x a b).1 ∧ ∀ t ∈ (bothP p x a b).1.T, t.wf := by
 obtain ⟨h1, h2, h3⟩ := operand_i64 hw hr ha x
 unfold bothP
 dsimp only
 split
 ·exact (operand_i64 h2 h3 hb x).2
 ·exact ⟨h2, h3⟩
/-- A pool has grown. -/
def Ext (p q : PS) : Prop := ∃ s, q.T = p.T ++ s
theorem Ext.refl (p : PS) : Ext p p := ⟨[], by simp⟩
theorem Ext.trans {p q r : PS} (h : Ext p q) (k : Ext q r) : Ext p r := by
 obtain ⟨s, hs⟩ := h
 obtain ⟨t, ht⟩ := k
 exact ⟨s ++ t, by rw [ht, hs, List.append_assoc]⟩
theorem Ext.put (p : PS) (t : TD) : Ext p (putP p t) := by
 rcases putP_cases p t with ⟨e, _⟩ | ⟨_, _, _, _, e, _⟩
 ·rw [e]; exact Ext.refl p
 ·rw [e]; exact ⟨[t], rfl⟩
theorem Ext.has {p q : PS} (h : Ext p q) {n : Int} (hn : hasB p.T n = true) : hasB q.T n = true := by
 obtain ⟨s, hs⟩ := h
 unfold hasB at *
 simp at hn ⊢
 rw [hs]
 simp
 omega
theorem Ext.at_ {p q : PS} (h : Ext p q) {n : Int} (hn : hasB p.T n = true) : atP q.T n = atP p.T n := by
 have h2 := h.has hn
 obtain ⟨s, hs⟩ := h
 unfold atP
 rw [if_pos hn, if_pos h2, hs]
 unfold hasB at hn
 simp at hn
 rw [List.getD_eq_getElem?_getD, List.getD_eq_getElem?_getD, List.getElem?_append_left (by omega)]
theorem put_at {p : PS} {t : TD} (h : (putN p t).2 = 0) : hasB (putP p t).T (putN p t).1 = true ∧ atP (putP p t).T (putN p t).1 = t := by
 have key : ∀ (T : List TD) (i : Nat), T[i]? = some t → hasB T (i : Int) = true ∧ atP T (i : Int) = t := by
  intro T i hi
  have hl := (List.getElem?_eq_some_iff.1 hi).1
  have hb : hasB T (i : Int) = true := by unfold hasB; simp; omega
  refine ⟨hb, ?_⟩
  unfold atP
  rw [if_pos hb, List.getD_eq_getElem?_getD, show ((i : Int)).toNat = i by omega, hi]
  rfl
 rcases putP_cases p t with ⟨e, q⟩ | ⟨_, _, _, _, e, q⟩
 ·rcases q with ⟨_, q⟩ | ⟨_, i, hi, _, q⟩ | ⟨_, _, _, q⟩
  ·rw [q] at h; cases h
  ·rw [e, q]; exact key _ _ hi
  ·rw [q] at h; cases h
 ·rw [e, q]; exact key _ _ (by simp)
/-- An operand: a constant that is put, a cut's part, or the term itself. -/
theorem operand_cases (p : PS) (x a : Int) : ((atP p.T a).kind = 0 ∧ operandP p x a = putR p (constT (cutV x (atP p.T a).n))) ∨ ((atP p.T a).kind = 3 ∧ operandP p x a = (p, (atP p.T a).a, 0)) ∨ ((atP p.T a).kind ≠ 0 ∧ operandP p x a = (p, a, 0)) := by
 unfold operandP
 dsimp only
 by_cases h : (atP p.T a).kind = 0
 ·exact .inl ⟨h, by rw [if_pos h]⟩
 ·rw [if_neg h]
  by_cases h2 : x = 32 ∧ (atP p.T a).kind = 3 ∧ (atP p.T a).w = 32
  ·exact .inr (.inl ⟨h2.2.1, by rw [if_pos h2]⟩)
  ·exact .inr (.inr ⟨h, by rw [if_neg h2]⟩)
theorem operand_ext (p : PS) (x a : Int) : Ext p (operandP p x a).1 := by
 rcases operand_cases p x a with ⟨_, e⟩ | ⟨_, e⟩ | ⟨_, e⟩
 ·rw [e]; exact Ext.put p _
 ·rw [e]; exact Ext.refl p
 ·rw [e]; exact Ext.refl p
theorem both_ext (p : PS) (x a b : Int) : Ext p (bothP p x a b).1 := by
 unfold bothP
 dsimp only
 split
 ·exact (operand_ext p x a).trans (operand_ext _ x b)
 ·exact operand_ext p x a
theorem has_part {p : PS} (hw : WfP p) {n : Int} (hn : hasB p.T n = true) (hk : (atP p.T n).kind = 3) : 0 ≤ (atP p.T n).a ∧ (atP p.T n).a < n ∧ hasB p.T (atP p.T n).a = true := by
 have h := part_less hw hn (k := (atP p.T n).a) (by unfold prtL; rw [if_neg (by omega), if_pos hk]; simp)
 refine ⟨h.1, h.2, ?_⟩
 unfold hasB at *
 simp at hn ⊢
 omega
/-- One operand, when it was no error. -/
theorem operand_facts {p : PS} (hw : WfP p) {x a : Int} (ha : hasB p.T a = true) (h0 : (operandP p x a).2.2 = 0) :
  hasB (operandP p x a).1.T (operandP p x a).2.1 = true ∧ ((atP (operandP p x a).1.T (operandP p x a).2.1).kind = 0 ∨ (operandP p x a).2.1 ≤ a) ∧ ((atP p.T a).kind = 0 → (atP (operandP p x a).1.T (operandP p x a).2.1).kind = 0) := by
 rcases operand_cases p x a with ⟨k, e⟩ | ⟨k, e⟩ | ⟨k, e⟩
 ·rw [e] at h0 ⊢
  have := put_at h0
  refine ⟨this.1, .inl ?_, fun _ => ?_⟩
  ·show (atP (putP p _).T (putN p _).1).kind = 0; rw [this.2]; rfl
  ·show (atP (putP p _).T (putN p _).1).kind = 0; rw [this.2]; rfl
 ·rw [e]
  have := has_part hw ha k
  exact ⟨this.2.2, .inr (by show (atP p.T a).a ≤ a; omega), fun q => absurd q (by omega)⟩
 ·rw [e]
  exact ⟨ha, .inr (Int.le_refl _), fun q => absurd q k⟩
/-- Two operands, when there was no error. -/
theorem both_facts {p : PS} (hw : WfP p) (hr : ∀ t ∈ p.T, t.wf) {x a b : Int} (ha : hasB p.T a = true) (hb : hasB p.T b = true) (h0 : (bothP p x a b).2.2.2 = 0) :
  hasB (bothP p x a b).1.T (bothP p x a b).2.1 = true ∧ hasB (bothP p x a b).1.T (bothP p x a b).2.2.1 = true ∧
  ((atP (bothP p x a b).1.T (bothP p x a b).2.1).kind = 0 ∨ (bothP p x a b).2.1 ≤ a) ∧ ((atP (bothP p x a b).1.T (bothP p x a b).2.2.1).kind = 0 ∨ (bothP p x a b).2.2.1 ≤ b) ∧
  ((atP p.T a).kind = 0 → (atP (bothP p x a b).1.T (bothP p x a b).2.1).kind = 0) ∧ ((atP p.T b).kind = 0 → (atP (bothP p x a b).1.T (bothP p x a b).2.2.1).kind = 0) := by
 have hI : I64 a := by
  unfold hasB at ha
  simp at ha
  have := hw.few
  unfold I64
  omega
 have h1 := operand_i64 hw hr hI x
 unfold bothP at h0 ⊢
 dsimp only at h0 ⊢
 by_cases he : (operandP p x a).2.2 = 0
 ·rw [if_pos he] at h0 ⊢
  dsimp only at h0 ⊢
  have f1 := operand_facts hw ha he
  have e1 := operand_ext p x a
  have hb1 := e1.has hb
  have ab1 := e1.at_ hb
  have f2 := operand_facts h1.2.1 hb1 h0
  have e2 := operand_ext (operandP p x a).1 x b
  rw [ab1] at f2
  refine ⟨e2.has f1.1, f2.1, ?_, f2.2.1, ?_, f2.2.2⟩
  ·rw [e2.at_ f1.1]; exact f1.2.1
  ·rw [e2.at_ f1.1]; exact f1.2.2
 ·rw [if_neg he] at h0
  exact absurd h0 he
theorem zextF_mono : ∀ (f : Nat) {g : Nat} (p : PS) (x a : Int) (r : RS), f ≤ g → zextF f p x a = some r → zextF g p x a = some r
 | 0, _, _, _, _, _, _, h => by cases h
 | f + 1, 0, _, _, _, _, hg, _ => by omega
 | f + 1, g + 1, p, x, a, r, hg, h => by
  rw [zextF_succ] at h ⊢
  split
  ·rename_i h1; rw [if_pos h1] at h; exact h
  ·rename_i h1
   rw [if_neg h1] at h
   split
   ·rename_i h2; rw [if_pos h2] at h; exact h
   ·rename_i h2
    rw [if_neg h2] at h
    split
    ·rename_i h3; rw [if_pos h3] at h; exact h
    ·rename_i h3
     rw [if_neg h3] at h
     split
     ·rename_i h4; rw [if_pos h4] at h; exact zextF_mono f p x _ r (by omega) h
     ·rename_i h4; rw [if_neg h4] at h; exact h
theorem zextF_some {p : PS} (hw : WfP p) (x : Int) : ∀ (f : Nat) (a : Int), a.toNat < f → ∃ r, zextF f p x a = some r
 | 0, a, h => by omega
 | f + 1, a, h => by
  rw [zextF_succ]
  split
  ·exact ⟨_, rfl⟩
  split
  ·exact ⟨_, rfl⟩
  split
  ·exact ⟨_, rfl⟩
  split
  ·rename_i h3
   cases hb : hasB p.T a
   ·rw [atP_no hb] at h3; cases h3
   ·have := has_part hw hb h3
    exact zextF_some hw x f _ (by omega)
  ·exact ⟨_, rfl⟩
theorem bindR_mono {r s : RS} {k1 k2 : PS → Int → Option RS} (h : bindR r k1 = some s) (hk : ∀ p z s, k1 p z = some s → k2 p z = some s) : bindR r k2 = some s := by
 unfold bindR at h ⊢
 split
 ·rename_i h0; rw [if_pos h0] at h; exact hk _ _ _ h
 ·rename_i h0; rw [if_neg h0] at h; exact h
theorem opL_mono {rec1 rec2 : PS → Int → Int → Int → Option RS} {f g : Nat} (hfg : f ≤ g) (hrec : ∀ q o u v s, rec1 q o u v = some s → rec2 q o u v = some s) {p : PS} {op x a b : Int} {r : RS} (h : opL rec1 f p op x a b = some r) : opL rec2 g p op x a b = some r := by
 unfold opL at h ⊢
 dsimp only at h ⊢
 split
 ·rename_i h1; rw [if_pos h1] at h; exact h
 ·rename_i h1
  rw [if_neg h1] at h
  split
  ·rename_i h2; rw [if_pos h2] at h; exact bindR_mono h fun _ _ _ q => hrec _ _ _ _ _ q
  ·rename_i h2
   rw [if_neg h2] at h
   split
   ·rename_i h3; rw [if_pos h3] at h; exact zextF_mono f _ _ _ _ hfg h
   ·rename_i h3
    rw [if_neg h3] at h
    split
    ·rename_i h4; rw [if_pos h4] at h; exact bindR_mono h fun _ _ _ q => hrec _ _ _ _ _ q
    ·rename_i h4
     rw [if_neg h4] at h
     split
     ·rename_i h5; rw [if_pos h5] at h; exact hrec _ _ _ _ _ h
     ·rename_i h5
      rw [if_neg h5] at h
      split
      ·rename_i h6; rw [if_pos h6] at h; exact bindR_mono h fun _ _ _ q => hrec _ _ _ _ _ q
      ·rename_i h6
       rw [if_neg h6] at h
       split
       ·rename_i h7; rw [if_pos h7] at h; exact zextF_mono f _ _ _ _ hfg h
       ·rename_i h7
        rw [if_neg h7] at h
        split
        ·rename_i h8; rw [if_pos h8] at h; exact h
        ·rename_i h8
         rw [if_neg h8] at h
         split
         ·rename_i h9; rw [if_pos h9] at h; exact h
         ·rename_i h9
          rw [if_neg h9] at h
          split
          ·rename_i h10; rw [if_pos h10] at h; exact zextF_mono f _ _ _ _ hfg h
          ·rename_i h10; rw [if_neg h10] at h; exact h
theorem opF_mono : ∀ (f : Nat) {g : Nat} (p : PS) (op x a b : Int) (r : RS), f ≤ g → opF f p op x a b = some r → opF g p op x a b = some r
 | 0, _, _, _, _, _, _, _, _, h => by cases h
 | f + 1, 0, _, _, _, _, _, _, hg, _ => by omega
 | f + 1, g + 1, p, op, x, a, b, r, hg, h => by
  rw [opF_succ] at h ⊢
  split
  ·rename_i h1; rw [if_pos h1] at h; exact h
  ·rename_i h1
   rw [if_neg h1] at h
   split
   ·rename_i h2; rw [if_pos h2] at h; exact h
   ·rename_i h2
    rw [if_neg h2] at h
    split
    ·rename_i h3
     rw [if_pos h3] at h
     exact opL_mono (by omega) (fun q o u v s hs => opF_mono f q o x u v s (by omega) hs) h
    ·rename_i h3; rw [if_neg h3] at h; exact h
/-- There is an answer. -/
def OpS (p : PS) (op x a b : Int) : Prop := ∃ f r, opF f p op x a b = some r
/-- One step: what it calls has an answer. -/
theorem opL_some {p : PS} (hw : WfP p) {op x a b : Int}
  (H8 : op = 8 → ∀ q : RS, q = putR p (constT 0) → q.2.2 = 0 → OpS q.1 1 x q.2.1 a)
  (H1 : ((atP p.T a).kind == 0 && (atP p.T b).kind == 0) = false → op = 1 → (atP p.T b).kind = 0 → ∀ (n : Int) (q : RS), U64 n → q = putR p (constT n) → q.2.2 = 0 → OpS q.1 0 x a q.2.1)
  (H7 : ((atP p.T a).kind == 0 && (atP p.T b).kind == 0) = false → (turnsB op && ((atP p.T a).kind == 0 || (!((atP p.T b).kind == 0) && decide (b < a)))) = true → OpS p op x b a)
  (HA : ((atP p.T a).kind == 0 && (atP p.T b).kind == 0) = false → assocB p.T (atP p.T a) op x ((atP p.T b).kind == 0) = true → ∀ (n : Int) (q : RS), U64 n → q = putR p (constT n) → q.2.2 = 0 → OpS q.1 0 x (atP p.T a).a q.2.1) :
  ∃ f r, opL (fun q o u v => opF f q o x u v) f p op x a b = some r := by
 obtain ⟨za, hza⟩ := zextF_some hw x (a.toNat + 1) a (by omega)
 obtain ⟨zb, hzb⟩ := zextF_some hw x (b.toNat + 1) b (by omega)
 have bnd : ∀ {r : RS} {o u : Int} (g : PS → Int → Int × Int), (r.2.2 = 0 → OpS r.1 o x (g r.1 r.2.1).1 (g r.1 r.2.1).2) → ∃ f s, bindR r (fun q z => opF f q o x (g q z).1 (g q z).2) = some s := by
  intro r o u g h
  by_cases h0 : r.2.2 = 0
  ·obtain ⟨f, s, hs⟩ := h h0
   exact ⟨f, s, by unfold bindR; rw [if_pos h0]; exact hs⟩
  ·exact ⟨0, _, by unfold bindR; rw [if_neg h0]⟩
 unfold opL
 dsimp only
 cases h1 : ((atP p.T a).kind == 0 && (atP p.T b).kind == 0)
 rotate_left
 ·exact ⟨0, _, by rw [if_pos rfl]⟩
 by_cases h2 : op = 8
 ·obtain ⟨f, s, hs⟩ := bnd (o := 1) (u := 0) (fun _ z => (z, a)) (r := putR p (constT 0)) fun h0 => H8 h2 _ rfl h0
  exact ⟨f, s, by rw [if_neg (by simp), if_pos h2]; exact hs⟩
 by_cases h3 : op = 11
 ·exact ⟨_, zb, by rw [if_neg (by simp), if_neg h2, if_pos h3]; exact hzb⟩
 cases h4 : (op == 1 && (atP p.T b).kind == 0)
 rotate_left
 ·have hk : op = 1 ∧ (atP p.T b).kind = 0 := by simpa using h4
  obtain ⟨f, s, hs⟩ := bnd (o := 0) (u := 0) (fun _ z => (a, z)) (r := putR p (constT (cutV x (IntKind.u64.wrap (-(atP p.T b).n))))) fun h0 => H1 h1 hk.1 hk.2 _ _ (cutV_u64 (wrap_u64 _)) rfl h0
  exact ⟨f, s, by rw [if_neg (by simp), if_neg h2, if_neg h3, if_pos rfl]; exact hs⟩
 cases h5 : (turnsB op && ((atP p.T a).kind == 0 || (!((atP p.T b).kind == 0) && decide (b < a))))
 rotate_left
 ·obtain ⟨f, s, hs⟩ := H7 h1 h5
  exact ⟨f, s, by rw [if_neg (by simp), if_neg h2, if_neg h3, if_neg (by simp), if_pos rfl]; exact hs⟩
 cases h6 : assocB p.T (atP p.T a) op x ((atP p.T b).kind == 0)
 rotate_left
 ·obtain ⟨f, s, hs⟩ := bnd (o := 0) (u := 0) (fun _ z => ((atP p.T a).a, z)) (r := putR p (constT (cutV x (IntKind.u64.wrap ((atP p.T (atP p.T a).b).n + (atP p.T b).n))))) fun h0 => HA h1 h6 _ _ (cutV_u64 (wrap_u64 _)) rfl h0
  exact ⟨f, s, by rw [if_neg (by simp), if_neg h2, if_neg h3, if_neg (by simp), if_neg (by simp), if_pos rfl]; exact hs⟩
 cases h7 : ((atP p.T b).kind == 0 && sameB op x (atP p.T b).n)
 rotate_left
 ·exact ⟨_, za, by rw [if_neg (by simp), if_neg h2, if_neg h3, if_neg (by simp), if_neg (by simp), if_neg (by simp), if_pos rfl]; exact hza⟩
 cases h8 : ((atP p.T b).kind == 0 && nilB op (atP p.T b).n)
 rotate_left
 ·exact ⟨0, _, by rw [if_neg (by simp), if_neg h2, if_neg h3, if_neg (by simp), if_neg (by simp), if_neg (by simp), if_neg (by simp), if_pos rfl]⟩
 cases h9 : (a == b && (op == 1 || op == 10))
 rotate_left
 ·exact ⟨0, _, by rw [if_neg (by simp), if_neg h2, if_neg h3, if_neg (by simp), if_neg (by simp), if_neg (by simp), if_neg (by simp), if_neg (by simp), if_pos rfl]⟩
 cases h10 : (a == b && (op == 5 || op == 4))
 rotate_left
 ·exact ⟨_, za, by rw [if_neg (by simp), if_neg h2, if_neg h3, if_neg (by simp), if_neg (by simp), if_neg (by simp), if_neg (by simp), if_neg (by simp), if_neg (by simp), if_pos rfl]; exact hza⟩
 ·exact ⟨0, _, by rw [if_neg (by simp), if_neg h2, if_neg h3, if_neg (by simp), if_neg (by simp), if_neg (by simp), if_neg (by simp), if_neg (by simp), if_neg (by simp), if_neg (by simp)]⟩
/-- .. and of the whole. -/
theorem opF_some {p : PS} {op x a b : Int} (h : hasB p.T a = true → hasB p.T b = true → doOk op x = true → (bothP p x a b).2.2.2 = 0 → ∃ f r, opL (fun q o u v => opF f q o x u v) f (bothP p x a b).1 op x (bothP p x a b).2.1 (bothP p x a b).2.2.1 = some r) : OpS p op x a b := by
 cases ha : hasB p.T a
 ·exact ⟨1, _, by rw [opF_succ, if_pos (by rw [ha]; rfl)]⟩
 cases hb : hasB p.T b
 ·exact ⟨1, _, by rw [opF_succ, if_pos (by rw [ha, hb]; rfl)]⟩
 cases hd : doOk op x
 ·exact ⟨1, _, by rw [opF_succ, if_neg (by rw [ha, hb]; simp), if_pos hd]⟩
 by_cases h0 : (bothP p x a b).2.2.2 = 0
 ·obtain ⟨f, r, hr⟩ := h ha hb hd h0
  exact ⟨f + 1, r, by rw [opF_succ, if_neg (by rw [ha, hb]; simp), if_neg (by rw [hd]; simp), if_pos h0]; exact hr⟩
 ·exact ⟨1, _, by rw [opF_succ, if_neg (by rw [ha, hb]; simp), if_neg (by rw [hd]; simp), if_neg h0]⟩
theorem const_facts {p : PS} (hw : WfP p) (hr : ∀ t ∈ p.T, t.wf) {n : Int} (hn : U64 n) {q : RS} (hq : q = putR p (constT n)) : WfP q.1 ∧ (∀ t ∈ q.1.T, t.wf) ∧ (q.2.2 = 0 → hasB q.1.T q.2.1 = true ∧ (atP q.1.T q.2.1).kind = 0) := by
 subst hq
 refine ⟨hw.put _, fun t ht => ?_, fun h => ?_⟩
 ·have ht' : t ∈ (putP p (constT n)).T := ht
  rcases putP_cases p (constT n) with ⟨e, _⟩ | ⟨_, _, _, _, e, _⟩
  ·rw [e] at ht'; exact hr t ht'
  ·rw [e] at ht'
   rcases List.mem_append.1 ht' with q | q
   ·exact hr t q
   ·simp at q; rw [q]; exact constT_wf hn
 ·have := put_at h
  refine ⟨this.1, ?_⟩
  show (atP (putP p _).T (putN p _).1).kind = 0
  rw [this.2]; rfl
theorem has_i64 {p : PS} (hw : WfP p) {n : Int} (h : hasB p.T n = true) : I64 n := by
 unfold hasB at h
 simp at h
 have := hw.few
 unfold I64
 omega
theorem has_nat {p : PS} {n : Int} (h : hasB p.T n = true) : 0 ≤ n := by
 unfold hasB at h
 simp at h
 omega
/-- A constant on the right: a sum goes on with lesser numbers. -/
theorem add_const (x : Int) : ∀ (N : Nat) (p : PS) (hw : WfP p) (hr : ∀ t ∈ p.T, t.wf) (a b : Int), a.toNat < N → (atP p.T b).kind = 0 → OpS p 0 x a b := by
 intro N
 induction N with
 | zero => intro p hw hr a b h; omega
 | succ N ih =>
  intro p hw hr a b hN hk
  refine opF_some fun ha hb hd h0 => ?_
  have hf := both_facts hw hr ha hb h0
  have hw2 := both_wf hw hr (has_i64 hw ha) (has_i64 hw hb) x
  refine opL_some hw2.1 (fun h => absurd h (by decide)) (fun _ h => absurd h (by decide)) (fun h1 h7 => ?_) (fun h1 hA n q hn hq hq0 => ?_)
  ·have hkb := hf.2.2.2.2.2 hk
   rw [hkb] at h1 h7
   simp at h1 h7
   exact absurd h7.2 h1
  ·have hkb := hf.2.2.2.2.2 hk
   have hc := const_facts hw2.1 hw2.2 hn hq
   rw [hkb] at h1
   have hka : (atP (bothP p x a b).1.T (bothP p x a b).2.1).kind ≠ 0 := by simpa using h1
   have hA2 : (atP (bothP p x a b).1.T (bothP p x a b).2.1).kind = 2 := by unfold assocB at hA; simp at hA; exact hA.2.2.1
   have hpl := part_less hw2.1 hf.1 (k := (atP (bothP p x a b).1.T (bothP p x a b).2.1).a) (by unfold prtL; rw [if_pos (.inl hA2)]; simp)
   have hle := hf.2.2.1.resolve_left hka
   exact ih q.1 hc.1 hc.2.1 _ _ (by omega) (hc.2.2 hq0).2
/-- A difference. -/
theorem sub_some (x : Int) (p : PS) (hw : WfP p) (hr : ∀ t ∈ p.T, t.wf) (a b : Int) : OpS p 1 x a b := by
 refine opF_some fun ha hb hd h0 => ?_
 have hw2 := both_wf hw hr (has_i64 hw ha) (has_i64 hw hb) x
 refine opL_some hw2.1 (fun h => absurd h (by decide)) (fun h1 _ hkb n q hn hq hq0 => ?_) (fun h1 h7 => absurd h7 (by simp [turnsB])) (fun h1 hA => absurd hA (by simp [assocB]))
 have hc := const_facts hw2.1 hw2.2 hn hq
 exact add_const x _ q.1 hc.1 hc.2.1 _ _ (Nat.lt_succ_self _) (hc.2.2 hq0).2
/-- One that turns, a constant on the right. -/
theorem turn_const (op x : Int) (p : PS) (hw : WfP p) (hr : ∀ t ∈ p.T, t.wf) (a b : Int) (ht : turnsB op = true) (hk : (atP p.T b).kind = 0) : OpS p op x a b := by
 by_cases h0 : op = 0
 ·subst h0; exact add_const x _ p hw hr a b (Nat.lt_succ_self _) hk
 ·have h8 : op ≠ 8 := fun e => by subst e; simp [turnsB] at ht
  have h1 : op ≠ 1 := fun e => by subst e; simp [turnsB] at ht
  refine opF_some fun ha hb hd he => ?_
  have hf := both_facts hw hr ha hb he
  have hw2 := both_wf hw hr (has_i64 hw ha) (has_i64 hw hb) x
  refine opL_some hw2.1 (fun h => absurd h h8) (fun _ h => absurd h h1) (fun h1 h7 => ?_) (fun h1 hA => ?_)
  ·have hkb := hf.2.2.2.2.2 hk
   rw [hkb] at h1 h7
   simp at h1 h7
   exact absurd h7.2 h1
  ·unfold assocB at hA; simp at hA; exact absurd hA.1 h0
/-- One that turns. -/
theorem turn_some (op x : Int) (ht : turnsB op = true) : ∀ (N : Nat) (p : PS) (hw : WfP p) (hr : ∀ t ∈ p.T, t.wf) (a b : Int), 2 * (a.toNat + b.toNat) + (if a < b then 0 else 1) < N → OpS p op x a b := by
 intro N
 induction N with
 | zero => intro p hw hr a b h; omega
 | succ N ih =>
  intro p hw hr a b hN
  have h8 : op ≠ 8 := fun e => by subst e; simp [turnsB] at ht
  have h1 : op ≠ 1 := fun e => by subst e; simp [turnsB] at ht
  refine opF_some fun ha hb hd he => ?_
  have hf := both_facts hw hr ha hb he
  have hw2 := both_wf hw hr (has_i64 hw ha) (has_i64 hw hb) x
  refine opL_some hw2.1 (fun h => absurd h h8) (fun _ h => absurd h h1) (fun hk h7 => ?_) (fun hk hA n q hn hq hq0 => ?_)
  ·simp at h7
   by_cases hka : (atP (bothP p x a b).1.T (bothP p x a b).2.1).kind = 0
   ·exact turn_const op x _ hw2.1 hw2.2 _ _ ht hka
   ·have h72 := h7.2.resolve_left hka
    have ea := hf.2.2.1.resolve_left hka
    have eb := hf.2.2.2.1.resolve_left h72.1
    have na := has_nat hf.1
    have nb := has_nat hf.2.1
    refine ih _ hw2.1 hw2.2 _ _ ?_
    rw [if_pos h72.2]
    split at hN <;> omega
  ·have hc := const_facts hw2.1 hw2.2 hn hq
   exact add_const x _ q.1 hc.1 hc.2.1 _ _ (Nat.lt_succ_self _) (hc.2.2 hq0).2
/-- Op has an answer, whatever it is asked. -/
theorem op_some (op x : Int) (p : PS) (hw : WfP p) (hr : ∀ t ∈ p.T, t.wf) (a b : Int) : OpS p op x a b := by
 cases ht : turnsB op
 rotate_left
 ·exact turn_some op x ht _ p hw hr a b (Nat.lt_succ_self _)
 by_cases h1 : op = 1
 ·subst h1; exact sub_some x p hw hr a b
 refine opF_some fun ha hb hd he => ?_
 have hw2 := both_wf hw hr (has_i64 hw ha) (has_i64 hw hb) x
 refine opL_some hw2.1 (fun h q hq hq0 => ?_) (fun _ h => absurd h h1) (fun hk h7 => absurd h7 (by rw [ht]; simp)) (fun hk hA => ?_)
 ·have hc := const_facts hw2.1 hw2.2 zero_u64 hq
  exact sub_some x q.1 hc.1 hc.2.1 _ _
 ·unfold assocB at hA
  simp at hA
  rw [hA.1] at ht
  simp [turnsB] at ht
def CondS (p : PS) (cc x a b : Int) : Prop := ∃ f r, condF f p cc x a b = some r
theorem cond_plain (p : PS) (cc x a b : Int) (hc : turnedB cc = false) : ∃ r, condF 1 p cc x a b = some r := by
 rw [condF_succ]
 split
 ·exact ⟨_, rfl⟩
 split
 ·exact ⟨_, rfl⟩
 split
 ·unfold condL
  dsimp only
  split
  ·exact ⟨_, rfl⟩
  split
  ·exact ⟨_, rfl⟩
  rw [if_neg (by rw [hc]; simp)]
  split
  ·exact ⟨_, rfl⟩
  ·exact ⟨_, rfl⟩
 ·exact ⟨_, rfl⟩
theorem turned_once (cc : Int) (h : turnedB cc = true) : turnedB (turnedV cc) = false := by
 unfold turnedB at h
 simp at h
 rcases h with h | h | h | h <;> subst h <;> rfl
theorem cond_some (p : PS) (cc x a b : Int) : ∃ r, condF 2 p cc x a b = some r := by
 rw [condF_succ]
 split
 ·exact ⟨_, rfl⟩
 split
 ·exact ⟨_, rfl⟩
 split
 ·unfold condL
  dsimp only
  split
  ·exact ⟨_, rfl⟩
  split
  ·exact ⟨_, rfl⟩
  split
  ·rename_i h; exact cond_plain _ _ _ _ _ (turned_once cc h)
  split
  ·exact ⟨_, rfl⟩
  ·exact ⟨_, rfl⟩
 ·exact ⟨_, rfl⟩
/-- A pool behind a condition is a pool. -/
theorem put_facts {p : PS} (hw : WfP p) (hr : ∀ t ∈ p.T, t.wf) {t : TD} (ht : t.wf) : WfP (putP p t) ∧ ∀ u ∈ (putP p t).T, u.wf := by
 refine ⟨hw.put _, fun u hu => ?_⟩
 rcases putP_cases p t with ⟨e, _⟩ | ⟨_, _, _, _, e, _⟩
 ·rw [e] at hu; exact hr u hu
 ·rw [e] at hu
  rcases List.mem_append.1 hu with q | q
  ·exact hr u q
  ·simp at q; rw [q]; exact ht
end Go.Proofs.YtepagfkkjlbipaaGreat
end
