/-
  What was made is made again, in any pool that has grown out of that one: nothing is new. Conditions: those written in each statement.
  What was made is made again: conditions, choices, all of them. Conditions: those written in each statement.
  What commutes is one term either way. Conditions: those written in each statement.
  What commutes is one term either way: operations and conditions. Conditions: those written in each statement.
-/
import Derived.Test.YtfjflefgclfbfaaGreatKc
section
namespace Go.Proofs.YtfjflefgclfbfaaGreat
open Go.RowKit
set_option linter.unusedVariables false
set_option linter.unusedSimpArgs false
set_option maxRecDepth 100000
theorem has_prt {p : PS} (hw : WfP p) {n k : Int} (hn : hasB p.T n = true) (hk : k ∈ prtL (atP p.T n)) : hasB p.T k = true := by
  have h := part_less hw hn hk
  unfold hasB at *
  simp at hn ⊢
  omega
theorem putR_again {p q : PS} (hq : WfP q) {t : TD} (h : (putR p t).2.2 = 0) (he : Ext (putR p t).1 q) : putR q t = (q, (putR p t).2.1, 0) := by
  have := put_again hq (p := p) (t := t) h he
  unfold putR
  rw [this.1, this.2]
theorem operand_again {p q : PS} (hq : WfP q) {x a : Int} (h0 : (operandP p x a).2.2 = 0) (ha : hasB p.T a = true) (hpq : Ext p q) (he : Ext (operandP p x a).1 q) : operandP q x a = (q, (operandP p x a).2.1, 0) := by
  have ea := hpq.at_ ha
  unfold operandP at h0 he ⊢
  dsimp only at h0 he ⊢
  rw [ea]
  by_cases h1 : (atP p.T a).kind = 0
  · rw [if_pos h1] at h0 he ⊢
    rw [if_pos h1]
    exact putR_again hq h0 he
  · rw [if_neg h1] at h0 he ⊢
    rw [if_neg h1]
    by_cases h2 : x = 32 ∧ (atP p.T a).kind = 3 ∧ (atP p.T a).w = 32
    · rw [if_pos h2, if_pos h2]
    · rw [if_neg h2, if_neg h2]
end Go.Proofs.YtfjflefgclfbfaaGreat
end
section
namespace Go.Proofs.YtfjflefgclfbfaaGreat
open Go.RowKit
set_option linter.unusedVariables false
set_option linter.unusedSimpArgs false
set_option maxRecDepth 100000
/-- Answers do not hang on the fuel. -/
theorem MkS.fn {p : PS} {x : MD} {l : List Int} {r s : RS} (h : MkS p x l r) (k : MkS p x l s) : r = s := by
  obtain ⟨f, h⟩ := h
  obtain ⟨g, k⟩ := k
  have mono : ∀ {f g : Nat} {r : RS}, f ≤ g → mkF f p x l = some r → mkF g p x l = some r := by
    intro f g r hfg h
    unfold mkF at h ⊢
    split at h
    · rename_i c; rw [if_pos c]; exact h
    rename_i c; rw [if_neg c]
    split at h
    · rename_i c; rw [if_pos c]; exact h
    rename_i c; rw [if_neg c]
    split at h
    · rename_i c; rw [if_pos c]; exact opF_mono f _ _ _ _ _ _ hfg h
    rename_i c; rw [if_neg c]
    split at h
    · rename_i c
      rw [if_pos c]
      unfold zextO at h ⊢
      split at h
      · rename_i c; rw [if_pos c]; exact h
      · rename_i c; rw [if_neg c]; exact zextF_mono f _ _ _ _ hfg h
    rename_i c; rw [if_neg c]
    split at h
    · rename_i c; rw [if_pos c]; exact condF_mono f _ _ _ _ _ _ hfg h
    rename_i c; rw [if_neg c]
    exact iteF_mono f _ _ _ _ _ hfg h
  have h1 := mono (Nat.le_max_left f g) h
  have h2 := mono (Nat.le_max_right f g) k
  rw [h1] at h2
  injection h2
end Go.Proofs.YtfjflefgclfbfaaGreat
end
section
namespace Go.Proofs.YtfjflefgclfbfaaGreat
open Go.RowKit
set_option linter.unusedVariables false
set_option linter.unusedSimpArgs false
set_option maxRecDepth 100000
/-- No cut is a cut of a constant or of a cut. -/
def NZ (p : PS) : Prop := ∀ n : Int, hasB p.T n = true → (atP p.T n).kind = 3 → (atP p.T (atP p.T n).a).kind ≠ 0 ∧ (atP p.T (atP p.T n).a).kind ≠ 3
/-- What norm puts. -/
def Al (q : PS) (t : TD) : Prop := t.kind ≠ 3 ∨ ∃ w a, t = zextT w a ∧ hasB q.T a = true ∧ (atP q.T a).kind ≠ 0 ∧ (atP q.T a).kind ≠ 3
theorem NZ.put {p : PS} (h : NZ p) (hw : WfP p) {t : TD} (ht : Al p t) : NZ (putP p t) := by
  intro n hn hk
  rcases putP_cases p t with ⟨e, _⟩ | ⟨hok, _, _, _, e, _⟩
  · rw [e] at hn hk ⊢; exact h n hn hk
  · have he : Ext p (putP p t) := Ext.put p t
    cases hb : hasB p.T n
    · -- the new one
      have hn2 : n = (p.T.length : Int) := by
        rw [e] at hn
        unfold hasB at hn hb
        simp at hn hb
        omega
      have hat : atP (putP p t).T n = t := by
        unfold atP
        rw [if_pos hn, e, hn2]
        simp
      rw [hat] at hk ⊢
      rcases ht with ht | ⟨w, a, rfl, ha, k0, k3⟩
      · exact absurd hk ht
      · show (atP (putP p (zextT w a)).T a).kind ≠ 0 ∧ (atP (putP p (zextT w a)).T a).kind ≠ 3
        rw [he.at_ ha]
        exact ⟨k0, k3⟩
    · rw [he.at_ hb] at hk ⊢
      rw [he.at_ (has_part hw hb hk).2.2]
      exact h n hb hk
theorem NZ.nil : NZ ⟨[], []⟩ := fun n hn => by unfold hasB at hn; simp at hn; omega
theorem NZ.bind {p : PS} {r s : RS} {k : PS → Int → Option RS} (h : NZ r.1) (hk : r.2.2 = 0 → ∀ s, k r.1 r.2.1 = some s → NZ s.1) (hs : bindR r k = some s) : NZ s.1 := by
  unfold bindR at hs
  split at hs
  · rename_i h0; exact hk h0 s hs
  · injection hs with hs; subst hs; exact h
theorem NZ.putR {p : PS} (h : NZ p) (hw : WfP p) {t : TD} (ht : t.kind ≠ 3) : NZ (putR p t).1 := h.put hw (.inl ht)
theorem zext_nz : ∀ (f : Nat) {p : PS} (hz : NZ p) (hw : WfP p) {x a : Int} {r : RS} (ha : hasB p.T a = true), zextF f p x a = some r → NZ r.1
  | 0, _, _, _, _, _, _, _, h => by cases h
  | f + 1, p, hz, hw, x, a, r, ha, h => by
    rw [zextF_succ] at h
    split at h
    · injection h with h; subst h; exact hz
    split at h
    · injection h with h; subst h; exact hz.putR hw (by show (0 : Int) ≠ 3; decide)
    rename_i k0
    split at h
    · injection h with h; subst h; exact hz
    split at h
    · rename_i h3; exact zext_nz f hz hw (has_part hw ha h3).2.2 h
    · rename_i k3
      injection h with h; subst h
      exact hz.put hw (.inr ⟨x, a, rfl, ha, k0, k3⟩)
theorem operand_nz {p : PS} (hz : NZ p) (hw : WfP p) (x a : Int) : NZ (operandP p x a).1 := by
  rcases operand_cases p x a with ⟨_, e⟩ | ⟨_, e⟩ | ⟨_, e⟩
  · rw [e]; exact hz.putR hw (by show (0 : Int) ≠ 3; decide)
  · rw [e]; exact hz
  · rw [e]; exact hz
theorem both_nz {p : PS} (hz : NZ p) (hw : WfP p) (hr : ∀ t ∈ p.T, t.wf) {a b : Int} (ha : I64 a) (x : Int) : NZ (bothP p x a b).1 := by
  have h1 := operand_nz hz hw x a
  have h2 := (operand_i64 hw hr ha x).2.1
  unfold bothP
  dsimp only
  split
  · exact operand_nz h1 h2 x b
  · exact h1
theorem op_nz : ∀ (f : Nat) {p : PS} (hz : NZ p) (hw : WfP p) (hr : ∀ t ∈ p.T, t.wf) {op x a b : Int} {r : RS}, opF f p op x a b = some r → NZ r.1
  | 0, _, _, _, _, _, _, _, _, _, h => by cases h
  | f + 1, p, hz, hw, hr, op, x, a, b, r, h => by
    rw [opF_succ] at h
    split at h
    · injection h with h; subst h; exact hz
    rename_i hab
    have hab : hasB p.T a = true ∧ hasB p.T b = true := by simpa using hab
    split at h
    · injection h with h; subst h; exact hz
    have hw2 := both_wf hw hr (has_i64 hw hab.1) (has_i64 hw hab.2) x
    have hz2 := both_nz (b := b) hz hw hr (has_i64 hw hab.1) x
    split at h
    · rename_i h0
      have hf := both_facts hw hr hab.1 hab.2 h0
      generalize bothP p x a b = z at h hw2 hf hz2
      obtain ⟨p1, a1, b1, e1⟩ := z
      dsimp only at h hw2 hf hz2
      have hc : ∀ {n : Int}, U64 n → Good p1 (putR p1 (constT n)) := fun hn => Good.put hw2.1 hw2.2 (constT_wf hn)
      have hn : ∀ n : Int, NZ (putR p1 (constT n)).1 := fun n => hz2.putR hw2.1 (by show (0 : Int) ≠ 3; decide)
      unfold opL at h
      dsimp only at h
      split at h
      · injection h with h; subst h; exact hn _
      split at h
      · exact NZ.bind (p := p1) (hn 0) (fun _ s hs => op_nz f (hn 0) (hc zero_u64).wf (hc zero_u64).rng hs) h
      split at h
      · exact zext_nz f hz2 hw2.1 hf.2.1 h
      split at h
      · have hu : U64 (cutV x (IntKind.u64.wrap (-(atP p1.T b1).n))) := cutV_u64 (wrap_u64 _)
        exact NZ.bind (p := p1) (hn _) (fun _ s hs => op_nz f (hn _) (hc hu).wf (hc hu).rng hs) h
      split at h
      · exact op_nz f hz2 hw2.1 hw2.2 h
      split at h
      · have hu : U64 (cutV x (IntKind.u64.wrap ((atP p1.T (atP p1.T a1).b).n + (atP p1.T b1).n))) := cutV_u64 (wrap_u64 _)
        exact NZ.bind (p := p1) (hn _) (fun _ s hs => op_nz f (hn _) (hc hu).wf (hc hu).rng hs) h
      split at h
      · exact zext_nz f hz2 hw2.1 hf.1 h
      split at h
      · injection h with h; subst h; exact hn _
      split at h
      · injection h with h; subst h; exact hn _
      split at h
      · exact zext_nz f hz2 hw2.1 hf.1 h
      · injection h with h; subst h; exact hz2.putR hw2.1 (by show (2 : Int) ≠ 3; decide)
    · injection h with h; subst h; exact hz2
theorem cond_nz : ∀ (f : Nat) {p : PS} (hz : NZ p) (hw : WfP p) (hr : ∀ t ∈ p.T, t.wf) {cc x a b : Int} {r : RS}, condF f p cc x a b = some r → NZ r.1
  | 0, _, _, _, _, _, _, _, _, _, h => by cases h
  | f + 1, p, hz, hw, hr, cc, x, a, b, r, h => by
    rw [condF_succ] at h
    split at h
    · injection h with h; subst h; exact hz
    rename_i hab
    have hab : hasB p.T a = true ∧ hasB p.T b = true := by simpa using hab
    split at h
    · injection h with h; subst h; exact hz
    have hw2 := both_wf hw hr (has_i64 hw hab.1) (has_i64 hw hab.2) x
    have hz2 := both_nz (b := b) hz hw hr (has_i64 hw hab.1) x
    split at h
    · unfold condL at h
      dsimp only at h
      split at h
      · injection h with h; subst h; exact hz2.putR hw2.1 (by show (0 : Int) ≠ 3; decide)
      split at h
      · injection h with h; subst h; exact hz2.putR hw2.1 (by show (0 : Int) ≠ 3; decide)
      split at h
      · exact cond_nz f hz2 hw2.1 hw2.2 h
      split at h
      · injection h with h; subst h; exact hz2.putR hw2.1 (by show (4 : Int) ≠ 3; decide)
      · injection h with h; subst h; exact hz2.putR hw2.1 (by show (4 : Int) ≠ 3; decide)
    · injection h with h; subst h; exact hz2
theorem ite_nz : ∀ (f : Nat) {p : PS} (hz : NZ p) (hw : WfP p) (hr : ∀ t ∈ p.T, t.wf) {a b c : Int} {r : RS}, iteF f p a b c = some r → NZ r.1
  | 0, _, _, _, _, _, _, _, _, h => by cases h
  | f + 1, p, hz, hw, hr, a, b, c, r, h => by
    rw [iteF_succ] at h
    split at h
    · injection h with h; subst h; exact hz
    unfold iteL at h
    dsimp only at h
    split at h
    · injection h with h; subst h; exact hz
    split at h
    · injection h with h; subst h; exact hz
    split at h
    · rw [Option.bind_eq_some_iff] at h
      obtain ⟨q, hq, h⟩ := h
      have hg := cond_good (f + 1) hw hr hq
      have hn := cond_nz (f + 1) hz hw hr hq
      exact NZ.bind (p := p) hn (fun _ s hs => ite_nz f hn hg.wf hg.rng hs) h
    split at h
    · exact op_nz f hz hw hr h
    · injection h with h; subst h; exact hz.putR hw (by show (5 : Int) ≠ 3; decide)
theorem mk_nz {p : PS} (hz : NZ p) (hw : WfP p) (hr : ∀ t ∈ p.T, t.wf) {x : MD} {l : List Int} {r : RS} (h : MkS p x l r) : NZ r.1 := by
  obtain ⟨f, h⟩ := h
  unfold mkF at h
  split at h
  · injection h with h; subst h; exact hz.putR hw (by show (0 : Int) ≠ 3; decide)
  split at h
  · injection h with h; subst h; exact hz.putR hw (by show (1 : Int) ≠ 3; decide)
  split at h
  · exact op_nz f hz hw hr h
  split at h
  · unfold zextO at h
    split at h
    · injection h with h; subst h; exact hz
    · rename_i hc
      have hc : hasB p.T (pickP l x.a) = true ∧ wdB x.w = true := by simpa using hc
      exact zext_nz f hz hw hc.1 h
  split at h
  · exact cond_nz f hz hw hr h
  · exact ite_nz f hz hw hr h
end Go.Proofs.YtfjflefgclfbfaaGreat
end
section
namespace Go.Proofs.YtfjflefgclfbfaaGreat
open Go.RowKit
set_option linter.unusedVariables false
set_option linter.unusedSimpArgs false
set_option maxRecDepth 100000
theorem operand_idem {q : PS} (hq : WfP q) (hr : ∀ t ∈ q.T, t.wf) (hz : NZ q) {x a a1 : Int} (hx : x = 32 ∨ x = 64) (ha : hasB q.T a = true) (h : operandP q x a = (q, a1, 0)) : operandP q x a1 = (q, a1, 0) := by
  have hwx : Wd4 x := by unfold Wd4; omega
  rcases operand_cases q x a with ⟨k, e⟩ | ⟨k, e⟩ | ⟨k, e⟩
  · rw [h] at e
    have e1 : putP q (constT (cutV x (atP q.T a).n)) = q := (congrArg Prod.fst e).symm
    have e2 : putN q (constT (cutV x (atP q.T a).n)) = (a1, 0) := (congrArg Prod.snd e).symm
    have hat := put_at (p := q) (t := constT (cutV x (atP q.T a).n)) (by rw [e2])
    rw [e1, e2] at hat
    unfold operandP
    dsimp only
    rw [hat.2, if_pos (show (constT (cutV x (atP q.T a).n)).kind = 0 from rfl)]
    show putR q (constT (cutV x (cutV x (atP q.T a).n))) = _
    rw [cut_cut hwx hwx (atP_wf hr a).2.2.2.1, Int.min_self]
    exact e.symm
  · rw [h] at e
    injection e with _ e
    injection e with e _
    have := hz a ha k
    subst e
    unfold operandP
    dsimp only
    rw [if_neg this.1, if_neg (fun q => this.2 q.2.1)]
  · rw [h] at e
    injection e with _ e
    injection e with e _
    subst e
    exact h
theorem both_of {q : PS} {x a b a1 b1 : Int} (h1 : operandP q x a = (q, a1, 0)) (h2 : operandP q x b = (q, b1, 0)) : bothP q x a b = (q, a1, b1, 0) := by
  unfold bothP
  rw [h1]
  dsimp only
  rw [if_pos rfl, h2]
/-- Which ways commute. -/
def commB (x : MD) : Bool := (x.kind == 2 && turnsB x.op) || (x.kind == 4 && (x.op == 0 || (x.op == 1 || x.op == 10)))
def swapM (x : MD) : MD := ⟨x.kind, x.op, x.w, x.b, x.a, x.c, x.n⟩
end Go.Proofs.YtfjflefgclfbfaaGreat
end
