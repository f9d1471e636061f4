/-
  What was made is made again, in any pool that has grown out of that one: nothing is new. Conditions: those written in each statement.
  What was made is made again: conditions, choices, all of them. Conditions: those written in each statement.
  What norm refuses of terms that are there: nothing but a limit. Conditions: those written in each statement.
  What commutes is one term either way. Conditions: those written in each statement.
-/
import Derived.Test.YtepagfkkjlbipaaLad
section
namespace Go.Proofs.Ytepagfkkjlbipaa
open Go.RowKit
set_option linter.unusedVariables false
set_option linter.unusedSimpArgs false
set_option maxRecDepth 100000
theorem has_prt {p : PS} (hw : WfP p) {n k : Int} (hn : hasB p.T n = true) (hk : k ∈ prtL (atP p.T n)) : hasB p.T k = true := by
  have h := part_less hw hn hk
  unfold hasB at *
  simp at hn ⊢
  omega
theorem putR_again {p q : PS} (hq : WfP q) {t : TD} (h : (putR p t).2.2 = 0) (he : Ext (putR p t).1 q) : putR q t = (q, (putR p t).2.1, 0) := by
  have := put_again hq (p := p) (t := t) h he
  unfold putR
  rw [this.1, this.2]
theorem operand_again {p q : PS} (hq : WfP q) {x a : Int} (h0 : (operandP p x a).2.2 = 0) (ha : hasB p.T a = true) (hpq : Ext p q) (he : Ext (operandP p x a).1 q) : operandP q x a = (q, (operandP p x a).2.1, 0) := by
  have ea := hpq.at_ ha
  unfold operandP at h0 he ⊢
  dsimp only at h0 he ⊢
  rw [ea]
  by_cases h1 : (atP p.T a).kind = 0
  · rw [if_pos h1] at h0 he ⊢
    rw [if_pos h1]
    exact putR_again hq h0 he
  · rw [if_neg h1] at h0 he ⊢
    rw [if_neg h1]
    by_cases h2 : x = 32 ∧ (atP p.T a).kind = 3 ∧ (atP p.T a).w = 32
    · rw [if_pos h2, if_pos h2]
    · rw [if_neg h2, if_neg h2]
theorem both_again {p q : PS} (hw : WfP p) (hq : WfP q) {x a b : Int} (h0 : (bothP p x a b).2.2.2 = 0) (ha : hasB p.T a = true) (hb : hasB p.T b = true) (hpq : Ext p q) (he : Ext (bothP p x a b).1 q) : bothP q x a b = (q, (bothP p x a b).2.1, (bothP p x a b).2.2.1, 0) := by
  unfold bothP at h0 he ⊢
  dsimp only at h0 he ⊢
  by_cases h1 : (operandP p x a).2.2 = 0
  · rw [if_pos h1] at h0 he ⊢
    dsimp only at h0 he ⊢
    have e1 := operand_ext p x a
    have e2 := operand_ext (operandP p x a).1 x b
    have o1 := operand_again hq h1 ha hpq (e2.trans he)
    have o2 := operand_again hq h0 (e1.has hb) (e2.trans he) he
    rw [o1]
    dsimp only
    rw [if_pos rfl, o2]
  · rw [if_neg h1] at h0
    exact absurd h0 h1
end Go.Proofs.Ytepagfkkjlbipaa
end
section
namespace Go.Proofs.Ytepagfkkjlbipaa
open Go.RowKit
set_option linter.unusedVariables false
set_option linter.unusedSimpArgs false
set_option maxRecDepth 100000
theorem and_cong {a b c : Bool} (h : a = true → b = c) : (a && b) = (a && c) := by
  cases a
  · rfl
  · rw [h rfl]
end Go.Proofs.Ytepagfkkjlbipaa
end
section
namespace Go.Proofs.Ytepagfkkjlbipaa
open Go.RowKit
set_option linter.unusedVariables false
set_option linter.unusedSimpArgs false
set_option maxRecDepth 100000
def E0 (r : RS) : Prop := r.2.2 = 0 ∨ r.2.2 = 260
theorem E0.same (p : PS) (n : Int) : E0 (p, n, 0) := .inl rfl
theorem E0.const (p : PS) (n : Int) : E0 (putR p (constT n)) := put_errs (okP_const _ _)
theorem E0.bind {r s : RS} {k : PS → Int → Option RS} (h : E0 r) (hk : r.2.2 = 0 → ∀ s, k r.1 r.2.1 = some s → E0 s) (hs : bindR r k = some s) : E0 s := by
  unfold bindR at hs
  split at hs
  · rename_i h0; exact hk h0 s hs
  · injection hs with hs
    subst hs
    exact h
theorem okP_op {p : PS} {op x a b : Int} (h : doOk op x = true) (ha : hasB p.T a = true) (hb : hasB p.T b = true) : okP p.T (opT op x a b) = true := by
  have hd := doOk_yes h
  unfold okP okF askT likeT clashB prtL opT
  simp [ha, hb]
  omega
theorem okP_cond {p : PS} {cc x a b : Int} (h : holdsOk cc x = true) (ha : hasB p.T a = true) (hb : hasB p.T b = true) : okP p.T (condT cc x a b) = true := by
  have hd := holdsOk_yes h
  unfold okP okF askT likeT clashB prtL condT
  simp [ha, hb]
  omega
end Go.Proofs.Ytepagfkkjlbipaa
end
section
namespace Go.Proofs.Ytepagfkkjlbipaa
open Go.RowKit
set_option linter.unusedVariables false
set_option linter.unusedSimpArgs false
set_option maxRecDepth 100000
theorem and_comm64 (a b : Int) : bits .and .u64 a b = bits .and .u64 b a := by unfold bits; dsimp only; rw [BitVec.and_comm]
theorem or_comm64 (a b : Int) : bits .or .u64 a b = bits .or .u64 b a := by unfold bits; dsimp only; rw [BitVec.or_comm]
theorem xor_comm64 (a b : Int) : bits .xor .u64 a b = bits .xor .u64 b a := by unfold bits; dsimp only; rw [BitVec.xor_comm]
theorem turns_cases {op : Int} (h : turnsB op = true) : op = 0 ∨ op = 2 ∨ op = 4 ∨ op = 5 ∨ op = 10 := by unfold turnsB at h; simp at h; exact h
theorem doU_comm {op : Int} (h : turnsB op = true) (x a b : Int) : doU op x a b = doU op x b a := by
  unfold doU doV
  rcases turns_cases h with rfl | rfl | rfl | rfl | rfl
  · simp only [if_pos]; rw [Int.add_comm]
  · rw [if_neg (by decide), if_neg (by decide), if_pos rfl, if_neg (by decide), if_neg (by decide), if_pos rfl, Int.mul_comm]
  · rw [if_neg (by decide), if_neg (by decide), if_neg (by decide), if_neg (by decide), if_pos rfl, if_neg (by decide), if_neg (by decide), if_neg (by decide), if_neg (by decide), if_pos rfl, or_comm64]
  · rw [if_neg (by decide), if_neg (by decide), if_neg (by decide), if_neg (by decide), if_neg (by decide), if_pos rfl, if_neg (by decide), if_neg (by decide), if_neg (by decide), if_neg (by decide), if_neg (by decide), if_pos rfl, and_comm64]
  · rw [if_neg (by decide), if_neg (by decide), if_neg (by decide), if_neg (by decide), if_neg (by decide), if_neg (by decide), if_neg (by decide), if_neg (by decide), if_neg (by decide), if_neg (by decide), if_pos rfl, if_neg (by decide), if_neg (by decide), if_neg (by decide), if_neg (by decide), if_neg (by decide), if_neg (by decide), if_neg (by decide), if_neg (by decide), if_neg (by decide), if_neg (by decide), if_pos rfl, xor_comm64]
theorem ord_eq (a b : Int) : (ordV a b == 0) = (ordV b a == 0) := by
  unfold ordV
  by_cases h1 : a < b
  · rw [if_pos h1, if_neg (show ¬ b < a by omega), if_pos h1]; decide
  · rw [if_neg h1]
    by_cases h2 : b < a
    · rw [if_pos h2, if_pos h2]; decide
    · rw [if_neg h2, if_neg h2, if_neg h1]
theorem holds_comm {cc : Int} (h : cc = 0 ∨ cc = 1 ∨ cc = 10) (x a b : Int) : holdsU cc x a b = holdsU cc x b a := by
  unfold holdsU
  rcases h with rfl | rfl | rfl
  · simp
    have := ord_eq (cutV x a) (cutV x b)
    revert this
    cases h1 : (ordV (cutV x a) (cutV x b) == 0) <;> cases h2 : (ordV (cutV x b) (cutV x a) == 0) <;> simp_all
  · simp
    have := ord_eq (cutV x a) (cutV x b)
    unfold bne
    rw [this]
  · simp only [if_pos]
    rw [and_comm64]
/-- No cut is a cut of a constant or of a cut. -/
def NZ (p : PS) : Prop := ∀ n : Int, hasB p.T n = true → (atP p.T n).kind = 3 → (atP p.T (atP p.T n).a).kind ≠ 0 ∧ (atP p.T (atP p.T n).a).kind ≠ 3
/-- What norm puts. -/
def Al (q : PS) (t : TD) : Prop := t.kind ≠ 3 ∨ ∃ w a, t = zextT w a ∧ hasB q.T a = true ∧ (atP q.T a).kind ≠ 0 ∧ (atP q.T a).kind ≠ 3
theorem NZ.put {p : PS} (h : NZ p) (hw : WfP p) {t : TD} (ht : Al p t) : NZ (putP p t) := by
  intro n hn hk
  rcases putP_cases p t with ⟨e, _⟩ | ⟨hok, _, _, _, e, _⟩
  · rw [e] at hn hk ⊢; exact h n hn hk
  · have he : Ext p (putP p t) := Ext.put p t
    cases hb : hasB p.T n
    · -- the new one
      have hn2 : n = (p.T.length : Int) := by
        rw [e] at hn
        unfold hasB at hn hb
        simp at hn hb
        omega
      have hat : atP (putP p t).T n = t := by
        unfold atP
        rw [if_pos hn, e, hn2]
        simp
      rw [hat] at hk ⊢
      rcases ht with ht | ⟨w, a, rfl, ha, k0, k3⟩
      · exact absurd hk ht
      · show (atP (putP p (zextT w a)).T a).kind ≠ 0 ∧ (atP (putP p (zextT w a)).T a).kind ≠ 3
        rw [he.at_ ha]
        exact ⟨k0, k3⟩
    · rw [he.at_ hb] at hk ⊢
      rw [he.at_ (has_part hw hb hk).2.2]
      exact h n hb hk
theorem NZ.nil : NZ ⟨[], []⟩ := fun n hn => by unfold hasB at hn; simp at hn; omega
theorem NZ.bind {p : PS} {r s : RS} {k : PS → Int → Option RS} (h : NZ r.1) (hk : r.2.2 = 0 → ∀ s, k r.1 r.2.1 = some s → NZ s.1) (hs : bindR r k = some s) : NZ s.1 := by
  unfold bindR at hs
  split at hs
  · rename_i h0; exact hk h0 s hs
  · injection hs with hs; subst hs; exact h
theorem NZ.putR {p : PS} (h : NZ p) (hw : WfP p) {t : TD} (ht : t.kind ≠ 3) : NZ (putR p t).1 := h.put hw (.inl ht)
theorem zext_nz : ∀ (f : Nat) {p : PS} (hz : NZ p) (hw : WfP p) {x a : Int} {r : RS} (ha : hasB p.T a = true), zextF f p x a = some r → NZ r.1
  | 0, _, _, _, _, _, _, _, h => by cases h
  | f + 1, p, hz, hw, x, a, r, ha, h => by
    rw [zextF_succ] at h
    split at h
    · injection h with h; subst h; exact hz
    split at h
    · injection h with h; subst h; exact hz.putR hw (by show (0 : Int) ≠ 3; decide)
    rename_i k0
    split at h
    · injection h with h; subst h; exact hz
    split at h
    · rename_i h3; exact zext_nz f hz hw (has_part hw ha h3).2.2 h
    · rename_i k3
      injection h with h; subst h
      exact hz.put hw (.inr ⟨x, a, rfl, ha, k0, k3⟩)
theorem operand_nz {p : PS} (hz : NZ p) (hw : WfP p) (x a : Int) : NZ (operandP p x a).1 := by
  rcases operand_cases p x a with ⟨_, e⟩ | ⟨_, e⟩ | ⟨_, e⟩
  · rw [e]; exact hz.putR hw (by show (0 : Int) ≠ 3; decide)
  · rw [e]; exact hz
  · rw [e]; exact hz
theorem both_nz {p : PS} (hz : NZ p) (hw : WfP p) (hr : ∀ t ∈ p.T, t.wf) {a b : Int} (ha : I64 a) (x : Int) : NZ (bothP p x a b).1 := by
  have h1 := operand_nz hz hw x a
  have h2 := (operand_i64 hw hr ha x).2.1
  unfold bothP
  dsimp only
  split
  · exact operand_nz h1 h2 x b
  · exact h1
theorem op_nz : ∀ (f : Nat) {p : PS} (hz : NZ p) (hw : WfP p) (hr : ∀ t ∈ p.T, t.wf) {op x a b : Int} {r : RS}, opF f p op x a b = some r → NZ r.1
  | 0, _, _, _, _, _, _, _, _, _, h => by cases h
  | f + 1, p, hz, hw, hr, op, x, a, b, r, h => by
    rw [opF_succ] at h
    split at h
    · injection h with h; subst h; exact hz
    rename_i hab
    have hab : hasB p.T a = true ∧ hasB p.T b = true := by simpa using hab
    split at h
    · injection h with h; subst h; exact hz
    have hw2 := both_wf hw hr (has_i64 hw hab.1) (has_i64 hw hab.2) x
    have hz2 := both_nz (b := b) hz hw hr (has_i64 hw hab.1) x
    split at h
    · rename_i h0
      have hf := both_facts hw hr hab.1 hab.2 h0
      generalize bothP p x a b = z at h hw2 hf hz2
      obtain ⟨p1, a1, b1, e1⟩ := z
      dsimp only at h hw2 hf hz2
      have hc : ∀ {n : Int}, U64 n → Good p1 (putR p1 (constT n)) := fun hn => Good.put hw2.1 hw2.2 (constT_wf hn)
      have hn : ∀ n : Int, NZ (putR p1 (constT n)).1 := fun n => hz2.putR hw2.1 (by show (0 : Int) ≠ 3; decide)
      unfold opL at h
      dsimp only at h
      split at h
      · injection h with h; subst h; exact hn _
      split at h
      · exact NZ.bind (p := p1) (hn 0) (fun _ s hs => op_nz f (hn 0) (hc zero_u64).wf (hc zero_u64).rng hs) h
      split at h
      · exact zext_nz f hz2 hw2.1 hf.2.1 h
      split at h
      · have hu : U64 (cutV x (IntKind.u64.wrap (-(atP p1.T b1).n))) := cutV_u64 (wrap_u64 _)
        exact NZ.bind (p := p1) (hn _) (fun _ s hs => op_nz f (hn _) (hc hu).wf (hc hu).rng hs) h
      split at h
      · exact op_nz f hz2 hw2.1 hw2.2 h
      split at h
      · have hu : U64 (cutV x (IntKind.u64.wrap ((atP p1.T (atP p1.T a1).b).n + (atP p1.T b1).n))) := cutV_u64 (wrap_u64 _)
        exact NZ.bind (p := p1) (hn _) (fun _ s hs => op_nz f (hn _) (hc hu).wf (hc hu).rng hs) h
      split at h
      · exact zext_nz f hz2 hw2.1 hf.1 h
      split at h
      · injection h with h; subst h; exact hn _
      split at h
      · injection h with h; subst h; exact hn _
      split at h
      · exact zext_nz f hz2 hw2.1 hf.1 h
      · injection h with h; subst h; exact hz2.putR hw2.1 (by show (2 : Int) ≠ 3; decide)
    · injection h with h; subst h; exact hz2
theorem cond_nz : ∀ (f : Nat) {p : PS} (hz : NZ p) (hw : WfP p) (hr : ∀ t ∈ p.T, t.wf) {cc x a b : Int} {r : RS}, condF f p cc x a b = some r → NZ r.1
  | 0, _, _, _, _, _, _, _, _, _, h => by cases h
  | f + 1, p, hz, hw, hr, cc, x, a, b, r, h => by
    rw [condF_succ] at h
    split at h
    · injection h with h; subst h; exact hz
    rename_i hab
    have hab : hasB p.T a = true ∧ hasB p.T b = true := by simpa using hab
    split at h
    · injection h with h; subst h; exact hz
    have hw2 := both_wf hw hr (has_i64 hw hab.1) (has_i64 hw hab.2) x
    have hz2 := both_nz (b := b) hz hw hr (has_i64 hw hab.1) x
    split at h
    · unfold condL at h
      dsimp only at h
      split at h
      · injection h with h; subst h; exact hz2.putR hw2.1 (by show (0 : Int) ≠ 3; decide)
      split at h
      · injection h with h; subst h; exact hz2.putR hw2.1 (by show (0 : Int) ≠ 3; decide)
      split at h
      · exact cond_nz f hz2 hw2.1 hw2.2 h
      split at h
      · injection h with h; subst h; exact hz2.putR hw2.1 (by show (4 : Int) ≠ 3; decide)
      · injection h with h; subst h; exact hz2.putR hw2.1 (by show (4 : Int) ≠ 3; decide)
    · injection h with h; subst h; exact hz2
end Go.Proofs.Ytepagfkkjlbipaa
end
