/-
  Parts of the proof of SymbcSound. Conditions: those written in each statement.
-/
import Derived.Test.YtepagfkkjlbipaaGreatKas
set_option linter.unusedVariables false
set_option linter.unusedSimpArgs false
set_option maxHeartbeats 64000000
set_option maxRecDepth 100000
namespace Go.Proofs.YtepagfkkjlbipaaGreat
section
open Go.RowKit
def PutI (I : PS → Prop) : Prop := ∀ (q : PS) (t : TD), t.kind ≠ 1 → I q → I (putP q t)
section
variable {I : PS → Prop}
theorem I_bind {r s : RS} {k : PS → Int → Option RS} (h : I r.1) (hk : ∀ s, k r.1 r.2.1 = some s → I s.1) (hs : bindR r k = some s) : I s.1 := by
 unfold bindR at hs
 split at hs
 ·exact hk s hs
 ·injection hs with hs
  subst hs
  exact h
theorem const_inv (hI : PutI I) {p : PS} (h : I p) (n : Int) : I (putR p (constT n)).1 := hI p _ (by show (0 : Int) ≠ 1; decide) h
theorem zext_inv (hI : PutI I) : ∀ (f : Nat) {p : PS} {x a : Int} {r : RS}, zextF f p x a = some r → I p → I r.1
 | 0, _, _, _, _, h, _ => by cases h
 | f + 1, p, x, a, r, h, hp => by
  rw [zextF_succ] at h
  split at h
  ·injection h with h; subst h; exact hp
  split at h
  ·injection h with h; subst h; exact const_inv hI hp _
  split at h
  ·injection h with h; subst h; exact hp
  split at h
  ·exact zext_inv hI f h hp
  ·injection h with h; subst h; exact hI p _ (by show (3 : Int) ≠ 1; decide) hp
theorem operand_inv (hI : PutI I) {p : PS} (h : I p) (x a : Int) : I (operandP p x a).1 := by
 rcases operand_cases p x a with ⟨_, e⟩ | ⟨_, e⟩ | ⟨_, e⟩ <;> rw [e]
 ·exact const_inv hI h _
 ·exact h
 ·exact h
theorem both_inv (hI : PutI I) {p : PS} (h : I p) (x a b : Int) : I (bothP p x a b).1 := by
 have h1 := operand_inv hI h x a
 unfold bothP
 dsimp only
 split
 ·exact operand_inv hI h1 x b
 ·exact h1
theorem op_inv (hI : PutI I) : ∀ (f : Nat) {p : PS} {op x a b : Int} {r : RS}, opF f p op x a b = some r → I p → I r.1
 | 0, _, _, _, _, _, _, h, _ => by cases h
 | f + 1, p, op, x, a, b, r, h, hp => by
  rw [opF_succ] at h
  split at h
  ·injection h with h; subst h; exact hp
  split at h
  ·injection h with h; subst h; exact hp
  have h1 := both_inv hI hp x a b
  split at h
  ·generalize bothP p x a b = z at h h1
   obtain ⟨p1, a1, b1, e1⟩ := z
   dsimp only at h h1
   unfold opL at h
   dsimp only at h
   split at h
   ·injection h with h; subst h; exact const_inv hI h1 _
   split at h
   ·exact I_bind (const_inv hI h1 _) (fun s hs => op_inv hI f hs (const_inv hI h1 _)) h
   split at h
   ·exact zext_inv hI f h h1
   split at h
   ·exact I_bind (const_inv hI h1 _) (fun s hs => op_inv hI f hs (const_inv hI h1 _)) h
   split at h
   ·exact op_inv hI f h h1
   split at h
   ·exact I_bind (const_inv hI h1 _) (fun s hs => op_inv hI f hs (const_inv hI h1 _)) h
   split at h
   ·exact zext_inv hI f h h1
   split at h
   ·injection h with h; subst h; exact const_inv hI h1 _
   split at h
   ·injection h with h; subst h; exact const_inv hI h1 _
   split at h
   ·exact zext_inv hI f h h1
   ·injection h with h; subst h; exact hI p1 _ (by show (2 : Int) ≠ 1; decide) h1
  ·injection h with h; subst h; exact h1
theorem cond_inv (hI : PutI I) : ∀ (f : Nat) {p : PS} {cc x a b : Int} {r : RS}, condF f p cc x a b = some r → I p → I r.1
 | 0, _, _, _, _, _, _, h, _ => by cases h
 | f + 1, p, cc, x, a, b, r, h, hp => by
  rw [condF_succ] at h
  split at h
  ·injection h with h; subst h; exact hp
  split at h
  ·injection h with h; subst h; exact hp
  have h1 := both_inv hI hp x a b
  split at h
  ·generalize bothP p x a b = z at h h1
   obtain ⟨p1, a1, b1, e1⟩ := z
   dsimp only at h h1
   unfold condL at h
   dsimp only at h
   split at h
   ·injection h with h; subst h; exact const_inv hI h1 _
   split at h
   ·injection h with h; subst h; exact const_inv hI h1 _
   split at h
   ·exact cond_inv hI f h h1
   split at h
   ·injection h with h; subst h; exact hI p1 _ (by show (4 : Int) ≠ 1; decide) h1
   ·injection h with h; subst h; exact hI p1 _ (by show (4 : Int) ≠ 1; decide) h1
  ·injection h with h; subst h; exact h1
end
def VarsM (n : Nat) (p : PS) : Prop := ∀ t ∈ p.T, t.kind = 1 → t.n < 38 + 3 * (n : Int)
end
section
open Go.RowKit
theorem and_comm64 (a b : Int) : bits .and .u64 a b = bits .and .u64 b a := by unfold bits; dsimp only; rw [BitVec.and_comm]
theorem or_comm64 (a b : Int) : bits .or .u64 a b = bits .or .u64 b a := by unfold bits; dsimp only; rw [BitVec.or_comm]
theorem xor_comm64 (a b : Int) : bits .xor .u64 a b = bits .xor .u64 b a := by unfold bits; dsimp only; rw [BitVec.xor_comm]
theorem turns_cases {op : Int} (h : turnsB op = true) : op = 0 ∨ op = 2 ∨ op = 4 ∨ op = 5 ∨ op = 10 := by unfold turnsB at h; simp at h; exact h
theorem doU_comm {op : Int} (h : turnsB op = true) (x a b : Int) : doU op x a b = doU op x b a := by
 unfold doU doV
 rcases turns_cases h with rfl | rfl | rfl | rfl | rfl
 ·simp only [if_pos]; rw [Int.add_comm]
 ·rw [if_neg (by decide), if_neg (by decide), if_pos rfl, if_neg (by decide), if_neg (by decide), if_pos rfl, Int.mul_comm]
 ·rw [if_neg (by decide), if_neg (by decide), if_neg (by decide), if_neg (by decide), if_pos rfl, if_neg (by decide), if_neg (by decide), if_neg (by decide), if_neg (by decide), if_pos rfl, or_comm64]
 ·rw [if_neg (by decide), if_neg (by decide), if_neg (by decide), if_neg (by decide), if_neg (by decide), if_pos rfl, if_neg (by decide), if_neg (by decide), if_neg (by decide), if_neg (by decide), if_neg (by decide), if_pos rfl, and_comm64]
 ·rw [if_neg (by decide), if_neg (by decide), if_neg (by decide), if_neg (by decide), if_neg (by decide), if_neg (by decide), if_neg (by decide), if_neg (by decide), if_neg (by decide), if_neg (by decide), if_pos rfl, if_neg (by decide), if_neg (by decide), if_neg (by decide), if_neg (by decide), if_neg (by decide), if_neg (by decide), if_neg (by decide), if_neg (by decide), if_neg (by decide), if_neg (by decide), if_pos rfl, xor_comm64]
theorem ord_eq (a b : Int) : (ordV a b == 0) = (ordV b a == 0) := by
 unfold ordV
 by_cases h1 : a < b
 ·rw [if_pos h1, if_neg (show ¬ b < a by omega), if_pos h1]; decide
 ·rw [if_neg h1]
  by_cases h2 : b < a
  ·rw [if_pos h2, if_pos h2]; decide
  ·rw [if_neg h2, if_neg h2, if_neg h1]
theorem holds_comm {cc : Int} (h : cc = 0 ∨ cc = 1 ∨ cc = 10) (x a b : Int) : holdsU cc x a b = holdsU cc x b a := by
 unfold holdsU
 rcases h with rfl | rfl | rfl
 ·simp
  have := ord_eq (cutV x a) (cutV x b)
  revert this
  cases h1 : (ordV (cutV x a) (cutV x b) == 0) <;> cases h2 : (ordV (cutV x b) (cutV x a) == 0) <;> simp_all
 ·simp
  have := ord_eq (cutV x a) (cutV x b)
  unfold bne
  rw [this]
 ·simp only [if_pos]
  rw [and_comm64]
def NZ (p : PS) : Prop := ∀ n : Int, hasB p.T n = true → (atP p.T n).kind = 3 → (atP p.T (atP p.T n).a).kind ≠ 0 ∧ (atP p.T (atP p.T n).a).kind ≠ 3
def Al (q : PS) (t : TD) : Prop := t.kind ≠ 3 ∨ ∃ w a, t = zextT w a ∧ hasB q.T a = true ∧ (atP q.T a).kind ≠ 0 ∧ (atP q.T a).kind ≠ 3
theorem NZ.put {p : PS} (h : NZ p) (hw : WfP p) {t : TD} (ht : Al p t) : NZ (putP p t) := by
 intro n hn hk
 rcases putP_cases p t with ⟨e, _⟩ | ⟨hok, _, _, _, e, _⟩
 ·rw [e] at hn hk ⊢; exact h n hn hk
 ·have he : Ext p (putP p t) := Ext.put p t
  cases hb : hasB p.T n
  ·-- the new one
   have hn2 : n = (p.T.length : Int) := by
    rw [e] at hn
    unfold hasB at hn hb
    simp at hn hb
    omega
   have hat : atP (putP p t).T n = t := by
    unfold atP
    rw [if_pos hn, e, hn2]
    simp
   rw [hat] at hk ⊢
   rcases ht with ht | ⟨w, a, rfl, ha, k0, k3⟩
   ·exact absurd hk ht
   ·show (atP (putP p (zextT w a)).T a).kind ≠ 0 ∧ (atP (putP p (zextT w a)).T a).kind ≠ 3
    rw [he.at_ ha]
    exact ⟨k0, k3⟩
  ·rw [he.at_ hb] at hk ⊢
   rw [he.at_ (has_part hw hb hk).2.2]
   exact h n hb hk
theorem NZ.bind {p : PS} {r s : RS} {k : PS → Int → Option RS} (h : NZ r.1) (hk : r.2.2 = 0 → ∀ s, k r.1 r.2.1 = some s → NZ s.1) (hs : bindR r k = some s) : NZ s.1 := by
 unfold bindR at hs
 split at hs
 ·rename_i h0; exact hk h0 s hs
 ·injection hs with hs; subst hs; exact h
theorem NZ.putR {p : PS} (h : NZ p) (hw : WfP p) {t : TD} (ht : t.kind ≠ 3) : NZ (putR p t).1 := h.put hw (.inl ht)
theorem zext_nz : ∀ (f : Nat) {p : PS} (hz : NZ p) (hw : WfP p) {x a : Int} {r : RS} (ha : hasB p.T a = true), zextF f p x a = some r → NZ r.1
 | 0, _, _, _, _, _, _, _, h => by cases h
 | f + 1, p, hz, hw, x, a, r, ha, h => by
  rw [zextF_succ] at h
  split at h
  ·injection h with h; subst h; exact hz
  split at h
  ·injection h with h; subst h; exact hz.putR hw (by show (0 : Int) ≠ 3; decide)
  rename_i k0
  split at h
  ·injection h with h; subst h; exact hz
  split at h
  ·rename_i h3; exact zext_nz f hz hw (has_part hw ha h3).2.2 h
  ·rename_i k3
   injection h with h; subst h
   exact hz.put hw (.inr ⟨x, a, rfl, ha, k0, k3⟩)
theorem operand_nz {p : PS} (hz : NZ p) (hw : WfP p) (x a : Int) : NZ (operandP p x a).1 := by
 rcases operand_cases p x a with ⟨_, e⟩ | ⟨_, e⟩ | ⟨_, e⟩
 ·rw [e]; exact hz.putR hw (by show (0 : Int) ≠ 3; decide)
 ·rw [e]; exact hz
 ·rw [e]; exact hz
theorem both_nz {p : PS} (hz : NZ p) (hw : WfP p) (hr : ∀ t ∈ p.T, t.wf) {a b : Int} (ha : I64 a) (x : Int) : NZ (bothP p x a b).1 := by
 have h1 := operand_nz hz hw x a
 have h2 := (operand_i64 hw hr ha x).2.1
 unfold bothP
 dsimp only
 split
 ·exact operand_nz h1 h2 x b
 ·exact h1
theorem op_nz : ∀ (f : Nat) {p : PS} (hz : NZ p) (hw : WfP p) (hr : ∀ t ∈ p.T, t.wf) {op x a b : Int} {r : RS}, opF f p op x a b = some r → NZ r.1
 | 0, _, _, _, _, _, _, _, _, _, h => by cases h
 | f + 1, p, hz, hw, hr, op, x, a, b, r, h => by
  rw [opF_succ] at h
  split at h
  ·injection h with h; subst h; exact hz
  rename_i hab
  have hab : hasB p.T a = true ∧ hasB p.T b = true := by simpa using hab
  split at h
  ·injection h with h; subst h; exact hz
  have hw2 := both_wf hw hr (has_i64 hw hab.1) (has_i64 hw hab.2) x
  have hz2 := both_nz (b := b) hz hw hr (has_i64 hw hab.1) x
  split at h
  ·rename_i h0
   have hf := both_facts hw hr hab.1 hab.2 h0
   generalize bothP p x a b = z at h hw2 hf hz2
   obtain ⟨p1, a1, b1, e1⟩ := z
   dsimp only at h hw2 hf hz2
   have hc : ∀ {n : Int}, U64 n → Good p1 (putR p1 (constT n)) := fun hn => Good.put hw2.1 hw2.2 (constT_wf hn)
   have hn : ∀ n : Int, NZ (putR p1 (constT n)).1 := fun n => hz2.putR hw2.1 (by show (0 : Int) ≠ 3; decide)
   unfold opL at h
   dsimp only at h
   split at h
   ·injection h with h; subst h; exact hn _
   split at h
   ·exact NZ.bind (p := p1) (hn 0) (fun _ s hs => op_nz f (hn 0) (hc zero_u64).wf (hc zero_u64).rng hs) h
   split at h
   ·exact zext_nz f hz2 hw2.1 hf.2.1 h
   split at h
   ·have hu : U64 (cutV x (IntKind.u64.wrap (-(atP p1.T b1).n))) := cutV_u64 (wrap_u64 _)
    exact NZ.bind (p := p1) (hn _) (fun _ s hs => op_nz f (hn _) (hc hu).wf (hc hu).rng hs) h
   split at h
   ·exact op_nz f hz2 hw2.1 hw2.2 h
   split at h
   ·have hu : U64 (cutV x (IntKind.u64.wrap ((atP p1.T (atP p1.T a1).b).n + (atP p1.T b1).n))) := cutV_u64 (wrap_u64 _)
    exact NZ.bind (p := p1) (hn _) (fun _ s hs => op_nz f (hn _) (hc hu).wf (hc hu).rng hs) h
   split at h
   ·exact zext_nz f hz2 hw2.1 hf.1 h
   split at h
   ·injection h with h; subst h; exact hn _
   split at h
   ·injection h with h; subst h; exact hn _
   split at h
   ·exact zext_nz f hz2 hw2.1 hf.1 h
   ·injection h with h; subst h; exact hz2.putR hw2.1 (by show (2 : Int) ≠ 3; decide)
  ·injection h with h; subst h; exact hz2
theorem cond_nz : ∀ (f : Nat) {p : PS} (hz : NZ p) (hw : WfP p) (hr : ∀ t ∈ p.T, t.wf) {cc x a b : Int} {r : RS}, condF f p cc x a b = some r → NZ r.1
 | 0, _, _, _, _, _, _, _, _, _, h => by cases h
 | f + 1, p, hz, hw, hr, cc, x, a, b, r, h => by
  rw [condF_succ] at h
  split at h
  ·injection h with h; subst h; exact hz
  rename_i hab
  have hab : hasB p.T a = true ∧ hasB p.T b = true := by simpa using hab
  split at h
  ·injection h with h; subst h; exact hz
  have hw2 := both_wf hw hr (has_i64 hw hab.1) (has_i64 hw hab.2) x
  have hz2 := both_nz (b := b) hz hw hr (has_i64 hw hab.1) x
  split at h
  ·unfold condL at h
   dsimp only at h
   split at h
   ·injection h with h; subst h; exact hz2.putR hw2.1 (by show (0 : Int) ≠ 3; decide)
   split at h
   ·injection h with h; subst h; exact hz2.putR hw2.1 (by show (0 : Int) ≠ 3; decide)
   split at h
   ·exact cond_nz f hz2 hw2.1 hw2.2 h
   split at h
   ·injection h with h; subst h; exact hz2.putR hw2.1 (by show (4 : Int) ≠ 3; decide)
   ·injection h with h; subst h; exact hz2.putR hw2.1 (by show (4 : Int) ≠ 3; decide)
  ·injection h with h; subst h; exact hz2
end
section
open Go.RowKit
theorem operand_idem {q : PS} (hq : WfP q) (hr : ∀ t ∈ q.T, t.wf) (hz : NZ q) {x a a1 : Int} (hx : x = 32 ∨ x = 64) (ha : hasB q.T a = true) (h : operandP q x a = (q, a1, 0)) : operandP q x a1 = (q, a1, 0) := by
 have hwx : Wd4 x := by unfold Wd4; omega
 rcases operand_cases q x a with ⟨k, e⟩ | ⟨k, e⟩ | ⟨k, e⟩
 ·rw [h] at e
  have e1 : putP q (constT (cutV x (atP q.T a).n)) = q := (congrArg Prod.fst e).symm
  have e2 : putN q (constT (cutV x (atP q.T a).n)) = (a1, 0) := (congrArg Prod.snd e).symm
  have hat := put_at (p := q) (t := constT (cutV x (atP q.T a).n)) (by rw [e2])
  rw [e1, e2] at hat
  unfold operandP
  dsimp only
  rw [hat.2, if_pos (show (constT (cutV x (atP q.T a).n)).kind = 0 from rfl)]
  show putR q (constT (cutV x (cutV x (atP q.T a).n))) = _
  rw [cut_cut hwx hwx (atP_wf hr a).2.2.2.1, Int.min_self]
  exact e.symm
 ·rw [h] at e
  injection e with _ e
  injection e with e _
  have := hz a ha k
  subst e
  unfold operandP
  dsimp only
  rw [if_neg this.1, if_neg (fun q => this.2 q.2.1)]
 ·rw [h] at e
  injection e with _ e
  injection e with e _
  subst e
  exact h
theorem both_of {q : PS} {x a b a1 b1 : Int} (h1 : operandP q x a = (q, a1, 0)) (h2 : operandP q x b = (q, b1, 0)) : bothP q x a b = (q, a1, b1, 0) := by
 unfold bothP
 rw [h1]
 dsimp only
 rw [if_pos rfl, h2]
theorem opF_of {q : PS} {f : Nat} {op x a b a1 b1 : Int} (ha : hasB q.T a = true) (hb : hasB q.T b = true) (hd : doOk op x = true) (h1 : operandP q x a = (q, a1, 0)) (h2 : operandP q x b = (q, b1, 0)) : opF (f + 1) q op x a b = opL (fun q o u v => opF f q o x u v) f q op x a1 b1 := by
 rw [opF_succ, if_neg (by rw [ha, hb]; simp), if_neg (by rw [hd]; simp), both_of h1 h2]
 dsimp only
 rw [if_pos rfl]
end
section
open Go.RowKit
theorem cut64 (v : Int) : cutV 64 v = v := by unfold cutV; simp
theorem cut32 (v : Int) : cutV 32 v = v % 4294967296 := by unfold cutV; simp
theorem doU_cut (op : Int) {x : Int} (hx : x = 32 ∨ x = 64) {a b : Int} (ha : U64 a) (hb : U64 b) : doU op x (cutV x a) (cutV x b) = doU op x a b := by
 have hw : Wd4 x := by unfold Wd4; omega
 have e1 : cutV x (cutV x a) = cutV x a := by rw [cut_cut hw hw ha, Int.min_self]
 have e2 : cutV x (cutV x b) = cutV x b := by rw [cut_cut hw hw hb, Int.min_self]
 unfold doU byV
 rw [e1, e2]
theorem doU_cong (op : Int) {x : Int} (hx : x = 32 ∨ x = 64) {a b a' b' : Int} (ha : U64 a) (hb : U64 b) (ha' : U64 a') (hb' : U64 b') (h1 : cutV x a' = cutV x a) (h2 : cutV x b' = cutV x b) : doU op x a' b' = doU op x a b := by
 rw [← doU_cut op hx ha hb, ← doU_cut op hx ha' hb', h1, h2]
section
variable {x a b n d : Int}
theorem law_neg (hx : x = 32 ∨ x = 64) (ha : U64 a) : doU 1 x 0 a = doU 8 x a b := by
 unfold U64 at ha
 unfold doU doV
 rcases hx with rfl | rfl
 ·simp [cut32, IntKind.wrap_u64]
 ·simp [cut64, IntKind.wrap_u64]
theorem law_mov (hx : x = 32 ∨ x = 64) (hb : U64 b) : cutV x b = doU 11 x a b := by
 have hw : Wd4 x := by unfold Wd4; omega
 unfold doU doV
 simp
 rw [cut_cut hw hw hb, Int.min_self]
theorem law_sub (hx : x = 32 ∨ x = 64) (ha : U64 a) (hb : U64 b) : doU 0 x a (cutV x (IntKind.u64.wrap (-b))) = doU 1 x a b := by
 unfold U64 at ha hb
 unfold doU doV
 rcases hx with rfl | rfl
 ·simp [cut32, IntKind.wrap_u64]; omega
 ·simp [cut64, IntKind.wrap_u64]; omega
theorem law_assoc (hx : x = 32 ∨ x = 64) (ha : U64 a) (hn : U64 n) (hb : U64 b) : doU 0 x a (cutV x (IntKind.u64.wrap (n + b))) = doU 0 x (doU 0 x a n) b := by
 unfold U64 at ha hb hn
 unfold doU doV
 rcases hx with rfl | rfl
 ·simp [cut32, IntKind.wrap_u64]; omega
 ·simp [cut64, IntKind.wrap_u64]; omega
theorem bv_nat {a : Int} (ha : U64 a) : (BitVec.ofInt 64 a).toNat = a.toNat := by
 unfold U64 at ha
 rw [BitVec.toNat_ofInt]
 omega
theorem wrap_nat {a : Int} (ha : U64 a) : IntKind.u64.wrap ((a.toNat : Nat) : Int) = a := by
 unfold U64 at ha
 rw [IntKind.wrap_u64]
 omega
theorem bits_or0 (ha : U64 a) : bits .or .u64 a 0 = a := by
 unfold bits
 dsimp only
 show IntKind.u64.wrap (((BitVec.ofInt 64 a ||| 0#64).toNat : Nat) : Int) = a
 rw [BitVec.or_zero, bv_nat ha, wrap_nat ha]
theorem bits_xor0 (ha : U64 a) : bits .xor .u64 a 0 = a := by
 unfold bits
 dsimp only
 show IntKind.u64.wrap (((BitVec.ofInt 64 a ^^^ 0#64).toNat : Nat) : Int) = a
 rw [BitVec.xor_zero, bv_nat ha, wrap_nat ha]
theorem bits_and0 : bits .and .u64 a 0 = 0 := by
 unfold bits
 dsimp only
 show IntKind.u64.wrap (((BitVec.ofInt 64 a &&& 0#64).toNat : Nat) : Int) = 0
 rw [BitVec.and_zero]
 rfl
theorem bits_xorS : bits .xor .u64 a a = 0 := by
 unfold bits
 dsimp only
 rw [BitVec.xor_self]
 rfl
theorem bits_andS (ha : U64 a) : bits .and .u64 a a = a := by
 unfold bits
 dsimp only
 rw [BitVec.and_self]
 show IntKind.u64.wrap (((BitVec.ofInt 64 a).toNat : Nat) : Int) = a
 rw [bv_nat ha, wrap_nat ha]
theorem bits_orS (ha : U64 a) : bits .or .u64 a a = a := by
 unfold bits
 dsimp only
 rw [BitVec.or_self]
 show IntKind.u64.wrap (((BitVec.ofInt 64 a).toNat : Nat) : Int) = a
 rw [bv_nat ha, wrap_nat ha]
theorem wraps_u64' (n : Int) (h0 : 0 ≤ n) (h1 : n < 2 ^ 64) : IntKind.u64.wrap n = n := by rw [IntKind.wrap_u64]; omega
theorem law_nil (hx : x = 32 ∨ x = 64) {op : Int} (h : nilB op d = true) : doU op x a d = 0 := by
 unfold nilB at h
 simp at h
 obtain ⟨rfl, h⟩ := h
 have h0 : cutV x 0 = 0 := by rcases hx with rfl | rfl <;> simp [cut32, cut64]
 unfold doU
 rw [h0]
 unfold doV
 rcases h with rfl | rfl | rfl
 ·simp [IntKind.wrap_u64, h0]
 ·simp [bits_and0, h0]
 ·simp [h0]
theorem law_self (hx : x = 32 ∨ x = 64) {op : Int} (h : op = 1 ∨ op = 10) : doU op x a a = 0 := by
 have h0 : cutV x 0 = 0 := by rcases hx with rfl | rfl <;> simp [cut32, cut64]
 unfold doU doV
 rcases h with rfl | rfl
 ·simp [IntKind.wrap_u64, h0]
 ·simp [bits_xorS, h0]
theorem law_and (hx : x = 32 ∨ x = 64) (ha : U64 a) {op : Int} (h : op = 5 ∨ op = 4) : doU op x a a = cutV x a := by
 have hw : Wd4 x := by unfold Wd4; omega
 have hc := cutV_u64 (x := x) ha
 unfold doU doV
 rcases h with rfl | rfl
 ·simp [bits_andS hc]
  rw [cut_cut hw hw ha, Int.min_self]
 ·simp [bits_orS hc]
  rw [cut_cut hw hw ha, Int.min_self]
theorem law_same (hx : x = 32 ∨ x = 64) (ha : U64 a) (hd : U64 d) {op : Int} (h : sameB op x d = true) : doU op x a d = cutV x a := by
 have hw : Wd4 x := by unfold Wd4; omega
 have hc := cutV_u64 (x := x) ha
 have hcc : cutV x (cutV x a) = cutV x a := by rw [cut_cut hw hw ha, Int.min_self]
 have h0 : cutV x 0 = 0 := by rcases hx with rfl | rfl <;> simp [cut32, cut64]
 have hcu := hc
 unfold U64 at hcu
 have hwr : IntKind.u64.wrap (cutV x a) = cutV x a := by rw [IntKind.wrap_u64]; omega
 unfold sameB at h
 simp only [Bool.or_eq_true, Bool.and_eq_true] at h
 rcases h with ⟨hd0, h⟩ | ⟨hs, hm⟩ | h
 ·have hd0 : d = 0 := by simpa using hd0
  subst hd0
  unfold doU
  rw [h0]
  unfold doV
  simp at h
  rcases h with rfl | rfl | rfl | rfl
  ·simp [hwr, hcc]
  ·simp [bits_or0 hc, hcc]
  ·simp [bits_xor0 hc, hcc]
  ·simp [hcc]
 ·have hby : byV x d = 0 := by
   rw [byV_eq hx hd]
   have hm : bits .and .u64 d (x - 1) = 0 := by simpa using hm
   unfold U64 at hd
   rcases hx with rfl | rfl
   ·have := bits_mask .u64 64 (by decide) wraps_u64' 5 (by decide) d hd.1 (by omega)
    rw [show (2 : Int) ^ 5 - 1 = 32 - 1 by decide, hm] at this
    rw [cut32]
    omega
   ·have := bits_mask .u64 64 (by decide) wraps_u64' 6 (by decide) d hd.1 (by omega)
    rw [show (2 : Int) ^ 6 - 1 = 64 - 1 by decide, hm] at this
    rw [cut64]
    omega
  unfold doU
  rw [hby]
  unfold doV
  unfold shiftsB at hs
  simp at hs
  rcases hs with rfl | rfl | rfl
  ·simp [hwr, hcc]
  ·simp [hcc]
  ·simp
   unfold signU wrap64
   rcases hx with rfl | rfl
   ·rw [cut32] at hcu
    simp [IntKind.wrap_u64, IntKind.wrap_i32, cut32, wrap32] <;> omega
   ·rw [cut64] at hcu
    simp [IntKind.wrap_u64, cut64] <;> omega
 ·simp at h
  rcases h with ⟨rfl, rfl⟩ | ⟨rfl, rfl⟩
  ·unfold doU doV
   rcases hx with rfl | rfl
   ·unfold U64 at ha
    simp [cut32, IntKind.wrap_u64] <;> omega
   ·unfold U64 at ha
    simp [cut64, IntKind.wrap_u64] <;> omega
  ·unfold doU doV
   simp
   unfold U64 at ha
   rcases hx with rfl | rfl
   ·have := bits_mask .u64 64 (by decide) wraps_u64' 32 (by decide) (cutV 32 a) hcu.1 (by omega)
    rw [show cutV 32 (cutV 32 18446744073709551615) = 2 ^ 32 - 1 by decide, this, cut32, cut32]
    omega
   ·have := bits_mask .u64 64 (by decide) wraps_u64' 64 (by decide) (cutV 64 a) hcu.1 (by omega)
    rw [show cutV 64 (cutV 64 18446744073709551615) = 2 ^ 64 - 1 by decide, this, cut64, cut64]
    omega
end
end
section
open Go.RowKit
theorem ev_ext {p q : PS} (hw : WfP p) (hq : WfP q) (he : Ext p q) (vs : List Int) : ∀ (N : Nat) (n : Int), n.toNat < N → hasB p.T n = true → evP q.T vs n = evP p.T vs n := by
 intro N
 induction N with
 | zero => intro n h; omega
 | succ N ih =>
  intro n h hn
  rw [evP_eq hw hn, evP_eq hq (he.has hn), he.at_ hn]
  refine evT_congr vs _ fun k hk => ?_
  have hl := part_less hw hn hk
  exact ih k (by omega) (has_prt hw hn hk)
def AV (vs : List Int) (p : PS) : Prop := ∀ n, hasB p.T n = true → ∃ v, evP p.T vs n = some v
section
variable {vs : List Int} (hU : ∀ v ∈ vs, U64 v)
structure Snd (vs : List Int) (p : PS) (r : RS) (v : Int) : Prop where
 good : Good p r
 av : AV vs r.1
 val : r.2.2 = 0 → evP r.1.T vs r.2.1 = some v
theorem ev_up {p q : PS} (hw : WfP p) (hq : WfP q) (he : Ext p q) {n v : Int} (h : evP p.T vs n = some v) : evP q.T vs n = some v := by
 cases hb : hasB p.T n
 ·rw [evP_no hb] at h; cases h
 ·rw [ev_ext hw hq he vs _ n (Nat.lt_succ_self _) hb]; exact h
theorem Snd.up {p q : PS} {r : RS} {v : Int} (he : Ext p q) (h : Snd vs q r v) : Snd vs p r v := ⟨h.good.up he, h.av, h.val⟩
theorem Snd.same {p : PS} (hw : WfP p) (hr : ∀ t ∈ p.T, t.wf) (ha : AV vs p) {n v : Int} (hn : hasB p.T n = true) (h : evP p.T vs n = some v) : Snd vs p (p, n, 0) v := ⟨Good.same hw hr hn, ha, fun _ => h⟩
theorem Snd.err {p : PS} (hw : WfP p) (hr : ∀ t ∈ p.T, t.wf) (ha : AV vs p) (n v : Int) {e : Int} (he : e ≠ 0) : Snd vs p (p, n, e) v := ⟨Good.err hw hr n he, ha, fun h => absurd h he⟩
theorem Snd.cast {p : PS} {r : RS} {v u : Int} (h : Snd vs p r v) (e : v = u) : Snd vs p r u := e ▸ h
theorem Snd.put {p : PS} (hw : WfP p) (hr : ∀ t ∈ p.T, t.wf) (ha : AV vs p) {t : TD} (ht : t.wf) {v : Int} (hv : evT vs t (evP p.T vs) = some v) : Snd vs p (putR p t) v := by
 have hg := Good.put hw hr ht
 have hq := (put_facts hw hr ht).1
 have he := Ext.put p t
 have hval : (putN p t).2 = 0 → evP (putP p t).T vs (putN p t).1 = some v := by
  intro h0
  have hp := put_at h0
  rw [evP_eq hq hp.1, hp.2]
  rw [← hv]
  refine evT_congr vs t fun k hk => ?_
  have hk2 := (okP_parts (putN_okP h0)).2.1 k hk
  have hkb : hasB p.T k = true := by unfold hasB; simp; exact hk2
  exact ev_ext hw hq he vs _ k (Nat.lt_succ_self _) hkb
 refine ⟨hg, fun n hn => ?_, hval⟩
 cases hb : hasB p.T n
 ·have hn' : hasB (putP p t).T n = true := hn
  rcases putP_cases p t with ⟨e, _⟩ | ⟨_, _, _, _, e, e2⟩
  ·rw [e] at hn'; rw [hb] at hn'; cases hn'
  ·have hnn : n = (putN p t).1 := by
    rw [e] at hn'
    rw [e2]
    unfold hasB at hn' hb
    simp at hn' hb
    show n = (p.T.length : Int)
    omega
   exact ⟨v, by rw [hnn]; exact hval (by rw [e2])⟩
 ·obtain ⟨u, hu⟩ := ha n hb
  exact ⟨u, ev_up hw hq he hu⟩
theorem Snd.bind {p : PS} {r s : RS} {v u : Int} {k : PS → Int → Option RS} (h : Snd vs p r v) (hk : r.2.2 = 0 → ∀ s, k r.1 r.2.1 = some s → Snd vs r.1 s u) (hs : bindR r k = some s) : Snd vs p s u := by
 unfold bindR at hs
 split at hs
 ·rename_i h0; exact (hk h0 s hs).up h.good.ext
 ·rename_i h0
  injection hs with hs
  subst hs
  exact ⟨⟨h.good.ext, h.good.wf, h.good.rng, fun e => absurd e h0⟩, h.av, fun e => absurd e h0⟩
theorem ev_const {p : PS} (hw : WfP p) {n : Int} (hn : hasB p.T n = true) (hk : (atP p.T n).kind = 0) : evP p.T vs n = some (atP p.T n).n := by
 rw [evP_eq hw hn]
 unfold evT
 rw [if_neg (by omega), if_neg (by omega), if_neg (by omega), if_neg (by omega), if_neg (by omega)]
theorem evT_const (n : Int) (rec : Int → Option Int) : evT vs (constT n) rec = some n := rfl
include hU
omit hU in
theorem wd_at {p : PS} (hw : WfP p) {n : Int} (hn : hasB p.T n = true) (hk : (atP p.T n).kind = 3 ∨ (atP p.T n).kind = 1) : Wd4 (atP p.T n).w := by
 obtain ⟨i, _, hi⟩ := has_ix hn
 have := hw.ok i _ hi
 unfold okF askT at this
 simp only [Bool.and_eq_true] at this
 have h1 := this.1
 rcases hk with hk | hk
 ·rw [if_neg (by omega), if_neg (by omega), if_neg (by omega), if_neg (by omega), if_pos hk] at h1
  simp at h1
  exact wd_of h1.2
 ·rw [if_neg (by omega), if_pos hk] at h1
  exact wd_of h1
theorem narrow_snd {p : PS} (hw : WfP p) (hr : ∀ t ∈ p.T, t.wf) {a x v : Int} (hx : Wd4 x) (ha : hasB p.T a = true) (hn : narrowP p.T a x = true) (hv : evP p.T vs a = some v) : cutV x v = v := by
 rw [evP_eq hw ha] at hv
 have hu : ∀ k u, evP p.T vs k = some u → U64 u := fun k u h => evP_u64 hr hU h
 unfold narrowP at hn
 dsimp only at hn
 by_cases h64 : x = 64
 ·rw [h64, cut64]
 by_cases h4 : (atP p.T a).kind = 4
 ·unfold evT at hv
  rw [if_neg (by omega), if_neg (by omega), if_neg (by omega), if_pos h4] at hv
  rw [Option.bind_eq_some_iff] at hv
  obtain ⟨s, _, hv⟩ := hv
  rw [Option.map_eq_some_iff] at hv
  obtain ⟨t, _, rfl⟩ := hv
  generalize holdsU _ _ _ _ = bb
  cases bb <;> rcases hx with rfl | rfl | rfl | rfl <;> simp [flagV, cutV]
 rw [if_neg (by omega)] at hn
 by_cases h0 : (atP p.T a).kind = 0
 ·rw [if_pos h0] at hn
  unfold evT at hv
  rw [if_neg (by omega), if_neg (by omega), if_neg (by omega), if_neg (by omega), if_neg (by omega)] at hv
  injection hv with hv
  simp at hn
  rw [← hv]
  exact hn.symm
 rw [if_neg h0] at hn
 by_cases h31 : (atP p.T a).kind = 3 ∨ (atP p.T a).kind = 1
 ·rw [if_pos h31] at hn
  have hwd := wd_at hw ha h31
  simp at hn
  unfold evT at hv
  rcases h31 with h3 | h1
  ·rw [if_neg (by omega), if_pos h3, Option.map_eq_some_iff] at hv
   obtain ⟨s, hs, rfl⟩ := hv
   rw [cut_cut hwd hx (hu _ _ hs), Int.min_eq_left hn]
  ·rw [if_pos h1, Option.map_eq_some_iff] at hv
   obtain ⟨s, hs, rfl⟩ := hv
   rw [cut_cut hwd hx (hU s (List.mem_of_getElem? hs)), Int.min_eq_left hn]
 ·rw [if_neg h31] at hn
  simp at hn
  unfold evT at hv
  rw [if_neg (by omega), if_neg (by omega), if_pos hn.1, Option.bind_eq_some_iff] at hv
  obtain ⟨s, hs, hv⟩ := hv
  rw [Option.map_eq_some_iff] at hv
  obtain ⟨t, ht, rfl⟩ := hv
  rw [hn.2.1, hn.2.2]
  have h32 : Wd4 32 := by unfold Wd4; omega
  unfold doU
  rw [cut_cut h32 h32 (doV_u64 (cutV_u64 (hu _ _ hs)) (cutV_u64 (hu _ _ ht))), Int.min_self]
theorem zext_snd : ∀ (f : Nat) {p : PS} (hw : WfP p) (hr : ∀ t ∈ p.T, t.wf) (hav : AV vs p) {x a v : Int} {r : RS} (hx : Wd4 x) (ha : hasB p.T a = true) (hv : evP p.T vs a = some v), zextF f p x a = some r → Snd vs p r (cutV x v)
 | 0, _, _, _, _, _, _, _, _, _, _, _, h => by cases h
 | f + 1, p, hw, hr, hav, x, a, v, r, hx, ha, hv, h => by
  have hI8 : I8 x := by unfold I8; rcases hx with rfl | rfl | rfl | rfl <;> omega
  have hu := evP_u64 hr hU hv
  rw [zextF_succ] at h
  split at h
  ·rename_i h1; injection h with h; subst h; exact Snd.same hw hr hav ha (by rw [h1, cut64]; exact hv)
  rename_i h64
  split at h
  ·rename_i h2
   injection h with h; subst h
   have hc := ev_const (vs := vs) hw ha h2
   rw [hv] at hc
   injection hc with hc
   exact Snd.put hw hr hav (constT_wf (cutV_u64 (atP_wf hr a).2.2.2.1)) (by rw [evT_const, ← hc])
  rename_i k0
  split at h
  ·rename_i h3; injection h with h; subst h; exact Snd.same hw hr hav ha (by rw [narrow_snd hU hw hr hx ha h3 hv]; exact hv)
  rename_i hnn
  split at h
  ·rename_i h4
   have hp := has_part hw ha h4
   have hwd := wd_at hw ha (.inl h4)
   have hv' := hv
   rw [evP_eq hw ha] at hv'
   unfold evT at hv'
   rw [if_neg (by omega), if_pos h4, Option.map_eq_some_iff] at hv'
   obtain ⟨s, hs, rfl⟩ := hv'
   refine (zext_snd f hw hr hav hx hp.2.2 hs h).cast ?_
   rw [cut_cut hwd hx (evP_u64 hr hU hs)]
   have : ¬ (atP p.T a).w ≤ x := by
    intro hle
    apply hnn
    unfold narrowP
    dsimp only
    rw [if_neg (by omega), if_neg k0, if_pos (.inl h4)]
    simpa using hle
   rw [Int.min_eq_right (by omega)]
  ·rename_i k3
   injection h with h; subst h
   refine Snd.put hw hr hav (zextT_wf (has_i64 hw ha) hI8) ?_
   show evT vs (zextT x a) (evP p.T vs) = _
   unfold evT
   rw [if_neg (by show ¬ (3 : Int) = 1; decide), if_pos (show (zextT x a).kind = 3 from rfl)]
   show (evP p.T vs a).map (cutV x) = _
   rw [hv]
   rfl
theorem operand_snd {p : PS} (hw : WfP p) (hr : ∀ t ∈ p.T, t.wf) (hav : AV vs p) {x a v : Int} (hx : x = 32 ∨ x = 64) (ha : hasB p.T a = true) (hv : evP p.T vs a = some v) : ∃ u, Snd vs p (operandP p x a) u ∧ cutV x u = cutV x v ∧ U64 u := by
 have hwx : Wd4 x := by unfold Wd4; omega
 have hu := evP_u64 hr hU hv
 unfold operandP
 dsimp only
 by_cases k0 : (atP p.T a).kind = 0
 ·rw [if_pos k0]
  have hc := ev_const (vs := vs) hw ha k0
  rw [hv] at hc
  injection hc with hc
  refine ⟨cutV x v, Snd.put hw hr hav (constT_wf (cutV_u64 (atP_wf hr a).2.2.2.1)) (by rw [evT_const, ← hc]), by rw [cut_cut hwx hwx hu, Int.min_self], cutV_u64 hu⟩
 ·rw [if_neg k0]
  by_cases h3 : x = 32 ∧ (atP p.T a).kind = 3 ∧ (atP p.T a).w = 32
  ·rw [if_pos h3]
   have hp := has_part hw ha h3.2.1
   have hv' := hv
   rw [evP_eq hw ha] at hv'
   unfold evT at hv'
   rw [if_neg (by omega), if_pos h3.2.1, Option.map_eq_some_iff] at hv'
   obtain ⟨s, hs, rfl⟩ := hv'
   refine ⟨s, Snd.same hw hr hav hp.2.2 hs, ?_, evP_u64 hr hU hs⟩
   rw [h3.2.2, h3.1]
   have h32 : Wd4 32 := by unfold Wd4; omega
   rw [cut_cut h32 h32 (evP_u64 hr hU hs), Int.min_self]
  ·rw [if_neg h3]
   exact ⟨v, Snd.same hw hr hav ha hv, rfl, hu⟩
theorem both_snd {p : PS} (hw : WfP p) (hr : ∀ t ∈ p.T, t.wf) (hav : AV vs p) {x a b va vb : Int} (hx : x = 32 ∨ x = 64) (ha : hasB p.T a = true) (hb : hasB p.T b = true) (hva : evP p.T vs a = some va) (hvb : evP p.T vs b = some vb) :
  AV vs (bothP p x a b).1 ∧ ((bothP p x a b).2.2.2 = 0 → ∃ ua ub, evP (bothP p x a b).1.T vs (bothP p x a b).2.1 = some ua ∧ evP (bothP p x a b).1.T vs (bothP p x a b).2.2.1 = some ub ∧ cutV x ua = cutV x va ∧ cutV x ub = cutV x vb ∧ U64 ua ∧ U64 ub) := by
 obtain ⟨ua, hs, hc, hu⟩ := operand_snd hU hw hr hav hx ha hva
 unfold bothP
 dsimp only
 by_cases h0 : (operandP p x a).2.2 = 0
 ·rw [if_pos h0]
  dsimp only
  have e1 := operand_ext p x a
  obtain ⟨ub, hs2, hc2, hu2⟩ := operand_snd hU hs.good.wf hs.good.rng hs.av hx (e1.has hb) (ev_up hw hs.good.wf e1 hvb)
  refine ⟨hs2.av, fun he => ⟨ua, ub, ev_up hs.good.wf hs2.good.wf hs2.good.ext (hs.val h0), hs2.val he, hc, hc2, hu, hu2⟩⟩
 ·rw [if_neg h0]
  exact ⟨hs.av, fun he => absurd he h0⟩
end
end
end Go.Proofs.YtepagfkkjlbipaaGreat
