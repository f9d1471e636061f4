/-
  Parts of the proof of SymbcSound. Conditions: those written in each statement.
-/
import Derived.Test.YtepagfkkjlbipaaGreatKaw
import Derived.Test.YtepagfkkjlbipaaGreatUc
set_option linter.unusedVariables false
set_option linter.unusedSimpArgs false
set_option maxHeartbeats 64000000
set_option maxRecDepth 100000
namespace Go.Proofs.YtepagfkkjlbipaaGreat
open Tryz
section
open Go.RowKit
theorem zext_aa : ∀ (f : Nat) {p : PS} (h : AA p) (hw : WfP p) {x a : Int} {r : RS}, zextF f p x a = some r → AA r.1
 | 0, _, _, _, _, _, _, h => by cases h
 | f + 1, p, ha, hw, x, a, r, h => by
  rw [zextF_succ] at h
  split at h
  ·injection h with h; subst h; exact ha
  split at h
  ·injection h with h; subst h; exact ha.putR hw (.inl (by show (0 : Int) ≠ 2; decide))
  split at h
  ·injection h with h; subst h; exact ha
  split at h
  ·exact zext_aa f ha hw h
  ·injection h with h; subst h; exact ha.putR hw (.inl (by show (3 : Int) ≠ 2; decide))
theorem operand_aa {p : PS} (h : AA p) (hw : WfP p) (x a : Int) : AA (operandP p x a).1 := by
 rcases operand_cases p x a with ⟨_, e⟩ | ⟨_, e⟩ | ⟨_, e⟩ <;> rw [e]
 ·exact h.putR hw (.inl (by show (0 : Int) ≠ 2; decide))
 ·exact h
 ·exact h
theorem both_aa {p : PS} (h : AA p) (hw : WfP p) (hr : ∀ t ∈ p.T, t.wf) {a b : Int} (ha : I64 a) (x : Int) : AA (bothP p x a b).1 := by
 have h1 := operand_aa h hw x a
 have h2 := (operand_i64 hw hr ha x).2.1
 unfold bothP
 dsimp only
 split
 ·exact operand_aa h1 h2 x b
 ·exact h1
theorem AA.bind {r s : RS} {k : PS → Int → Option RS} (h : AA r.1) (hk : r.2.2 = 0 → ∀ s, k r.1 r.2.1 = some s → AA s.1) (hs : bindR r k = some s) : AA s.1 := by
 unfold bindR at hs
 split at hs
 ·rename_i h0; exact hk h0 s hs
 ·injection hs with hs; subst hs; exact h
theorem op_aa : ∀ (f : Nat) {p : PS} (hA : AA p) (hz : NZ p) (hw : WfP p) (hr : ∀ t ∈ p.T, t.wf) {op x a b : Int} {r : RS}, opF f p op x a b = some r → AA r.1
 | 0, _, _, _, _, _, _, _, _, _, _, h => by cases h
 | f + 1, p, hA, hz, hw, hr, op, x, a, b, r, h => by
  rw [opF_succ] at h
  split at h
  ·injection h with h; subst h; exact hA
  rename_i hab
  have hab : hasB p.T a = true ∧ hasB p.T b = true := by simpa using hab
  split at h
  ·injection h with h; subst h; exact hA
  rename_i hd
  have hx := (doOk_yes (op := op) (x := x) (by simpa using hd)).1
  have hw2 := both_wf hw hr (has_i64 hw hab.1) (has_i64 hw hab.2) x
  have hz2 := both_nz (b := b) hz hw hr (has_i64 hw hab.1) x
  have hA2 := both_aa (b := b) hA hw hr (has_i64 hw hab.1) x
  split at h
  ·rename_i h0
   have hf := both_facts hw hr hab.1 hab.2 h0
   have hs := both_set hw hr hz hx hab.1 hab.2 h0
   generalize bothP p x a b = z at h hw2 hf hz2 hA2 hs
   obtain ⟨p1, a1, b1, e1⟩ := z
   dsimp only at h hw2 hf hz2 hA2 hs
   have hc : ∀ {n : Int}, U64 n → Good p1 (putR p1 (constT n)) := fun hn => Good.put hw2.1 hw2.2 (constT_wf hn)
   have hn : ∀ n : Int, NZ (putR p1 (constT n)).1 := fun n => hz2.putR hw2.1 (by show (0 : Int) ≠ 3; decide)
   have hAn : ∀ n : Int, AA (putR p1 (constT n)).1 := fun n => hA2.putR hw2.1 (.inl (by show (0 : Int) ≠ 2; decide))
   unfold opL at h
   dsimp only at h
   split at h
   ·injection h with h; subst h; exact hAn _
   split at h
   ·exact AA.bind (hAn 0) (fun _ s hs => op_aa f (hAn 0) (hn 0) (hc zero_u64).wf (hc zero_u64).rng hs) h
   split at h
   ·exact zext_aa f hA2 hw2.1 h
   split at h
   ·have hu : U64 (cutV x (IntKind.u64.wrap (-(atP p1.T b1).n))) := cutV_u64 (wrap_u64 _)
    exact AA.bind (hAn _) (fun _ s hs => op_aa f (hAn _) (hn _) (hc hu).wf (hc hu).rng hs) h
   split at h
   ·exact op_aa f hA2 hz2 hw2.1 hw2.2 h
   split at h
   ·have hu : U64 (cutV x (IntKind.u64.wrap ((atP p1.T (atP p1.T a1).b).n + (atP p1.T b1).n))) := cutV_u64 (wrap_u64 _)
    exact AA.bind (hAn _) (fun _ s hs => op_aa f (hAn _) (hn _) (hc hu).wf (hc hu).rng hs) h
   rename_i hno
   split at h
   ·exact zext_aa f hA2 hw2.1 h
   split at h
   ·injection h with h; subst h; exact hAn _
   split at h
   ·injection h with h; subst h; exact hAn _
   split at h
   ·exact zext_aa f hA2 hw2.1 h
   ·injection h with h; subst h
    refine hA2.put hw2.1 fun _ _ h0 hbk => ?_
    show addC p1.T x (strP p1.T x a1) = false
    rw [set_str hw2.1 hf.1 hs.1]
    cases hcc : addC p1.T x a1
    ·rfl
    ·exfalso
     apply hno
     have h0 : op = 0 := h0
     have hbk : (atP p1.T b1).kind = 0 := hbk
     unfold addC at hcc
     simp only [Bool.and_eq_true, beq_iff_eq] at hcc
     unfold assocB
     simp only [Bool.and_eq_true, beq_iff_eq]
     exact ⟨h0, hbk, hcc.2.2.2, hcc.1, hcc.2.1, hcc.2.2.1⟩
  ·injection h with h; subst h; exact hA2
theorem cond_aa : ∀ (f : Nat) {p : PS} (hA : AA p) (hw : WfP p) (hr : ∀ t ∈ p.T, t.wf) {cc x a b : Int} {r : RS}, condF f p cc x a b = some r → AA r.1
 | 0, _, _, _, _, _, _, _, _, _, h => by cases h
 | f + 1, p, hA, hw, hr, cc, x, a, b, r, h => by
  rw [condF_succ] at h
  split at h
  ·injection h with h; subst h; exact hA
  rename_i hab
  have hab : hasB p.T a = true ∧ hasB p.T b = true := by simpa using hab
  split at h
  ·injection h with h; subst h; exact hA
  have hw2 := both_wf hw hr (has_i64 hw hab.1) (has_i64 hw hab.2) x
  have hA2 := both_aa (b := b) hA hw hr (has_i64 hw hab.1) x
  split at h
  ·generalize bothP p x a b = z at h hw2 hA2
   obtain ⟨p1, a1, b1, e1⟩ := z
   dsimp only at h hw2 hA2
   have hAn : ∀ n : Int, AA (putR p1 (constT n)).1 := fun n => hA2.putR hw2.1 (.inl (by show (0 : Int) ≠ 2; decide))
   unfold condL at h
   dsimp only at h
   split at h
   ·injection h with h; subst h; exact hAn _
   split at h
   ·injection h with h; subst h; exact hAn _
   split at h
   ·exact cond_aa f hA2 hw2.1 hw2.2 h
   split at h
   ·injection h with h; subst h; exact hA2.putR hw2.1 (.inl (by show (4 : Int) ≠ 2; decide))
   ·injection h with h; subst h; exact hA2.putR hw2.1 (.inl (by show (4 : Int) ≠ 2; decide))
  ·injection h with h; subst h; exact hA2
/-! ### Op within the limits -/
structure Rm (p : PS) (k : Nat) : Prop where
 wf : WfP p
 rng : ∀ t ∈ p.T, t.wf
 nz : NZ p
 aa : AA p
 room : p.T.length + k ≤ 4000
theorem Rm.less {p : PS} {j k : Nat} (h : Rm p k) (hj : j ≤ k) : Rm p j := ⟨h.wf, h.rng, h.nz, h.aa, by have := h.room; omega⟩
theorem Rm.const {p : PS} {k : Nat} (h : Rm p (k + 1)) {n : Int} (hn : U64 n) : Rm (putR p (constT n)).1 k ∧ Fit p (putR p (constT n)) 1 1 ∧ hasB (putR p (constT n)).1.T (putR p (constT n)).2.1 = true ∧ Ext p (putR p (constT n)).1 ∧ (atP (putR p (constT n)).1.T (putR p (constT n)).2.1).kind = 0 := by
 have hf := const_fit h.wf n (by have := h.room; omega)
 have hg := Good.put h.wf h.rng (constT_wf hn)
 have hat := (put_at (p := p) (t := constT n) hf.err).2
 refine ⟨⟨hg.wf, hg.rng, h.nz.putR h.wf (by show (0 : Int) ≠ 3; decide), h.aa.putR h.wf (.inl (by show (0 : Int) ≠ 2; decide)), ?_⟩, hf, hg.has hf.err, hg.ext, ?_⟩
 ·have := hf.few
  have := h.room
  omega
 ·show (atP (putP p (constT n)).T (putN p (constT n)).1).kind = 0
  rw [hat]
  rfl
theorem Rm.both {p : PS} {k : Nat} (h : Rm p (k + 2)) {x a b : Int} (hx : x = 32 ∨ x = 64) (ha : hasB p.T a = true) (hb : hasB p.T b = true) :
  Rm (bothP p x a b).1 k ∧ (bothP p x a b).2.2.2 = 0 ∧ (bothP p x a b).1.T.length ≤ p.T.length + 2 ∧ Ext p (bothP p x a b).1 ∧
  hasB (bothP p x a b).1.T (bothP p x a b).2.1 = true ∧ hasB (bothP p x a b).1.T (bothP p x a b).2.2.1 = true ∧
  dpP (bothP p x a b).1 (bothP p x a b).2.1 ≤ dpP p a ∧ dpP (bothP p x a b).1 (bothP p x a b).2.2.1 ≤ dpP p b := by
 have hf := both_fit h.wf h.rng (x := x) ha hb (by have := h.room; omega)
 have hc := both_facts h.wf h.rng ha hb hf.1
 have hw2 := both_wf h.wf h.rng (has_i64 h.wf ha) (has_i64 h.wf hb) x
 exact ⟨⟨hw2.1, hw2.2, both_nz (b := b) h.nz h.wf h.rng (has_i64 h.wf ha) x, both_aa (b := b) h.aa h.wf h.rng (has_i64 h.wf ha) x, by have := h.room; have := hf.2.1; omega⟩, hf.1, hf.2.1, both_ext _ _ _ _, hc.1, hc.2.1, hf.2.2.1, hf.2.2.2⟩
theorem bind_fit {p : PS} {r s : RS} {k : PS → Int → Option RS} {j m : Nat} {d : Int} (h : Fit p r j 1) (hk : ∀ s, k r.1 r.2.1 = some s → Fit r.1 s m d) (hs : bindR r k = some s) : Fit p s (j + m) d := by
 unfold bindR at hs
 rw [if_pos h.err] at hs
 exact (hk s hs).from h.few
theorem okP_op' {p : PS} {op x a b : Int} (h : doOk op x = true) (ha : hasB p.T a = true) (hb : hasB p.T b = true) : okP p.T ⟨2, op, x, 0, a, b, 0⟩ = true := okP_op h ha hb
theorem opL_fit {rec : PS → Int → Int → Int → Option RS} {f : Nat} {p : PS} {R : Nat} {op x a b d : Int} {r : RS} (h : Rm p (R + 1)) (hd : doOk op x = true) (ha : hasB p.T a = true) (hb : hasB p.T b = true) (hda : dpP p a + 1 ≤ d ∧ dpP p b + 1 ≤ d ∧ d ≤ 256)
  (h8 : op = 8 → ∀ s, rec (putR p (constT 0)).1 1 (putR p (constT 0)).2.1 a = some s → Fit (putR p (constT 0)).1 s R d)
  (h1 : op = 1 → (atP p.T b).kind = 0 → (atP p.T a).kind ≠ 0 → ∀ n, U64 n → ∀ s, rec (putR p (constT n)).1 0 a (putR p (constT n)).2.1 = some s → Fit (putR p (constT n)).1 s R d)
  (h5 : turnsB op = true → ((atP p.T b).kind = 0 → False) → ((atP p.T a).kind = 0 ∨ b < a) → ∀ s, rec p op b a = some s → Fit p s (R + 1) d)
  (h6 : addC p.T x a = true → op = 0 → (atP p.T b).kind = 0 → ∀ n, U64 n → ∀ s, rec (putR p (constT n)).1 0 (atP p.T a).a (putR p (constT n)).2.1 = some s → Fit (putR p (constT n)).1 s R d)
  (hr : opL rec f p op x a b = some r) : Fit p r (R + 1) d := by
 have hx := (doOk_yes hd).1
 have hxw : Wd4 x := by unfold Wd4; omega
 have hda0 := dp_bd h.wf ha
 have hdb0 := dp_bd h.wf hb
 have hroom := h.room
 have hc : ∀ n : Int, Fit p (putR p (constT n)) 1 1 := fun n => const_fit h.wf n (by omega)
 have hcd : ∀ n : Int, Fit p (putR p (constT n)) (R + 1) d := fun n => (hc n).more (by omega) (by omega)
 have hza : ∀ {s : RS}, zextF f p x a = some s → Fit p s (R + 1) d := fun q => (zext_fit f h.wf hxw ha (by omega) (by omega) q).more (by omega) (Int.le_refl _)
 have hzb : ∀ {s : RS}, zextF f p x b = some s → Fit p s (R + 1) d := fun q => (zext_fit f h.wf hxw hb (by omega) (by omega) q).more (by omega) (Int.le_refl _)
 unfold opL at hr
 dsimp only at hr
 split at hr
 ·injection hr with hr; subst hr; exact hcd _
 rename_i c1
 split at hr
 ·rename_i c2
  exact (bind_fit (hc 0) (fun s hs => h8 c2 s hs) hr).more (by omega) (Int.le_refl _)
 split at hr
 ·exact hzb hr
 split at hr
 ·rename_i c4
  have c4 : op = 1 ∧ (atP p.T b).kind = 0 := by simpa using c4
  have hu : U64 (cutV x (IntKind.u64.wrap (-(atP p.T b).n))) := cutV_u64 (wrap_u64 _)
  exact (bind_fit (hc _) (fun s hs => h1 c4.1 c4.2 (fun q => c1 (by simp [q, c4.2])) _ hu s hs) hr).more (by omega) (Int.le_refl _)
 split at hr
 ·rename_i c5
  simp only [Bool.and_eq_true, Bool.or_eq_true, beq_iff_eq, Bool.not_eq_true', decide_eq_true_eq, beq_eq_false_iff_ne] at c5
  exact h5 c5.1 (fun q => c5.2.elim (fun e => c1 (by simp [q, e])) (fun e => e.1 q)) (c5.2.elim .inl (fun e => .inr e.2)) r hr
 split at hr
 ·rename_i c6
  have c6 := assoc_addC rfl c6
  have hu : U64 (cutV x (IntKind.u64.wrap ((atP p.T (atP p.T a).b).n + (atP p.T b).n))) := cutV_u64 (wrap_u64 _)
  exact (bind_fit (hc _) (fun s hs => h6 c6.2.2 c6.1 (by simpa using c6.2.1) _ hu s hs) hr).more (by omega) (Int.le_refl _)
 split at hr
 ·exact hza hr
 split at hr
 ·injection hr with hr; subst hr; exact hcd _
 split at hr
 ·injection hr with hr; subst hr; exact hcd _
 split at hr
 ·exact hza hr
 ·injection hr with hr
  subst hr
  refine (put_fit h.wf (okP_op' hd ha hb) (by omega) (by omega) (fun k hk => ?_)).more (by omega) (Int.le_refl _)
  have : k = a ∨ k = b := by unfold prtL at hk; simpa using hk
  rcases this with rfl | rfl <;> omega
theorem opF_go {p : PS} {k : Nat} {op x a b : Int} {r : RS} {f : Nat} (h : Rm p (k + 2)) (hd : doOk op x = true) (ha : hasB p.T a = true) (hb : hasB p.T b = true) (hr : opF f p op x a b = some r) :
  ∃ g, opL (fun q o u v => opF g q o x u v) g (bothP p x a b).1 op x (bothP p x a b).2.1 (bothP p x a b).2.2.1 = some r := by
 match f, hr with
 | 0, hr => cases hr
 | g + 1, hr =>
  rw [opF_succ, if_neg (by rw [ha, hb]; simp), if_neg (by rw [hd]; simp), if_pos (h.both (doOk_yes hd).1 ha hb).2.1] at hr
  exact ⟨g, hr⟩
theorem both_fst {p : PS} {k : Nat} (h : Rm p (k + 2)) {x a b : Int} (ha : hasB p.T a = true) (hb : hasB p.T b = true) (hk : (atP p.T a).kind ≠ 0) : (bothP p x a b).2.1 = strP p.T x a := by
 have h1 := operand_fit h.wf (x := x) ha (by have := h.room; omega)
 unfold bothP
 dsimp only
 rw [if_pos h1.err]
 show (operandP p x a).2.1 = _
 unfold operandP strP
 dsimp only
 rw [if_neg hk]
 split <;> rfl
theorem both_konst {p : PS} {k : Nat} (h : Rm p (k + 2)) {x a b : Int} (hx : x = 32 ∨ x = 64) (ha : hasB p.T a = true) (hb : hasB p.T b = true) :
  ((atP (bothP p x a b).1.T (bothP p x a b).2.1).kind = 0 ↔ (atP p.T a).kind = 0) ∧ ((atP (bothP p x a b).1.T (bothP p x a b).2.2.1).kind = 0 ↔ (atP p.T b).kind = 0) := by
 have hb2 := h.both hx ha hb
 have hf := both_facts h.wf h.rng ha hb hb2.2.1
 have key : ∀ {q : PS} {c : Int}, Rm q (k + 1) → hasB q.T c = true → (atP (operandP q x c).1.T (operandP q x c).2.1).kind = 0 → (atP q.T c).kind = 0 := by
  intro q c hq hc hk
  rcases operand_cases q x c with ⟨k, e⟩ | ⟨k, e⟩ | ⟨k, e⟩
  ·exact k
  ·rw [e] at hk
   exact absurd hk (hq.nz c hc k).1
  ·rw [e] at hk
   exact hk
 refine ⟨⟨fun q => ?_, hf.2.2.2.2.1⟩, ⟨fun q => ?_, hf.2.2.2.2.2⟩⟩
 all_goals
  have h1 := operand_fit h.wf (x := x) ha (by have := h.room; omega)
  have w1 := operand_i64 h.wf h.rng (has_i64 h.wf ha) x
  have e1 := operand_ext p x a
  have q1 : Rm (operandP p x a).1 (k + 1) := ⟨w1.2.1, w1.2.2, operand_nz h.nz h.wf x a, operand_aa h.aa h.wf x a, by have := h1.few; have := h.room; omega⟩
  have f1 := operand_facts h.wf ha h1.err
  unfold bothP at q
  dsimp only at q
  rw [if_pos h1.err] at q
  dsimp only at q
 ·rw [(operand_ext (operandP p x a).1 x b).at_ f1.1] at q
  exact key (h.less (by omega)) ha q
 ·rw [← e1.at_ hb]
  exact key q1 (e1.has hb) q
theorem op_fitA {p : PS} {x a b d : Int} {r : RS} {f : Nat} (h : Rm p 3) (hx : x = 32 ∨ x = 64) (ha : hasB p.T a = true) (hb : hasB p.T b = true) (hd : dpP p a + 1 ≤ d ∧ dpP p b + 1 ≤ d ∧ d ≤ 256) (hbk : (atP p.T b).kind = 0) (hno : addC p.T x (strP p.T x a) = false) (hr : opF f p 0 x a b = some r) : Fit p r 3 d := by
 have hdo : doOk 0 x = true := by unfold doOk longB; rcases hx with rfl | rfl <;> rfl
 obtain ⟨g, hr⟩ := opF_go (k := 1) h hdo ha hb hr
 obtain ⟨q1, q2, q3, q4, q5, q6, q7, q8⟩ := h.both (k := 1) hx ha hb
 have hk := both_konst (k := 1) h hx ha hb
 have hs : (atP p.T a).kind ≠ 0 → addC (bothP p x a b).1.T x (bothP p x a b).2.1 = false := fun hk0 => by
  rw [both_fst (k := 1) h ha hb hk0, addC_ext h.wf q4 x (str_has h.wf x ha)]
  exact hno
 generalize bothP p x a b = z at *
 obtain ⟨p1, a1, b1, e1⟩ := z
 dsimp only at *
 refine (opL_fit (R := 0) q1 hdo q5 q6 (by omega) (fun e => by omega) (fun e => by omega) (fun _ e _ => (e (hk.2.2 hbk)).elim) (fun e _ _ => ?_) hr).from q3
 exfalso
 by_cases hk0 : (atP p.T a).kind = 0
 ·have := hk.1.2 hk0
  unfold addC at e
  simp only [Bool.and_eq_true, beq_iff_eq] at e
  omega
 ·rw [hs hk0] at e
  cases e
theorem op_fitB {p : PS} {x a b d : Int} {r : RS} {f : Nat} (h : Rm p 6) (hx : x = 32 ∨ x = 64) (ha : hasB p.T a = true) (hb : hasB p.T b = true) (hd : dpP p a + 1 ≤ d ∧ dpP p b + 1 ≤ d ∧ d ≤ 256) (hbk : (atP p.T b).kind = 0) (hr : opF f p 0 x a b = some r) : Fit p r 6 d := by
 have hdo : doOk 0 x = true := by unfold doOk longB; rcases hx with rfl | rfl <;> rfl
 obtain ⟨g, hr⟩ := opF_go (k := 4) h hdo ha hb hr
 obtain ⟨q1, q2, q3, q4, q5, q6, q7, q8⟩ := h.both (k := 4) hx ha hb
 have hk := both_konst (k := 4) h hx ha hb
 generalize bothP p x a b = z at *
 obtain ⟨p1, a1, b1, e1⟩ := z
 dsimp only at *
 refine (opL_fit (R := 3) q1 hdo q5 q6 (by omega) (fun e => by omega) (fun e => by omega) (fun _ e _ => (e (hk.2.2 hbk)).elim) (fun e _ _ n hn s hs => ?_) hr).from q3
 have hk2 : (atP p1.T a1).kind = 2 := by unfold addC at e; simp at e; exact e.1
 have hm : (atP p1.T a1).a ∈ prtL (atP p1.T a1) := by unfold prtL; rw [if_pos (.inl hk2)]; simp
 have hpa := has_prt q1.wf q5 hm
 have hpd := dp_part q1.wf q5 hm
 obtain ⟨c1, c2, c3, c4, c5⟩ := q1.const (k := 3) hn
 have hdc := c4.dp q1.wf c1.wf hpa
 refine op_fitA c1 hx (c4.has hpa) c3 (by have := c2.low; have := (dp_bd q1.wf hpa).1; omega) c5 ?_ hs
 rw [str_ext c4 x hpa, addC_ext q1.wf c4 x (str_has q1.wf x hpa)]
 exact q1.aa a1 x q5 e
theorem op_fitC {p : PS} {x a b d : Int} {r : RS} {f : Nat} (h : Rm p 3) (hx : x = 32 ∨ x = 64) (ha : hasB p.T a = true) (hb : hasB p.T b = true) (hd : dpP p a + 1 ≤ d ∧ dpP p b + 1 ≤ d ∧ d ≤ 256) (hak : (atP p.T a).kind = 0) (hr : opF f p 1 x a b = some r) : Fit p r 3 d := by
 have hdo : doOk 1 x = true := by unfold doOk longB; rcases hx with rfl | rfl <;> rfl
 obtain ⟨g, hr⟩ := opF_go (k := 1) h hdo ha hb hr
 obtain ⟨q1, q2, q3, q4, q5, q6, q7, q8⟩ := h.both (k := 1) hx ha hb
 have hk := both_konst (k := 1) h hx ha hb
 generalize bothP p x a b = z at *
 obtain ⟨p1, a1, b1, e1⟩ := z
 dsimp only at *
 exact (opL_fit (R := 0) q1 hdo q5 q6 (by omega) (fun e => by omega) (fun _ _ e => (e (hk.1.2 hak)).elim) (fun e => by cases e) (fun _ e => by omega) hr).from q3
theorem op_fitD {p : PS} {op x a b d : Int} {r : RS} {f : Nat} (h : Rm p 6) (hdo : doOk op x = true) (ht : turnsB op = true) (ha : hasB p.T a = true) (hb : hasB p.T b = true) (hsa : operandP p x a = (p, a, 0)) (hsb : operandP p x b = (p, b, 0)) (hd : dpP p a + 1 ≤ d ∧ dpP p b + 1 ≤ d ∧ d ≤ 256)
  (hno : (atP p.T b).kind ≠ 0 → (atP p.T a).kind ≠ 0 ∧ ¬ b < a) (hr : opF f p op x a b = some r) : Fit p r 6 d := by
 have hx := (doOk_yes hdo).1
 match f, hr with
 | 0, hr => cases hr
 | g + 1, hr =>
  rw [opF_of ha hb hdo hsa hsb] at hr
  have htc := turns_cases ht
  refine opL_fit (R := 5) h hdo ha hb hd (fun e => by omega) (fun e => by omega) (fun _ e1 e2 s _ => ?_) (fun e _ hbk n hn s hs => ?_) hr
  ·have := hno e1
   rcases e2 with e2 | e2
   ·exact absurd e2 this.1
   ·exact absurd e2 this.2
  have hk2 : (atP p.T a).kind = 2 := by unfold addC at e; simp at e; exact e.1
  have hm : (atP p.T a).a ∈ prtL (atP p.T a) := by unfold prtL; rw [if_pos (.inl hk2)]; simp
  have hpa := has_prt h.wf ha hm
  have hpd := dp_part h.wf ha hm
  obtain ⟨c1, c2, c3, c4, c5⟩ := h.const (k := 5) hn
  have hdc := c4.dp h.wf c1.wf hpa
  refine (op_fitA (c1.less (by omega)) hx (c4.has hpa) c3 (by have := c2.low; have := (dp_bd h.wf hpa).1; omega) c5 ?_ hs).more (by omega) (Int.le_refl _)
  rw [str_ext c4 x hpa, addC_ext h.wf c4 x (str_has h.wf x hpa)]
  exact h.aa a x ha e
theorem op_fit {p : PS} {op x a b d : Int} {r : RS} {f : Nat} (h : Rm p 12) (hdo : doOk op x = true) (ha : hasB p.T a = true) (hb : hasB p.T b = true) (hd : dpP p a + 1 ≤ d ∧ dpP p b + 1 ≤ d ∧ d ≤ 256) (hr : opF f p op x a b = some r) : Fit p r 12 d := by
 have hx := (doOk_yes hdo).1
 obtain ⟨g, hr⟩ := opF_go (k := 10) h hdo ha hb hr
 obtain ⟨q1, q2, q3, q4, q5, q6, q7, q8⟩ := h.both (k := 10) hx ha hb
 have hs := both_set h.wf h.rng h.nz hx ha hb q2
 generalize bothP p x a b = z at *
 obtain ⟨p1, a1, b1, e1⟩ := z
 dsimp only at *
 have hd1 := dp_bd q1.wf q5
 have hd2 := dp_bd q1.wf q6
 refine (opL_fit (R := 9) q1 hdo q5 q6 (d := d) (by omega) (fun e s hs => ?_) (fun e hbk hak n hn s hs => ?_) (fun ht e1 e2 s hs' => ?_) (fun e _ hbk n hn s hs => ?_) hr).from q3
 ·obtain ⟨c1, c2, c3, c4, c5⟩ := q1.const (k := 9) zero_u64
  have hdc := c4.dp q1.wf c1.wf q5
  exact (op_fitC (c1.less (by omega)) hx c3 (c4.has q5) (by have := c2.low; omega) c5 hs).more (by omega) (Int.le_refl _)
 ·obtain ⟨c1, c2, c3, c4, c5⟩ := q1.const (k := 9) hn
  have hdc := c4.dp q1.wf c1.wf q5
  exact (op_fitB (c1.less (by omega)) hx (c4.has q5) c3 (by have := c2.low; omega) c5 hs).more (by omega) (Int.le_refl _)
 ·refine (op_fitD (q1.less (by omega)) hdo ht q6 q5 hs.2 hs.1 (by omega) (fun hk => ⟨e1, fun hlt => ?_⟩) hs').more (by omega) (Int.le_refl _)
  rcases e2 with e2 | e2
  ·exact hk e2
  ·omega
 ·have hk2 : (atP p1.T a1).kind = 2 := by unfold addC at e; simp at e; exact e.1
  have hm : (atP p1.T a1).a ∈ prtL (atP p1.T a1) := by unfold prtL; rw [if_pos (.inl hk2)]; simp
  have hpa := has_prt q1.wf q5 hm
  have hpd := dp_part q1.wf q5 hm
  obtain ⟨c1, c2, c3, c4, c5⟩ := q1.const (k := 9) hn
  have hdc := c4.dp q1.wf c1.wf hpa
  exact (op_fitB (c1.less (by omega)) hx (c4.has hpa) c3 (by have := c2.low; have := (dp_bd q1.wf hpa).1; omega) c5 hs).more (by omega) (Int.le_refl _)
/-! ### Cond within the limits -/
theorem condF_go {p : PS} {k : Nat} {cc x a b : Int} {r : RS} {f : Nat} (h : Rm p (k + 2)) (hd : holdsOk cc x = true) (ha : hasB p.T a = true) (hb : hasB p.T b = true) (hr : condF f p cc x a b = some r) :
  ∃ g, condL (fun q o u v => condF g q o x u v) (bothP p x a b).1 cc x (bothP p x a b).2.1 (bothP p x a b).2.2.1 = some r := by
 match f, hr with
 | 0, hr => cases hr
 | g + 1, hr =>
  rw [condF_succ, if_neg (by rw [ha, hb]; simp), if_neg (by rw [hd]; simp), if_pos (h.both (holdsOk_yes hd).1 ha hb).2.1] at hr
  exact ⟨g, hr⟩
theorem condL_fit {rec : PS → Int → Int → Int → Option RS} {p : PS} {R : Nat} {cc x a b d : Int} {r : RS} (h : Rm p (R + 1)) (hd : holdsOk cc x = true) (ha : hasB p.T a = true) (hb : hasB p.T b = true) (hda : dpP p a + 1 ≤ d ∧ dpP p b + 1 ≤ d ∧ d ≤ 256)
  (h5 : turnedB cc = true → ∀ s, rec p (turnedV cc) b a = some s → Fit p s (R + 1) d) (hr : condL rec p cc x a b = some r) : Fit p r (R + 1) d := by
 have hda0 := dp_bd h.wf ha
 have hroom := h.room
 have hcd : ∀ n : Int, Fit p (putR p (constT n)) (R + 1) d := fun n => (const_fit h.wf n (by omega)).more (by omega) (by omega)
 have hpu : ∀ {u v : Int}, hasB p.T u = true → hasB p.T v = true → dpP p u + 1 ≤ d → dpP p v + 1 ≤ d → Fit p (putR p ⟨4, cc, x, 0, u, v, 0⟩) (R + 1) d := fun {u v} hu hv d1 d2 =>
  (put_fit h.wf (okP_cond hd hu hv) (by omega) (by omega) (fun k hk => by
   have : k = u ∨ k = v := by
    have e : prtL (condT cc x u v) = [u, v] := rfl
    rw [e] at hk
    simpa using hk
   rcases this with rfl | rfl <;> omega)).more (by omega) (Int.le_refl _)
 unfold condL at hr
 dsimp only at hr
 split at hr
 ·injection hr with hr; subst hr; exact hcd _
 split at hr
 ·injection hr with hr; subst hr; exact hcd _
 split at hr
 ·rename_i c; exact h5 c r hr
 split at hr
 ·injection hr with hr; subst hr; exact hpu hb ha (by omega) (by omega)
 ·injection hr with hr; subst hr; exact hpu ha hb (by omega) (by omega)
theorem turned_ok {cc x : Int} (h : turnedB cc = true) (hd : holdsOk cc x = true) : turnedB (turnedV cc) = false ∧ holdsOk (turnedV cc) x = true := by
 have hy := holdsOk_yes hd
 unfold turnedB at h
 simp only [Bool.or_eq_true, beq_iff_eq] at h
 unfold holdsOk at hd ⊢
 rcases h with rfl | rfl | rfl | rfl
 all_goals
  refine ⟨rfl, ?_⟩
  simp only [Bool.and_eq_true] at hd ⊢
  exact ⟨rfl, rfl, hd.2.2⟩
theorem cond_fit {p : PS} {cc x a b d : Int} {r : RS} {f : Nat} (h : Rm p 6) (hdo : holdsOk cc x = true) (ha : hasB p.T a = true) (hb : hasB p.T b = true) (hd : dpP p a + 1 ≤ d ∧ dpP p b + 1 ≤ d ∧ d ≤ 256) (hr : condF f p cc x a b = some r) : Fit p r 6 d := by
 have hx := (holdsOk_yes hdo).1
 obtain ⟨g, hr⟩ := condF_go (k := 4) h hdo ha hb hr
 obtain ⟨q1, q2, q3, q4, q5, q6, q7, q8⟩ := h.both (k := 4) hx ha hb
 generalize bothP p x a b = z at *
 obtain ⟨p1, a1, b1, e1⟩ := z
 dsimp only at *
 refine (condL_fit (R := 3) q1 hdo q5 q6 (d := d) (by omega) (fun ht s hs => ?_) hr).from q3
 have ht2 := turned_ok ht hdo
 obtain ⟨g2, hs⟩ := condF_go (k := 2) q1 ht2.2 q6 q5 hs
 obtain ⟨u1, u2, u3, u4, u5, u6, u7, u8⟩ := q1.both (k := 2) hx q6 q5
 generalize bothP p1 x b1 a1 = z at *
 obtain ⟨p2, a2, b2, e2⟩ := z
 dsimp only at *
 exact ((condL_fit (R := 0) (u1.less (by omega)) ht2.2 u5 u6 (d := d) (by omega) (fun ht s _ => by rw [ht2.1] at ht; cases ht) hs).from u3).more (by omega) (Int.le_refl _)
end
section
open Go.RowKit
section
variable {base g b : Nat} {F G F1 G1 : Nat → Prop} {m : SM} {ex : ExD} {w : World}
theorem second_regs (m : SM) (x : ID) : (m.second x).1.regs = m.regs := by
 unfold SM.second
 split
 ·rfl
 ·split <;> rfl
theorem sizIn : (prog.info? 47).map (·.size) = some 9 := by kernel_rfl
theorem second_i64 (h : MA base g b F G m ex w) {x : ID} (hs : x.byReg = true → 0 ≤ x.src ∧ x.src ≤ 10) : I64 (m.second x).2 := by
 unfold SM.second
 split
 ·rename_i hb
  have := hs hb
  exact h.reg_i64 (d := x.src.toNat) (by omega)
 ·split <;> exact num_i64 h _
theorem second_wf (h : MA base g b F G m ex w) (x : ID) : WfP (m.second x).1.p ∧ ∀ t ∈ (m.second x).1.p.T, t.wf := by
 unfold SM.second
 split
 ·exact ⟨h.pool.wf, h.pool.rng⟩
 ·split <;> exact num_wf h _
theorem I8.nat {x : Int} (h : 0 ≤ x ∧ x ≤ 10) : ∃ d : Nat, x = (d : Int) ∧ d < 11 := ⟨x.toNat, by omega, by omega⟩
theorem alu_any (h : MA base g b F G m ex w) (x : ID) (hx : x.wf) (hdst : 0 ≤ x.dst ∧ x.dst ≤ 10) (hs : x.byReg = true → 0 ≤ x.src ∧ x.src ≤ 10) (hwd : -128 < x.width) : Calls prog 43 #[.pointer (some ⟨b, 0, none⟩), .agg x.cells.toArray] w (MEnd base g b G ex w (m.alu x)) := by
 have hb0 : base ≤ w.heap.size := Nat.le_trans (h.low b h.nb.2).1 (Nat.le_of_lt h.lt)
 have hbl := (((Below.refl w.heap.size w).alloc (Nat.le_refl _) (.cells x.cells.toArray 47))).drew
 have HG := Hd (MG.of_below h hbl)
 have HB0 := Hd (show Blk (w.alloc (.cells x.cells.toArray 47)).drew w.heap.size 47 x.cells.toArray from Blk.new w 47 x.cells.toArray)
 have HLOW := Hd (fun (e : G w.heap.size) => by have := (h.low _ e).2; omega : ¬ G w.heap.size)
 obtain ⟨q, hq⟩ : ∃ q, m.second x = q := ⟨_, rfl⟩
 have HN := Hd (fun (W : World) (F G : Nat → Prop) (hW : MA base g b F G m ex W) => by have := second_any hW x hx hs hwd; rw [hq] at this; exact this)
 have hqi : I64 q.2 := by rw [← hq]; exact second_i64 h hs
 have hqw : WfP q.1.p ∧ ∀ t ∈ q.1.p.T, t.wf := by rw [← hq]; exact second_wf h x
 have HRQ := Hd (show q.1.regs = m.regs by rw [← hq]; exact second_regs m x)
 obtain ⟨d, hr, hd⟩ := I8.nat hdst
 have hri := h.reg_i64 hd
 have hrr : m.reg x.dst = m.regs.getD d 0 := by unfold SM.reg; rw [hr, Int.toNat_natCast]
 obtain ⟨rs, hrs⟩ : ∃ r, opV q.1.p x.op x.width (m.regs.getD d 0) q.2 = r := ⟨_, rfl⟩
 have HO := Hd (fun (W : World) (F : Nat → Prop) (hW : PoolAt W base F g q.1.p) (hb : base ≤ W.heap.size) => by obtain ⟨f, hf⟩ := opV_some hW.wf hW.rng x.op x.width (m.regs.getD d 0) q.2; rw [hrs] at hf; exact op_all f x.op x.width _ q.2 hri hqi F q.1.p rs hf W hW hb)
 have HON := Hd (show I64 rs.2.1 by rw [← hrs]; exact opV_num hqw.1 hqw.2 _ _ _ _)
 have HNX := Hd (show m.alu x = ⟨rs.1, q.1.regs.set d rs.2.1, q.1.evs, if q.1.err = 0 then rs.2.2 else q.1.err⟩ by unfold SM.alu; dsimp only; rw [hq, hrr, hrs]; unfold SM.set SM.keep; rw [hr, Int.toNat_natCast])
 obtain ⟨mq, nq⟩ := q
 obtain ⟨rp, rn, re⟩ := rs
 dsimp only at HN HRQ HO HON HNX
 have HRD := Hd hr
 have HD := Hd hd
 have hb1 := Nat.le_trans hb0 HG.out.size
 have HM := Hd (MG.refl HG.out.at_)
 have HS := Hd (show MT b g m.regs (w.alloc (.cells x.cells.toArray 47)).drew from HG.out.at_.mt)
 clear h hx hdst hs hwd hq hqi hqw hri hrr hrs hd hb0 hr hbl
 go_enter func43, ntmps43
 go_wp2
 refine wp_region_E (fun w' => Blk w' w.heap.size 47 x.cells.toArray) (MT b g m.regs) [31] (by kernel_rfl) ?_
 generalize (w.alloc (.cells x.cells.toArray 47)).drew = Wd at HG HM HS HB0 hb1 ⊢
 generalize w.heap.size = bx at HB0 HLOW ⊢
 have HT := Hd HB0.out
 refine em 0 (.pointer (some ⟨b, 0, none⟩)) (bS HT HS) ?_
 refine ef 1 ⟨bx, 0, none⟩ ⟨bx, 5, none⟩ (bS HT HS) ?_
 refine el false 2 ⟨bx, 5, none⟩ (.int .i8 x.dst) underlying30 (fun w hS => (hS.1.cell 5)) (bS HT HS) ?_
 refine em 3 (.pointer (some ⟨b, 0, none⟩)) (bS HT HS) ?_
 refine em 4 (.pointer (some ⟨b, 0, none⟩)) (bS HT HS) ?_
 refine ez 5 ⟨b, 0, none⟩ (bS HT HS) ?_
 refine ef 6 ⟨b, 0, none⟩ ⟨b, 0, none⟩ (bS HT HS) ?_
 refine el true 7 ⟨b, 0, none⟩ (.pointer (some ⟨g, 0, none⟩)) underlying50 (fun w hS => (hS.2 rfl).1) (bS HT HS) ?_
 refine ef 8 ⟨bx, 0, none⟩ ⟨bx, 1, none⟩ (bS HT HS) ?_
 refine el false 9 ⟨bx, 1, none⟩ (.int .i8 x.op) underlying30 (fun w hS => (hS.1.cell 1)) (bS HT HS) ?_
 refine ef 10 ⟨bx, 0, none⟩ ⟨bx, 2, none⟩ (bS HT HS) ?_
 refine el false 11 ⟨bx, 2, none⟩ (.int .i8 x.width) underlying30 (fun w hS => (hS.1.cell 2)) (bS HT HS) ?_
 refine em 12 (.pointer (some ⟨b, 0, none⟩)) (bS HT HS) ?_
 refine ef 13 ⟨bx, 0, none⟩ ⟨bx, 5, none⟩ (bS HT HS) ?_
 refine el false 14 ⟨bx, 5, none⟩ (.int .i8 x.dst) underlying30 (fun w hS => (hS.1.cell 5)) (bS HT HS) ?_
 refine ez 15 ⟨b, 0, none⟩ (bS HT HS) ?_
 refine ef 16 ⟨b, 0, none⟩ ⟨b, 1, none⟩ (bS HT HS) ?_
 refine ef 17 ⟨b, 1, none⟩ ⟨b, 1, none⟩ (bS HT HS) ?_
 refine ej 18 (.pointer (some ⟨b, 1, none⟩)) (.int .i8 x.dst) (.pointer (some ⟨b, 1 + d, none⟩)) (run_at11 b HRD.out HD.out) (bS HT HS) ?_
 refine el true 19 ⟨b, 1 + d, none⟩ (.int .i64 (m.regs.getD d 0)) underlying3 (fun w hS => ((hS.2 rfl).2 d HD.out)) (bS HT HS) ?_
 refine em 20 (.pointer (some ⟨b, 0, none⟩)) (bS HT HS) ?_
 refine eL false 21 ⟨bx, 0, none⟩ x.cells (fun w hS => blk_list hS.1) underlying47 sizIn (bS HT HS) ?_
 refine ez 27 ⟨b, 0, none⟩ (bS HT HS) ?_
 refine ef 28 ⟨b, 0, none⟩ ⟨b, 1, none⟩ (bS HT HS) ?_
 refine ef 29 ⟨b, 1, none⟩ ⟨b, 1, none⟩ (bS HT HS) ?_
 refine eo 22 fun o K h2 h3 hKK => ?_
 unfold Oper.wp execOp
 simp only [h3]
 go_simp
 refine (HN.out _ _ _ HM.out.at_).mono ?_
 rintro e wq ⟨rfl, _, Fq, Gq, hmq⟩
 replace HM := Hd (HM.out.trans hmq)
 replace HT := Hd (HM.out.blk HB0.out HLOW.out).1
 replace HS := Hd (show MT b g m.regs wq from HRQ.out ▸ HM.out.at_.mt)
 clear hmq
 dsimp only
 refine hKK _ _ (bS HT HS) ?_
 clear hKK h2 h3 K o
 try simp only [pt, pn, sL]
 refine eo 23 fun o K h2 h3 hKK => ?_
 unfold Oper.wp execOp
 simp only [h3]
 go_simp
 refine (HO.out _ _ HM.out.at_.pool (Nat.le_trans hb1 HM.out.size)).mono ?_
 rintro e wq ⟨rfl, Fq, hpq⟩
 replace HM := Hd (HM.out.trans (HM.out.at_.pg hpq))
 replace HT := Hd (HM.out.blk HB0.out HLOW.out).1
 replace HS := Hd (show MT b g m.regs wq from HRQ.out ▸ HM.out.at_.mt)
 clear hpq
 dsimp only
 refine hKK _ _ (bS HT HS) ?_
 clear hKK h2 h3 K o
 try simp only [pt, pn, sL]
 refine eg 24 (.int .i64 rn) (bS HT HS) ?_
 refine eg 25 (.int .i64 re) (bS HT HS) ?_
 refine eo 26 fun o K h2 h3 hKK => ?_
 unfold Oper.wp execOp
 simp only [h3]
 go_simp
 refine (made_any HM.out.at_ (rn) (re) HON.out).mono ?_
 rintro e wq ⟨rfl, _, Fq, Gq, hmq⟩
 replace HM := Hd (HM.out.trans hmq)
 replace HT := Hd (HM.out.blk HB0.out HLOW.out).1
 replace HS := Hd (show MT b g m.regs wq from HRQ.out ▸ HM.out.at_.mt)
 clear hmq
 dsimp only
 refine hKK _ _ (bS HT HS) ?_
 clear hKK h2 h3 K o
 try simp only [pt, pn, sL]
 refine ej 30 (.pointer (some ⟨b, 1, none⟩)) (.int .i8 x.dst) (.pointer (some ⟨b, 1 + d, none⟩)) (run_at11 b HRD.out HD.out) (bS HT HS) ?_
 obtain ⟨es, qe, hBs, _⟩ := HM.out.at_.box
 have HM2 := Hd (HM.out.trans (HM.out.at_.setReg HD.out HON.out))
 refine E_one 31 (by kernel_rfl) (StepE.store_at 31 3 _ _ ⟨b, 1 + d, none⟩ (.int .i64 rn) _ rfl (by rfl) (by rfl) (by rfl) (run_storeVar_one 3 b (1 + d) 114 _ _ hBs (by rw [List.size_toArray, mC_len HM.out.at_.len]; have := HD.out; omega) sizN rfl rfl) (.after (HM2.out.blk HB0.out HLOW.out).1 (by kernel_rfl)) ?_)
 clear hBs
 simp only [pt, pn, sL]
 refine wpAnyE_done (by kernel_rfl) ?_ _
 go_end0
 rw [HNX.out]
 exact ⟨rfl, _, _, HG.out.trans HM2.out⟩
end
end
section
open Go.RowKit
section
variable {base g nn c B gm : Nat} {F : Nat → Prop} {p : PS} {vs : List Int} {A : Option Addr}
theorem eval_all : ∀ (N : Nat) (n : Int), I64 n → n.toNat < N → EvC base g F p vs A nn c B gm n := by
 intro N
 induction N with
 | zero => intro n hI h; omega
 | succ N ih =>
  intro n hI h
  exact eval_step n hI fun k h0 h1 => ih k (by unfold I64 at *; omega) (by omega)
theorem Eval_any (n : Int) (hI : I64 n) (W : World) (h : PoolAt W base F g p) (hr : Reads W W.heap.size 1 A nn (vs.map (Value.int .u64))) (hl : vs.length = nn) (hc : nn ≤ c) (hs : nn < 9223372036854775808) (hu : ∀ v ∈ vs, U64 v) :
  Calls prog 26 #[.pointer (some ⟨g, 0, none⟩), .int .i64 n, .slice A nn c] W fun e w' => e = .returned (.tuple #[.int .u64 (resV (evP p.T vs n)).1, .int .i64 (resV (evP p.T vs n)).2]) ∧ Below W.heap.size W w' := by
 have HP := Hd h
 have HR := Hd hr
 have HX := Hd (And.intro hl (And.intro hc (And.intro hs hu)))
 have HI := Hd hI
 clear h hr hl hc hs hu hI
 go_enter func26, ntmps26
 go_wp2_with (first
  | (refine wpList_makeMap (Value.int .i64) I64 3 rfl 127 rfl ?_
     intro w1 gm hgm hm hb
     have HM := Hd hm
     have HG := Hd hgm
     have HB := Hd hb
     clear hm hb hgm)
  | fail)
 have hF : EvF base g F p vs A nn c W.heap.size gm [] w1 :=
  ⟨HP.out.below HB.out, HR.out.below HB.out, HX.out.1, HX.out.2.1, HX.out.2.2.1, HX.out.2.2.2, HM.out.congr fun x => rfl, ⟨fun q => by have := (HP.out.fb _ q).2; have := HG.out; omega, HG.out⟩, List.nodup_nil, fun i hi => absurd hi (by simp), fun i hi => absurd hi (by simp)⟩
 have hall := eval_all (base := base) (g := g) (F := F) (p := p) (vs := vs) (A := A) (nn := nn) (c := c) (B := W.heap.size) (gm := gm) (n.toNat + 1) n HI.out (by omega) [] w1 hF
 refine hall.mono ?_
 rintro e w2 ⟨L, rfl, _, hc, _⟩
 have HC := Hd (HB.out.trans (hc.below (B := W.heap.size) (fun b q => q ▸ HG.out) HB.out.size))
 clear hF hall hc
 go_wp2
 go_ret2
 exact ⟨rfl, HC.out⟩
end
def wT1 : List TD := [varT 0 64]
def wT4 : List TD := [varT 0 64, constT 3, constT 4, constT 7]
def wT5 : List TD := [varT 0 64, constT 3, constT 4, constT 7, opT 0 64 0 1]
def wT6 : List TD := [varT 0 64, constT 3, constT 4, constT 7, opT 0 64 0 1, opT 0 64 0 3]
def wT7 : List TD := [varT 0 64, constT 3, constT 4, constT 7, opT 0 64 0 1, opT 0 64 0 3, constT 0]
end
end Go.Proofs.YtepagfkkjlbipaaGreat
