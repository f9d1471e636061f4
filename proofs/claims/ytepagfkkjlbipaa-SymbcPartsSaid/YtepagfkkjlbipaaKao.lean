/-
  What commutes is one term either way. Conditions: those written in each statement.
  What commutes is one term either way: operations and conditions. Conditions: those written in each statement.
  How deep norm's terms are, how many it puts: within a pool that is not near its limits it refuses nothing. Conditions: those written in each statement.
-/
import Derived.Test.YtepagfkkjlbipaaKam
import Derived.Test.YtepagfkkjlbipaaKan
section
namespace Go.Proofs.Ytepagfkkjlbipaa
open Go.RowKit
set_option linter.unusedVariables false
set_option linter.unusedSimpArgs false
set_option maxRecDepth 100000
theorem turns_cases {op : Int} (h : turnsB op = true) : op = 0 ∨ op = 2 ∨ op = 4 ∨ op = 5 ∨ op = 10 := by unfold turnsB at h; simp at h; exact h
/-- No cut is a cut of a constant or of a cut. -/
def NZ (p : PS) : Prop := ∀ n : Int, hasB p.T n = true → (atP p.T n).kind = 3 → (atP p.T (atP p.T n).a).kind ≠ 0 ∧ (atP p.T (atP p.T n).a).kind ≠ 3
/-- What norm puts. -/
def Al (q : PS) (t : TD) : Prop := t.kind ≠ 3 ∨ ∃ w a, t = zextT w a ∧ hasB q.T a = true ∧ (atP q.T a).kind ≠ 0 ∧ (atP q.T a).kind ≠ 3
theorem NZ.put {p : PS} (h : NZ p) (hw : WfP p) {t : TD} (ht : Al p t) : NZ (putP p t) := by
  intro n hn hk
  rcases putP_cases p t with ⟨e, _⟩ | ⟨hok, _, _, _, e, _⟩
  · rw [e] at hn hk ⊢; exact h n hn hk
  · have he : Ext p (putP p t) := Ext.put p t
    cases hb : hasB p.T n
    · -- the new one
      have hn2 : n = (p.T.length : Int) := by
        rw [e] at hn
        unfold hasB at hn hb
        simp at hn hb
        omega
      have hat : atP (putP p t).T n = t := by
        unfold atP
        rw [if_pos hn, e, hn2]
        simp
      rw [hat] at hk ⊢
      rcases ht with ht | ⟨w, a, rfl, ha, k0, k3⟩
      · exact absurd hk ht
      · show (atP (putP p (zextT w a)).T a).kind ≠ 0 ∧ (atP (putP p (zextT w a)).T a).kind ≠ 3
        rw [he.at_ ha]
        exact ⟨k0, k3⟩
    · rw [he.at_ hb] at hk ⊢
      rw [he.at_ (has_part hw hb hk).2.2]
      exact h n hb hk
theorem NZ.nil : NZ ⟨[], []⟩ := fun n hn => by unfold hasB at hn; simp at hn; omega
theorem NZ.bind {p : PS} {r s : RS} {k : PS → Int → Option RS} (h : NZ r.1) (hk : r.2.2 = 0 → ∀ s, k r.1 r.2.1 = some s → NZ s.1) (hs : bindR r k = some s) : NZ s.1 := by
  unfold bindR at hs
  split at hs
  · rename_i h0; exact hk h0 s hs
  · injection hs with hs; subst hs; exact h
theorem NZ.putR {p : PS} (h : NZ p) (hw : WfP p) {t : TD} (ht : t.kind ≠ 3) : NZ (putR p t).1 := h.put hw (.inl ht)
theorem zext_nz : ∀ (f : Nat) {p : PS} (hz : NZ p) (hw : WfP p) {x a : Int} {r : RS} (ha : hasB p.T a = true), zextF f p x a = some r → NZ r.1
  | 0, _, _, _, _, _, _, _, h => by cases h
  | f + 1, p, hz, hw, x, a, r, ha, h => by
    rw [zextF_succ] at h
    split at h
    · injection h with h; subst h; exact hz
    split at h
    · injection h with h; subst h; exact hz.putR hw (by show (0 : Int) ≠ 3; decide)
    rename_i k0
    split at h
    · injection h with h; subst h; exact hz
    split at h
    · rename_i h3; exact zext_nz f hz hw (has_part hw ha h3).2.2 h
    · rename_i k3
      injection h with h; subst h
      exact hz.put hw (.inr ⟨x, a, rfl, ha, k0, k3⟩)
theorem operand_nz {p : PS} (hz : NZ p) (hw : WfP p) (x a : Int) : NZ (operandP p x a).1 := by
  rcases operand_cases p x a with ⟨_, e⟩ | ⟨_, e⟩ | ⟨_, e⟩
  · rw [e]; exact hz.putR hw (by show (0 : Int) ≠ 3; decide)
  · rw [e]; exact hz
  · rw [e]; exact hz
theorem both_nz {p : PS} (hz : NZ p) (hw : WfP p) (hr : ∀ t ∈ p.T, t.wf) {a b : Int} (ha : I64 a) (x : Int) : NZ (bothP p x a b).1 := by
  have h1 := operand_nz hz hw x a
  have h2 := (operand_i64 hw hr ha x).2.1
  unfold bothP
  dsimp only
  split
  · exact operand_nz h1 h2 x b
  · exact h1
theorem op_nz : ∀ (f : Nat) {p : PS} (hz : NZ p) (hw : WfP p) (hr : ∀ t ∈ p.T, t.wf) {op x a b : Int} {r : RS}, opF f p op x a b = some r → NZ r.1
  | 0, _, _, _, _, _, _, _, _, _, h => by cases h
  | f + 1, p, hz, hw, hr, op, x, a, b, r, h => by
    rw [opF_succ] at h
    split at h
    · injection h with h; subst h; exact hz
    rename_i hab
    have hab : hasB p.T a = true ∧ hasB p.T b = true := by simpa using hab
    split at h
    · injection h with h; subst h; exact hz
    have hw2 := both_wf hw hr (has_i64 hw hab.1) (has_i64 hw hab.2) x
    have hz2 := both_nz (b := b) hz hw hr (has_i64 hw hab.1) x
    split at h
    · rename_i h0
      have hf := both_facts hw hr hab.1 hab.2 h0
      generalize bothP p x a b = z at h hw2 hf hz2
      obtain ⟨p1, a1, b1, e1⟩ := z
      dsimp only at h hw2 hf hz2
      have hc : ∀ {n : Int}, U64 n → Good p1 (putR p1 (constT n)) := fun hn => Good.put hw2.1 hw2.2 (constT_wf hn)
      have hn : ∀ n : Int, NZ (putR p1 (constT n)).1 := fun n => hz2.putR hw2.1 (by show (0 : Int) ≠ 3; decide)
      unfold opL at h
      dsimp only at h
      split at h
      · injection h with h; subst h; exact hn _
      split at h
      · exact NZ.bind (p := p1) (hn 0) (fun _ s hs => op_nz f (hn 0) (hc zero_u64).wf (hc zero_u64).rng hs) h
      split at h
      · exact zext_nz f hz2 hw2.1 hf.2.1 h
      split at h
      · have hu : U64 (cutV x (IntKind.u64.wrap (-(atP p1.T b1).n))) := cutV_u64 (wrap_u64 _)
        exact NZ.bind (p := p1) (hn _) (fun _ s hs => op_nz f (hn _) (hc hu).wf (hc hu).rng hs) h
      split at h
      · exact op_nz f hz2 hw2.1 hw2.2 h
      split at h
      · have hu : U64 (cutV x (IntKind.u64.wrap ((atP p1.T (atP p1.T a1).b).n + (atP p1.T b1).n))) := cutV_u64 (wrap_u64 _)
        exact NZ.bind (p := p1) (hn _) (fun _ s hs => op_nz f (hn _) (hc hu).wf (hc hu).rng hs) h
      split at h
      · exact zext_nz f hz2 hw2.1 hf.1 h
      split at h
      · injection h with h; subst h; exact hn _
      split at h
      · injection h with h; subst h; exact hn _
      split at h
      · exact zext_nz f hz2 hw2.1 hf.1 h
      · injection h with h; subst h; exact hz2.putR hw2.1 (by show (2 : Int) ≠ 3; decide)
    · injection h with h; subst h; exact hz2
end Go.Proofs.Ytepagfkkjlbipaa
end
section
namespace Go.Proofs.Ytepagfkkjlbipaa
open Go.RowKit
set_option linter.unusedVariables false
set_option linter.unusedSimpArgs false
set_option maxRecDepth 100000
theorem operand_idem {q : PS} (hq : WfP q) (hr : ∀ t ∈ q.T, t.wf) (hz : NZ q) {x a a1 : Int} (hx : x = 32 ∨ x = 64) (ha : hasB q.T a = true) (h : operandP q x a = (q, a1, 0)) : operandP q x a1 = (q, a1, 0) := by
  have hwx : Wd4 x := by unfold Wd4; omega
  rcases operand_cases q x a with ⟨k, e⟩ | ⟨k, e⟩ | ⟨k, e⟩
  · rw [h] at e
    have e1 : putP q (constT (cutV x (atP q.T a).n)) = q := (congrArg Prod.fst e).symm
    have e2 : putN q (constT (cutV x (atP q.T a).n)) = (a1, 0) := (congrArg Prod.snd e).symm
    have hat := put_at (p := q) (t := constT (cutV x (atP q.T a).n)) (by rw [e2])
    rw [e1, e2] at hat
    unfold operandP
    dsimp only
    rw [hat.2, if_pos (show (constT (cutV x (atP q.T a).n)).kind = 0 from rfl)]
    show putR q (constT (cutV x (cutV x (atP q.T a).n))) = _
    rw [cut_cut hwx hwx (atP_wf hr a).2.2.2.1, Int.min_self]
    exact e.symm
  · rw [h] at e
    injection e with _ e
    injection e with e _
    have := hz a ha k
    subst e
    unfold operandP
    dsimp only
    rw [if_neg this.1, if_neg (fun q => this.2 q.2.1)]
  · rw [h] at e
    injection e with _ e
    injection e with e _
    subst e
    exact h
theorem both_of {q : PS} {x a b a1 b1 : Int} (h1 : operandP q x a = (q, a1, 0)) (h2 : operandP q x b = (q, b1, 0)) : bothP q x a b = (q, a1, b1, 0) := by
  unfold bothP
  rw [h1]
  dsimp only
  rw [if_pos rfl, h2]
theorem opF_of {q : PS} {f : Nat} {op x a b a1 b1 : Int} (ha : hasB q.T a = true) (hb : hasB q.T b = true) (hd : doOk op x = true) (h1 : operandP q x a = (q, a1, 0)) (h2 : operandP q x b = (q, b1, 0)) : opF (f + 1) q op x a b = opL (fun q o u v => opF f q o x u v) f q op x a1 b1 := by
  rw [opF_succ, if_neg (by rw [ha, hb]; simp), if_neg (by rw [hd]; simp), both_of h1 h2]
  dsimp only
  rw [if_pos rfl]
end Go.Proofs.Ytepagfkkjlbipaa
end
section
namespace Go.Proofs.Ytepagfkkjlbipaa
open Go.RowKit
set_option linter.unusedVariables false
set_option linter.unusedSimpArgs false
set_option maxRecDepth 100000
/-! ### depths -/
def dpP (p : PS) (n : Int) : Int := p.D.getD n.toNat 0
theorem dp_dmax {p : PS} (hw : WfP p) {n : Int} (hn : hasB p.T n = true) : dpP p n = dmax p.D (prtL (atP p.T n)) := by
  obtain ⟨i, rfl, hi⟩ := has_ix hn
  unfold dpP
  rw [List.getD_eq_getElem?_getD, show ((i : Int)).toNat = i by omega, hw.deep i _ hi]
  rfl
theorem dp_bd {p : PS} (hw : WfP p) {n : Int} (hn : hasB p.T n = true) : 1 ≤ dpP p n ∧ dpP p n ≤ 256 := by
  obtain ⟨i, rfl, hi⟩ := has_ix hn
  have hl : i < p.D.length := by rw [hw.len]; exact (List.getElem?_eq_some_iff.1 hi).1
  unfold dpP
  rw [List.getD_eq_getElem?_getD, show ((i : Int)).toNat = i by omega, List.getElem?_eq_getElem hl]
  exact hw.low _ (List.getElem_mem hl)
theorem dmax_le {D : List Int} {l : List Int} {d : Int} (hd : 1 ≤ d) (h : ∀ k ∈ l, D.getD k.toNat 0 + 1 ≤ d) : dmax D l ≤ d := by
  unfold dmax
  suffices H : ∀ (l : List Int) (a : Int), a ≤ d → (∀ k ∈ l, D.getD k.toNat 0 + 1 ≤ d) → l.foldl (fun d n => max d (D.getD n.toNat 0 + 1)) a ≤ d from H l 1 hd h
  intro l
  induction l with
  | nil => intro a ha _; exact ha
  | cons x r ih => intro a ha hl; exact ih _ (by have := hl x (by simp); show max a (D.getD x.toNat 0 + 1) ≤ d; omega) (fun k hk => hl k (by simp [hk]))
theorem le_dmax {D : List Int} {l : List Int} {k : Int} (hk : k ∈ l) : D.getD k.toNat 0 + 1 ≤ dmax D l := by
  unfold dmax
  suffices H : ∀ (l : List Int) (a : Int), k ∈ l → D.getD k.toNat 0 + 1 ≤ l.foldl (fun d n => max d (D.getD n.toNat 0 + 1)) a from H l 1 hk
  intro l
  induction l with
  | nil => intro a h; simp at h
  | cons x r ih =>
    intro a h
    rw [List.foldl_cons]
    rcases List.mem_cons.1 h with rfl | h
    · exact Int.le_trans (Int.le_max_right _ _) (dmax_ge D r _)
    · exact ih _ h
theorem dp_part {p : PS} (hw : WfP p) {n k : Int} (hn : hasB p.T n = true) (hk : k ∈ prtL (atP p.T n)) : dpP p k + 1 ≤ dpP p n := by
  rw [dp_dmax hw hn]
  exact le_dmax hk
theorem dmax_congr {D E : List Int} {l : List Int} (h : ∀ k ∈ l, D.getD k.toNat 0 = E.getD k.toNat 0) : dmax D l = dmax E l := by
  unfold dmax
  suffices H : ∀ (l : List Int) (a : Int), (∀ k ∈ l, D.getD k.toNat 0 = E.getD k.toNat 0) → l.foldl (fun d n => max d (D.getD n.toNat 0 + 1)) a = l.foldl (fun d n => max d (E.getD n.toNat 0 + 1)) a from H l 1 h
  intro l
  induction l with
  | nil => intro a _; rfl
  | cons x r ih => intro a hl; rw [List.foldl_cons, List.foldl_cons, hl x (by simp)]; exact ih _ (fun k hk => hl k (by simp [hk]))
theorem dp_ext {p q : PS} (hw : WfP p) (hq : WfP q) (he : Ext p q) : ∀ (N : Nat) (n : Int), n.toNat < N → hasB p.T n = true → dpP q n = dpP p n := by
  intro N
  induction N with
  | zero => intro n hn; omega
  | succ N ih =>
    intro n hn hb
    rw [dp_dmax hw hb, dp_dmax hq (he.has hb), he.at_ hb]
    refine dmax_congr fun k hk => ?_
    have hp := part_less hw hb hk
    exact ih k (by omega) (has_prt hw hb hk)
theorem Ext.dp {p q : PS} (he : Ext p q) (hw : WfP p) (hq : WfP q) {n : Int} (hb : hasB p.T n = true) : dpP q n = dpP p n := dp_ext hw hq he _ n (Nat.lt_succ_self _) hb
/-! ### what is put, within the limits -/
structure Fit (p : PS) (r : RS) (k : Nat) (d : Int) : Prop where
  err : r.2.2 = 0
  few : r.1.T.length ≤ p.T.length + k
  low : dpP r.1 r.2.1 ≤ d
theorem Fit.more {p : PS} {r : RS} {k m : Nat} {d e : Int} (h : Fit p r k d) (hk : k ≤ m) (hd : d ≤ e) : Fit p r m e := ⟨h.err, by have := h.few; omega, by have := h.low; omega⟩
theorem Fit.from {p q : PS} {r : RS} {j k : Nat} {d : Int} (hq : q.T.length ≤ p.T.length + j) (h : Fit q r k d) : Fit p r (j + k) d := ⟨h.err, by have := h.few; omega, h.low⟩
theorem put_fit {p : PS} (hw : WfP p) {t : TD} {d : Int} (hok : okP p.T t = true) (hl : p.T.length < 4000) (hd : 1 ≤ d ∧ d ≤ 256) (hp : ∀ k ∈ prtL t, dpP p k + 1 ≤ d) : Fit p (putR p t) 1 d := by
  have hm : dmax p.D (prtL t) ≤ d := dmax_le hd.1 hp
  rcases putP_cases p t with ⟨e, q⟩ | ⟨_, _, _, _, e, q⟩
  · rcases q with ⟨q, _⟩ | ⟨_, i, hi, _, q⟩ | ⟨_, _, q, _⟩
    · rw [hok] at q; cases q
    · refine ⟨by show (putN p t).2 = 0; rw [q], by show (putP p t).T.length ≤ _; rw [e]; omega, ?_⟩
      show dpP (putP p t) (putN p t).1 ≤ d
      rw [e, q]
      unfold dpP
      rw [List.getD_eq_getElem?_getD, show ((i : Int)).toNat = i by omega, hw.deep i _ hi]
      exact hm
    · omega
  · refine ⟨by show (putN p t).2 = 0; rw [q], by show (putP p t).T.length ≤ _; rw [e]; simp, ?_⟩
    show dpP (putP p t) (putN p t).1 ≤ d
    rw [e, q]
    unfold dpP
    have : ((p.T.length : Int)).toNat = p.D.length := by rw [hw.len]; omega
    dsimp only
    rw [this, List.getD_eq_getElem?_getD]
    simpa using hm
theorem const_fit {p : PS} (hw : WfP p) (n : Int) (hl : p.T.length < 4000) : Fit p (putR p (constT n)) 1 1 := put_fit hw (okP_const _ _) hl (by omega) (fun k hk => by have : prtL (constT n) = [] := rfl; rw [this] at hk; cases hk)
theorem same_fit {p : PS} {n d : Int} (h : dpP p n ≤ d) : Fit p (p, n, 0) 0 d := ⟨rfl, Nat.le_refl _, h⟩
theorem zext_fit : ∀ (f : Nat) {p : PS} (hw : WfP p) {x a d : Int} {r : RS} (hx : Wd4 x) (ha : hasB p.T a = true) (hl : p.T.length < 4000) (hd : dpP p a + 1 ≤ d ∧ d ≤ 256), zextF f p x a = some r → Fit p r 1 d
  | 0, _, _, _, _, _, _, _, _, _, _, h => by cases h
  | f + 1, p, hw, x, a, d, r, hx, ha, hl, hd, h => by
    have hb := dp_bd hw ha
    rw [zextF_succ] at h
    split at h
    · injection h with h; subst h; exact (same_fit (by omega)).more (by omega) (Int.le_refl _)
    split at h
    · injection h with h; subst h; exact (const_fit hw _ hl).more (Nat.le_refl _) (by omega)
    split at h
    · injection h with h; subst h; exact (same_fit (by omega)).more (by omega) (Int.le_refl _)
    rename_i h64 _ _
    split at h
    · rename_i h3
      have hp := dp_part hw ha (k := (atP p.T a).a) (by unfold prtL; rw [if_neg (by omega), if_pos h3]; simp)
      exact zext_fit f hw hx (has_part hw ha h3).2.2 hl (by omega) h
    · injection h with h; subst h
      exact put_fit hw (okP_zext hx h64 ha) hl (by omega) (fun k hk => by
        have : k = a := by unfold prtL at hk; simpa using hk
        subst this
        exact hd.1)
theorem operand_fit {p : PS} (hw : WfP p) {x a : Int} (ha : hasB p.T a = true) (hl : p.T.length < 4000) : Fit p (operandP p x a) 1 (dpP p a) := by
  have hb := dp_bd hw ha
  rcases operand_cases p x a with ⟨k, e⟩ | ⟨k, e⟩ | ⟨k, e⟩ <;> rw [e]
  · exact (const_fit hw _ hl).more (Nat.le_refl _) hb.1
  · have hp := dp_part hw ha (k := (atP p.T a).a) (by unfold prtL; rw [if_neg (by omega), if_pos k]; simp)
    exact (same_fit (by omega)).more (by omega) (Int.le_refl _)
  · exact (same_fit (Int.le_refl _)).more (by omega) (Int.le_refl _)
/-- Both operands, within the limits. -/
theorem both_fit {p : PS} (hw : WfP p) (hr : ∀ t ∈ p.T, t.wf) {x a b : Int} (ha : hasB p.T a = true) (hb : hasB p.T b = true) (hl : p.T.length + 1 < 4000) :
    (bothP p x a b).2.2.2 = 0 ∧ (bothP p x a b).1.T.length ≤ p.T.length + 2 ∧ dpP (bothP p x a b).1 (bothP p x a b).2.1 ≤ dpP p a ∧ dpP (bothP p x a b).1 (bothP p x a b).2.2.1 ≤ dpP p b := by
  have h1 := operand_fit hw (x := x) ha (by omega)
  have w1 := operand_i64 hw hr (has_i64 hw ha) x
  have e1 := operand_ext p x a
  have hb1 := e1.has hb
  have h2 := operand_fit w1.2.1 (x := x) hb1 (by have := h1.few; omega)
  have w2 := operand_i64 w1.2.1 w1.2.2 (has_i64 w1.2.1 hb1) x
  have e2 := operand_ext (operandP p x a).1 x b
  have f1 := operand_facts hw ha h1.err
  have d1 := e2.dp w1.2.1 w2.2.1 f1.1
  have d2 := e1.dp hw w1.2.1 hb
  unfold bothP
  dsimp only
  rw [if_pos h1.err]
  dsimp only
  have := h1.few
  have := h2.few
  have := h1.low
  have := h2.low
  exact ⟨h2.err, by omega, by omega, by omega⟩
/-! ### sums of a sum and a constant -/
def addC (T : List TD) (x n : Int) : Bool := (atP T n).kind == 2 && ((atP T n).op == 0 && ((atP T n).w == x && (atP T (atP T n).b).kind == 0))
def strP (T : List TD) (x a : Int) : Int := if x = 32 ∧ (atP T a).kind = 3 ∧ (atP T a).w = 32 then (atP T a).a else a
/-- No sum with a constant is one of a sum with a constant. -/
def AA (p : PS) : Prop := ∀ n x : Int, hasB p.T n = true → addC p.T x n = true → addC p.T x (strP p.T x (atP p.T n).a) = false
theorem addC_ext {p q : PS} (hw : WfP p) (he : Ext p q) (x : Int) {n : Int} (hn : hasB p.T n = true) : addC q.T x n = addC p.T x n := by
  unfold addC
  rw [he.at_ hn]
  refine and_cong fun hk => ?_
  have hk : (atP p.T n).kind = 2 := by simpa using hk
  rw [he.at_ (has_prt hw hn (k := (atP p.T n).b) (by unfold prtL; rw [if_pos (.inl hk)]; simp))]
theorem str_has {p : PS} (hw : WfP p) (x : Int) {a : Int} (ha : hasB p.T a = true) : hasB p.T (strP p.T x a) = true := by
  unfold strP
  split
  · rename_i h; exact (has_part hw ha h.2.1).2.2
  · exact ha
theorem str_ext {p q : PS} (he : Ext p q) (x : Int) {a : Int} (ha : hasB p.T a = true) : strP q.T x a = strP p.T x a := by unfold strP; rw [he.at_ ha]
theorem AA.nil : AA ⟨[], []⟩ := fun n x hn => by unfold hasB at hn; simp at hn; omega
theorem AA.put {p : PS} (h : AA p) (hw : WfP p) {t : TD} (ht : okP p.T t = true → t.kind = 2 → t.op = 0 → (atP p.T t.b).kind = 0 → addC p.T t.w (strP p.T t.w t.a) = false) : AA (putP p t) := by
  intro n x hn hc
  rcases putP_cases p t with ⟨e, _⟩ | ⟨hok, _, _, _, e, _⟩
  · rw [e] at hn hc ⊢; exact h n x hn hc
  · have he : Ext p (putP p t) := Ext.put p t
    have hpart := (okP_parts hok).2.1
    cases hb : hasB p.T n
    · have hn2 : n = (p.T.length : Int) := by
        rw [e] at hn
        unfold hasB at hn hb
        simp at hn hb
        omega
      have hat : atP (putP p t).T n = t := by
        unfold atP
        rw [if_pos hn, e, hn2]
        simp
      have hc' := hc
      unfold addC at hc
      rw [hat] at hc ⊢
      simp only [Bool.and_eq_true, beq_iff_eq] at hc
      obtain ⟨h2, h0, hx, hbk⟩ := hc
      have hm : ∀ k, k = t.a ∨ k = t.b → hasB p.T k = true := fun k hk => by
        have := hpart k (by unfold prtL; rw [if_pos (.inl h2)]; simpa using hk)
        unfold hasB
        simp
        omega
      rw [he.at_ (hm _ (.inr rfl))] at hbk
      have hA := hm _ (.inl rfl)
      rw [str_ext he x hA, addC_ext hw he x (str_has hw x hA), ← hx]
      exact ht hok h2 h0 hbk
    · rw [addC_ext hw he x hb] at hc
      have hk : (atP p.T n).kind = 2 := by unfold addC at hc; simp at hc; exact hc.1
      have hA := has_prt hw hb (k := (atP p.T n).a) (by unfold prtL; rw [if_pos (.inl hk)]; simp)
      rw [he.at_ hb, str_ext he x hA, addC_ext hw he x (str_has hw x hA)]
      exact h n x hb hc
theorem AA.putR {p : PS} (h : AA p) (hw : WfP p) {t : TD} (ht : t.kind ≠ 2 ∨ t.op ≠ 0) : AA (putR p t).1 := h.put hw fun _ h2 h0 _ => by rcases ht with q | q <;> contradiction
/-- An operand that stands as it should stays. -/
theorem both_set {p : PS} (hw : WfP p) (hr : ∀ t ∈ p.T, t.wf) (hz : NZ p) {x a b : Int} (hx : x = 32 ∨ x = 64) (ha : hasB p.T a = true) (hb : hasB p.T b = true) (h0 : (bothP p x a b).2.2.2 = 0) :
    operandP (bothP p x a b).1 x (bothP p x a b).2.1 = ((bothP p x a b).1, (bothP p x a b).2.1, 0) ∧ operandP (bothP p x a b).1 x (bothP p x a b).2.2.1 = ((bothP p x a b).1, (bothP p x a b).2.2.1, 0) := by
  have hw2 := both_wf hw hr (has_i64 hw ha) (has_i64 hw hb) x
  have hz2 := both_nz (b := b) hz hw hr (has_i64 hw ha) x
  have he := both_ext p x a b
  have hba := both_again hw hw2.1 h0 ha hb he (Ext.refl _)
  have key : ∀ {q : PS} {u v : Int}, bothP q x a b = (q, u, v, 0) → operandP q x a = (q, u, 0) ∧ operandP q x b = (q, v, 0) := by
    intro q u v h
    unfold bothP at h
    dsimp only at h
    split at h
    · rename_i h1
      have e1 : (operandP (operandP q x a).1 x b).1 = q := congrArg Prod.fst h
      have e2 : (operandP q x a).2.1 = u := congrArg (fun z => z.2.1) h
      have e3 : (operandP (operandP q x a).1 x b).2.1 = v := congrArg (fun z => z.2.2.1) h
      have e4 : (operandP (operandP q x a).1 x b).2.2 = 0 := congrArg (fun z => z.2.2.2) h
      have hq : (operandP q x a).1 = q := by
        obtain ⟨s, hs⟩ := operand_ext q x a
        obtain ⟨t, ht⟩ := operand_ext (operandP q x a).1 x b
        rcases operand_cases q x a with ⟨k, e⟩ | ⟨k, e⟩ | ⟨k, e⟩
        · rw [e] at hs ht e1 ⊢
          rcases putP_cases q (constT (cutV x (atP q.T a).n)) with ⟨e', _⟩ | ⟨_, _, _, _, e', _⟩
          · exact e'
          · exfalso
            have e5 : (putR q (constT (cutV x (atP q.T a).n))).1 = putP q (constT (cutV x (atP q.T a).n)) := rfl
            rw [e1, e5, e'] at ht
            have := congrArg List.length ht
            simp at this
        · rw [e]
        · rw [e]
      rw [hq] at e1 e3 e4
      exact ⟨Prod.ext hq (Prod.ext e2 h1), Prod.ext e1 (Prod.ext e3 e4)⟩
    · rename_i h1
      exact absurd (congrArg (fun z => z.2.2.2) h) h1
  obtain ⟨k1, k2⟩ := key hba
  exact ⟨operand_idem hw2.1 hw2.2 hz2 hx (he.has ha) k1, operand_idem hw2.1 hw2.2 hz2 hx (he.has hb) k2⟩
theorem set_str {q : PS} (hw : WfP q) {x a : Int} (ha : hasB q.T a = true) (h : operandP q x a = (q, a, 0)) : strP q.T x a = a := by
  unfold strP
  split
  · rename_i hc
    have := has_part hw ha hc.2.1
    unfold operandP at h
    dsimp only at h
    rw [if_neg (by omega), if_pos hc] at h
    exact congrArg (fun z => z.2.1) h
  · rfl
theorem assoc_addC {T : List TD} {s : TD} {a op x : Int} {rt : Bool} (hs : s = atP T a) (h : assocB T s op x rt = true) : op = 0 ∧ rt = true ∧ addC T x a = true := by
  subst hs
  unfold assocB at h
  simp only [Bool.and_eq_true, beq_iff_eq] at h
  unfold addC
  simp only [Bool.and_eq_true, beq_iff_eq]
  exact ⟨h.1, h.2.1, h.2.2.2.1, h.2.2.2.2.1, h.2.2.2.2.2, h.2.2.1⟩
end Go.Proofs.Ytepagfkkjlbipaa
end
