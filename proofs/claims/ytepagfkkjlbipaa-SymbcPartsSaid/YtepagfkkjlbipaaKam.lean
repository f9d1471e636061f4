/-
  What was put is there in every pool that has grown out of it; of two cuts the narrower one counts. Conditions: those written in each statement.
  NormZexts in plain words. Conditions: those written in each statement.
  What was made is made again, in any pool that has grown out of that one: nothing is new. Conditions: those written in each statement.
  What was made is made again: conditions, choices, all of them. Conditions: those written in each statement.
  What norm refuses of terms that are there: nothing but a limit. Conditions: those written in each statement.
-/
import Derived.Test.YtepagfkkjlbipaaKal
section
namespace Go.Proofs.Ytepagfkkjlbipaa
open Go.RowKit
set_option linter.unusedVariables false
set_option linter.unusedSimpArgs false
set_option maxRecDepth 100000
theorem has_ix {T : List TD} {n : Int} (h : hasB T n = true) : ∃ i : Nat, n = (i : Int) ∧ T[i]? = some (atP T n) := by
  obtain ⟨k, h1, h2⟩ := atP_yes h
  exact ⟨k, h1, h2⟩
/-- What was put is put again, in any pool that has grown out of that one: nothing is new. -/
theorem put_again {p q : PS} (hq : WfP q) {t : TD} (h : (putN p t).2 = 0) (he : Ext (putP p t) q) : putP q t = q ∧ putN q t = ((putN p t).1, 0) := by
  have h1 := put_at h
  obtain ⟨i, hi, hT⟩ := has_ix (he.has h1.1)
  rw [he.at_ h1.1, h1.2] at hT
  have := put_there hq hT
  rw [hi]
  exact this
/-- What putting a term that is well made may come to. -/
theorem put_errs {p : PS} {t : TD} (h : okP p.T t = true) : (putN p t).2 = 0 ∨ (putN p t).2 = 260 := by
  rcases putP_cases p t with ⟨_, q⟩ | ⟨_, _, _, _, _, q⟩
  · rcases q with ⟨q, _⟩ | ⟨_, i, _, _, q⟩ | ⟨_, _, _, q⟩
    · rw [h] at q; cases q
    · rw [q]; exact .inl rfl
    · rw [q]; exact .inr rfl
  · rw [q]; exact .inl rfl
/-- What a cut comes to: a number that is there, or a term to put. -/
inductive ZD (T : List TD) (w : Int) : Int → (Int ⊕ TD) → Prop where
  | all {a : Int} (h : w = 64) : ZD T w a (.inl a)
  | const {a : Int} (h : w ≠ 64) (k : (atP T a).kind = 0) : ZD T w a (.inr (constT (cutV w (atP T a).n)))
  | thin {a : Int} (h : w ≠ 64) (k : (atP T a).kind ≠ 0) (n : narrowP T a w = true) : ZD T w a (.inl a)
  | deep {a : Int} {d : Int ⊕ TD} (h : w ≠ 64) (k : (atP T a).kind = 3) (n : narrowP T a w = false) (r : ZD T w (atP T a).a d) : ZD T w a d
  | put {a : Int} (h : w ≠ 64) (k : (atP T a).kind ≠ 0) (k3 : (atP T a).kind ≠ 3) (n : narrowP T a w = false) : ZD T w a (.inr (zextT w a))
def resD (p : PS) : Int ⊕ TD → RS
  | .inl n => (p, n, 0)
  | .inr t => putR p t
theorem ZD.fn {T : List TD} {w a : Int} {d e : Int ⊕ TD} (h : ZD T w a d) (k : ZD T w a e) : d = e := by
  induction h generalizing e with
  | all h => cases k <;> first | rfl | (exfalso; omega)
  | const h k0 =>
    cases k with
    | all h' => exact absurd h' h
    | const _ _ => rfl
    | thin _ k' _ => exact absurd k0 k'
    | deep _ k' _ _ => omega
    | put _ k' _ _ => exact absurd k0 k'
  | thin h k0 n0 =>
    cases k with
    | all h' => exact absurd h' h
    | const _ k' => exact absurd k' k0
    | thin _ _ _ => rfl
    | deep _ _ n' _ => rw [n0] at n'; cases n'
    | put _ _ _ n' => rw [n0] at n'; cases n'
  | deep h k0 n0 r ih =>
    cases k with
    | all h' => exact absurd h' h
    | const _ k' => omega
    | thin _ _ n' => rw [n0] at n'; cases n'
    | deep _ _ _ r' => exact ih r'
    | put _ _ k' _ => exact absurd k0 k'
  | put h k0 k3 n0 =>
    cases k with
    | all h' => exact absurd h' h
    | const _ k' => exact absurd k' k0
    | thin _ _ n' => rw [n0] at n'; cases n'
    | deep _ k' _ _ => exact absurd k' k3
    | put _ _ _ _ => rfl
theorem narrow_ext {p q : PS} (he : Ext p q) {a : Int} (ha : hasB p.T a = true) (w : Int) : narrowP q.T a w = narrowP p.T a w := by
  unfold narrowP
  rw [he.at_ ha]
theorem ZD.ext {p q : PS} (hw : WfP p) (he : Ext p q) {w a : Int} {d : Int ⊕ TD} (h : ZD p.T w a d) (ha : hasB p.T a = true) : ZD q.T w a d := by
  induction h with
  | all h => exact .all h
  | const h k =>
    have e := he.at_ ha
    rw [← e] at k ⊢
    exact .const h k
  | thin h k n => exact .thin h (by rw [he.at_ ha]; exact k) (by rw [narrow_ext he ha]; exact n)
  | @deep a d h k n r ih =>
    refine .deep h (by rw [he.at_ ha]; exact k) (by rw [narrow_ext he ha]; exact n) ?_
    rw [he.at_ ha]
    exact ih (has_part hw ha k).2.2
  | put h k k3 n => exact .put h (by rw [he.at_ ha]; exact k) (by rw [he.at_ ha]; exact k3) (by rw [narrow_ext he ha]; exact n)
/-- The widths. -/
def Wd4 (w : Int) : Prop := w = 8 ∨ w = 16 ∨ w = 32 ∨ w = 64
theorem cut_cut {v w n : Int} (hv : Wd4 v) (hw : Wd4 w) (hn : U64 n) : cutV w (cutV v n) = cutV (min v w) n := by
  unfold U64 at hn
  rcases hv with rfl | rfl | rfl | rfl <;> rcases hw with rfl | rfl | rfl | rfl <;> simp [cutV] <;> omega
theorem narrow_less {T : List TD} (hT : ∀ t ∈ T, t.wf) {a v w : Int} (hv : Wd4 v) (hw : Wd4 w) (hle : v ≤ w) (h : narrowP T a v = true) : narrowP T a w = true := by
  have hu := (atP_wf hT a).2.2.2.1
  unfold narrowP at h ⊢
  dsimp only at h ⊢
  by_cases h1 : w = 64 ∨ (atP T a).kind = 4
  · rw [if_pos h1]
  rw [if_neg h1]
  have h1' : ¬ (v = 64 ∨ (atP T a).kind = 4) := by
    rintro (e | e)
    · rcases hw with rfl | rfl | rfl | rfl <;> omega
    · exact h1 (.inr e)
  rw [if_neg h1'] at h
  by_cases h2 : (atP T a).kind = 0
  · rw [if_pos h2] at h ⊢
    simp at h ⊢
    have := cut_cut hv hw hu
    rw [← h, Int.min_eq_left hle] at this
    rw [this]
    exact h
  · rw [if_neg h2] at h ⊢
    by_cases h3 : (atP T a).kind = 3 ∨ (atP T a).kind = 1
    · rw [if_pos h3] at h ⊢
      simp at h ⊢
      omega
    · rw [if_neg h3] at h ⊢
      simp at h ⊢
      refine ⟨h.1, h.2.1, ?_⟩
      have h64 : w ≠ 64 := fun e => h1 (.inl e)
      rcases hw with rfl | rfl | rfl | rfl <;> omega
theorem narrow_const {T : List TD} {a w n : Int} (hw : Wd4 w) (hn : U64 n) (h : atP T a = constT (cutV w n)) : narrowP T a w = true := by
  unfold narrowP
  rw [h]
  dsimp only [constT]
  split
  · rfl
  · rw [if_pos rfl]
    simp
    rw [cut_cut hw hw hn, Int.min_self]
theorem narrow_zext {T : List TD} {a w b : Int} (h : atP T a = zextT w b) : narrowP T a w = true := by
  unfold narrowP
  rw [h]
  dsimp only [zextT]
  split
  · rfl
  · rw [if_neg (by decide), if_pos (by decide)]
    simp
section
variable {p p1 p2 p3 : PS} {v w x one two least : Int} {d1 d2 d3 : Int ⊕ TD}
/-- A narrower cut of what was cut is that cut of the whole. -/
theorem ZD.less (hw : WfP p) (hr : ∀ t ∈ p.T, t.wf) (hv : Wd4 v) (hww : Wd4 w) (hlt : w < v) (h : ZD p.T v x d1) (hx : hasB p.T x = true) (h1 : resD p d1 = (p1, one, 0)) {d : Int ⊕ TD} (k : ZD p.T w x d) : ZD p1.T w one d := by
  have h64 : w ≠ 64 := by rcases hv with rfl | rfl | rfl | rfl <;> omega
  induction h with
  | all h =>
    injection h1 with e1 e2
    injection e2 with e2 _
    subst e1 e2
    exact k
  | @const a h k0 =>
    have hp : putP p (constT (cutV v (atP p.T a).n)) = p1 := (congrArg Prod.fst h1)
    have hn : putN p (constT (cutV v (atP p.T a).n)) = (one, 0) := (congrArg Prod.snd h1)
    have ha := put_at (p := p) (t := constT (cutV v (atP p.T a).n)) (by rw [hn])
    rw [hp, hn] at ha
    have hd : d = .inr (constT (cutV w (atP p.T a).n)) := k.fn (.const h64 k0)
    have := ZD.const (T := p1.T) (w := w) (a := one) h64 (by rw [ha.2]; rfl)
    rw [ha.2] at this
    have hu := (atP_wf hr a).2.2.2.1
    rw [show (constT (cutV v (atP p.T a).n)).n = cutV v (atP p.T a).n from rfl, cut_cut hv hww hu, Int.min_eq_right (by omega)] at this
    rw [hd]
    exact this
  | thin h k0 n0 =>
    injection h1 with e1 e2
    injection e2 with e2 _
    subst e1 e2
    exact k
  | @deep a d1 h k0 n0 r ih =>
    have hnw : narrowP p.T a w = false := by
      cases hq : narrowP p.T a w
      · rfl
      · rw [narrow_less hr hww hv (by omega) hq] at n0; cases n0
    refine ih (has_part hw hx k0).2.2 h1 ?_
    cases k with
    | all h' => exact absurd h' h64
    | const _ k' => omega
    | thin _ _ n' => rw [hnw] at n'; cases n'
    | deep _ _ _ r' => exact r'
    | put _ _ k' _ => exact absurd k0 k'
  | @put a h k0 k3 n0 =>
    have hp : putP p (zextT v a) = p1 := (congrArg Prod.fst h1)
    have hn : putN p (zextT v a) = (one, 0) := (congrArg Prod.snd h1)
    have ha := put_at (p := p) (t := zextT v a) (by rw [hn])
    rw [hp, hn] at ha
    have he : Ext p p1 := hp ▸ Ext.put p _
    refine .deep h64 (by rw [ha.2]; rfl) ?_ ?_
    · unfold narrowP
      rw [ha.2]
      dsimp only [zextT]
      rw [if_neg (by omega), if_neg (by decide), if_pos (by decide)]
      simp; omega
    · rw [ha.2]
      exact k.ext hw he hx
/-- What was cut is narrow. -/
theorem ZD.narrow (hw : WfP p) (hr : ∀ t ∈ p.T, t.wf) (hv : Wd4 v) (h : ZD p.T v x d1) (h1 : resD p d1 = (p1, one, 0)) : narrowP p1.T one v = true := by
  induction h with
  | all h => unfold narrowP; dsimp only; rw [if_pos (.inl h)]
  | @const a h k0 =>
    have hp : putP p (constT (cutV v (atP p.T a).n)) = p1 := (congrArg Prod.fst h1)
    have hn : putN p (constT (cutV v (atP p.T a).n)) = (one, 0) := (congrArg Prod.snd h1)
    have ha := put_at (p := p) (t := constT (cutV v (atP p.T a).n)) (by rw [hn])
    rw [hp, hn] at ha
    exact narrow_const hv (atP_wf hr a).2.2.2.1 ha.2
  | thin h k0 n0 =>
    injection h1 with e1 e2
    injection e2 with e2 _
    subst e1 e2
    exact n0
  | deep h k0 n0 r ih => exact ih h1
  | @put a h k0 k3 n0 =>
    have hp : putP p (zextT v a) = p1 := (congrArg Prod.fst h1)
    have hn : putN p (zextT v a) = (one, 0) := (congrArg Prod.snd h1)
    have ha := put_at (p := p) (t := zextT v a) (by rw [hn])
    rw [hp, hn] at ha
    exact narrow_zext ha.2
end
end Go.Proofs.Ytepagfkkjlbipaa
end
section
namespace Go.Proofs.Ytepagfkkjlbipaa
open Go.RowKit
set_option linter.unusedVariables false
set_option linter.unusedSimpArgs false
set_option maxRecDepth 100000
theorem okP_const (T : List TD) (n : Int) : okP T (constT n) = true := by
  unfold okP okF askT likeT clashB prtL constT
  simp
theorem okP_zext {p : PS} {w a : Int} (hw : Wd4 w) (h64 : w ≠ 64) (ha : hasB p.T a = true) : okP p.T (zextT w a) = true := by
  unfold okP okF askT likeT clashB prtL zextT
  simp [ha]
  unfold wdB
  rcases hw with rfl | rfl | rfl | rfl <;> simp at *
theorem ZD.err {p : PS} (hp : WfP p) {w a : Int} {d : Int ⊕ TD} (hw : Wd4 w) (h : ZD p.T w a d) (ha : hasB p.T a = true) : (resD p d).2.2 = 0 ∨ (resD p d).2.2 = 260 := by
  induction h with
  | all h => exact .inl rfl
  | const h k => exact put_errs (okP_const _ _)
  | thin h k n => exact .inl rfl
  | deep h k n r ih => exact ih (has_part hp ha k).2.2
  | put h k k3 n => exact put_errs (okP_zext hw h ha)
theorem zextO_some {p : PS} (hw : WfP p) (w a : Int) : ∃ r, zextO (a.toNat + 1) p w a = some r := by
  unfold zextO
  split
  · exact ⟨_, rfl⟩
  · exact zextF_some hw w _ a (by omega)
theorem zextO_good {p : PS} (hw : WfP p) (hr : ∀ t ∈ p.T, t.wf) {f : Nat} {w a : Int} {r : RS} (hx : I8 w) (h : zextO f p w a = some r) : Good p r := by
  unfold zextO at h
  split at h
  · injection h with h; subst h; exact Good.err hw hr 0 (by decide)
  · rename_i hz
    have hz : hasB p.T a = true ∧ wdB w = true := by simpa using hz
    exact zext_good f hw hr hx hz.1 h
theorem zextO_yes {p : PS} {f : Nat} {w a : Int} {r : RS} (ha : hasB p.T a = true) (hw : wdB w = true) (h : zextO f p w a = some r) : zextF f p w a = some r := by
  unfold zextO at h
  rw [if_neg (by rw [ha, hw]; simp)] at h
  exact h
end Go.Proofs.Ytepagfkkjlbipaa
end
section
namespace Go.Proofs.Ytepagfkkjlbipaa
open Go.RowKit
set_option linter.unusedVariables false
set_option linter.unusedSimpArgs false
set_option maxRecDepth 100000
theorem has_prt {p : PS} (hw : WfP p) {n k : Int} (hn : hasB p.T n = true) (hk : k ∈ prtL (atP p.T n)) : hasB p.T k = true := by
  have h := part_less hw hn hk
  unfold hasB at *
  simp at hn ⊢
  omega
theorem putR_again {p q : PS} (hq : WfP q) {t : TD} (h : (putR p t).2.2 = 0) (he : Ext (putR p t).1 q) : putR q t = (q, (putR p t).2.1, 0) := by
  have := put_again hq (p := p) (t := t) h he
  unfold putR
  rw [this.1, this.2]
theorem zext_again {q : PS} (hq : WfP q) : ∀ (f : Nat) {p : PS} (hw : WfP p) {w a : Int} {r : RS}, zextF f p w a = some r → r.2.2 = 0 → hasB p.T a = true → Ext p q → Ext r.1 q → zextF f q w a = some (q, r.2.1, 0)
  | 0, _, _, _, _, _, h, _, _, _, _ => by cases h
  | f + 1, p, hw, w, a, r, h, h0, ha, hpq, he => by
    rw [zextF_succ] at h ⊢
    have ea := hpq.at_ ha
    have en := narrow_ext hpq ha w
    rw [ea, en]
    split at h
    · rename_i h1; rw [if_pos h1]; injection h with h; subst h; rfl
    rename_i h1
    rw [if_neg h1]
    split at h
    · rename_i h2
      rw [if_pos h2]
      injection h with h
      subst h
      rw [putR_again hq h0 he]
    rename_i h2
    rw [if_neg h2]
    split at h
    · rename_i h3; rw [if_pos h3]; injection h with h; subst h; rfl
    rename_i h3
    rw [if_neg h3]
    split at h
    · rename_i h4
      rw [if_pos h4]
      exact zext_again hq f hw h h0 (has_part hw ha h4).2.2 hpq he
    · rename_i h4
      rw [if_neg h4]
      injection h with h
      subst h
      rw [putR_again hq h0 he]
theorem operand_again {p q : PS} (hq : WfP q) {x a : Int} (h0 : (operandP p x a).2.2 = 0) (ha : hasB p.T a = true) (hpq : Ext p q) (he : Ext (operandP p x a).1 q) : operandP q x a = (q, (operandP p x a).2.1, 0) := by
  have ea := hpq.at_ ha
  unfold operandP at h0 he ⊢
  dsimp only at h0 he ⊢
  rw [ea]
  by_cases h1 : (atP p.T a).kind = 0
  · rw [if_pos h1] at h0 he ⊢
    rw [if_pos h1]
    exact putR_again hq h0 he
  · rw [if_neg h1] at h0 he ⊢
    rw [if_neg h1]
    by_cases h2 : x = 32 ∧ (atP p.T a).kind = 3 ∧ (atP p.T a).w = 32
    · rw [if_pos h2, if_pos h2]
    · rw [if_neg h2, if_neg h2]
theorem both_again {p q : PS} (hw : WfP p) (hq : WfP q) {x a b : Int} (h0 : (bothP p x a b).2.2.2 = 0) (ha : hasB p.T a = true) (hb : hasB p.T b = true) (hpq : Ext p q) (he : Ext (bothP p x a b).1 q) : bothP q x a b = (q, (bothP p x a b).2.1, (bothP p x a b).2.2.1, 0) := by
  unfold bothP at h0 he ⊢
  dsimp only at h0 he ⊢
  by_cases h1 : (operandP p x a).2.2 = 0
  · rw [if_pos h1] at h0 he ⊢
    dsimp only at h0 he ⊢
    have e1 := operand_ext p x a
    have e2 := operand_ext (operandP p x a).1 x b
    have o1 := operand_again hq h1 ha hpq (e2.trans he)
    have o2 := operand_again hq h0 (e1.has hb) (e2.trans he) he
    rw [o1]
    dsimp only
    rw [if_pos rfl, o2]
  · rw [if_neg h1] at h0
    exact absurd h0 h1
theorem bind_again {p1 q : PS} {r s : RS} {k1 k2 : PS → Int → Option RS} (hq : WfP q) {t : TD} (h : bindR (putR p1 t) k1 = some s) (h0 : s.2.2 = 0) (hes : ∀ s, (putR p1 t).2.2 = 0 → k1 (putR p1 t).1 (putR p1 t).2.1 = some s → Ext (putR p1 t).1 s.1)
    (he : Ext s.1 q) (hk : ∀ s, (putR p1 t).2.2 = 0 → k1 (putR p1 t).1 (putR p1 t).2.1 = some s → s.2.2 = 0 → Ext s.1 q → k2 q (putR p1 t).2.1 = some (q, s.2.1, 0)) : bindR (putR p1 t) k1 = some s ∧ bindR (putR q t) k2 = some (q, s.2.1, 0) := by
  refine ⟨h, ?_⟩
  have h' := h
  unfold bindR at h'
  split at h'
  · rename_i hz
    have hx := hes s hz h'
    rw [putR_again hq hz (hx.trans he)]
    unfold bindR
    dsimp only
    rw [if_pos rfl]
    exact hk s hz h' h0 he
  · rename_i hz
    injection h' with h'
    subst h'
    exact absurd h0 hz
theorem assoc_ext {p q : PS} (hw : WfP p) (hpq : Ext p q) {a : Int} (ha : hasB p.T a = true) (op x : Int) (rt : Bool) : assocB q.T (atP p.T a) op x rt = assocB p.T (atP p.T a) op x rt := by
  unfold assocB
  by_cases hk : (atP p.T a).kind = 2
  · rw [hpq.at_ (has_prt hw ha (k := (atP p.T a).b) (by unfold prtL; rw [if_pos (.inl hk)]; simp))]
  · have : ((atP p.T a).kind == 2) = false := by simpa using hk
    rw [this]
    simp
set_option maxHeartbeats 1000000 in
theorem opL_good (f : Nat) {p1 : PS} (hw : WfP p1) (hr : ∀ t ∈ p1.T, t.wf) {op x a1 b1 : Int} (hI8 : I8 op ∧ I8 x) (ha : hasB p1.T a1 = true) (hb : hasB p1.T b1 = true) {r : RS} (h : opL (fun q o u v => opF f q o x u v) f p1 op x a1 b1 = some r) : Good p1 r := by
  have hc : ∀ {n : Int}, U64 n → Good p1 (putR p1 (constT n)) := fun hn => Good.put hw hr (constT_wf hn)
  have hsn := (atP_wf hr a1).2.2.2.1
  have hyn := (atP_wf hr b1).2.2.2.1
  have hrg : ∀ {q : PS} (h1 : WfP q) (h2 : ∀ t ∈ q.T, t.wf) {o u v : Int} {s : RS}, opF f q o x u v = some s → Good q s := fun {_} h1 h2 {_ _ _ _} hs => op_good f h1 h2 hs
  unfold opL at h
  dsimp only at h
  split at h
  · injection h with h; subst h; exact hc (cutV_u64 (doV_u64 (cutV_u64 hsn) (cutV_u64 hyn)))
  split at h
  · exact Good.bind (hc zero_u64) (fun _ s hs => hrg (hc zero_u64).wf (hc zero_u64).rng hs) h
  split at h
  · exact zext_good f hw hr hI8.2 hb h
  split at h
  · have hu : U64 (cutV x (IntKind.u64.wrap (-(atP p1.T b1).n))) := cutV_u64 (wrap_u64 _)
    exact Good.bind (hc hu) (fun _ s hs => hrg (hc hu).wf (hc hu).rng hs) h
  split at h
  · exact hrg hw hr h
  split at h
  · have hu : U64 (cutV x (IntKind.u64.wrap ((atP p1.T (atP p1.T a1).b).n + (atP p1.T b1).n))) := cutV_u64 (wrap_u64 _)
    exact Good.bind (hc hu) (fun _ s hs => hrg (hc hu).wf (hc hu).rng hs) h
  split at h
  · exact zext_good f hw hr hI8.2 ha h
  split at h
  · injection h with h; subst h; exact hc zero_u64
  split at h
  · injection h with h; subst h; exact hc zero_u64
  split at h
  · exact zext_good f hw hr hI8.2 ha h
  · injection h with h; subst h
    exact Good.put hw hr (opT_wf' hI8.1 hI8.2 (has_i64 hw ha) (has_i64 hw hb))
set_option maxHeartbeats 2000000 in
theorem op_again {q : PS} (hq : WfP q) : ∀ (f : Nat) {p : PS} (hw : WfP p) (hr : ∀ t ∈ p.T, t.wf) {op x a b : Int} {r : RS}, opF f p op x a b = some r → r.2.2 = 0 → Ext r.1 q → opF f q op x a b = some (q, r.2.1, 0)
  | 0, _, _, _, _, _, _, _, _, h, _, _ => by cases h
  | f + 1, p, hw, hr, op, x, a, b, r, h, h0, he => by
    have hpr : Ext p q := (op_good (f + 1) hw hr h).ext.trans he
    rw [opF_succ] at h ⊢
    split at h
    · injection h with h; subst h; cases h0
    rename_i hab
    have hab : hasB p.T a = true ∧ hasB p.T b = true := by simpa using hab
    rw [if_neg (by rw [hpr.has hab.1, hpr.has hab.2]; simp)]
    split at h
    · injection h with h; subst h; cases h0
    rename_i hd
    rw [if_neg hd]
    have hd := doOk_yes (op := op) (x := x) (by simpa using hd)
    have hI8 : I8 op ∧ I8 x := by unfold I8; omega
    have hw2 := both_wf hw hr (has_i64 hw hab.1) (has_i64 hw hab.2) x
    split at h
    · rename_i hz
      have hf := both_facts hw hr hab.1 hab.2 hz
      have hrec : ∀ {p2 : PS} (h1 : WfP p2) (h2 : ∀ t ∈ p2.T, t.wf) {o u v : Int} {s : RS}, opF f p2 o x u v = some s → s.2.2 = 0 → Ext s.1 q → opF f q o x u v = some (q, s.2.1, 0) := fun {_} h1 h2 {_ _ _ _} hs hs0 he => op_again hq f h1 h2 hs hs0 he
      have hext : Ext (bothP p x a b).1 r.1 := (opL_good f hw2.1 hw2.2 hI8 hf.1 hf.2.1 h).ext
      have hbq := hext.trans he
      have hba := both_again hw hq hz hab.1 hab.2 hpr hbq
      rw [hba]
      dsimp only
      rw [if_pos rfl]
      generalize bothP p x a b = z at h hf hw2 hbq hext
      obtain ⟨p1, a1, b1, e1⟩ := z
      dsimp only at h hf hw2 hbq ⊢
      have ea := hbq.at_ hf.1
      have eb := hbq.at_ hf.2.1
      have eas := assoc_ext hw2.1 hbq hf.1 op x ((atP p1.T b1).kind == 0)
      have hgc : ∀ {n : Int}, U64 n → Good p1 (putR p1 (constT n)) := fun hn => Good.put hw2.1 hw2.2 (constT_wf hn)
      have bnd : ∀ {o u : Int} {n : Int} (g : Int → Int × Int) {s : RS}, U64 n → bindR (putR p1 (constT n)) (fun q1 z => opF f q1 o x (g z).1 (g z).2) = some s → s.2.2 = 0 → Ext s.1 q → bindR (putR q (constT n)) (fun q1 z => opF f q1 o x (g z).1 (g z).2) = some (q, s.2.1, 0) := by
        intro o u n g s hn hs hs0 hse
        refine (bind_again (r := s) hq hs hs0 (fun s' hz' hk => (op_good f (hgc hn).wf (hgc hn).rng hk).ext) hse fun s' hz' hk hk0 hke => ?_).2
        exact hrec (hgc hn).wf (hgc hn).rng hk hk0 hke
      unfold opL at h ⊢
      dsimp only at h ⊢
      rw [ea, eb, eas]
      have hpu : ∀ {t : TD}, some (putR p1 t) = some r → some (putR q t) = some (q, r.2.1, 0) := by
        intro t ht
        injection ht with ht
        subst ht
        rw [putR_again hq h0 he]
      split at h
      · rename_i c1; rw [if_pos c1]; exact hpu h
      rename_i c1; rw [if_neg c1]
      split at h
      · rename_i c2; rw [if_pos c2]; exact bnd (u := 0) (fun z => (z, a1)) zero_u64 h h0 he
      rename_i c2; rw [if_neg c2]
      split at h
      · rename_i c3; rw [if_pos c3]; exact zext_again hq f hw2.1 h h0 hf.2.1 hbq he
      rename_i c3; rw [if_neg c3]
      split at h
      · rename_i c4; rw [if_pos c4]; exact bnd (u := 0) (fun z => (a1, z)) (cutV_u64 (wrap_u64 _)) h h0 he
      rename_i c4; rw [if_neg c4]
      split at h
      · rename_i c5; rw [if_pos c5]; exact hrec hw2.1 hw2.2 h h0 he
      rename_i c5; rw [if_neg c5]
      split at h
      · rename_i c6
        rw [if_pos c6]
        have hk2 : (atP p1.T a1).kind = 2 := by unfold assocB at c6; simp at c6; exact c6.2.2.2.1
        rw [hbq.at_ (has_prt hw2.1 hf.1 (k := (atP p1.T a1).b) (by unfold prtL; rw [if_pos (.inl hk2)]; simp))]
        exact bnd (u := 0) (fun z => ((atP p1.T a1).a, z)) (cutV_u64 (wrap_u64 _)) h h0 he
      rename_i c6; rw [if_neg c6]
      split at h
      · rename_i c7; rw [if_pos c7]; exact zext_again hq f hw2.1 h h0 hf.1 hbq he
      rename_i c7; rw [if_neg c7]
      split at h
      · rename_i c8; rw [if_pos c8]; exact hpu h
      rename_i c8; rw [if_neg c8]
      split at h
      · rename_i c9; rw [if_pos c9]; exact hpu h
      rename_i c9; rw [if_neg c9]
      split at h
      · rename_i c10; rw [if_pos c10]; exact zext_again hq f hw2.1 h h0 hf.1 hbq he
      rename_i c10; rw [if_neg c10]
      exact hpu h
    · rename_i hz
      injection h with h
      subst h
      exact absurd h0 hz
end Go.Proofs.Ytepagfkkjlbipaa
end
section
namespace Go.Proofs.Ytepagfkkjlbipaa
open Go.RowKit
set_option linter.unusedVariables false
set_option linter.unusedSimpArgs false
set_option maxRecDepth 100000
theorem and_cong {a b c : Bool} (h : a = true → b = c) : (a && b) = (a && c) := by
  cases a
  · rfl
  · rw [h rfl]
end Go.Proofs.Ytepagfkkjlbipaa
end
section
namespace Go.Proofs.Ytepagfkkjlbipaa
open Go.RowKit
set_option linter.unusedVariables false
set_option linter.unusedSimpArgs false
set_option maxRecDepth 100000
def E0 (r : RS) : Prop := r.2.2 = 0 ∨ r.2.2 = 260
theorem E0.same (p : PS) (n : Int) : E0 (p, n, 0) := .inl rfl
theorem E0.const (p : PS) (n : Int) : E0 (putR p (constT n)) := put_errs (okP_const _ _)
theorem E0.bind {r s : RS} {k : PS → Int → Option RS} (h : E0 r) (hk : r.2.2 = 0 → ∀ s, k r.1 r.2.1 = some s → E0 s) (hs : bindR r k = some s) : E0 s := by
  unfold bindR at hs
  split at hs
  · rename_i h0; exact hk h0 s hs
  · injection hs with hs
    subst hs
    exact h
theorem okP_op {p : PS} {op x a b : Int} (h : doOk op x = true) (ha : hasB p.T a = true) (hb : hasB p.T b = true) : okP p.T (opT op x a b) = true := by
  have hd := doOk_yes h
  unfold okP okF askT likeT clashB prtL opT
  simp [ha, hb]
  omega
end Go.Proofs.Ytepagfkkjlbipaa
end
