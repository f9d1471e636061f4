/-
  What is made lies in the pool, and the pool has only grown. Conditions: those written in each statement.
  What was put is there in every pool that has grown out of it; of two cuts the narrower one counts. Conditions: those written in each statement.
  NormZexts in plain words. Conditions: those written in each statement.
  What was made is made again, in any pool that has grown out of that one: nothing is new. Conditions: those written in each statement.
-/
import Derived.Test.YtepagfkkjlbipaaGreatKam
section
namespace Go.Proofs.YtepagfkkjlbipaaGreat
open Go.RowKit
set_option linter.unusedVariables false
set_option linter.unusedSimpArgs false
set_option maxRecDepth 100000
/-- A pool behind a making, and its number. -/
structure Good (p : PS) (r : RS) : Prop where
 ext : Ext p r.1
 wf : WfP r.1
 rng : ∀ t ∈ r.1.T, t.wf
 has : r.2.2 = 0 → hasB r.1.T r.2.1 = true
section
variable {p q : PS} {r s : RS}
theorem Good.err (hw : WfP p) (hr : ∀ t ∈ p.T, t.wf) (n : Int) {e : Int} (he : e ≠ 0) : Good p (p, n, e) := ⟨Ext.refl p, hw, hr, fun h => absurd h he⟩
theorem Good.same (hw : WfP p) (hr : ∀ t ∈ p.T, t.wf) {n : Int} (h : hasB p.T n = true) : Good p (p, n, 0) := ⟨Ext.refl p, hw, hr, fun _ => h⟩
theorem Good.put (hw : WfP p) (hr : ∀ t ∈ p.T, t.wf) {t : TD} (ht : t.wf) : Good p (putR p t) := ⟨Ext.put p t, (put_facts hw hr ht).1, (put_facts hw hr ht).2, fun h => (put_at h).1⟩
theorem Good.up (h : Ext p q) (k : Good q r) : Good p r := ⟨h.trans k.ext, k.wf, k.rng, k.has⟩
theorem Good.bind {k : PS → Int → Option RS} (h : Good p r) (hk : r.2.2 = 0 → ∀ s, k r.1 r.2.1 = some s → Good r.1 s) (hs : bindR r k = some s) : Good p s := by
 unfold bindR at hs
 split at hs
 ·rename_i h0; exact (hk h0 s hs).up h.ext
 ·rename_i h0
  injection hs with hs
  subst hs
  exact ⟨h.ext, h.wf, h.rng, fun e => absurd e h0⟩
end
theorem zext_good : ∀ (f : Nat) {p : PS} (hw : WfP p) (hr : ∀ t ∈ p.T, t.wf) {x a : Int} {r : RS} (hx : I8 x) (ha : hasB p.T a = true), zextF f p x a = some r → Good p r
 | 0, _, _, _, _, _, _, _, _, h => by cases h
 | f + 1, p, hw, hr, x, a, r, hx, ha, h => by
  rw [zextF_succ] at h
  split at h
  ·injection h with h; subst h; exact Good.same hw hr ha
  split at h
  ·injection h with h; subst h; exact Good.put hw hr (constT_wf (cutV_u64 (atP_wf hr a).2.2.2.1))
  split at h
  ·injection h with h; subst h; exact Good.same hw hr ha
  split at h
  ·rename_i h3; exact zext_good f hw hr hx (has_part hw ha h3).2.2 h
  ·injection h with h; subst h; exact Good.put hw hr (zextT_wf (has_i64 hw ha) hx)
theorem opT_wf' {op x a b : Int} (ho : I8 op) (hx : I8 x) (ha : I64 a) (hb : I64 b) : (opT op x a b).wf := by unfold TD.wf I8 U64 I64 opT; unfold I8 at ho hx; unfold I64 at ha hb; dsimp only; exact ⟨by omega, ho, hx, by omega, ha, hb, by omega⟩
theorem op_good : ∀ (f : Nat) {p : PS} (hw : WfP p) (hr : ∀ t ∈ p.T, t.wf) {op x a b : Int} {r : RS}, opF f p op x a b = some r → Good p r
 | 0, _, _, _, _, _, _, _, _, h => by cases h
 | f + 1, p, hw, hr, op, x, a, b, r, h => by
  rw [opF_succ] at h
  split at h
  ·injection h with h; subst h; exact Good.err hw hr 0 (by decide)
  rename_i hab
  have hab : hasB p.T a = true ∧ hasB p.T b = true := by simpa using hab
  split at h
  ·injection h with h; subst h; exact Good.err hw hr 0 (by decide)
  rename_i hd
  have hd := doOk_yes (op := op) (x := x) (by simpa using hd)
  have hI8 : I8 op ∧ I8 x := by unfold I8; omega
  have hw2 := both_wf hw hr (has_i64 hw hab.1) (has_i64 hw hab.2) x
  have he := both_ext p x a b
  split at h
  ·rename_i h0
   have hf := both_facts hw hr hab.1 hab.2 h0
   refine Good.up he ?_
   have hrec : ∀ {q : PS} (h1 : WfP q) (h2 : ∀ t ∈ q.T, t.wf) {o u v : Int} {s : RS}, opF f q o x u v = some s → Good q s := fun {_} h1 h2 {_ _ _ _} hs => op_good f h1 h2 hs
   generalize bothP p x a b = z at h hw2 hf
   obtain ⟨p1, a1, b1, e1⟩ := z
   dsimp only at h hw2 hf
   have hc : ∀ {n : Int}, U64 n → Good p1 (putR p1 (constT n)) := fun hn => Good.put hw2.1 hw2.2 (constT_wf hn)
   have hsn := (atP_wf hw2.2 a1).2.2.2.1
   have hyn := (atP_wf hw2.2 b1).2.2.2.1
   unfold opL at h
   dsimp only at h
   split at h
   ·injection h with h; subst h; exact hc (cutV_u64 (doV_u64 (cutV_u64 hsn) (cutV_u64 hyn)))
   split at h
   ·exact Good.bind (hc zero_u64) (fun _ s hs => hrec (hc zero_u64).wf (hc zero_u64).rng hs) h
   split at h
   ·exact zext_good f hw2.1 hw2.2 hI8.2 hf.2.1 h
   split at h
   ·have hu : U64 (cutV x (IntKind.u64.wrap (-(atP p1.T b1).n))) := cutV_u64 (wrap_u64 _)
    exact Good.bind (hc hu) (fun _ s hs => hrec (hc hu).wf (hc hu).rng hs) h
   split at h
   ·exact hrec hw2.1 hw2.2 h
   split at h
   ·have hu : U64 (cutV x (IntKind.u64.wrap ((atP p1.T (atP p1.T a1).b).n + (atP p1.T b1).n))) := cutV_u64 (wrap_u64 _)
    exact Good.bind (hc hu) (fun _ s hs => hrec (hc hu).wf (hc hu).rng hs) h
   split at h
   ·exact zext_good f hw2.1 hw2.2 hI8.2 hf.1 h
   split at h
   ·injection h with h; subst h; exact hc zero_u64
   split at h
   ·injection h with h; subst h; exact hc zero_u64
   split at h
   ·exact zext_good f hw2.1 hw2.2 hI8.2 hf.1 h
   ·injection h with h; subst h
    exact Good.put hw2.1 hw2.2 (opT_wf' hI8.1 hI8.2 (has_i64 hw2.1 hf.1) (has_i64 hw2.1 hf.2.1))
  ·rename_i h0
   injection h with h; subst h
   exact ⟨he, hw2.1, hw2.2, fun e => absurd e h0⟩
end Go.Proofs.YtepagfkkjlbipaaGreat
end
section
namespace Go.Proofs.YtepagfkkjlbipaaGreat
open Go.RowKit
set_option linter.unusedVariables false
set_option linter.unusedSimpArgs false
set_option maxRecDepth 100000
theorem has_ix {T : List TD} {n : Int} (h : hasB T n = true) : ∃ i : Nat, n = (i : Int) ∧ T[i]? = some (atP T n) := by
 obtain ⟨k, h1, h2⟩ := atP_yes h
 exact ⟨k, h1, h2⟩
/-- What putting a term that is well made may come to. -/
theorem put_errs {p : PS} {t : TD} (h : okP p.T t = true) : (putN p t).2 = 0 ∨ (putN p t).2 = 260 := by
 rcases putP_cases p t with ⟨_, q⟩ | ⟨_, _, _, _, _, q⟩
 ·rcases q with ⟨q, _⟩ | ⟨_, i, _, _, q⟩ | ⟨_, _, _, q⟩
  ·rw [h] at q; cases q
  ·rw [q]; exact .inl rfl
  ·rw [q]; exact .inr rfl
 ·rw [q]; exact .inl rfl
/-- What a cut comes to: a number that is there, or a term to put. -/
inductive ZD (T : List TD) (w : Int) : Int → (Int ⊕ TD) → Prop where
 | all {a : Int} (h : w = 64) : ZD T w a (.inl a)
 | const {a : Int} (h : w ≠ 64) (k : (atP T a).kind = 0) : ZD T w a (.inr (constT (cutV w (atP T a).n)))
 | thin {a : Int} (h : w ≠ 64) (k : (atP T a).kind ≠ 0) (n : narrowP T a w = true) : ZD T w a (.inl a)
 | deep {a : Int} {d : Int ⊕ TD} (h : w ≠ 64) (k : (atP T a).kind = 3) (n : narrowP T a w = false) (r : ZD T w (atP T a).a d) : ZD T w a d
 | put {a : Int} (h : w ≠ 64) (k : (atP T a).kind ≠ 0) (k3 : (atP T a).kind ≠ 3) (n : narrowP T a w = false) : ZD T w a (.inr (zextT w a))
def resD (p : PS) : Int ⊕ TD → RS
 | .inl n => (p, n, 0)
 | .inr t => putR p t
theorem ZD.fn {T : List TD} {w a : Int} {d e : Int ⊕ TD} (h : ZD T w a d) (k : ZD T w a e) : d = e := by
 induction h generalizing e with
 | all h => cases k <;> first | rfl | (exfalso; omega)
 | const h k0 =>
  cases k with
  | all h' => exact absurd h' h
  | const _ _ => rfl
  | thin _ k' _ => exact absurd k0 k'
  | deep _ k' _ _ => omega
  | put _ k' _ _ => exact absurd k0 k'
 | thin h k0 n0 =>
  cases k with
  | all h' => exact absurd h' h
  | const _ k' => exact absurd k' k0
  | thin _ _ _ => rfl
  | deep _ _ n' _ => rw [n0] at n'; cases n'
  | put _ _ _ n' => rw [n0] at n'; cases n'
 | deep h k0 n0 r ih =>
  cases k with
  | all h' => exact absurd h' h
  | const _ k' => omega
  | thin _ _ n' => rw [n0] at n'; cases n'
  | deep _ _ _ r' => exact ih r'
  | put _ _ k' _ => exact absurd k0 k'
 | put h k0 k3 n0 =>
  cases k with
  | all h' => exact absurd h' h
  | const _ k' => exact absurd k' k0
  | thin _ _ n' => rw [n0] at n'; cases n'
  | deep _ k' _ _ => exact absurd k' k3
  | put _ _ _ _ => rfl
theorem narrow_ext {p q : PS} (he : Ext p q) {a : Int} (ha : hasB p.T a = true) (w : Int) : narrowP q.T a w = narrowP p.T a w := by
 unfold narrowP
 rw [he.at_ ha]
theorem ZD.ext {p q : PS} (hw : WfP p) (he : Ext p q) {w a : Int} {d : Int ⊕ TD} (h : ZD p.T w a d) (ha : hasB p.T a = true) : ZD q.T w a d := by
 induction h with
 | all h => exact .all h
 | const h k =>
  have e := he.at_ ha
  rw [← e] at k ⊢
  exact .const h k
 | thin h k n => exact .thin h (by rw [he.at_ ha]; exact k) (by rw [narrow_ext he ha]; exact n)
 | @deep a d h k n r ih =>
  refine .deep h (by rw [he.at_ ha]; exact k) (by rw [narrow_ext he ha]; exact n) ?_
  rw [he.at_ ha]
  exact ih (has_part hw ha k).2.2
 | put h k k3 n => exact .put h (by rw [he.at_ ha]; exact k) (by rw [he.at_ ha]; exact k3) (by rw [narrow_ext he ha]; exact n)
/-- The widths. -/
def Wd4 (w : Int) : Prop := w = 8 ∨ w = 16 ∨ w = 32 ∨ w = 64
theorem cut_cut {v w n : Int} (hv : Wd4 v) (hw : Wd4 w) (hn : U64 n) : cutV w (cutV v n) = cutV (min v w) n := by
 unfold U64 at hn
 rcases hv with rfl | rfl | rfl | rfl <;> rcases hw with rfl | rfl | rfl | rfl <;> simp [cutV] <;> omega
theorem narrow_less {T : List TD} (hT : ∀ t ∈ T, t.wf) {a v w : Int} (hv : Wd4 v) (hw : Wd4 w) (hle : v ≤ w) (h : narrowP T a v = true) : narrowP T a w = true := by
 have hu := (atP_wf hT a).2.2.2.1
 unfold narrowP at h ⊢
 dsimp only at h ⊢
 by_cases h1 : w = 64 ∨ (atP T a).kind = 4
 ·rw [if_pos h1]
 rw [if_neg h1]
 have h1' : ¬ (v = 64 ∨ (atP T a).kind = 4) := by
  rintro (e | e)
  ·rcases hw with rfl | rfl | rfl | rfl <;> omega
  ·exact h1 (.inr e)
 rw [if_neg h1'] at h
 by_cases h2 : (atP T a).kind = 0
 ·rw [if_pos h2] at h ⊢
  simp at h ⊢
  have := cut_cut hv hw hu
  rw [← h, Int.min_eq_left hle] at this
  rw [this]
  exact h
 ·rw [if_neg h2] at h ⊢
  by_cases h3 : (atP T a).kind = 3 ∨ (atP T a).kind = 1
  ·rw [if_pos h3] at h ⊢
   simp at h ⊢
   omega
  ·rw [if_neg h3] at h ⊢
   simp at h ⊢
   refine ⟨h.1, h.2.1, ?_⟩
   have h64 : w ≠ 64 := fun e => h1 (.inl e)
   rcases hw with rfl | rfl | rfl | rfl <;> omega
theorem narrow_const {T : List TD} {a w n : Int} (hw : Wd4 w) (hn : U64 n) (h : atP T a = constT (cutV w n)) : narrowP T a w = true := by
 unfold narrowP
 rw [h]
 dsimp only [constT]
 split
 ·rfl
 ·rw [if_pos rfl]
  simp
  rw [cut_cut hw hw hn, Int.min_self]
theorem narrow_zext {T : List TD} {a w b : Int} (h : atP T a = zextT w b) : narrowP T a w = true := by
 unfold narrowP
 rw [h]
 dsimp only [zextT]
 split
 ·rfl
 ·rw [if_neg (by decide), if_pos (by decide)]
  simp
section
variable {p p1 p2 p3 : PS} {v w x one two least : Int} {d1 d2 d3 : Int ⊕ TD}
/-- A narrower cut of what was cut is that cut of the whole. -/
theorem ZD.less (hw : WfP p) (hr : ∀ t ∈ p.T, t.wf) (hv : Wd4 v) (hww : Wd4 w) (hlt : w < v) (h : ZD p.T v x d1) (hx : hasB p.T x = true) (h1 : resD p d1 = (p1, one, 0)) {d : Int ⊕ TD} (k : ZD p.T w x d) : ZD p1.T w one d := by
 have h64 : w ≠ 64 := by rcases hv with rfl | rfl | rfl | rfl <;> omega
 induction h with
 | all h =>
  injection h1 with e1 e2
  injection e2 with e2 _
  subst e1 e2
  exact k
 | @const a h k0 =>
  have hp : putP p (constT (cutV v (atP p.T a).n)) = p1 := (congrArg Prod.fst h1)
  have hn : putN p (constT (cutV v (atP p.T a).n)) = (one, 0) := (congrArg Prod.snd h1)
  have ha := put_at (p := p) (t := constT (cutV v (atP p.T a).n)) (by rw [hn])
  rw [hp, hn] at ha
  have hd : d = .inr (constT (cutV w (atP p.T a).n)) := k.fn (.const h64 k0)
  have := ZD.const (T := p1.T) (w := w) (a := one) h64 (by rw [ha.2]; rfl)
  rw [ha.2] at this
  have hu := (atP_wf hr a).2.2.2.1
  rw [show (constT (cutV v (atP p.T a).n)).n = cutV v (atP p.T a).n from rfl, cut_cut hv hww hu, Int.min_eq_right (by omega)] at this
  rw [hd]
  exact this
 | thin h k0 n0 =>
  injection h1 with e1 e2
  injection e2 with e2 _
  subst e1 e2
  exact k
 | @deep a d1 h k0 n0 r ih =>
  have hnw : narrowP p.T a w = false := by
   cases hq : narrowP p.T a w
   ·rfl
   ·rw [narrow_less hr hww hv (by omega) hq] at n0; cases n0
  refine ih (has_part hw hx k0).2.2 h1 ?_
  cases k with
  | all h' => exact absurd h' h64
  | const _ k' => omega
  | thin _ _ n' => rw [hnw] at n'; cases n'
  | deep _ _ _ r' => exact r'
  | put _ _ k' _ => exact absurd k0 k'
 | @put a h k0 k3 n0 =>
  have hp : putP p (zextT v a) = p1 := (congrArg Prod.fst h1)
  have hn : putN p (zextT v a) = (one, 0) := (congrArg Prod.snd h1)
  have ha := put_at (p := p) (t := zextT v a) (by rw [hn])
  rw [hp, hn] at ha
  have he : Ext p p1 := hp ▸ Ext.put p _
  refine .deep h64 (by rw [ha.2]; rfl) ?_ ?_
  ·unfold narrowP
   rw [ha.2]
   dsimp only [zextT]
   rw [if_neg (by omega), if_neg (by decide), if_pos (by decide)]
   simp; omega
  ·rw [ha.2]
   exact k.ext hw he hx
/-- What was cut is narrow. -/
theorem ZD.narrow (hw : WfP p) (hr : ∀ t ∈ p.T, t.wf) (hv : Wd4 v) (h : ZD p.T v x d1) (h1 : resD p d1 = (p1, one, 0)) : narrowP p1.T one v = true := by
 induction h with
 | all h => unfold narrowP; dsimp only; rw [if_pos (.inl h)]
 | @const a h k0 =>
  have hp : putP p (constT (cutV v (atP p.T a).n)) = p1 := (congrArg Prod.fst h1)
  have hn : putN p (constT (cutV v (atP p.T a).n)) = (one, 0) := (congrArg Prod.snd h1)
  have ha := put_at (p := p) (t := constT (cutV v (atP p.T a).n)) (by rw [hn])
  rw [hp, hn] at ha
  exact narrow_const hv (atP_wf hr a).2.2.2.1 ha.2
 | thin h k0 n0 =>
  injection h1 with e1 e2
  injection e2 with e2 _
  subst e1 e2
  exact n0
 | deep h k0 n0 r ih => exact ih h1
 | @put a h k0 k3 n0 =>
  have hp : putP p (zextT v a) = p1 := (congrArg Prod.fst h1)
  have hn : putN p (zextT v a) = (one, 0) := (congrArg Prod.snd h1)
  have ha := put_at (p := p) (t := zextT v a) (by rw [hn])
  rw [hp, hn] at ha
  exact narrow_zext ha.2
end
end Go.Proofs.YtepagfkkjlbipaaGreat
end
section
namespace Go.Proofs.YtepagfkkjlbipaaGreat
open Go.RowKit
set_option linter.unusedVariables false
set_option linter.unusedSimpArgs false
set_option maxRecDepth 100000
theorem okP_const (T : List TD) (n : Int) : okP T (constT n) = true := by
 unfold okP okF askT likeT clashB prtL constT
 simp
theorem okP_zext {p : PS} {w a : Int} (hw : Wd4 w) (h64 : w ≠ 64) (ha : hasB p.T a = true) : okP p.T (zextT w a) = true := by
 unfold okP okF askT likeT clashB prtL zextT
 simp [ha]
 unfold wdB
 rcases hw with rfl | rfl | rfl | rfl <;> simp at *
theorem ZD.err {p : PS} (hp : WfP p) {w a : Int} {d : Int ⊕ TD} (hw : Wd4 w) (h : ZD p.T w a d) (ha : hasB p.T a = true) : (resD p d).2.2 = 0 ∨ (resD p d).2.2 = 260 := by
 induction h with
 | all h => exact .inl rfl
 | const h k => exact put_errs (okP_const _ _)
 | thin h k n => exact .inl rfl
 | deep h k n r ih => exact ih (has_part hp ha k).2.2
 | put h k k3 n => exact put_errs (okP_zext hw h ha)
theorem zextO_some {p : PS} (hw : WfP p) (w a : Int) : ∃ r, zextO (a.toNat + 1) p w a = some r := by
 unfold zextO
 split
 ·exact ⟨_, rfl⟩
 ·exact zextF_some hw w _ a (by omega)
end Go.Proofs.YtepagfkkjlbipaaGreat
end
section
namespace Go.Proofs.YtepagfkkjlbipaaGreat
open Go.RowKit
set_option linter.unusedVariables false
set_option linter.unusedSimpArgs false
set_option maxRecDepth 100000
theorem has_prt {p : PS} (hw : WfP p) {n k : Int} (hn : hasB p.T n = true) (hk : k ∈ prtL (atP p.T n)) : hasB p.T k = true := by
 have h := part_less hw hn hk
 unfold hasB at *
 simp at hn ⊢
 omega
end Go.Proofs.YtepagfkkjlbipaaGreat
end
