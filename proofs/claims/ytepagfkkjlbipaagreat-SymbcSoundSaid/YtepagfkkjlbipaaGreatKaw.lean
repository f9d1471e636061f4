/-
  Parts of the proof of SymbcSound. Conditions: those written in each statement.
-/
import Derived.Test.YtepagfkkjlbipaaGreatKav
set_option linter.unusedVariables false
set_option linter.unusedSimpArgs false
set_option maxHeartbeats 64000000
set_option maxRecDepth 100000
namespace Go.Proofs.YtepagfkkjlbipaaGreat
open Tryz
section
open Go.RowKit
/-! ### depths -/
def dpP (p : PS) (n : Int) : Int := p.D.getD n.toNat 0
theorem dp_dmax {p : PS} (hw : WfP p) {n : Int} (hn : hasB p.T n = true) : dpP p n = dmax p.D (prtL (atP p.T n)) := by
 obtain ⟨i, rfl, hi⟩ := has_ix hn
 unfold dpP
 rw [List.getD_eq_getElem?_getD, show ((i : Int)).toNat = i by omega, hw.deep i _ hi]
 rfl
theorem dp_bd {p : PS} (hw : WfP p) {n : Int} (hn : hasB p.T n = true) : 1 ≤ dpP p n ∧ dpP p n ≤ 256 := by
 obtain ⟨i, rfl, hi⟩ := has_ix hn
 have hl : i < p.D.length := by rw [hw.len]; exact (List.getElem?_eq_some_iff.1 hi).1
 unfold dpP
 rw [List.getD_eq_getElem?_getD, show ((i : Int)).toNat = i by omega, List.getElem?_eq_getElem hl]
 exact hw.low _ (List.getElem_mem hl)
theorem dmax_le {D : List Int} {l : List Int} {d : Int} (hd : 1 ≤ d) (h : ∀ k ∈ l, D.getD k.toNat 0 + 1 ≤ d) : dmax D l ≤ d := by
 unfold dmax
 suffices H : ∀ (l : List Int) (a : Int), a ≤ d → (∀ k ∈ l, D.getD k.toNat 0 + 1 ≤ d) → l.foldl (fun d n => max d (D.getD n.toNat 0 + 1)) a ≤ d from H l 1 hd h
 intro l
 induction l with
 | nil => intro a ha _; exact ha
 | cons x r ih => intro a ha hl; exact ih _ (by have := hl x (by simp); show max a (D.getD x.toNat 0 + 1) ≤ d; omega) (fun k hk => hl k (by simp [hk]))
theorem le_dmax {D : List Int} {l : List Int} {k : Int} (hk : k ∈ l) : D.getD k.toNat 0 + 1 ≤ dmax D l := by
 unfold dmax
 suffices H : ∀ (l : List Int) (a : Int), k ∈ l → D.getD k.toNat 0 + 1 ≤ l.foldl (fun d n => max d (D.getD n.toNat 0 + 1)) a from H l 1 hk
 intro l
 induction l with
 | nil => intro a h; simp at h
 | cons x r ih =>
  intro a h
  rw [List.foldl_cons]
  rcases List.mem_cons.1 h with rfl | h
  ·exact Int.le_trans (Int.le_max_right _ _) (dmax_ge D r _)
  ·exact ih _ h
theorem dp_part {p : PS} (hw : WfP p) {n k : Int} (hn : hasB p.T n = true) (hk : k ∈ prtL (atP p.T n)) : dpP p k + 1 ≤ dpP p n := by
 rw [dp_dmax hw hn]
 exact le_dmax hk
theorem dmax_congr {D E : List Int} {l : List Int} (h : ∀ k ∈ l, D.getD k.toNat 0 = E.getD k.toNat 0) : dmax D l = dmax E l := by
 unfold dmax
 suffices H : ∀ (l : List Int) (a : Int), (∀ k ∈ l, D.getD k.toNat 0 = E.getD k.toNat 0) → l.foldl (fun d n => max d (D.getD n.toNat 0 + 1)) a = l.foldl (fun d n => max d (E.getD n.toNat 0 + 1)) a from H l 1 h
 intro l
 induction l with
 | nil => intro a _; rfl
 | cons x r ih => intro a hl; rw [List.foldl_cons, List.foldl_cons, hl x (by simp)]; exact ih _ (fun k hk => hl k (by simp [hk]))
theorem dp_ext {p q : PS} (hw : WfP p) (hq : WfP q) (he : Ext p q) : ∀ (N : Nat) (n : Int), n.toNat < N → hasB p.T n = true → dpP q n = dpP p n := by
 intro N
 induction N with
 | zero => intro n hn; omega
 | succ N ih =>
  intro n hn hb
  rw [dp_dmax hw hb, dp_dmax hq (he.has hb), he.at_ hb]
  refine dmax_congr fun k hk => ?_
  have hp := part_less hw hb hk
  exact ih k (by omega) (has_prt hw hb hk)
theorem Ext.dp {p q : PS} (he : Ext p q) (hw : WfP p) (hq : WfP q) {n : Int} (hb : hasB p.T n = true) : dpP q n = dpP p n := dp_ext hw hq he _ n (Nat.lt_succ_self _) hb
/-! ### what is put, within the limits -/
structure Fit (p : PS) (r : RS) (k : Nat) (d : Int) : Prop where
 err : r.2.2 = 0
 few : r.1.T.length ≤ p.T.length + k
 low : dpP r.1 r.2.1 ≤ d
theorem Fit.more {p : PS} {r : RS} {k m : Nat} {d e : Int} (h : Fit p r k d) (hk : k ≤ m) (hd : d ≤ e) : Fit p r m e := ⟨h.err, by have := h.few; omega, by have := h.low; omega⟩
theorem Fit.from {p q : PS} {r : RS} {j k : Nat} {d : Int} (hq : q.T.length ≤ p.T.length + j) (h : Fit q r k d) : Fit p r (j + k) d := ⟨h.err, by have := h.few; omega, h.low⟩
theorem put_fit {p : PS} (hw : WfP p) {t : TD} {d : Int} (hok : okP p.T t = true) (hl : p.T.length < 4000) (hd : 1 ≤ d ∧ d ≤ 256) (hp : ∀ k ∈ prtL t, dpP p k + 1 ≤ d) : Fit p (putR p t) 1 d := by
 have hm : dmax p.D (prtL t) ≤ d := dmax_le hd.1 hp
 rcases putP_cases p t with ⟨e, q⟩ | ⟨_, _, _, _, e, q⟩
 ·rcases q with ⟨q, _⟩ | ⟨_, i, hi, _, q⟩ | ⟨_, _, q, _⟩
  ·rw [hok] at q; cases q
  ·refine ⟨by show (putN p t).2 = 0; rw [q], by show (putP p t).T.length ≤ _; rw [e]; omega, ?_⟩
   show dpP (putP p t) (putN p t).1 ≤ d
   rw [e, q]
   unfold dpP
   rw [List.getD_eq_getElem?_getD, show ((i : Int)).toNat = i by omega, hw.deep i _ hi]
   exact hm
  ·omega
 ·refine ⟨by show (putN p t).2 = 0; rw [q], by show (putP p t).T.length ≤ _; rw [e]; simp, ?_⟩
  show dpP (putP p t) (putN p t).1 ≤ d
  rw [e, q]
  unfold dpP
  have : ((p.T.length : Int)).toNat = p.D.length := by rw [hw.len]; omega
  dsimp only
  rw [this, List.getD_eq_getElem?_getD]
  simpa using hm
theorem const_fit {p : PS} (hw : WfP p) (n : Int) (hl : p.T.length < 4000) : Fit p (putR p (constT n)) 1 1 := put_fit hw (okP_const _ _) hl (by omega) (fun k hk => by have : prtL (constT n) = [] := rfl; rw [this] at hk; cases hk)
theorem same_fit {p : PS} {n d : Int} (h : dpP p n ≤ d) : Fit p (p, n, 0) 0 d := ⟨rfl, Nat.le_refl _, h⟩
theorem zext_fit : ∀ (f : Nat) {p : PS} (hw : WfP p) {x a d : Int} {r : RS} (hx : Wd4 x) (ha : hasB p.T a = true) (hl : p.T.length < 4000) (hd : dpP p a + 1 ≤ d ∧ d ≤ 256), zextF f p x a = some r → Fit p r 1 d
 | 0, _, _, _, _, _, _, _, _, _, _, h => by cases h
 | f + 1, p, hw, x, a, d, r, hx, ha, hl, hd, h => by
  have hb := dp_bd hw ha
  rw [zextF_succ] at h
  split at h
  ·injection h with h; subst h; exact (same_fit (by omega)).more (by omega) (Int.le_refl _)
  split at h
  ·injection h with h; subst h; exact (const_fit hw _ hl).more (Nat.le_refl _) (by omega)
  split at h
  ·injection h with h; subst h; exact (same_fit (by omega)).more (by omega) (Int.le_refl _)
  rename_i h64 _ _
  split at h
  ·rename_i h3
   have hp := dp_part hw ha (k := (atP p.T a).a) (by unfold prtL; rw [if_neg (by omega), if_pos h3]; simp)
   exact zext_fit f hw hx (has_part hw ha h3).2.2 hl (by omega) h
  ·injection h with h; subst h
   exact put_fit hw (okP_zext hx h64 ha) hl (by omega) (fun k hk => by
    have : k = a := by unfold prtL at hk; simpa using hk
    subst this
    exact hd.1)
theorem operand_fit {p : PS} (hw : WfP p) {x a : Int} (ha : hasB p.T a = true) (hl : p.T.length < 4000) : Fit p (operandP p x a) 1 (dpP p a) := by
 have hb := dp_bd hw ha
 rcases operand_cases p x a with ⟨k, e⟩ | ⟨k, e⟩ | ⟨k, e⟩ <;> rw [e]
 ·exact (const_fit hw _ hl).more (Nat.le_refl _) hb.1
 ·have hp := dp_part hw ha (k := (atP p.T a).a) (by unfold prtL; rw [if_neg (by omega), if_pos k]; simp)
  exact (same_fit (by omega)).more (by omega) (Int.le_refl _)
 ·exact (same_fit (Int.le_refl _)).more (by omega) (Int.le_refl _)
theorem both_fit {p : PS} (hw : WfP p) (hr : ∀ t ∈ p.T, t.wf) {x a b : Int} (ha : hasB p.T a = true) (hb : hasB p.T b = true) (hl : p.T.length + 1 < 4000) :
  (bothP p x a b).2.2.2 = 0 ∧ (bothP p x a b).1.T.length ≤ p.T.length + 2 ∧ dpP (bothP p x a b).1 (bothP p x a b).2.1 ≤ dpP p a ∧ dpP (bothP p x a b).1 (bothP p x a b).2.2.1 ≤ dpP p b := by
 have h1 := operand_fit hw (x := x) ha (by omega)
 have w1 := operand_i64 hw hr (has_i64 hw ha) x
 have e1 := operand_ext p x a
 have hb1 := e1.has hb
 have h2 := operand_fit w1.2.1 (x := x) hb1 (by have := h1.few; omega)
 have w2 := operand_i64 w1.2.1 w1.2.2 (has_i64 w1.2.1 hb1) x
 have e2 := operand_ext (operandP p x a).1 x b
 have f1 := operand_facts hw ha h1.err
 have d1 := e2.dp w1.2.1 w2.2.1 f1.1
 have d2 := e1.dp hw w1.2.1 hb
 unfold bothP
 dsimp only
 rw [if_pos h1.err]
 dsimp only
 have := h1.few
 have := h2.few
 have := h1.low
 have := h2.low
 exact ⟨h2.err, by omega, by omega, by omega⟩
/-! ### sums of a sum and a constant -/
def addC (T : List TD) (x n : Int) : Bool := (atP T n).kind == 2 && ((atP T n).op == 0 && ((atP T n).w == x && (atP T (atP T n).b).kind == 0))
def strP (T : List TD) (x a : Int) : Int := if x = 32 ∧ (atP T a).kind = 3 ∧ (atP T a).w = 32 then (atP T a).a else a
def AA (p : PS) : Prop := ∀ n x : Int, hasB p.T n = true → addC p.T x n = true → addC p.T x (strP p.T x (atP p.T n).a) = false
theorem addC_ext {p q : PS} (hw : WfP p) (he : Ext p q) (x : Int) {n : Int} (hn : hasB p.T n = true) : addC q.T x n = addC p.T x n := by
 unfold addC
 rw [he.at_ hn]
 refine and_cong fun hk => ?_
 have hk : (atP p.T n).kind = 2 := by simpa using hk
 rw [he.at_ (has_prt hw hn (k := (atP p.T n).b) (by unfold prtL; rw [if_pos (.inl hk)]; simp))]
theorem str_has {p : PS} (hw : WfP p) (x : Int) {a : Int} (ha : hasB p.T a = true) : hasB p.T (strP p.T x a) = true := by
 unfold strP
 split
 ·rename_i h; exact (has_part hw ha h.2.1).2.2
 ·exact ha
theorem str_ext {p q : PS} (he : Ext p q) (x : Int) {a : Int} (ha : hasB p.T a = true) : strP q.T x a = strP p.T x a := by unfold strP; rw [he.at_ ha]
theorem AA.put {p : PS} (h : AA p) (hw : WfP p) {t : TD} (ht : okP p.T t = true → t.kind = 2 → t.op = 0 → (atP p.T t.b).kind = 0 → addC p.T t.w (strP p.T t.w t.a) = false) : AA (putP p t) := by
 intro n x hn hc
 rcases putP_cases p t with ⟨e, _⟩ | ⟨hok, _, _, _, e, _⟩
 ·rw [e] at hn hc ⊢; exact h n x hn hc
 ·have he : Ext p (putP p t) := Ext.put p t
  have hpart := (okP_parts hok).2.1
  cases hb : hasB p.T n
  ·have hn2 : n = (p.T.length : Int) := by
    rw [e] at hn
    unfold hasB at hn hb
    simp at hn hb
    omega
   have hat : atP (putP p t).T n = t := by
    unfold atP
    rw [if_pos hn, e, hn2]
    simp
   have hc' := hc
   unfold addC at hc
   rw [hat] at hc ⊢
   simp only [Bool.and_eq_true, beq_iff_eq] at hc
   obtain ⟨h2, h0, hx, hbk⟩ := hc
   have hm : ∀ k, k = t.a ∨ k = t.b → hasB p.T k = true := fun k hk => by
    have := hpart k (by unfold prtL; rw [if_pos (.inl h2)]; simpa using hk)
    unfold hasB
    simp
    omega
   rw [he.at_ (hm _ (.inr rfl))] at hbk
   have hA := hm _ (.inl rfl)
   rw [str_ext he x hA, addC_ext hw he x (str_has hw x hA), ← hx]
   exact ht hok h2 h0 hbk
  ·rw [addC_ext hw he x hb] at hc
   have hk : (atP p.T n).kind = 2 := by unfold addC at hc; simp at hc; exact hc.1
   have hA := has_prt hw hb (k := (atP p.T n).a) (by unfold prtL; rw [if_pos (.inl hk)]; simp)
   rw [he.at_ hb, str_ext he x hA, addC_ext hw he x (str_has hw x hA)]
   exact h n x hb hc
theorem AA.putR {p : PS} (h : AA p) (hw : WfP p) {t : TD} (ht : t.kind ≠ 2 ∨ t.op ≠ 0) : AA (putR p t).1 := h.put hw fun _ h2 h0 _ => by rcases ht with q | q <;> contradiction
theorem both_set {p : PS} (hw : WfP p) (hr : ∀ t ∈ p.T, t.wf) (hz : NZ p) {x a b : Int} (hx : x = 32 ∨ x = 64) (ha : hasB p.T a = true) (hb : hasB p.T b = true) (h0 : (bothP p x a b).2.2.2 = 0) :
  operandP (bothP p x a b).1 x (bothP p x a b).2.1 = ((bothP p x a b).1, (bothP p x a b).2.1, 0) ∧ operandP (bothP p x a b).1 x (bothP p x a b).2.2.1 = ((bothP p x a b).1, (bothP p x a b).2.2.1, 0) := by
 have hw2 := both_wf hw hr (has_i64 hw ha) (has_i64 hw hb) x
 have hz2 := both_nz (b := b) hz hw hr (has_i64 hw ha) x
 have he := both_ext p x a b
 have hba := both_again hw hw2.1 h0 ha hb he (Ext.refl _)
 have key : ∀ {q : PS} {u v : Int}, bothP q x a b = (q, u, v, 0) → operandP q x a = (q, u, 0) ∧ operandP q x b = (q, v, 0) := by
  intro q u v h
  unfold bothP at h
  dsimp only at h
  split at h
  ·rename_i h1
   have e1 : (operandP (operandP q x a).1 x b).1 = q := congrArg Prod.fst h
   have e2 : (operandP q x a).2.1 = u := congrArg (fun z => z.2.1) h
   have e3 : (operandP (operandP q x a).1 x b).2.1 = v := congrArg (fun z => z.2.2.1) h
   have e4 : (operandP (operandP q x a).1 x b).2.2 = 0 := congrArg (fun z => z.2.2.2) h
   have hq : (operandP q x a).1 = q := by
    obtain ⟨s, hs⟩ := operand_ext q x a
    obtain ⟨t, ht⟩ := operand_ext (operandP q x a).1 x b
    rcases operand_cases q x a with ⟨k, e⟩ | ⟨k, e⟩ | ⟨k, e⟩
    ·rw [e] at hs ht e1 ⊢
     rcases putP_cases q (constT (cutV x (atP q.T a).n)) with ⟨e', _⟩ | ⟨_, _, _, _, e', _⟩
     ·exact e'
     ·exfalso
      have e5 : (putR q (constT (cutV x (atP q.T a).n))).1 = putP q (constT (cutV x (atP q.T a).n)) := rfl
      rw [e1, e5, e'] at ht
      have := congrArg List.length ht
      simp at this
    ·rw [e]
    ·rw [e]
   rw [hq] at e1 e3 e4
   exact ⟨Prod.ext hq (Prod.ext e2 h1), Prod.ext e1 (Prod.ext e3 e4)⟩
  ·rename_i h1
   exact absurd (congrArg (fun z => z.2.2.2) h) h1
 obtain ⟨k1, k2⟩ := key hba
 exact ⟨operand_idem hw2.1 hw2.2 hz2 hx (he.has ha) k1, operand_idem hw2.1 hw2.2 hz2 hx (he.has hb) k2⟩
theorem set_str {q : PS} (hw : WfP q) {x a : Int} (ha : hasB q.T a = true) (h : operandP q x a = (q, a, 0)) : strP q.T x a = a := by
 unfold strP
 split
 ·rename_i hc
  have := has_part hw ha hc.2.1
  unfold operandP at h
  dsimp only at h
  rw [if_neg (by omega), if_pos hc] at h
  exact congrArg (fun z => z.2.1) h
 ·rfl
theorem assoc_addC {T : List TD} {s : TD} {a op x : Int} {rt : Bool} (hs : s = atP T a) (h : assocB T s op x rt = true) : op = 0 ∧ rt = true ∧ addC T x a = true := by
 subst hs
 unfold assocB at h
 simp only [Bool.and_eq_true, beq_iff_eq] at h
 unfold addC
 simp only [Bool.and_eq_true, beq_iff_eq]
 exact ⟨h.1, h.2.1, h.2.2.2.1, h.2.2.2.2.1, h.2.2.2.2.2, h.2.2.1⟩
end
section
open Go.RowKit
section
variable {base g b : Nat} {F G F1 G1 : Nat → Prop} {m : SM} {ex : ExD} {w w' : World} {es es' : Value} {q : List (EvD × Value)}
theorem MA.push (h : MA base g b F G m ex w) (hB : Blk w b 114 (mC g m.regs es ex m.err).toArray) (hown : w.ownsRow (b + 1) 72 6 es m.evs.length (q.flatMap evC)) (hq : q.map (·.1) = m.evs) (hqw : ∀ p ∈ q, p.1.wf ∧ NumsF w (Up G b) p.2 p.1.args) (hes : ∀ k, es.ownBlock = some k → G k ∧ ¬ F k ∧ k ≠ b)
  {x : EvD} {v : Value} (hx : x.wf) (hv : NumsF w (Up G b) v x.args) (hlt : m.evs.length < 64) (R : w'.ownsRow (b + 1) 72 6 es' (m.evs.length + 1) (q.flatMap evC ++ evC (x, v))) (Gr : w.grownBy w' es.ownBlock) (O : ∀ k, es'.ownBlock = some k → es.ownBlock = some k ∨ w.heap.size ≤ k) :
  MG base g b G w F (fun k => G k ∨ es'.ownBlock = some k) (m.event x) ex (w'.setCell ⟨b, 12, none⟩ es') := by
 have hcE : Chg (fun k => es.ownBlock = some k) w w' := Chg.of_grown Gr (fun k e => .inl e)
 have hcG : Chg G w w' := hcE.mono (fun k e => .inl (hes k e).1)
 have hbe : es.ownBlock ≠ some b := fun e => (hes b e).2.2 rfl
 have hB' := (hcE.blk hB hbe).set_ 12 es'
 rw [List.setIfInBounds_toArray, mC_setEs h.len] at hB'
 have hb12 : Chg (fun k => k = b) w' (w'.setCell ⟨b, 12, none⟩ es') := chg_setCell (b := b) rfl es' rfl
 have hbG : Chg G w' (w'.setCell ⟨b, 12, none⟩ es') := hb12.mono (fun k e => .inl (e ▸ h.nb.2))
 have hc : Chg G w (w'.setCell ⟨b, 12, none⟩ es') := hcG.trans hbG (fun k q => .inl q)
 have hne : ∀ k, es'.ownBlock = some k → k ≠ b := fun k e => by
  rintro rfl
  rcases O _ e with e2 | e2
  ·exact hbe e2
  ·have := h.lt; omega
 have hnG : ∀ k, es'.ownBlock = some k → G k ∨ w.heap.size ≤ k := fun k e => (O k e).elim (fun e2 => .inl (hes k e2).1) .inr
 have hUp : ∀ k, Up (fun k => G k ∨ es'.ownBlock = some k) b k → Up G b k ∨ w.heap.size ≤ k := fun k hk => hk.elim (fun hk => hk.elim (fun z => .inl (.inl z)) (fun z => (hnG k z).elim (fun z => .inl (.inl z)) .inr)) (fun z => .inl (.inr z))
 refine ⟨⟨?_, ⟨es', q ++ [(x, v)], hB', ?_, ?_, fun p hp => ?_, fun k e => ⟨.inr e, fun qf => ?_, hne k e⟩⟩, ⟨h.nb.1, .inl h.nb.2⟩, fun k qf => .inl (h.sub k qf), fun k hk => ?_, h.len, h.rng, ?_⟩, hc, fun k hk => hk.elim .inl (hnG k)⟩
 ·have h1 : PoolAt w' base F g m.p := h.pool.chg hcE (fun k qf e => (hes k e).2.1 qf)
  exact h1.chg hb12 (fun k qf e => h.nb.1 (e ▸ qf))
 ·have e1 : (m.event x).evs.length = m.evs.length + 1 := by unfold SM.event; simp
  have e2 : (q ++ [(x, v)]).flatMap evC = q.flatMap evC ++ evC (x, v) := by rw [List.flatMap_append]; simp
  rw [e1, e2]
  exact hb12.own R (fun k e => hne k e)
 ·rw [List.map_append, hq]
  rfl
 ·rcases List.mem_append.1 hp with hp | hp
  ·exact ⟨(hqw p hp).1, (hqw p hp).2.chg hc (fun k qg => .inl (.inl qg)) hUp⟩
  ·have hp : p = (x, v) := by simpa using hp
   subst hp
   exact ⟨hx, hv.chg hc (fun k qg => .inl (.inl qg)) hUp⟩
 ·rcases O k e with e2 | e2
  ·exact (hes k e2).2.1 qf
  ·have := h.low k (h.sub k qf); omega
 ·rcases hk with hk | hk
  ·have := h.low k hk
   have := hc.size
   omega
  ·have := own_ge R k hk
   have := h.low b h.nb.2
   simp
   omega
 ·unfold SM.event
  simp
  omega
theorem MA.exit (h : MA base g b F G m ex w) (ex' : ExD) (hB : ∀ es, Blk w b 114 (mC g m.regs es ex m.err).toArray → Blk w' b 114 (overC (mC g m.regs es ex m.err) 13 [.int .i8 ex'.kind, .int .i64 ex'.v, .int .i64 ex'.tgt, .int .i64 ex'.els]).toArray) (Gr : w.grownBy w' (some b)) :
  MG base g b G w F G m ex' w' := by
 obtain ⟨es, q, h1, h2, h3, h4, h5⟩ := h.box
 have hcb : Chg (fun k => k = b) w w' := Chg.of_grown Gr (fun k e => .inl (by injection e with e; exact e.symm))
 have hc : Chg G w w' := hcb.mono (fun k e => .inl (e ▸ h.nb.2))
 have hB' := hB es h1
 rw [mC_over h.len] at hB'
 exact ⟨⟨h.pool.chg hcb (fun k qf e => h.nb.1 (e ▸ qf)), ⟨es, q, hB', hcb.own h2 (fun k e => (h5 k e).2.2), h3, fun p hp => ⟨(h4 p hp).1, (h4 p hp).2.chg hc (fun c q => .inl (.inl q)) (fun c q => .inl q)⟩, h5⟩, h.nb, h.sub, fun k hk => ⟨(h.low k hk).1, Nat.lt_of_lt_of_le (h.low k hk).2 hc.size⟩, h.len, h.rng, h.few⟩, hc, fun k q => .inl q⟩
end
theorem StepE.store_at {P : Program} {ops : Array Oper} {Q : Exit → Act → World → Prop} {md : Region.Mode} {T S : World → Prop} {late : List Nat} {fuel : Nat} {listed : Array Bool} {a : Act} {w : World} (i : Nat) (ty : TypeId) (x y : Operand) (ad : Addr) (v : Value) (w1 : World) (ho : opAt ops i = some (none, .store ty x y)) (hw : wantAt ops i a = some true)
  (hx : a.eval x = .pointer (some ad)) (hy : a.eval y = v) (hr : (storeVar ty ad v).run P w = .ok () w1) (hS : St T S late (listed.setIfInBounds i true) w1) (h : wpAnyE P md ops Q T S late fuel (listed.setIfInBounds i true) (a.put none undef) w1) : StepE P md ops Q T S late fuel listed a w i :=
 StepE.skip i _ w1 ho hw (fun o e => by
  unfold execOp
  simp only [e, hx, hy, Instr.storeAt, Instr.sureAddr, Sem.run_bind, Sem.run_pure, Result.andThen_ok, hr]) hS h
end
section
open Go.RowKit
section
variable {base g b : Nat} {F G F1 G1 : Nat → Prop} {m : SM} {ex : ExD} {w : World}
theorem wrap_in {n : Int} (h : -9223372036854775808 ≤ n ∧ n < 9223372036854775808) : IntKind.i64.wrap n = n := by rw [IntKind.wrap_i64]; omega
theorem next_any (h : MA base g b F G m ex w) (x : Int) (hx : I8 x) : Calls prog 77 #[.pointer (some ⟨b, 0, none⟩), .int .i8 x] w (MRet base g b G ex w (m.next x)) := by
 obtain ⟨A, c, c12, hev⟩ := h.evs
 have hn := brT_le m.evs m.evs.length
 have hfew := h.few
 obtain ⟨n, hbn⟩ : ∃ n, bringsN m.evs = n := ⟨_, rfl⟩
 have hn64 : n ≤ 64 := by
  rw [← hbn, show bringsN m.evs = brT m.evs m.evs.length by unfold brT; rw [List.take_length]]
  omega
 have hb0 : base ≤ w.heap.size := Nat.le_trans (h.low b h.nb.2).1 (Nat.le_of_lt h.lt)
 obtain ⟨r, hr⟩ : ∃ r, putR m.p (varT (38 + 3 * (n : Int)) x) = r := ⟨_, rfl⟩
 have HV := Hd (fun (W : World) (F : Nat → Prop) (hW : PoolAt W base F g m.p) (hb : base ≤ W.heap.size) => by have := var_any (38 + 3 * (n : Int)) x (by omega) (by omega) hx W hW hb; rw [hr] at this; exact this)
 have HRN := Hd (show I64 r.2.1 by rw [← hr]; exact putN_i64 h.pool.wf _)
 have HNX := Hd (show m.next x = m.keep r by unfold SM.next; rw [hbn, hr])
 obtain ⟨rp, rn, re⟩ := r
 dsimp only at HV HRN
 have HM := Hd (MG.of_below h ((Below.refl _ _).drew))
 have HT := Hd (show MT b g m.regs w.drew from h.mt)
 have HS := Hd (show w.drew.cell? ⟨b, 12, none⟩ = some (.slice A m.evs.length c) from c12)
 have HEV := Hd (show EvsAt w.drew (fun _ => False) (.slice A m.evs.length c) m.evs from hev)
 have HFEW := Hd hfew
 have HBN := Hd hbn
 clear h hev hbn c12 hx hn hfew hr
 go_enter func77, ntmps77
 go_wp2
 refine wp_region_E (MT b g m.regs) (fun w' => w'.cell? ⟨b, 12, none⟩ = some (.slice A m.evs.length c)) [10, 14, 17] (by kernel_rfl) ?_
 generalize w.drew = Wd at HM HT HS HEV ⊢
 refine em 0 (.pointer (some ⟨b, 0, none⟩)) (bS HT HS) ?_
 refine em 1 (.pointer (some ⟨b, 0, none⟩)) (bS HT HS) ?_
 refine ez 2 ⟨b, 0, none⟩ (bS HT HS) ?_
 refine ef 3 ⟨b, 0, none⟩ ⟨b, 0, none⟩ (bS HT HS) ?_
 refine el false 4 ⟨b, 0, none⟩ (.pointer (some ⟨g, 0, none⟩)) underlying50 (fun w hS => hS.1.1) (bS HT HS) ?_
 refine em 5 (.pointer (some ⟨b, 0, none⟩)) (bS HT HS) ?_
 refine ez 6 ⟨b, 0, none⟩ (bS HT HS) ?_
 refine ef 7 ⟨b, 0, none⟩ ⟨b, 1, none⟩ (bS HT HS) ?_
 refine ef 8 ⟨b, 1, none⟩ ⟨b, 12, none⟩ (bS HT HS) ?_
 refine el true 9 ⟨b, 12, none⟩ (.slice A m.evs.length c) underlying61 (fun w hS => (hS.2 rfl)) (bS HT HS) ?_
 refine em 13 (.int .i8 x) (bS HT HS) ?_
 refine eo 10 fun o K h2 h3 hKK => ?_
 unfold Oper.wp execOp
 simp only [h3]
 go_simp
 refine (brings_any _ _ _ _ _ HEV.out HFEW.out).mono ?_
 rintro e wq ⟨rfl, hbq⟩
 replace HM := Hd (HM.out.step hbq)
 replace HT := Hd HM.out.at_.mt
 clear hbq HEV HS
 dsimp only
 refine hKK _ _ (.after HT.out (by kernel_rfl)) ?_
 clear hKK h2 h3 K o
 try simp only [pt, pn, sL]
 rw [HBN.out]
 refine eb 11 (.int .i64 (3 * (n : Int))) rfl (fun o e w _ => by unfold execOp; simp only [e]; go_simp; rw [wrap_in (by omega)]) (.after HT.out (by kernel_rfl)) ?_
 refine eb 12 (.int .i64 (38 + 3 * (n : Int))) rfl (fun o e w _ => by unfold execOp; simp only [e]; go_simp; rw [wrap_in (by omega)]) (.after HT.out (by kernel_rfl)) ?_
 refine eo 14 fun o K h2 h3 hKK => ?_
 unfold Oper.wp execOp
 simp only [h3]
 go_simp
 refine (HV.out _ _ HM.out.at_.pool (Nat.le_trans hb0 HM.out.size)).mono ?_
 rintro e wq ⟨rfl, Fq, hpq⟩
 replace HM := Hd (HM.out.trans (HM.out.at_.pg hpq))
 replace HT := Hd HM.out.at_.mt
 clear hpq
 dsimp only
 refine hKK _ _ (.after HT.out (by kernel_rfl)) ?_
 clear hKK h2 h3 K o
 try simp only [pt, pn, sL]
 refine eg 15 (.int .i64 rn) (.after HT.out (by kernel_rfl)) ?_
 refine eg 16 (.int .i64 re) (.after HT.out (by kernel_rfl)) ?_
 refine eo 17 fun o K h2 h3 hKK => ?_
 unfold Oper.wp execOp
 simp only [h3]
 go_simp
 refine (made_any HM.out.at_ (rn) (re) HRN.out).mono ?_
 rintro e wq ⟨rfl, _, Fq, Gq, hmq⟩
 replace HM := Hd (HM.out.trans hmq)
 replace HT := Hd HM.out.at_.mt
 clear hmq
 dsimp only
 refine hKK _ _ (.after HT.out (by kernel_rfl)) ?_
 clear hKK h2 h3 K o
 try simp only [pt, pn, sL]
 refine eS 18 (.int .i64 (rn)) (.after HT.out (by kernel_rfl)) ?_
 refine wpAnyE_done (by kernel_rfl) ?_ _
 go_wp2
 go_ret
 rw [HNX.out]
 exact ⟨rfl, HRN.out, _, _, HM.out⟩
theorem num_i64 (h : MA base g b F G m ex w) (n : Int) : I64 (m.num n).2 := putN_i64 h.pool.wf _
theorem num_wf (h : MA base g b F G m ex w) (n : Int) : WfP (m.num n).1.p ∧ ∀ t ∈ (m.num n).1.p.T, t.wf := put_facts h.pool.wf h.pool.rng (constT_wf (wrap_u64 n))
theorem place_any (h : MA base g b F G m ex w) (r off : Int) {d : Nat} (hr : r = (d : Int)) (hd : d < 11) (ho : I64 off) : Calls prog 76 #[.pointer (some ⟨b, 0, none⟩), .int .i8 r, .int .i64 off] w (MRet base g b G ex w (m.place r off)) := by
 have hb0 : base ≤ w.heap.size := Nat.le_trans (h.low b h.nb.2).1 (Nat.le_of_lt h.lt)
 have HRD := Hd hr
 have hri := h.reg_i64 hd
 have hrr : m.reg r = m.regs.getD d 0 := by unfold SM.reg; rw [hr, Int.toNat_natCast]
 clear hr
 obtain ⟨q, hq⟩ : ∃ q, m.num off = q := ⟨_, rfl⟩
 have HN := Hd (fun (W : World) (F G : Nat → Prop) (hW : MA base g b F G m ex W) => by have := num_any hW (off) ho; rw [hq] at this; exact this)
 have hqw : WfP q.1.p ∧ ∀ t ∈ q.1.p.T, t.wf := by rw [← hq]; exact num_wf h off
 have hqi : I64 q.2 := by rw [← hq]; exact num_i64 h off
 have HRQ := Hd (show q.1.regs = m.regs by rw [← hq]; rfl)
 obtain ⟨rs, hr⟩ : ∃ r, opV q.1.p 0 64 (m.regs.getD d 0) q.2 = r := ⟨_, rfl⟩
 have HO := Hd (fun (W : World) (F : Nat → Prop) (hW : PoolAt W base F g q.1.p) (hb : base ≤ W.heap.size) => by obtain ⟨f, hf⟩ := opV_some hW.wf hW.rng 0 64 (m.regs.getD d 0) q.2; rw [hr] at hf; exact op_all f 0 64 (m.regs.getD d 0) q.2 hri hqi F q.1.p rs hf W hW hb)
 have HON := Hd (show I64 rs.2.1 by rw [← hr]; exact opV_num hqw.1 hqw.2 _ _ _ _)
 have HNX := Hd (show m.place r off = q.1.keep rs by unfold SM.place; rw [hq, hrr, hr])
 obtain ⟨mq, nq⟩ := q
 obtain ⟨rp, rn, re⟩ := rs
 dsimp only at HN HRQ HO HON
 have HM := Hd (MG.of_below h ((Below.refl _ _).drew))
 have HT := Hd (show MT b g m.regs w.drew from h.mt)
 have HD := Hd hd
 clear h hd ho hq hr hqi hqw hri hrr
 go_enter func76, ntmps76
 go_wp2
 refine wp_region_E (fun _ => True) (MT b g m.regs) [] (by kernel_rfl) ?_
 generalize w.drew = Wd at HM HT ⊢
 refine em 0 (.pointer (some ⟨b, 0, none⟩)) (.both trivial HT.out) ?_
 refine em 1 (.pointer (some ⟨b, 0, none⟩)) (.both trivial HT.out) ?_
 refine ez 2 ⟨b, 0, none⟩ (.both trivial HT.out) ?_
 refine ef 3 ⟨b, 0, none⟩ ⟨b, 0, none⟩ (.both trivial HT.out) ?_
 refine el true 4 ⟨b, 0, none⟩ (.pointer (some ⟨g, 0, none⟩)) underlying50 (fun w hS => (hS.2 rfl).1) (.both trivial HT.out) ?_
 refine em 5 (.pointer (some ⟨b, 0, none⟩)) (.both trivial HT.out) ?_
 refine em 6 (.int .i8 r) (.both trivial HT.out) ?_
 refine ez 7 ⟨b, 0, none⟩ (.both trivial HT.out) ?_
 refine ef 8 ⟨b, 0, none⟩ ⟨b, 1, none⟩ (.both trivial HT.out) ?_
 refine ef 9 ⟨b, 1, none⟩ ⟨b, 1, none⟩ (.both trivial HT.out) ?_
 refine ej 10 (.pointer (some ⟨b, 1, none⟩)) (.int .i8 r) (.pointer (some ⟨b, 1 + d, none⟩)) (run_at11 b HRD.out HD.out) (.both trivial HT.out) ?_
 refine el true 11 ⟨b, 1 + d, none⟩ (.int .i64 (m.regs.getD d 0)) underlying3 (fun w hS => ((hS.2 rfl).2 d HD.out)) (.both trivial HT.out) ?_
 refine em 12 (.pointer (some ⟨b, 0, none⟩)) (.both trivial HT.out) ?_
 refine em 13 (.int .i64 off) (.both trivial HT.out) ?_
 refine eo 14 fun o K h2 h3 hKK => ?_
 unfold Oper.wp execOp
 simp only [h3]
 go_simp
 refine (HN.out _ _ _ HM.out.at_).mono ?_
 rintro e wq ⟨rfl, _, Fq, Gq, hmq⟩
 replace HM := Hd (HM.out.trans hmq)
 replace HT := Hd (show MT b g m.regs wq from HRQ.out ▸ HM.out.at_.mt)
 clear hmq
 dsimp only
 refine hKK _ _ (.both trivial HT.out) ?_
 clear hKK h2 h3 K o
 try simp only [pt, pn, sL]
 refine eo 15 fun o K h2 h3 hKK => ?_
 unfold Oper.wp execOp
 simp only [h3]
 go_simp
 refine (HO.out _ _ HM.out.at_.pool (Nat.le_trans hb0 HM.out.size)).mono ?_
 rintro e wq ⟨rfl, Fq, hpq⟩
 replace HM := Hd (HM.out.trans (HM.out.at_.pg hpq))
 replace HT := Hd (show MT b g m.regs wq from HRQ.out ▸ HM.out.at_.mt)
 clear hpq
 dsimp only
 refine hKK _ _ (.both trivial HT.out) ?_
 clear hKK h2 h3 K o
 try simp only [pt, pn, sL]
 refine eg 16 (.int .i64 rn) (.both trivial HT.out) ?_
 refine eg 17 (.int .i64 re) (.both trivial HT.out) ?_
 refine eo 18 fun o K h2 h3 hKK => ?_
 unfold Oper.wp execOp
 simp only [h3]
 go_simp
 refine (made_any HM.out.at_ (rn) (re) HON.out).mono ?_
 rintro e wq ⟨rfl, _, Fq, Gq, hmq⟩
 replace HM := Hd (HM.out.trans hmq)
 replace HT := Hd (show MT b g m.regs wq from HRQ.out ▸ HM.out.at_.mt)
 clear hmq
 dsimp only
 refine hKK _ _ (.both trivial HT.out) ?_
 clear hKK h2 h3 K o
 try simp only [pt, pn, sL]
 refine eS 19 (.int .i64 (rn)) (.both trivial HT.out) ?_
 refine wpAnyE_done (by kernel_rfl) ?_ _
 go_wp2
 go_ret
 rw [HNX.out]
 exact ⟨rfl, HON.out, _, _, HM.out⟩
end
end
section
open Go.RowKit
section
variable {base g b : Nat} {F G F1 G1 : Nat → Prop} {m : SM} {ex : ExD} {w : World}
theorem second_reg {m : SM} {x : ID} (h : x.byReg = true) : m.second x = (m, m.reg x.src) := by unfold SM.second; rw [if_pos h]
theorem second_imm {m : SM} {x : ID} (h : x.byReg = false) (h2 : ¬ (x.kind = 0 ∧ shiftsB x.op = true)) : m.second x = m.num x.imm := by unfold SM.second; rw [if_neg (by rw [h]; simp), if_neg h2]
theorem second_and {m : SM} {x : ID} (h : x.byReg = false) (h2 : x.kind = 0 ∧ shiftsB x.op = true) : m.second x = m.num (bits .and .i64 x.imm (x.width - 1)) := by unfold SM.second; rw [if_neg (by rw [h]; simp), if_pos h2]
theorem and_i64 (a b : Int) : I64 (bits .and .i64 a b) := by
 have h1 := bits_lo_i64 .and a b
 have h2 := bits_hi_i64 .and a b
 unfold I64
 omega
theorem second_any (h : MA base g b F G m ex w) (x : ID) (hx : x.wf) (hs : x.byReg = true → 0 ≤ x.src ∧ x.src ≤ 10) (hwd : -128 < x.width) :
  Calls prog 75 #[.pointer (some ⟨b, 0, none⟩), .agg x.cells.toArray] w (MRet base g b G ex w (m.second x)) := by
 obtain ⟨k, op, wd, sz, br, dst, src, off, imm⟩ := x
 show Calls prog 75 #[.pointer (some ⟨b, 0, none⟩), .agg #[.int .i8 k, .int .i8 op, .int .i8 wd, .int .i8 sz, .bool br, .int .i8 dst, .int .i8 src, .int .i64 off, .int .i64 imm]] w _
 dsimp only at hs hwd
 have hbl := (Below.refl w.heap.size w).alloc (Nat.le_refl _) (.cells #[.int .i8 k, .int .i8 op, .int .i8 wd, .int .i8 sz, .bool br, .int .i8 dst, .int .i8 src, .int .i64 off, .int .i64 imm] 47)
 have HM := Hd (MG.of_below h hbl)
 have HIM := Hd (show I64 imm from hx.2.2.2.2.2.2.2)
 have hwd2 : wd < 128 := hx.2.1.2 |> fun _ => hx.2.2.1.2
 have HX := Hd hx
 cases br
 ·have HN := Hd (show False → True from fun _ => trivial)
  clear h hx hbl hs
  have leaf : ∀ v : Int, I64 v → m.second ⟨k, op, wd, sz, false, dst, src, off, imm⟩ = m.num v → ∀ (w2 : World) (F2 G2 : Nat → Prop) (e : Ending), True := fun _ _ _ _ _ _ _ => trivial
  clear leaf HN
  cases hk : (k != 0)
  ·have hk0 : k = 0 := by simpa using hk
   cases h6 : (op == 6)
   ·cases h7 : (op == 7)
    ·cases h12 : (op == 12)
     ·have HNX := Hd (second_imm (m := m) (x := ⟨k, op, wd, sz, false, dst, src, off, imm⟩) rfl (fun q => by have := q.2; unfold shiftsB at this; dsimp only at this; rw [h6, h7, h12] at this; cases this))
      clear hk0
      go_enter func75, ntmps75
      go_wp2_with fail
      refine (num_any HM.out.at_ imm HIM.out).mono ?_
      rintro e w2 ⟨rfl, hi, F2, G2, hm2⟩
      have HM2 := Hd (HM.out.trans hm2)
      have HI := Hd hi
      clear hm2 hi
      go_wp2
      go_ret
      rw [HNX.out]
      exact ⟨rfl, HI.out, _, _, HM2.out⟩
     ·have HNX := Hd (second_and (m := m) (x := ⟨k, op, wd, sz, false, dst, src, off, imm⟩) rfl ⟨hk0, by unfold shiftsB; dsimp only; rw [h12]; simp⟩)
      clear hk0
      go_enter func75, ntmps75
      go_wp2_with fail
      refine (num_any HM.out.at_ (bits .and .i64 imm (wd - 1)) (and_i64 _ _)).mono ?_
      rintro e w2 ⟨rfl, hi, F2, G2, hm2⟩
      have HM2 := Hd (HM.out.trans hm2)
      have HI := Hd hi
      clear hm2 hi
      go_wp2
      go_ret
      rw [HNX.out]
      exact ⟨rfl, HI.out, _, _, HM2.out⟩
    ·have HNX := Hd (second_and (m := m) (x := ⟨k, op, wd, sz, false, dst, src, off, imm⟩) rfl ⟨hk0, by unfold shiftsB; dsimp only; rw [h7]; simp⟩)
     clear hk0
     go_enter func75, ntmps75
     go_wp2_with fail
     refine (num_any HM.out.at_ (bits .and .i64 imm (wd - 1)) (and_i64 _ _)).mono ?_
     rintro e w2 ⟨rfl, hi, F2, G2, hm2⟩
     have HM2 := Hd (HM.out.trans hm2)
     have HI := Hd hi
     clear hm2 hi
     go_wp2
     go_ret
     rw [HNX.out]
     exact ⟨rfl, HI.out, _, _, HM2.out⟩
   ·have HNX := Hd (second_and (m := m) (x := ⟨k, op, wd, sz, false, dst, src, off, imm⟩) rfl ⟨hk0, by unfold shiftsB; dsimp only; rw [h6]; simp⟩)
    clear hk0
    go_enter func75, ntmps75
    go_wp2_with fail
    refine (num_any HM.out.at_ (bits .and .i64 imm (wd - 1)) (and_i64 _ _)).mono ?_
    rintro e w2 ⟨rfl, hi, F2, G2, hm2⟩
    have HM2 := Hd (HM.out.trans hm2)
    have HI := Hd hi
    clear hm2 hi
    go_wp2
    go_ret
    rw [HNX.out]
    exact ⟨rfl, HI.out, _, _, HM2.out⟩
  ·have HNX := Hd (second_imm (m := m) (x := ⟨k, op, wd, sz, false, dst, src, off, imm⟩) rfl (fun q => by have := q.1; dsimp only at this; rw [this] at hk; cases hk))
   go_enter func75, ntmps75
   go_wp2_with fail
   refine (num_any HM.out.at_ imm HIM.out).mono ?_
   rintro e w2 ⟨rfl, hi, F2, G2, hm2⟩
   have HM2 := Hd (HM.out.trans hm2)
   have HI := Hd hi
   clear hm2 hi
   go_wp2
   go_ret
   rw [HNX.out]
   exact ⟨rfl, HI.out, _, _, HM2.out⟩
 ·have hsr := hs rfl
  obtain ⟨d, rfl⟩ : ∃ d : Nat, src = (d : Int) := ⟨src.toNat, by omega⟩
  have hd : d < 11 := by omega
  have HNX := Hd (second_reg (m := m) (x := ⟨k, op, wd, sz, true, dst, (d : Int), off, imm⟩) rfl)
  have cr := h.creg hd
  have hi := Hd (h.reg_i64 hd)
  have hbw := h.lt
  obtain ⟨rv, hrv⟩ : ∃ v, m.regs.getD d 0 = v := ⟨_, rfl⟩
  rw [hrv] at cr hi
  have HRV := Hd hrv
  clear h hx hbl hs hrv hsr
  go_enter func75, ntmps75
  go_upto_region 6 with fail
  go_region
  go_wp2
  go_ret
  rw [HNX.out]
  exact ⟨by unfold SM.reg; rw [show ((d : Int)).toNat = d by omega, HRV.out]; rfl, by unfold SM.reg; rw [show ((d : Int)).toNat = d by omega, HRV.out]; exact hi.out, _, _, HM.out.step ((Below.refl _ _).drew)⟩
end
end
section
open Go.RowKit
section
variable {base g b : Nat} {F G F1 G1 : Nat → Prop} {m : SM} {ex : ExD} {w : World}
def MEnd (base g b : Nat) (G : Nat → Prop) (ex : ExD) (w : World) (m : SM) (e : Ending) (w' : World) : Prop := e = .returned (.tuple #[]) ∧ ∃ F' G', MG base g b G w F' G' m ex w'
theorem infA : (prog.info? 72).map (fun i => (i.zero, i.size, i.bytes)) = some (some (.agg #[.int .i8 0, .int .i8 0, .int .i64 0, .int .i64 0, .int .i64 0, .slice none 0 0]), 6, 56) := by kernel_rfl
theorem sizE : (prog.info? 61).map (·.size) = some 1 := by kernel_rfl
theorem sizN : (prog.info? 3).map (·.size) = some 1 := by kernel_rfl
theorem own_cells {w : World} {base : Nat} {e : TypeId} {size n : Nat} {v : Value} {xs : List Value} (h : w.ownsRow base e size v n xs) : v.cells = #[v] := by
 rcases h.2 with ⟨rfl, _⟩ | ⟨g, cap, cur, rfl, _⟩ <;> rfl
theorem own_one {w : World} {base : Nat} {e : TypeId} {size n : Nat} {v : Value} {xs : List Value} (h : w.ownsRow base e size v n xs) : v.oneCell' = true := by
 rcases h.2 with ⟨rfl, _⟩ | ⟨g, cap, cur, rfl, _⟩ <;> rfl
theorem event_any (h : MA base g b F G m ex w) (x : EvD) (v : Value) (hv1 : v.oneCell' = true) (hx : x.wf) (hv : NumsF w (Up G b) v x.args) (hlt : m.evs.length < 64) : Calls prog 78 #[.pointer (some ⟨b, 0, none⟩), .agg (evC (x, v)).toArray] w (MEnd base g b G ex w (m.event x)) := by
 obtain ⟨iA, hiA, hzA, hsA, hbA⟩ := info_parts infA
 have IA := Hd (And.intro hiA (And.intro hzA (And.intro hsA hbA)))
 have hbl := ((Below.refl w.heap.size w).alloc (Nat.le_refl _) (.cells (evC (x, v)).toArray 72)).drew
 have HG := Hd (MG.of_below h hbl)
 have HT := Hd (show Blk (w.alloc (.cells (evC (x, v)).toArray 72)).drew w.heap.size 72 (evC (x, v)).toArray from Blk.new w 72 (evC (x, v)).toArray)
 have HV := Hd (hv.chg (G := Up G b) (Chg.of_below hbl) (fun k q => .inr q) (fun k q => .inl q))
 obtain ⟨bx, hbx⟩ : ∃ k, w.heap.size = k := ⟨_, rfl⟩
 have HLOW := Hd (fun (e : G bx) => by have := (h.low bx e).2; omega : ¬ G bx)
 have hb0 : base ≤ (w.alloc (.cells (evC (x, v)).toArray 72)).drew.heap.size := Nat.le_trans (h.low b h.nb.2).1 (Nat.le_of_lt (Nat.lt_of_lt_of_le h.lt hbl.size))
 have HV1 := Hd hv1
 have HX := Hd hx
 clear h hv hx hv1 hiA hzA hsA hbA hbl
 go_enter func78, ntmps78
 go_wp2
 obtain ⟨es, q, c12, hBm, hown, hq, hqw, hes⟩ := HG.out.at_.ces
 obtain ⟨A, c, rfl, hAc, _⟩ := ReadsF.of_own (F := fun _ => False) hown (fun _ _ q => q)
 refine wp_region_E (fun w' => Blk w' w.heap.size 72 (evC (x, v)).toArray) (fun w' => w'.cell? ⟨b, 12, none⟩ = some (.slice A m.evs.length c)) [12] (by kernel_rfl) ?_
 generalize (w.alloc (.cells (evC (x, v)).toArray 72)).drew = Wd at HG HT HV hb0 c12 hBm hown hqw ⊢
 rw [hbx] at HT ⊢
 have HS := Hd c12
 have HBM := Hd hBm
 have HO := Hd hown
 have HQ := Hd hq
 have HQW := Hd hqw
 have HES := Hd hes
 have HLT := Hd hlt
 clear c12 hBm hown hq hqw hes hlt hAc
 refine em 0 (.pointer (some ⟨b, 0, none⟩)) (bS HT HS) ?_
 refine em 1 (.pointer (some ⟨b, 0, none⟩)) (bS HT HS) ?_
 refine ez 2 ⟨b, 0, none⟩ (bS HT HS) ?_
 refine ef 3 ⟨b, 0, none⟩ ⟨b, 1, none⟩ (bS HT HS) ?_
 refine ef 4 ⟨b, 1, none⟩ ⟨b, 12, none⟩ (bS HT HS) ?_
 refine el true 5 ⟨b, 12, none⟩ (.slice A m.evs.length c) underlying61 (fun w hS => (hS.2 rfl)) (bS HT HS) ?_
 refine eL false 6 ⟨bx, 0, none⟩ (evC (x, v)) (fun w hS => blk_list hS.1) underlying72 sizA (bS HT HS) ?_
 refine E_one 7 (by kernel_rfl) (StepE.slice_one 7 (some 11) _ 72 _ iA _ (.agg (evC (x, v)).toArray) rfl (by rfl) underlying61 IA.out.1 IA.out.2.1 (by rw [IA.out.2.2.1]; decide) (by rw [IA.out.2.2.1]; decide) (by rfl) (by rw [IA.out.2.2.1]; rfl) ?_)
 intro wa ga hga Ba La
 have HBA := Hd Ba
 have HLA := Hd La
 replace HT := Hd (HT.out.below La HT.out.lt)
 replace HS := Hd ((La.cell (by exact HBM.out.lt)).trans HS.out)
 clear Ba La
 refine ⟨.both HT.out HS.out, ?_⟩
 simp only [pt, pn, sL]
 refine E_one 8 (by kernel_rfl) (StepE.append 8 (some 12) 61 72 _ _ (b + 1) iA _ 6 56 rfl (by rfl) underlying61 IA.out.1 IA.out.2.1 IA.out.2.2.1 IA.out.2.2.2 rfl (by omega) (.slice A m.evs.length c) m.evs.length (q.flatMap evC) (by rfl) (own_block HO.out (fun k hk => HLA.out.block k (own_ge HO.out k hk).2)) _ (some ⟨ga, 0, none⟩) 1 1 (evC (x, v)) (by rfl) (reads_blk HBA.out 1 6 rfl) (EvD.one HV1.out) (by have := HLT.out; unfold maxLen; omega) (by have := HLT.out; omega) (Nat.le_trans HG.out.at_.lt HLA.out.size) ?_)
 intro es2 wb R2 G2 O2
 have HR2 := Hd R2
 have HG2 := Hd ((only_of_below HLA.out (Value.ownBlock (.slice A m.evs.length c))).trans G2)
 have HO2 := Hd (fun k (hk : es2.ownBlock = some k) => (O2.elim (fun e => .inl (e ▸ hk)) (fun e => .inr (by rw [e] at hk; injection hk with hk; rw [← hk]; exact HLA.out.size)) : (Value.slice A m.evs.length c).ownBlock = some k ∨ Wd.heap.size ≤ k))
 replace HT := Hd (HT.out.grown G2 (fun e => HLOW.out (HES.out _ e.symm).1))
 replace HS := Hd ((World.cell?_of_block (a := ⟨b, 12, none⟩) (G2.block b (Nat.lt_of_lt_of_le HBM.out.lt HLA.out.size) (fun e => (HES.out _ e.symm).2.2 rfl))).trans HS.out)
 clear R2 G2 O2
 refine ⟨.both HT.out HS.out, ?_⟩
 simp only [pt, pn, sL]
 refine ez 9 ⟨b, 0, none⟩ (bS HT HS) ?_
 refine ef 10 ⟨b, 0, none⟩ ⟨b, 1, none⟩ (bS HT HS) ?_
 refine ef 11 ⟨b, 1, none⟩ ⟨b, 12, none⟩ (bS HT HS) ?_
 refine E_one 12 (by kernel_rfl) (StepE.store_at 12 61 _ _ ⟨b, 12, none⟩ es2 _ rfl (by rfl) (by rfl) (by rfl) (run_storeVar_one 61 b 12 114 _ _ (HBM.out.grown HG2.out (fun e => (HES.out _ e.symm).2.2 rfl)) (by rw [List.size_toArray, mC_len HG.out.at_.len]; decide) sizE (own_cells HR2.out) (own_one HR2.out)) (.after (HT.out.far (fun e => HLOW.out (e ▸ HG.out.at_.nb.2)) _) (by kernel_rfl)) ?_)
 simp only [pt, pn, sL]
 refine wpAnyE_done (by kernel_rfl) ?_ _
 go_end0
 exact ⟨rfl, _, _, HG.out.trans (HG.out.at_.push HBM.out HO.out HQ.out HQW.out HES.out HX.out HV.out HLT.out HR2.out HG2.out HO2.out)⟩
end
end
end Go.Proofs.YtepagfkkjlbipaaGreat
