/-
  How deep norm's terms are, how many it puts: within a pool that is not near its limits it refuses nothing. Conditions: those written in each statement.
  Steps in regions that draw their order, at the machine: an element of an array, the machine's registers as they lie. Conditions: those written in each statement.
  The machine writes an event, its exit. Conditions: those written in each statement.
-/
import Derived.Test.YtepagfkkjlbipaaLaf
import Derived.Test.YtepagfkkjlbipaaLaf
import Derived.Test.YtepagfkkjlbipaaLah
import Derived.Test.YtepagfkkjlbipaaKaf
section
namespace Go.Proofs.Ytepagfkkjlbipaa
open Go.RowKit
set_option linter.unusedVariables false
set_option linter.unusedSimpArgs false
set_option maxRecDepth 100000
/-! ### depths -/
def dpP (p : PS) (n : Int) : Int := p.D.getD n.toNat 0
theorem dp_dmax {p : PS} (hw : WfP p) {n : Int} (hn : hasB p.T n = true) : dpP p n = dmax p.D (prtL (atP p.T n)) := by
  obtain ⟨i, rfl, hi⟩ := has_ix hn
  unfold dpP
  rw [List.getD_eq_getElem?_getD, show ((i : Int)).toNat = i by omega, hw.deep i _ hi]
  rfl
theorem dp_bd {p : PS} (hw : WfP p) {n : Int} (hn : hasB p.T n = true) : 1 ≤ dpP p n ∧ dpP p n ≤ 256 := by
  obtain ⟨i, rfl, hi⟩ := has_ix hn
  have hl : i < p.D.length := by rw [hw.len]; exact (List.getElem?_eq_some_iff.1 hi).1
  unfold dpP
  rw [List.getD_eq_getElem?_getD, show ((i : Int)).toNat = i by omega, List.getElem?_eq_getElem hl]
  exact hw.low _ (List.getElem_mem hl)
theorem dmax_le {D : List Int} {l : List Int} {d : Int} (hd : 1 ≤ d) (h : ∀ k ∈ l, D.getD k.toNat 0 + 1 ≤ d) : dmax D l ≤ d := by
  unfold dmax
  suffices H : ∀ (l : List Int) (a : Int), a ≤ d → (∀ k ∈ l, D.getD k.toNat 0 + 1 ≤ d) → l.foldl (fun d n => max d (D.getD n.toNat 0 + 1)) a ≤ d from H l 1 hd h
  intro l
  induction l with
  | nil => intro a ha _; exact ha
  | cons x r ih => intro a ha hl; exact ih _ (by have := hl x (by simp); show max a (D.getD x.toNat 0 + 1) ≤ d; omega) (fun k hk => hl k (by simp [hk]))
theorem le_dmax {D : List Int} {l : List Int} {k : Int} (hk : k ∈ l) : D.getD k.toNat 0 + 1 ≤ dmax D l := by
  unfold dmax
  suffices H : ∀ (l : List Int) (a : Int), k ∈ l → D.getD k.toNat 0 + 1 ≤ l.foldl (fun d n => max d (D.getD n.toNat 0 + 1)) a from H l 1 hk
  intro l
  induction l with
  | nil => intro a h; simp at h
  | cons x r ih =>
    intro a h
    rw [List.foldl_cons]
    rcases List.mem_cons.1 h with rfl | h
    · exact Int.le_trans (Int.le_max_right _ _) (dmax_ge D r _)
    · exact ih _ h
theorem dp_part {p : PS} (hw : WfP p) {n k : Int} (hn : hasB p.T n = true) (hk : k ∈ prtL (atP p.T n)) : dpP p k + 1 ≤ dpP p n := by
  rw [dp_dmax hw hn]
  exact le_dmax hk
theorem dmax_congr {D E : List Int} {l : List Int} (h : ∀ k ∈ l, D.getD k.toNat 0 = E.getD k.toNat 0) : dmax D l = dmax E l := by
  unfold dmax
  suffices H : ∀ (l : List Int) (a : Int), (∀ k ∈ l, D.getD k.toNat 0 = E.getD k.toNat 0) → l.foldl (fun d n => max d (D.getD n.toNat 0 + 1)) a = l.foldl (fun d n => max d (E.getD n.toNat 0 + 1)) a from H l 1 h
  intro l
  induction l with
  | nil => intro a _; rfl
  | cons x r ih => intro a hl; rw [List.foldl_cons, List.foldl_cons, hl x (by simp)]; exact ih _ (fun k hk => hl k (by simp [hk]))
theorem dp_ext {p q : PS} (hw : WfP p) (hq : WfP q) (he : Ext p q) : ∀ (N : Nat) (n : Int), n.toNat < N → hasB p.T n = true → dpP q n = dpP p n := by
  intro N
  induction N with
  | zero => intro n hn; omega
  | succ N ih =>
    intro n hn hb
    rw [dp_dmax hw hb, dp_dmax hq (he.has hb), he.at_ hb]
    refine dmax_congr fun k hk => ?_
    have hp := part_less hw hb hk
    exact ih k (by omega) (has_prt hw hb hk)
theorem Ext.dp {p q : PS} (he : Ext p q) (hw : WfP p) (hq : WfP q) {n : Int} (hb : hasB p.T n = true) : dpP q n = dpP p n := dp_ext hw hq he _ n (Nat.lt_succ_self _) hb
/-! ### what is put, within the limits -/
structure Fit (p : PS) (r : RS) (k : Nat) (d : Int) : Prop where
  err : r.2.2 = 0
  few : r.1.T.length ≤ p.T.length + k
  low : dpP r.1 r.2.1 ≤ d
theorem Fit.more {p : PS} {r : RS} {k m : Nat} {d e : Int} (h : Fit p r k d) (hk : k ≤ m) (hd : d ≤ e) : Fit p r m e := ⟨h.err, by have := h.few; omega, by have := h.low; omega⟩
theorem Fit.from {p q : PS} {r : RS} {j k : Nat} {d : Int} (hq : q.T.length ≤ p.T.length + j) (h : Fit q r k d) : Fit p r (j + k) d := ⟨h.err, by have := h.few; omega, h.low⟩
theorem put_fit {p : PS} (hw : WfP p) {t : TD} {d : Int} (hok : okP p.T t = true) (hl : p.T.length < 4000) (hd : 1 ≤ d ∧ d ≤ 256) (hp : ∀ k ∈ prtL t, dpP p k + 1 ≤ d) : Fit p (putR p t) 1 d := by
  have hm : dmax p.D (prtL t) ≤ d := dmax_le hd.1 hp
  rcases putP_cases p t with ⟨e, q⟩ | ⟨_, _, _, _, e, q⟩
  · rcases q with ⟨q, _⟩ | ⟨_, i, hi, _, q⟩ | ⟨_, _, q, _⟩
    · rw [hok] at q; cases q
    · refine ⟨by show (putN p t).2 = 0; rw [q], by show (putP p t).T.length ≤ _; rw [e]; omega, ?_⟩
      show dpP (putP p t) (putN p t).1 ≤ d
      rw [e, q]
      unfold dpP
      rw [List.getD_eq_getElem?_getD, show ((i : Int)).toNat = i by omega, hw.deep i _ hi]
      exact hm
    · omega
  · refine ⟨by show (putN p t).2 = 0; rw [q], by show (putP p t).T.length ≤ _; rw [e]; simp, ?_⟩
    show dpP (putP p t) (putN p t).1 ≤ d
    rw [e, q]
    unfold dpP
    have : ((p.T.length : Int)).toNat = p.D.length := by rw [hw.len]; omega
    dsimp only
    rw [this, List.getD_eq_getElem?_getD]
    simpa using hm
theorem const_fit {p : PS} (hw : WfP p) (n : Int) (hl : p.T.length < 4000) : Fit p (putR p (constT n)) 1 1 := put_fit hw (okP_const _ _) hl (by omega) (fun k hk => by have : prtL (constT n) = [] := rfl; rw [this] at hk; cases hk)
theorem same_fit {p : PS} {n d : Int} (h : dpP p n ≤ d) : Fit p (p, n, 0) 0 d := ⟨rfl, Nat.le_refl _, h⟩
theorem zext_fit : ∀ (f : Nat) {p : PS} (hw : WfP p) {x a d : Int} {r : RS} (hx : Wd4 x) (ha : hasB p.T a = true) (hl : p.T.length < 4000) (hd : dpP p a + 1 ≤ d ∧ d ≤ 256), zextF f p x a = some r → Fit p r 1 d
  | 0, _, _, _, _, _, _, _, _, _, _, h => by cases h
  | f + 1, p, hw, x, a, d, r, hx, ha, hl, hd, h => by
    have hb := dp_bd hw ha
    rw [zextF_succ] at h
    split at h
    · injection h with h; subst h; exact (same_fit (by omega)).more (by omega) (Int.le_refl _)
    split at h
    · injection h with h; subst h; exact (const_fit hw _ hl).more (Nat.le_refl _) (by omega)
    split at h
    · injection h with h; subst h; exact (same_fit (by omega)).more (by omega) (Int.le_refl _)
    rename_i h64 _ _
    split at h
    · rename_i h3
      have hp := dp_part hw ha (k := (atP p.T a).a) (by unfold prtL; rw [if_neg (by omega), if_pos h3]; simp)
      exact zext_fit f hw hx (has_part hw ha h3).2.2 hl (by omega) h
    · injection h with h; subst h
      exact put_fit hw (okP_zext hx h64 ha) hl (by omega) (fun k hk => by
        have : k = a := by unfold prtL at hk; simpa using hk
        subst this
        exact hd.1)
theorem operand_fit {p : PS} (hw : WfP p) {x a : Int} (ha : hasB p.T a = true) (hl : p.T.length < 4000) : Fit p (operandP p x a) 1 (dpP p a) := by
  have hb := dp_bd hw ha
  rcases operand_cases p x a with ⟨k, e⟩ | ⟨k, e⟩ | ⟨k, e⟩ <;> rw [e]
  · exact (const_fit hw _ hl).more (Nat.le_refl _) hb.1
  · have hp := dp_part hw ha (k := (atP p.T a).a) (by unfold prtL; rw [if_neg (by omega), if_pos k]; simp)
    exact (same_fit (by omega)).more (by omega) (Int.le_refl _)
  · exact (same_fit (Int.le_refl _)).more (by omega) (Int.le_refl _)
/-- Both operands, within the limits. -/
theorem both_fit {p : PS} (hw : WfP p) (hr : ∀ t ∈ p.T, t.wf) {x a b : Int} (ha : hasB p.T a = true) (hb : hasB p.T b = true) (hl : p.T.length + 1 < 4000) :
    (bothP p x a b).2.2.2 = 0 ∧ (bothP p x a b).1.T.length ≤ p.T.length + 2 ∧ dpP (bothP p x a b).1 (bothP p x a b).2.1 ≤ dpP p a ∧ dpP (bothP p x a b).1 (bothP p x a b).2.2.1 ≤ dpP p b := by
  have h1 := operand_fit hw (x := x) ha (by omega)
  have w1 := operand_i64 hw hr (has_i64 hw ha) x
  have e1 := operand_ext p x a
  have hb1 := e1.has hb
  have h2 := operand_fit w1.2.1 (x := x) hb1 (by have := h1.few; omega)
  have w2 := operand_i64 w1.2.1 w1.2.2 (has_i64 w1.2.1 hb1) x
  have e2 := operand_ext (operandP p x a).1 x b
  have f1 := operand_facts hw ha h1.err
  have d1 := e2.dp w1.2.1 w2.2.1 f1.1
  have d2 := e1.dp hw w1.2.1 hb
  unfold bothP
  dsimp only
  rw [if_pos h1.err]
  dsimp only
  have := h1.few
  have := h2.few
  have := h1.low
  have := h2.low
  exact ⟨h2.err, by omega, by omega, by omega⟩
/-! ### sums of a sum and a constant -/
def addC (T : List TD) (x n : Int) : Bool := (atP T n).kind == 2 && ((atP T n).op == 0 && ((atP T n).w == x && (atP T (atP T n).b).kind == 0))
def strP (T : List TD) (x a : Int) : Int := if x = 32 ∧ (atP T a).kind = 3 ∧ (atP T a).w = 32 then (atP T a).a else a
/-- No sum with a constant is one of a sum with a constant. -/
def AA (p : PS) : Prop := ∀ n x : Int, hasB p.T n = true → addC p.T x n = true → addC p.T x (strP p.T x (atP p.T n).a) = false
theorem addC_ext {p q : PS} (hw : WfP p) (he : Ext p q) (x : Int) {n : Int} (hn : hasB p.T n = true) : addC q.T x n = addC p.T x n := by
  unfold addC
  rw [he.at_ hn]
  refine and_cong fun hk => ?_
  have hk : (atP p.T n).kind = 2 := by simpa using hk
  rw [he.at_ (has_prt hw hn (k := (atP p.T n).b) (by unfold prtL; rw [if_pos (.inl hk)]; simp))]
theorem str_has {p : PS} (hw : WfP p) (x : Int) {a : Int} (ha : hasB p.T a = true) : hasB p.T (strP p.T x a) = true := by
  unfold strP
  split
  · rename_i h; exact (has_part hw ha h.2.1).2.2
  · exact ha
theorem str_ext {p q : PS} (he : Ext p q) (x : Int) {a : Int} (ha : hasB p.T a = true) : strP q.T x a = strP p.T x a := by unfold strP; rw [he.at_ ha]
theorem AA.nil : AA ⟨[], []⟩ := fun n x hn => by unfold hasB at hn; simp at hn; omega
theorem AA.put {p : PS} (h : AA p) (hw : WfP p) {t : TD} (ht : okP p.T t = true → t.kind = 2 → t.op = 0 → (atP p.T t.b).kind = 0 → addC p.T t.w (strP p.T t.w t.a) = false) : AA (putP p t) := by
  intro n x hn hc
  rcases putP_cases p t with ⟨e, _⟩ | ⟨hok, _, _, _, e, _⟩
  · rw [e] at hn hc ⊢; exact h n x hn hc
  · have he : Ext p (putP p t) := Ext.put p t
    have hpart := (okP_parts hok).2.1
    cases hb : hasB p.T n
    · have hn2 : n = (p.T.length : Int) := by
        rw [e] at hn
        unfold hasB at hn hb
        simp at hn hb
        omega
      have hat : atP (putP p t).T n = t := by
        unfold atP
        rw [if_pos hn, e, hn2]
        simp
      have hc' := hc
      unfold addC at hc
      rw [hat] at hc ⊢
      simp only [Bool.and_eq_true, beq_iff_eq] at hc
      obtain ⟨h2, h0, hx, hbk⟩ := hc
      have hm : ∀ k, k = t.a ∨ k = t.b → hasB p.T k = true := fun k hk => by
        have := hpart k (by unfold prtL; rw [if_pos (.inl h2)]; simpa using hk)
        unfold hasB
        simp
        omega
      rw [he.at_ (hm _ (.inr rfl))] at hbk
      have hA := hm _ (.inl rfl)
      rw [str_ext he x hA, addC_ext hw he x (str_has hw x hA), ← hx]
      exact ht hok h2 h0 hbk
    · rw [addC_ext hw he x hb] at hc
      have hk : (atP p.T n).kind = 2 := by unfold addC at hc; simp at hc; exact hc.1
      have hA := has_prt hw hb (k := (atP p.T n).a) (by unfold prtL; rw [if_pos (.inl hk)]; simp)
      rw [he.at_ hb, str_ext he x hA, addC_ext hw he x (str_has hw x hA)]
      exact h n x hb hc
theorem AA.putR {p : PS} (h : AA p) (hw : WfP p) {t : TD} (ht : t.kind ≠ 2 ∨ t.op ≠ 0) : AA (putR p t).1 := h.put hw fun _ h2 h0 _ => by rcases ht with q | q <;> contradiction
/-- An operand that stands as it should stays. -/
theorem both_set {p : PS} (hw : WfP p) (hr : ∀ t ∈ p.T, t.wf) (hz : NZ p) {x a b : Int} (hx : x = 32 ∨ x = 64) (ha : hasB p.T a = true) (hb : hasB p.T b = true) (h0 : (bothP p x a b).2.2.2 = 0) :
    operandP (bothP p x a b).1 x (bothP p x a b).2.1 = ((bothP p x a b).1, (bothP p x a b).2.1, 0) ∧ operandP (bothP p x a b).1 x (bothP p x a b).2.2.1 = ((bothP p x a b).1, (bothP p x a b).2.2.1, 0) := by
  have hw2 := both_wf hw hr (has_i64 hw ha) (has_i64 hw hb) x
  have hz2 := both_nz (b := b) hz hw hr (has_i64 hw ha) x
  have he := both_ext p x a b
  have hba := both_again hw hw2.1 h0 ha hb he (Ext.refl _)
  have key : ∀ {q : PS} {u v : Int}, bothP q x a b = (q, u, v, 0) → operandP q x a = (q, u, 0) ∧ operandP q x b = (q, v, 0) := by
    intro q u v h
    unfold bothP at h
    dsimp only at h
    split at h
    · rename_i h1
      have e1 : (operandP (operandP q x a).1 x b).1 = q := congrArg Prod.fst h
      have e2 : (operandP q x a).2.1 = u := congrArg (fun z => z.2.1) h
      have e3 : (operandP (operandP q x a).1 x b).2.1 = v := congrArg (fun z => z.2.2.1) h
      have e4 : (operandP (operandP q x a).1 x b).2.2 = 0 := congrArg (fun z => z.2.2.2) h
      have hq : (operandP q x a).1 = q := by
        obtain ⟨s, hs⟩ := operand_ext q x a
        obtain ⟨t, ht⟩ := operand_ext (operandP q x a).1 x b
        rcases operand_cases q x a with ⟨k, e⟩ | ⟨k, e⟩ | ⟨k, e⟩
        · rw [e] at hs ht e1 ⊢
          rcases putP_cases q (constT (cutV x (atP q.T a).n)) with ⟨e', _⟩ | ⟨_, _, _, _, e', _⟩
          · exact e'
          · exfalso
            have e5 : (putR q (constT (cutV x (atP q.T a).n))).1 = putP q (constT (cutV x (atP q.T a).n)) := rfl
            rw [e1, e5, e'] at ht
            have := congrArg List.length ht
            simp at this
        · rw [e]
        · rw [e]
      rw [hq] at e1 e3 e4
      exact ⟨Prod.ext hq (Prod.ext e2 h1), Prod.ext e1 (Prod.ext e3 e4)⟩
    · rename_i h1
      exact absurd (congrArg (fun z => z.2.2.2) h) h1
  obtain ⟨k1, k2⟩ := key hba
  exact ⟨operand_idem hw2.1 hw2.2 hz2 hx (he.has ha) k1, operand_idem hw2.1 hw2.2 hz2 hx (he.has hb) k2⟩
theorem set_str {q : PS} (hw : WfP q) {x a : Int} (ha : hasB q.T a = true) (h : operandP q x a = (q, a, 0)) : strP q.T x a = a := by
  unfold strP
  split
  · rename_i hc
    have := has_part hw ha hc.2.1
    unfold operandP at h
    dsimp only at h
    rw [if_neg (by omega), if_pos hc] at h
    exact congrArg (fun z => z.2.1) h
  · rfl
theorem assoc_addC {T : List TD} {s : TD} {a op x : Int} {rt : Bool} (hs : s = atP T a) (h : assocB T s op x rt = true) : op = 0 ∧ rt = true ∧ addC T x a = true := by
  subst hs
  unfold assocB at h
  simp only [Bool.and_eq_true, beq_iff_eq] at h
  unfold addC
  simp only [Bool.and_eq_true, beq_iff_eq]
  exact ⟨h.1, h.2.1, h.2.2.2.1, h.2.2.2.2.1, h.2.2.2.2.2, h.2.2.1⟩
end Go.Proofs.Ytepagfkkjlbipaa
end
section
namespace Go.Proofs.Ytepagfkkjlbipaa
open Go.RowKit
set_option linter.unusedVariables false
set_option linter.unusedSimpArgs false
set_option maxRecDepth 100000
section
variable {P : Program} {ops : Array Oper} {Q : Exit → Act → World → Prop} {md : Region.Mode} {T S : World → Prop} {late : List Nat} {fuel : Nat} {listed : Array Bool} {a : Act} {w : World}
theorem E_index (i : Nat) (d : Option Tmp) (t : TypeId) (x y : Operand) (vx vy v : Value) (ho : opAt ops i = some (d, .indexAddr t x y)) (hc : checkE md ops late listed i false = true) (hw : wantAt ops i a = some true)
    (hQ : ∀ c a w, Q (.panic c) (a.put d v) w → Q (.panic c) a w) (hx : a.eval x = vx) (hy : a.eval y = vy) (hr : ∀ w, (Instr.indexAt t vx vy).run P w = .ok v w)
    (hS : St T S late listed w) (h : wpAnyE P md ops Q T S late fuel (listed.setIfInBounds i true) (a.put d v) w) : wpAnyE P md ops Q T S late (fuel + 1) listed a w :=
  E_any false i d _ _ ho hc hw hQ (fun o e w _ => by
    unfold execOp
    simp only [e, hx, hy, Sem.run_bind, hr, Result.andThen_ok, Sem.run_pure]) hS h
theorem StepE.index (i : Nat) (d : Option Tmp) (t : TypeId) (x y : Operand) (vx vy v : Value) (ho : opAt ops i = some (d, .indexAddr t x y)) (hw : wantAt ops i a = some true) (hx : a.eval x = vx) (hy : a.eval y = vy) (hr : ∀ w, (Instr.indexAt t vx vy).run P w = .ok v w)
    (hS : St T S late (listed.setIfInBounds i true) w) (h : wpAnyE P md ops Q T S late fuel (listed.setIfInBounds i true) (a.put d v) w) : StepE P md ops Q T S late fuel listed a w i :=
  StepE.run i d _ _ w ho hw (fun o e => by
    unfold execOp
    simp only [e, hx, hy, Sem.run_bind, hr, Result.andThen_ok, Sem.run_pure]) hS h
end
theorem addr_add (b k i : Nat) : (⟨b, k, none⟩ : Addr).add i = ⟨b, k + i, none⟩ := by
  unfold Addr.add
  split
  · rename_i h; subst h; rfl
  · rfl
theorem run_at11 (b : Nat) {i : Int} {d : Nat} (hi : i = (d : Int)) (hd : d < 11) (w : World) : (Instr.indexAt 32 (.pointer (some ⟨b, 1, none⟩)) (.int .i8 i)).run Try.prog w = .ok (.pointer (some ⟨b, 1 + d, none⟩)) w := by
  subst hi
  go_simp
  intro h
  omega
/-- The machine's pool and registers, as they lie. -/
def MT (b g : Nat) (regs : List Int) (w : World) : Prop := w.cell? ⟨b, 0, none⟩ = some (.pointer (some ⟨g, 0, none⟩)) ∧ ∀ d, d < 11 → w.cell? ⟨b, 1 + d, none⟩ = some (.int .i64 (regs.getD d 0))
theorem MA.mt {base g b : Nat} {F G : Nat → Prop} {m : SM} {ex : ExD} {w : World} (h : MA base g b F G m ex w) : MT b g m.regs w := ⟨h.cp, fun d hd => h.creg hd⟩
/-- Events as the machine has them. -/
theorem MA.evs {base g b : Nat} {F G : Nat → Prop} {m : SM} {ex : ExD} {w : World} (h : MA base g b F G m ex w) : ∃ A c, w.cell? ⟨b, 12, none⟩ = some (.slice A m.evs.length c) ∧ EvsAt w (fun _ => False) (.slice A m.evs.length c) m.evs := by
  obtain ⟨es, q, hes, _, hown, hq, hqw, _⟩ := h.ces
  obtain ⟨A, c, rfl, hc, hR⟩ := ReadsF.of_own (F := fun _ => False) hown (fun _ _ q => q)
  exact ⟨A, c, hes, A, c, q, rfl, hc, hq, hR, fun p hp => ⟨(hqw p hp).1, (hqw p hp).2.chg (H := fun _ => False) (Chg.refl _ w) (fun _ q => q.elim) (fun _ q => q.elim)⟩⟩
/-! ### Brings -/
def brT (l : List EvD) (k : Nat) : Nat := bringsN (l.take k)
theorem brT_succ {l : List EvD} {k : Nat} {x : EvD} (hx : l[k]? = some x) : brT l (k + 1) = if bringB x then brT l k + 1 else brT l k := by
  unfold brT bringsN
  rw [List.take_add_one, hx, List.filter_append, List.length_append]
  simp only [Option.toList_some, List.filter_cons, List.filter_nil]
  cases bringB x <;> simp
theorem brT_le (l : List EvD) (k : Nat) : brT l k ≤ k := by
  unfold brT bringsN
  refine Nat.le_trans (List.length_filter_le _ _) ?_
  rw [List.length_take]
  omega
theorem sizA : (Try.prog.info? 51).map (·.size) = some 6 := by kernel_rfl
theorem EvD.one {x : EvD} {v : Value} (hv : v.oneCell' = true) : ∀ u ∈ evC (x, v), u.oneCell' = true := by
  intro u hu
  unfold evC at hu
  simp only [List.mem_cons, List.not_mem_nil, or_false] at hu
  rcases hu with rfl | rfl | rfl | rfl | rfl | rfl <;> first | rfl | exact hv
set_option maxHeartbeats 4000000 in
theorem brings_any (A : Option Addr) (n c : Nat) (l : List EvD) (w : World) (h : EvsAt w (fun _ => False) (.slice A n c) l) (hn : n ≤ 64) :
    Calls Try.prog 81 #[.slice A n c] w fun e w' => e = .returned (.int .i64 (bringsN l : Int)) ∧ Below w.heap.size w w' := by
  have hl : l.length = n := by
    obtain ⟨A', c', h1, _⟩ := h.form
    injection h1 with _ h1
    exact h1.symm
  have HL := hide hl
  have HE := hide h
  clear h hl
  go_enter Try.func81, Try.ntmps81
  go_wp2
  go_loopw [2, 7] (fun v i wr => ∃ k : Nat, k ≤ n ∧ i = .int .i64 k ∧ v = .int .i64 (brT l k : Int) ∧ Below w.heap.size w wr) (fun _ i _ => n - (intOf i).toNat)
  case atStart => exact ⟨0, by omega, rfl, rfl, Below.refl _ _⟩
  case round =>
    obtain ⟨k, hk, rfl, rfl, hb⟩ := hrel
    have HB := hide hb
    clear hb
    by_cases hlt : k < n
    · obtain ⟨ad, x, v, rfl, hab, hx, hxw, hnv, hcell⟩ := (HE.out.chg (G := fun _ => False) (Chg.of_below HB.out) (fun _ q => .inl q) (fun _ q => .inl q)).at_ hlt
      obtain ⟨A', c', rfl⟩ := hnv.form
      have HX := hide hx
      have HC := hide hcell
      have hsz := HB.out.size
      have hbt := brT_le l k
      obtain ⟨t, ht⟩ : ∃ t, brT l k = t := ⟨_, rfl⟩
      rw [ht] at hbt ⊢
      have HT := hide ht
      clear hx hcell hxw hnv ht
      go_upto_region 4 with (first
        | (refine wpList_load_at rfl 51 (.tmp 9) rfl (ad.add (k * 6)) (by rfl) (evC (x, .slice A' x.args.length c')) _ HC.out Try.underlying51 rfl sizA ?_)
        | (refine wpList_store_new rfl 51 (.tmp 4) (.tmp 10) rfl _ (evC (x, .slice A' x.args.length c')) (.agg (evC (x, .slice A' x.args.length c')).toArray) (by rfl) (by rfl) rfl sizA (by rfl) (EvD.one rfl) ?_
           intro w4 X4 L4 S4
           have HX4 := hide X4
           have HB4 := hide (HB.out.trans (L4.mono hsz))
           clear X4 L4 S4)
        | fail)
      have b0 : w4.cell? ⟨wr.heap.size, 0, none⟩ = some (.int .i8 x.kind) := HX4.out.cell 0
      obtain ⟨kd, hkd⟩ : ∃ v, x.kind = v := ⟨_, rfl⟩
      rw [hkd] at b0
      have HKD := hide hkd
      clear hkd
      cases h0 : (kd != 0)
      · have HS := hide (show brT l (k + 1) = t + 1 by rw [brT_succ HX.out, ← HT.out, if_pos (by unfold bringB; rw [HKD.out]; simp at h0; rw [h0]; rfl)])
        go_wp2
        go_roundw
        case measure => simp [intOf]; omega
        case rel => exact ⟨k + 1, by omega, by go_num, by rw [HS.out]; go_num, HB4.out⟩
      · cases h2 : (kd != 2)
        · have HS := hide (show brT l (k + 1) = t + 1 by rw [brT_succ HX.out, ← HT.out, if_pos (by unfold bringB; rw [HKD.out]; simp at h2; rw [h2]; rfl)])
          go_wp2
          go_roundw
          case measure => simp [intOf]; omega
          case rel => exact ⟨k + 1, by omega, by go_num, by rw [HS.out]; go_num, HB4.out⟩
        · have HS := hide (show brT l (k + 1) = t by rw [brT_succ HX.out, ← HT.out, if_neg (by unfold bringB; rw [HKD.out]; simp at h0 h2 ⊢; exact ⟨h0, h2⟩)])
          go_wp2
          go_roundw
          case measure => simp [intOf]; omega
          case rel => exact ⟨k + 1, by omega, by go_num, by rw [HS.out], HB4.out⟩
    · obtain rfl : k = n := by omega
      have HS := hide (show brT l k = bringsN l by unfold brT; rw [List.take_of_length_le (by rw [HL.out]; exact Nat.le_refl _)])
      go_wp2
      go_ret
      exact ⟨by rw [HS.out]; rfl, HB.out⟩
end Go.Proofs.Ytepagfkkjlbipaa
end
section
namespace Go.Proofs.Ytepagfkkjlbipaa
open Go.RowKit
set_option linter.unusedVariables false
set_option linter.unusedSimpArgs false
set_option maxRecDepth 100000
section
variable {base g b : Nat} {F G F1 G1 : Nat → Prop} {m : SM} {ex : ExD} {w w' : World} {es es' : Value} {q : List (EvD × Value)}
theorem MA.push (h : MA base g b F G m ex w) (hB : Blk w b 72 (mC g m.regs es ex m.err).toArray) (hown : w.ownsRow (b + 1) 51 6 es m.evs.length (q.flatMap evC)) (hq : q.map (·.1) = m.evs) (hqw : ∀ p ∈ q, p.1.wf ∧ NumsF w (Up G b) p.2 p.1.args) (hes : ∀ k, es.ownBlock = some k → G k ∧ ¬ F k ∧ k ≠ b)
    {x : EvD} {v : Value} (hx : x.wf) (hv : NumsF w (Up G b) v x.args) (hlt : m.evs.length < 64) (R : w'.ownsRow (b + 1) 51 6 es' (m.evs.length + 1) (q.flatMap evC ++ evC (x, v))) (Gr : w.grownBy w' es.ownBlock) (O : ∀ k, es'.ownBlock = some k → es.ownBlock = some k ∨ w.heap.size ≤ k) :
    MG base g b G w F (fun k => G k ∨ es'.ownBlock = some k) (m.event x) ex (w'.setCell ⟨b, 12, none⟩ es') := by
  have hcE : Chg (fun k => es.ownBlock = some k) w w' := Chg.of_grown Gr (fun k e => .inl e)
  have hcG : Chg G w w' := hcE.mono (fun k e => .inl (hes k e).1)
  have hbe : es.ownBlock ≠ some b := fun e => (hes b e).2.2 rfl
  have hB' := (hcE.blk hB hbe).set_ 12 es'
  rw [List.setIfInBounds_toArray, mC_setEs h.len] at hB'
  have hb12 : Chg (fun k => k = b) w' (w'.setCell ⟨b, 12, none⟩ es') := chg_setCell (b := b) rfl es' rfl
  have hbG : Chg G w' (w'.setCell ⟨b, 12, none⟩ es') := hb12.mono (fun k e => .inl (e ▸ h.nb.2))
  have hc : Chg G w (w'.setCell ⟨b, 12, none⟩ es') := hcG.trans hbG (fun k q => .inl q)
  have hne : ∀ k, es'.ownBlock = some k → k ≠ b := fun k e => by
    rintro rfl
    rcases O _ e with e2 | e2
    · exact hbe e2
    · have := h.lt; omega
  have hnG : ∀ k, es'.ownBlock = some k → G k ∨ w.heap.size ≤ k := fun k e => (O k e).elim (fun e2 => .inl (hes k e2).1) .inr
  have hUp : ∀ k, Up (fun k => G k ∨ es'.ownBlock = some k) b k → Up G b k ∨ w.heap.size ≤ k := fun k hk => hk.elim (fun hk => hk.elim (fun z => .inl (.inl z)) (fun z => (hnG k z).elim (fun z => .inl (.inl z)) .inr)) (fun z => .inl (.inr z))
  refine ⟨⟨?_, ⟨es', q ++ [(x, v)], hB', ?_, ?_, fun p hp => ?_, fun k e => ⟨.inr e, fun qf => ?_, hne k e⟩⟩, ⟨h.nb.1, .inl h.nb.2⟩, fun k qf => .inl (h.sub k qf), fun k hk => ?_, h.len, h.rng, ?_⟩, hc, fun k hk => hk.elim .inl (hnG k)⟩
  · have h1 : PoolAt w' base F g m.p := h.pool.chg hcE (fun k qf e => (hes k e).2.1 qf)
    exact h1.chg hb12 (fun k qf e => h.nb.1 (e ▸ qf))
  · have e1 : (m.event x).evs.length = m.evs.length + 1 := by unfold SM.event; simp
    have e2 : (q ++ [(x, v)]).flatMap evC = q.flatMap evC ++ evC (x, v) := by rw [List.flatMap_append]; simp
    rw [e1, e2]
    exact hb12.own R (fun k e => hne k e)
  · rw [List.map_append, hq]
    rfl
  · rcases List.mem_append.1 hp with hp | hp
    · exact ⟨(hqw p hp).1, (hqw p hp).2.chg hc (fun k qg => .inl (.inl qg)) hUp⟩
    · have hp : p = (x, v) := by simpa using hp
      subst hp
      exact ⟨hx, hv.chg hc (fun k qg => .inl (.inl qg)) hUp⟩
  · rcases O k e with e2 | e2
    · exact (hes k e2).2.1 qf
    · have := h.low k (h.sub k qf); omega
  · rcases hk with hk | hk
    · have := h.low k hk
      have := hc.size
      omega
    · have := own_ge R k hk
      have := h.low b h.nb.2
      simp
      omega
  · unfold SM.event
    simp
    omega
/-- The exit is written. -/
theorem MA.exit (h : MA base g b F G m ex w) (ex' : ExD) (hB : ∀ es, Blk w b 72 (mC g m.regs es ex m.err).toArray → Blk w' b 72 (overC (mC g m.regs es ex m.err) 13 [.int .i8 ex'.kind, .int .i64 ex'.v, .int .i64 ex'.tgt, .int .i64 ex'.els]).toArray) (Gr : w.grownBy w' (some b)) :
    MG base g b G w F G m ex' w' := by
  obtain ⟨es, q, h1, h2, h3, h4, h5⟩ := h.box
  have hcb : Chg (fun k => k = b) w w' := Chg.of_grown Gr (fun k e => .inl (by injection e with e; exact e.symm))
  have hc : Chg G w w' := hcb.mono (fun k e => .inl (e ▸ h.nb.2))
  have hB' := hB es h1
  rw [mC_over h.len] at hB'
  exact ⟨⟨h.pool.chg hcb (fun k qf e => h.nb.1 (e ▸ qf)), ⟨es, q, hB', hcb.own h2 (fun k e => (h5 k e).2.2), h3, fun p hp => ⟨(h4 p hp).1, (h4 p hp).2.chg hc (fun c q => .inl (.inl q)) (fun c q => .inl q)⟩, h5⟩, h.nb, h.sub, fun k hk => ⟨(h.low k hk).1, Nat.lt_of_lt_of_le (h.low k hk).2 hc.size⟩, h.len, h.rng, h.few⟩, hc, fun k q => .inl q⟩
end
/-- A step that writes at an address. -/
theorem StepE.store_at {P : Program} {ops : Array Oper} {Q : Exit → Act → World → Prop} {md : Region.Mode} {T S : World → Prop} {late : List Nat} {fuel : Nat} {listed : Array Bool} {a : Act} {w : World} (i : Nat) (ty : TypeId) (x y : Operand) (ad : Addr) (v : Value) (w1 : World) (ho : opAt ops i = some (none, .store ty x y)) (hw : wantAt ops i a = some true)
    (hx : a.eval x = .pointer (some ad)) (hy : a.eval y = v) (hr : (storeVar ty ad v).run P w = .ok () w1) (hS : St T S late (listed.setIfInBounds i true) w1) (h : wpAnyE P md ops Q T S late fuel (listed.setIfInBounds i true) (a.put none undef) w1) : StepE P md ops Q T S late fuel listed a w i :=
  StepE.skip i _ w1 ho hw (fun o e => by
    unfold execOp
    simp only [e, hx, hy, Instr.storeAt, Instr.sureAddr, Sem.run_bind, Sem.run_pure, Result.andThen_ok, hr]) hS h
end Go.Proofs.Ytepagfkkjlbipaa
end
