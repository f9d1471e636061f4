/-
  How deep norm's terms are, how many it puts: within a pool that is not near its limits it refuses nothing. Conditions: those written in each statement.
  Contracts of symbc's methods: next, place, event. Conditions: those written in each statement.
  Contract of symbc's method second: the other operand. Conditions: those written in each statement.
-/
import Derived.Test.YtepagfkkjlbipaaGreatKap
import Derived.Test.YtepagfkkjlbipaaGreatKao
import Derived.Test.YtepagfkkjlbipaaGreatKaq
import Derived.Test.YtepagfkkjlbipaaGreatKag
import Derived.Test.YtepagfkkjlbipaaGreatKah
import Derived.RegionTactic
import Derived.Laws.Closers25b
section
namespace Go.Proofs.YtepagfkkjlbipaaGreat
open Go.RowKit
set_option linter.unusedVariables false
set_option linter.unusedSimpArgs false
set_option maxRecDepth 100000
/-! ### depths -/
def dpP (p : PS) (n : Int) : Int := p.D.getD n.toNat 0
theorem dp_dmax {p : PS} (hw : WfP p) {n : Int} (hn : hasB p.T n = true) : dpP p n = dmax p.D (prtL (atP p.T n)) := by
 obtain ⟨i, rfl, hi⟩ := has_ix hn
 unfold dpP
 rw [List.getD_eq_getElem?_getD, show ((i : Int)).toNat = i by omega, hw.deep i _ hi]
 rfl
theorem dp_bd {p : PS} (hw : WfP p) {n : Int} (hn : hasB p.T n = true) : 1 ≤ dpP p n ∧ dpP p n ≤ 256 := by
 obtain ⟨i, rfl, hi⟩ := has_ix hn
 have hl : i < p.D.length := by rw [hw.len]; exact (List.getElem?_eq_some_iff.1 hi).1
 unfold dpP
 rw [List.getD_eq_getElem?_getD, show ((i : Int)).toNat = i by omega, List.getElem?_eq_getElem hl]
 exact hw.low _ (List.getElem_mem hl)
theorem dmax_le {D : List Int} {l : List Int} {d : Int} (hd : 1 ≤ d) (h : ∀ k ∈ l, D.getD k.toNat 0 + 1 ≤ d) : dmax D l ≤ d := by
 unfold dmax
 suffices H : ∀ (l : List Int) (a : Int), a ≤ d → (∀ k ∈ l, D.getD k.toNat 0 + 1 ≤ d) → l.foldl (fun d n => max d (D.getD n.toNat 0 + 1)) a ≤ d from H l 1 hd h
 intro l
 induction l with
 | nil => intro a ha _; exact ha
 | cons x r ih => intro a ha hl; exact ih _ (by have := hl x (by simp); show max a (D.getD x.toNat 0 + 1) ≤ d; omega) (fun k hk => hl k (by simp [hk]))
theorem le_dmax {D : List Int} {l : List Int} {k : Int} (hk : k ∈ l) : D.getD k.toNat 0 + 1 ≤ dmax D l := by
 unfold dmax
 suffices H : ∀ (l : List Int) (a : Int), k ∈ l → D.getD k.toNat 0 + 1 ≤ l.foldl (fun d n => max d (D.getD n.toNat 0 + 1)) a from H l 1 hk
 intro l
 induction l with
 | nil => intro a h; simp at h
 | cons x r ih =>
  intro a h
  rw [List.foldl_cons]
  rcases List.mem_cons.1 h with rfl | h
  ·exact Int.le_trans (Int.le_max_right _ _) (dmax_ge D r _)
  ·exact ih _ h
theorem dp_part {p : PS} (hw : WfP p) {n k : Int} (hn : hasB p.T n = true) (hk : k ∈ prtL (atP p.T n)) : dpP p k + 1 ≤ dpP p n := by
 rw [dp_dmax hw hn]
 exact le_dmax hk
theorem dmax_congr {D E : List Int} {l : List Int} (h : ∀ k ∈ l, D.getD k.toNat 0 = E.getD k.toNat 0) : dmax D l = dmax E l := by
 unfold dmax
 suffices H : ∀ (l : List Int) (a : Int), (∀ k ∈ l, D.getD k.toNat 0 = E.getD k.toNat 0) → l.foldl (fun d n => max d (D.getD n.toNat 0 + 1)) a = l.foldl (fun d n => max d (E.getD n.toNat 0 + 1)) a from H l 1 h
 intro l
 induction l with
 | nil => intro a _; rfl
 | cons x r ih => intro a hl; rw [List.foldl_cons, List.foldl_cons, hl x (by simp)]; exact ih _ (fun k hk => hl k (by simp [hk]))
theorem dp_ext {p q : PS} (hw : WfP p) (hq : WfP q) (he : Ext p q) : ∀ (N : Nat) (n : Int), n.toNat < N → hasB p.T n = true → dpP q n = dpP p n := by
 intro N
 induction N with
 | zero => intro n hn; omega
 | succ N ih =>
  intro n hn hb
  rw [dp_dmax hw hb, dp_dmax hq (he.has hb), he.at_ hb]
  refine dmax_congr fun k hk => ?_
  have hp := part_less hw hb hk
  exact ih k (by omega) (has_prt hw hb hk)
theorem Ext.dp {p q : PS} (he : Ext p q) (hw : WfP p) (hq : WfP q) {n : Int} (hb : hasB p.T n = true) : dpP q n = dpP p n := dp_ext hw hq he _ n (Nat.lt_succ_self _) hb
/-! ### what is put, within the limits -/
structure Fit (p : PS) (r : RS) (k : Nat) (d : Int) : Prop where
 err : r.2.2 = 0
 few : r.1.T.length ≤ p.T.length + k
 low : dpP r.1 r.2.1 ≤ d
theorem Fit.more {p : PS} {r : RS} {k m : Nat} {d e : Int} (h : Fit p r k d) (hk : k ≤ m) (hd : d ≤ e) : Fit p r m e := ⟨h.err, by have := h.few; omega, by have := h.low; omega⟩
theorem Fit.from {p q : PS} {r : RS} {j k : Nat} {d : Int} (hq : q.T.length ≤ p.T.length + j) (h : Fit q r k d) : Fit p r (j + k) d := ⟨h.err, by have := h.few; omega, h.low⟩
theorem put_fit {p : PS} (hw : WfP p) {t : TD} {d : Int} (hok : okP p.T t = true) (hl : p.T.length < 4000) (hd : 1 ≤ d ∧ d ≤ 256) (hp : ∀ k ∈ prtL t, dpP p k + 1 ≤ d) : Fit p (putR p t) 1 d := by
 have hm : dmax p.D (prtL t) ≤ d := dmax_le hd.1 hp
 rcases putP_cases p t with ⟨e, q⟩ | ⟨_, _, _, _, e, q⟩
 ·rcases q with ⟨q, _⟩ | ⟨_, i, hi, _, q⟩ | ⟨_, _, q, _⟩
  ·rw [hok] at q; cases q
  ·refine ⟨by show (putN p t).2 = 0; rw [q], by show (putP p t).T.length ≤ _; rw [e]; omega, ?_⟩
   show dpP (putP p t) (putN p t).1 ≤ d
   rw [e, q]
   unfold dpP
   rw [List.getD_eq_getElem?_getD, show ((i : Int)).toNat = i by omega, hw.deep i _ hi]
   exact hm
  ·omega
 ·refine ⟨by show (putN p t).2 = 0; rw [q], by show (putP p t).T.length ≤ _; rw [e]; simp, ?_⟩
  show dpP (putP p t) (putN p t).1 ≤ d
  rw [e, q]
  unfold dpP
  have : ((p.T.length : Int)).toNat = p.D.length := by rw [hw.len]; omega
  dsimp only
  rw [this, List.getD_eq_getElem?_getD]
  simpa using hm
theorem const_fit {p : PS} (hw : WfP p) (n : Int) (hl : p.T.length < 4000) : Fit p (putR p (constT n)) 1 1 := put_fit hw (okP_const _ _) hl (by omega) (fun k hk => by have : prtL (constT n) = [] := rfl; rw [this] at hk; cases hk)
theorem same_fit {p : PS} {n d : Int} (h : dpP p n ≤ d) : Fit p (p, n, 0) 0 d := ⟨rfl, Nat.le_refl _, h⟩
theorem operand_fit {p : PS} (hw : WfP p) {x a : Int} (ha : hasB p.T a = true) (hl : p.T.length < 4000) : Fit p (operandP p x a) 1 (dpP p a) := by
 have hb := dp_bd hw ha
 rcases operand_cases p x a with ⟨k, e⟩ | ⟨k, e⟩ | ⟨k, e⟩ <;> rw [e]
 ·exact (const_fit hw _ hl).more (Nat.le_refl _) hb.1
 ·have hp := dp_part hw ha (k := (atP p.T a).a) (by unfold prtL; rw [if_neg (by omega), if_pos k]; simp)
  exact (same_fit (by omega)).more (by omega) (Int.le_refl _)
 ·exact (same_fit (Int.le_refl _)).more (by omega) (Int.le_refl _)
/-- Both operands, within the limits. -/
theorem both_fit {p : PS} (hw : WfP p) (hr : ∀ t ∈ p.T, t.wf) {x a b : Int} (ha : hasB p.T a = true) (hb : hasB p.T b = true) (hl : p.T.length + 1 < 4000) :
  (bothP p x a b).2.2.2 = 0 ∧ (bothP p x a b).1.T.length ≤ p.T.length + 2 ∧ dpP (bothP p x a b).1 (bothP p x a b).2.1 ≤ dpP p a ∧ dpP (bothP p x a b).1 (bothP p x a b).2.2.1 ≤ dpP p b := by
 have h1 := operand_fit hw (x := x) ha (by omega)
 have w1 := operand_i64 hw hr (has_i64 hw ha) x
 have e1 := operand_ext p x a
 have hb1 := e1.has hb
 have h2 := operand_fit w1.2.1 (x := x) hb1 (by have := h1.few; omega)
 have w2 := operand_i64 w1.2.1 w1.2.2 (has_i64 w1.2.1 hb1) x
 have e2 := operand_ext (operandP p x a).1 x b
 have f1 := operand_facts hw ha h1.err
 have d1 := e2.dp w1.2.1 w2.2.1 f1.1
 have d2 := e1.dp hw w1.2.1 hb
 unfold bothP
 dsimp only
 rw [if_pos h1.err]
 dsimp only
 have := h1.few
 have := h2.few
 have := h1.low
 have := h2.low
 exact ⟨h2.err, by omega, by omega, by omega⟩
/-! ### sums of a sum and a constant -/
def addC (T : List TD) (x n : Int) : Bool := (atP T n).kind == 2 && ((atP T n).op == 0 && ((atP T n).w == x && (atP T (atP T n).b).kind == 0))
def strP (T : List TD) (x a : Int) : Int := if x = 32 ∧ (atP T a).kind = 3 ∧ (atP T a).w = 32 then (atP T a).a else a
/-- No sum with a constant is one of a sum with a constant. -/
def AA (p : PS) : Prop := ∀ n x : Int, hasB p.T n = true → addC p.T x n = true → addC p.T x (strP p.T x (atP p.T n).a) = false
theorem addC_ext {p q : PS} (hw : WfP p) (he : Ext p q) (x : Int) {n : Int} (hn : hasB p.T n = true) : addC q.T x n = addC p.T x n := by
 unfold addC
 rw [he.at_ hn]
 refine and_cong fun hk => ?_
 have hk : (atP p.T n).kind = 2 := by simpa using hk
 rw [he.at_ (has_prt hw hn (k := (atP p.T n).b) (by unfold prtL; rw [if_pos (.inl hk)]; simp))]
theorem str_has {p : PS} (hw : WfP p) (x : Int) {a : Int} (ha : hasB p.T a = true) : hasB p.T (strP p.T x a) = true := by
 unfold strP
 split
 ·rename_i h; exact (has_part hw ha h.2.1).2.2
 ·exact ha
theorem str_ext {p q : PS} (he : Ext p q) (x : Int) {a : Int} (ha : hasB p.T a = true) : strP q.T x a = strP p.T x a := by unfold strP; rw [he.at_ ha]
theorem AA.nil : AA ⟨[], []⟩ := fun n x hn => by unfold hasB at hn; simp at hn; omega
theorem AA.put {p : PS} (h : AA p) (hw : WfP p) {t : TD} (ht : okP p.T t = true → t.kind = 2 → t.op = 0 → (atP p.T t.b).kind = 0 → addC p.T t.w (strP p.T t.w t.a) = false) : AA (putP p t) := by
 intro n x hn hc
 rcases putP_cases p t with ⟨e, _⟩ | ⟨hok, _, _, _, e, _⟩
 ·rw [e] at hn hc ⊢; exact h n x hn hc
 ·have he : Ext p (putP p t) := Ext.put p t
  have hpart := (okP_parts hok).2.1
  cases hb : hasB p.T n
  ·have hn2 : n = (p.T.length : Int) := by
    rw [e] at hn
    unfold hasB at hn hb
    simp at hn hb
    omega
   have hat : atP (putP p t).T n = t := by
    unfold atP
    rw [if_pos hn, e, hn2]
    simp
   have hc' := hc
   unfold addC at hc
   rw [hat] at hc ⊢
   simp only [Bool.and_eq_true, beq_iff_eq] at hc
   obtain ⟨h2, h0, hx, hbk⟩ := hc
   have hm : ∀ k, k = t.a ∨ k = t.b → hasB p.T k = true := fun k hk => by
    have := hpart k (by unfold prtL; rw [if_pos (.inl h2)]; simpa using hk)
    unfold hasB
    simp
    omega
   rw [he.at_ (hm _ (.inr rfl))] at hbk
   have hA := hm _ (.inl rfl)
   rw [str_ext he x hA, addC_ext hw he x (str_has hw x hA), ← hx]
   exact ht hok h2 h0 hbk
  ·rw [addC_ext hw he x hb] at hc
   have hk : (atP p.T n).kind = 2 := by unfold addC at hc; simp at hc; exact hc.1
   have hA := has_prt hw hb (k := (atP p.T n).a) (by unfold prtL; rw [if_pos (.inl hk)]; simp)
   rw [he.at_ hb, str_ext he x hA, addC_ext hw he x (str_has hw x hA)]
   exact h n x hb hc
theorem AA.putR {p : PS} (h : AA p) (hw : WfP p) {t : TD} (ht : t.kind ≠ 2 ∨ t.op ≠ 0) : AA (putR p t).1 := h.put hw fun _ h2 h0 _ => by rcases ht with q | q <;> contradiction
end Go.Proofs.YtepagfkkjlbipaaGreat
end
section
namespace Go.Proofs.YtepagfkkjlbipaaGreat
open Go.RowKit
set_option linter.unusedVariables false
set_option linter.unusedSimpArgs false
set_option maxRecDepth 100000
section
variable {base g b : Nat} {F G F1 G1 : Nat → Prop} {m : SM} {ex : ExD} {w : World}
theorem wrap_in {n : Int} (h : -9223372036854775808 ≤ n ∧ n < 9223372036854775808) : IntKind.i64.wrap n = n := by rw [IntKind.wrap_i64]; omega
set_option maxHeartbeats 4000000 in
theorem next_any (h : MA base g b F G m ex w) (x : Int) (hx : I8 x) : Calls Tryz.prog 77 #[.pointer (some ⟨b, 0, none⟩), .int .i8 x] w (MRet base g b G ex w (m.next x)) := by
 obtain ⟨A, c, c12, hev⟩ := h.evs
 have hn := brT_le m.evs m.evs.length
 have hfew := h.few
 obtain ⟨n, hbn⟩ : ∃ n, bringsN m.evs = n := ⟨_, rfl⟩
 have hn64 : n ≤ 64 := by
  rw [← hbn, show bringsN m.evs = brT m.evs m.evs.length by unfold brT; rw [List.take_length]]
  omega
 have hb0 : base ≤ w.heap.size := Nat.le_trans (h.low b h.nb.2).1 (Nat.le_of_lt h.lt)
 obtain ⟨r, hr⟩ : ∃ r, putR m.p (varT (38 + 3 * (n : Int)) x) = r := ⟨_, rfl⟩
 have HV := hide (fun (W : World) (F : Nat → Prop) (hW : PoolAt W base F g m.p) (hb : base ≤ W.heap.size) => by have := var_any (38 + 3 * (n : Int)) x (by omega) (by omega) hx W hW hb; rw [hr] at this; exact this)
 have HRN := hide (show I64 r.2.1 by rw [← hr]; exact putN_i64 h.pool.wf _)
 have HNX := hide (show m.next x = m.keep r by unfold SM.next; rw [hbn, hr])
 obtain ⟨rp, rn, re⟩ := r
 dsimp only at HV HRN
 have HM := hide (MG.of_below h ((Below.refl _ _).drew))
 have HT := hide (show MT b g m.regs w.drew from h.mt)
 have HS := hide (show w.drew.cell? ⟨b, 12, none⟩ = some (.slice A m.evs.length c) from c12)
 have HEV := hide (show EvsAt w.drew (fun _ => False) (.slice A m.evs.length c) m.evs from hev)
 have HFEW := hide hfew
 have HBN := hide hbn
 clear h hev hbn c12 hx hn hfew hr
 go_enter Tryz.func77, Tryz.ntmps77
 go_wp2
 refine wp_region_E (MT b g m.regs) (fun w' => w'.cell? ⟨b, 12, none⟩ = some (.slice A m.evs.length c)) [10, 14, 17] (by kernel_rfl) ?_
 generalize w.drew = Wd at HM HT HS HEV ⊢
 refine em 0 (.pointer (some ⟨b, 0, none⟩)) (.both HT.out HS.out) ?_
 simp only [sL]
 refine em 1 (.pointer (some ⟨b, 0, none⟩)) (.both HT.out HS.out) ?_
 simp only [sL]
 refine ez 2 ⟨b, 0, none⟩ (.both HT.out HS.out) ?_
 simp only [sL]
 refine ef 3 ⟨b, 0, none⟩ ⟨b, 0, none⟩ (.both HT.out HS.out) ?_
 simp only [sL]
 refine el false 4 ⟨b, 0, none⟩ (.pointer (some ⟨g, 0, none⟩)) Tryz.underlying50 (fun w hS => hS.1.1) (.both HT.out HS.out) ?_
 simp only [sL]
 refine em 5 (.pointer (some ⟨b, 0, none⟩)) (.both HT.out HS.out) ?_
 simp only [sL]
 refine ez 6 ⟨b, 0, none⟩ (.both HT.out HS.out) ?_
 simp only [sL]
 refine ef 7 ⟨b, 0, none⟩ ⟨b, 1, none⟩ (.both HT.out HS.out) ?_
 simp only [sL]
 refine ef 8 ⟨b, 1, none⟩ ⟨b, 12, none⟩ (.both HT.out HS.out) ?_
 simp only [sL]
 refine el true 9 ⟨b, 12, none⟩ (.slice A m.evs.length c) Tryz.underlying61 (fun w hS => (hS.2 rfl)) (.both HT.out HS.out) ?_
 simp only [sL]
 refine em 13 (.int .i8 x) (.both HT.out HS.out) ?_
 simp only [sL]
 refine E_one 10 (by kernel_rfl) (StepE.of 10 (some 15) _ rfl (by rfl) fun o K h2 h3 hKK => ?_)
 unfold Oper.wp execOp
 simp only [h3]
 go_simp
 refine (brings_any _ _ _ _ _ HEV.out HFEW.out).mono ?_
 rintro e wq ⟨rfl, hbq⟩
 replace HM := hide (HM.out.step hbq)
 replace HT := hide HM.out.at_.mt
 clear hbq HEV HS
 dsimp only
 refine hKK _ _ (.after HT.out (by kernel_rfl)) ?_
 clear hKK h2 h3 K o
 try simp only [pt, pn, sL]
 rw [HBN.out]
 refine eb 11 (.int .i64 (3 * (n : Int))) rfl (fun o e w _ => by unfold execOp; simp only [e]; go_simp; rw [wrap_in (by omega)]) (.after HT.out (by kernel_rfl)) ?_
 simp only [sL]
 refine eb 12 (.int .i64 (38 + 3 * (n : Int))) rfl (fun o e w _ => by unfold execOp; simp only [e]; go_simp; rw [wrap_in (by omega)]) (.after HT.out (by kernel_rfl)) ?_
 simp only [sL]
 refine E_one 14 (by kernel_rfl) (StepE.of 14 (some 19) _ rfl (by rfl) fun o K h2 h3 hKK => ?_)
 unfold Oper.wp execOp
 simp only [h3]
 go_simp
 refine (HV.out _ _ HM.out.at_.pool (Nat.le_trans hb0 HM.out.size)).mono ?_
 rintro e wq ⟨rfl, Fq, hpq⟩
 replace HM := hide (HM.out.trans (HM.out.at_.pg hpq))
 replace HT := hide HM.out.at_.mt
 clear hpq
 dsimp only
 refine hKK _ _ (.after HT.out (by kernel_rfl)) ?_
 clear hKK h2 h3 K o
 try simp only [pt, pn, sL]
 refine eg 15 (.int .i64 rn) (.after HT.out (by kernel_rfl)) ?_
 simp only [sL]
 refine eg 16 (.int .i64 re) (.after HT.out (by kernel_rfl)) ?_
 simp only [sL]
 refine E_one 17 (by kernel_rfl) (StepE.of 17 (some 22) _ rfl (by rfl) fun o K h2 h3 hKK => ?_)
 unfold Oper.wp execOp
 simp only [h3]
 go_simp
 refine (made_any HM.out.at_ (rn) (re) HRN.out).mono ?_
 rintro e wq ⟨rfl, _, Fq, Gq, hmq⟩
 replace HM := hide (HM.out.trans hmq)
 replace HT := hide HM.out.at_.mt
 clear hmq
 dsimp only
 refine hKK _ _ (.after HT.out (by kernel_rfl)) ?_
 clear hKK h2 h3 K o
 try simp only [pt, pn, sL]
 refine E_one 18 (by kernel_rfl) (StepE.assign 18 (some 4) _ (.int .i64 (rn)) rfl (by rfl) (by rfl) (.after HT.out (by kernel_rfl)) ?_)
 simp only [pt, pn, sL]
 refine wpAnyE_done (by kernel_rfl) ?_ _
 go_wp2
 go_ret
 rw [HNX.out]
 exact ⟨rfl, HRN.out, _, _, HM.out⟩
theorem num_i64 (h : MA base g b F G m ex w) (n : Int) : I64 (m.num n).2 := putN_i64 h.pool.wf _
theorem num_wf (h : MA base g b F G m ex w) (n : Int) : WfP (m.num n).1.p ∧ ∀ t ∈ (m.num n).1.p.T, t.wf := put_facts h.pool.wf h.pool.rng (constT_wf (wrap_u64 n))
set_option maxHeartbeats 4000000 in
theorem place_any (h : MA base g b F G m ex w) (r off : Int) {d : Nat} (hr : r = (d : Int)) (hd : d < 11) (ho : I64 off) : Calls Tryz.prog 76 #[.pointer (some ⟨b, 0, none⟩), .int .i8 r, .int .i64 off] w (MRet base g b G ex w (m.place r off)) := by
 have hb0 : base ≤ w.heap.size := Nat.le_trans (h.low b h.nb.2).1 (Nat.le_of_lt h.lt)
 have HRD := hide hr
 have hri := h.reg_i64 hd
 have hrr : m.reg r = m.regs.getD d 0 := by unfold SM.reg; rw [hr, Int.toNat_natCast]
 clear hr
 obtain ⟨q, hq⟩ : ∃ q, m.num off = q := ⟨_, rfl⟩
 have HN := hide (fun (W : World) (F G : Nat → Prop) (hW : MA base g b F G m ex W) => by have := num_any hW (off) ho; rw [hq] at this; exact this)
 have hqw : WfP q.1.p ∧ ∀ t ∈ q.1.p.T, t.wf := by rw [← hq]; exact num_wf h off
 have hqi : I64 q.2 := by rw [← hq]; exact num_i64 h off
 have HRQ := hide (show q.1.regs = m.regs by rw [← hq]; rfl)
 obtain ⟨rs, hr⟩ : ∃ r, opV q.1.p 0 64 (m.regs.getD d 0) q.2 = r := ⟨_, rfl⟩
 have HO := hide (fun (W : World) (F : Nat → Prop) (hW : PoolAt W base F g q.1.p) (hb : base ≤ W.heap.size) => by obtain ⟨f, hf⟩ := opV_some hW.wf hW.rng 0 64 (m.regs.getD d 0) q.2; rw [hr] at hf; exact op_all f 0 64 (m.regs.getD d 0) q.2 hri hqi F q.1.p rs hf W hW hb)
 have HON := hide (show I64 rs.2.1 by rw [← hr]; exact opV_num hqw.1 hqw.2 _ _ _ _)
 have HNX := hide (show m.place r off = q.1.keep rs by unfold SM.place; rw [hq, hrr, hr])
 obtain ⟨mq, nq⟩ := q
 obtain ⟨rp, rn, re⟩ := rs
 dsimp only at HN HRQ HO HON
 have HM := hide (MG.of_below h ((Below.refl _ _).drew))
 have HT := hide (show MT b g m.regs w.drew from h.mt)
 have HD := hide hd
 clear h hd ho hq hr hqi hqw hri hrr
 go_enter Tryz.func76, Tryz.ntmps76
 go_wp2
 refine wp_region_E (fun _ => True) (MT b g m.regs) [] (by kernel_rfl) ?_
 generalize w.drew = Wd at HM HT ⊢
 refine em 0 (.pointer (some ⟨b, 0, none⟩)) (.both trivial HT.out) ?_
 simp only [sL]
 refine em 1 (.pointer (some ⟨b, 0, none⟩)) (.both trivial HT.out) ?_
 simp only [sL]
 refine ez 2 ⟨b, 0, none⟩ (.both trivial HT.out) ?_
 simp only [sL]
 refine ef 3 ⟨b, 0, none⟩ ⟨b, 0, none⟩ (.both trivial HT.out) ?_
 simp only [sL]
 refine el true 4 ⟨b, 0, none⟩ (.pointer (some ⟨g, 0, none⟩)) Tryz.underlying50 (fun w hS => (hS.2 rfl).1) (.both trivial HT.out) ?_
 simp only [sL]
 refine em 5 (.pointer (some ⟨b, 0, none⟩)) (.both trivial HT.out) ?_
 simp only [sL]
 refine em 6 (.int .i8 r) (.both trivial HT.out) ?_
 simp only [sL]
 refine ez 7 ⟨b, 0, none⟩ (.both trivial HT.out) ?_
 simp only [sL]
 refine ef 8 ⟨b, 0, none⟩ ⟨b, 1, none⟩ (.both trivial HT.out) ?_
 simp only [sL]
 refine ef 9 ⟨b, 1, none⟩ ⟨b, 1, none⟩ (.both trivial HT.out) ?_
 simp only [sL]
 refine ej 10 (.pointer (some ⟨b, 1, none⟩)) (.int .i8 r) (.pointer (some ⟨b, 1 + d, none⟩)) (run_at11 b HRD.out HD.out) (.both trivial HT.out) ?_
 simp only [sL]
 refine el true 11 ⟨b, 1 + d, none⟩ (.int .i64 (m.regs.getD d 0)) Tryz.underlying3 (fun w hS => ((hS.2 rfl).2 d HD.out)) (.both trivial HT.out) ?_
 simp only [sL]
 refine em 12 (.pointer (some ⟨b, 0, none⟩)) (.both trivial HT.out) ?_
 simp only [sL]
 refine em 13 (.int .i64 off) (.both trivial HT.out) ?_
 simp only [sL]
 refine E_one 14 (by kernel_rfl) (StepE.of 14 (some 21) _ rfl (by rfl) fun o K h2 h3 hKK => ?_)
 unfold Oper.wp execOp
 simp only [h3]
 go_simp
 refine (HN.out _ _ _ HM.out.at_).mono ?_
 rintro e wq ⟨rfl, _, Fq, Gq, hmq⟩
 replace HM := hide (HM.out.trans hmq)
 replace HT := hide (show MT b g m.regs wq from HRQ.out ▸ HM.out.at_.mt)
 clear hmq
 dsimp only
 refine hKK _ _ (.both trivial HT.out) ?_
 clear hKK h2 h3 K o
 try simp only [pt, pn, sL]
 refine E_one 15 (by kernel_rfl) (StepE.of 15 (some 22) _ rfl (by rfl) fun o K h2 h3 hKK => ?_)
 unfold Oper.wp execOp
 simp only [h3]
 go_simp
 refine (HO.out _ _ HM.out.at_.pool (Nat.le_trans hb0 HM.out.size)).mono ?_
 rintro e wq ⟨rfl, Fq, hpq⟩
 replace HM := hide (HM.out.trans (HM.out.at_.pg hpq))
 replace HT := hide (show MT b g m.regs wq from HRQ.out ▸ HM.out.at_.mt)
 clear hpq
 dsimp only
 refine hKK _ _ (.both trivial HT.out) ?_
 clear hKK h2 h3 K o
 try simp only [pt, pn, sL]
 refine eg 16 (.int .i64 rn) (.both trivial HT.out) ?_
 simp only [sL]
 refine eg 17 (.int .i64 re) (.both trivial HT.out) ?_
 simp only [sL]
 refine E_one 18 (by kernel_rfl) (StepE.of 18 (some 25) _ rfl (by rfl) fun o K h2 h3 hKK => ?_)
 unfold Oper.wp execOp
 simp only [h3]
 go_simp
 refine (made_any HM.out.at_ (rn) (re) HON.out).mono ?_
 rintro e wq ⟨rfl, _, Fq, Gq, hmq⟩
 replace HM := hide (HM.out.trans hmq)
 replace HT := hide (show MT b g m.regs wq from HRQ.out ▸ HM.out.at_.mt)
 clear hmq
 dsimp only
 refine hKK _ _ (.both trivial HT.out) ?_
 clear hKK h2 h3 K o
 try simp only [pt, pn, sL]
 refine E_one 19 (by kernel_rfl) (StepE.assign 19 (some 6) _ (.int .i64 (rn)) rfl (by rfl) (by rfl) (.both trivial HT.out) ?_)
 simp only [pt, pn, sL]
 refine wpAnyE_done (by kernel_rfl) ?_ _
 go_wp2
 go_ret
 rw [HNX.out]
 exact ⟨rfl, HON.out, _, _, HM.out⟩
end
end Go.Proofs.YtepagfkkjlbipaaGreat
end
section
namespace Go.Proofs.YtepagfkkjlbipaaGreat
open Go.RowKit
set_option linter.unusedVariables false
set_option linter.unusedSimpArgs false
set_option maxRecDepth 100000
section
variable {base g b : Nat} {F G F1 G1 : Nat → Prop} {m : SM} {ex : ExD} {w : World}
theorem second_reg {m : SM} {x : ID} (h : x.byReg = true) : m.second x = (m, m.reg x.src) := by unfold SM.second; rw [if_pos h]
theorem second_imm {m : SM} {x : ID} (h : x.byReg = false) (h2 : ¬ (x.kind = 0 ∧ shiftsB x.op = true)) : m.second x = m.num x.imm := by unfold SM.second; rw [if_neg (by rw [h]; simp), if_neg h2]
theorem second_and {m : SM} {x : ID} (h : x.byReg = false) (h2 : x.kind = 0 ∧ shiftsB x.op = true) : m.second x = m.num (bits .and .i64 x.imm (x.width - 1)) := by unfold SM.second; rw [if_neg (by rw [h]; simp), if_pos h2]
theorem and_i64 (a b : Int) : I64 (bits .and .i64 a b) := by
 have h1 := bits_lo_i64 .and a b
 have h2 := bits_hi_i64 .and a b
 unfold I64
 omega
set_option maxHeartbeats 4000000 in
theorem second_any (h : MA base g b F G m ex w) (x : ID) (hx : x.wf) (hs : x.byReg = true → 0 ≤ x.src ∧ x.src ≤ 10) (hwd : -128 < x.width) :
  Calls Tryz.prog 75 #[.pointer (some ⟨b, 0, none⟩), .agg x.cells.toArray] w (MRet base g b G ex w (m.second x)) := by
 obtain ⟨k, op, wd, sz, br, dst, src, off, imm⟩ := x
 show Calls Tryz.prog 75 #[.pointer (some ⟨b, 0, none⟩), .agg #[.int .i8 k, .int .i8 op, .int .i8 wd, .int .i8 sz, .bool br, .int .i8 dst, .int .i8 src, .int .i64 off, .int .i64 imm]] w _
 dsimp only at hs hwd
 have hbl := (Below.refl w.heap.size w).alloc (Nat.le_refl _) (.cells #[.int .i8 k, .int .i8 op, .int .i8 wd, .int .i8 sz, .bool br, .int .i8 dst, .int .i8 src, .int .i64 off, .int .i64 imm] 47)
 have HM := hide (MG.of_below h hbl)
 have HIM := hide (show I64 imm from hx.2.2.2.2.2.2.2)
 have hwd2 : wd < 128 := hx.2.1.2 |> fun _ => hx.2.2.1.2
 have HX := hide hx
 cases br
 ·have HN := hide (show False → True from fun _ => trivial)
  clear h hx hbl hs
  have leaf : ∀ v : Int, I64 v → m.second ⟨k, op, wd, sz, false, dst, src, off, imm⟩ = m.num v → ∀ (w2 : World) (F2 G2 : Nat → Prop) (e : Ending), True := fun _ _ _ _ _ _ _ => trivial
  clear leaf HN
  cases hk : (k != 0)
  ·have hk0 : k = 0 := by simpa using hk
   cases h6 : (op == 6)
   ·cases h7 : (op == 7)
    ·cases h12 : (op == 12)
     ·have HNX := hide (second_imm (m := m) (x := ⟨k, op, wd, sz, false, dst, src, off, imm⟩) rfl (fun q => by have := q.2; unfold shiftsB at this; dsimp only at this; rw [h6, h7, h12] at this; cases this))
      clear hk0
      go_enter Tryz.func75, Tryz.ntmps75
      go_wp2_with fail
      refine (num_any HM.out.at_ imm HIM.out).mono ?_
      rintro e w2 ⟨rfl, hi, F2, G2, hm2⟩
      have HM2 := hide (HM.out.trans hm2)
      have HI := hide hi
      clear hm2 hi
      go_wp2
      go_ret
      rw [HNX.out]
      exact ⟨rfl, HI.out, _, _, HM2.out⟩
     ·have HNX := hide (second_and (m := m) (x := ⟨k, op, wd, sz, false, dst, src, off, imm⟩) rfl ⟨hk0, by unfold shiftsB; dsimp only; rw [h12]; simp⟩)
      clear hk0
      go_enter Tryz.func75, Tryz.ntmps75
      go_wp2_with fail
      refine (num_any HM.out.at_ (bits .and .i64 imm (wd - 1)) (and_i64 _ _)).mono ?_
      rintro e w2 ⟨rfl, hi, F2, G2, hm2⟩
      have HM2 := hide (HM.out.trans hm2)
      have HI := hide hi
      clear hm2 hi
      go_wp2
      go_ret
      rw [HNX.out]
      exact ⟨rfl, HI.out, _, _, HM2.out⟩
    ·have HNX := hide (second_and (m := m) (x := ⟨k, op, wd, sz, false, dst, src, off, imm⟩) rfl ⟨hk0, by unfold shiftsB; dsimp only; rw [h7]; simp⟩)
     clear hk0
     go_enter Tryz.func75, Tryz.ntmps75
     go_wp2_with fail
     refine (num_any HM.out.at_ (bits .and .i64 imm (wd - 1)) (and_i64 _ _)).mono ?_
     rintro e w2 ⟨rfl, hi, F2, G2, hm2⟩
     have HM2 := hide (HM.out.trans hm2)
     have HI := hide hi
     clear hm2 hi
     go_wp2
     go_ret
     rw [HNX.out]
     exact ⟨rfl, HI.out, _, _, HM2.out⟩
   ·have HNX := hide (second_and (m := m) (x := ⟨k, op, wd, sz, false, dst, src, off, imm⟩) rfl ⟨hk0, by unfold shiftsB; dsimp only; rw [h6]; simp⟩)
    clear hk0
    go_enter Tryz.func75, Tryz.ntmps75
    go_wp2_with fail
    refine (num_any HM.out.at_ (bits .and .i64 imm (wd - 1)) (and_i64 _ _)).mono ?_
    rintro e w2 ⟨rfl, hi, F2, G2, hm2⟩
    have HM2 := hide (HM.out.trans hm2)
    have HI := hide hi
    clear hm2 hi
    go_wp2
    go_ret
    rw [HNX.out]
    exact ⟨rfl, HI.out, _, _, HM2.out⟩
  ·have HNX := hide (second_imm (m := m) (x := ⟨k, op, wd, sz, false, dst, src, off, imm⟩) rfl (fun q => by have := q.1; dsimp only at this; rw [this] at hk; cases hk))
   go_enter Tryz.func75, Tryz.ntmps75
   go_wp2_with fail
   refine (num_any HM.out.at_ imm HIM.out).mono ?_
   rintro e w2 ⟨rfl, hi, F2, G2, hm2⟩
   have HM2 := hide (HM.out.trans hm2)
   have HI := hide hi
   clear hm2 hi
   go_wp2
   go_ret
   rw [HNX.out]
   exact ⟨rfl, HI.out, _, _, HM2.out⟩
 ·have hsr := hs rfl
  obtain ⟨d, rfl⟩ : ∃ d : Nat, src = (d : Int) := ⟨src.toNat, by omega⟩
  have hd : d < 11 := by omega
  have HNX := hide (second_reg (m := m) (x := ⟨k, op, wd, sz, true, dst, (d : Int), off, imm⟩) rfl)
  have cr := h.creg hd
  have hi := hide (h.reg_i64 hd)
  have hbw := h.lt
  obtain ⟨rv, hrv⟩ : ∃ v, m.regs.getD d 0 = v := ⟨_, rfl⟩
  rw [hrv] at cr hi
  have HRV := hide hrv
  clear h hx hbl hs hrv hsr
  go_enter Tryz.func75, Tryz.ntmps75
  go_upto_region 6 with fail
  go_region
  go_wp2
  go_ret
  rw [HNX.out]
  exact ⟨by unfold SM.reg; rw [show ((d : Int)).toNat = d by omega, HRV.out]; rfl, by unfold SM.reg; rw [show ((d : Int)).toNat = d by omega, HRV.out]; exact hi.out, _, _, HM.out.step ((Below.refl _ _).drew)⟩
end
end Go.Proofs.YtepagfkkjlbipaaGreat
end
