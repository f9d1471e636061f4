/-
  What was made is made again, in any pool that has grown out of that one: nothing is new. Conditions: those written in each statement.
  What was made is made again: conditions, choices, all of them. Conditions: those written in each statement.
  What commutes is one term either way. Conditions: those written in each statement.
  What commutes is one term either way: operations and conditions. Conditions: those written in each statement.
-/
import Derived.Test.YtfjflefgclfbfaaKc
section
namespace Go.Proofs.Ytfjflefgclfbfaa
open Go.RowKit
set_option linter.unusedVariables false
set_option linter.unusedSimpArgs false
set_option maxRecDepth 100000
theorem has_prt {p : PS} (hw : WfP p) {n k : Int} (hn : hasB p.T n = true) (hk : k ∈ prtL (atP p.T n)) : hasB p.T k = true := by
  have h := part_less hw hn hk
  unfold hasB at *
  simp at hn ⊢
  omega
theorem putR_again {p q : PS} (hq : WfP q) {t : TD} (h : (putR p t).2.2 = 0) (he : Ext (putR p t).1 q) : putR q t = (q, (putR p t).2.1, 0) := by
  have := put_again hq (p := p) (t := t) h he
  unfold putR
  rw [this.1, this.2]
theorem zext_again {q : PS} (hq : WfP q) : ∀ (f : Nat) {p : PS} (hw : WfP p) {w a : Int} {r : RS}, zextF f p w a = some r → r.2.2 = 0 → hasB p.T a = true → Ext p q → Ext r.1 q → zextF f q w a = some (q, r.2.1, 0)
  | 0, _, _, _, _, _, h, _, _, _, _ => by cases h
  | f + 1, p, hw, w, a, r, h, h0, ha, hpq, he => by
    rw [zextF_succ] at h ⊢
    have ea := hpq.at_ ha
    have en := narrow_ext hpq ha w
    rw [ea, en]
    split at h
    · rename_i h1; rw [if_pos h1]; injection h with h; subst h; rfl
    rename_i h1
    rw [if_neg h1]
    split at h
    · rename_i h2
      rw [if_pos h2]
      injection h with h
      subst h
      rw [putR_again hq h0 he]
    rename_i h2
    rw [if_neg h2]
    split at h
    · rename_i h3; rw [if_pos h3]; injection h with h; subst h; rfl
    rename_i h3
    rw [if_neg h3]
    split at h
    · rename_i h4
      rw [if_pos h4]
      exact zext_again hq f hw h h0 (has_part hw ha h4).2.2 hpq he
    · rename_i h4
      rw [if_neg h4]
      injection h with h
      subst h
      rw [putR_again hq h0 he]
theorem operand_again {p q : PS} (hq : WfP q) {x a : Int} (h0 : (operandP p x a).2.2 = 0) (ha : hasB p.T a = true) (hpq : Ext p q) (he : Ext (operandP p x a).1 q) : operandP q x a = (q, (operandP p x a).2.1, 0) := by
  have ea := hpq.at_ ha
  unfold operandP at h0 he ⊢
  dsimp only at h0 he ⊢
  rw [ea]
  by_cases h1 : (atP p.T a).kind = 0
  · rw [if_pos h1] at h0 he ⊢
    rw [if_pos h1]
    exact putR_again hq h0 he
  · rw [if_neg h1] at h0 he ⊢
    rw [if_neg h1]
    by_cases h2 : x = 32 ∧ (atP p.T a).kind = 3 ∧ (atP p.T a).w = 32
    · rw [if_pos h2, if_pos h2]
    · rw [if_neg h2, if_neg h2]
theorem both_again {p q : PS} (hw : WfP p) (hq : WfP q) {x a b : Int} (h0 : (bothP p x a b).2.2.2 = 0) (ha : hasB p.T a = true) (hb : hasB p.T b = true) (hpq : Ext p q) (he : Ext (bothP p x a b).1 q) : bothP q x a b = (q, (bothP p x a b).2.1, (bothP p x a b).2.2.1, 0) := by
  unfold bothP at h0 he ⊢
  dsimp only at h0 he ⊢
  by_cases h1 : (operandP p x a).2.2 = 0
  · rw [if_pos h1] at h0 he ⊢
    dsimp only at h0 he ⊢
    have e1 := operand_ext p x a
    have e2 := operand_ext (operandP p x a).1 x b
    have o1 := operand_again hq h1 ha hpq (e2.trans he)
    have o2 := operand_again hq h0 (e1.has hb) (e2.trans he) he
    rw [o1]
    dsimp only
    rw [if_pos rfl, o2]
  · rw [if_neg h1] at h0
    exact absurd h0 h1
theorem bind_again {p1 q : PS} {r s : RS} {k1 k2 : PS → Int → Option RS} (hq : WfP q) {t : TD} (h : bindR (putR p1 t) k1 = some s) (h0 : s.2.2 = 0) (hes : ∀ s, (putR p1 t).2.2 = 0 → k1 (putR p1 t).1 (putR p1 t).2.1 = some s → Ext (putR p1 t).1 s.1)
    (he : Ext s.1 q) (hk : ∀ s, (putR p1 t).2.2 = 0 → k1 (putR p1 t).1 (putR p1 t).2.1 = some s → s.2.2 = 0 → Ext s.1 q → k2 q (putR p1 t).2.1 = some (q, s.2.1, 0)) : bindR (putR p1 t) k1 = some s ∧ bindR (putR q t) k2 = some (q, s.2.1, 0) := by
  refine ⟨h, ?_⟩
  have h' := h
  unfold bindR at h'
  split at h'
  · rename_i hz
    have hx := hes s hz h'
    rw [putR_again hq hz (hx.trans he)]
    unfold bindR
    dsimp only
    rw [if_pos rfl]
    exact hk s hz h' h0 he
  · rename_i hz
    injection h' with h'
    subst h'
    exact absurd h0 hz
theorem assoc_ext {p q : PS} (hw : WfP p) (hpq : Ext p q) {a : Int} (ha : hasB p.T a = true) (op x : Int) (rt : Bool) : assocB q.T (atP p.T a) op x rt = assocB p.T (atP p.T a) op x rt := by
  unfold assocB
  by_cases hk : (atP p.T a).kind = 2
  · rw [hpq.at_ (has_prt hw ha (k := (atP p.T a).b) (by unfold prtL; rw [if_pos (.inl hk)]; simp))]
  · have : ((atP p.T a).kind == 2) = false := by simpa using hk
    rw [this]
    simp
set_option maxHeartbeats 1000000 in
theorem opL_good (f : Nat) {p1 : PS} (hw : WfP p1) (hr : ∀ t ∈ p1.T, t.wf) {op x a1 b1 : Int} (hI8 : I8 op ∧ I8 x) (ha : hasB p1.T a1 = true) (hb : hasB p1.T b1 = true) {r : RS} (h : opL (fun q o u v => opF f q o x u v) f p1 op x a1 b1 = some r) : Good p1 r := by
  have hc : ∀ {n : Int}, U64 n → Good p1 (putR p1 (constT n)) := fun hn => Good.put hw hr (constT_wf hn)
  have hsn := (atP_wf hr a1).2.2.2.1
  have hyn := (atP_wf hr b1).2.2.2.1
  have hrg : ∀ {q : PS} (h1 : WfP q) (h2 : ∀ t ∈ q.T, t.wf) {o u v : Int} {s : RS}, opF f q o x u v = some s → Good q s := fun {_} h1 h2 {_ _ _ _} hs => op_good f h1 h2 hs
  unfold opL at h
  dsimp only at h
  split at h
  · injection h with h; subst h; exact hc (cutV_u64 (doV_u64 (cutV_u64 hsn) (cutV_u64 hyn)))
  split at h
  · exact Good.bind (hc zero_u64) (fun _ s hs => hrg (hc zero_u64).wf (hc zero_u64).rng hs) h
  split at h
  · exact zext_good f hw hr hI8.2 hb h
  split at h
  · have hu : U64 (cutV x (IntKind.u64.wrap (-(atP p1.T b1).n))) := cutV_u64 (wrap_u64 _)
    exact Good.bind (hc hu) (fun _ s hs => hrg (hc hu).wf (hc hu).rng hs) h
  split at h
  · exact hrg hw hr h
  split at h
  · have hu : U64 (cutV x (IntKind.u64.wrap ((atP p1.T (atP p1.T a1).b).n + (atP p1.T b1).n))) := cutV_u64 (wrap_u64 _)
    exact Good.bind (hc hu) (fun _ s hs => hrg (hc hu).wf (hc hu).rng hs) h
  split at h
  · exact zext_good f hw hr hI8.2 ha h
  split at h
  · injection h with h; subst h; exact hc zero_u64
  split at h
  · injection h with h; subst h; exact hc zero_u64
  split at h
  · exact zext_good f hw hr hI8.2 ha h
  · injection h with h; subst h
    exact Good.put hw hr (opT_wf' hI8.1 hI8.2 (has_i64 hw ha) (has_i64 hw hb))
set_option maxHeartbeats 2000000 in
theorem op_again {q : PS} (hq : WfP q) : ∀ (f : Nat) {p : PS} (hw : WfP p) (hr : ∀ t ∈ p.T, t.wf) {op x a b : Int} {r : RS}, opF f p op x a b = some r → r.2.2 = 0 → Ext r.1 q → opF f q op x a b = some (q, r.2.1, 0)
  | 0, _, _, _, _, _, _, _, _, h, _, _ => by cases h
  | f + 1, p, hw, hr, op, x, a, b, r, h, h0, he => by
    have hpr : Ext p q := (op_good (f + 1) hw hr h).ext.trans he
    rw [opF_succ] at h ⊢
    split at h
    · injection h with h; subst h; cases h0
    rename_i hab
    have hab : hasB p.T a = true ∧ hasB p.T b = true := by simpa using hab
    rw [if_neg (by rw [hpr.has hab.1, hpr.has hab.2]; simp)]
    split at h
    · injection h with h; subst h; cases h0
    rename_i hd
    rw [if_neg hd]
    have hd := doOk_yes (op := op) (x := x) (by simpa using hd)
    have hI8 : I8 op ∧ I8 x := by unfold I8; omega
    have hw2 := both_wf hw hr (has_i64 hw hab.1) (has_i64 hw hab.2) x
    split at h
    · rename_i hz
      have hf := both_facts hw hr hab.1 hab.2 hz
      have hrec : ∀ {p2 : PS} (h1 : WfP p2) (h2 : ∀ t ∈ p2.T, t.wf) {o u v : Int} {s : RS}, opF f p2 o x u v = some s → s.2.2 = 0 → Ext s.1 q → opF f q o x u v = some (q, s.2.1, 0) := fun {_} h1 h2 {_ _ _ _} hs hs0 he => op_again hq f h1 h2 hs hs0 he
      have hext : Ext (bothP p x a b).1 r.1 := (opL_good f hw2.1 hw2.2 hI8 hf.1 hf.2.1 h).ext
      have hbq := hext.trans he
      have hba := both_again hw hq hz hab.1 hab.2 hpr hbq
      rw [hba]
      dsimp only
      rw [if_pos rfl]
      generalize bothP p x a b = z at h hf hw2 hbq hext
      obtain ⟨p1, a1, b1, e1⟩ := z
      dsimp only at h hf hw2 hbq ⊢
      have ea := hbq.at_ hf.1
      have eb := hbq.at_ hf.2.1
      have eas := assoc_ext hw2.1 hbq hf.1 op x ((atP p1.T b1).kind == 0)
      have hgc : ∀ {n : Int}, U64 n → Good p1 (putR p1 (constT n)) := fun hn => Good.put hw2.1 hw2.2 (constT_wf hn)
      have bnd : ∀ {o u : Int} {n : Int} (g : Int → Int × Int) {s : RS}, U64 n → bindR (putR p1 (constT n)) (fun q1 z => opF f q1 o x (g z).1 (g z).2) = some s → s.2.2 = 0 → Ext s.1 q → bindR (putR q (constT n)) (fun q1 z => opF f q1 o x (g z).1 (g z).2) = some (q, s.2.1, 0) := by
        intro o u n g s hn hs hs0 hse
        refine (bind_again (r := s) hq hs hs0 (fun s' hz' hk => (op_good f (hgc hn).wf (hgc hn).rng hk).ext) hse fun s' hz' hk hk0 hke => ?_).2
        exact hrec (hgc hn).wf (hgc hn).rng hk hk0 hke
      unfold opL at h ⊢
      dsimp only at h ⊢
      rw [ea, eb, eas]
      have hpu : ∀ {t : TD}, some (putR p1 t) = some r → some (putR q t) = some (q, r.2.1, 0) := by
        intro t ht
        injection ht with ht
        subst ht
        rw [putR_again hq h0 he]
      split at h
      · rename_i c1; rw [if_pos c1]; exact hpu h
      rename_i c1; rw [if_neg c1]
      split at h
      · rename_i c2; rw [if_pos c2]; exact bnd (u := 0) (fun z => (z, a1)) zero_u64 h h0 he
      rename_i c2; rw [if_neg c2]
      split at h
      · rename_i c3; rw [if_pos c3]; exact zext_again hq f hw2.1 h h0 hf.2.1 hbq he
      rename_i c3; rw [if_neg c3]
      split at h
      · rename_i c4; rw [if_pos c4]; exact bnd (u := 0) (fun z => (a1, z)) (cutV_u64 (wrap_u64 _)) h h0 he
      rename_i c4; rw [if_neg c4]
      split at h
      · rename_i c5; rw [if_pos c5]; exact hrec hw2.1 hw2.2 h h0 he
      rename_i c5; rw [if_neg c5]
      split at h
      · rename_i c6
        rw [if_pos c6]
        have hk2 : (atP p1.T a1).kind = 2 := by unfold assocB at c6; simp at c6; exact c6.2.2.2.1
        rw [hbq.at_ (has_prt hw2.1 hf.1 (k := (atP p1.T a1).b) (by unfold prtL; rw [if_pos (.inl hk2)]; simp))]
        exact bnd (u := 0) (fun z => ((atP p1.T a1).a, z)) (cutV_u64 (wrap_u64 _)) h h0 he
      rename_i c6; rw [if_neg c6]
      split at h
      · rename_i c7; rw [if_pos c7]; exact zext_again hq f hw2.1 h h0 hf.1 hbq he
      rename_i c7; rw [if_neg c7]
      split at h
      · rename_i c8; rw [if_pos c8]; exact hpu h
      rename_i c8; rw [if_neg c8]
      split at h
      · rename_i c9; rw [if_pos c9]; exact hpu h
      rename_i c9; rw [if_neg c9]
      split at h
      · rename_i c10; rw [if_pos c10]; exact zext_again hq f hw2.1 h h0 hf.1 hbq he
      rename_i c10; rw [if_neg c10]
      exact hpu h
    · rename_i hz
      injection h with h
      subst h
      exact absurd h0 hz
end Go.Proofs.Ytfjflefgclfbfaa
end
section
namespace Go.Proofs.Ytfjflefgclfbfaa
open Go.RowKit
set_option linter.unusedVariables false
set_option linter.unusedSimpArgs false
set_option maxRecDepth 100000
theorem condL_good (f : Nat) {p1 : PS} (hw : WfP p1) (hr : ∀ t ∈ p1.T, t.wf) {cc x a1 b1 : Int} (hI8 : I8 cc ∧ I8 x) (ha : hasB p1.T a1 = true) (hb : hasB p1.T b1 = true) {r : RS} (h : condL (fun q o u v => condF f q o x u v) p1 cc x a1 b1 = some r) : Good p1 r := by
  unfold condL at h
  dsimp only at h
  have hia := has_i64 hw ha
  have hib := has_i64 hw hb
  split at h
  · injection h with h; subst h; exact Good.put hw hr (constT_wf (flagV_u64 _))
  split at h
  · injection h with h; subst h; exact Good.put hw hr (constT_wf (flagV_u64 _))
  split at h
  · exact cond_good f hw hr h
  split at h
  · injection h with h; subst h; exact Good.put hw hr (condT_wf hI8.1 hI8.2 hib hia)
  · injection h with h; subst h; exact Good.put hw hr (condT_wf hI8.1 hI8.2 hia hib)
theorem cond_again {q : PS} (hq : WfP q) : ∀ (f : Nat) {p : PS} (hw : WfP p) (hr : ∀ t ∈ p.T, t.wf) {cc x a b : Int} {r : RS}, condF f p cc x a b = some r → r.2.2 = 0 → Ext r.1 q → condF f q cc x a b = some (q, r.2.1, 0)
  | 0, _, _, _, _, _, _, _, _, h, _, _ => by cases h
  | f + 1, p, hw, hr, cc, x, a, b, r, h, h0, he => by
    have hpr : Ext p q := (cond_good (f + 1) hw hr h).ext.trans he
    rw [condF_succ] at h ⊢
    split at h
    · injection h with h; subst h; cases h0
    rename_i hab
    have hab : hasB p.T a = true ∧ hasB p.T b = true := by simpa using hab
    rw [if_neg (by rw [hpr.has hab.1, hpr.has hab.2]; simp)]
    split at h
    · injection h with h; subst h; cases h0
    rename_i hd
    rw [if_neg hd]
    have hd := holdsOk_yes (cc := cc) (x := x) (by simpa using hd)
    have hI8 : I8 cc ∧ I8 x := by unfold I8; omega
    have hw2 := both_wf hw hr (has_i64 hw hab.1) (has_i64 hw hab.2) x
    split at h
    · rename_i hz
      have hf := both_facts hw hr hab.1 hab.2 hz
      have hrec : ∀ {p2 : PS} (h1 : WfP p2) (h2 : ∀ t ∈ p2.T, t.wf) {o u v : Int} {s : RS}, condF f p2 o x u v = some s → s.2.2 = 0 → Ext s.1 q → condF f q o x u v = some (q, s.2.1, 0) := fun {_} h1 h2 {_ _ _ _} hs hs0 he => cond_again hq f h1 h2 hs hs0 he
      have hext : Ext (bothP p x a b).1 r.1 := (condL_good f hw2.1 hw2.2 hI8 hf.1 hf.2.1 h).ext
      have hbq := hext.trans he
      have hba := both_again hw hq hz hab.1 hab.2 hpr hbq
      rw [hba]
      dsimp only
      rw [if_pos rfl]
      generalize bothP p x a b = z at h hf hw2 hbq hext
      obtain ⟨p1, a1, b1, e1⟩ := z
      dsimp only at h hf hw2 hbq ⊢
      have ea := hbq.at_ hf.1
      have eb := hbq.at_ hf.2.1
      unfold condL at h ⊢
      dsimp only at h ⊢
      rw [ea, eb]
      have hpu : ∀ {t : TD}, some (putR p1 t) = some r → some (putR q t) = some (q, r.2.1, 0) := by
        intro t ht
        injection ht with ht
        subst ht
        rw [putR_again hq h0 he]
      split at h
      · rename_i c1; rw [if_pos c1]; exact hpu h
      rename_i c1; rw [if_neg c1]
      split at h
      · rename_i c2; rw [if_pos c2]; exact hpu h
      rename_i c2; rw [if_neg c2]
      split at h
      · rename_i c3; rw [if_pos c3]; exact hrec hw2.1 hw2.2 h h0 he
      rename_i c3; rw [if_neg c3]
      split at h
      · rename_i c4; rw [if_pos c4]; exact hpu h
      rename_i c4; rw [if_neg c4]
      exact hpu h
    · rename_i hz
      injection h with h
      subst h
      exact absurd h0 hz
theorem isP_ext {p q : PS} (he : Ext p q) {n : Int} (hn : hasB p.T n = true) (v : Int) : isP q.T n v = isP p.T n v := by unfold isP; rw [he.at_ hn]
theorem likeP_ext {p q : PS} (he : Ext p q) {n : Int} (hn : hasB p.T n = true) (u x : Int) : likeP q.T n u x = likeP p.T n u x := by unfold likeP; rw [he.at_ hn]
theorem and_cong {a b c : Bool} (h : a = true → b = c) : (a && b) = (a && c) := by
  cases a
  · rfl
  · rw [h rfl]
theorem divOK_ext {p q : PS} (hw : WfP p) (he : Ext p q) {a b c : Int} (ha : hasB p.T a = true) (hb : hasB p.T b = true) (hc : hasB p.T c = true) : divOK q.T a b c = divOK p.T a b c := by
  have hA : divA q.T a c = divA p.T a c := by
    unfold divA
    rw [he.at_ ha, he.at_ hc]
    by_cases hk : (atP p.T a).kind = 4
    · rw [isP_ext he (has_prt hw ha (by unfold prtL; rw [if_pos (.inr hk)]; simp))]
    · have : ((atP p.T a).kind == 4) = false := by simpa using hk
      rw [this]
      simp
  unfold divOK
  rw [hA]
  refine and_cong fun h => ?_
  have hk : (atP p.T a).kind = 4 ∧ (atP p.T c).kind = 2 := by
    unfold divA at h
    simp at h
    exact ⟨h.1.1.1.1, h.1.2⟩
  have hcb : hasB p.T (atP p.T c).b = true := has_prt hw hc (by unfold prtL; rw [if_pos (.inl hk.2)]; simp)
  have hG : divG q.T a c = divG p.T a c := by
    unfold divG
    rw [he.at_ hc, he.at_ ha, he.at_ hcb]
    refine and_cong fun h5 => and_cong fun _ => ?_
    have h5 : (atP p.T (atP p.T c).b).kind = 5 := by simpa using h5
    rw [isP_ext he (has_prt hw hcb (by unfold prtL; rw [if_neg (by omega), if_neg (by omega), if_pos h5]; simp)), likeP_ext he (has_prt hw hcb (by unfold prtL; rw [if_neg (by omega), if_neg (by omega), if_pos h5]; simp))]
  have hD : divD q.T b c = divD p.T b c := by
    unfold divD
    rw [he.at_ hc, isP_ext he hb]
  have hM : divM q.T a b c = divM p.T a b c := by
    unfold divM
    rw [he.at_ hc, he.at_ ha, likeP_ext he hb, narrow_ext he hb]
  rw [hG, hD, hM]
theorem ite_again {q : PS} (hq : WfP q) : ∀ (f : Nat) {p : PS} (hw : WfP p) (hr : ∀ t ∈ p.T, t.wf) {a b c : Int} {r : RS}, iteF f p a b c = some r → r.2.2 = 0 → Ext r.1 q → iteF f q a b c = some (q, r.2.1, 0)
  | 0, _, _, _, _, _, _, _, h, _, _ => by cases h
  | f + 1, p, hw, hr, a, b, c, r, h, h0, he => by
    have hpr : Ext p q := (ite_good (f + 1) hw hr h).ext.trans he
    rw [iteF_succ] at h ⊢
    split at h
    · injection h with h; subst h; cases h0
    rename_i hab
    have hab : hasB p.T a = true ∧ hasB p.T b = true ∧ hasB p.T c = true := by simpa using hab
    rw [if_neg (by simp [hpr.has hab.1, hpr.has hab.2.1, hpr.has hab.2.2])]
    unfold iteL at h ⊢
    dsimp only at h ⊢
    rw [hpr.at_ hab.1, hpr.at_ hab.2.2, divOK_ext hw hpr hab.1 hab.2.1 hab.2.2]
    split at h
    · rename_i c1; rw [if_pos c1]; injection h with h; subst h; rfl
    rename_i c1; rw [if_neg c1]
    split at h
    · rename_i c2; rw [if_pos c2]; injection h with h; subst h; rfl
    rename_i c2; rw [if_neg c2]
    split at h
    · rename_i c3
      rw [if_pos c3]
      rw [Option.bind_eq_some_iff] at h ⊢
      obtain ⟨q1, hq1, h⟩ := h
      have hg := cond_good (f + 1) hw hr hq1
      unfold bindR at h
      split at h
      · rename_i hz
        have hi := ite_good f hg.wf hg.rng h
        refine ⟨_, cond_again hq (f + 1) hw hr hq1 hz (hi.ext.trans he), ?_⟩
        unfold bindR
        rw [if_pos rfl]
        exact ite_again hq f hg.wf hg.rng h h0 he
      · rename_i hz
        injection h with h
        subst h
        exact absurd h0 hz
    rename_i c3; rw [if_neg c3]
    split at h
    · rename_i c4; rw [if_pos c4]; exact op_again hq f hw hr h h0 he
    rename_i c4; rw [if_neg c4]
    injection h with h
    subst h
    rw [putR_again hq h0 he]
/-- WHAT WAS MADE IS MADE AGAIN. -/
theorem mk_again {p q : PS} (hq : WfP q) (hw : WfP p) (hr : ∀ t ∈ p.T, t.wf) {x : MD} {l : List Int} {r : RS} (hx : x.wf) (h : MkS p x l r) (h0 : r.2.2 = 0) (he : Ext r.1 q) : MkS q x l (q, r.2.1, 0) := by
  have hpq := (mk_good hw hr hx h).ext.trans he
  obtain ⟨f, h⟩ := h
  refine ⟨f, ?_⟩
  unfold mkF at h ⊢
  split at h
  · rename_i c1; rw [if_pos c1]; injection h with h; subst h; rw [putR_again hq h0 he]
  rename_i c1; rw [if_neg c1]
  split at h
  · rename_i c2; rw [if_pos c2]; injection h with h; subst h; rw [putR_again hq h0 he]
  rename_i c2; rw [if_neg c2]
  split at h
  · rename_i c3; rw [if_pos c3]; exact op_again hq f hw hr h h0 he
  rename_i c3; rw [if_neg c3]
  split at h
  · rename_i c4
    rw [if_pos c4]
    unfold zextO at h ⊢
    split at h
    · injection h with h; subst h; cases h0
    · rename_i hz
      have hz : hasB p.T (pickP l x.a) = true ∧ wdB x.w = true := by simpa using hz
      rw [if_neg (by rw [hpq.has hz.1, hz.2]; simp)]
      exact zext_again hq f hw h h0 hz.1 hpq he
  rename_i c4; rw [if_neg c4]
  split at h
  · rename_i c5; rw [if_pos c5]; exact cond_again hq f hw hr h h0 he
  rename_i c5; rw [if_neg c5]
  exact ite_again hq f hw hr h h0 he
/-- Answers do not hang on the fuel. -/
theorem MkS.fn {p : PS} {x : MD} {l : List Int} {r s : RS} (h : MkS p x l r) (k : MkS p x l s) : r = s := by
  obtain ⟨f, h⟩ := h
  obtain ⟨g, k⟩ := k
  have mono : ∀ {f g : Nat} {r : RS}, f ≤ g → mkF f p x l = some r → mkF g p x l = some r := by
    intro f g r hfg h
    unfold mkF at h ⊢
    split at h
    · rename_i c; rw [if_pos c]; exact h
    rename_i c; rw [if_neg c]
    split at h
    · rename_i c; rw [if_pos c]; exact h
    rename_i c; rw [if_neg c]
    split at h
    · rename_i c; rw [if_pos c]; exact opF_mono f _ _ _ _ _ _ hfg h
    rename_i c; rw [if_neg c]
    split at h
    · rename_i c
      rw [if_pos c]
      unfold zextO at h ⊢
      split at h
      · rename_i c; rw [if_pos c]; exact h
      · rename_i c; rw [if_neg c]; exact zextF_mono f _ _ _ _ hfg h
    rename_i c; rw [if_neg c]
    split at h
    · rename_i c; rw [if_pos c]; exact condF_mono f _ _ _ _ _ _ hfg h
    rename_i c; rw [if_neg c]
    exact iteF_mono f _ _ _ _ _ hfg h
  have h1 := mono (Nat.le_max_left f g) h
  have h2 := mono (Nat.le_max_right f g) k
  rw [h1] at h2
  injection h2
end Go.Proofs.Ytfjflefgclfbfaa
end
section
namespace Go.Proofs.Ytfjflefgclfbfaa
open Go.RowKit
set_option linter.unusedVariables false
set_option linter.unusedSimpArgs false
set_option maxRecDepth 100000
theorem and_comm64 (a b : Int) : bits .and .u64 a b = bits .and .u64 b a := by unfold bits; dsimp only; rw [BitVec.and_comm]
theorem or_comm64 (a b : Int) : bits .or .u64 a b = bits .or .u64 b a := by unfold bits; dsimp only; rw [BitVec.or_comm]
theorem xor_comm64 (a b : Int) : bits .xor .u64 a b = bits .xor .u64 b a := by unfold bits; dsimp only; rw [BitVec.xor_comm]
theorem turns_cases {op : Int} (h : turnsB op = true) : op = 0 ∨ op = 2 ∨ op = 4 ∨ op = 5 ∨ op = 10 := by unfold turnsB at h; simp at h; exact h
theorem doU_comm {op : Int} (h : turnsB op = true) (x a b : Int) : doU op x a b = doU op x b a := by
  unfold doU doV
  rcases turns_cases h with rfl | rfl | rfl | rfl | rfl
  · simp only [if_pos]; rw [Int.add_comm]
  · rw [if_neg (by decide), if_neg (by decide), if_pos rfl, if_neg (by decide), if_neg (by decide), if_pos rfl, Int.mul_comm]
  · rw [if_neg (by decide), if_neg (by decide), if_neg (by decide), if_neg (by decide), if_pos rfl, if_neg (by decide), if_neg (by decide), if_neg (by decide), if_neg (by decide), if_pos rfl, or_comm64]
  · rw [if_neg (by decide), if_neg (by decide), if_neg (by decide), if_neg (by decide), if_neg (by decide), if_pos rfl, if_neg (by decide), if_neg (by decide), if_neg (by decide), if_neg (by decide), if_neg (by decide), if_pos rfl, and_comm64]
  · rw [if_neg (by decide), if_neg (by decide), if_neg (by decide), if_neg (by decide), if_neg (by decide), if_neg (by decide), if_neg (by decide), if_neg (by decide), if_neg (by decide), if_neg (by decide), if_pos rfl, if_neg (by decide), if_neg (by decide), if_neg (by decide), if_neg (by decide), if_neg (by decide), if_neg (by decide), if_neg (by decide), if_neg (by decide), if_neg (by decide), if_neg (by decide), if_pos rfl, xor_comm64]
theorem ord_eq (a b : Int) : (ordV a b == 0) = (ordV b a == 0) := by
  unfold ordV
  by_cases h1 : a < b
  · rw [if_pos h1, if_neg (show ¬ b < a by omega), if_pos h1]; decide
  · rw [if_neg h1]
    by_cases h2 : b < a
    · rw [if_pos h2, if_pos h2]; decide
    · rw [if_neg h2, if_neg h2, if_neg h1]
theorem holds_comm {cc : Int} (h : cc = 0 ∨ cc = 1 ∨ cc = 10) (x a b : Int) : holdsU cc x a b = holdsU cc x b a := by
  unfold holdsU
  rcases h with rfl | rfl | rfl
  · simp
    have := ord_eq (cutV x a) (cutV x b)
    revert this
    cases h1 : (ordV (cutV x a) (cutV x b) == 0) <;> cases h2 : (ordV (cutV x b) (cutV x a) == 0) <;> simp_all
  · simp
    have := ord_eq (cutV x a) (cutV x b)
    unfold bne
    rw [this]
  · simp only [if_pos]
    rw [and_comm64]
/-- No cut is a cut of a constant or of a cut. -/
def NZ (p : PS) : Prop := ∀ n : Int, hasB p.T n = true → (atP p.T n).kind = 3 → (atP p.T (atP p.T n).a).kind ≠ 0 ∧ (atP p.T (atP p.T n).a).kind ≠ 3
/-- What norm puts. -/
def Al (q : PS) (t : TD) : Prop := t.kind ≠ 3 ∨ ∃ w a, t = zextT w a ∧ hasB q.T a = true ∧ (atP q.T a).kind ≠ 0 ∧ (atP q.T a).kind ≠ 3
theorem NZ.put {p : PS} (h : NZ p) (hw : WfP p) {t : TD} (ht : Al p t) : NZ (putP p t) := by
  intro n hn hk
  rcases putP_cases p t with ⟨e, _⟩ | ⟨hok, _, _, _, e, _⟩
  · rw [e] at hn hk ⊢; exact h n hn hk
  · have he : Ext p (putP p t) := Ext.put p t
    cases hb : hasB p.T n
    · -- the new one
      have hn2 : n = (p.T.length : Int) := by
        rw [e] at hn
        unfold hasB at hn hb
        simp at hn hb
        omega
      have hat : atP (putP p t).T n = t := by
        unfold atP
        rw [if_pos hn, e, hn2]
        simp
      rw [hat] at hk ⊢
      rcases ht with ht | ⟨w, a, rfl, ha, k0, k3⟩
      · exact absurd hk ht
      · show (atP (putP p (zextT w a)).T a).kind ≠ 0 ∧ (atP (putP p (zextT w a)).T a).kind ≠ 3
        rw [he.at_ ha]
        exact ⟨k0, k3⟩
    · rw [he.at_ hb] at hk ⊢
      rw [he.at_ (has_part hw hb hk).2.2]
      exact h n hb hk
theorem NZ.nil : NZ ⟨[], []⟩ := fun n hn => by unfold hasB at hn; simp at hn; omega
theorem NZ.bind {p : PS} {r s : RS} {k : PS → Int → Option RS} (h : NZ r.1) (hk : r.2.2 = 0 → ∀ s, k r.1 r.2.1 = some s → NZ s.1) (hs : bindR r k = some s) : NZ s.1 := by
  unfold bindR at hs
  split at hs
  · rename_i h0; exact hk h0 s hs
  · injection hs with hs; subst hs; exact h
theorem NZ.putR {p : PS} (h : NZ p) (hw : WfP p) {t : TD} (ht : t.kind ≠ 3) : NZ (putR p t).1 := h.put hw (.inl ht)
theorem zext_nz : ∀ (f : Nat) {p : PS} (hz : NZ p) (hw : WfP p) {x a : Int} {r : RS} (ha : hasB p.T a = true), zextF f p x a = some r → NZ r.1
  | 0, _, _, _, _, _, _, _, h => by cases h
  | f + 1, p, hz, hw, x, a, r, ha, h => by
    rw [zextF_succ] at h
    split at h
    · injection h with h; subst h; exact hz
    split at h
    · injection h with h; subst h; exact hz.putR hw (by show (0 : Int) ≠ 3; decide)
    rename_i k0
    split at h
    · injection h with h; subst h; exact hz
    split at h
    · rename_i h3; exact zext_nz f hz hw (has_part hw ha h3).2.2 h
    · rename_i k3
      injection h with h; subst h
      exact hz.put hw (.inr ⟨x, a, rfl, ha, k0, k3⟩)
theorem operand_nz {p : PS} (hz : NZ p) (hw : WfP p) (x a : Int) : NZ (operandP p x a).1 := by
  rcases operand_cases p x a with ⟨_, e⟩ | ⟨_, e⟩ | ⟨_, e⟩
  · rw [e]; exact hz.putR hw (by show (0 : Int) ≠ 3; decide)
  · rw [e]; exact hz
  · rw [e]; exact hz
theorem both_nz {p : PS} (hz : NZ p) (hw : WfP p) (hr : ∀ t ∈ p.T, t.wf) {a b : Int} (ha : I64 a) (x : Int) : NZ (bothP p x a b).1 := by
  have h1 := operand_nz hz hw x a
  have h2 := (operand_i64 hw hr ha x).2.1
  unfold bothP
  dsimp only
  split
  · exact operand_nz h1 h2 x b
  · exact h1
theorem op_nz : ∀ (f : Nat) {p : PS} (hz : NZ p) (hw : WfP p) (hr : ∀ t ∈ p.T, t.wf) {op x a b : Int} {r : RS}, opF f p op x a b = some r → NZ r.1
  | 0, _, _, _, _, _, _, _, _, _, h => by cases h
  | f + 1, p, hz, hw, hr, op, x, a, b, r, h => by
    rw [opF_succ] at h
    split at h
    · injection h with h; subst h; exact hz
    rename_i hab
    have hab : hasB p.T a = true ∧ hasB p.T b = true := by simpa using hab
    split at h
    · injection h with h; subst h; exact hz
    have hw2 := both_wf hw hr (has_i64 hw hab.1) (has_i64 hw hab.2) x
    have hz2 := both_nz (b := b) hz hw hr (has_i64 hw hab.1) x
    split at h
    · rename_i h0
      have hf := both_facts hw hr hab.1 hab.2 h0
      generalize bothP p x a b = z at h hw2 hf hz2
      obtain ⟨p1, a1, b1, e1⟩ := z
      dsimp only at h hw2 hf hz2
      have hc : ∀ {n : Int}, U64 n → Good p1 (putR p1 (constT n)) := fun hn => Good.put hw2.1 hw2.2 (constT_wf hn)
      have hn : ∀ n : Int, NZ (putR p1 (constT n)).1 := fun n => hz2.putR hw2.1 (by show (0 : Int) ≠ 3; decide)
      unfold opL at h
      dsimp only at h
      split at h
      · injection h with h; subst h; exact hn _
      split at h
      · exact NZ.bind (p := p1) (hn 0) (fun _ s hs => op_nz f (hn 0) (hc zero_u64).wf (hc zero_u64).rng hs) h
      split at h
      · exact zext_nz f hz2 hw2.1 hf.2.1 h
      split at h
      · have hu : U64 (cutV x (IntKind.u64.wrap (-(atP p1.T b1).n))) := cutV_u64 (wrap_u64 _)
        exact NZ.bind (p := p1) (hn _) (fun _ s hs => op_nz f (hn _) (hc hu).wf (hc hu).rng hs) h
      split at h
      · exact op_nz f hz2 hw2.1 hw2.2 h
      split at h
      · have hu : U64 (cutV x (IntKind.u64.wrap ((atP p1.T (atP p1.T a1).b).n + (atP p1.T b1).n))) := cutV_u64 (wrap_u64 _)
        exact NZ.bind (p := p1) (hn _) (fun _ s hs => op_nz f (hn _) (hc hu).wf (hc hu).rng hs) h
      split at h
      · exact zext_nz f hz2 hw2.1 hf.1 h
      split at h
      · injection h with h; subst h; exact hn _
      split at h
      · injection h with h; subst h; exact hn _
      split at h
      · exact zext_nz f hz2 hw2.1 hf.1 h
      · injection h with h; subst h; exact hz2.putR hw2.1 (by show (2 : Int) ≠ 3; decide)
    · injection h with h; subst h; exact hz2
theorem cond_nz : ∀ (f : Nat) {p : PS} (hz : NZ p) (hw : WfP p) (hr : ∀ t ∈ p.T, t.wf) {cc x a b : Int} {r : RS}, condF f p cc x a b = some r → NZ r.1
  | 0, _, _, _, _, _, _, _, _, _, h => by cases h
  | f + 1, p, hz, hw, hr, cc, x, a, b, r, h => by
    rw [condF_succ] at h
    split at h
    · injection h with h; subst h; exact hz
    rename_i hab
    have hab : hasB p.T a = true ∧ hasB p.T b = true := by simpa using hab
    split at h
    · injection h with h; subst h; exact hz
    have hw2 := both_wf hw hr (has_i64 hw hab.1) (has_i64 hw hab.2) x
    have hz2 := both_nz (b := b) hz hw hr (has_i64 hw hab.1) x
    split at h
    · unfold condL at h
      dsimp only at h
      split at h
      · injection h with h; subst h; exact hz2.putR hw2.1 (by show (0 : Int) ≠ 3; decide)
      split at h
      · injection h with h; subst h; exact hz2.putR hw2.1 (by show (0 : Int) ≠ 3; decide)
      split at h
      · exact cond_nz f hz2 hw2.1 hw2.2 h
      split at h
      · injection h with h; subst h; exact hz2.putR hw2.1 (by show (4 : Int) ≠ 3; decide)
      · injection h with h; subst h; exact hz2.putR hw2.1 (by show (4 : Int) ≠ 3; decide)
    · injection h with h; subst h; exact hz2
theorem ite_nz : ∀ (f : Nat) {p : PS} (hz : NZ p) (hw : WfP p) (hr : ∀ t ∈ p.T, t.wf) {a b c : Int} {r : RS}, iteF f p a b c = some r → NZ r.1
  | 0, _, _, _, _, _, _, _, _, h => by cases h
  | f + 1, p, hz, hw, hr, a, b, c, r, h => by
    rw [iteF_succ] at h
    split at h
    · injection h with h; subst h; exact hz
    unfold iteL at h
    dsimp only at h
    split at h
    · injection h with h; subst h; exact hz
    split at h
    · injection h with h; subst h; exact hz
    split at h
    · rw [Option.bind_eq_some_iff] at h
      obtain ⟨q, hq, h⟩ := h
      have hg := cond_good (f + 1) hw hr hq
      have hn := cond_nz (f + 1) hz hw hr hq
      exact NZ.bind (p := p) hn (fun _ s hs => ite_nz f hn hg.wf hg.rng hs) h
    split at h
    · exact op_nz f hz hw hr h
    · injection h with h; subst h; exact hz.putR hw (by show (5 : Int) ≠ 3; decide)
theorem mk_nz {p : PS} (hz : NZ p) (hw : WfP p) (hr : ∀ t ∈ p.T, t.wf) {x : MD} {l : List Int} {r : RS} (h : MkS p x l r) : NZ r.1 := by
  obtain ⟨f, h⟩ := h
  unfold mkF at h
  split at h
  · injection h with h; subst h; exact hz.putR hw (by show (0 : Int) ≠ 3; decide)
  split at h
  · injection h with h; subst h; exact hz.putR hw (by show (1 : Int) ≠ 3; decide)
  split at h
  · exact op_nz f hz hw hr h
  split at h
  · unfold zextO at h
    split at h
    · injection h with h; subst h; exact hz
    · rename_i hc
      have hc : hasB p.T (pickP l x.a) = true ∧ wdB x.w = true := by simpa using hc
      exact zext_nz f hz hw hc.1 h
  split at h
  · exact cond_nz f hz hw hr h
  · exact ite_nz f hz hw hr h
end Go.Proofs.Ytfjflefgclfbfaa
end
section
namespace Go.Proofs.Ytfjflefgclfbfaa
open Go.RowKit
set_option linter.unusedVariables false
set_option linter.unusedSimpArgs false
set_option maxRecDepth 100000
theorem operand_idem {q : PS} (hq : WfP q) (hr : ∀ t ∈ q.T, t.wf) (hz : NZ q) {x a a1 : Int} (hx : x = 32 ∨ x = 64) (ha : hasB q.T a = true) (h : operandP q x a = (q, a1, 0)) : operandP q x a1 = (q, a1, 0) := by
  have hwx : Wd4 x := by unfold Wd4; omega
  rcases operand_cases q x a with ⟨k, e⟩ | ⟨k, e⟩ | ⟨k, e⟩
  · rw [h] at e
    have e1 : putP q (constT (cutV x (atP q.T a).n)) = q := (congrArg Prod.fst e).symm
    have e2 : putN q (constT (cutV x (atP q.T a).n)) = (a1, 0) := (congrArg Prod.snd e).symm
    have hat := put_at (p := q) (t := constT (cutV x (atP q.T a).n)) (by rw [e2])
    rw [e1, e2] at hat
    unfold operandP
    dsimp only
    rw [hat.2, if_pos (show (constT (cutV x (atP q.T a).n)).kind = 0 from rfl)]
    show putR q (constT (cutV x (cutV x (atP q.T a).n))) = _
    rw [cut_cut hwx hwx (atP_wf hr a).2.2.2.1, Int.min_self]
    exact e.symm
  · rw [h] at e
    injection e with _ e
    injection e with e _
    have := hz a ha k
    subst e
    unfold operandP
    dsimp only
    rw [if_neg this.1, if_neg (fun q => this.2 q.2.1)]
  · rw [h] at e
    injection e with _ e
    injection e with e _
    subst e
    exact h
theorem both_of {q : PS} {x a b a1 b1 : Int} (h1 : operandP q x a = (q, a1, 0)) (h2 : operandP q x b = (q, b1, 0)) : bothP q x a b = (q, a1, b1, 0) := by
  unfold bothP
  rw [h1]
  dsimp only
  rw [if_pos rfl, h2]
theorem opF_of {q : PS} {f : Nat} {op x a b a1 b1 : Int} (ha : hasB q.T a = true) (hb : hasB q.T b = true) (hd : doOk op x = true) (h1 : operandP q x a = (q, a1, 0)) (h2 : operandP q x b = (q, b1, 0)) : opF (f + 1) q op x a b = opL (fun q o u v => opF f q o x u v) f q op x a1 b1 := by
  rw [opF_succ, if_neg (by rw [ha, hb]; simp), if_neg (by rw [hd]; simp), both_of h1 h2]
  dsimp only
  rw [if_pos rfl]
theorem opL_comm {q : PS} (hq : WfP q) (hr : ∀ t ∈ q.T, t.wf) (hz : NZ q) {op x a b n : Int} (ht : turnsB op = true) (hd : doOk op x = true) (ha : hasB q.T a = true) (hb : hasB q.T b = true) (h1 : operandP q x a = (q, a, 0)) (h2 : operandP q x b = (q, b, 0))
    {f : Nat} (h : opL (fun q o u v => opF f q o x u v) f q op x a b = some (q, n, 0)) : ∃ g, opL (fun q o u v => opF g q o x u v) g q op x b a = some (q, n, 0) := by
  have h8 : op ≠ 8 := fun e => by subst e; simp [turnsB] at ht
  have h11 : op ≠ 11 := fun e => by subst e; simp [turnsB] at ht
  have hn1 : op ≠ 1 := fun e => by subst e; simp [turnsB] at ht
  have e1 : ∀ c : Bool, (op == 1 && c) = false := fun c => by simp [hn1]
  cases c1 : ((atP q.T a).kind == 0 && (atP q.T b).kind == 0)
  rotate_left
  · refine ⟨f, ?_⟩
    unfold opL at h ⊢
    dsimp only at h ⊢
    rw [if_pos c1] at h
    rw [if_pos (by rw [Bool.and_comm]; exact c1), doU_comm ht]
    exact h
  have c1' : ((atP q.T b).kind == 0 && (atP q.T a).kind == 0) = false := by rw [Bool.and_comm]; exact c1
  cases c2 : (turnsB op && ((atP q.T a).kind == 0 || (!((atP q.T b).kind == 0) && decide (b < a))))
  rotate_left
  · have hh := h
    unfold opL at hh
    dsimp only at hh
    rw [if_neg (by rw [c1]; simp), if_neg h8, if_neg h11, if_neg (by rw [e1]; simp), if_pos c2] at hh
    cases f with
    | zero => cases hh
    | succ f =>
      rw [opF_of hb ha hd h2 h1] at hh
      exact ⟨f, hh⟩
  cases c3 : (turnsB op && ((atP q.T b).kind == 0 || (!((atP q.T a).kind == 0) && decide (a < b))))
  rotate_left
  · refine ⟨f + 1, ?_⟩
    unfold opL
    dsimp only
    rw [if_neg (by rw [c1']; simp), if_neg h8, if_neg h11, if_neg (by rw [e1]; simp), if_pos c3]
    rw [opF_of ha hb hd h1 h2]
    exact h
  have hab : a = b := by
    rw [ht] at c2 c3
    simp at c2 c3
    have := c2.2 c3.1
    have := c3.2 c2.1
    omega
  subst hab
  exact ⟨f, h⟩
/-- An operation that commutes: what was made is made of the sides exchanged. -/
theorem op_comm {p q : PS} (hw : WfP p) (hr : ∀ t ∈ p.T, t.wf) (hq : WfP q) (hrq : ∀ t ∈ q.T, t.wf) (hz : NZ q) {op x a b : Int} (ht : turnsB op = true) {f : Nat} {r : RS} (h : opF f p op x a b = some r) (h0 : r.2.2 = 0) (he : Ext r.1 q) : ∃ g, opF g q op x b a = some (q, r.2.1, 0) := by
  have hag := op_again hq f hw hr h h0 he
  have hpr : Ext p q := (op_good f hw hr h).ext.trans he
  cases f with
  | zero => cases h
  | succ f =>
    rw [opF_succ] at h
    split at h
    · injection h with h; subst h; cases h0
    rename_i hab
    have hab : hasB p.T a = true ∧ hasB p.T b = true := by simpa using hab
    split at h
    · injection h with h; subst h; cases h0
    rename_i hd
    have hd : doOk op x = true := by simpa using hd
    have hdd := doOk_yes hd
    have hI8 : I8 op ∧ I8 x := by unfold I8; omega
    have hw2 := both_wf hw hr (has_i64 hw hab.1) (has_i64 hw hab.2) x
    split at h
    · rename_i hb0
      have hf := both_facts hw hr hab.1 hab.2 hb0
      have hext : Ext (bothP p x a b).1 q := (opL_good f hw2.1 hw2.2 hI8 hf.1 hf.2.1 h).ext.trans he
      have hoa : ∃ a1, operandP q x a = (q, a1, 0) ∧ ∃ b1, operandP q x b = (q, b1, 0) := by
        have hb0' := hb0
        have hext' := hext
        unfold bothP at hb0' hext'
        dsimp only at hb0' hext'
        by_cases h1 : (operandP p x a).2.2 = 0
        · rw [if_pos h1] at hb0' hext'
          dsimp only at hb0' hext'
          have e1 := operand_ext p x a
          have e2 := operand_ext (operandP p x a).1 x b
          exact ⟨_, operand_again hq h1 hab.1 hpr (e2.trans hext'), _, operand_again hq hb0' (e1.has hab.2) (e2.trans hext') hext'⟩
        · rw [if_neg h1] at hb0'
          exact absurd hb0' h1
      obtain ⟨a1, ha1, b1, hb1⟩ := hoa
      have qa := hpr.has hab.1
      have qb := hpr.has hab.2
      rw [opF_of qa qb hd ha1 hb1] at hag
      have fa := operand_facts hq (x := x) qa (by rw [ha1])
      have fb := operand_facts hq (x := x) qb (by rw [hb1])
      rw [ha1] at fa
      rw [hb1] at fb
      obtain ⟨g, hg⟩ := opL_comm hq hrq hz ht hd fa.1 fb.1 (operand_idem hq hrq hz (by omega) qa ha1) (operand_idem hq hrq hz (by omega) qb hb1) hag
      exact ⟨g + 1, by rw [opF_of qb qa hd hb1 ha1]; exact hg⟩
    · rename_i hb0
      injection h with h
      subst h
      exact absurd h0 hb0
theorem condL_comm {q : PS} {rec : PS → Int → Int → Int → Option RS} {cc x a b n : Int} (hc : cc = 0 ∨ cc = 1 ∨ cc = 10) (h : condL rec q cc x a b = some (q, n, 0)) : condL rec q cc x b a = some (q, n, 0) := by
  have htn : turnedB cc = false := by rcases hc with rfl | rfl | rfl <;> rfl
  have hcc : (cc == 0 || (cc == 1 || cc == 10)) = true := by rcases hc with rfl | rfl | rfl <;> rfl
  unfold condL at h ⊢
  dsimp only at h ⊢
  cases c1 : ((atP q.T a).kind == 0 && (atP q.T b).kind == 0)
  rotate_left
  · rw [if_pos c1] at h
    rw [if_pos (by rw [Bool.and_comm]; exact c1), holds_comm hc]
    exact h
  rw [if_neg (by rw [c1]; simp)] at h
  rw [if_neg (by rw [Bool.and_comm, c1]; simp)]
  cases c2 : (a == b && cc != 10)
  rotate_left
  · rw [if_pos c2] at h
    have hab : a = b := by simp at c2; exact c2.1
    subst hab
    rw [if_pos c2]
    exact h
  rw [if_neg (by rw [c2]; simp)] at h
  rw [if_neg (by rw [show (b == a && cc != 10) = (a == b && cc != 10) by rw [show (b == a) = (a == b) from Bool.beq_comm]]; rw [c2]; simp)]
  rw [if_neg (by rw [htn]; simp)] at h ⊢
  unfold swapB at h ⊢
  rw [hcc] at h ⊢
  simp only [Bool.true_and] at h ⊢
  cases ka : ((atP q.T a).kind == 0)
  · cases kb : ((atP q.T b).kind == 0)
    · rw [ka, kb] at h
      simp only [Bool.false_or, Bool.not_false, Bool.true_and] at h ⊢
      by_cases h1 : b < a
      · rw [if_pos (by simpa using h1)] at h
        rw [if_neg (by simp; omega)]
        exact h
      · rw [if_neg (by simpa using h1)] at h
        by_cases h2 : a < b
        · rw [if_pos (by simpa using h2)]
          exact h
        · rw [if_neg (by simpa using h2)]
          have : a = b := by omega
          subst this
          exact h
    · rw [ka, kb] at h
      simp at h ⊢
      exact h
  · cases kb : ((atP q.T b).kind == 0)
    · rw [ka, kb] at h
      simp at h ⊢
      exact h
    · rw [ka, kb] at c1
      cases c1
theorem condF_of {q : PS} {f : Nat} {cc x a b a1 b1 : Int} (ha : hasB q.T a = true) (hb : hasB q.T b = true) (hd : holdsOk cc x = true) (h1 : operandP q x a = (q, a1, 0)) (h2 : operandP q x b = (q, b1, 0)) : condF (f + 1) q cc x a b = condL (fun q o u v => condF f q o x u v) q cc x a1 b1 := by
  rw [condF_succ, if_neg (by rw [ha, hb]; simp), if_neg (by rw [hd]; simp), both_of h1 h2]
  dsimp only
  rw [if_pos rfl]
/-- A condition that commutes. -/
theorem cond_comm {p q : PS} (hw : WfP p) (hr : ∀ t ∈ p.T, t.wf) (hq : WfP q) (hrq : ∀ t ∈ q.T, t.wf) {cc x a b : Int} (hc : cc = 0 ∨ cc = 1 ∨ cc = 10) {f : Nat} {r : RS} (h : condF f p cc x a b = some r) (h0 : r.2.2 = 0) (he : Ext r.1 q) : condF f q cc x b a = some (q, r.2.1, 0) := by
  have hag := cond_again hq f hw hr h h0 he
  have hpr : Ext p q := (cond_good f hw hr h).ext.trans he
  cases f with
  | zero => cases h
  | succ f =>
    rw [condF_succ] at h
    split at h
    · injection h with h; subst h; cases h0
    rename_i hab
    have hab : hasB p.T a = true ∧ hasB p.T b = true := by simpa using hab
    split at h
    · injection h with h; subst h; cases h0
    rename_i hd
    have hd : holdsOk cc x = true := by simpa using hd
    have hdd := holdsOk_yes hd
    have hI8 : I8 cc ∧ I8 x := by unfold I8; omega
    have hw2 := both_wf hw hr (has_i64 hw hab.1) (has_i64 hw hab.2) x
    split at h
    · rename_i hb0
      have hf := both_facts hw hr hab.1 hab.2 hb0
      have hext : Ext (bothP p x a b).1 q := (condL_good f hw2.1 hw2.2 hI8 hf.1 hf.2.1 h).ext.trans he
      have hoa : ∃ a1, operandP q x a = (q, a1, 0) ∧ ∃ b1, operandP q x b = (q, b1, 0) := by
        have hb0' := hb0
        have hext' := hext
        unfold bothP at hb0' hext'
        dsimp only at hb0' hext'
        by_cases h1 : (operandP p x a).2.2 = 0
        · rw [if_pos h1] at hb0' hext'
          dsimp only at hb0' hext'
          have e1 := operand_ext p x a
          have e2 := operand_ext (operandP p x a).1 x b
          exact ⟨_, operand_again hq h1 hab.1 hpr (e2.trans hext'), _, operand_again hq hb0' (e1.has hab.2) (e2.trans hext') hext'⟩
        · rw [if_neg h1] at hb0'
          exact absurd hb0' h1
      obtain ⟨a1, ha1, b1, hb1⟩ := hoa
      have qa := hpr.has hab.1
      have qb := hpr.has hab.2
      rw [condF_of qa qb hd ha1 hb1] at hag
      rw [condF_of qb qa hd hb1 ha1]
      exact condL_comm hc hag
    · rename_i hb0
      injection h with h
      subst h
      exact absurd h0 hb0
/-- Which ways commute. -/
def commB (x : MD) : Bool := (x.kind == 2 && turnsB x.op) || (x.kind == 4 && (x.op == 0 || (x.op == 1 || x.op == 10)))
def swapM (x : MD) : MD := ⟨x.kind, x.op, x.w, x.b, x.a, x.c, x.n⟩
theorem swapM_wf {x : MD} (h : x.wf) : (swapM x).wf := ⟨h.1, h.2.1, h.2.2.1, h.2.2.2.2.1, h.2.2.2.1, h.2.2.2.2.2.1, h.2.2.2.2.2.2⟩
/-- WHAT COMMUTES IS ONE TERM EITHER WAY. -/
theorem mk_comm {p : PS} (hw : WfP p) (hr : ∀ t ∈ p.T, t.wf) (hz : NZ p) {x : MD} {l : List Int} {r : RS} (hx : x.wf) (h : MkS p x l r) (h0 : r.2.2 = 0) (hc : commB x = true) : MkS r.1 (swapM x) l (r.1, r.2.1, 0) := by
  have hg := mk_good hw hr hx h
  have hnz := mk_nz hz hw hr h
  obtain ⟨f, h⟩ := h
  unfold commB at hc
  unfold MkS mkF
  unfold mkF at h
  by_cases h2 : x.kind = 2
  · have ht : turnsB x.op = true := by
      rw [h2] at hc
      simpa using hc
    rw [if_neg (by omega), if_neg (by omega), if_pos h2] at h
    obtain ⟨g, hgg⟩ := op_comm hw hr hg.wf hg.rng hnz ht h h0 (Ext.refl _)
    refine ⟨g, ?_⟩
    rw [if_neg (by show ¬ x.kind = 0; omega), if_neg (by show ¬ x.kind = 1; omega), if_pos (show (swapM x).kind = 2 from h2)]
    exact hgg
  · have h4 : x.kind = 4 ∧ (x.op = 0 ∨ x.op = 1 ∨ x.op = 10) := by
      simp at hc
      rcases hc with hc | hc
      · exact absurd hc.1 h2
      · exact hc
    rw [if_neg (by omega), if_neg (by omega), if_neg h2, if_neg (by omega), if_pos h4.1] at h
    refine ⟨f, ?_⟩
    rw [if_neg (by show ¬ x.kind = 0; omega), if_neg (by show ¬ x.kind = 1; omega), if_neg (by show ¬ x.kind = 2; omega), if_neg (by show ¬ x.kind = 3; omega), if_pos (show (swapM x).kind = 4 from h4.1)]
    exact cond_comm hw hr hg.wf hg.rng h4.2 h h0 (Ext.refl _)
end Go.Proofs.Ytfjflefgclfbfaa
end
