/-
  What was made is made again, in any pool that has grown out of that one: nothing is new. Conditions: those written in each statement.
  What was made is made again: conditions, choices, all of them. Conditions: those written in each statement.
  What norm refuses of terms that are there: nothing but a limit. Conditions: those written in each statement.
  instr.May and what it calls: which instructions may be. Conditions: those written in each statement.
-/
import Derived.Test.YtepagfkkjlbipaaKar
import Derived.Test.YtepagfkkjlbipaaProg
import Derived.Test.YtepagfkkjlbipaaKac
import Derived.Deep.DeepCutAuto
import Derived.Deep.RegionWith
import Derived.Deep.RegionLaw
import Derived.Deep.CutBlock
section
namespace Go.Proofs.Ytepagfkkjlbipaa
open Go.RowKit
set_option linter.unusedVariables false
set_option linter.unusedSimpArgs false
set_option maxRecDepth 100000
theorem has_prt {p : PS} (hw : WfP p) {n k : Int} (hn : hasB p.T n = true) (hk : k ∈ prtL (atP p.T n)) : hasB p.T k = true := by
  have h := part_less hw hn hk
  unfold hasB at *
  simp at hn ⊢
  omega
theorem putR_again {p q : PS} (hq : WfP q) {t : TD} (h : (putR p t).2.2 = 0) (he : Ext (putR p t).1 q) : putR q t = (q, (putR p t).2.1, 0) := by
  have := put_again hq (p := p) (t := t) h he
  unfold putR
  rw [this.1, this.2]
theorem zext_again {q : PS} (hq : WfP q) : ∀ (f : Nat) {p : PS} (hw : WfP p) {w a : Int} {r : RS}, zextF f p w a = some r → r.2.2 = 0 → hasB p.T a = true → Ext p q → Ext r.1 q → zextF f q w a = some (q, r.2.1, 0)
  | 0, _, _, _, _, _, h, _, _, _, _ => by cases h
  | f + 1, p, hw, w, a, r, h, h0, ha, hpq, he => by
    rw [zextF_succ] at h ⊢
    have ea := hpq.at_ ha
    have en := narrow_ext hpq ha w
    rw [ea, en]
    split at h
    · rename_i h1; rw [if_pos h1]; injection h with h; subst h; rfl
    rename_i h1
    rw [if_neg h1]
    split at h
    · rename_i h2
      rw [if_pos h2]
      injection h with h
      subst h
      rw [putR_again hq h0 he]
    rename_i h2
    rw [if_neg h2]
    split at h
    · rename_i h3; rw [if_pos h3]; injection h with h; subst h; rfl
    rename_i h3
    rw [if_neg h3]
    split at h
    · rename_i h4
      rw [if_pos h4]
      exact zext_again hq f hw h h0 (has_part hw ha h4).2.2 hpq he
    · rename_i h4
      rw [if_neg h4]
      injection h with h
      subst h
      rw [putR_again hq h0 he]
theorem operand_again {p q : PS} (hq : WfP q) {x a : Int} (h0 : (operandP p x a).2.2 = 0) (ha : hasB p.T a = true) (hpq : Ext p q) (he : Ext (operandP p x a).1 q) : operandP q x a = (q, (operandP p x a).2.1, 0) := by
  have ea := hpq.at_ ha
  unfold operandP at h0 he ⊢
  dsimp only at h0 he ⊢
  rw [ea]
  by_cases h1 : (atP p.T a).kind = 0
  · rw [if_pos h1] at h0 he ⊢
    rw [if_pos h1]
    exact putR_again hq h0 he
  · rw [if_neg h1] at h0 he ⊢
    rw [if_neg h1]
    by_cases h2 : x = 32 ∧ (atP p.T a).kind = 3 ∧ (atP p.T a).w = 32
    · rw [if_pos h2, if_pos h2]
    · rw [if_neg h2, if_neg h2]
theorem both_again {p q : PS} (hw : WfP p) (hq : WfP q) {x a b : Int} (h0 : (bothP p x a b).2.2.2 = 0) (ha : hasB p.T a = true) (hb : hasB p.T b = true) (hpq : Ext p q) (he : Ext (bothP p x a b).1 q) : bothP q x a b = (q, (bothP p x a b).2.1, (bothP p x a b).2.2.1, 0) := by
  unfold bothP at h0 he ⊢
  dsimp only at h0 he ⊢
  by_cases h1 : (operandP p x a).2.2 = 0
  · rw [if_pos h1] at h0 he ⊢
    dsimp only at h0 he ⊢
    have e1 := operand_ext p x a
    have e2 := operand_ext (operandP p x a).1 x b
    have o1 := operand_again hq h1 ha hpq (e2.trans he)
    have o2 := operand_again hq h0 (e1.has hb) (e2.trans he) he
    rw [o1]
    dsimp only
    rw [if_pos rfl, o2]
  · rw [if_neg h1] at h0
    exact absurd h0 h1
theorem bind_again {p1 q : PS} {r s : RS} {k1 k2 : PS → Int → Option RS} (hq : WfP q) {t : TD} (h : bindR (putR p1 t) k1 = some s) (h0 : s.2.2 = 0) (hes : ∀ s, (putR p1 t).2.2 = 0 → k1 (putR p1 t).1 (putR p1 t).2.1 = some s → Ext (putR p1 t).1 s.1)
    (he : Ext s.1 q) (hk : ∀ s, (putR p1 t).2.2 = 0 → k1 (putR p1 t).1 (putR p1 t).2.1 = some s → s.2.2 = 0 → Ext s.1 q → k2 q (putR p1 t).2.1 = some (q, s.2.1, 0)) : bindR (putR p1 t) k1 = some s ∧ bindR (putR q t) k2 = some (q, s.2.1, 0) := by
  refine ⟨h, ?_⟩
  have h' := h
  unfold bindR at h'
  split at h'
  · rename_i hz
    have hx := hes s hz h'
    rw [putR_again hq hz (hx.trans he)]
    unfold bindR
    dsimp only
    rw [if_pos rfl]
    exact hk s hz h' h0 he
  · rename_i hz
    injection h' with h'
    subst h'
    exact absurd h0 hz
theorem assoc_ext {p q : PS} (hw : WfP p) (hpq : Ext p q) {a : Int} (ha : hasB p.T a = true) (op x : Int) (rt : Bool) : assocB q.T (atP p.T a) op x rt = assocB p.T (atP p.T a) op x rt := by
  unfold assocB
  by_cases hk : (atP p.T a).kind = 2
  · rw [hpq.at_ (has_prt hw ha (k := (atP p.T a).b) (by unfold prtL; rw [if_pos (.inl hk)]; simp))]
  · have : ((atP p.T a).kind == 2) = false := by simpa using hk
    rw [this]
    simp
set_option maxHeartbeats 1000000 in
theorem opL_good (f : Nat) {p1 : PS} (hw : WfP p1) (hr : ∀ t ∈ p1.T, t.wf) {op x a1 b1 : Int} (hI8 : I8 op ∧ I8 x) (ha : hasB p1.T a1 = true) (hb : hasB p1.T b1 = true) {r : RS} (h : opL (fun q o u v => opF f q o x u v) f p1 op x a1 b1 = some r) : Good p1 r := by
  have hc : ∀ {n : Int}, U64 n → Good p1 (putR p1 (constT n)) := fun hn => Good.put hw hr (constT_wf hn)
  have hsn := (atP_wf hr a1).2.2.2.1
  have hyn := (atP_wf hr b1).2.2.2.1
  have hrg : ∀ {q : PS} (h1 : WfP q) (h2 : ∀ t ∈ q.T, t.wf) {o u v : Int} {s : RS}, opF f q o x u v = some s → Good q s := fun {_} h1 h2 {_ _ _ _} hs => op_good f h1 h2 hs
  unfold opL at h
  dsimp only at h
  split at h
  · injection h with h; subst h; exact hc (cutV_u64 (doV_u64 (cutV_u64 hsn) (cutV_u64 hyn)))
  split at h
  · exact Good.bind (hc zero_u64) (fun _ s hs => hrg (hc zero_u64).wf (hc zero_u64).rng hs) h
  split at h
  · exact zext_good f hw hr hI8.2 hb h
  split at h
  · have hu : U64 (cutV x (IntKind.u64.wrap (-(atP p1.T b1).n))) := cutV_u64 (wrap_u64 _)
    exact Good.bind (hc hu) (fun _ s hs => hrg (hc hu).wf (hc hu).rng hs) h
  split at h
  · exact hrg hw hr h
  split at h
  · have hu : U64 (cutV x (IntKind.u64.wrap ((atP p1.T (atP p1.T a1).b).n + (atP p1.T b1).n))) := cutV_u64 (wrap_u64 _)
    exact Good.bind (hc hu) (fun _ s hs => hrg (hc hu).wf (hc hu).rng hs) h
  split at h
  · exact zext_good f hw hr hI8.2 ha h
  split at h
  · injection h with h; subst h; exact hc zero_u64
  split at h
  · injection h with h; subst h; exact hc zero_u64
  split at h
  · exact zext_good f hw hr hI8.2 ha h
  · injection h with h; subst h
    exact Good.put hw hr (opT_wf' hI8.1 hI8.2 (has_i64 hw ha) (has_i64 hw hb))
set_option maxHeartbeats 2000000 in
theorem op_again {q : PS} (hq : WfP q) : ∀ (f : Nat) {p : PS} (hw : WfP p) (hr : ∀ t ∈ p.T, t.wf) {op x a b : Int} {r : RS}, opF f p op x a b = some r → r.2.2 = 0 → Ext r.1 q → opF f q op x a b = some (q, r.2.1, 0)
  | 0, _, _, _, _, _, _, _, _, h, _, _ => by cases h
  | f + 1, p, hw, hr, op, x, a, b, r, h, h0, he => by
    have hpr : Ext p q := (op_good (f + 1) hw hr h).ext.trans he
    rw [opF_succ] at h ⊢
    split at h
    · injection h with h; subst h; cases h0
    rename_i hab
    have hab : hasB p.T a = true ∧ hasB p.T b = true := by simpa using hab
    rw [if_neg (by rw [hpr.has hab.1, hpr.has hab.2]; simp)]
    split at h
    · injection h with h; subst h; cases h0
    rename_i hd
    rw [if_neg hd]
    have hd := doOk_yes (op := op) (x := x) (by simpa using hd)
    have hI8 : I8 op ∧ I8 x := by unfold I8; omega
    have hw2 := both_wf hw hr (has_i64 hw hab.1) (has_i64 hw hab.2) x
    split at h
    · rename_i hz
      have hf := both_facts hw hr hab.1 hab.2 hz
      have hrec : ∀ {p2 : PS} (h1 : WfP p2) (h2 : ∀ t ∈ p2.T, t.wf) {o u v : Int} {s : RS}, opF f p2 o x u v = some s → s.2.2 = 0 → Ext s.1 q → opF f q o x u v = some (q, s.2.1, 0) := fun {_} h1 h2 {_ _ _ _} hs hs0 he => op_again hq f h1 h2 hs hs0 he
      have hext : Ext (bothP p x a b).1 r.1 := (opL_good f hw2.1 hw2.2 hI8 hf.1 hf.2.1 h).ext
      have hbq := hext.trans he
      have hba := both_again hw hq hz hab.1 hab.2 hpr hbq
      rw [hba]
      dsimp only
      rw [if_pos rfl]
      generalize bothP p x a b = z at h hf hw2 hbq hext
      obtain ⟨p1, a1, b1, e1⟩ := z
      dsimp only at h hf hw2 hbq ⊢
      have ea := hbq.at_ hf.1
      have eb := hbq.at_ hf.2.1
      have eas := assoc_ext hw2.1 hbq hf.1 op x ((atP p1.T b1).kind == 0)
      have hgc : ∀ {n : Int}, U64 n → Good p1 (putR p1 (constT n)) := fun hn => Good.put hw2.1 hw2.2 (constT_wf hn)
      have bnd : ∀ {o u : Int} {n : Int} (g : Int → Int × Int) {s : RS}, U64 n → bindR (putR p1 (constT n)) (fun q1 z => opF f q1 o x (g z).1 (g z).2) = some s → s.2.2 = 0 → Ext s.1 q → bindR (putR q (constT n)) (fun q1 z => opF f q1 o x (g z).1 (g z).2) = some (q, s.2.1, 0) := by
        intro o u n g s hn hs hs0 hse
        refine (bind_again (r := s) hq hs hs0 (fun s' hz' hk => (op_good f (hgc hn).wf (hgc hn).rng hk).ext) hse fun s' hz' hk hk0 hke => ?_).2
        exact hrec (hgc hn).wf (hgc hn).rng hk hk0 hke
      unfold opL at h ⊢
      dsimp only at h ⊢
      rw [ea, eb, eas]
      have hpu : ∀ {t : TD}, some (putR p1 t) = some r → some (putR q t) = some (q, r.2.1, 0) := by
        intro t ht
        injection ht with ht
        subst ht
        rw [putR_again hq h0 he]
      split at h
      · rename_i c1; rw [if_pos c1]; exact hpu h
      rename_i c1; rw [if_neg c1]
      split at h
      · rename_i c2; rw [if_pos c2]; exact bnd (u := 0) (fun z => (z, a1)) zero_u64 h h0 he
      rename_i c2; rw [if_neg c2]
      split at h
      · rename_i c3; rw [if_pos c3]; exact zext_again hq f hw2.1 h h0 hf.2.1 hbq he
      rename_i c3; rw [if_neg c3]
      split at h
      · rename_i c4; rw [if_pos c4]; exact bnd (u := 0) (fun z => (a1, z)) (cutV_u64 (wrap_u64 _)) h h0 he
      rename_i c4; rw [if_neg c4]
      split at h
      · rename_i c5; rw [if_pos c5]; exact hrec hw2.1 hw2.2 h h0 he
      rename_i c5; rw [if_neg c5]
      split at h
      · rename_i c6
        rw [if_pos c6]
        have hk2 : (atP p1.T a1).kind = 2 := by unfold assocB at c6; simp at c6; exact c6.2.2.2.1
        rw [hbq.at_ (has_prt hw2.1 hf.1 (k := (atP p1.T a1).b) (by unfold prtL; rw [if_pos (.inl hk2)]; simp))]
        exact bnd (u := 0) (fun z => ((atP p1.T a1).a, z)) (cutV_u64 (wrap_u64 _)) h h0 he
      rename_i c6; rw [if_neg c6]
      split at h
      · rename_i c7; rw [if_pos c7]; exact zext_again hq f hw2.1 h h0 hf.1 hbq he
      rename_i c7; rw [if_neg c7]
      split at h
      · rename_i c8; rw [if_pos c8]; exact hpu h
      rename_i c8; rw [if_neg c8]
      split at h
      · rename_i c9; rw [if_pos c9]; exact hpu h
      rename_i c9; rw [if_neg c9]
      split at h
      · rename_i c10; rw [if_pos c10]; exact zext_again hq f hw2.1 h h0 hf.1 hbq he
      rename_i c10; rw [if_neg c10]
      exact hpu h
    · rename_i hz
      injection h with h
      subst h
      exact absurd h0 hz
end Go.Proofs.Ytepagfkkjlbipaa
end
section
namespace Go.Proofs.Ytepagfkkjlbipaa
open Go.RowKit
set_option linter.unusedVariables false
set_option linter.unusedSimpArgs false
set_option maxRecDepth 100000
theorem condL_good (f : Nat) {p1 : PS} (hw : WfP p1) (hr : ∀ t ∈ p1.T, t.wf) {cc x a1 b1 : Int} (hI8 : I8 cc ∧ I8 x) (ha : hasB p1.T a1 = true) (hb : hasB p1.T b1 = true) {r : RS} (h : condL (fun q o u v => condF f q o x u v) p1 cc x a1 b1 = some r) : Good p1 r := by
  unfold condL at h
  dsimp only at h
  have hia := has_i64 hw ha
  have hib := has_i64 hw hb
  split at h
  · injection h with h; subst h; exact Good.put hw hr (constT_wf (flagV_u64 _))
  split at h
  · injection h with h; subst h; exact Good.put hw hr (constT_wf (flagV_u64 _))
  split at h
  · exact cond_good f hw hr h
  split at h
  · injection h with h; subst h; exact Good.put hw hr (condT_wf hI8.1 hI8.2 hib hia)
  · injection h with h; subst h; exact Good.put hw hr (condT_wf hI8.1 hI8.2 hia hib)
theorem cond_again {q : PS} (hq : WfP q) : ∀ (f : Nat) {p : PS} (hw : WfP p) (hr : ∀ t ∈ p.T, t.wf) {cc x a b : Int} {r : RS}, condF f p cc x a b = some r → r.2.2 = 0 → Ext r.1 q → condF f q cc x a b = some (q, r.2.1, 0)
  | 0, _, _, _, _, _, _, _, _, h, _, _ => by cases h
  | f + 1, p, hw, hr, cc, x, a, b, r, h, h0, he => by
    have hpr : Ext p q := (cond_good (f + 1) hw hr h).ext.trans he
    rw [condF_succ] at h ⊢
    split at h
    · injection h with h; subst h; cases h0
    rename_i hab
    have hab : hasB p.T a = true ∧ hasB p.T b = true := by simpa using hab
    rw [if_neg (by rw [hpr.has hab.1, hpr.has hab.2]; simp)]
    split at h
    · injection h with h; subst h; cases h0
    rename_i hd
    rw [if_neg hd]
    have hd := holdsOk_yes (cc := cc) (x := x) (by simpa using hd)
    have hI8 : I8 cc ∧ I8 x := by unfold I8; omega
    have hw2 := both_wf hw hr (has_i64 hw hab.1) (has_i64 hw hab.2) x
    split at h
    · rename_i hz
      have hf := both_facts hw hr hab.1 hab.2 hz
      have hrec : ∀ {p2 : PS} (h1 : WfP p2) (h2 : ∀ t ∈ p2.T, t.wf) {o u v : Int} {s : RS}, condF f p2 o x u v = some s → s.2.2 = 0 → Ext s.1 q → condF f q o x u v = some (q, s.2.1, 0) := fun {_} h1 h2 {_ _ _ _} hs hs0 he => cond_again hq f h1 h2 hs hs0 he
      have hext : Ext (bothP p x a b).1 r.1 := (condL_good f hw2.1 hw2.2 hI8 hf.1 hf.2.1 h).ext
      have hbq := hext.trans he
      have hba := both_again hw hq hz hab.1 hab.2 hpr hbq
      rw [hba]
      dsimp only
      rw [if_pos rfl]
      generalize bothP p x a b = z at h hf hw2 hbq hext
      obtain ⟨p1, a1, b1, e1⟩ := z
      dsimp only at h hf hw2 hbq ⊢
      have ea := hbq.at_ hf.1
      have eb := hbq.at_ hf.2.1
      unfold condL at h ⊢
      dsimp only at h ⊢
      rw [ea, eb]
      have hpu : ∀ {t : TD}, some (putR p1 t) = some r → some (putR q t) = some (q, r.2.1, 0) := by
        intro t ht
        injection ht with ht
        subst ht
        rw [putR_again hq h0 he]
      split at h
      · rename_i c1; rw [if_pos c1]; exact hpu h
      rename_i c1; rw [if_neg c1]
      split at h
      · rename_i c2; rw [if_pos c2]; exact hpu h
      rename_i c2; rw [if_neg c2]
      split at h
      · rename_i c3; rw [if_pos c3]; exact hrec hw2.1 hw2.2 h h0 he
      rename_i c3; rw [if_neg c3]
      split at h
      · rename_i c4; rw [if_pos c4]; exact hpu h
      rename_i c4; rw [if_neg c4]
      exact hpu h
    · rename_i hz
      injection h with h
      subst h
      exact absurd h0 hz
theorem and_cong {a b c : Bool} (h : a = true → b = c) : (a && b) = (a && c) := by
  cases a
  · rfl
  · rw [h rfl]
end Go.Proofs.Ytepagfkkjlbipaa
end
section
namespace Go.Proofs.Ytepagfkkjlbipaa
open Go.RowKit
set_option linter.unusedVariables false
set_option linter.unusedSimpArgs false
set_option maxRecDepth 100000
def E0 (r : RS) : Prop := r.2.2 = 0 ∨ r.2.2 = 260
theorem E0.same (p : PS) (n : Int) : E0 (p, n, 0) := .inl rfl
theorem E0.const (p : PS) (n : Int) : E0 (putR p (constT n)) := put_errs (okP_const _ _)
theorem E0.bind {r s : RS} {k : PS → Int → Option RS} (h : E0 r) (hk : r.2.2 = 0 → ∀ s, k r.1 r.2.1 = some s → E0 s) (hs : bindR r k = some s) : E0 s := by
  unfold bindR at hs
  split at hs
  · rename_i h0; exact hk h0 s hs
  · injection hs with hs
    subst hs
    exact h
theorem okP_op {p : PS} {op x a b : Int} (h : doOk op x = true) (ha : hasB p.T a = true) (hb : hasB p.T b = true) : okP p.T (opT op x a b) = true := by
  have hd := doOk_yes h
  unfold okP okF askT likeT clashB prtL opT
  simp [ha, hb]
  omega
theorem okP_cond {p : PS} {cc x a b : Int} (h : holdsOk cc x = true) (ha : hasB p.T a = true) (hb : hasB p.T b = true) : okP p.T (condT cc x a b) = true := by
  have hd := holdsOk_yes h
  unfold okP okF askT likeT clashB prtL condT
  simp [ha, hb]
  omega
end Go.Proofs.Ytepagfkkjlbipaa
end
section
namespace Go.Proofs.Ytepagfkkjlbipaa
open Go.RowKit
set_option linter.unusedVariables false
set_option linter.unusedSimpArgs false
theorem ret_b {a b : Bool} (h : a = b) : Ending.returned (.bool a) = .returned (.bool b) := by rw [h]
theorem ret_ia {k : IntKind} {a b : Int} (h : a = b) : Ending.returned (.int k a) = .returned (.int k b) := by rw [h]
theorem all_one {cs : List Value} (h : ∀ v ∈ cs, v.oneCell' = true) : cs.toArray.all (·.oneCell') = true :=
  Array.all_eq_true_iff_forall_mem.2 (fun v hv => h v (by simpa using hv))
theorem infI : (Try.prog.info? 26).map (fun i => (i.zero, i.size, i.bytes)) = some (some (.agg #[.int .i8 0, .int .i8 0, .int .i8 0, .int .i8 0, .bool false, .int .i8 0, .int .i8 0, .int .i64 0, .int .i64 0]), 9, 24) := by kernel_rfl
theorem flatI : flatK Try.prog 4 26 = some instrK := by kernel_rfl
theorem okI : eqOk Try.prog 4 26 = true := by kernel_rfl
theorem aggI : aggT Try.prog 26 = true := by kernel_rfl
theorem sizI : (Try.prog.info? 26).map (·.size) = some 9 := by kernel_rfl
theorem eql_id {x y : ID} (hx : x.wf) (hy : y.wf) (w : World) : (binOp .eql 26 (.agg x.cells.toArray) (.agg y.cells.toArray)).run Try.prog w = .ok (.bool (eqL x.cells y.cells)) w :=
  run_eql_flat (by omega) flatI okI aggI (ID.all hx) (ID.all hy) w
set_option maxHeartbeats 400000 in
theorem within8 (n a b : Int) (w : World) : Calls Try.prog 89 #[.int .i8 n, .int .i8 a, .int .i8 b] w fun e w' => e = .returned (.bool (inB n a b)) ∧ w = w' := by
  by_cases h : a ≤ n
  · go_enter Try.func89, Try.ntmps89
    go_wp2
    go_ret
    exact ⟨ret_b (by unfold inB; simp [h] <;> omega), rfl⟩
  · go_enter Try.func89, Try.ntmps89
    go_wp2
    go_ret
    exact ⟨ret_b (by unfold inB; simp [h] <;> omega), rfl⟩
set_option maxHeartbeats 400000 in
theorem within64 (n a b : Int) (w : World) : Calls Try.prog 53 #[.int .i64 n, .int .i64 a, .int .i64 b] w fun e w' => e = .returned (.bool (inB n a b)) ∧ w = w' := by
  by_cases h : a ≤ n
  · go_enter Try.func53, Try.ntmps53
    go_wp2
    go_ret
    exact ⟨ret_b (by unfold inB; simp [h] <;> omega), rfl⟩
  · go_enter Try.func53, Try.ntmps53
    go_wp2
    go_ret
    exact ⟨ret_b (by unfold inB; simp [h] <;> omega), rfl⟩
set_option maxHeartbeats 400000 in
theorem sized_any (n : Int) (w : World) : Calls Try.prog 107 #[.int .i8 n] w fun e w' => e = .returned (.bool (szB n)) ∧ w = w' := by
  go_enter Try.func107, Try.ntmps107
  go_wp2
  all_goals
    go_ret
    exact ⟨ret_b (by unfold szB; simp_all), rfl⟩
/-- What bare gives. -/
def BareP (x : ID) (w : World) (e : Ending) (w' : World) : Prop := e = .returned (.tuple #[.agg (bareR x).cells.toArray, .bool (bareM x)]) ∧ Below w.heap.size w w'
set_option maxHeartbeats 400000 in
theorem imm_any (k op wd sz : Int) (br : Bool) (dst src off imm : Int) (g : Nat) (w : World) (hB : Blk w g 26 #[.int .i8 k, .int .i8 op, .int .i8 wd, .int .i8 sz, .bool br, .int .i8 dst, .int .i8 src, .int .i64 off, .int .i64 imm]) :
    Calls Try.prog 106 #[.pointer (some ⟨g, 0, none⟩)] w fun e w' => e = .returned (.tuple #[]) ∧ (if br then w.setCell ⟨g, 6, none⟩ (.int .i8 0) else w.setCell ⟨g, 8, none⟩ (.int .i64 0)).setCell ⟨g, 4, none⟩ (.bool false) = w' := by
  have c4 : w.cell? ⟨g, 4, none⟩ = some (.bool br) := hB.cell 4
  have c6 : w.cell? ⟨g, 6, none⟩ = some (.int .i8 src) := hB.cell 6
  have c8 : w.cell? ⟨g, 8, none⟩ = some (.int .i64 imm) := hB.cell 8
  have f4 := hB.frozen 4
  have f6 := hB.frozen 6
  have f8 := hB.frozen 8
  clear hB
  cases br
  all_goals
    go_enter Try.func106, Try.ntmps106
    go_wp2
    go_end0
    exact ⟨rfl, rfl⟩
set_option maxRecDepth 100000 in
set_option maxHeartbeats 2000000 in
theorem bare_0 (op wd sz dst src off imm : Int) (br : Bool) (w : World) : Calls Try.prog 90 #[.agg #[.int .i8 0, .int .i8 op, .int .i8 wd, .int .i8 sz, .bool br, .int .i8 dst, .int .i8 src, .int .i64 off, .int .i64 imm]] w (BareP ⟨0, op, wd, sz, br, dst, src, off, imm⟩ w) := by
  go_enter Try.func90, Try.ntmps90
  go_upto_region 4 with fail
  go_cut [3] (fun v wc => v = .bool (bareM ⟨0, op, wd, sz, br, dst, src, off, imm⟩) ∧ wc = (w.alloc (.cells #[.int .i8 0, .int .i8 op, .int .i8 wd, .int .i8 sz, .bool br, .int .i8 dst, .int .i8 src, .int .i64 off, .int .i64 imm] 26)).alloc (.cells #[.int .i8 0, .int .i8 0, .int .i8 0, .int .i8 0, .bool false, .int .i8 0, .int .i8 0, .int .i64 0, .int .i64 0] 26))
  case first =>
    cases hin : inB op 0 12
    · go_wp2_with (go_at_call 89; refine (within8 _ _ _ _).mono ?_; rintro e w' ⟨rfl, rfl⟩; rw [hin])
      go_meet
      exact ⟨by simp [bareM, hin], rfl⟩
    · cases h32 : (wd == 32)
      · cases h64 : (wd == 64)
        · go_wp2_with (go_at_call 89; refine (within8 _ _ _ _).mono ?_; rintro e w' ⟨rfl, rfl⟩; rw [hin])
          go_meet
          exact ⟨by simp [bareM, hin, h32, h64], rfl⟩
        · cases hd : decide (dst < 10)
          · go_wp2_with (go_at_call 89; refine (within8 _ _ _ _).mono ?_; rintro e w' ⟨rfl, rfl⟩; rw [hin])
            go_meet
            exact ⟨by simp [bareM, hin, h32, h64, hd], rfl⟩
          · cases h8 : (op == 8)
            · have h8' : (op != 8) = true := by simp [bne, h8]
              go_wp2_with (go_at_call 89; refine (within8 _ _ _ _).mono ?_; rintro e w' ⟨rfl, rfl⟩; rw [hin])
              go_meet
              exact ⟨by simp [bareM, hin, h32, h64, hd, h8, h8'], rfl⟩
            · have h8' : (op != 8) = false := by simp [bne, h8]
              cases br
              · go_wp2_with (go_at_call 89; refine (within8 _ _ _ _).mono ?_; rintro e w' ⟨rfl, rfl⟩; rw [hin])
                go_meet
                exact ⟨by simp [bareM, hin, h32, h64, hd, h8, h8'], rfl⟩
              · go_wp2_with (go_at_call 89; refine (within8 _ _ _ _).mono ?_; rintro e w' ⟨rfl, rfl⟩; rw [hin])
                go_meet
                exact ⟨by simp [bareM, hin, h32, h64, hd, h8, h8'], rfl⟩
      · cases hd : decide (dst < 10)
        · go_wp2_with (go_at_call 89; refine (within8 _ _ _ _).mono ?_; rintro e w' ⟨rfl, rfl⟩; rw [hin])
          go_meet
          exact ⟨by simp [bareM, hin, h32, hd], rfl⟩
        · cases h8 : (op == 8)
          · have h8' : (op != 8) = true := by simp [bne, h8]
            go_wp2_with (go_at_call 89; refine (within8 _ _ _ _).mono ?_; rintro e w' ⟨rfl, rfl⟩; rw [hin])
            go_meet
            exact ⟨by simp [bareM, hin, h32, hd, h8, h8'], rfl⟩
          · have h8' : (op != 8) = false := by simp [bne, h8]
            cases br
            · go_wp2_with (go_at_call 89; refine (within8 _ _ _ _).mono ?_; rintro e w' ⟨rfl, rfl⟩; rw [hin])
              go_meet
              exact ⟨by simp [bareM, hin, h32, hd, h8, h8'], rfl⟩
            · go_wp2_with (go_at_call 89; refine (within8 _ _ _ _).mono ?_; rintro e w' ⟨rfl, rfl⟩; rw [hin])
              go_meet
              exact ⟨by simp [bareM, hin, h32, hd, h8, h8'], rfl⟩
  case rest =>
    obtain ⟨rfl, rfl⟩ := hcut
    obtain ⟨m, hm⟩ : ∃ m, bareM ⟨0, op, wd, sz, br, dst, src, off, imm⟩ = m := ⟨_, rfl⟩
    rw [hm]
    have HM := hide hm
    clear hm
    cases br
    · go_wp2_with (go_at_call 106; refine (imm_any 0 op wd sz _ dst src off imm _ _ ((Blk.new w _ _).alloc _)).mono ?_; rintro e w' ⟨rfl, rfl⟩)
      refine bodyPost_ret (v := .tuple #[.agg (bareR ⟨0, op, wd, sz, false, dst, src, off, imm⟩).cells.toArray, .bool m]) (by simp [results, Try.results90, go_sem, bareR, immR, ID.cells]) rfl ⟨by rw [HM.out], ?_⟩
      exact ((Below.refl _ _).alloc (Nat.le_refl _) _).alloc (le_alloc _ (Nat.le_refl _)) _
    · go_wp2_with (go_at_call 106; refine (imm_any 0 op wd sz _ dst src off imm _ _ ((Blk.new w _ _).alloc _)).mono ?_; rintro e w' ⟨rfl, rfl⟩)
      refine bodyPost_ret (v := .tuple #[.agg (bareR ⟨0, op, wd, sz, true, dst, src, off, imm⟩).cells.toArray, .bool m]) (by simp [results, Try.results90, go_sem, bareR, immR, ID.cells]) rfl ⟨by rw [HM.out], ?_⟩
      exact ((Below.refl _ _).alloc (Nat.le_refl _) _).alloc (le_alloc _ (Nat.le_refl _)) _
set_option maxRecDepth 100000 in
set_option maxHeartbeats 2000000 in
theorem bare_3 (op wd sz dst src off imm : Int) (br : Bool) (w : World) : Calls Try.prog 90 #[.agg #[.int .i8 3, .int .i8 op, .int .i8 wd, .int .i8 sz, .bool br, .int .i8 dst, .int .i8 src, .int .i64 off, .int .i64 imm]] w (BareP ⟨3, op, wd, sz, br, dst, src, off, imm⟩ w) := by
  go_enter Try.func90, Try.ntmps90
  go_upto_region 14 with fail
  go_cut [3] (fun v wc => v = .bool (bareM ⟨3, op, wd, sz, br, dst, src, off, imm⟩) ∧ wc = (w.alloc (.cells #[.int .i8 3, .int .i8 op, .int .i8 wd, .int .i8 sz, .bool br, .int .i8 dst, .int .i8 src, .int .i64 off, .int .i64 imm] 26)).alloc (.cells #[.int .i8 0, .int .i8 0, .int .i8 0, .int .i8 0, .bool false, .int .i8 0, .int .i8 0, .int .i64 0, .int .i64 0] 26))
  case first =>
    cases hin : inB op 0 10
    all_goals
      go_wp2_with (go_at_call 89; refine (within8 _ _ _ _).mono ?_; rintro e w' ⟨rfl, rfl⟩; rw [hin])
      go_meet
      exact ⟨by simp [bareM, hin], rfl⟩
  case rest =>
    obtain ⟨rfl, rfl⟩ := hcut
    obtain ⟨m, hm⟩ : ∃ m, bareM ⟨3, op, wd, sz, br, dst, src, off, imm⟩ = m := ⟨_, rfl⟩
    rw [hm]
    have HM := hide hm
    clear hm
    cases br
    · go_wp2_with (go_at_call 106; refine (imm_any 3 op wd sz _ dst src off imm _ _ ((Blk.new w _ _).alloc _)).mono ?_; rintro e w' ⟨rfl, rfl⟩)
      refine bodyPost_ret (v := .tuple #[.agg (bareR ⟨3, op, wd, sz, false, dst, src, off, imm⟩).cells.toArray, .bool m]) (by simp [results, Try.results90, go_sem, bareR, immR, ID.cells]) rfl ⟨by rw [HM.out], ?_⟩
      exact ((Below.refl _ _).alloc (Nat.le_refl _) _).alloc (le_alloc _ (Nat.le_refl _)) _
    · go_wp2_with (go_at_call 106; refine (imm_any 3 op wd sz _ dst src off imm _ _ ((Blk.new w _ _).alloc _)).mono ?_; rintro e w' ⟨rfl, rfl⟩)
      refine bodyPost_ret (v := .tuple #[.agg (bareR ⟨3, op, wd, sz, true, dst, src, off, imm⟩).cells.toArray, .bool m]) (by simp [results, Try.results90, go_sem, bareR, immR, ID.cells]) rfl ⟨by rw [HM.out], ?_⟩
      exact ((Below.refl _ _).alloc (Nat.le_refl _) _).alloc (le_alloc _ (Nat.le_refl _)) _
set_option maxRecDepth 100000 in
set_option maxHeartbeats 2000000 in
theorem bare_1 (op wd sz dst src off imm : Int) (br : Bool) (w : World) : Calls Try.prog 90 #[.agg #[.int .i8 1, .int .i8 op, .int .i8 wd, .int .i8 sz, .bool br, .int .i8 dst, .int .i8 src, .int .i64 off, .int .i64 imm]] w (BareP ⟨1, op, wd, sz, br, dst, src, off, imm⟩ w) := by
  go_enter Try.func90, Try.ntmps90
  go_wp2_with (first
    | (go_at_call 89; refine (within8 _ _ _ _).mono ?_; rintro e w' ⟨rfl, rfl⟩; cases hin : inB op 0 12)
    | (go_at_call 53; refine (within64 _ _ _ _).mono ?_; rintro e w' ⟨rfl, rfl⟩; cases hin : inB imm 0 15)
    | (go_at_call 107; refine (sized_any _ _).mono ?_; rintro e w' ⟨rfl, rfl⟩; cases hsz : szB sz)
    | go_in
    | go_back)
  all_goals
    refine bodyPost_ret (v := .tuple #[.agg (bareR ⟨1, op, wd, sz, br, dst, src, off, imm⟩).cells.toArray, .bool (bareM ⟨1, op, wd, sz, br, dst, src, off, imm⟩)]) (by simp [results, Try.results90, go_sem, bareR, bareM, immR, ID.cells, *]) rfl ⟨rfl, ?_⟩
    exact ((Below.refl _ _).alloc (Nat.le_refl _) _).alloc (le_alloc _ (Nat.le_refl _)) _
set_option maxRecDepth 100000 in
set_option maxHeartbeats 2000000 in
theorem bare_2 (op wd sz dst src off imm : Int) (br : Bool) (w : World) : Calls Try.prog 90 #[.agg #[.int .i8 2, .int .i8 op, .int .i8 wd, .int .i8 sz, .bool br, .int .i8 dst, .int .i8 src, .int .i64 off, .int .i64 imm]] w (BareP ⟨2, op, wd, sz, br, dst, src, off, imm⟩ w) := by
  go_enter Try.func90, Try.ntmps90
  go_wp2_with (first
    | (go_at_call 89; refine (within8 _ _ _ _).mono ?_; rintro e w' ⟨rfl, rfl⟩; cases hin : inB op 0 12)
    | (go_at_call 53; refine (within64 _ _ _ _).mono ?_; rintro e w' ⟨rfl, rfl⟩; cases hin : inB imm 0 15)
    | (go_at_call 107; refine (sized_any _ _).mono ?_; rintro e w' ⟨rfl, rfl⟩; cases hsz : szB sz)
    | go_in
    | go_back)
  all_goals
    refine bodyPost_ret (v := .tuple #[.agg (bareR ⟨2, op, wd, sz, br, dst, src, off, imm⟩).cells.toArray, .bool (bareM ⟨2, op, wd, sz, br, dst, src, off, imm⟩)]) (by simp [results, Try.results90, go_sem, bareR, bareM, immR, ID.cells, *]) rfl ⟨rfl, ?_⟩
    exact ((Below.refl _ _).alloc (Nat.le_refl _) _).alloc (le_alloc _ (Nat.le_refl _)) _
set_option maxRecDepth 100000 in
set_option maxHeartbeats 2000000 in
theorem bare_4 (op wd sz dst src off imm : Int) (br : Bool) (w : World) : Calls Try.prog 90 #[.agg #[.int .i8 4, .int .i8 op, .int .i8 wd, .int .i8 sz, .bool br, .int .i8 dst, .int .i8 src, .int .i64 off, .int .i64 imm]] w (BareP ⟨4, op, wd, sz, br, dst, src, off, imm⟩ w) := by
  go_enter Try.func90, Try.ntmps90
  go_wp2_with (first
    | (go_at_call 89; refine (within8 _ _ _ _).mono ?_; rintro e w' ⟨rfl, rfl⟩; cases hin : inB op 0 12)
    | (go_at_call 53; refine (within64 _ _ _ _).mono ?_; rintro e w' ⟨rfl, rfl⟩; cases hin : inB imm 0 15)
    | (go_at_call 107; refine (sized_any _ _).mono ?_; rintro e w' ⟨rfl, rfl⟩; cases hsz : szB sz)
    | go_in
    | go_back)
  all_goals
    refine bodyPost_ret (v := .tuple #[.agg (bareR ⟨4, op, wd, sz, br, dst, src, off, imm⟩).cells.toArray, .bool (bareM ⟨4, op, wd, sz, br, dst, src, off, imm⟩)]) (by simp [results, Try.results90, go_sem, bareR, bareM, immR, ID.cells, *]) rfl ⟨rfl, ?_⟩
    exact ((Below.refl _ _).alloc (Nat.le_refl _) _).alloc (le_alloc _ (Nat.le_refl _)) _
set_option maxRecDepth 100000 in
set_option maxHeartbeats 2000000 in
theorem bare_5 (op wd sz dst src off imm : Int) (br : Bool) (w : World) : Calls Try.prog 90 #[.agg #[.int .i8 5, .int .i8 op, .int .i8 wd, .int .i8 sz, .bool br, .int .i8 dst, .int .i8 src, .int .i64 off, .int .i64 imm]] w (BareP ⟨5, op, wd, sz, br, dst, src, off, imm⟩ w) := by
  go_enter Try.func90, Try.ntmps90
  go_wp2_with (first
    | (go_at_call 89; refine (within8 _ _ _ _).mono ?_; rintro e w' ⟨rfl, rfl⟩; cases hin : inB op 0 12)
    | (go_at_call 53; refine (within64 _ _ _ _).mono ?_; rintro e w' ⟨rfl, rfl⟩; cases hin : inB imm 0 15)
    | (go_at_call 107; refine (sized_any _ _).mono ?_; rintro e w' ⟨rfl, rfl⟩; cases hsz : szB sz)
    | go_in
    | go_back)
  all_goals
    refine bodyPost_ret (v := .tuple #[.agg (bareR ⟨5, op, wd, sz, br, dst, src, off, imm⟩).cells.toArray, .bool (bareM ⟨5, op, wd, sz, br, dst, src, off, imm⟩)]) (by simp [results, Try.results90, go_sem, bareR, bareM, immR, ID.cells, *]) rfl ⟨rfl, ?_⟩
    exact ((Below.refl _ _).alloc (Nat.le_refl _) _).alloc (le_alloc _ (Nat.le_refl _)) _
set_option maxRecDepth 100000 in
set_option maxHeartbeats 2000000 in
theorem bare_6 (op wd sz dst src off imm : Int) (br : Bool) (w : World) : Calls Try.prog 90 #[.agg #[.int .i8 6, .int .i8 op, .int .i8 wd, .int .i8 sz, .bool br, .int .i8 dst, .int .i8 src, .int .i64 off, .int .i64 imm]] w (BareP ⟨6, op, wd, sz, br, dst, src, off, imm⟩ w) := by
  go_enter Try.func90, Try.ntmps90
  go_wp2_with (first
    | (go_at_call 89; refine (within8 _ _ _ _).mono ?_; rintro e w' ⟨rfl, rfl⟩; cases hin : inB op 0 12)
    | (go_at_call 53; refine (within64 _ _ _ _).mono ?_; rintro e w' ⟨rfl, rfl⟩; cases hin : inB imm 0 15)
    | (go_at_call 107; refine (sized_any _ _).mono ?_; rintro e w' ⟨rfl, rfl⟩; cases hsz : szB sz)
    | go_in
    | go_back)
  all_goals
    refine bodyPost_ret (v := .tuple #[.agg (bareR ⟨6, op, wd, sz, br, dst, src, off, imm⟩).cells.toArray, .bool (bareM ⟨6, op, wd, sz, br, dst, src, off, imm⟩)]) (by simp [results, Try.results90, go_sem, bareR, bareM, immR, ID.cells, *]) rfl ⟨rfl, ?_⟩
    exact ((Below.refl _ _).alloc (Nat.le_refl _) _).alloc (le_alloc _ (Nat.le_refl _)) _
set_option maxRecDepth 100000 in
set_option maxHeartbeats 2000000 in
theorem bare_x (k op wd sz dst src off imm : Int) (br : Bool) (w : World) (h0 : ¬ k = 0) (h1 : ¬ k = 1) (h2 : ¬ k = 2) (h3 : ¬ k = 3) (h4 : ¬ k = 4) (h5 : ¬ k = 5) (h6 : ¬ k = 6) : Calls Try.prog 90 #[.agg #[.int .i8 k, .int .i8 op, .int .i8 wd, .int .i8 sz, .bool br, .int .i8 dst, .int .i8 src, .int .i64 off, .int .i64 imm]] w (BareP ⟨k, op, wd, sz, br, dst, src, off, imm⟩ w) := by
  go_enter Try.func90, Try.ntmps90
  go_wp2_with (first
    | (go_at_call 89; refine (within8 _ _ _ _).mono ?_; rintro e w' ⟨rfl, rfl⟩; cases hin : inB op 0 12)
    | (go_at_call 53; refine (within64 _ _ _ _).mono ?_; rintro e w' ⟨rfl, rfl⟩; cases hin : inB imm 0 15)
    | (go_at_call 107; refine (sized_any _ _).mono ?_; rintro e w' ⟨rfl, rfl⟩; cases hsz : szB sz)
    | go_in
    | go_back)
  all_goals
    refine bodyPost_ret (v := .tuple #[.agg (bareR ⟨k, op, wd, sz, br, dst, src, off, imm⟩).cells.toArray, .bool (bareM ⟨k, op, wd, sz, br, dst, src, off, imm⟩)]) (by simp [results, Try.results90, go_sem, bareR, bareM, immR, ID.cells, *]) rfl ⟨rfl, ?_⟩
    exact ((Below.refl _ _).alloc (Nat.le_refl _) _).alloc (le_alloc _ (Nat.le_refl _)) _
theorem bare_any (x : ID) (w : World) : Calls Try.prog 90 #[.agg x.cells.toArray] w (BareP x w) := by
  obtain ⟨k, op, wd, sz, br, dst, src, off, imm⟩ := x
  rcases Decidable.em (k = 0) with rfl | h0
  · exact bare_0 op wd sz dst src off imm br w
  rcases Decidable.em (k = 1) with rfl | h1
  · exact bare_1 op wd sz dst src off imm br w
  rcases Decidable.em (k = 2) with rfl | h2
  · exact bare_2 op wd sz dst src off imm br w
  rcases Decidable.em (k = 3) with rfl | h3
  · exact bare_3 op wd sz dst src off imm br w
  rcases Decidable.em (k = 4) with rfl | h4
  · exact bare_4 op wd sz dst src off imm br w
  rcases Decidable.em (k = 5) with rfl | h5
  · exact bare_5 op wd sz dst src off imm br w
  rcases Decidable.em (k = 6) with rfl | h6
  · exact bare_6 op wd sz dst src off imm br w
  exact bare_x k op wd sz dst src off imm br w h0 h1 h2 h3 h4 h5 h6
/-! behind bare -/
end Go.Proofs.Ytepagfkkjlbipaa
end
