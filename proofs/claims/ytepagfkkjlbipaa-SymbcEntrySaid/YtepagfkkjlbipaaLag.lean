/-
  Values are the parts' operation: cuts and operations. Conditions: those written in each statement.
  Values are the parts' operation: operations, conditions, choices. Conditions: those written in each statement.
  Values are the parts' operation: choices, and whatever is made. Conditions: those written in each statement.
-/
import Derived.Test.YtepagfkkjlbipaaLaf
section
namespace Go.Proofs.Ytepagfkkjlbipaa
open Go.RowKit
set_option linter.unusedVariables false
set_option linter.unusedSimpArgs false
set_option maxRecDepth 100000
/-- A pool that has grown has the values that it had. -/
theorem ev_ext {p q : PS} (hw : WfP p) (hq : WfP q) (he : Ext p q) (vs : List Int) : ∀ (N : Nat) (n : Int), n.toNat < N → hasB p.T n = true → evP q.T vs n = evP p.T vs n := by
  intro N
  induction N with
  | zero => intro n h; omega
  | succ N ih =>
    intro n h hn
    rw [evP_eq hw hn, evP_eq hq (he.has hn), he.at_ hn]
    refine evT_congr vs _ fun k hk => ?_
    have hl := part_less hw hn hk
    exact ih k (by omega) (has_prt hw hn hk)
/-- Each term of a pool has a value. -/
def AV (vs : List Int) (p : PS) : Prop := ∀ n, hasB p.T n = true → ∃ v, evP p.T vs n = some v
section
variable {vs : List Int} (hU : ∀ v ∈ vs, U64 v)
/-- What stands behind a making: the pool has values, and the number has that one. -/
structure Snd (vs : List Int) (p : PS) (r : RS) (v : Int) : Prop where
  good : Good p r
  av : AV vs r.1
  val : r.2.2 = 0 → evP r.1.T vs r.2.1 = some v
theorem ev_up {p q : PS} (hw : WfP p) (hq : WfP q) (he : Ext p q) {n v : Int} (h : evP p.T vs n = some v) : evP q.T vs n = some v := by
  cases hb : hasB p.T n
  · rw [evP_no hb] at h; cases h
  · rw [ev_ext hw hq he vs _ n (Nat.lt_succ_self _) hb]; exact h
theorem Snd.up {p q : PS} {r : RS} {v : Int} (he : Ext p q) (h : Snd vs q r v) : Snd vs p r v := ⟨h.good.up he, h.av, h.val⟩
theorem Snd.same {p : PS} (hw : WfP p) (hr : ∀ t ∈ p.T, t.wf) (ha : AV vs p) {n v : Int} (hn : hasB p.T n = true) (h : evP p.T vs n = some v) : Snd vs p (p, n, 0) v := ⟨Good.same hw hr hn, ha, fun _ => h⟩
theorem Snd.err {p : PS} (hw : WfP p) (hr : ∀ t ∈ p.T, t.wf) (ha : AV vs p) (n v : Int) {e : Int} (he : e ≠ 0) : Snd vs p (p, n, e) v := ⟨Good.err hw hr n he, ha, fun h => absurd h he⟩
theorem Snd.cast {p : PS} {r : RS} {v u : Int} (h : Snd vs p r v) (e : v = u) : Snd vs p r u := e ▸ h
/-- A term is put whose value is known. -/
theorem Snd.put {p : PS} (hw : WfP p) (hr : ∀ t ∈ p.T, t.wf) (ha : AV vs p) {t : TD} (ht : t.wf) {v : Int} (hv : evT vs t (evP p.T vs) = some v) : Snd vs p (putR p t) v := by
  have hg := Good.put hw hr ht
  have hq := (put_facts hw hr ht).1
  have he := Ext.put p t
  have hval : (putN p t).2 = 0 → evP (putP p t).T vs (putN p t).1 = some v := by
    intro h0
    have hp := put_at h0
    rw [evP_eq hq hp.1, hp.2]
    rw [← hv]
    refine evT_congr vs t fun k hk => ?_
    have hk2 := (okP_parts (putN_okP h0)).2.1 k hk
    have hkb : hasB p.T k = true := by unfold hasB; simp; exact hk2
    exact ev_ext hw hq he vs _ k (Nat.lt_succ_self _) hkb
  refine ⟨hg, fun n hn => ?_, hval⟩
  cases hb : hasB p.T n
  · have hn' : hasB (putP p t).T n = true := hn
    rcases putP_cases p t with ⟨e, _⟩ | ⟨_, _, _, _, e, e2⟩
    · rw [e] at hn'; rw [hb] at hn'; cases hn'
    · have hnn : n = (putN p t).1 := by
        rw [e] at hn'
        rw [e2]
        unfold hasB at hn' hb
        simp at hn' hb
        show n = (p.T.length : Int)
        omega
      exact ⟨v, by rw [hnn]; exact hval (by rw [e2])⟩
  · obtain ⟨u, hu⟩ := ha n hb
    exact ⟨u, ev_up hw hq he hu⟩
theorem Snd.bind {p : PS} {r s : RS} {v u : Int} {k : PS → Int → Option RS} (h : Snd vs p r v) (hk : r.2.2 = 0 → ∀ s, k r.1 r.2.1 = some s → Snd vs r.1 s u) (hs : bindR r k = some s) : Snd vs p s u := by
  unfold bindR at hs
  split at hs
  · rename_i h0; exact (hk h0 s hs).up h.good.ext
  · rename_i h0
    injection hs with hs
    subst hs
    exact ⟨⟨h.good.ext, h.good.wf, h.good.rng, fun e => absurd e h0⟩, h.av, fun e => absurd e h0⟩
theorem ev_const {p : PS} (hw : WfP p) {n : Int} (hn : hasB p.T n = true) (hk : (atP p.T n).kind = 0) : evP p.T vs n = some (atP p.T n).n := by
  rw [evP_eq hw hn]
  unfold evT
  rw [if_neg (by omega), if_neg (by omega), if_neg (by omega), if_neg (by omega), if_neg (by omega)]
theorem evT_const (n : Int) (rec : Int → Option Int) : evT vs (constT n) rec = some n := rfl
include hU
omit hU in
theorem wd_at {p : PS} (hw : WfP p) {n : Int} (hn : hasB p.T n = true) (hk : (atP p.T n).kind = 3 ∨ (atP p.T n).kind = 1) : Wd4 (atP p.T n).w := by
  obtain ⟨i, _, hi⟩ := has_ix hn
  have := hw.ok i _ hi
  unfold okF askT at this
  simp only [Bool.and_eq_true] at this
  have h1 := this.1
  rcases hk with hk | hk
  · rw [if_neg (by omega), if_neg (by omega), if_neg (by omega), if_neg (by omega), if_pos hk] at h1
    simp at h1
    exact wd_of h1.2
  · rw [if_neg (by omega), if_pos hk] at h1
    exact wd_of h1
/-- What is narrow is its own cut. -/
theorem narrow_snd {p : PS} (hw : WfP p) (hr : ∀ t ∈ p.T, t.wf) {a x v : Int} (hx : Wd4 x) (ha : hasB p.T a = true) (hn : narrowP p.T a x = true) (hv : evP p.T vs a = some v) : cutV x v = v := by
  rw [evP_eq hw ha] at hv
  have hu : ∀ k u, evP p.T vs k = some u → U64 u := fun k u h => evP_u64 hr hU h
  unfold narrowP at hn
  dsimp only at hn
  by_cases h64 : x = 64
  · rw [h64, cut64]
  by_cases h4 : (atP p.T a).kind = 4
  · unfold evT at hv
    rw [if_neg (by omega), if_neg (by omega), if_neg (by omega), if_pos h4] at hv
    rw [Option.bind_eq_some_iff] at hv
    obtain ⟨s, _, hv⟩ := hv
    rw [Option.map_eq_some_iff] at hv
    obtain ⟨t, _, rfl⟩ := hv
    generalize holdsU _ _ _ _ = bb
    cases bb <;> rcases hx with rfl | rfl | rfl | rfl <;> simp [flagV, cutV]
  rw [if_neg (by omega)] at hn
  by_cases h0 : (atP p.T a).kind = 0
  · rw [if_pos h0] at hn
    unfold evT at hv
    rw [if_neg (by omega), if_neg (by omega), if_neg (by omega), if_neg (by omega), if_neg (by omega)] at hv
    injection hv with hv
    simp at hn
    rw [← hv]
    exact hn.symm
  rw [if_neg h0] at hn
  by_cases h31 : (atP p.T a).kind = 3 ∨ (atP p.T a).kind = 1
  · rw [if_pos h31] at hn
    have hwd := wd_at hw ha h31
    simp at hn
    unfold evT at hv
    rcases h31 with h3 | h1
    · rw [if_neg (by omega), if_pos h3, Option.map_eq_some_iff] at hv
      obtain ⟨s, hs, rfl⟩ := hv
      rw [cut_cut hwd hx (hu _ _ hs), Int.min_eq_left hn]
    · rw [if_pos h1, Option.map_eq_some_iff] at hv
      obtain ⟨s, hs, rfl⟩ := hv
      rw [cut_cut hwd hx (hU s (List.mem_of_getElem? hs)), Int.min_eq_left hn]
  · rw [if_neg h31] at hn
    simp at hn
    unfold evT at hv
    rw [if_neg (by omega), if_neg (by omega), if_pos hn.1, Option.bind_eq_some_iff] at hv
    obtain ⟨s, hs, hv⟩ := hv
    rw [Option.map_eq_some_iff] at hv
    obtain ⟨t, ht, rfl⟩ := hv
    rw [hn.2.1, hn.2.2]
    have h32 : Wd4 32 := by unfold Wd4; omega
    unfold doU
    rw [cut_cut h32 h32 (doV_u64 (cutV_u64 (hu _ _ hs)) (cutV_u64 (hu _ _ ht))), Int.min_self]
theorem zext_snd : ∀ (f : Nat) {p : PS} (hw : WfP p) (hr : ∀ t ∈ p.T, t.wf) (hav : AV vs p) {x a v : Int} {r : RS} (hx : Wd4 x) (ha : hasB p.T a = true) (hv : evP p.T vs a = some v), zextF f p x a = some r → Snd vs p r (cutV x v)
  | 0, _, _, _, _, _, _, _, _, _, _, _, h => by cases h
  | f + 1, p, hw, hr, hav, x, a, v, r, hx, ha, hv, h => by
    have hI8 : I8 x := by unfold I8; rcases hx with rfl | rfl | rfl | rfl <;> omega
    have hu := evP_u64 hr hU hv
    rw [zextF_succ] at h
    split at h
    · rename_i h1; injection h with h; subst h; exact Snd.same hw hr hav ha (by rw [h1, cut64]; exact hv)
    rename_i h64
    split at h
    · rename_i h2
      injection h with h; subst h
      have hc := ev_const (vs := vs) hw ha h2
      rw [hv] at hc
      injection hc with hc
      exact Snd.put hw hr hav (constT_wf (cutV_u64 (atP_wf hr a).2.2.2.1)) (by rw [evT_const, ← hc])
    rename_i k0
    split at h
    · rename_i h3; injection h with h; subst h; exact Snd.same hw hr hav ha (by rw [narrow_snd hU hw hr hx ha h3 hv]; exact hv)
    rename_i hnn
    split at h
    · rename_i h4
      have hp := has_part hw ha h4
      have hwd := wd_at hw ha (.inl h4)
      have hv' := hv
      rw [evP_eq hw ha] at hv'
      unfold evT at hv'
      rw [if_neg (by omega), if_pos h4, Option.map_eq_some_iff] at hv'
      obtain ⟨s, hs, rfl⟩ := hv'
      refine (zext_snd f hw hr hav hx hp.2.2 hs h).cast ?_
      rw [cut_cut hwd hx (evP_u64 hr hU hs)]
      have : ¬ (atP p.T a).w ≤ x := by
        intro hle
        apply hnn
        unfold narrowP
        dsimp only
        rw [if_neg (by omega), if_neg k0, if_pos (.inl h4)]
        simpa using hle
      rw [Int.min_eq_right (by omega)]
    · rename_i k3
      injection h with h; subst h
      refine Snd.put hw hr hav (zextT_wf (has_i64 hw ha) hI8) ?_
      show evT vs (zextT x a) (evP p.T vs) = _
      unfold evT
      rw [if_neg (by show ¬ (3 : Int) = 1; decide), if_pos (show (zextT x a).kind = 3 from rfl)]
      show (evP p.T vs a).map (cutV x) = _
      rw [hv]
      rfl
/-- An operand has the operand's cut. -/
theorem operand_snd {p : PS} (hw : WfP p) (hr : ∀ t ∈ p.T, t.wf) (hav : AV vs p) {x a v : Int} (hx : x = 32 ∨ x = 64) (ha : hasB p.T a = true) (hv : evP p.T vs a = some v) : ∃ u, Snd vs p (operandP p x a) u ∧ cutV x u = cutV x v ∧ U64 u := by
  have hwx : Wd4 x := by unfold Wd4; omega
  have hu := evP_u64 hr hU hv
  unfold operandP
  dsimp only
  by_cases k0 : (atP p.T a).kind = 0
  · rw [if_pos k0]
    have hc := ev_const (vs := vs) hw ha k0
    rw [hv] at hc
    injection hc with hc
    refine ⟨cutV x v, Snd.put hw hr hav (constT_wf (cutV_u64 (atP_wf hr a).2.2.2.1)) (by rw [evT_const, ← hc]), by rw [cut_cut hwx hwx hu, Int.min_self], cutV_u64 hu⟩
  · rw [if_neg k0]
    by_cases h3 : x = 32 ∧ (atP p.T a).kind = 3 ∧ (atP p.T a).w = 32
    · rw [if_pos h3]
      have hp := has_part hw ha h3.2.1
      have hv' := hv
      rw [evP_eq hw ha] at hv'
      unfold evT at hv'
      rw [if_neg (by omega), if_pos h3.2.1, Option.map_eq_some_iff] at hv'
      obtain ⟨s, hs, rfl⟩ := hv'
      refine ⟨s, Snd.same hw hr hav hp.2.2 hs, ?_, evP_u64 hr hU hs⟩
      rw [h3.2.2, h3.1]
      have h32 : Wd4 32 := by unfold Wd4; omega
      rw [cut_cut h32 h32 (evP_u64 hr hU hs), Int.min_self]
    · rw [if_neg h3]
      exact ⟨v, Snd.same hw hr hav ha hv, rfl, hu⟩
theorem both_snd {p : PS} (hw : WfP p) (hr : ∀ t ∈ p.T, t.wf) (hav : AV vs p) {x a b va vb : Int} (hx : x = 32 ∨ x = 64) (ha : hasB p.T a = true) (hb : hasB p.T b = true) (hva : evP p.T vs a = some va) (hvb : evP p.T vs b = some vb) :
    AV vs (bothP p x a b).1 ∧ ((bothP p x a b).2.2.2 = 0 → ∃ ua ub, evP (bothP p x a b).1.T vs (bothP p x a b).2.1 = some ua ∧ evP (bothP p x a b).1.T vs (bothP p x a b).2.2.1 = some ub ∧ cutV x ua = cutV x va ∧ cutV x ub = cutV x vb ∧ U64 ua ∧ U64 ub) := by
  obtain ⟨ua, hs, hc, hu⟩ := operand_snd hU hw hr hav hx ha hva
  unfold bothP
  dsimp only
  by_cases h0 : (operandP p x a).2.2 = 0
  · rw [if_pos h0]
    dsimp only
    have e1 := operand_ext p x a
    obtain ⟨ub, hs2, hc2, hu2⟩ := operand_snd hU hs.good.wf hs.good.rng hs.av hx (e1.has hb) (ev_up hw hs.good.wf e1 hvb)
    refine ⟨hs2.av, fun he => ⟨ua, ub, ev_up hs.good.wf hs2.good.wf hs2.good.ext (hs.val h0), hs2.val he, hc, hc2, hu, hu2⟩⟩
  · rw [if_neg h0]
    exact ⟨hs.av, fun he => absurd he h0⟩
end
end Go.Proofs.Ytepagfkkjlbipaa
end
section
namespace Go.Proofs.Ytepagfkkjlbipaa
open Go.RowKit
set_option linter.unusedVariables false
set_option linter.unusedSimpArgs false
set_option maxRecDepth 100000
theorem holds_cut (cc : Int) {x a b a' b' : Int} (h1 : cutV x a' = cutV x a) (h2 : cutV x b' = cutV x b) : holdsU cc x a' b' = holdsU cc x a b := by
  unfold holdsU
  rw [h1, h2]
theorem ord_self (a : Int) : ordV a a = 0 := by unfold ordV; simp
theorem holds_self {cc : Int} (h : cc ≠ 10) (x a : Int) : holdsU cc x 0 0 = holdsU cc x a a := by
  unfold holdsU
  rw [if_neg h, if_neg h]
  simp only [ord_self]
theorem ord_neg (a b : Int) : ordV b a = - ordV a b := by
  unfold ordV
  by_cases h1 : a < b
  · rw [if_neg (by omega), if_pos h1, if_pos h1]; rfl
  · by_cases h2 : b < a
    · rw [if_pos h2, if_neg h1, if_pos h2]
    · rw [if_neg h2, if_neg h1, if_neg h1, if_neg h2]; rfl
theorem holds_turned {cc : Int} (h : turnedB cc = true) (x a b : Int) : holdsU (turnedV cc) x b a = holdsU cc x a b := by
  unfold turnedB at h
  simp at h
  have key : ∀ u v : Int, (ordV v u < 0 ↔ 0 < ordV u v) ∧ (ordV v u ≤ 0 ↔ 0 ≤ ordV u v) := by
    intro u v
    rw [ord_neg u v]
    constructor <;> omega
  rcases h with rfl | rfl | rfl | rfl
  · show holdsU 4 x b a = holdsU 2 x a b
    unfold holdsU
    simp
    exact (key _ _).1
  · show holdsU 5 x b a = holdsU 3 x a b
    unfold holdsU
    simp
    exact (key _ _).2
  · show holdsU 8 x b a = holdsU 6 x a b
    unfold holdsU
    simp
    exact (key _ _).1
  · show holdsU 9 x b a = holdsU 7 x a b
    unfold holdsU
    simp
    exact (key _ _).2
section
variable {vs : List Int} (hU : ∀ v ∈ vs, U64 v)
include hU
set_option maxHeartbeats 2000000 in
theorem op_snd : ∀ (f : Nat) {p : PS} (hw : WfP p) (hr : ∀ t ∈ p.T, t.wf) (hav : AV vs p) {op x a b va vb : Int} {r : RS} (hva : evP p.T vs a = some va) (hvb : evP p.T vs b = some vb), opF f p op x a b = some r → Snd vs p r (doU op x va vb)
  | 0, _, _, _, _, _, _, _, _, _, _, _, _, _, h => by cases h
  | f + 1, p, hw, hr, hav, op, x, a, b, va, vb, r, hva, hvb, h => by
    rw [opF_succ] at h
    split at h
    · injection h with h; subst h; exact Snd.err hw hr hav 0 _ (by decide)
    rename_i hab
    have hab : hasB p.T a = true ∧ hasB p.T b = true := by simpa using hab
    split at h
    · injection h with h; subst h; exact Snd.err hw hr hav 0 _ (by decide)
    rename_i hd
    have hd := doOk_yes (op := op) (x := x) (by simpa using hd)
    have hx := hd.1
    have hwx : Wd4 x := by unfold Wd4; omega
    have hI8 : I8 op ∧ I8 x := by unfold I8; omega
    have hw2 := both_wf hw hr (has_i64 hw hab.1) (has_i64 hw hab.2) x
    have hbs := both_snd hU hw hr hav hx hab.1 hab.2 hva hvb
    have hua := evP_u64 hr hU hva
    have hub := evP_u64 hr hU hvb
    split at h
    · rename_i h0
      have hf := both_facts hw hr hab.1 hab.2 h0
      have hbe := both_ext p x a b
      obtain ⟨ua, ub, hA, hB, hcA, hcB, huA, huB⟩ := hbs.2 h0
      have hav2 := hbs.1
      rw [← doU_cong op hx hua hub huA huB hcA hcB]
      refine Snd.up hbe ?_
      generalize bothP p x a b = z at h hw2 hf hA hB hav2
      obtain ⟨p1, a1, b1, e1⟩ := z
      dsimp only at h hw2 hf hA hB hav2
      have hc : ∀ {n : Int}, U64 n → Snd vs p1 (putR p1 (constT n)) n := fun hn => Snd.put hw2.1 hw2.2 hav2 (constT_wf hn) rfl
      have upA : ∀ {q : PS} {v : Int} {s : RS}, Snd vs p1 s v → ∀ {n w : Int}, evP p1.T vs n = some w → evP s.1.T vs n = some w := fun {_ _ _} hs {_ _} hn => ev_up hw2.1 hs.good.wf hs.good.ext hn
      have kA : (atP p1.T a1).kind = 0 → (atP p1.T a1).n = ua := fun k => by
        have := ev_const (vs := vs) hw2.1 hf.1 k
        rw [hA] at this
        injection this with this
        exact this.symm
      have kB : (atP p1.T b1).kind = 0 → (atP p1.T b1).n = ub := fun k => by
        have := ev_const (vs := vs) hw2.1 hf.2.1 k
        rw [hB] at this
        injection this with this
        exact this.symm
      unfold opL at h
      dsimp only at h
      split at h
      · rename_i c1
        injection h with h; subst h
        simp at c1
        rw [kA c1.1, kB c1.2]
        exact hc (cutV_u64 (doV_u64 (cutV_u64 huA) (cutV_u64 huB)))
      split at h
      · rename_i c2
        subst c2
        refine Snd.bind (hc zero_u64) (fun hz s hs => ?_) h
        have h1 := hc zero_u64
        exact (op_snd f h1.good.wf h1.good.rng h1.av (h1.val hz) (upA (q := p1) h1 hA) hs).cast (law_neg hx huA)
      split at h
      · rename_i c3
        subst c3
        exact (zext_snd hU f hw2.1 hw2.2 hav2 hwx hf.2.1 hB h).cast (law_mov hx huB)
      split at h
      · rename_i c4
        have hop : op = 1 ∧ (atP p1.T b1).kind = 0 := by simpa using c4
        rw [kB hop.2] at h
        obtain ⟨rfl, _⟩ := hop
        have hu : U64 (cutV x (IntKind.u64.wrap (-ub))) := cutV_u64 (wrap_u64 _)
        refine Snd.bind (hc hu) (fun hz s hs => ?_) h
        have h1 := hc hu
        exact (op_snd f h1.good.wf h1.good.rng h1.av (upA (q := p1) h1 hA) (h1.val hz) hs).cast (law_sub hx huA huB)
      split at h
      · rename_i c5
        have ht : turnsB op = true := by
          cases ht : turnsB op
          · rw [ht] at c5; simp at c5
          · rfl
        exact (op_snd f hw2.1 hw2.2 hav2 hB hA h).cast (doU_comm ht x ub ua)
      split at h
      · rename_i c6
        unfold assocB at c6
        simp at c6
        obtain ⟨rfl, hkb, hks, hk2, hop0, hww⟩ := c6
        have hsa := has_prt hw2.1 hf.1 (k := (atP p1.T a1).a) (by unfold prtL; rw [if_pos (.inl hk2)]; simp)
        have hsb := has_prt hw2.1 hf.1 (k := (atP p1.T a1).b) (by unfold prtL; rw [if_pos (.inl hk2)]; simp)
        obtain ⟨vsa, hvsa⟩ := hav2 _ hsa
        have hcb := ev_const (vs := vs) hw2.1 hsb hks
        have hA' := hA
        rw [evP_eq hw2.1 hf.1] at hA'
        unfold evT at hA'
        rw [if_neg (by omega), if_neg (by omega), if_pos hk2, hvsa, hcb] at hA'
        have hA'' : doU (atP p1.T a1).op (atP p1.T a1).w vsa (atP p1.T (atP p1.T a1).b).n = ua := by
          simpa using hA'
        rw [hop0, hww] at hA''
        rw [kB hkb] at h
        have hun := evP_u64 hw2.2 hU hcb
        have hu : U64 (cutV x (IntKind.u64.wrap ((atP p1.T (atP p1.T a1).b).n + ub))) := cutV_u64 (wrap_u64 _)
        refine Snd.bind (hc hu) (fun hz s hs => ?_) h
        have h1 := hc hu
        refine (op_snd f h1.good.wf h1.good.rng h1.av (upA (q := p1) h1 hvsa) (h1.val hz) hs).cast ?_
        rw [law_assoc hx (evP_u64 hw2.2 hU hvsa) hun huB, hA'']
      split at h
      · rename_i c7
        simp only [Bool.and_eq_true] at c7
        have hkb : (atP p1.T b1).kind = 0 := by simpa using c7.1
        rw [kB hkb] at c7
        exact (zext_snd hU f hw2.1 hw2.2 hav2 hwx hf.1 hA h).cast (law_same hx huA huB c7.2).symm
      split at h
      · rename_i c8
        simp only [Bool.and_eq_true] at c8
        have hkb : (atP p1.T b1).kind = 0 := by simpa using c8.1
        rw [kB hkb] at c8
        injection h with h; subst h
        exact (hc zero_u64).cast (law_nil hx c8.2).symm
      have same : a1 = b1 → ua = ub := fun e => by subst e; rw [hA] at hB; injection hB
      split at h
      · rename_i c9
        simp at c9
        injection h with h; subst h
        rw [← same c9.1]
        exact (hc zero_u64).cast (law_self hx c9.2).symm
      split at h
      · rename_i c10
        simp at c10
        rw [← same c10.1]
        exact (zext_snd hU f hw2.1 hw2.2 hav2 hwx hf.1 hA h).cast (law_and hx huA c10.2).symm
      · injection h with h; subst h
        refine Snd.put hw2.1 hw2.2 hav2 (opT_wf' hI8.1 hI8.2 (has_i64 hw2.1 hf.1) (has_i64 hw2.1 hf.2.1)) ?_
        show ((evP p1.T vs a1).bind fun u => (evP p1.T vs b1).map fun w => doU op x u w) = _
        rw [hA, hB]
        rfl
    · rename_i h0
      injection h with h; subst h
      exact ⟨⟨both_ext p x a b, hw2.1, hw2.2, fun e => absurd e h0⟩, hbs.1, fun e => absurd e h0⟩
theorem cond_snd : ∀ (f : Nat) {p : PS} (hw : WfP p) (hr : ∀ t ∈ p.T, t.wf) (hav : AV vs p) {cc x a b va vb : Int} {r : RS} (hva : evP p.T vs a = some va) (hvb : evP p.T vs b = some vb), condF f p cc x a b = some r → Snd vs p r (flagV (holdsU cc x va vb))
  | 0, _, _, _, _, _, _, _, _, _, _, _, _, _, h => by cases h
  | f + 1, p, hw, hr, hav, cc, x, a, b, va, vb, r, hva, hvb, h => by
    rw [condF_succ] at h
    split at h
    · injection h with h; subst h; exact Snd.err hw hr hav 0 _ (by decide)
    rename_i hab
    have hab : hasB p.T a = true ∧ hasB p.T b = true := by simpa using hab
    split at h
    · injection h with h; subst h; exact Snd.err hw hr hav 0 _ (by decide)
    rename_i hd
    have hd := holdsOk_yes (cc := cc) (x := x) (by simpa using hd)
    have hx := hd.1
    have hI8 : I8 cc ∧ I8 x := by unfold I8; omega
    have hw2 := both_wf hw hr (has_i64 hw hab.1) (has_i64 hw hab.2) x
    have hbs := both_snd hU hw hr hav hx hab.1 hab.2 hva hvb
    split at h
    · rename_i h0
      have hf := both_facts hw hr hab.1 hab.2 h0
      have hbe := both_ext p x a b
      obtain ⟨ua, ub, hA, hB, hcA, hcB, huA, huB⟩ := hbs.2 h0
      have hav2 := hbs.1
      rw [← holds_cut cc hcA hcB]
      refine Snd.up hbe ?_
      generalize bothP p x a b = z at h hw2 hf hA hB hav2
      obtain ⟨p1, a1, b1, e1⟩ := z
      dsimp only at h hw2 hf hA hB hav2
      have hc : ∀ {n : Int}, U64 n → Snd vs p1 (putR p1 (constT n)) n := fun hn => Snd.put hw2.1 hw2.2 hav2 (constT_wf hn) rfl
      have kA : (atP p1.T a1).kind = 0 → (atP p1.T a1).n = ua := fun k => by
        have := ev_const (vs := vs) hw2.1 hf.1 k
        rw [hA] at this
        injection this with this
        exact this.symm
      have kB : (atP p1.T b1).kind = 0 → (atP p1.T b1).n = ub := fun k => by
        have := ev_const (vs := vs) hw2.1 hf.2.1 k
        rw [hB] at this
        injection this with this
        exact this.symm
      have hia := has_i64 hw2.1 hf.1
      have hib := has_i64 hw2.1 hf.2.1
      unfold condL at h
      dsimp only at h
      split at h
      · rename_i c1
        injection h with h; subst h
        simp at c1
        rw [kA c1.1, kB c1.2]
        exact hc (flagV_u64 _)
      split at h
      · rename_i c2
        injection h with h; subst h
        simp at c2
        obtain ⟨rfl, hcc⟩ := c2
        rw [hA] at hB
        injection hB with hB
        subst hB
        exact (hc (flagV_u64 _)).cast (by rw [holds_self hcc])
      split at h
      · rename_i c3
        exact (cond_snd f hw2.1 hw2.2 hav2 hB hA h).cast (by rw [holds_turned c3])
      split at h
      · rename_i c4
        have hcm : cc = 0 ∨ cc = 1 ∨ cc = 10 := by
          unfold swapB at c4
          simp only [Bool.and_eq_true, Bool.or_eq_true] at c4
          simpa using c4.1
        injection h with h; subst h
        refine Snd.put hw2.1 hw2.2 hav2 (condT_wf hI8.1 hI8.2 hib hia) ?_
        show ((evP p1.T vs b1).bind fun u => (evP p1.T vs a1).map fun w => flagV (holdsU cc x u w)) = _
        rw [hA, hB, holds_comm hcm x ua ub]
        rfl
      · injection h with h; subst h
        refine Snd.put hw2.1 hw2.2 hav2 (condT_wf hI8.1 hI8.2 hia hib) ?_
        show ((evP p1.T vs a1).bind fun u => (evP p1.T vs b1).map fun w => flagV (holdsU cc x u w)) = _
        rw [hA, hB]
        rfl
    · rename_i h0
      injection h with h; subst h
      exact ⟨⟨both_ext p x a b, hw2.1, hw2.2, fun e => absurd e h0⟩, hbs.1, fun e => absurd e h0⟩
end
end Go.Proofs.Ytepagfkkjlbipaa
end
section
namespace Go.Proofs.Ytepagfkkjlbipaa
open Go.RowKit
set_option linter.unusedVariables false
set_option linter.unusedSimpArgs false
set_option maxRecDepth 100000
def iteV (a b c : Int) : Int := if a = 0 then c else b
section
variable {vs : List Int} (hU : ∀ v ∈ vs, U64 v)
include hU
/-- A number's value; nought, if it has none. -/
def valD (vs : List Int) (p : PS) (n : Int) : Int := (evP p.T vs n).getD 0
end
end Go.Proofs.Ytepagfkkjlbipaa
end
