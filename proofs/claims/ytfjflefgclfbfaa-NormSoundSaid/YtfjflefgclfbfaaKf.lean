/-
  The arithmetic of norm's laws. Conditions: those written in each statement.
  Values are the parts' operation: cuts and operations. Conditions: those written in each statement.
  Values are the parts' operation: operations, conditions, choices. Conditions: those written in each statement.
  Values are the parts' operation: choices, and whatever is made. Conditions: those written in each statement.
-/
import Derived.Test.YtfjflefgclfbfaaKe
section
namespace Go.Proofs.Ytfjflefgclfbfaa
open Go.RowKit
set_option linter.unusedVariables false
set_option linter.unusedSimpArgs false
set_option maxRecDepth 100000
theorem cut64 (v : Int) : cutV 64 v = v := by unfold cutV; simp
theorem cut32 (v : Int) : cutV 32 v = v % 4294967296 := by unfold cutV; simp
theorem doU_cut (op : Int) {x : Int} (hx : x = 32 ∨ x = 64) {a b : Int} (ha : U64 a) (hb : U64 b) : doU op x (cutV x a) (cutV x b) = doU op x a b := by
  have hw : Wd4 x := by unfold Wd4; omega
  have e1 : cutV x (cutV x a) = cutV x a := by rw [cut_cut hw hw ha, Int.min_self]
  have e2 : cutV x (cutV x b) = cutV x b := by rw [cut_cut hw hw hb, Int.min_self]
  unfold doU byV
  rw [e1, e2]
theorem doU_cong (op : Int) {x : Int} (hx : x = 32 ∨ x = 64) {a b a' b' : Int} (ha : U64 a) (hb : U64 b) (ha' : U64 a') (hb' : U64 b') (h1 : cutV x a' = cutV x a) (h2 : cutV x b' = cutV x b) : doU op x a' b' = doU op x a b := by
  rw [← doU_cut op hx ha hb, ← doU_cut op hx ha' hb', h1, h2]
section
variable {x a b n d : Int}
theorem law_neg (hx : x = 32 ∨ x = 64) (ha : U64 a) : doU 1 x 0 a = doU 8 x a b := by
  unfold U64 at ha
  unfold doU doV
  rcases hx with rfl | rfl
  · simp [cut32, IntKind.wrap_u64]
  · simp [cut64, IntKind.wrap_u64]
theorem law_mov (hx : x = 32 ∨ x = 64) (hb : U64 b) : cutV x b = doU 11 x a b := by
  have hw : Wd4 x := by unfold Wd4; omega
  unfold doU doV
  simp
  rw [cut_cut hw hw hb, Int.min_self]
theorem law_sub (hx : x = 32 ∨ x = 64) (ha : U64 a) (hb : U64 b) : doU 0 x a (cutV x (IntKind.u64.wrap (-b))) = doU 1 x a b := by
  unfold U64 at ha hb
  unfold doU doV
  rcases hx with rfl | rfl
  · simp [cut32, IntKind.wrap_u64]; omega
  · simp [cut64, IntKind.wrap_u64]; omega
theorem law_assoc (hx : x = 32 ∨ x = 64) (ha : U64 a) (hn : U64 n) (hb : U64 b) : doU 0 x a (cutV x (IntKind.u64.wrap (n + b))) = doU 0 x (doU 0 x a n) b := by
  unfold U64 at ha hb hn
  unfold doU doV
  rcases hx with rfl | rfl
  · simp [cut32, IntKind.wrap_u64]; omega
  · simp [cut64, IntKind.wrap_u64]; omega
theorem bv_nat {a : Int} (ha : U64 a) : (BitVec.ofInt 64 a).toNat = a.toNat := by
  unfold U64 at ha
  rw [BitVec.toNat_ofInt]
  omega
theorem wrap_nat {a : Int} (ha : U64 a) : IntKind.u64.wrap ((a.toNat : Nat) : Int) = a := by
  unfold U64 at ha
  rw [IntKind.wrap_u64]
  omega
theorem bits_or0 (ha : U64 a) : bits .or .u64 a 0 = a := by
  unfold bits
  dsimp only
  show IntKind.u64.wrap (((BitVec.ofInt 64 a ||| 0#64).toNat : Nat) : Int) = a
  rw [BitVec.or_zero, bv_nat ha, wrap_nat ha]
theorem bits_xor0 (ha : U64 a) : bits .xor .u64 a 0 = a := by
  unfold bits
  dsimp only
  show IntKind.u64.wrap (((BitVec.ofInt 64 a ^^^ 0#64).toNat : Nat) : Int) = a
  rw [BitVec.xor_zero, bv_nat ha, wrap_nat ha]
theorem bits_and0 : bits .and .u64 a 0 = 0 := by
  unfold bits
  dsimp only
  show IntKind.u64.wrap (((BitVec.ofInt 64 a &&& 0#64).toNat : Nat) : Int) = 0
  rw [BitVec.and_zero]
  rfl
theorem bits_xorS : bits .xor .u64 a a = 0 := by
  unfold bits
  dsimp only
  rw [BitVec.xor_self]
  rfl
theorem bits_andS (ha : U64 a) : bits .and .u64 a a = a := by
  unfold bits
  dsimp only
  rw [BitVec.and_self]
  show IntKind.u64.wrap (((BitVec.ofInt 64 a).toNat : Nat) : Int) = a
  rw [bv_nat ha, wrap_nat ha]
theorem bits_orS (ha : U64 a) : bits .or .u64 a a = a := by
  unfold bits
  dsimp only
  rw [BitVec.or_self]
  show IntKind.u64.wrap (((BitVec.ofInt 64 a).toNat : Nat) : Int) = a
  rw [bv_nat ha, wrap_nat ha]
theorem wraps_u64' (n : Int) (h0 : 0 ≤ n) (h1 : n < 2 ^ 64) : IntKind.u64.wrap n = n := by rw [IntKind.wrap_u64]; omega
theorem law_nil (hx : x = 32 ∨ x = 64) {op : Int} (h : nilB op d = true) : doU op x a d = 0 := by
  unfold nilB at h
  simp at h
  obtain ⟨rfl, h⟩ := h
  have h0 : cutV x 0 = 0 := by rcases hx with rfl | rfl <;> simp [cut32, cut64]
  unfold doU
  rw [h0]
  unfold doV
  rcases h with rfl | rfl | rfl
  · simp [IntKind.wrap_u64, h0]
  · simp [bits_and0, h0]
  · simp [h0]
theorem law_self (hx : x = 32 ∨ x = 64) {op : Int} (h : op = 1 ∨ op = 10) : doU op x a a = 0 := by
  have h0 : cutV x 0 = 0 := by rcases hx with rfl | rfl <;> simp [cut32, cut64]
  unfold doU doV
  rcases h with rfl | rfl
  · simp [IntKind.wrap_u64, h0]
  · simp [bits_xorS, h0]
theorem law_and (hx : x = 32 ∨ x = 64) (ha : U64 a) {op : Int} (h : op = 5 ∨ op = 4) : doU op x a a = cutV x a := by
  have hw : Wd4 x := by unfold Wd4; omega
  have hc := cutV_u64 (x := x) ha
  unfold doU doV
  rcases h with rfl | rfl
  · simp [bits_andS hc]
    rw [cut_cut hw hw ha, Int.min_self]
  · simp [bits_orS hc]
    rw [cut_cut hw hw ha, Int.min_self]
/-- A constant on the right that changes nothing. -/
theorem law_same (hx : x = 32 ∨ x = 64) (ha : U64 a) (hd : U64 d) {op : Int} (h : sameB op x d = true) : doU op x a d = cutV x a := by
  have hw : Wd4 x := by unfold Wd4; omega
  have hc := cutV_u64 (x := x) ha
  have hcc : cutV x (cutV x a) = cutV x a := by rw [cut_cut hw hw ha, Int.min_self]
  have h0 : cutV x 0 = 0 := by rcases hx with rfl | rfl <;> simp [cut32, cut64]
  have hcu := hc
  unfold U64 at hcu
  have hwr : IntKind.u64.wrap (cutV x a) = cutV x a := by rw [IntKind.wrap_u64]; omega
  unfold sameB at h
  simp only [Bool.or_eq_true, Bool.and_eq_true] at h
  rcases h with ⟨hd0, h⟩ | ⟨hs, hm⟩ | h
  · have hd0 : d = 0 := by simpa using hd0
    subst hd0
    unfold doU
    rw [h0]
    unfold doV
    simp at h
    rcases h with rfl | rfl | rfl | rfl
    · simp [hwr, hcc]
    · simp [bits_or0 hc, hcc]
    · simp [bits_xor0 hc, hcc]
    · simp [hcc]
  · have hby : byV x d = 0 := by
      rw [byV_eq hx hd]
      have hm : bits .and .u64 d (x - 1) = 0 := by simpa using hm
      unfold U64 at hd
      rcases hx with rfl | rfl
      · have := bits_mask .u64 64 (by decide) wraps_u64' 5 (by decide) d hd.1 (by omega)
        rw [show (2 : Int) ^ 5 - 1 = 32 - 1 by decide, hm] at this
        rw [cut32]
        omega
      · have := bits_mask .u64 64 (by decide) wraps_u64' 6 (by decide) d hd.1 (by omega)
        rw [show (2 : Int) ^ 6 - 1 = 64 - 1 by decide, hm] at this
        rw [cut64]
        omega
    unfold doU
    rw [hby]
    unfold doV
    unfold shiftsB at hs
    simp at hs
    rcases hs with rfl | rfl | rfl
    · simp [hwr, hcc]
    · simp [hcc]
    · simp
      unfold signU wrap64
      rcases hx with rfl | rfl
      · rw [cut32] at hcu
        simp [IntKind.wrap_u64, IntKind.wrap_i32, cut32, wrap32] <;> omega
      · rw [cut64] at hcu
        simp [IntKind.wrap_u64, cut64] <;> omega
  · simp at h
    rcases h with ⟨rfl, rfl⟩ | ⟨rfl, rfl⟩
    · unfold doU doV
      rcases hx with rfl | rfl
      · unfold U64 at ha
        simp [cut32, IntKind.wrap_u64] <;> omega
      · unfold U64 at ha
        simp [cut64, IntKind.wrap_u64] <;> omega
    · unfold doU doV
      simp
      unfold U64 at ha
      rcases hx with rfl | rfl
      · have := bits_mask .u64 64 (by decide) wraps_u64' 32 (by decide) (cutV 32 a) hcu.1 (by omega)
        rw [show cutV 32 (cutV 32 18446744073709551615) = 2 ^ 32 - 1 by decide, this, cut32, cut32]
        omega
      · have := bits_mask .u64 64 (by decide) wraps_u64' 64 (by decide) (cutV 64 a) hcu.1 (by omega)
        rw [show cutV 64 (cutV 64 18446744073709551615) = 2 ^ 64 - 1 by decide, this, cut64, cut64]
        omega
end
end Go.Proofs.Ytfjflefgclfbfaa
end
section
namespace Go.Proofs.Ytfjflefgclfbfaa
open Go.RowKit
set_option linter.unusedVariables false
set_option linter.unusedSimpArgs false
set_option maxRecDepth 100000
/-- A pool that has grown has the values that it had. -/
theorem ev_ext {p q : PS} (hw : WfP p) (hq : WfP q) (he : Ext p q) (vs : List Int) : ∀ (N : Nat) (n : Int), n.toNat < N → hasB p.T n = true → evP q.T vs n = evP p.T vs n := by
  intro N
  induction N with
  | zero => intro n h; omega
  | succ N ih =>
    intro n h hn
    rw [evP_eq hw hn, evP_eq hq (he.has hn), he.at_ hn]
    refine evT_congr vs _ fun k hk => ?_
    have hl := part_less hw hn hk
    exact ih k (by omega) (has_prt hw hn hk)
/-- Each term of a pool has a value. -/
def AV (vs : List Int) (p : PS) : Prop := ∀ n, hasB p.T n = true → ∃ v, evP p.T vs n = some v
section
variable {vs : List Int} (hU : ∀ v ∈ vs, U64 v)
/-- What stands behind a making: the pool has values, and the number has that one. -/
structure Snd (vs : List Int) (p : PS) (r : RS) (v : Int) : Prop where
  good : Good p r
  av : AV vs r.1
  val : r.2.2 = 0 → evP r.1.T vs r.2.1 = some v
theorem ev_up {p q : PS} (hw : WfP p) (hq : WfP q) (he : Ext p q) {n v : Int} (h : evP p.T vs n = some v) : evP q.T vs n = some v := by
  cases hb : hasB p.T n
  · rw [evP_no hb] at h; cases h
  · rw [ev_ext hw hq he vs _ n (Nat.lt_succ_self _) hb]; exact h
theorem Snd.up {p q : PS} {r : RS} {v : Int} (he : Ext p q) (h : Snd vs q r v) : Snd vs p r v := ⟨h.good.up he, h.av, h.val⟩
theorem Snd.same {p : PS} (hw : WfP p) (hr : ∀ t ∈ p.T, t.wf) (ha : AV vs p) {n v : Int} (hn : hasB p.T n = true) (h : evP p.T vs n = some v) : Snd vs p (p, n, 0) v := ⟨Good.same hw hr hn, ha, fun _ => h⟩
theorem Snd.err {p : PS} (hw : WfP p) (hr : ∀ t ∈ p.T, t.wf) (ha : AV vs p) (n v : Int) {e : Int} (he : e ≠ 0) : Snd vs p (p, n, e) v := ⟨Good.err hw hr n he, ha, fun h => absurd h he⟩
theorem Snd.cast {p : PS} {r : RS} {v u : Int} (h : Snd vs p r v) (e : v = u) : Snd vs p r u := e ▸ h
/-- A term is put whose value is known. -/
theorem Snd.put {p : PS} (hw : WfP p) (hr : ∀ t ∈ p.T, t.wf) (ha : AV vs p) {t : TD} (ht : t.wf) {v : Int} (hv : evT vs t (evP p.T vs) = some v) : Snd vs p (putR p t) v := by
  have hg := Good.put hw hr ht
  have hq := (put_facts hw hr ht).1
  have he := Ext.put p t
  have hval : (putN p t).2 = 0 → evP (putP p t).T vs (putN p t).1 = some v := by
    intro h0
    have hp := put_at h0
    rw [evP_eq hq hp.1, hp.2]
    rw [← hv]
    refine evT_congr vs t fun k hk => ?_
    have hk2 := (okP_parts (putN_okP h0)).2.1 k hk
    have hkb : hasB p.T k = true := by unfold hasB; simp; exact hk2
    exact ev_ext hw hq he vs _ k (Nat.lt_succ_self _) hkb
  refine ⟨hg, fun n hn => ?_, hval⟩
  cases hb : hasB p.T n
  · have hn' : hasB (putP p t).T n = true := hn
    rcases putP_cases p t with ⟨e, _⟩ | ⟨_, _, _, _, e, e2⟩
    · rw [e] at hn'; rw [hb] at hn'; cases hn'
    · have hnn : n = (putN p t).1 := by
        rw [e] at hn'
        rw [e2]
        unfold hasB at hn' hb
        simp at hn' hb
        show n = (p.T.length : Int)
        omega
      exact ⟨v, by rw [hnn]; exact hval (by rw [e2])⟩
  · obtain ⟨u, hu⟩ := ha n hb
    exact ⟨u, ev_up hw hq he hu⟩
theorem Snd.bind {p : PS} {r s : RS} {v u : Int} {k : PS → Int → Option RS} (h : Snd vs p r v) (hk : r.2.2 = 0 → ∀ s, k r.1 r.2.1 = some s → Snd vs r.1 s u) (hs : bindR r k = some s) : Snd vs p s u := by
  unfold bindR at hs
  split at hs
  · rename_i h0; exact (hk h0 s hs).up h.good.ext
  · rename_i h0
    injection hs with hs
    subst hs
    exact ⟨⟨h.good.ext, h.good.wf, h.good.rng, fun e => absurd e h0⟩, h.av, fun e => absurd e h0⟩
theorem ev_const {p : PS} (hw : WfP p) {n : Int} (hn : hasB p.T n = true) (hk : (atP p.T n).kind = 0) : evP p.T vs n = some (atP p.T n).n := by
  rw [evP_eq hw hn]
  unfold evT
  rw [if_neg (by omega), if_neg (by omega), if_neg (by omega), if_neg (by omega), if_neg (by omega)]
theorem evT_const (n : Int) (rec : Int → Option Int) : evT vs (constT n) rec = some n := rfl
include hU
omit hU in
theorem wd_at {p : PS} (hw : WfP p) {n : Int} (hn : hasB p.T n = true) (hk : (atP p.T n).kind = 3 ∨ (atP p.T n).kind = 1) : Wd4 (atP p.T n).w := by
  obtain ⟨i, _, hi⟩ := has_ix hn
  have := hw.ok i _ hi
  unfold okF askT at this
  simp only [Bool.and_eq_true] at this
  have h1 := this.1
  rcases hk with hk | hk
  · rw [if_neg (by omega), if_neg (by omega), if_neg (by omega), if_neg (by omega), if_pos hk] at h1
    simp at h1
    exact wd_of h1.2
  · rw [if_neg (by omega), if_pos hk] at h1
    exact wd_of h1
/-- What is narrow is its own cut. -/
theorem narrow_snd {p : PS} (hw : WfP p) (hr : ∀ t ∈ p.T, t.wf) {a x v : Int} (hx : Wd4 x) (ha : hasB p.T a = true) (hn : narrowP p.T a x = true) (hv : evP p.T vs a = some v) : cutV x v = v := by
  rw [evP_eq hw ha] at hv
  have hu : ∀ k u, evP p.T vs k = some u → U64 u := fun k u h => evP_u64 hr hU h
  unfold narrowP at hn
  dsimp only at hn
  by_cases h64 : x = 64
  · rw [h64, cut64]
  by_cases h4 : (atP p.T a).kind = 4
  · unfold evT at hv
    rw [if_neg (by omega), if_neg (by omega), if_neg (by omega), if_pos h4] at hv
    rw [Option.bind_eq_some_iff] at hv
    obtain ⟨s, _, hv⟩ := hv
    rw [Option.map_eq_some_iff] at hv
    obtain ⟨t, _, rfl⟩ := hv
    generalize holdsU _ _ _ _ = bb
    cases bb <;> rcases hx with rfl | rfl | rfl | rfl <;> simp [flagV, cutV]
  rw [if_neg (by omega)] at hn
  by_cases h0 : (atP p.T a).kind = 0
  · rw [if_pos h0] at hn
    unfold evT at hv
    rw [if_neg (by omega), if_neg (by omega), if_neg (by omega), if_neg (by omega), if_neg (by omega)] at hv
    injection hv with hv
    simp at hn
    rw [← hv]
    exact hn.symm
  rw [if_neg h0] at hn
  by_cases h31 : (atP p.T a).kind = 3 ∨ (atP p.T a).kind = 1
  · rw [if_pos h31] at hn
    have hwd := wd_at hw ha h31
    simp at hn
    unfold evT at hv
    rcases h31 with h3 | h1
    · rw [if_neg (by omega), if_pos h3, Option.map_eq_some_iff] at hv
      obtain ⟨s, hs, rfl⟩ := hv
      rw [cut_cut hwd hx (hu _ _ hs), Int.min_eq_left hn]
    · rw [if_pos h1, Option.map_eq_some_iff] at hv
      obtain ⟨s, hs, rfl⟩ := hv
      rw [cut_cut hwd hx (hU s (List.mem_of_getElem? hs)), Int.min_eq_left hn]
  · rw [if_neg h31] at hn
    simp at hn
    unfold evT at hv
    rw [if_neg (by omega), if_neg (by omega), if_pos hn.1, Option.bind_eq_some_iff] at hv
    obtain ⟨s, hs, hv⟩ := hv
    rw [Option.map_eq_some_iff] at hv
    obtain ⟨t, ht, rfl⟩ := hv
    rw [hn.2.1, hn.2.2]
    have h32 : Wd4 32 := by unfold Wd4; omega
    unfold doU
    rw [cut_cut h32 h32 (doV_u64 (cutV_u64 (hu _ _ hs)) (cutV_u64 (hu _ _ ht))), Int.min_self]
theorem zext_snd : ∀ (f : Nat) {p : PS} (hw : WfP p) (hr : ∀ t ∈ p.T, t.wf) (hav : AV vs p) {x a v : Int} {r : RS} (hx : Wd4 x) (ha : hasB p.T a = true) (hv : evP p.T vs a = some v), zextF f p x a = some r → Snd vs p r (cutV x v)
  | 0, _, _, _, _, _, _, _, _, _, _, _, h => by cases h
  | f + 1, p, hw, hr, hav, x, a, v, r, hx, ha, hv, h => by
    have hI8 : I8 x := by unfold I8; rcases hx with rfl | rfl | rfl | rfl <;> omega
    have hu := evP_u64 hr hU hv
    rw [zextF_succ] at h
    split at h
    · rename_i h1; injection h with h; subst h; exact Snd.same hw hr hav ha (by rw [h1, cut64]; exact hv)
    rename_i h64
    split at h
    · rename_i h2
      injection h with h; subst h
      have hc := ev_const (vs := vs) hw ha h2
      rw [hv] at hc
      injection hc with hc
      exact Snd.put hw hr hav (constT_wf (cutV_u64 (atP_wf hr a).2.2.2.1)) (by rw [evT_const, ← hc])
    rename_i k0
    split at h
    · rename_i h3; injection h with h; subst h; exact Snd.same hw hr hav ha (by rw [narrow_snd hU hw hr hx ha h3 hv]; exact hv)
    rename_i hnn
    split at h
    · rename_i h4
      have hp := has_part hw ha h4
      have hwd := wd_at hw ha (.inl h4)
      have hv' := hv
      rw [evP_eq hw ha] at hv'
      unfold evT at hv'
      rw [if_neg (by omega), if_pos h4, Option.map_eq_some_iff] at hv'
      obtain ⟨s, hs, rfl⟩ := hv'
      refine (zext_snd f hw hr hav hx hp.2.2 hs h).cast ?_
      rw [cut_cut hwd hx (evP_u64 hr hU hs)]
      have : ¬ (atP p.T a).w ≤ x := by
        intro hle
        apply hnn
        unfold narrowP
        dsimp only
        rw [if_neg (by omega), if_neg k0, if_pos (.inl h4)]
        simpa using hle
      rw [Int.min_eq_right (by omega)]
    · rename_i k3
      injection h with h; subst h
      refine Snd.put hw hr hav (zextT_wf (has_i64 hw ha) hI8) ?_
      show evT vs (zextT x a) (evP p.T vs) = _
      unfold evT
      rw [if_neg (by show ¬ (3 : Int) = 1; decide), if_pos (show (zextT x a).kind = 3 from rfl)]
      show (evP p.T vs a).map (cutV x) = _
      rw [hv]
      rfl
/-- An operand has the operand's cut. -/
theorem operand_snd {p : PS} (hw : WfP p) (hr : ∀ t ∈ p.T, t.wf) (hav : AV vs p) {x a v : Int} (hx : x = 32 ∨ x = 64) (ha : hasB p.T a = true) (hv : evP p.T vs a = some v) : ∃ u, Snd vs p (operandP p x a) u ∧ cutV x u = cutV x v ∧ U64 u := by
  have hwx : Wd4 x := by unfold Wd4; omega
  have hu := evP_u64 hr hU hv
  unfold operandP
  dsimp only
  by_cases k0 : (atP p.T a).kind = 0
  · rw [if_pos k0]
    have hc := ev_const (vs := vs) hw ha k0
    rw [hv] at hc
    injection hc with hc
    refine ⟨cutV x v, Snd.put hw hr hav (constT_wf (cutV_u64 (atP_wf hr a).2.2.2.1)) (by rw [evT_const, ← hc]), by rw [cut_cut hwx hwx hu, Int.min_self], cutV_u64 hu⟩
  · rw [if_neg k0]
    by_cases h3 : x = 32 ∧ (atP p.T a).kind = 3 ∧ (atP p.T a).w = 32
    · rw [if_pos h3]
      have hp := has_part hw ha h3.2.1
      have hv' := hv
      rw [evP_eq hw ha] at hv'
      unfold evT at hv'
      rw [if_neg (by omega), if_pos h3.2.1, Option.map_eq_some_iff] at hv'
      obtain ⟨s, hs, rfl⟩ := hv'
      refine ⟨s, Snd.same hw hr hav hp.2.2 hs, ?_, evP_u64 hr hU hs⟩
      rw [h3.2.2, h3.1]
      have h32 : Wd4 32 := by unfold Wd4; omega
      rw [cut_cut h32 h32 (evP_u64 hr hU hs), Int.min_self]
    · rw [if_neg h3]
      exact ⟨v, Snd.same hw hr hav ha hv, rfl, hu⟩
theorem both_snd {p : PS} (hw : WfP p) (hr : ∀ t ∈ p.T, t.wf) (hav : AV vs p) {x a b va vb : Int} (hx : x = 32 ∨ x = 64) (ha : hasB p.T a = true) (hb : hasB p.T b = true) (hva : evP p.T vs a = some va) (hvb : evP p.T vs b = some vb) :
    AV vs (bothP p x a b).1 ∧ ((bothP p x a b).2.2.2 = 0 → ∃ ua ub, evP (bothP p x a b).1.T vs (bothP p x a b).2.1 = some ua ∧ evP (bothP p x a b).1.T vs (bothP p x a b).2.2.1 = some ub ∧ cutV x ua = cutV x va ∧ cutV x ub = cutV x vb ∧ U64 ua ∧ U64 ub) := by
  obtain ⟨ua, hs, hc, hu⟩ := operand_snd hU hw hr hav hx ha hva
  unfold bothP
  dsimp only
  by_cases h0 : (operandP p x a).2.2 = 0
  · rw [if_pos h0]
    dsimp only
    have e1 := operand_ext p x a
    obtain ⟨ub, hs2, hc2, hu2⟩ := operand_snd hU hs.good.wf hs.good.rng hs.av hx (e1.has hb) (ev_up hw hs.good.wf e1 hvb)
    refine ⟨hs2.av, fun he => ⟨ua, ub, ev_up hs.good.wf hs2.good.wf hs2.good.ext (hs.val h0), hs2.val he, hc, hc2, hu, hu2⟩⟩
  · rw [if_neg h0]
    exact ⟨hs.av, fun he => absurd he h0⟩
end
end Go.Proofs.Ytfjflefgclfbfaa
end
section
namespace Go.Proofs.Ytfjflefgclfbfaa
open Go.RowKit
set_option linter.unusedVariables false
set_option linter.unusedSimpArgs false
set_option maxRecDepth 100000
theorem holds_cut (cc : Int) {x a b a' b' : Int} (h1 : cutV x a' = cutV x a) (h2 : cutV x b' = cutV x b) : holdsU cc x a' b' = holdsU cc x a b := by
  unfold holdsU
  rw [h1, h2]
theorem ord_self (a : Int) : ordV a a = 0 := by unfold ordV; simp
theorem holds_self {cc : Int} (h : cc ≠ 10) (x a : Int) : holdsU cc x 0 0 = holdsU cc x a a := by
  unfold holdsU
  rw [if_neg h, if_neg h]
  simp only [ord_self]
theorem ord_neg (a b : Int) : ordV b a = - ordV a b := by
  unfold ordV
  by_cases h1 : a < b
  · rw [if_neg (by omega), if_pos h1, if_pos h1]; rfl
  · by_cases h2 : b < a
    · rw [if_pos h2, if_neg h1, if_pos h2]
    · rw [if_neg h2, if_neg h1, if_neg h1, if_neg h2]; rfl
theorem holds_turned {cc : Int} (h : turnedB cc = true) (x a b : Int) : holdsU (turnedV cc) x b a = holdsU cc x a b := by
  unfold turnedB at h
  simp at h
  have key : ∀ u v : Int, (ordV v u < 0 ↔ 0 < ordV u v) ∧ (ordV v u ≤ 0 ↔ 0 ≤ ordV u v) := by
    intro u v
    rw [ord_neg u v]
    constructor <;> omega
  rcases h with rfl | rfl | rfl | rfl
  · show holdsU 4 x b a = holdsU 2 x a b
    unfold holdsU
    simp
    exact (key _ _).1
  · show holdsU 5 x b a = holdsU 3 x a b
    unfold holdsU
    simp
    exact (key _ _).2
  · show holdsU 8 x b a = holdsU 6 x a b
    unfold holdsU
    simp
    exact (key _ _).1
  · show holdsU 9 x b a = holdsU 7 x a b
    unfold holdsU
    simp
    exact (key _ _).2
theorem holds_ne (x a b : Int) : holdsU 1 x a b = !holdsU 0 x a b := by
  unfold holdsU
  simp
  rfl
section
variable {vs : List Int} (hU : ∀ v ∈ vs, U64 v)
include hU
set_option maxHeartbeats 2000000 in
theorem op_snd : ∀ (f : Nat) {p : PS} (hw : WfP p) (hr : ∀ t ∈ p.T, t.wf) (hav : AV vs p) {op x a b va vb : Int} {r : RS} (hva : evP p.T vs a = some va) (hvb : evP p.T vs b = some vb), opF f p op x a b = some r → Snd vs p r (doU op x va vb)
  | 0, _, _, _, _, _, _, _, _, _, _, _, _, _, h => by cases h
  | f + 1, p, hw, hr, hav, op, x, a, b, va, vb, r, hva, hvb, h => by
    rw [opF_succ] at h
    split at h
    · injection h with h; subst h; exact Snd.err hw hr hav 0 _ (by decide)
    rename_i hab
    have hab : hasB p.T a = true ∧ hasB p.T b = true := by simpa using hab
    split at h
    · injection h with h; subst h; exact Snd.err hw hr hav 0 _ (by decide)
    rename_i hd
    have hd := doOk_yes (op := op) (x := x) (by simpa using hd)
    have hx := hd.1
    have hwx : Wd4 x := by unfold Wd4; omega
    have hI8 : I8 op ∧ I8 x := by unfold I8; omega
    have hw2 := both_wf hw hr (has_i64 hw hab.1) (has_i64 hw hab.2) x
    have hbs := both_snd hU hw hr hav hx hab.1 hab.2 hva hvb
    have hua := evP_u64 hr hU hva
    have hub := evP_u64 hr hU hvb
    split at h
    · rename_i h0
      have hf := both_facts hw hr hab.1 hab.2 h0
      have hbe := both_ext p x a b
      obtain ⟨ua, ub, hA, hB, hcA, hcB, huA, huB⟩ := hbs.2 h0
      have hav2 := hbs.1
      rw [← doU_cong op hx hua hub huA huB hcA hcB]
      refine Snd.up hbe ?_
      generalize bothP p x a b = z at h hw2 hf hA hB hav2
      obtain ⟨p1, a1, b1, e1⟩ := z
      dsimp only at h hw2 hf hA hB hav2
      have hc : ∀ {n : Int}, U64 n → Snd vs p1 (putR p1 (constT n)) n := fun hn => Snd.put hw2.1 hw2.2 hav2 (constT_wf hn) rfl
      have upA : ∀ {q : PS} {v : Int} {s : RS}, Snd vs p1 s v → ∀ {n w : Int}, evP p1.T vs n = some w → evP s.1.T vs n = some w := fun {_ _ _} hs {_ _} hn => ev_up hw2.1 hs.good.wf hs.good.ext hn
      have kA : (atP p1.T a1).kind = 0 → (atP p1.T a1).n = ua := fun k => by
        have := ev_const (vs := vs) hw2.1 hf.1 k
        rw [hA] at this
        injection this with this
        exact this.symm
      have kB : (atP p1.T b1).kind = 0 → (atP p1.T b1).n = ub := fun k => by
        have := ev_const (vs := vs) hw2.1 hf.2.1 k
        rw [hB] at this
        injection this with this
        exact this.symm
      unfold opL at h
      dsimp only at h
      split at h
      · rename_i c1
        injection h with h; subst h
        simp at c1
        rw [kA c1.1, kB c1.2]
        exact hc (cutV_u64 (doV_u64 (cutV_u64 huA) (cutV_u64 huB)))
      split at h
      · rename_i c2
        subst c2
        refine Snd.bind (hc zero_u64) (fun hz s hs => ?_) h
        have h1 := hc zero_u64
        exact (op_snd f h1.good.wf h1.good.rng h1.av (h1.val hz) (upA (q := p1) h1 hA) hs).cast (law_neg hx huA)
      split at h
      · rename_i c3
        subst c3
        exact (zext_snd hU f hw2.1 hw2.2 hav2 hwx hf.2.1 hB h).cast (law_mov hx huB)
      split at h
      · rename_i c4
        have hop : op = 1 ∧ (atP p1.T b1).kind = 0 := by simpa using c4
        rw [kB hop.2] at h
        obtain ⟨rfl, _⟩ := hop
        have hu : U64 (cutV x (IntKind.u64.wrap (-ub))) := cutV_u64 (wrap_u64 _)
        refine Snd.bind (hc hu) (fun hz s hs => ?_) h
        have h1 := hc hu
        exact (op_snd f h1.good.wf h1.good.rng h1.av (upA (q := p1) h1 hA) (h1.val hz) hs).cast (law_sub hx huA huB)
      split at h
      · rename_i c5
        have ht : turnsB op = true := by
          cases ht : turnsB op
          · rw [ht] at c5; simp at c5
          · rfl
        exact (op_snd f hw2.1 hw2.2 hav2 hB hA h).cast (doU_comm ht x ub ua)
      split at h
      · rename_i c6
        unfold assocB at c6
        simp at c6
        obtain ⟨rfl, hkb, hks, hk2, hop0, hww⟩ := c6
        have hsa := has_prt hw2.1 hf.1 (k := (atP p1.T a1).a) (by unfold prtL; rw [if_pos (.inl hk2)]; simp)
        have hsb := has_prt hw2.1 hf.1 (k := (atP p1.T a1).b) (by unfold prtL; rw [if_pos (.inl hk2)]; simp)
        obtain ⟨vsa, hvsa⟩ := hav2 _ hsa
        have hcb := ev_const (vs := vs) hw2.1 hsb hks
        have hA' := hA
        rw [evP_eq hw2.1 hf.1] at hA'
        unfold evT at hA'
        rw [if_neg (by omega), if_neg (by omega), if_pos hk2, hvsa, hcb] at hA'
        have hA'' : doU (atP p1.T a1).op (atP p1.T a1).w vsa (atP p1.T (atP p1.T a1).b).n = ua := by
          simpa using hA'
        rw [hop0, hww] at hA''
        rw [kB hkb] at h
        have hun := evP_u64 hw2.2 hU hcb
        have hu : U64 (cutV x (IntKind.u64.wrap ((atP p1.T (atP p1.T a1).b).n + ub))) := cutV_u64 (wrap_u64 _)
        refine Snd.bind (hc hu) (fun hz s hs => ?_) h
        have h1 := hc hu
        refine (op_snd f h1.good.wf h1.good.rng h1.av (upA (q := p1) h1 hvsa) (h1.val hz) hs).cast ?_
        rw [law_assoc hx (evP_u64 hw2.2 hU hvsa) hun huB, hA'']
      split at h
      · rename_i c7
        simp only [Bool.and_eq_true] at c7
        have hkb : (atP p1.T b1).kind = 0 := by simpa using c7.1
        rw [kB hkb] at c7
        exact (zext_snd hU f hw2.1 hw2.2 hav2 hwx hf.1 hA h).cast (law_same hx huA huB c7.2).symm
      split at h
      · rename_i c8
        simp only [Bool.and_eq_true] at c8
        have hkb : (atP p1.T b1).kind = 0 := by simpa using c8.1
        rw [kB hkb] at c8
        injection h with h; subst h
        exact (hc zero_u64).cast (law_nil hx c8.2).symm
      have same : a1 = b1 → ua = ub := fun e => by subst e; rw [hA] at hB; injection hB
      split at h
      · rename_i c9
        simp at c9
        injection h with h; subst h
        rw [← same c9.1]
        exact (hc zero_u64).cast (law_self hx c9.2).symm
      split at h
      · rename_i c10
        simp at c10
        rw [← same c10.1]
        exact (zext_snd hU f hw2.1 hw2.2 hav2 hwx hf.1 hA h).cast (law_and hx huA c10.2).symm
      · injection h with h; subst h
        refine Snd.put hw2.1 hw2.2 hav2 (opT_wf' hI8.1 hI8.2 (has_i64 hw2.1 hf.1) (has_i64 hw2.1 hf.2.1)) ?_
        show ((evP p1.T vs a1).bind fun u => (evP p1.T vs b1).map fun w => doU op x u w) = _
        rw [hA, hB]
        rfl
    · rename_i h0
      injection h with h; subst h
      exact ⟨⟨both_ext p x a b, hw2.1, hw2.2, fun e => absurd e h0⟩, hbs.1, fun e => absurd e h0⟩
theorem cond_snd : ∀ (f : Nat) {p : PS} (hw : WfP p) (hr : ∀ t ∈ p.T, t.wf) (hav : AV vs p) {cc x a b va vb : Int} {r : RS} (hva : evP p.T vs a = some va) (hvb : evP p.T vs b = some vb), condF f p cc x a b = some r → Snd vs p r (flagV (holdsU cc x va vb))
  | 0, _, _, _, _, _, _, _, _, _, _, _, _, _, h => by cases h
  | f + 1, p, hw, hr, hav, cc, x, a, b, va, vb, r, hva, hvb, h => by
    rw [condF_succ] at h
    split at h
    · injection h with h; subst h; exact Snd.err hw hr hav 0 _ (by decide)
    rename_i hab
    have hab : hasB p.T a = true ∧ hasB p.T b = true := by simpa using hab
    split at h
    · injection h with h; subst h; exact Snd.err hw hr hav 0 _ (by decide)
    rename_i hd
    have hd := holdsOk_yes (cc := cc) (x := x) (by simpa using hd)
    have hx := hd.1
    have hI8 : I8 cc ∧ I8 x := by unfold I8; omega
    have hw2 := both_wf hw hr (has_i64 hw hab.1) (has_i64 hw hab.2) x
    have hbs := both_snd hU hw hr hav hx hab.1 hab.2 hva hvb
    split at h
    · rename_i h0
      have hf := both_facts hw hr hab.1 hab.2 h0
      have hbe := both_ext p x a b
      obtain ⟨ua, ub, hA, hB, hcA, hcB, huA, huB⟩ := hbs.2 h0
      have hav2 := hbs.1
      rw [← holds_cut cc hcA hcB]
      refine Snd.up hbe ?_
      generalize bothP p x a b = z at h hw2 hf hA hB hav2
      obtain ⟨p1, a1, b1, e1⟩ := z
      dsimp only at h hw2 hf hA hB hav2
      have hc : ∀ {n : Int}, U64 n → Snd vs p1 (putR p1 (constT n)) n := fun hn => Snd.put hw2.1 hw2.2 hav2 (constT_wf hn) rfl
      have kA : (atP p1.T a1).kind = 0 → (atP p1.T a1).n = ua := fun k => by
        have := ev_const (vs := vs) hw2.1 hf.1 k
        rw [hA] at this
        injection this with this
        exact this.symm
      have kB : (atP p1.T b1).kind = 0 → (atP p1.T b1).n = ub := fun k => by
        have := ev_const (vs := vs) hw2.1 hf.2.1 k
        rw [hB] at this
        injection this with this
        exact this.symm
      have hia := has_i64 hw2.1 hf.1
      have hib := has_i64 hw2.1 hf.2.1
      unfold condL at h
      dsimp only at h
      split at h
      · rename_i c1
        injection h with h; subst h
        simp at c1
        rw [kA c1.1, kB c1.2]
        exact hc (flagV_u64 _)
      split at h
      · rename_i c2
        injection h with h; subst h
        simp at c2
        obtain ⟨rfl, hcc⟩ := c2
        rw [hA] at hB
        injection hB with hB
        subst hB
        exact (hc (flagV_u64 _)).cast (by rw [holds_self hcc])
      split at h
      · rename_i c3
        exact (cond_snd f hw2.1 hw2.2 hav2 hB hA h).cast (by rw [holds_turned c3])
      split at h
      · rename_i c4
        have hcm : cc = 0 ∨ cc = 1 ∨ cc = 10 := by
          unfold swapB at c4
          simp only [Bool.and_eq_true, Bool.or_eq_true] at c4
          simpa using c4.1
        injection h with h; subst h
        refine Snd.put hw2.1 hw2.2 hav2 (condT_wf hI8.1 hI8.2 hib hia) ?_
        show ((evP p1.T vs b1).bind fun u => (evP p1.T vs a1).map fun w => flagV (holdsU cc x u w)) = _
        rw [hA, hB, holds_comm hcm x ua ub]
        rfl
      · injection h with h; subst h
        refine Snd.put hw2.1 hw2.2 hav2 (condT_wf hI8.1 hI8.2 hia hib) ?_
        show ((evP p1.T vs a1).bind fun u => (evP p1.T vs b1).map fun w => flagV (holdsU cc x u w)) = _
        rw [hA, hB]
        rfl
    · rename_i h0
      injection h with h; subst h
      exact ⟨⟨both_ext p x a b, hw2.1, hw2.2, fun e => absurd e h0⟩, hbs.1, fun e => absurd e h0⟩
end
end Go.Proofs.Ytfjflefgclfbfaa
end
section
namespace Go.Proofs.Ytfjflefgclfbfaa
open Go.RowKit
set_option linter.unusedVariables false
set_option linter.unusedSimpArgs false
set_option maxRecDepth 100000
def iteV (a b c : Int) : Int := if a = 0 then c else b
theorem holds0 (x a b : Int) : holdsU 0 x a b = (cutV x a == cutV x b) := by
  unfold holdsU
  simp
  unfold ordV
  by_cases h1 : cutV x a < cutV x b
  · rw [if_pos h1]
    have : ¬ cutV x a = cutV x b := by omega
    simp [this]
  · rw [if_neg h1]
    by_cases h2 : cutV x b < cutV x a
    · rw [if_pos h2]
      have : ¬ cutV x a = cutV x b := by omega
      simp [this]
    · rw [if_neg h2]
      have : cutV x a = cutV x b := by omega
      simp [this]
theorem atP_cond_w {p : PS} (hw : WfP p) {a : Int} (ha : hasB p.T a = true) (hk : (atP p.T a).kind = 4) : (atP p.T a).w = 32 ∨ (atP p.T a).w = 64 := by
  obtain ⟨i, _, hi⟩ := has_ix ha
  have := hw.ok i _ hi
  unfold okF askT at this
  rw [hk] at this
  simp at this
  exact this.1.1
section
variable {vs : List Int} (hU : ∀ v ∈ vs, U64 v)
theorem ev_part {p : PS} (hw : WfP p) (hav : AV vs p) {n k : Int} (hn : hasB p.T n = true) (hk : k ∈ prtL (atP p.T n)) : ∃ v, evP p.T vs k = some v := hav k (has_prt hw hn hk)
theorem ev_is {p : PS} (hw : WfP p) {n v u : Int} (hn : hasB p.T n = true) (h : isP p.T n v = true) (hu : evP p.T vs n = some u) : u = v := by
  unfold isP at h
  simp at h
  rw [ev_const hw hn h.1] at hu
  injection hu with hu
  rw [← hu, h.2]
include hU
theorem ev_like {p : PS} (hw : WfP p) (hr : ∀ t ∈ p.T, t.wf) {n u x vn vu : Int} (hx : x = 32 ∨ x = 64) (hn : hasB p.T n = true) (h : likeP p.T n u x = true) (hvn : evP p.T vs n = some vn) (hvu : evP p.T vs u = some vu) : cutV x vn = cutV x vu ∧ (n ≠ u → vn = cutV x vu) := by
  have hwx : Wd4 x := by unfold Wd4; omega
  unfold likeP at h
  simp at h
  by_cases e : n = u
  · subst e
    rw [hvn] at hvu
    injection hvu with hvu
    exact ⟨by rw [hvu], fun h => absurd rfl h⟩
  · have h2 := h.resolve_left e
    rw [evP_eq hw hn] at hvn
    unfold evT at hvn
    rw [if_neg (by omega), if_pos h2.1, h2.2.2, hvu, h2.2.1] at hvn
    injection hvn with hvn
    refine ⟨?_, fun _ => hvn.symm⟩
    rw [← hvn, cut_cut hwx hwx (evP_u64 hr hU hvu), Int.min_self]
theorem div_snd {p : PS} (hw : WfP p) (hr : ∀ t ∈ p.T, t.wf) (hav : AV vs p) {a b c va vb vc : Int} (ha : hasB p.T a = true) (hb : hasB p.T b = true) (hc : hasB p.T c = true) (hva : evP p.T vs a = some va) (hvb : evP p.T vs b = some vb) (hvc : evP p.T vs c = some vc) (h : divOK p.T a b c = true) {f : Nat} {r : RS}
    (hO : opF f p (atP p.T c).op (atP p.T a).w (atP p.T c).a (atP p.T a).a = some r) : Snd vs p r (iteV va vb vc) := by
  unfold divOK divA divG divD divM at h
  simp only [Bool.and_eq_true] at h
  obtain ⟨⟨⟨⟨⟨k4, o0⟩, i0⟩, k2⟩, ww⟩, ⟨k5, za, i1, lz⟩, hdm⟩ := h
  have k4 : (atP p.T a).kind = 4 := by simpa using k4
  have o0 : (atP p.T a).op = 0 := by simpa using o0
  have k2 : (atP p.T c).kind = 2 := by simpa using k2
  have ww : (atP p.T c).w = (atP p.T a).w := by simpa using ww
  have k5 : (atP p.T (atP p.T c).b).kind = 5 := by simpa using k5
  have za : (atP p.T (atP p.T c).b).a = a := by simpa using za
  have mxa : (atP p.T a).a ∈ prtL (atP p.T a) := by unfold prtL; rw [if_pos (.inr k4)]; simp
  have mxb : (atP p.T a).b ∈ prtL (atP p.T a) := by unfold prtL; rw [if_pos (.inr k4)]; simp
  have mya : (atP p.T c).a ∈ prtL (atP p.T c) := by unfold prtL; rw [if_pos (.inl k2)]; simp
  have myb : (atP p.T c).b ∈ prtL (atP p.T c) := by unfold prtL; rw [if_pos (.inl k2)]; simp
  have hyb := has_prt hw hc myb
  have mzb : (atP p.T (atP p.T c).b).b ∈ prtL (atP p.T (atP p.T c).b) := by unfold prtL; rw [if_neg (by omega), if_neg (by omega), if_pos k5]; simp
  have mzc : (atP p.T (atP p.T c).b).c ∈ prtL (atP p.T (atP p.T c).b) := by unfold prtL; rw [if_neg (by omega), if_neg (by omega), if_pos k5]; simp
  obtain ⟨X, hX⟩ := ev_part hw hav ha mxa
  obtain ⟨Xb, hXb⟩ := ev_part hw hav ha mxb
  obtain ⟨Ya, hYa⟩ := ev_part hw hav hc mya
  obtain ⟨Yb, hYb⟩ := ev_part hw hav hc myb
  obtain ⟨Zb, hZb⟩ := ev_part hw hav hyb mzb
  obtain ⟨Zc, hZc⟩ := ev_part hw hav hyb mzc
  have eXb := ev_is hw (has_prt hw ha mxb) i0 hXb
  have eZb := ev_is hw (has_prt hw hyb mzb) i1 hZb
  subst eXb eZb
  have hwx := atP_cond_w hw ha k4
  have lZ := ev_like hU hw hr hwx (has_prt hw hyb mzc) lz hZc hX
  have uX := evP_u64 hr hU hX
  have uYa := evP_u64 hr hU hYa
  have uYb := evP_u64 hr hU hYb
  -- the values of a, c
  have eva := hva
  rw [evP_eq hw ha] at eva
  unfold evT at eva
  rw [if_neg (by omega), if_neg (by omega), if_neg (by omega), if_pos k4, hX, hXb, o0] at eva
  have eva : flagV (holdsU 0 (atP p.T a).w X 0) = va := by simpa using eva
  have evc := hvc
  rw [evP_eq hw hc] at evc
  unfold evT at evc
  rw [if_neg (by omega), if_neg (by omega), if_pos k2, hYa, hYb, ww] at evc
  have evc : doU (atP p.T c).op (atP p.T a).w Ya Yb = vc := by simpa using evc
  have evb := hYb
  rw [evP_eq hw hyb] at evb
  unfold evT at evb
  rw [if_neg (by omega), if_neg (by omega), if_neg (by omega), if_neg (by omega), if_pos k5, za, hva, hZb, hZc] at evb
  have evb : (if va = 0 then Zc else 1) = Yb := by simpa using evb
  have h00 : cutV (atP p.T a).w 0 = 0 := by rcases hwx with e | e <;> rw [e] <;> simp [cutV]
  refine (op_snd hU f hw hr hav hYa hX hO).cast ?_
  unfold iteV
  rw [holds0, h00] at eva
  by_cases hz : cutV (atP p.T a).w X = 0
  · have hva1 : va = 1 := by rw [← eva, hz]; rfl
    rw [if_neg (by omega)]
    simp only [Bool.or_eq_true, Bool.and_eq_true] at hdm
    rcases hdm with ⟨h3, hb0⟩ | ⟨h9, hlb, hnar⟩
    · have h3 : (atP p.T c).op = 3 := by simpa using h3
      have := ev_is hw hb hb0 hvb
      rw [this, h3]
      unfold doU doV
      rw [hz]
      simp [h00]
    · have h9 : (atP p.T c).op = 9 := by simpa using h9
      have lb := ev_like hU hw hr hwx hb hlb hvb hYa
      have hgoal : doU (atP p.T c).op (atP p.T a).w Ya X = cutV (atP p.T a).w Ya := by
        have hwx4 : Wd4 (atP p.T a).w := by unfold Wd4; omega
        rw [h9]
        unfold doU doV
        rw [hz]
        simp
        rw [cut_cut hwx4 hwx4 uYa, Int.min_self]
      rw [hgoal]
      by_cases hbe : b = (atP p.T c).a
      · have hn : narrowP p.T b (atP p.T a).w = true := by
          rcases hnar with q | q
          · exact absurd hbe (by simpa using q)
          · exact q
        have hwx4 : Wd4 (atP p.T a).w := by unfold Wd4; omega
        have := narrow_snd hU hw hr hwx4 hb hn hvb
        rw [← lb.1, this]
      · exact (lb.2 hbe).symm
  · have hva0 : va = 0 := by
      rw [← eva]
      have : (cutV (atP p.T a).w X == 0) = false := by simpa using hz
      rw [this]
      rfl
    rw [if_pos hva0]
    rw [if_pos hva0] at evb
    rw [← evc, ← evb]
    exact (doU_cong _ hwx uYa uX uYa (evP_u64 hr hU hZc) rfl lZ.1).symm
theorem ite_snd : ∀ (f : Nat) {p : PS} (hw : WfP p) (hr : ∀ t ∈ p.T, t.wf) (hav : AV vs p) {a b c va vb vc : Int} {r : RS} (hva : evP p.T vs a = some va) (hvb : evP p.T vs b = some vb) (hvc : evP p.T vs c = some vc), iteF f p a b c = some r → Snd vs p r (iteV va vb vc)
  | 0, _, _, _, _, _, _, _, _, _, _, _, _, _, _, h => by cases h
  | f + 1, p, hw, hr, hav, a, b, c, va, vb, vc, r, hva, hvb, hvc, h => by
    rw [iteF_succ] at h
    split at h
    · injection h with h; subst h; exact Snd.err hw hr hav 0 _ (by decide)
    rename_i hab
    have hab : hasB p.T a = true ∧ hasB p.T b = true ∧ hasB p.T c = true := by simpa using hab
    unfold iteL at h
    dsimp only at h
    split at h
    · rename_i c1
      have hk : (atP p.T a).kind = 0 := by simpa using c1
      have := ev_const (vs := vs) hw hab.1 hk
      rw [hva] at this
      injection this with this
      injection h with h; subst h
      rw [← this]
      by_cases hz : va = 0
      · rw [if_pos hz]
        exact Snd.same hw hr hav hab.2.2 (by unfold iteV; rw [if_pos hz]; exact hvc)
      · rw [if_neg hz]
        exact Snd.same hw hr hav hab.2.1 (by unfold iteV; rw [if_neg hz]; exact hvb)
    split at h
    · rename_i c2
      have hbc : b = c := by simpa using c2
      subst hbc
      rw [hvb] at hvc
      injection hvc with hvc
      subst hvc
      injection h with h; subst h
      exact Snd.same hw hr hav hab.2.1 (by unfold iteV; split <;> exact hvb)
    split at h
    · rename_i c3
      simp at c3
      have ma : (atP p.T a).a ∈ prtL (atP p.T a) := by unfold prtL; rw [if_pos (.inr c3.1)]; simp
      have mb : (atP p.T a).b ∈ prtL (atP p.T a) := by unfold prtL; rw [if_pos (.inr c3.1)]; simp
      obtain ⟨X, hX⟩ := ev_part hw hav hab.1 ma
      obtain ⟨Y, hY⟩ := ev_part hw hav hab.1 mb
      have eva := hva
      rw [evP_eq hw hab.1] at eva
      unfold evT at eva
      rw [if_neg (by omega), if_neg (by omega), if_neg (by omega), if_pos c3.1, hX, hY, c3.2] at eva
      have eva : flagV (holdsU 1 (atP p.T a).w X Y) = va := by simpa using eva
      rw [Option.bind_eq_some_iff] at h
      obtain ⟨q, hq, h⟩ := h
      have hs := cond_snd hU (f + 1) hw hr hav hX hY hq
      refine Snd.bind hs (fun hz s hss => ?_) h
      have := ite_snd f hs.good.wf hs.good.rng hs.av (hs.val hz) (ev_up hw hs.good.wf hs.good.ext hvc) (ev_up hw hs.good.wf hs.good.ext hvb) hss
      refine this.cast ?_
      rw [holds_ne] at eva
      rw [← eva]
      cases holdsU 0 (atP p.T a).w X Y <;> rfl
    split at h
    · rename_i c4; exact div_snd hU hw hr hav hab.1 hab.2.1 hab.2.2 hva hvb hvc c4 h
    · injection h with h; subst h
      refine Snd.put hw hr hav (iteT_wf (has_i64 hw hab.1) (has_i64 hw hab.2.1) (has_i64 hw hab.2.2)) ?_
      show ((evP p.T vs a).bind fun u => (evP p.T vs b).bind fun v => (evP p.T vs c).map fun w => if u = 0 then w else v) = _
      rw [hva, hvb, hvc]
      rfl
/-- A number's value; nought, if it has none. -/
def valD (vs : List Int) (p : PS) (n : Int) : Int := (evP p.T vs n).getD 0
/-- What a making should come to. -/
def wantV (vs : List Int) (p : PS) (x : MD) (l : List Int) : Int :=
  if x.kind = 0 then x.n
  else if x.kind = 1 then cutV x.w (vs.getD (x.n % 64).toNat 0)
  else if x.kind = 2 then doU x.op x.w (valD vs p (pickP l x.a)) (valD vs p (pickP l x.b))
  else if x.kind = 3 then cutV x.w (valD vs p (pickP l x.a))
  else if x.kind = 4 then flagV (holdsU x.op x.w (valD vs p (pickP l x.a)) (valD vs p (pickP l x.b)))
  else iteV (valD vs p (pickP l x.a)) (valD vs p (pickP l x.b)) (valD vs p (pickP l x.c))
omit hU in
theorem valD_some {p : PS} (hav : AV vs p) {n : Int} (hn : hasB p.T n = true) : evP p.T vs n = some (valD vs p n) := by
  obtain ⟨v, hv⟩ := hav n hn
  unfold valD
  rw [hv]
  rfl
/-- WHATEVER IS MADE HAS JUST THE VALUE THAT ITS PARTS' VALUES COME TO. -/
theorem mk_snd {p : PS} (hw : WfP p) (hr : ∀ t ∈ p.T, t.wf) (hav : AV vs p) (hlen : 64 ≤ vs.length) {x : MD} (hx : x.wf) {l : List Int} (hl : ∀ n ∈ l, hasB p.T n = true) {r : RS} (h : MkS p x l r) : Snd vs p r (wantV vs p x l) := by
  have hp : ∀ k, l.length ≠ 0 → evP p.T vs (pickP l k) = some (valD vs p (pickP l k)) := fun k h => valD_some hav (hl _ (pick_mem h k))
  obtain ⟨f, h⟩ := h
  have hno : ∀ k, l.length = 0 → hasB p.T (pickP l k) = false := fun k h => by
    unfold pickP
    rw [if_pos h]
    unfold hasB
    simp
  unfold mkF at h
  unfold wantV
  split at h
  · rename_i k0
    rw [if_pos k0]
    injection h with h; subst h
    exact Snd.put hw hr hav (constT_wf hx.2.2.2.2.2.2) rfl
  rename_i k0
  rw [if_neg k0]
  split at h
  · rename_i k1
    rw [if_pos k1]
    injection h with h; subst h
    have hn := hx.2.2.2.2.2.2
    refine Snd.put hw hr hav (varT_wf (by unfold U64 at *; omega) hx.2.2.1) ?_
    show (vs[(x.n % 64).toNat]?).map (cutV x.w) = _
    have hlt : (x.n % 64).toNat < vs.length := by omega
    rw [List.getElem?_eq_getElem hlt, List.getD_eq_getElem?_getD, List.getElem?_eq_getElem hlt]
    rfl
  rename_i k1
  rw [if_neg k1]
  split at h
  · rename_i k2
    rw [if_pos k2]
    by_cases hl0 : l.length = 0
    · have e : r = (p, 0, 2) := by
        cases f with
        | zero => cases h
        | succ f =>
          rw [opF_succ, if_pos (by rw [hno _ hl0]; rfl)] at h
          injection h with h; exact h.symm
      subst e
      exact Snd.err hw hr hav 0 _ (by decide)
    · exact op_snd hU f hw hr hav (hp _ hl0) (hp _ hl0) h
  rename_i k2
  rw [if_neg k2]
  split at h
  · rename_i k3
    rw [if_pos k3]
    unfold zextO at h
    split at h
    · injection h with h; subst h; exact Snd.err hw hr hav 0 _ (by decide)
    · rename_i hz
      have hz : hasB p.T (pickP l x.a) = true ∧ wdB x.w = true := by simpa using hz
      exact zext_snd hU f hw hr hav (wd_of hz.2) hz.1 (valD_some hav hz.1) h
  rename_i k3
  rw [if_neg k3]
  split at h
  · rename_i k4
    rw [if_pos k4]
    by_cases hl0 : l.length = 0
    · have e : r = (p, 0, 2) := by
        cases f with
        | zero => cases h
        | succ f =>
          rw [condF_succ, if_pos (by rw [hno _ hl0]; rfl)] at h
          injection h with h; exact h.symm
      subst e
      exact Snd.err hw hr hav 0 _ (by decide)
    · exact cond_snd hU f hw hr hav (hp _ hl0) (hp _ hl0) h
  rename_i k4
  rw [if_neg k4]
  by_cases hl0 : l.length = 0
  · have e : r = (p, 0, 2) := by
      cases f with
      | zero => cases h
      | succ f =>
        rw [iteF_succ, if_pos (by simp [hno _ hl0])] at h
        injection h with h; exact h.symm
    subst e
    exact Snd.err hw hr hav 0 _ (by decide)
  · exact ite_snd hU f hw hr hav (hp _ hl0) (hp _ hl0) (hp _ hl0) h
end
end Go.Proofs.Ytfjflefgclfbfaa
end
