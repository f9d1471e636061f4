/-
  norm.Eval in plain words: a term's value. Conditions: those written in each statement.
-/
import Derived.Test.YtepagfkkjlbipaaNs
import Derived.Test.YtepagfkkjlbipaaNn
namespace Go.Proofs.Ytepagfkkjlbipaa
open Go.RowKit
set_option linter.unusedVariables false
set_option linter.unusedSimpArgs false
/-- A term's value, its parts' values given; none: a variable that is not there. -/
def evT (vs : List Int) (t : TD) (rec : Int → Option Int) : Option Int :=
  if t.kind = 1 then (vs[t.n.toNat]?).map (cutV t.w)
  else if t.kind = 3 then (rec t.a).map (cutV t.w)
  else if t.kind = 2 then (rec t.a).bind fun a => (rec t.b).map fun b => doU t.op t.w a b
  else if t.kind = 4 then (rec t.a).bind fun a => (rec t.b).map fun b => flagV (holdsU t.op t.w a b)
  else if t.kind = 5 then (rec t.a).bind fun a => (rec t.b).bind fun b => (rec t.c).map fun c => if a = 0 then c else b
  else some t.n
def evF (T : List TD) (vs : List Int) : Nat → Int → Option Int
  | 0, _ => none
  | f + 1, n => if hasB T n = false then none else evT vs (atP T n) (evF T vs f)
def evP (T : List TD) (vs : List Int) (n : Int) : Option Int := evF T vs (n.toNat + 1) n
theorem evT_congr (vs : List Int) (t : TD) {r1 r2 : Int → Option Int} (h : ∀ k ∈ prtL t, r1 k = r2 k) : evT vs t r1 = evT vs t r2 := by
  unfold prtL at h
  unfold evT
  by_cases h1 : t.kind = 1
  · rw [if_pos h1, if_pos h1]
  rw [if_neg h1, if_neg h1]
  by_cases h3 : t.kind = 3
  · rw [if_pos h3, if_pos h3, h t.a (by simp [h3])]
  rw [if_neg h3, if_neg h3]
  by_cases h2 : t.kind = 2
  · rw [if_pos h2, if_pos h2, h t.a (by simp [h2]), h t.b (by simp [h2])]
  rw [if_neg h2, if_neg h2]
  by_cases h4 : t.kind = 4
  · rw [if_pos h4, if_pos h4, h t.a (by simp [h4]), h t.b (by simp [h4])]
  rw [if_neg h4, if_neg h4]
  by_cases h5 : t.kind = 5
  · rw [if_pos h5, if_pos h5, h t.a (by simp [h5]), h t.b (by simp [h5]), h t.c (by simp [h5])]
  rw [if_neg h5, if_neg h5]
section
variable {p : PS} (hw : WfP p) {vs : List Int}
include hw
theorem part_less {n k : Int} (hn : hasB p.T n = true) (hk : k ∈ prtL (atP p.T n)) : 0 ≤ k ∧ k < n := by
  unfold atP at hk
  rw [if_pos hn] at hk
  unfold hasB at hn
  simp at hn
  have hl : n.toNat < p.T.length := by omega
  have ht : p.T[n.toNat]? = some (p.T.getD n.toNat zeroT) := by rw [List.getD_eq_getElem?_getD, List.getElem?_eq_getElem hl]; rfl
  have := hw.part _ _ ht k hk
  omega
theorem evF_same : ∀ (f g : Nat) (n : Int), n.toNat < f → n.toNat < g → evF p.T vs f n = evF p.T vs g n := by
  intro f
  induction f with
  | zero => intro g n hn; omega
  | succ f ih =>
    intro g n hn hg
    cases g with
    | zero => omega
    | succ g =>
      show (if hasB p.T n = false then none else evT vs (atP p.T n) (evF p.T vs f)) = (if hasB p.T n = false then none else evT vs (atP p.T n) (evF p.T vs g))
      cases hb : hasB p.T n
      · rfl
      · simp only [Bool.true_eq_false, if_false]
        refine evT_congr vs _ fun k hk => ?_
        have hk2 := part_less hw hb hk
        exact ih g k (by omega) (by omega)
/-- A value out of the parts' values. -/
theorem evP_eq {n : Int} (hn : hasB p.T n = true) : evP p.T vs n = evT vs (atP p.T n) (evP p.T vs) := by
  unfold evP
  show (if hasB p.T n = false then none else evT vs (atP p.T n) (evF p.T vs n.toNat)) = _
  rw [if_neg (by rw [hn]; simp)]
  refine evT_congr vs _ fun k hk => ?_
  have hk2 := part_less hw hn hk
  exact evF_same hw _ _ k (by omega) (by omega)
end
theorem evP_no {T : List TD} {vs : List Int} {n : Int} (hn : hasB T n = false) : evP T vs n = none := by
  unfold evP
  show (if hasB T n = false then none else _) = none
  rw [if_pos hn]
/-- Values are words. -/
theorem evT_u64 {vs : List Int} (hv : ∀ v ∈ vs, U64 v) {t : TD} (ht : t.wf) {rec : Int → Option Int} (hr : ∀ k v, rec k = some v → U64 v) {v : Int} (h : evT vs t rec = some v) : U64 v := by
  unfold evT at h
  split at h
  · rw [Option.map_eq_some_iff] at h
    obtain ⟨a, ha, rfl⟩ := h
    exact cutV_u64 (hv a (List.mem_of_getElem? ha))
  split at h
  · rw [Option.map_eq_some_iff] at h
    obtain ⟨a, ha, rfl⟩ := h
    exact cutV_u64 (hr _ _ ha)
  split at h
  · rw [Option.bind_eq_some_iff] at h
    obtain ⟨a, ha, h⟩ := h
    rw [Option.map_eq_some_iff] at h
    obtain ⟨b, hb, rfl⟩ := h
    exact cutV_u64 (doV_u64 (cutV_u64 (hr _ _ ha)) (cutV_u64 (hr _ _ hb)))
  split at h
  · rw [Option.bind_eq_some_iff] at h
    obtain ⟨a, ha, h⟩ := h
    rw [Option.map_eq_some_iff] at h
    obtain ⟨b, hb, rfl⟩ := h
    exact flagV_u64 _
  split at h
  · rw [Option.bind_eq_some_iff] at h
    obtain ⟨a, ha, h⟩ := h
    rw [Option.bind_eq_some_iff] at h
    obtain ⟨b, hb, h⟩ := h
    rw [Option.map_eq_some_iff] at h
    obtain ⟨c, hc, rfl⟩ := h
    split
    · exact hr _ _ hc
    · exact hr _ _ hb
  · injection h with h
    subst h
    exact ht.2.2.2.1
theorem evF_u64 {T : List TD} (hT : ∀ t ∈ T, t.wf) {vs : List Int} (hv : ∀ v ∈ vs, U64 v) : ∀ (f : Nat) (n v : Int), evF T vs f n = some v → U64 v := by
  intro f
  induction f with
  | zero => intro n v h; cases h
  | succ f ih =>
    intro n v h
    have h' : (if hasB T n = false then none else evT vs (atP T n) (evF T vs f)) = some v := h
    split at h'
    · cases h'
    · exact evT_u64 hv (atP_wf hT n) ih h'
theorem evP_u64 {T : List TD} (hT : ∀ t ∈ T, t.wf) {vs : List Int} (hv : ∀ v ∈ vs, U64 v) {n v : Int} (h : evP T vs n = some v) : U64 v := evF_u64 hT hv _ n v h
end Go.Proofs.Ytepagfkkjlbipaa
