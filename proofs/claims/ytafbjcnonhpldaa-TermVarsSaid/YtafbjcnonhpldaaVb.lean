/-
  TermVars, plain: a map's size, the variables of the parts together, depth. Conditions: those written in each statement.
-/
import Derived.Test.YtafbjcnonhpldaaLw
namespace Go.Proofs.Ytafbjcnonhpldaa
open Go.RowKit
set_option linter.unusedVariables false
set_option linter.unusedSimpArgs false
theorem nodup_same_len {α : Type} [DecidableEq α] : ∀ (l m : List α), l.Nodup → m.Nodup → (∀ x, x ∈ l ↔ x ∈ m) → l.length = m.length := by
  intro l m hl hm h
  have : l.Perm m := (List.perm_ext_iff_of_nodup hl hm).2 h
  exact this.length_eq
theorem nodup_map_of {α β : Type} {f : α → β} : ∀ {l : List α}, l.Nodup → (∀ x ∈ l, ∀ y ∈ l, f x = f y → x = y) → (l.map f).Nodup
  | [], _, _ => List.nodup_nil
  | a :: r, h, hi => by
    rw [List.nodup_cons] at h
    rw [List.map_cons, List.nodup_cons]
    refine ⟨fun q => ?_, nodup_map_of h.2 fun x hx y hy => hi x (by simp [hx]) y (by simp [hy])⟩
    obtain ⟨y, hy, e⟩ := List.mem_map.1 q
    exact h.1 (hi y (by simp [hy]) a (by simp) e ▸ hy)
/-- A map's size: how many keys it has. -/
theorem MapIs.size {κ : Type} [DecidableEq κ] {P : Program} {k : TypeId} {enc : κ → Value} {V : κ → Prop} {w : World} {b n : Nat} {f : κ → Option Value} (h : MapIs P k enc V w b n f) (E : KeyEnc P k enc V) (U : List κ) (hU : U.Nodup) (hf : ∀ x, (f x).isSome = true ↔ x ∈ U) :
    ∃ es clock, w.heap[b]? = some (.map es clock) ∧ es.size = U.length := by
  obtain ⟨es, clock, h1, _, h3, h4, h5⟩ := h
  refine ⟨es, clock, h1, ?_⟩
  have hk : (es.toList.map (·.key)).Perm (U.map enc) := by
    have hinj : (U.map enc).Nodup := by
      refine nodup_map_of hU fun x hx y hy e => ?_
      have vx : V x := by
        obtain ⟨u, hu⟩ := Option.isSome_iff_exists.1 ((hf x).2 hx)
        exact (h5 x u hu).1
      have vy : V y := by
        obtain ⟨u, hu⟩ := Option.isSome_iff_exists.1 ((hf y).2 hy)
        exact (h5 y u hu).1
      exact E.inj x y vx vy e
    letI : DecidableEq Value := fun a b => Classical.propDecidable (a = b)
    rw [List.perm_ext_iff_of_nodup h3 hinj]
    intro v
    rw [List.mem_map, List.mem_map]
    constructor
    · rintro ⟨e, he, rfl⟩
      obtain ⟨x, _, hx, hfx⟩ := h4 e he
      exact ⟨x, (hf x).1 (by rw [hfx]; rfl), hx.symm⟩
    · rintro ⟨x, hx, rfl⟩
      obtain ⟨u, hu⟩ := Option.isSome_iff_exists.1 ((hf x).2 hx)
      obtain ⟨_, e, he, hke⟩ := h5 x u hu
      exact ⟨e, he, hke⟩
  have := hk.length_eq
  simpa using this
/-- A list joined to a set. -/
def addU (U : List Int) (v : Int) : List Int := if v ∈ U then U else U ++ [v]
theorem addU_nodup {U : List Int} (h : U.Nodup) (v : Int) : (addU U v).Nodup := by
  unfold addU
  split
  · exact h
  · rename_i hv
    rw [List.nodup_append]
    exact ⟨h, by simp, fun a ha b hb => by simp at hb; subst hb; exact fun e => hv (e ▸ ha)⟩
theorem mem_addU {U : List Int} {v x : Int} : x ∈ addU U v ↔ x ∈ U ∨ x = v := by
  unfold addU
  split
  · rename_i hv
    constructor
    · exact .inl
    · rintro (h | rfl)
      · exact h
      · exact hv
  · simp
def inF (U : List Int) (x : Int) : Option Value := if x ∈ U then some (.int .i64 1) else none
theorem inF_put (U : List Int) (v x : Int) : inF (addU U v) x = putF (inF U) v (.int .i64 1) x := by
  unfold inF putF
  by_cases e : x = v
  · rw [if_pos e, if_pos (mem_addU.2 (.inr e))]
  · rw [if_neg e]
    dsimp only
    by_cases h : x ∈ U
    · rw [if_pos h, if_pos (mem_addU.2 (.inl h))]
    · rw [if_neg h, if_neg (fun q => (mem_addU.1 q).elim h e)]
/-- The parts gone over: the deepest, and the variables together. -/
structure PartR (p : PS) (t : TD) (j : Nat) (d : Int) (U : List Int) : Prop where
  deep : dmax p.D ((prtL t).take j) = d + 1
  nd : U.Nodup
  mem : ∀ v, v ∈ U ↔ ∃ k : Nat, (k : Int) ∈ (prtL t).take j ∧ IsV p.T k v
theorem PartR.zero (p : PS) (t : TD) : PartR p t 0 0 [] := ⟨by simp [dmax], List.nodup_nil, by simp⟩
/-- One part more: its variables' list U2 is the first i of them joined. -/
structure PartS (p : PS) (t : TD) (j : Nat) (lv : List Int) (i : Nat) (U U2 : List Int) : Prop where
  nd : U2.Nodup
  mem : ∀ v, v ∈ U2 ↔ v ∈ U ∨ v ∈ lv.take i
theorem PartS.zero {p : PS} {t : TD} {j : Nat} {lv U : List Int} (h : U.Nodup) : PartS p t j lv 0 U U := ⟨h, by simp⟩
theorem PartS.step {p : PS} {t : TD} {j i : Nat} {lv U U2 : List Int} {v : Int} (h : PartS p t j lv i U U2) (hv : lv[i]? = some v) : PartS p t j lv (i + 1) U (addU U2 v) := by
  refine ⟨addU_nodup h.nd v, fun x => ?_⟩
  rw [mem_addU, h.mem, List.take_add_one, hv]
  simp [or_assoc]
theorem PartR.step {p : PS} {t : TD} {j k : Nat} {d x : Int} {lv U U2 : List Int} (h : PartR p t j d U) (hk : (prtL t)[j]? = some (k : Int)) (hd : p.D[k]? = some x) (hx : 0 ≤ x) (hd0 : 0 ≤ d) (hv : IsVars p.T k lv) (h2 : PartS p t j lv lv.length U U2) : PartR p t (j + 1) (max d x) U2 := by
  have ht : (prtL t).take (j + 1) = (prtL t).take j ++ [(k : Int)] := take_snoc_ hk
  refine ⟨?_, h2.nd, fun v => ?_⟩
  · rw [ht]
    have := h.deep
    unfold dmax at this ⊢
    rw [List.foldl_append, this, List.foldl_cons, List.foldl_nil, List.getD_eq_getElem?_getD, Int.toNat_natCast, hd]
    show max (d + 1) (x + 1) = max d x + 1
    omega
  · rw [h2.mem, List.take_length, h.mem, hv.2, ht]
    constructor
    · rintro (⟨q, hq, hq2⟩ | hq)
      · exact ⟨q, List.mem_append.2 (.inl hq), hq2⟩
      · exact ⟨k, List.mem_append.2 (.inr (by simp)), hq⟩
    · rintro ⟨q, hq, hq2⟩
      rcases List.mem_append.1 hq with hq | hq
      · exact .inl ⟨q, hq, hq2⟩
      · obtain rfl : q = k := by simp at hq; omega
        exact .inr hq2
/-- All parts gone over. -/
theorem PartR.done {p : PS} {n : Nat} {t : TD} {d : Int} {U own : List Int} (h : PartR p t (prtL t).length d U) (hw : WfP p) (ht : p.T[n]? = some t) (hk : t.kind ≠ 1) (ho : IsVars p.T n own) : p.D[n]? = some (d + 1) ∧ own.length = U.length ∧ ∀ v ∈ own, v ∈ U := by
  have hmem : ∀ v, v ∈ own ↔ v ∈ U := fun v => by
    rw [ho.2, IsV.parts ht hk, h.mem, List.take_length]
  have hd := h.deep
  rw [List.take_length] at hd
  refine ⟨by rw [hw.deep n t ht, hd], nodup_same_len own U (ho.1.imp fun q => by omega) h.nd hmem, fun v hv => (hmem v).1 hv⟩
end Go.Proofs.Ytafbjcnonhpldaa
