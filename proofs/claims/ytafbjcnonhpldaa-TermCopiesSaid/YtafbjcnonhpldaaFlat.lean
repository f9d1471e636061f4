/-
  What a datum of a type without pointers looks like in memory: its cells, one behind the other; slices of such. Conditions: those written in each statement.
-/
import Derived.Test.YtafbjcnonhpldaaKit
import Derived.Deep.Slices
import Derived.Deep.Fields
import Derived.ChangeSame
import Derived.OpenShut
namespace Go.Proofs.Ytafbjcnonhpldaa
open Go.RowKit Go.WideShapes Go.ChangeShapes Go.Deep
set_option linter.unusedVariables false
set_option linter.unusedSimpArgs false
def flatFs (g : TypeId → Option (List (Option IntKind))) : List Field → Nat → Option (List (Option IntKind))
  | [], _ => some []
  | f :: r, off => if f.offset = off then (g f.type).bind fun a => (flatFs g r (off + a.length)).map (a ++ ·) else none
/-- The kinds of a type's cells (none: a bool). -/
def flatK (P : Program) : Nat → TypeId → Option (List (Option IntKind))
  | 0, _ => none
  | m + 1, t =>
    (match P.underlying t with
    | some .bool => some [none]
    | some (.int k) => some [some k]
    | some (.struct fs) => flatFs (flatK P m) fs.toList 0
    | some (.array n e) => (flatK P m e).map fun l => (List.replicate n l).flatten
    | _ => none).bind fun l => if P.cellsOf t = l.length then some l else none
def cellK : Option IntKind → Value → Prop
  | none, v => ∃ b, v = .bool b
  | some k, v => ∃ n, v = .int k n ∧ (Lit.int k n).wf = true
def AllK (ks : List (Option IntKind)) (cs : List Value) : Prop := cs.length = ks.length ∧ ∀ (i : Nat) (k : Option IntKind) (v : Value), ks[i]? = some k → cs[i]? = some v → cellK k v
theorem AllK.append {a b : List (Option IntKind)} {x y : List Value} (h : AllK a x) (g : AllK b y) : AllK (a ++ b) (x ++ y) := by
  refine ⟨by simp [h.1, g.1], fun i k v hk hv => ?_⟩
  rw [List.getElem?_append] at hk hv
  by_cases hi : i < a.length
  · rw [if_pos hi] at hk
    rw [if_pos (by rw [h.1]; exact hi)] at hv
    exact h.2 i k v hk hv
  · rw [if_neg hi] at hk
    rw [if_neg (by rw [h.1]; exact hi), h.1] at hv
    exact g.2 _ k v hk hv
theorem AllK.nil : AllK [] [] := ⟨rfl, fun i k v hk _ => by simp at hk⟩
theorem AllK.one {cs : List Value} {ks : List (Option IntKind)} (h : AllK ks cs) : ∀ v ∈ cs, v.oneCell' = true := by
  intro v hv
  obtain ⟨i, hi, rfl⟩ := List.getElem_of_mem hv
  have hik : i < ks.length := by have := h.1; omega
  have h2 := h.2 i ks[i] cs[i] (List.getElem?_eq_getElem hik) (List.getElem?_eq_getElem hi)
  generalize ks[i] = k at h2
  cases k with
  | none => obtain ⟨b, hb⟩ := h2; rw [hb]; rfl
  | some k => obtain ⟨n, hn, _⟩ := h2; rw [hn]; rfl
theorem flatK_len {P : Program} {m : Nat} {t : TypeId} {ks : List (Option IntKind)} (h : flatK P m t = some ks) : P.cellsOf t = ks.length := by
  cases m with
  | zero => simp [flatK] at h
  | succ m =>
    unfold flatK at h
    obtain ⟨l, _, h2⟩ := Option.bind_eq_some_iff.1 h
    split at h2
    · injection h2 with h2; subst h2; assumption
    · cases h2
theorem flatFs_all {g : TypeId → Option (List (Option IntKind))} {cs : List Value} : ∀ (fs : List Field) (off : Nat) (ks : List (Option IntKind)), (∀ f ∈ fs, ∀ a, g f.type = some a → AllK a ((cs.drop f.offset).take a.length)) → flatFs g fs off = some ks → AllK ks ((cs.drop off).take ks.length)
  | [], off, ks, _, h => by
    simp [flatFs] at h
    subst h
    simpa using AllK.nil
  | f :: r, off, ks, hg, h => by
    unfold flatFs at h
    split at h
    · rename_i ho
      obtain ⟨a, ha, h2⟩ := Option.bind_eq_some_iff.1 h
      obtain ⟨b, hb, rfl⟩ := Option.map_eq_some_iff.1 h2
      have h1 := hg f (by simp) a ha
      have h3 := flatFs_all r (off + a.length) b (fun f' hf' => hg f' (by simp [hf'])) hb
      rw [ho] at h1
      rw [List.length_append, List.take_add, List.drop_drop]
      exact h1.append h3
    · cases h
theorem flat_rep {l : List (Option IntKind)} {cs : List Value} : ∀ (n off : Nat), (∀ i, i < n → AllK l ((cs.drop (off + i * l.length)).take l.length)) → AllK (List.replicate n l).flatten ((cs.drop off).take (n * l.length))
  | 0, off, _ => by simpa using AllK.nil
  | n + 1, off, h => by
    have h1 := h 0 (by omega)
    have h2 := flat_rep n (off + l.length) (fun i hi => by
      have := h (i + 1) (by omega)
      rw [Nat.succ_mul] at this
      rwa [show off + l.length + i * l.length = off + (i * l.length + l.length) by omega])
    rw [List.replicate_succ, List.flatten_cons, show (n + 1) * l.length = l.length + n * l.length by rw [Nat.succ_mul]; omega, List.take_add, List.drop_drop]
    rw [Nat.zero_mul, Nat.add_zero] at h1
    exact h1.append h2
section
variable {H : Type} {enc : TypeId × Value → H} {P : Program} {w : World} {base : Nat} {spare : Nat → Bool} {held : Bool}
theorem trod_flat : ∀ (m : Nat) (t : TypeId) (ks : List (Option IntKind)) (fuel : Nat) (cs : List Value) (x : DataW H × List MemPlace), flatK P m t = some ks → DataW.trod enc P w base spare held fuel t cs = some x → AllK ks cs := by
  intro m
  induction m with
  | zero => intro t ks fuel cs x h; simp [flatK] at h
  | succ m ih =>
    intro t ks fuel cs x hk h
    have hlen := flatK_len hk
    unfold flatK at hk
    obtain ⟨l, hl, h2⟩ := Option.bind_eq_some_iff.1 hk
    have hlk : l = ks := by
      split at h2
      · injection h2
      · cases h2
    subst hlk
    clear hk h2
    split at hl
    · rename_i hu
      injection hl with hl
      subst hl
      obtain ⟨b, rfl, _⟩ := DataW.trod_bool hu h
      refine ⟨rfl, fun i k v hk hv => ?_⟩
      cases i with
      | zero => simp at hk hv; subst hk hv; exact ⟨b, rfl⟩
      | succ i => simp at hk
    · rename_i k0 hu
      injection hl with hl
      subst hl
      obtain ⟨n, rfl, _, hw⟩ := DataW.trod_int hu h
      refine ⟨rfl, fun i k v hk hv => ?_⟩
      cases i with
      | zero => simp at hk hv; subst hk hv; exact ⟨n, rfl, hw⟩
      | succ i => simp at hk
    · rename_i fs hu
      obtain ⟨xs, n, _, _, hcl, hxl, hg⟩ := DataW.trod_struct hu h
      have := flatFs_all (cs := cs) fs.toList 0 l (fun f hf a ha => by
        obtain ⟨i, hi, rfl⟩ := List.getElem_of_mem hf
        have h1 := hg i _ (by rw [← Array.getElem?_toList]; exact List.getElem?_eq_getElem hi)
        rw [flatK_len ha] at h1
        have hix : i < xs.length := by rw [hxl]; simpa using hi
        rw [List.getElem?_eq_getElem hix] at h1
        exact ih _ a _ _ _ ha h1) hl
      rw [List.drop_zero, List.take_of_length_le (by omega)] at this
      exact this
    · rename_i n e hu
      obtain ⟨a, ha, rfl⟩ := Option.map_eq_some_iff.1 hl
      obtain ⟨xs, m', _, _, hcl, hxl, hg⟩ := DataW.trod_array hu h
      have hae := flatK_len ha
      have := flat_rep (l := a) (cs := cs) n 0 (fun i hi => by
        have h1 := hg i hi
        rw [hae] at h1
        have hix : i < xs.length := by omega
        rw [List.getElem?_eq_getElem hix] at h1
        rw [Nat.zero_add]
        exact ih _ a _ _ _ ha h1)
      have hn : n * a.length = (List.replicate n a).flatten.length := by simp
      rw [List.drop_zero, List.take_of_length_le (by omega)] at this
      exact this
    · cases hl
theorem list_of {α : Type} (p : Nat → α → Prop) : ∀ n : Nat, (∀ i, i < n → ∃ x, p i x) → ∃ l : List α, l.length = n ∧ ∀ i x, l[i]? = some x → p i x
  | 0, _ => ⟨[], rfl, fun i x h => by simp at h⟩
  | n + 1, h => by
    obtain ⟨l, hl, hp⟩ := list_of p n (fun i hi => h i (by omega))
    obtain ⟨x, hx⟩ := h n (by omega)
    refine ⟨l ++ [x], by simp [hl], fun i y hy => ?_⟩
    rw [List.getElem?_append] at hy
    split at hy
    · exact hp i y hy
    · rename_i hi
      rcases Nat.eq_or_lt_of_le (Nat.not_lt.1 hi) with h1 | h1
      · rw [← h1] at hy
        simp at hy
        subst hy
        rw [← h1, hl]
        exact hx
      · rw [List.getElem?_eq_none (by simp; omega)] at hy
        cases hy
theorem flat_inv {β : Type} (m : Nat) : ∀ (l : List (List β)), (∀ x ∈ l, x.length = m) → ∀ (j : Nat) (u : β), l.flatten[j]? = some u → ∃ (k r : Nat) (x : List β), j = k * m + r ∧ l[k]? = some x ∧ x[r]? = some u
  | [], _, j, u, h => by simp at h
  | y :: t, hl, j, u, h => by
    rw [List.flatten_cons, List.getElem?_append] at h
    have hy := hl y (by simp)
    split at h
    · exact ⟨0, j, y, by omega, rfl, h⟩
    · obtain ⟨k, r, x, h1, h2, h3⟩ := flat_inv m t (fun z hz => hl z (by simp [hz])) _ u h
      exact ⟨k + 1, r, x, by rw [Nat.succ_mul]; omega, by simpa using h2, h3⟩
/-- A slice of such that came in. -/
theorem open_flat {t e : TypeId} {m fuel : Nat} {ks : List (Option IntKind)} {A : Option Addr} {n c : Nat} {x : DataW H × List MemPlace} (ht : P.underlying t = some (.slice e)) (hf : flatK P m e = some ks) (h0 : 0 < ks.length)
    (h : DataW.trod enc P w base spare held fuel t (Value.slice A n c).cells.toList = some x) : ∃ rows : List (List Value), rows.length = n ∧ (∀ r ∈ rows, AllK ks r) ∧ Reads w w.heap.size ks.length A n rows.flatten ∧ n ≤ c ∧ n ≤ maxLen := by
  rcases open_slice ht h with ⟨hcs, _⟩ | ⟨a, len, cap, mm, nn, D, Pl, hcs, _, hl, hm, hmm, _, hel⟩
  · simp [Value.cells] at hcs
    obtain ⟨rfl, rfl, rfl⟩ := hcs
    exact ⟨[], rfl, by simp, Reads.none_, Nat.le_refl _, by simp⟩
  · simp [Value.cells] at hcs
    obtain ⟨rfl, rfl, rfl⟩ := hcs
    have hle : n ≤ mm := by rw [hmm]; split <;> omega
    have hk := flatK_len hf
    obtain ⟨rows, hr, hp⟩ := list_of (fun i r => AllK ks r ∧ ∀ j u, r[j]? = some u → w.cell? ((a.add (i * ks.length)).add j) = some u) n (fun i hi => by
      obtain ⟨cs', hc, ht'⟩ := hel i (by omega)
      have hA := trod_flat m e ks _ _ _ hf ht'
      obtain ⟨_, hcl, hat⟩ := World.cells?_some hc
      rw [hk] at hcl hat
      refine ⟨cs', hA, fun j u hu => ?_⟩
      have hj : j < cs'.length := (List.getElem?_eq_some_iff.1 hu).1
      rw [hat j (by omega), hu])
    have hrl : ∀ r ∈ rows, r.length = ks.length := fun r hr' => by
      obtain ⟨i, hi, rfl⟩ := List.getElem_of_mem hr'
      exact (hp i _ (List.getElem?_eq_getElem hi)).1.1
    refine ⟨rows, hr, fun r hr' => ?_, ⟨?_, fun hn => ⟨a, rfl, ?_, fun j u hu => ?_⟩⟩, hl, by omega⟩
    · obtain ⟨i, hi, rfl⟩ := List.getElem_of_mem hr'
      exact (hp i _ (List.getElem?_eq_getElem hi)).1
    · rw [← hr]
      clear hp hr
      induction rows with
      | nil => simp
      | cons y t ih => simp only [List.flatten_cons, List.length_append, List.length_cons]; rw [ih (fun r hr' => hrl r (by simp [hr'])), hrl y (by simp), Nat.succ_mul]; omega
    · have hi : 0 < rows.length := by omega
      have h1 := hp 0 _ (List.getElem?_eq_getElem hi)
      have h2 : 0 < rows[0].length := by rw [h1.1.1]; exact h0
      have h3 := h1.2 0 _ (List.getElem?_eq_getElem h2)
      have h4 := World.block_lt_of_cell? w _ h3
      rwa [block_of_add, block_of_add] at h4
    · obtain ⟨k, r, y, rfl, h2, h3⟩ := flat_inv ks.length rows hrl j u hu
      have := (hp k y h2).2 r u h3
      rwa [add_of_add] at this
end
end Go.Proofs.Ytafbjcnonhpldaa
