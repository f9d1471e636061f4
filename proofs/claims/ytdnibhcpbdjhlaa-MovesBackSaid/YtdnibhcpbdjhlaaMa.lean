/-
  Plain words on moves that happen at once, put in order: what order is, what it does, how many there are. Conditions: those written in each statement.
-/
import Derived.Below
namespace Go.Proofs.Ytdnibhcpbdjhlaa
set_option linter.unusedVariables false
set_option linter.unusedSimpArgs false
abbrev Mv := Int × Int
/-- Where a register is moved from. -/
def lk : List Mv → Int → Option Int
  | [], _ => none
  | x :: t, r => if x.1 = r then some x.2 else lk t r
theorem lk_none : ∀ {l : List Mv} {r : Int}, lk l r = none ↔ r ∉ l.map (·.1)
  | [], r => by simp [lk]
  | x :: t, r => by
    have := lk_none (l := t) (r := r)
    unfold lk
    by_cases h : x.1 = r
    · simp [h]
    · rw [if_neg h, this, List.map_cons, List.mem_cons, not_or]
      exact ⟨fun q => ⟨fun e => h e.symm, q⟩, fun q => q.2⟩
theorem lk_mem : ∀ {l : List Mv} {r f : Int}, lk l r = some f → (r, f) ∈ l
  | [], r, f, h => by simp [lk] at h
  | x :: t, r, f, h => by
    unfold lk at h
    by_cases e : x.1 = r
    · rw [if_pos e] at h
      injection h with h
      subst e h
      simp
    · rw [if_neg e] at h
      exact List.mem_cons_of_mem _ (lk_mem h)
theorem mem_lk : ∀ {l : List Mv} {r f : Int}, (l.map (·.1)).Nodup → (r, f) ∈ l → lk l r = some f
  | [], r, f, _, h => by simp at h
  | x :: t, r, f, hn, h => by
    rw [List.map_cons, List.nodup_cons] at hn
    unfold lk
    rcases List.mem_cons.1 h with rfl | h
    · simp
    · have : x.1 ≠ r := fun e => hn.1 (by rw [e]; exact List.mem_map.2 ⟨(r, f), h, rfl⟩)
      rw [if_neg this]
      exact mem_lk hn.2 h
theorem lk_iff {l : List Mv} (hn : (l.map (·.1)).Nodup) {r f : Int} : lk l r = some f ↔ (r, f) ∈ l := ⟨lk_mem, mem_lk hn⟩
/-- The first index of which something is true. -/
def fstI (p : Nat → Bool) : Nat → Nat → Option Nat
  | 0, _ => none
  | n + 1, i => if p i then some i else fstI p n (i + 1)
theorem fst_none {p : Nat → Bool} : ∀ {n i : Nat}, (∀ j, i ≤ j → j < i + n → p j = false) → fstI p n i = none
  | 0, _, _ => rfl
  | n + 1, i, h => by
    rw [fstI, h i (Nat.le_refl _) (by omega)]
    exact fst_none fun j h1 h2 => h j (by omega) (by omega)
theorem fst_some {p : Nat → Bool} : ∀ {n i k : Nat}, i ≤ k → k < i + n → p k = true → (∀ j, i ≤ j → j < k → p j = false) → fstI p n i = some k
  | 0, i, k, h1, h2, _, _ => by omega
  | n + 1, i, k, h1, h2, hp, hb => by
    rw [fstI]
    by_cases e : i = k
    · subst e
      rw [hp]
      rfl
    · rw [hb i (Nat.le_refl _) (by omega)]
      exact fst_some (by omega) (by omega) hp fun j h3 h4 => hb j (by omega) h4
theorem fst_inv {p : Nat → Bool} : ∀ {n i k : Nat}, fstI p n i = some k → i ≤ k ∧ k < i + n ∧ p k = true ∧ ∀ j, i ≤ j → j < k → p j = false
  | 0, i, k, h => by simp [fstI] at h
  | n + 1, i, k, h => by
    rw [fstI] at h
    cases hp : p i
    · rw [hp] at h
      obtain ⟨h1, h2, h3, h4⟩ := fst_inv (by simpa using h)
      refine ⟨by omega, by omega, h3, fun j h5 h6 => ?_⟩
      by_cases e : j = i
      · rw [e, hp]
      · exact h4 j (by omega) h6
    · rw [hp] at h
      simp at h
      subst h
      exact ⟨Nat.le_refl _, by omega, hp, fun j _ _ => by omega⟩
theorem fst_inv_none {p : Nat → Bool} : ∀ {n i : Nat}, fstI p n i = none → ∀ j, i ≤ j → j < i + n → p j = false
  | 0, i, _, j, _, _ => by omega
  | n + 1, i, h, j, h1, h2 => by
    rw [fstI] at h
    cases hp : p i
    · rw [hp] at h
      by_cases e : j = i
      · rw [e, hp]
      · exact fst_inv_none (by simpa using h) j (by omega) (by omega)
    · rw [hp] at h
      simp at h
/-- Is the k-th one's "to" no other one's "from"? -/
def freeB (l : List Mv) (k : Nat) : Bool := match l[k]? with
  | none => false
  | some x => (List.range l.length).all fun j => j == k || (match l[j]? with | none => true | some y => y.2 != x.1)
def FreeAt (l : List Mv) (k : Nat) : Prop := ∃ x, l[k]? = some x ∧ ∀ j y, j ≠ k → l[j]? = some y → y.2 ≠ x.1
theorem freeB_iff {l : List Mv} {k : Nat} : freeB l k = true ↔ FreeAt l k := by
  unfold freeB FreeAt
  cases hk : l[k]? with
  | none => simp
  | some x =>
    simp only [List.all_eq_true, List.mem_range, Bool.or_eq_true, beq_iff_eq, Option.some.injEq, exists_eq_left']
    constructor
    · intro h j y hj hy
      have hl := (List.getElem?_eq_some_iff.1 hy).1
      rcases h j hl with h | h
      · exact absurd h hj
      · rw [hy] at h
        simpa using h
    · intro h j hl
      by_cases e : j = k
      · exact .inl e
      · right
        rw [List.getElem?_eq_getElem hl]
        simpa using h j _ e (List.getElem?_eq_getElem hl)
theorem freeB_no {l : List Mv} {k : Nat} : freeB l k = false ↔ ¬ FreeAt l k := by rw [← freeB_iff]; simp
/-- The first one whose "to" is no other one's "from". -/
def freeP (l : List Mv) : Option Nat := fstI (freeB l) l.length 0
theorem freeP_some {l : List Mv} {k : Nat} (h : FreeAt l k) (hb : ∀ j, j < k → ¬ FreeAt l j) : freeP l = some k := by
  obtain ⟨x, hx, _⟩ := id h
  have := (List.getElem?_eq_some_iff.1 hx).1
  exact fst_some (Nat.zero_le _) (by omega) (freeB_iff.2 h) fun j _ hj => freeB_no.2 (hb j hj)
theorem freeP_none {l : List Mv} (hb : ∀ j, j < l.length → ¬ FreeAt l j) : freeP l = none := fst_none fun j _ hj => freeB_no.2 (hb j (by omega))
theorem freeP_inv {l : List Mv} {k : Nat} (h : freeP l = some k) : FreeAt l k := freeB_iff.1 (fst_inv h).2.2.1
theorem freeP_inv_none {l : List Mv} (h : freeP l = none) (k : Nat) : ¬ FreeAt l k := by
  rintro hf
  obtain ⟨x, hx, _⟩ := id hf
  have := (List.getElem?_eq_some_iff.1 hx).1
  have := fst_inv_none h k (Nat.zero_le _) (by omega)
  rw [freeB_iff.2 hf] at this
  cases this
/-- As many of one kind as of the other. -/
theorem pig_le : ∀ {T F : List Int}, T.Nodup → (∀ x ∈ T, x ∈ F) → T.length ≤ F.length
  | [], F, _, _ => by simp
  | x :: t, F, hn, h => by
    rw [List.nodup_cons] at hn
    have hx := h x (by simp)
    have := pig_le (T := t) (F := F.erase x) hn.2 fun y hy => (List.mem_erase_of_ne (fun e => hn.1 (by rw [← e]; exact hy))).2 (h y (by simp [hy]))
    rw [List.length_erase_of_mem hx] at this
    have hp := List.length_pos_of_mem hx
    simp
    omega
theorem pig_eq : ∀ {T F : List Int}, T.Nodup → (∀ x ∈ T, x ∈ F) → F.length ≤ T.length → F.Nodup ∧ ∀ x ∈ F, x ∈ T
  | [], F, _, _, hl => by
    have : F = [] := List.eq_nil_of_length_eq_zero (by simpa using hl)
    subst this
    simp
  | x :: t, F, hn, h, hl => by
    rw [List.nodup_cons] at hn
    have hx := h x (by simp)
    have hp := List.length_pos_of_mem hx
    obtain ⟨h1, h2⟩ := pig_eq (T := t) (F := F.erase x) hn.2 (fun y hy => (List.mem_erase_of_ne (fun e => hn.1 (by rw [← e]; exact hy))).2 (h y (by simp [hy]))) (by
      rw [List.length_erase_of_mem hx]
      simp at hl
      omega)
    have hpe := List.perm_cons_erase hx
    refine ⟨hpe.nodup_iff.2 (List.nodup_cons.2 ⟨fun q => hn.1 (h2 x q), h1⟩), fun y hy => ?_⟩
    have := hpe.mem_iff.1 hy
    rcases List.mem_cons.1 this with rfl | q
    · simp
    · exact List.mem_cons_of_mem _ (h2 y q)
end Go.Proofs.Ytdnibhcpbdjhlaa
